/- Package blake's inner functions: a mixing of four words. -/
import Derived.Test.YtbehebnjbjkafaaDoorBlakeA
namespace Go.Proofs.YtbehebnjbjkafaaDoor
open Go.RowKit

theorem Mem.frame {bv bm : Nat} {M V : List Int} {w w' : World} (h : Mem bv bm M V w) (hf : Ext w w') : Mem bv bm M V w' :=
  ⟨hf.heap_some h.v (fun e => e), hf.heap_some h.m (fun e => e), h.lv, h.lm, h.rv, h.rm, h.ne⟩
theorem length_halfF (M V : List Int) (a b c d word : Nat) (lx rx ly ry : Int) : (halfF M V a b c d word lx rx ly ry).length = V.length := by simp [halfF]

set_option maxRecDepth 100000 in
set_option maxHeartbeats 4000000 in
theorem mix_any (bv bm : Nat) (M V : List Int) (a b c d : Nat) (at_ : Nat) (w : World)
    (hM : Mem bv bm M V w) (ha : a < 16) (hb : b < 16) (hc : c < 16) (hd : d < 16) (hw : at_ + 1 < 160) :
    Calls Tryd.prog 68 #[.int .i64 a, .int .i64 b, .int .i64 c, .int .i64 d, .int .i64 at_, .pointer (some ⟨bv, 0, none⟩), .pointer (some ⟨bm, 0, none⟩)] w
      fun e w' => e = .returned (.tuple #[]) ∧ Mem bv bm M (mixF M V a b c d at_) w' ∧ Fr (fun k => k = bv) w w' := by
  have hbv : bv < w.heap.size := (Array.getElem?_eq_some_iff.1 hM.v).1
  have hmf : ∀ (fn : Fn) (first cap : Array Value) (w : World), (Instr.makeFunc fn first cap).run Tryd.prog w = .ok (.func fn first cap) w := fun _ _ _ _ => rfl
  have hB : HB bv bm w.heap.size (w.heap.size + 1) (w.heap.size + 2) (w.heap.size + 3) M V a b c d
      ((((w.alloc (.cells #[.int .i64 a] 3)).alloc (.cells #[.int .i64 b] 3)).alloc (.cells #[.int .i64 c] 3)).alloc (.cells #[.int .i64 d] 3))
      ((((w.alloc (.cells #[.int .i64 a] 3)).alloc (.cells #[.int .i64 b] 3)).alloc (.cells #[.int .i64 c] 3)).alloc (.cells #[.int .i64 d] 3)) := by
    refine ⟨hM.frame ((((Fr.refl _ _).alloc _).alloc _).alloc _ |>.alloc _), ?_, ?_, ?_, ?_, by omega, by omega, by omega, by omega, Fr.refl _ _, rfl⟩
    all_goals simp [go_sem, World.cell?_alloc_at, World.cell?_alloc_past]
  have hfr : Ext w ((((w.alloc (.cells #[.int .i64 a] 3)).alloc (.cells #[.int .i64 b] 3)).alloc (.cells #[.int .i64 c] 3)).alloc (.cells #[.int .i64 d] 3)) := (((Fr.refl _ _).alloc _).alloc _ |>.alloc _ |>.alloc _)
  have h1 := half_step bv bm w.heap.size (w.heap.size + 1) (w.heap.size + 2) (w.heap.size + 3) M V a b c d at_ 16 12 65536 65536 1048576 4096 _ hB ha hb hc hd (by omega) (by omega) (by omega) (by omega) (by omega)
    (fun v W h0 h1 => (rot16_any v h0 h1 W).mono fun _ _ h => ⟨h.1, h.2.symm⟩) (fun v W h0 h1 => (rot12_any v h0 h1 W).mono fun _ _ h => ⟨h.1, h.2.symm⟩)
  clear hB
  replace h1 := Lib.hid h1
  replace hfr := Lib.hid hfr
  go_enter Tryd.func68, Tryd.ntmps68
  go_wp2_with fail
  refine h1.out.mono ?_
  rintro e w1 ⟨rfl, hB1⟩
  have hB1' : HB bv bm w.heap.size (w.heap.size + 1) (w.heap.size + 2) (w.heap.size + 3) M (halfF M V a b c d at_ 65536 65536 1048576 4096) a b c d w1 w1 :=
    ⟨hB1.mem, hB1.ca, hB1.cb, hB1.cc, hB1.cd, hB1.na, hB1.nb, hB1.nc, hB1.nd, Fr.refl _ _, rfl⟩
  have h2 := half_step bv bm w.heap.size (w.heap.size + 1) (w.heap.size + 2) (w.heap.size + 3) M _ a b c d (at_ + 1) 8 7 16777216 256 33554432 128 _ hB1' ha hb hc hd (by omega) (by omega) (by omega) (by omega) (by omega)
    (fun v W h0 h1 => (rot8_any v h0 h1 W).mono fun _ _ h => ⟨h.1, h.2.symm⟩) (fun v W h0 h1 => (rot7_any v h0 h1 W).mono fun _ _ h => ⟨h.1, h.2.symm⟩)
  rw [show ((at_ + 1 : Nat) : Int) = (at_ : Int) + 1 from by omega] at h2
  clear hB1'
  replace h2 := Lib.hid h2
  replace hB1 := Lib.hid hB1
  have hat : (at_ : Int) < 200 := by omega
  go_wp2_with fail
  refine h2.out.mono ?_
  rintro e w2 ⟨rfl, hB2⟩
  go_wp2_with fail
  go_end0
  refine ⟨rfl, hB2.mem, ?_⟩
  exact ((Fr.of_ext hfr.out).trans hB1.out.fr (fun _ _ e => e)).trans hB2.fr (fun _ _ e => e)
end Go.Proofs.YtbehebnjbjkafaaDoor
