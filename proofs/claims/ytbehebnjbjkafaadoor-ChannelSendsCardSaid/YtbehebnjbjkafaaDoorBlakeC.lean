/- Package blake's block: the compression of one block. -/
import Derived.Test.YtbehebnjbjkafaaDoorBlakeT
import Derived.Deep.Cut
namespace Go.Proofs.YtbehebnjbjkafaaDoor
open Go.RowKit

theorem run_index_byte (P : Program) (T E : TypeId) (l : List Int) (n : Nat) (hn : l.length = n) (hu : P.underlying T = some (.array n E)) (hE : P.underlying E = some (.int .u8)) (hs : (P.info? E).map (·.size) = some 1)
    (k : Nat) (hk : k < n) (w : World) :
    (Instr.index T (.agg (u8s l).toArray) (.int .i64 k)).run P w = .ok (.int .u8 (gt l k)) w := by
  have hc : (u8s l).toArray[k]? = some (.int .u8 (gt l k)) := by
    have : k < l.length := by omega
    simp [u8s, gt, this]
  have hki : (k : Int) < n := by omega
  simp only [List.getElem?_toArray] at hc
  cases hi : P.info? E with
  | none => simp [hi] at hs
  | some i =>
    have hs : i.size = 1 := by simpa [hi] using hs
    simp [Instr.index, asIntOf, run_underlying hu, hki, sizeOf, typeInfo, hi, hs, part, isAgg, run_underlying hE, hc]
    omega

theorem Mem.setm {bv bm : Nat} {M V : List Int} {w : World} (h : Mem bv bm M V w) (i : Nat) {x : Int} (hx : inW x) : Mem bv bm (M.set i x) V (w.setCell ⟨bm, i, none⟩ (.int .u32 x)) := by
  refine ⟨?_, ?_, h.lv, by rw [List.length_set]; exact h.lm, h.rv, h.rm.set i hx, h.ne⟩
  · rw [heap_setCell_other w _ bv _ h.ne]; exact h.v
  · rw [heap_setCell_same w bm i _ _ _ h.m]
    simp [u32s, List.map_set]
theorem Mem.fm {bv bm : Nat} {M V : List Int} {w : World} (h : Mem bv bm M V w) (i : Nat) : w.frozen? ⟨bm, i, none⟩ = false := frozen_of_row w bm i _ _ h.m

theorem Mem.setV {bv bm : Nat} {M V : List Int} {w : World} (h : Mem bv bm M V w) (V' : List Int) (cs : Array Value) (hcs : cs = u32s V') (hl : V'.length = 16) (hr : Rng V') : Mem bv bm M V' (w.setRow bv cs) := by
  refine ⟨?_, ?_, hl, h.lm, hr, h.rm, h.ne⟩
  · rw [setRow_heap w bv _ _ _ _ h.v, hcs]
  · rw [setRow_other _ _ _ _ (Ne.symm h.ne)]; exact h.m
theorem wrap_u32_in (x : Int) (h : 0 ≤ x ∧ x < 4294967296) : IntKind.u32.wrap x = x := by
  simp only [IntKind.wrap, IntKind.signed, IntKind.bits, Bool.false_and, Bool.false_eq_true, if_false]
  exact Int.emod_eq_of_lt h.1 h.2
theorem run_shl_u32 (P : Program) (x : Int) (f : Nat) (hf : f ≤ 32) (w : World) : (Op.shift BinOp.shl IntKind.u32 x IntKind.i64 (f : Int)).run P w = .ok (.int .u32 (x * 2 ^ f % 4294967296)) w := by
  have h0 : ¬ ((f : Int) < 0) := by omega
  have h1 : min f 32 = f := Nat.min_eq_left hf
  simp [Op.shift, h0, IntKind.bits, h1, IntKind.wrap, IntKind.signed]
theorem Rng_zero (n : Nat) : Rng (List.replicate n 0) := fun x hx => by rw [List.eq_of_mem_replicate hx]; decide

set_option maxRecDepth 100000 in
set_option maxHeartbeats 4000000 in
theorem block_any (b : Nat) (s : St) (last : Bool) (w : World) (hS : StAt b s w) (hR : Roots w) :
    Calls Tryd.prog 56 #[.pointer (some ⟨b, 0, none⟩), .bool last] w
      fun e w' => e = .returned (.tuple #[]) ∧ StAt b { s with h := blockF s last } w' ∧ Fr (fun k => k = b) w w' := by
  have hcb := hS.csb
  replace hcb := Lib.hid hcb
  have hM0 : Mem (w.heap.size + 1) w.heap.size (wordsTo s.b 0) (List.replicate 16 0) ((w.alloc (.cells (u32s (List.replicate 16 0)) 132)).alloc (.cells (u32s (List.replicate 16 0)) 132)) :=
    ⟨by have := heap_alloc2_new w (.cells (u32s (List.replicate 16 0)) 132) (.cells (u32s (List.replicate 16 0)) 132); exact this, heap_alloc2_old w _ _, rfl, rfl, Rng_zero 16, Rng_zero 16, by omega⟩
  replace hM0 := Lib.hid hM0
  have hidx : ∀ (k : Nat), k < 64 → ∀ w, (Instr.index 113 (.agg (u8s s.b).toArray) (.int .i64 k)).run Tryd.prog w = .ok (.int .u8 (gt s.b k)) w := fun k hk w =>
    run_index_byte Tryd.prog 113 5 s.b 64 hS.ok.lb Tryd.underlying113 Tryd.underlying5 (by kernel_rfl) k hk w
  have hbr := gtb_in hS.ok.rb
  replace hbr := Lib.hid hbr
  replace hidx := Lib.hid hidx
  go_enter Tryd.func56, Tryd.ntmps56
  go_wp2_with (refine wpList_load_cs rfl 113 _ rfl b 8 rfl (u8s s.b) (Cs.ext hcb.out (((Fr.refl _ _).alloc _).alloc _)) _ Tryd.underlying113 rfl 64 (by simp [u8s, hS.ok.lb]) (by kernel_rfl) ?_)
  generalize hW0 : World.alloc (World.alloc w _) _ = W0
  have hM : Mem (w.heap.size + 1) w.heap.size (wordsTo s.b 0) (List.replicate 16 0) W0 := by rw [← hW0]; exact hM0.out
  have hF : Ext w W0 := by rw [← hW0]; exact ((Fr.refl _ _).alloc _).alloc _
  clear hM0 hW0
  go_loopw [18] (fun i wr => ∃ k : Nat, k ≤ 64 ∧ i = .int .i64 k ∧ Mem (w.heap.size + 1) w.heap.size (wordsTo s.b k) (List.replicate 16 0) wr ∧ Ext w wr) (fun i _ => 64 - (intOf i).toNat)
  case atStart => exact ⟨0, by omega, rfl, hM, hF⟩
  case round =>
    clear hM hF
    obtain ⟨k, hk, rfl, hM, hF⟩ := hrel
    by_cases hlt : k < 64
    · have hi := hidx.out k hlt
      have hki : (k : Int) < 64 := by omega
      obtain ⟨q, hq⟩ : ∃ q, q = k / 4 := ⟨_, rfl⟩
      obtain ⟨f, hf⟩ : ∃ f, f = k % 4 * 8 := ⟨_, rfl⟩
      have hq16 : q < 16 := by omega
      have hqi : (q : Int) < 16 := by omega
      have hfi : (f : Int) < 32 := by omega
      have e1 : IntKind.i64.wrap ((k : Int) / 4) = (q : Int) := by rw [IntKind.wrap_i64]; omega
      have e2 : IntKind.i64.wrap ((k : Int).tmod 4 * 8) = (f : Int) := by rw [Int.tmod_eq_emod_of_nonneg (by omega), IntKind.wrap_i64]; omega
      have e3 : IntKind.u32.wrap (gt s.b k) = gt s.b k := by have := hbr.out k; exact wrap_u32_in _ (by omega)
      have e4 : ∀ W : World, (Op.shift BinOp.shl IntKind.u32 (gt s.b k) IntKind.i64 (f : Int)).run Tryd.prog W = .ok (.int .u32 (gt s.b k * 2 ^ f % 4294967296)) W := fun W => run_shl_u32 _ _ f (by omega) W
      have cm := hM.cm hq16
      have fm := hM.fm q
      have hbr1 := hbr.out k
      replace hq := Lib.hid hq
      replace hf := Lib.hid hf
      go_wp2_with fail
      go_still_tail 12, (by kernel_rfl)
      change wpList _ _ _ _ _ wr.drew
      go_wp2
      refine ⟨⟨k + 1, by omega, rfl, ?_, (hF.setCell (p := ⟨w.heap.size, q, none⟩) (fun h => absurd h (Nat.lt_irrefl _)) _).drew⟩, by simp [intOf]; omega⟩
      rw [wordsTo_succ, ← hq.out, ← hf.out]
      exact (hM.setm q (orW_in _ _)).drew
    · obtain rfl : k = 64 := by omega
      have hroot := hR.ext hF
      obtain ⟨T, fr, hroot⟩ := hroot
      have hcr : Cs wr 0 0 (rootsL.map (.int .u32)) := Cs.of_row_list hroot
      replace hcr := Lib.hid hcr
      go_wp2_with (first | refine wpList_load_cs rfl 112 _ rfl 0 0 rfl (rootsL.map (.int .u32)) hcr.out _ Tryd.underlying112 rfl 8 rfl (by kernel_rfl) ?_ | refine wpList_store_new rfl 112 _ _ rfl (rootsL.map (.int .u32)) _ _ _ rfl rfl rfl 8 rfl (by kernel_rfl) rfl (by decide) ?_)
      generalize hW1 : World.alloc wr _ = W1
      have hF1 : Ext w W1 := by rw [← hW1]; exact hF.alloc _
      have hM1 : Mem (w.heap.size + 1) w.heap.size (wordsTo s.b 64) (List.replicate 16 0) W1 := by rw [← hW1]; exact hM.frame ((Fr.refl _ _).alloc _)
      obtain ⟨gr, hgr⟩ : ∃ gr, gr = wr.heap.size := ⟨_, rfl⟩
      have hr1 : W1.heap[gr]? = some (.cells (u32s rootsL) 112 (0, 0)) := by rw [← hW1, hgr]; exact heap_alloc_new _ _
      have hgr1 : w.heap.size + 1 < gr := by rw [hgr]; exact (Array.getElem?_eq_some_iff.1 hM.v).1
      rw [← hgr]
      clear hW1 hcr hroot hM hF hlt hk
      replace hgr := Lib.hid hgr
      replace hr1 := Lib.hid hr1
      have hsh : Cs W1 b 0 (s.h.map (.int .u32)) := hS.csh.ext hF1
      replace hsh := Lib.hid hsh
      go_still_tail 5, (by kernel_rfl)
      change wpList _ _ _ _ _ W1.drew
      refine wpList_copy_own rfl (.tmp 36) (.tmp 40) 133 133 rfl 110 Tryd.underlying133 (by kernel_rfl) (w.heap.size + 1) 0 _ _ ⟨b, 0, none⟩ _ _ rfl rfl (u32s (List.replicate 16 0)) 132 hM1.v (s.h.map (.int .u32)) (by simp [hS.ok.lh]) (fun j v hv => by rw [addr_add]; exact hsh.out j v hv) (by simp [u32s, hS.ok.lh]) (by intro v hv; simp at hv; obtain ⟨x, _, rfl⟩ := hv; rfl) ?_
      generalize hW2 : World.setRow W1.drew _ _ = W2
      have hF2 : Ext w W2 := by rw [← hW2]; exact hF1.drew.setRow (fun h => absurd h (by omega)) _
      have hM2 : Mem (w.heap.size + 1) w.heap.size (wordsTo s.b 64) (s.h ++ List.replicate 8 0) W2 := by
        rw [← hW2]
        exact hM1.drew.setV (s.h ++ List.replicate 8 0) _ (by simp [u32s, hS.ok.lh]) (by simp [hS.ok.lh]) (fun x hx => by rcases List.mem_append.1 hx with h | h; exact hS.ok.rh x h; exact Rng_zero 8 x h)
      have hr2 : W2.heap[gr]? = some (.cells (u32s rootsL) 112 (0, 0)) := by rw [← hW2, setRow_other _ _ _ _ (by omega)]; exact hr1.out
      clear hW2 hM1 hF1 hsh hr1
      replace hr2 := Lib.hid hr2
      go_wp2_with fail
      go_still_tail 2, (by kernel_rfl)
      change wpList _ _ _ _ _ W2.drew
      refine wpList_copy_own rfl (.tmp 42) (.tmp 43) 133 133 rfl 110 Tryd.underlying133 (by kernel_rfl) (w.heap.size + 1) 8 _ _ ⟨gr, 0, none⟩ _ _ rfl rfl (u32s (s.h ++ List.replicate 8 0)) 132 hM2.v (rootsL.map (.int .u32)) rfl (fun j v hv => by rw [addr_add]; exact (Cs.of_row_list hr2.out) j v hv) (by simp [u32s, hS.ok.lh, rootsL]) (by decide) ?_
      generalize hW3 : World.setRow W2.drew _ _ = W3
      have hF3 : Ext w W3 := by rw [← hW3]; exact hF2.drew.setRow (fun h => absurd h (by omega)) _
      have hM3 : Mem (w.heap.size + 1) w.heap.size (wordsTo s.b 64) (s.h ++ rootsL) W3 := by
        rw [← hW3]
        refine hM2.drew.setV (s.h ++ rootsL) _ ?_ (by simp [hS.ok.lh, rootsL]) (fun x hx => by rcases List.mem_append.1 hx with h | h; exact hS.ok.rh x h; exact (by decide : ∀ x ∈ rootsL, 0 ≤ x ∧ x < 4294967296) x h)
        simp [u32s, hS.ok.lh, rootsL, List.take_append, List.drop_append]
      clear hW3 hM2 hF2 hr2 hgr hgr1
      have cd : W3.cell? ⟨b, 73, none⟩ = some (.int .u64 s.done) := hF3.cell hS.csd
      have cv := hM3.cv (i := 12) (by omega)
      have fv := hM3.fv 12
      go_wp2_with fail
      go_still_tail 9, (by kernel_rfl)
      change wpList _ _ _ _ _ W3.drew
      go_wp2_with fail
      generalize hW4 : World.drew (World.setCell _ _ _) = W4
      have hF4 : Ext w W4 := by rw [← hW4]; exact (hF3.setCell (p := ⟨w.heap.size + 1, 12, none⟩) (fun h => absurd h (by show ¬ w.heap.size + 1 < _; omega)) _).drew
      have hM4 : Mem (w.heap.size + 1) w.heap.size (wordsTo s.b 64) (init12 s) W4 := by rw [← hW4]; exact (hM3.set 12 (xorW_in _ _)).drew
      clear hW4 hM3 hF3 cd cv fv
      have cd : W4.cell? ⟨b, 73, none⟩ = some (.int .u64 s.done) := hF4.cell hS.csd
      have cv := hM4.cv (i := 13) (by omega)
      have fv := hM4.fv 13
      have d0 := hS.ok.d0
      have d1 := hS.ok.d1
      go_wp2_with fail
      go_still_tail 10, (by kernel_rfl)
      change wpList _ _ _ _ _ W4.drew
      have hnot : ∀ (x : Int) (W : World), (Op.unary .xor (.int .u32 x)).run Tryd.prog W = .ok (.int .u32 (xorW 4294967295 x)) W := fun _ _ => rfl
      have hmf : ∀ (fn : Fn) (first cap : Array Value) (w : World), (Instr.makeFunc fn first cap).run Tryd.prog w = .ok (.func fn first cap) w := fun _ _ _ _ => rfl
      have cv14 := hM4.cv (i := 14) (by omega)
      have fv14 := hM4.fv 14
      have g14 : gt (init12 s) 14 = gt (init13 s) 14 := by
        unfold init13 gt; simp [List.getD_eq_getElem?_getD]
      rw [g14] at cv14
      cases last
      · go_upto_region 13 with (fail)
        repeat (first | refine block_rounds b (w.heap.size + 1) w.heap.size (wordsTo s.b 64) (init14 s false) s _ w _ ?c1 ?c2 ?c3 ?c4 hS ?c5 _ _ _ _ _ _ _ _ _ _ _ _ _ _ _ _ _ _ _ _ _ _ _ _ _ _ _ _ _ _ _ _ _ _ _ _ _ _ _ _ _ _ _ _ _ _ _ _ _ _ _ _ _ _ _ _ _ _ _ _ _ _ _ _ _ _ _ _ _ _ _ _ _ _ _ _ _ _ _ _ _ _ _ _ _ _ _ _ _ _ _ _ _ _ _ _ _ _ _ _ _ _ _ _ _ _ _ _ _ _ _ _ _ _ _ _ _ _ _ _ _ _ _ _ _ _ _ _ _ _ _ _ _ _ _ | go_step)
        case c1 => exact (hM4.drew.set 13 (xorW_in _ _))
        case c2 => exact (hF4.drew.setCell (p := ⟨w.heap.size + 1, 13, none⟩) (fun h => absurd h (by show ¬ w.heap.size + 1 < _; omega)) _)
        case c3 => omega
        case c4 => exact Nat.le_refl _
        case c5 =>
          intro w' h1 h2
          exact ⟨rfl, h1, h2⟩
      · go_upto_region 13 with (fail)
        repeat (first | refine block_rounds b (w.heap.size + 1) w.heap.size (wordsTo s.b 64) (init14 s true) s _ w _ ?c1 ?c2 ?c3 ?c4 hS ?c5 _ _ _ _ _ _ _ _ _ _ _ _ _ _ _ _ _ _ _ _ _ _ _ _ _ _ _ _ _ _ _ _ _ _ _ _ _ _ _ _ _ _ _ _ _ _ _ _ _ _ _ _ _ _ _ _ _ _ _ _ _ _ _ _ _ _ _ _ _ _ _ _ _ _ _ _ _ _ _ _ _ _ _ _ _ _ _ _ _ _ _ _ _ _ _ _ _ _ _ _ _ _ _ _ _ _ _ _ _ _ _ _ _ _ _ _ _ _ _ _ _ _ _ _ _ _ _ _ _ _ _ _ _ _ _ | go_step)
        case c1 => exact ((hM4.drew.set 13 (xorW_in _ _)).set 14 (xorW_in _ _))
        case c2 => exact ((hF4.drew.setCell (p := ⟨w.heap.size + 1, 13, none⟩) (fun h => absurd h (by show ¬ w.heap.size + 1 < _; omega)) _).setCell (p := ⟨w.heap.size + 1, 14, none⟩) (fun h => absurd h (by show ¬ w.heap.size + 1 < _; omega)) _)
        case c3 => omega
        case c4 => exact Nat.le_refl _
        case c5 =>
          intro w' h1 h2
          exact ⟨rfl, h1, h2⟩
end Go.Proofs.YtbehebnjbjkafaaDoor
