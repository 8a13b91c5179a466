/- Package blake's block: the rounds, and what stands behind them. -/
import Derived.Test.YtbehebnjbjkafaaDoorBlakeB
namespace Go.Proofs.YtbehebnjbjkafaaDoor
open Go.RowKit

/-- The first region of a code. -/
def headRegion : Code → Option Nat
  | .region k _ _ => some k
  | .seq a _ => headRegion a
  | _ => none
/-- The part of a function's body from one region on. -/
def fromRegion (n : Nat) : Code → Option Code
  | .seq a b => if headRegion a = some n then some (.seq a b) else fromRegion n b
  | _ => none
/-- The beginning's words lie where the package has them. -/
def Roots (w : World) : Prop := ∃ T fr, w.heap[0]? = some (.cells (u32s rootsL) T fr)
theorem Roots.frame {F : Nat → Prop} {w w' : World} (h : Roots w) (hf : Fr F w w') (hF : ¬ F 0) : Roots w' := by
  obtain ⟨T, fr, h⟩ := h; exact ⟨T, fr, hf.heap_some h hF⟩
theorem Roots.ext {w w' : World} (h : Roots w) (hf : Ext w w') : Roots w' := h.frame hf (fun e => e)

def stCells (s : St) : List Value := s.h.map (.int .u32) ++ (u8s s.b ++ [.int .i64 s.n, .int .u64 s.done])
structure St.ok (s : St) : Prop where
  lh : s.h.length = 8
  rh : Rng s.h
  lb : s.b.length = 64
  rb : ∀ x ∈ s.b, 0 ≤ x ∧ x < 256
  n : s.n ≤ 64
  d0 : 0 ≤ s.done
  d1 : s.done < 18446744073709551616
/-- Block b is a state. -/
structure StAt (b : Nat) (s : St) (w : World) : Prop where
  row : w.heap[b]? = some (.cells (stCells s).toArray 115 (0, 0))
  ok : s.ok
  ng : b ≠ 0
theorem gtb_in {l : List Int} (h : ∀ x ∈ l, 0 ≤ x ∧ x < 256) (i : Nat) : 0 ≤ gt l i ∧ gt l i < 256 := by
  unfold gt
  rw [List.getD_eq_getElem?_getD]
  cases hi : l[i]? with
  | none => simp
  | some x => simpa using h x (List.mem_of_getElem? hi)
theorem StAt.csb {b : Nat} {s : St} {w : World} (h : StAt b s w) : Cs w b 8 (u8s s.b) := by
  have := (Cs.of_row_list h.row).right' (cs1 := s.h.map (.int .u32)) (n := 8) (by simp [h.ok.lh])
  simpa using this.left
theorem StAt.csh {b : Nat} {s : St} {w : World} (h : StAt b s w) : Cs w b 0 (s.h.map (.int .u32)) := (Cs.of_row_list h.row).left
theorem StAt.csn {b : Nat} {s : St} {w : World} (h : StAt b s w) : w.cell? ⟨b, 72, none⟩ = some (.int .i64 s.n) := by
  have := ((Cs.of_row_list h.row).right' (cs1 := s.h.map (.int .u32)) (n := 8) (by simp [h.ok.lh])).right' (cs1 := u8s s.b) (n := 64) (by simp [u8s, h.ok.lb])
  exact this.head
theorem StAt.csd {b : Nat} {s : St} {w : World} (h : StAt b s w) : w.cell? ⟨b, 73, none⟩ = some (.int .u64 s.done) := by
  have := ((Cs.of_row_list h.row).right' (cs1 := s.h.map (.int .u32)) (n := 8) (by simp [h.ok.lh])).right' (cs1 := u8s s.b) (n := 64) (by simp [u8s, h.ok.lb])
  exact this.tail.head
theorem StAt.frame {b : Nat} {s : St} {w w' : World} (h : StAt b s w) {F : Nat → Prop} (hf : Fr F w w') (hF : ¬ F b) : StAt b s w' := ⟨hf.heap_some h.row hF, h.ok, h.ng⟩
theorem StAt.seth {b : Nat} {s : St} {w : World} (h : StAt b s w) (i : Nat) (hi : i < 8) {x : Int} (hx : inW x) : StAt b { s with h := s.h.set i x } (w.setCell ⟨b, i, none⟩ (.int .u32 x)) := by
  refine ⟨?_, ⟨by simp [h.ok.lh], h.ok.rh.set i hx, h.ok.lb, h.ok.rb, h.ok.n, h.ok.d0, h.ok.d1⟩, h.ng⟩
  rw [heap_setCell_same w b i _ _ _ h.row]
  have : i < (s.h.map (Value.int .u32)).length := by simp [h.ok.lh, hi]
  simp only [stCells, List.setIfInBounds_toArray, List.set_append_left _ _ this, List.map_set]
theorem StAt.ch {b : Nat} {s : St} {w : World} (h : StAt b s w) {i : Nat} (hi : i < 8) : w.cell? ⟨b, i, none⟩ = some (.int .u32 (gt s.h i)) := by
  have := h.csh i (.int .u32 (gt s.h i)) (by have : i < s.h.length := by rw [h.ok.lh]; exact hi
                                             simp [gt, this])
  simpa using this
theorem StAt.fr {b : Nat} {s : St} {w : World} (h : StAt b s w) (i : Nat) : w.frozen? ⟨b, i, none⟩ = false := frozen_of_row w b i _ _ h.row
theorem Mem.setOther {bv bm : Nat} {M V : List Int} {w : World} (h : Mem bv bm M V w) {k : Nat} (h1 : k ≠ bv) (h2 : k ≠ bm) (i : Nat) (x : Value) : Mem bv bm M V (w.setCell ⟨k, i, none⟩ x) :=
  ⟨by rw [heap_setCell_other w _ bv _ (Ne.symm h1)]; exact h.v, by rw [heap_setCell_other w _ bm _ (Ne.symm h2)]; exact h.m, h.lv, h.lm, h.rv, h.rm, h.ne⟩
theorem length_finTo (h V : List Int) (k : Nat) : (finTo h V k).length = h.length := by
  induction k with
  | zero => rfl
  | succ k ih => rw [finTo_succ, List.length_set, ih]

noncomputable def blockTail : Code := ((Tryd.f56.body.bind (fromRegion 14)).getD .skip)

set_option maxRecDepth 100000 in
set_option maxHeartbeats 2000000 in
theorem block_rounds (b v m : Nat) (M V0 : List Int) (s : St) (R : Ending → World → Prop) (w W : World) (hM : Mem v m M V0 W) (hF : Ext w W) (hv : w.heap.size ≤ v) (hm : w.heap.size ≤ m) (hS : StAt b s w)
    (hR : ∀ w', StAt b { s with h := finTo s.h (roundsTo M V0 10) 8 } w' → Fr (fun k => k = b) w w' → R (.returned (.tuple #[])) w')
    (u1 u2 u3 u6 u7 u8 u10 u11 u12 u13 u14 u15 u16 u17 u18 u19 u20 u21 u22 u23 u24 u25 u26 u27 u28 u29 u30 u31 u32 u33 u34 u35 u36 u37 u38 u39 u40 u41 u42 u43 u44 u45 u46 u47 u48 u49 u50 u51 u52 u53 u54 u55 u56 u57 u58 u59 u60 u61 u62 u63 u64 u65 u66 u67 u68 u69 u70 u71 u72 u73 u74 u75 u76 u77 u78 u79 u80 u81 u82 u83 u84 u85 u86 u87 u88 u89 u90 u91 u92 u93 u94 u95 u96 u97 u98 u99 u100 u101 u102 u103 u104 u105 u106 u107 u108 u109 u110 u111 u112 u113 u114 u115 u116 u117 u118 u119 u120 u121 u122 u123 u124 u125 u126 u127 u128 u129 u130 u131 u132 u133 u134 u135 u136 u137 u138 : Value) :
    Code.wp Tryd.prog blockTail (bodyPost Tryd.prog Tryd.f56 R) { tmps := List.toArray (.pointer (some ⟨b, 0, none⟩) :: u1 :: u2 :: u3 :: .pointer (some ⟨m, 0, none⟩) :: .pointer (some ⟨v, 0, none⟩) :: u6 :: u7 :: u8 :: .func (.func 68) #[] #[.pointer (some ⟨v, 0, none⟩), .pointer (some ⟨m, 0, none⟩)] :: u10 :: u11 :: u12 :: u13 :: u14 :: u15 :: u16 :: u17 :: u18 :: u19 :: u20 :: u21 :: u22 :: u23 :: u24 :: u25 :: u26 :: u27 :: u28 :: u29 :: u30 :: u31 :: u32 :: u33 :: u34 :: u35 :: u36 :: u37 :: u38 :: u39 :: u40 :: u41 :: u42 :: u43 :: u44 :: u45 :: u46 :: u47 :: u48 :: u49 :: u50 :: u51 :: u52 :: u53 :: u54 :: u55 :: u56 :: u57 :: u58 :: u59 :: u60 :: u61 :: u62 :: u63 :: u64 :: u65 :: u66 :: u67 :: u68 :: u69 :: u70 :: u71 :: u72 :: u73 :: u74 :: u75 :: u76 :: u77 :: u78 :: u79 :: u80 :: u81 :: u82 :: u83 :: u84 :: u85 :: u86 :: u87 :: u88 :: u89 :: u90 :: u91 :: u92 :: u93 :: u94 :: u95 :: u96 :: u97 :: u98 :: u99 :: u100 :: u101 :: u102 :: u103 :: u104 :: u105 :: u106 :: u107 :: u108 :: u109 :: u110 :: u111 :: u112 :: u113 :: u114 :: u115 :: u116 :: u117 :: u118 :: u119 :: u120 :: u121 :: u122 :: u123 :: u124 :: u125 :: u126 :: u127 :: u128 :: u129 :: u130 :: u131 :: u132 :: u133 :: u134 :: u135 :: u136 :: u137 :: u138 :: []), defers := [] } W := by
  conv => arg 2; whnf
  go_wp2_with fail
  go_loopw [70] (fun i wr => ∃ k : Nat, k ≤ 10 ∧ i = .int .i64 k ∧ Mem v m M (roundsTo M V0 k) wr ∧ Ext w wr) (fun i _ => 10 - (intOf i).toNat)
  case atStart => exact ⟨0, by omega, rfl, by rw [roundsTo_zero]; exact hM, hF⟩
  case round =>
    clear hM hF
    obtain ⟨r, hr, rfl, hM, hF⟩ := hrel
    by_cases hlt : r < 10
    · have hri : (r : Int) < 10 := by omega
      go_wp2_with fail
      obtain ⟨wo, rfl⟩ : ∃ wo : World, wo = wr := ⟨_, rfl⟩
      go_loopw [73] (fun i wr => ∃ k : Nat, k ≤ 4 ∧ i = .int .i64 k ∧ Mem v m M (colTo M (roundsTo M V0 r) r k) wr ∧ Ext w wr) (fun i _ => 4 - (intOf i).toNat)
      case atStart => exact ⟨0, by omega, rfl, by rw [colTo_zero]; exact hM, hF⟩
      case round =>
        clear hM hF
        obtain ⟨k, hk, rfl, hM, hF⟩ := hrel
        by_cases hlt2 : k < 4
        · have hki : (k : Int) < 4 := by omega
          have hc := mix_any v m M _ k (4 + k) (8 + k) (12 + k) (16 * r + 2 * k) wr hM (by omega) (by omega) (by omega) (by omega) (by omega)
          simp only [Int.natCast_add, Int.natCast_mul, Int.cast_ofNat_Int] at hc
          replace hc := Lib.hid hc
          go_wp2_with fail
          refine hc.out.mono ?_
          rintro e w2 ⟨rfl, hM2, hF2⟩
          go_wp2_with fail
          refine ⟨⟨k + 1, by omega, rfl, by rw [colTo_succ]; exact hM2, hF.trans hF2 (fun k hk e => absurd hk (by omega))⟩, by simp [intOf]; omega⟩
        · obtain rfl : k = 4 := by omega
          go_wp2_with fail
          obtain ⟨wo2, rfl⟩ : ∃ wo : World, wo = wr := ⟨_, rfl⟩
          go_loopw [91] (fun i wr => ∃ k : Nat, k ≤ 4 ∧ i = .int .i64 k ∧ Mem v m M (diaTo M (colTo M (roundsTo M V0 r) r 4) r k) wr ∧ Ext w wr) (fun i _ => 4 - (intOf i).toNat)
          case atStart => exact ⟨0, by omega, rfl, by rw [diaTo_zero]; exact hM, hF⟩
          case round =>
            clear hM hF
            obtain ⟨k, hk, rfl, hM, hF⟩ := hrel
            by_cases hlt3 : k < 4
            · have hki : (k : Int) < 4 := by omega
              have hc := mix_any v m M _ k (4 + (k + 1) % 4) (8 + (k + 2) % 4) (12 + (k + 3) % 4) (16 * r + 8 + 2 * k) wr hM (by omega) (by omega) (by omega) (by omega) (by omega)
              simp only [Int.natCast_add, Int.natCast_mul, Int.natCast_emod, Int.cast_ofNat_Int] at hc
              replace hc := Lib.hid hc
              go_wp2_with fail
              refine hc.out.mono ?_
              rintro e w2 ⟨rfl, hM2, hF2⟩
              go_wp2_with fail
              go_roundw
              case rel => (repeat apply Exists.intro); exact ⟨⟨k + 1, by omega, rfl, by rw [diaTo_succ]; exact hM2, hF.trans hF2 (fun k hk e => absurd hk (by omega))⟩, rfl⟩
              case measure => simp [intOf]; omega
            · obtain rfl : k = 4 := by omega
              go_wp2_with fail
              refine ⟨⟨r + 1, by omega, rfl, by rw [roundsTo_succ]; exact hM, hF⟩, by simp [intOf]; omega⟩
    · obtain rfl : r = 10 := by omega
      have hS1 := hS.frame hF (fun e => e)
      replace hR := Lib.hid hR
      have hbv : b < w.heap.size := (Array.getElem?_eq_some_iff.1 hS.row).1
      clear hS
      go_wp2_with fail
      go_loopw [117] (fun i wr => ∃ k : Nat, k ≤ 8 ∧ i = .int .i64 k ∧ Mem v m M (roundsTo M V0 10) wr ∧ StAt b { s with h := finTo s.h (roundsTo M V0 10) k } wr ∧ Fr (fun k => k = b) w wr) (fun i _ => 8 - (intOf i).toNat)
      case atStart => exact ⟨0, by omega, rfl, hM, by rw [finTo_zero]; exact hS1, Fr.of_ext hF⟩
      case round =>
        clear hM hF hS1
        obtain ⟨k, hk, rfl, hM, hS, hF⟩ := hrel
        by_cases hlt4 : k < 8
        · have hki : (k : Int) < 8 := by omega
          have hki2 : (k : Int) < 16 := by omega
          have c1 := hS.ch hlt4
          have c2 := hM.cv (i := k) (by omega)
          have c3 := hM.cv (i := k + 8) (by omega)
          have f1 := hS.fr k
          have e1 : IntKind.i64.wrap ((k : Int) + 8) = ((k + 8 : Nat) : Int) := by rw [IntKind.wrap_i64]; omega
          have e2 : ((k + 8 : Nat) : Int) < 16 := by omega
          obtain ⟨k8, hk8⟩ : ∃ k8, k8 = k + 8 := ⟨_, rfl⟩
          rw [← hk8] at e1 e2 c3
          replace hk8 := Lib.hid hk8
          go_wp2_with fail
          go_still_tail 18, (by kernel_rfl)
          change wpList _ _ _ _ _ wr.drew
          go_wp2_with fail
          go_roundw
          case rel =>
            (repeat apply Exists.intro)
            refine ⟨⟨k + 1, by omega, rfl, (hM.setOther (by omega) (by omega) _ _).drew, ?_, (hF.setCell (p := ⟨b, k, none⟩) (fun _ => rfl) _).drew⟩, rfl⟩
            rw [finTo_succ, ← hk8.out]
            have h := hS.seth k (by omega) (xorW_in (gt (finTo s.h (roundsTo M V0 10) k) k) (xorW (gt (roundsTo M V0 10) k) (gt (roundsTo M V0 10) k8)))
            exact ⟨h.row, h.ok, h.ng⟩
          case measure => simp [intOf]; omega
        · obtain rfl : k = 8 := by omega
          go_wp2_with fail
          go_end0
          exact hR.out _ hS hF
end Go.Proofs.YtbehebnjbjkafaaDoor
