/- Package blake: the digest of a state. -/
import Derived.Test.YtbehebnjbjkafaaDoorBlakeE
namespace Go.Proofs.YtbehebnjbjkafaaDoor
open Go.RowKit

set_option maxRecDepth 100000 in
set_option maxHeartbeats 4000000 in
theorem stateSum_small (b : Nat) (s : St) (hn1 : s.n < 64) (w : World) (hS : StAt b s w) (hR : Roots w) :
    Calls Tryd.prog 34 #[.pointer (some ⟨b, 0, none⟩)] w
      fun e w' => e = .returned (.agg (u8s (sumF s)).toArray) ∧ Ext w w' := by
  have hni1 : (s.n : Int) < 64 := by omega
  have hcs := hS.cs
  replace hcs := Lib.hid hcs
  go_enter Tryd.func34, Tryd.ntmps34
  go_upto_region 4 with (first | refine wpList_load_cs rfl 115 _ rfl b 0 rfl (stCells s) (Cs.ext hcs.out ((Fr.refl _ _).alloc _)) _ Tryd.underlying115 rfl 74 (length_stCells hS.ok) (by kernel_rfl) ?_ | refine wpList_store_new rfl 115 _ _ rfl (stCells s) _ _ _ rfl (by simp) rfl 74 (length_stCells hS.ok) (by kernel_rfl) rfl (stCells_one s) ?_)
  generalize hW1 : World.alloc (World.alloc w _) _ = W1
  obtain ⟨b1, hb1⟩ : ∃ b1, b1 = w.heap.size + 1 := ⟨_, rfl⟩
  have hS1 : StAt b1 s W1 := by
    rw [← hW1, hb1]
    refine ⟨?_, hS.ok, ?_⟩
    · exact heap_alloc2_new w _ _
    · obtain ⟨T, fr, hroot⟩ := hR
      have := (Array.getElem?_eq_some_iff.1 hroot).1; omega
  have hF1 : Ext w W1 := by rw [← hW1]; exact ((Fr.refl _ _).alloc _).alloc _
  have hR1 := hR.ext hF1
  obtain ⟨hcell, hcs2⟩ : W1.heap[w.heap.size]? = some (.cells (u8s (List.replicate 32 0)).toArray 41 (0, 0)) ∧ b1 < W1.heap.size := by
    rw [← hW1]; exact ⟨heap_alloc2_old w _ _, by simp [hb1]⟩
  clear hW1 hcs
  rw [← hb1]
  replace hb1 := Lib.hid hb1
  replace hcell := Lib.hid hcell
  have cd := hS1.csd
  have cn := hS1.csn
  have fr := hS1.fr
  have d0 := hS.ok.d0
  have d1 := hS.ok.d1
  have nn := hS.ok.n
  go_upto_region 5 with fail
  generalize hW2 : World.setCell W1 _ _ = W2
  have hS2 : StAt b1 { s with done := (s.done + s.n) % 18446744073709551616 } W2 := by
    rw [← hW2]; exact hS1.setd (Int.emod_nonneg _ (by decide)) (Int.emod_lt_of_pos _ (by decide))
  have hF2 : Fr (fun k => k = b1) W1 W2 := by rw [← hW2]; exact (Fr.refl (fun k => k = b1) _).setCell (p := ⟨b1, 73, none⟩) (fun _ => rfl) _
  clear hW2 cd cn fr d0 d1 hS1
  have cn : W2.cell? ⟨b1, 72, none⟩ = some (.int .i64 s.n) := hS2.csn
  have hrow := hS2.row
  have hz : ∀ W : World, (zeroValue 5).run Tryd.prog W = .ok (.int .u8 0) W := fun W => by kernel_rfl
  have hclr : StAt b1 { s with done := (s.done + s.n) % 18446744073709551616, b := s.b.take s.n ++ List.replicate (64 - s.n) 0 } (W2.setRow b1 ((stCells { s with done := (s.done + s.n) % 18446744073709551616 }).take (8 + s.n) ++ List.replicate (64 - s.n) (Value.int .u8 0) ++ (stCells { s with done := (s.done + s.n) % 18446744073709551616 }).drop (8 + s.n + (64 - s.n))).toArray) := by
    refine ⟨?_, clear_ok hS2.ok, hS2.ng⟩
    rw [setRow_heap W2 b1 _ _ _ _ hS2.row]
    exact congrArg (fun l : List Value => some (Obj.cells l.toArray 115 (0, 0))) (clear_row hS2.ok)
  generalize hW3 : World.setRow W2 b1 _ = W3 at hclr
  have hF3 : Fr (fun k => k = b1) W1 W3 := by rw [← hW3]; exact hF2.setRow (fun _ => rfl) _
  have hlen := length_stCells hS2.ok
  have hfit : 8 + s.n + (64 - s.n) ≤ (stCells { s with done := (s.done + s.n) % 18446744073709551616 }).toArray.size := by rw [List.size_toArray, hlen]; omega
  have hrun := run_clear_row (P := Tryd.prog) (w := W2) 51 0 5 Tryd.underlying51 _ hz rfl b1 (8 + s.n) (64 - s.n) (64 - s.n) _ _ hrow hfit
  rw [hW3] at hrun
  clear hfit
  have hni : (s.n : Int) ≤ 64 := by omega
  clear hW3 hrow hlen hz hS2 hF2
  have hblk := block_any b1 _ true W3 hclr (hR1.frame hF3 (fun e => hclr.ng e.symm))
  clear hclr
  replace hblk := Lib.hid hblk
  go_upto_region 6 with fail
  clear hrun cn
  try clear hsl
  go_wp2_with fail
  refine hblk.out.mono ?_
  rintro e w4 ⟨rfl, hS4, hF4⟩
  have hFw : Fr (fun k => k = b1) W1 w4 := hF3.trans hF4 (fun _ _ e => e)
  have hbw : b1 < w4.heap.size := (Array.getElem?_eq_some_iff.1 hS4.row).1
  clear hblk hF3 hF4
  go_upto_region 8 with fail
  generalize hW5 : World.alloc w4 _ = W5
  obtain ⟨bo, hbo⟩ : ∃ bo, bo = w4.heap.size := ⟨_, rfl⟩
  have hFw0 : Ext w w4 := (hF1.trans hFw (fun k hk e => absurd hk (by have := hb1.out; omega)))
  have hF5 : Ext w W5 := by rw [← hW5]; exact hFw0.alloc _
  have ho5 : W5.heap[bo]? = some (.cells (u8s (sumTo (blockF (TT s) true) 0)).toArray 41 (0, 0)) := by rw [← hW5, hbo]; exact heap_alloc_new _ _
  have hS5 : StAt b1 { TT s with h := blockF (TT s) true } W5 := by rw [← hW5]; exact hS4.frame ((Fr.refl (fun _ => False) _).alloc _) (fun e => e)
  have hcb : w.heap.size < b1 := by rw [hb1.out]; omega
  have hr5 : W5.heap[w.heap.size]? = some (.cells (u8s (List.replicate 32 0)).toArray 41 (0, 0)) := by
    rw [← hW5]; exact ((Fr.refl (fun _ => False) _).alloc _).heap_some (hFw.heap_some hcell.out (by omega)) (fun e => e)
  have hbo1 : b1 < bo := by rw [hbo]; exact hbw
  rw [← hbo]
  clear hW5 hbo hFw hFw0 hF1 hbw hS4 hR1 hcell hcs2 hb1
  go_wp2_with fail
  go_loopw [24] (fun i wr => ∃ k : Nat, k ≤ 32 ∧ i = .int .i64 k ∧ wr.heap[bo]? = some (.cells (u8s (sumTo (blockF (TT s) true) k)).toArray 41 (0, 0)) ∧ StAt b1 { TT s with h := blockF (TT s) true } wr ∧ wr.heap[w.heap.size]? = some (.cells (u8s (List.replicate 32 0)).toArray 41 (0, 0)) ∧ Ext w wr) (fun i _ => 32 - (intOf i).toNat)
  case atStart => exact ⟨0, by omega, rfl, ho5, hS5, hr5, hF5⟩
  case round =>
    clear ho5 hS5 hr5 hF5
    obtain ⟨k, hk, rfl, ho, hS, hr, hF⟩ := hrel
    by_cases hlt : k < 32
    · obtain ⟨q, hq⟩ : ∃ q, q = k / 4 := ⟨_, rfl⟩
      obtain ⟨f, hf⟩ : ∃ f, f = k % 4 * 8 := ⟨_, rfl⟩
      have hki : (k : Int) < 32 := by omega
      have hq8 : q < 8 := by omega
      have hqi : (q : Int) < 8 := by omega
      have e1 : IntKind.i64.wrap ((k : Int) / 4) = (q : Int) := by rw [IntKind.wrap_i64]; omega
      have e1' : (k : Int) / 4 = (q : Int) := by omega
      have e2 : (k : Int) % 4 * 8 = (f : Int) := by omega
      have hx := hS.ok.rh.gt q
      have e4 : ∀ W : World, (Op.shift BinOp.shr IntKind.u32 (gt (blockF (TT s) true) q) IntKind.i64 (f : Int)).run Tryd.prog W = .ok (.int .u32 (gt (blockF (TT s) true) q / 2 ^ f)) W := fun W => run_shr_u32 _ _ f (by omega) W
      have cq := hS.ch hq8
      have hlen : (sumTo (blockF (TT s) true) k).length = 32 := length_sumTo _ _ (by omega)
      have co : wr.cell? ⟨bo, k, none⟩ = some (.int .u8 (gt (sumTo (blockF (TT s) true) k) k)) := by
        rw [cell_of_row wr bo k _ _ _ ho]; simp [u8s, gt, hlen, hlt]
      have fo := frozen_of_row wr bo k _ _ ho
      replace ho := Lib.hid ho
      replace hr := Lib.hid hr
      replace hlen := Lib.hid hlen
      replace hq := Lib.hid hq
      replace hf := Lib.hid hf
      go_wp2_with fail
      refine ⟨⟨k + 1, by omega, rfl, ?_, ?_, ?_, ?_⟩, by simp [intOf]; omega⟩
      · rw [heap_setCell_same wr bo k _ _ _ ho.out, sumTo_succ _ _ hlt, ← hq.out, ← hf.out]
        simp [u8s, List.map_set]
      · exact hS.frame ((Fr.refl (fun k => k = bo) _).setCell (p := ⟨bo, k, none⟩) (fun _ => rfl) _) (by omega)
      · rw [heap_setCell_other wr _ _ _ (by show w.heap.size ≠ bo; omega)]; exact hr.out
      · exact hF.setCell (p := ⟨bo, k, none⟩) (fun h => absurd h (by show ¬ bo < _; omega)) _
    · obtain rfl : k = 32 := by omega
      have hso : sumTo (blockF (TT s) true) 32 = sumF s := sumTo_all s
      rw [hso] at ho
      have hl32 : (u8s (sumF s)).length = 32 := by rw [← hso]; simp [u8s, length_sumTo]
      have hcs6 : Cs wr bo 0 (u8s (sumF s)) := Cs.of_row_list ho
      have h1c : ∀ v ∈ u8s (sumF s), v.oneCell' = true := u8s_one _
      replace hcs6 := Lib.hid hcs6
      replace hr := Lib.hid hr
      replace ho := Lib.hid ho
      replace hl32 := Lib.hid hl32
      replace h1c := Lib.hid h1c
      replace hso := Lib.hid hso
      go_wp2_with (first | refine wpList_load_cs rfl 41 _ rfl bo 0 rfl (u8s (sumF s)) hcs6.out _ Tryd.underlying41 rfl 32 hl32.out (by kernel_rfl) ?_ | refine wpList_store_cs rfl 41 _ _ rfl w.heap.size 0 rfl (u8s (sumF s)) rfl 32 hl32.out (by kernel_rfl) h1c.out _ _ hr.out (by rw [hl32.out]; simp [u8s]) ?_)
      generalize hW6 : World.setRow wr w.heap.size _ = W6
      have hrow6 : W6.heap[w.heap.size]? = some (.cells (u8s (sumF s)).toArray 41 (0, 0)) := by
        rw [← hW6, setRow_heap wr _ _ _ _ _ hr.out]
        rw [List.drop_of_length_le (by rw [hl32.out]; exact Nat.le_refl 32), List.append_nil]
      have hF6 : Ext w W6 := by rw [← hW6]; exact hF.setRow (fun h => absurd h (Nat.lt_irrefl _)) _
      clear hW6
      refine bodyPost_ret (v := .agg (u8s (sumF s)).toArray) (results_cell_row rfl _ _ w.heap.size 41 (u8s (sumF s)).toArray (0, 0) _ rfl hrow6 Tryd.underlying41 rfl (by rw [List.size_toArray, hl32.out]; kernel_rfl)) rfl ⟨rfl, hF6⟩

set_option maxRecDepth 100000 in
set_option maxHeartbeats 4000000 in
theorem stateSum_full (b : Nat) (hh bb : List Int) (dd : Int) (s : St) (hs : s = ⟨hh, bb, 64, dd⟩) (w : World) (hS : StAt b s w) (hR : Roots w) :
    Calls Tryd.prog 34 #[.pointer (some ⟨b, 0, none⟩)] w
      fun e w' => e = .returned (.agg (u8s (sumF s)).toArray) ∧ Ext w w' := by
  have hn1 : s.n = 64 := by rw [hs]
  replace hn1 := Lib.hid hn1
  clear hs
  have hcs := hS.cs
  replace hcs := Lib.hid hcs
  go_enter Tryd.func34, Tryd.ntmps34
  go_upto_region 4 with (first | refine wpList_load_cs rfl 115 _ rfl b 0 rfl (stCells s) (Cs.ext hcs.out ((Fr.refl _ _).alloc _)) _ Tryd.underlying115 rfl 74 (length_stCells hS.ok) (by kernel_rfl) ?_ | refine wpList_store_new rfl 115 _ _ rfl (stCells s) _ _ _ rfl (by simp) rfl 74 (length_stCells hS.ok) (by kernel_rfl) rfl (stCells_one s) ?_)
  generalize hW1 : World.alloc (World.alloc w _) _ = W1
  obtain ⟨b1, hb1⟩ : ∃ b1, b1 = w.heap.size + 1 := ⟨_, rfl⟩
  have hS1 : StAt b1 s W1 := by
    rw [← hW1, hb1]
    refine ⟨?_, hS.ok, ?_⟩
    · exact heap_alloc2_new w _ _
    · obtain ⟨T, fr, hroot⟩ := hR
      have := (Array.getElem?_eq_some_iff.1 hroot).1; omega
  have hF1 : Ext w W1 := by rw [← hW1]; exact ((Fr.refl _ _).alloc _).alloc _
  have hR1 := hR.ext hF1
  obtain ⟨hcell, hcs2⟩ : W1.heap[w.heap.size]? = some (.cells (u8s (List.replicate 32 0)).toArray 41 (0, 0)) ∧ b1 < W1.heap.size := by
    rw [← hW1]; exact ⟨heap_alloc2_old w _ _, by simp [hb1]⟩
  clear hW1 hcs
  rw [← hb1]
  replace hb1 := Lib.hid hb1
  replace hcell := Lib.hid hcell
  have cd := hS1.csd
  have cn := hS1.csn
  have fr := hS1.fr
  have d0 := hS.ok.d0
  have d1 := hS.ok.d1
  have nn := hS.ok.n
  go_upto_region 5 with fail
  generalize hW2 : World.setCell W1 _ _ = W2
  have hS2 : StAt b1 { s with done := (s.done + s.n) % 18446744073709551616 } W2 := by
    rw [← hW2]; exact hS1.setd (Int.emod_nonneg _ (by decide)) (Int.emod_lt_of_pos _ (by decide))
  have hF2 : Fr (fun k => k = b1) W1 W2 := by rw [← hW2]; exact (Fr.refl (fun k => k = b1) _).setCell (p := ⟨b1, 73, none⟩) (fun _ => rfl) _
  clear hW2 cd cn fr d0 d1 hS1
  have cn : W2.cell? ⟨b1, 72, none⟩ = some (.int .i64 s.n) := hS2.csn
  have hrow := hS2.row
  have hz : ∀ W : World, (zeroValue 5).run Tryd.prog W = .ok (.int .u8 0) W := fun W => by kernel_rfl
  have hclr : StAt b1 { s with done := (s.done + s.n) % 18446744073709551616, b := s.b.take s.n ++ List.replicate (64 - s.n) 0 } (W2.setRow b1 ((stCells { s with done := (s.done + s.n) % 18446744073709551616 }).take (8 + s.n) ++ List.replicate (64 - s.n) (Value.int .u8 0) ++ (stCells { s with done := (s.done + s.n) % 18446744073709551616 }).drop (8 + s.n + (64 - s.n))).toArray) := by
    refine ⟨?_, clear_ok hS2.ok, hS2.ng⟩
    rw [setRow_heap W2 b1 _ _ _ _ hS2.row]
    exact congrArg (fun l : List Value => some (Obj.cells l.toArray 115 (0, 0))) (clear_row hS2.ok)
  generalize hW3 : World.setRow W2 b1 _ = W3 at hclr
  have hF3 : Fr (fun k => k = b1) W1 W3 := by rw [← hW3]; exact hF2.setRow (fun _ => rfl) _
  have hlen := length_stCells hS2.ok
  have hrun : (Builtin.clear_ #[51] 0 #[.slice (some ⟨b1, 8, none⟩) 0 0]).run Tryd.prog W2 = .ok (.tuple #[]) W3 := by
    have h0 := run_clear_row (P := Tryd.prog) (w := W2) 51 0 5 Tryd.underlying51 _ hz rfl b1 8 0 0 _ _ hrow (by rw [List.size_toArray, hlen]; omega)
    rw [h0, ← hW3, hn1.out]
    congr 2
    simp
  have hsl : (Instr.sliceAt 113 (Value.pointer (some ⟨b1, 8, none⟩)) (some (.int .i64 (s.n : Int))) none none).run Tryd.prog W2 = .ok (.slice (some ⟨b1, 8, none⟩) 0 0) W2 := by
    rw [hn1.out]; kernel_rfl
  have hni : (s.n : Int) ≤ 64 := by omega
  clear hW3 hrow hlen hz hS2 hF2
  have hblk := block_any b1 _ true W3 hclr (hR1.frame hF3 (fun e => hclr.ng e.symm))
  clear hclr
  replace hblk := Lib.hid hblk
  go_upto_region 6 with fail
  clear hrun cn
  try clear hsl
  go_wp2_with fail
  refine hblk.out.mono ?_
  rintro e w4 ⟨rfl, hS4, hF4⟩
  have hFw : Fr (fun k => k = b1) W1 w4 := hF3.trans hF4 (fun _ _ e => e)
  have hbw : b1 < w4.heap.size := (Array.getElem?_eq_some_iff.1 hS4.row).1
  clear hblk hF3 hF4
  go_upto_region 8 with fail
  generalize hW5 : World.alloc w4 _ = W5
  obtain ⟨bo, hbo⟩ : ∃ bo, bo = w4.heap.size := ⟨_, rfl⟩
  have hFw0 : Ext w w4 := (hF1.trans hFw (fun k hk e => absurd hk (by have := hb1.out; omega)))
  have hF5 : Ext w W5 := by rw [← hW5]; exact hFw0.alloc _
  have ho5 : W5.heap[bo]? = some (.cells (u8s (sumTo (blockF (TT s) true) 0)).toArray 41 (0, 0)) := by rw [← hW5, hbo]; exact heap_alloc_new _ _
  have hS5 : StAt b1 { TT s with h := blockF (TT s) true } W5 := by rw [← hW5]; exact hS4.frame ((Fr.refl (fun _ => False) _).alloc _) (fun e => e)
  have hcb : w.heap.size < b1 := by rw [hb1.out]; omega
  have hr5 : W5.heap[w.heap.size]? = some (.cells (u8s (List.replicate 32 0)).toArray 41 (0, 0)) := by
    rw [← hW5]; exact ((Fr.refl (fun _ => False) _).alloc _).heap_some (hFw.heap_some hcell.out (by omega)) (fun e => e)
  have hbo1 : b1 < bo := by rw [hbo]; exact hbw
  rw [← hbo]
  clear hW5 hbo hFw hFw0 hF1 hbw hS4 hR1 hcell hcs2 hb1
  go_wp2_with fail
  go_loopw [24] (fun i wr => ∃ k : Nat, k ≤ 32 ∧ i = .int .i64 k ∧ wr.heap[bo]? = some (.cells (u8s (sumTo (blockF (TT s) true) k)).toArray 41 (0, 0)) ∧ StAt b1 { TT s with h := blockF (TT s) true } wr ∧ wr.heap[w.heap.size]? = some (.cells (u8s (List.replicate 32 0)).toArray 41 (0, 0)) ∧ Ext w wr) (fun i _ => 32 - (intOf i).toNat)
  case atStart => exact ⟨0, by omega, rfl, ho5, hS5, hr5, hF5⟩
  case round =>
    clear ho5 hS5 hr5 hF5
    obtain ⟨k, hk, rfl, ho, hS, hr, hF⟩ := hrel
    by_cases hlt : k < 32
    · obtain ⟨q, hq⟩ : ∃ q, q = k / 4 := ⟨_, rfl⟩
      obtain ⟨f, hf⟩ : ∃ f, f = k % 4 * 8 := ⟨_, rfl⟩
      have hki : (k : Int) < 32 := by omega
      have hq8 : q < 8 := by omega
      have hqi : (q : Int) < 8 := by omega
      have e1 : IntKind.i64.wrap ((k : Int) / 4) = (q : Int) := by rw [IntKind.wrap_i64]; omega
      have e1' : (k : Int) / 4 = (q : Int) := by omega
      have e2 : (k : Int) % 4 * 8 = (f : Int) := by omega
      have hx := hS.ok.rh.gt q
      have e4 : ∀ W : World, (Op.shift BinOp.shr IntKind.u32 (gt (blockF (TT s) true) q) IntKind.i64 (f : Int)).run Tryd.prog W = .ok (.int .u32 (gt (blockF (TT s) true) q / 2 ^ f)) W := fun W => run_shr_u32 _ _ f (by omega) W
      have cq := hS.ch hq8
      have hlen : (sumTo (blockF (TT s) true) k).length = 32 := length_sumTo _ _ (by omega)
      have co : wr.cell? ⟨bo, k, none⟩ = some (.int .u8 (gt (sumTo (blockF (TT s) true) k) k)) := by
        rw [cell_of_row wr bo k _ _ _ ho]; simp [u8s, gt, hlen, hlt]
      have fo := frozen_of_row wr bo k _ _ ho
      replace ho := Lib.hid ho
      replace hr := Lib.hid hr
      replace hlen := Lib.hid hlen
      replace hq := Lib.hid hq
      replace hf := Lib.hid hf
      go_wp2_with fail
      refine ⟨⟨k + 1, by omega, rfl, ?_, ?_, ?_, ?_⟩, by simp [intOf]; omega⟩
      · rw [heap_setCell_same wr bo k _ _ _ ho.out, sumTo_succ _ _ hlt, ← hq.out, ← hf.out]
        simp [u8s, List.map_set]
      · exact hS.frame ((Fr.refl (fun k => k = bo) _).setCell (p := ⟨bo, k, none⟩) (fun _ => rfl) _) (by omega)
      · rw [heap_setCell_other wr _ _ _ (by show w.heap.size ≠ bo; omega)]; exact hr.out
      · exact hF.setCell (p := ⟨bo, k, none⟩) (fun h => absurd h (by show ¬ bo < _; omega)) _
    · obtain rfl : k = 32 := by omega
      have hso : sumTo (blockF (TT s) true) 32 = sumF s := sumTo_all s
      rw [hso] at ho
      have hl32 : (u8s (sumF s)).length = 32 := by rw [← hso]; simp [u8s, length_sumTo]
      have hcs6 : Cs wr bo 0 (u8s (sumF s)) := Cs.of_row_list ho
      have h1c : ∀ v ∈ u8s (sumF s), v.oneCell' = true := u8s_one _
      replace hcs6 := Lib.hid hcs6
      replace hr := Lib.hid hr
      replace ho := Lib.hid ho
      replace hl32 := Lib.hid hl32
      replace h1c := Lib.hid h1c
      replace hso := Lib.hid hso
      go_wp2_with (first | refine wpList_load_cs rfl 41 _ rfl bo 0 rfl (u8s (sumF s)) hcs6.out _ Tryd.underlying41 rfl 32 hl32.out (by kernel_rfl) ?_ | refine wpList_store_cs rfl 41 _ _ rfl w.heap.size 0 rfl (u8s (sumF s)) rfl 32 hl32.out (by kernel_rfl) h1c.out _ _ hr.out (by rw [hl32.out]; simp [u8s]) ?_)
      generalize hW6 : World.setRow wr w.heap.size _ = W6
      have hrow6 : W6.heap[w.heap.size]? = some (.cells (u8s (sumF s)).toArray 41 (0, 0)) := by
        rw [← hW6, setRow_heap wr _ _ _ _ _ hr.out]
        rw [List.drop_of_length_le (by rw [hl32.out]; exact Nat.le_refl 32), List.append_nil]
      have hF6 : Ext w W6 := by rw [← hW6]; exact hF.setRow (fun h => absurd h (Nat.lt_irrefl _)) _
      clear hW6
      refine bodyPost_ret (v := .agg (u8s (sumF s)).toArray) (results_cell_row rfl _ _ w.heap.size 41 (u8s (sumF s)).toArray (0, 0) _ rfl hrow6 Tryd.underlying41 rfl (by rw [List.size_toArray, hl32.out]; kernel_rfl)) rfl ⟨rfl, hF6⟩

theorem stateSum_any (b : Nat) (s : St) (w : World) (hS : StAt b s w) (hR : Roots w) :
    Calls Tryd.prog 34 #[.pointer (some ⟨b, 0, none⟩)] w
      fun e w' => e = .returned (.agg (u8s (sumF s)).toArray) ∧ Ext w w' := by
  by_cases hn : s.n = 64
  · obtain ⟨hh, bb, n, dd⟩ := s
    obtain rfl : n = 64 := hn
    exact stateSum_full b hh bb dd _ rfl w hS hR
  · exact stateSum_small b s (by have := hS.ok.n; omega) w hS hR
end Go.Proofs.YtbehebnjbjkafaaDoor
