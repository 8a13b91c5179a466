/- Package channel: a new channel; the sort; on no channel. -/
import Derived.Test.YtbehebnjbjkafaaGreatDoorChanE
import Derived.Shelf.SlSortCmp.NoneTotal
namespace Go.Proofs.YtbehebnjbjkafaaGreatDoor
open Go.RowKit Go.Maps Go.Sort

theorem sortOK (n : Nat) (hn : n ≤ 100000) : SortOK n := by
  intro blk cap d w hd hH hb
  have eg : ∀ args w, (callFunc 29 args).run Tryz.prog w = .ok (.enter 29 args) w := enters_of Tryz.func29 (by kernel_rfl) rfl
  have hcon := AnyQ.slices_SortFunc Tryz.sortE 2 Tryz.isAgg57 Tryz.sizeOf57 encE (fun _ => rfl) encE_one cmpE swoE 29 #[] blk 0 cap d w eg (cmpLaysE blk 0 d.size w) hH hb (by omega)
  exact hcon.mono fun e w' ⟨h1, d', k, os, h2, _, h4⟩ => ⟨h1, d', k, os, h2, h4⟩

set_option maxRecDepth 100000 in
set_option maxHeartbeats 1000000 in
theorem chanNew_any (own other : ByteArray) (w : World) (h1 : nameOk own = true) (h2 : nameOk other = true) (h3 : (own.toList == other.toList) = false) :
    Calls Tryz.prog 16 #[.string own, .string other] w fun e w' => ∃ c m, e = .returned (.tuple #[.pointer (some ⟨c, 0, none⟩), .int .i64 0]) ∧ ChanAt w' c m 0 own other 1 (.map []) ∧ w.heap.size ≤ c ∧ w.heap.size ≤ m ∧ Ext w w' := by
  have hm : own.size ≤ maxLen ∧ other.size ≤ maxLen := by have := nameOk_size h1; have := nameOk_size h2; unfold maxLen; omega
  have p1 : (⟨1, own, ⟨#[]⟩, 1⟩ : PackD).wf := ⟨(by decide : I64 1), hm.1, (by decide : (⟨#[]⟩ : ByteArray).size ≤ maxLen), (by decide : I64 1)⟩
  have p2 : (⟨1, other, ⟨#[]⟩, 1⟩ : PackD).wf := ⟨(by decide : I64 1), hm.2, (by decide : (⟨#[]⟩ : ByteArray).size ≤ maxLen), (by decide : I64 1)⟩
  have k1 : packOk ⟨1, own, ⟨#[]⟩, 1⟩ = true := by simp [packOk, h1]; decide
  have k2 : packOk ⟨1, other, ⟨#[]⟩, 1⟩ = true := by simp [packOk, h2]; decide
  have hmm := @run_makeMap Tryz.prog
  replace h1 := Lib.hid h1
  replace h2 := Lib.hid h2
  replace k1 := Lib.hid k1
  replace k2 := Lib.hid k2
  clear hm
  go_enter Tryz.func16, Tryz.ntmps16
  go_wp2_with fail
  generalize hW : World.alloc w _ = W
  have hx0 : Ext w W := by rw [← hW]; exact (Fr.refl _ _).alloc _
  have c0 : W.cell? ⟨w.heap.size, 0, none⟩ = some (.string own) := by rw [← hW]; exact cell_of_row _ _ 0 _ _ _ (heap_alloc_new _ _)
  have c1 : W.cell? ⟨w.heap.size, 1, none⟩ = some (.string other) := by rw [← hW]; exact cell_of_row _ _ 1 _ _ _ (heap_alloc_new _ _)
  clear hW
  go_loopw [14] (fun i wr => ∃ k : Nat, k ≤ 2 ∧ i = .int .i64 k ∧ Ext W wr) (fun i _ => 2 - (intOf i).toNat)
  case atStart => exact ⟨0, by omega, rfl, Fr.refl _ _⟩
  case round =>
    obtain ⟨k, hk, rfl, hx⟩ := hrel
    have d0 := hx.cell c0
    have d1 := hx.cell c1
    rcases (by omega : k = 0 ∨ k = 1 ∨ k = 2) with rfl | rfl | rfl
    · go_wp2_with fail
      refine (encodePacket_any ⟨1, own, ⟨#[]⟩, 1⟩ wr p1).mono ?_
      rintro e w2 ⟨hx2, h2⟩
      rw [if_pos k1.out] at h2
      obtain ⟨v, rfl, _⟩ := h2
      go_wp2_with fail
      go_roundw
      case rel => exact ⟨1, by omega, rfl, hx.ext hx2⟩
      case measure => simp [intOf]
    · go_wp2_with fail
      refine (encodePacket_any ⟨1, other, ⟨#[]⟩, 1⟩ wr p2).mono ?_
      rintro e w2 ⟨hx2, h2⟩
      rw [if_pos k2.out] at h2
      obtain ⟨v, rfl, _⟩ := h2
      go_wp2_with fail
      go_roundw
      case rel => exact ⟨2, by omega, rfl, hx.ext hx2⟩
      case measure => simp [intOf]
    · have hxx := hx0.ext hx
      clear hx d0 d1
      go_wp2_with fail
      go_ret2
      refine ⟨wr.heap.size + 1, wr.heap.size, rfl, ⟨?_, ?_⟩, ?_, ?_, (hxx.alloc _).alloc _⟩
      · have := heap_alloc_new (wr.alloc (.map #[] 0)) (.cells #[.string own, .string other, .int .i64 1, .map (some wr.heap.size)] 45)
        have e : (wr.alloc (.map #[] 0)).heap.size = wr.heap.size + 1 := by simp
        rwa [e] at this
      · exact (World.ownsMap_made _ _ _ _).alloc _
      · have := hxx.size; simp; omega
      · exact hxx.size

/-! ### On no channel. -/
set_option maxRecDepth 100000 in
theorem sendNil_any (data : Value) (timeout : Value) (w : World) : Calls Tryz.prog 4 #[.pointer none, data, timeout] w fun e w' => e = .returned (.tuple #[.agg zeroP.cells.toArray, .int .i64 1]) ∧ Ext w w' := by
  go_enter Tryz.func4, Tryz.ntmps4
  go_upto_region 2 with fail
  have hr1 : (w.alloc (.cells zeroP.cells.toArray 28)).heap[w.heap.size]? = some (.cells zeroP.cells.toArray 28 (0, 0)) := heap_alloc_new _ _
  replace hr1 := Lib.hid hr1
  change Code.wp _ _ _ _ (w.alloc (.cells zeroP.cells.toArray 28))
  generalize hW : w.alloc (.cells zeroP.cells.toArray 28) = W at *
  have hx : Ext w W := by rw [← hW]; exact (Fr.refl _ _).alloc _
  clear hW
  go_wp2_with (refine wpList_store_whole rfl 28 _ _ rfl w.heap.size rfl zeroP.cells rfl 4 rfl (by kernel_rfl) zeroP.one _ rfl _ hr1.out (fun W6 hr6 hF6 _ => ?_))
  refine ret_cs_tmp rfl w.heap.size rfl rfl zeroP.cells 4 rfl hr6 _ Tryz.underlying28 rfl (by kernel_rfl) ⟨rfl, hx.trans hF6 (fun k hk e => absurd hk (by omega))⟩
set_option maxRecDepth 100000 in
theorem receiveNil_any (cs ps : Array Value) (a b : Int) (w : World) : Calls Tryz.prog 6 #[.pointer none, .agg cs, .int .i64 a, .pointer none, .int .i64 b, .agg ps] w fun e w' => e = .returned (.int .i64 1) ∧ Ext w w' := by
  go_enter Tryz.func6, Tryz.ntmps6
  go_wp2_with fail
  go_ret
  exact ⟨rfl, ((((((Fr.refl _ _).alloc _).alloc _).alloc _).alloc _).alloc _).alloc _⟩
set_option maxRecDepth 100000 in
theorem answerNil_any (a : Int) (s : ByteArray) (w : World) : Calls Tryz.prog 7 #[.pointer none, .int .i64 a, .string s] w fun e w' => e = .returned (.int .i64 1) ∧ Ext w w' := by
  go_enter Tryz.func7, Tryz.ntmps7
  go_wp2_with fail
  go_ret
  exact ⟨rfl, Fr.refl _ _⟩
set_option maxRecDepth 100000 in
theorem ackNil_any (cs ps : Array Value) (s : ByteArray) (b : Int) (w : World) : Calls Tryz.prog 8 #[.pointer none, .agg cs, .string s, .pointer none, .int .i64 b, .agg ps] w fun e w' => e = .returned (.int .i64 1) ∧ Ext w w' := by
  go_enter Tryz.func8, Tryz.ntmps8
  go_wp2_with fail
  go_ret
  exact ⟨rfl, ((((((Fr.refl _ _).alloc _).alloc _).alloc _).alloc _).alloc _).alloc _⟩
set_option maxRecDepth 100000 in
theorem expireNil_any (cs ps : Array Value) (b : Int) (w : World) : Calls Tryz.prog 9 #[.pointer none, .agg cs, .pointer none, .int .i64 b, .agg ps] w fun e w' => e = .returned (.int .i64 1) ∧ Ext w w' := by
  go_enter Tryz.func9, Tryz.ntmps9
  go_wp2_with fail
  go_ret
  exact ⟨rfl, (((((Fr.refl _ _).alloc _).alloc _).alloc _).alloc _).alloc _⟩
set_option maxRecDepth 100000 in
theorem nextNil_any  (w : World) : Calls Tryz.prog 10 #[.pointer none] w fun e w' => e = .returned (.int .i64 0) ∧ Ext w w' := by
  go_enter Tryz.func10, Tryz.ntmps10
  go_wp2_with fail
  go_ret
  exact ⟨rfl, Fr.refl _ _⟩
set_option maxRecDepth 100000 in
theorem entriesNil_any  (w : World) : Calls Tryz.prog 11 #[.pointer none] w fun e w' => e = .returned (.slice none 0 0) ∧ Ext w w' := by
  go_enter Tryz.func11, Tryz.ntmps11
  go_wp2_with fail
  go_ret
  exact ⟨rfl, Fr.refl _ _⟩
set_option maxRecDepth 100000 in
theorem copyNil_any  (w : World) : Calls Tryz.prog 12 #[.pointer none] w fun e w' => e = .returned (.pointer none) ∧ Ext w w' := by
  go_enter Tryz.func12, Tryz.ntmps12
  go_wp2_with fail
  go_ret
  exact ⟨rfl, Fr.refl _ _⟩
set_option maxRecDepth 100000 in
theorem next_any (c m n : Nat) (own other : ByteArray) (next : Nat) (D : DataW Unit) (w : World) (hC : ChanAt w c m n own other next D) :
    Calls Tryz.prog 10 #[.pointer (some ⟨c, 0, none⟩)] w fun e w' => e = .returned (.int .i64 next) ∧ w = w' := by
  have d2 : w.cell? ⟨c, 2, none⟩ = some (.int .i64 next) := by have := cell_of_row _ _ 2 _ _ _ hC.row; simpa using this
  go_enter Tryz.func10, Tryz.ntmps10
  go_wp2_with fail
  go_ret
  exact ⟨rfl, rfl⟩
end Go.Proofs.YtbehebnjbjkafaaGreatDoor
