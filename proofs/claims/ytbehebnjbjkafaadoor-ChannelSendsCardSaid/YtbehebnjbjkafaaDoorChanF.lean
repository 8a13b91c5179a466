/- Package channel: a new channel; the sort. -/
import Derived.Test.YtbehebnjbjkafaaDoorChanE
import Derived.Shelf.SlSortCmp.NoneTotal
namespace Go.Proofs.YtbehebnjbjkafaaDoor
open Go.RowKit Go.Maps Go.Sort

theorem sortOK (n : Nat) (hn : n ≤ 100000) : SortOK n := by
  intro blk cap d w hd hH hb
  have eg : ∀ args w, (callFunc 18 args).run Tryd.prog w = .ok (.enter 18 args) w := enters_of Tryd.func18 (by kernel_rfl) rfl
  have hcon := AnyQ.slices_SortFunc Tryd.sortE 2 Tryd.isAgg58 Tryd.sizeOf58 encE (fun _ => rfl) encE_one cmpE swoE 18 #[] blk 0 cap d w eg (cmpLaysE blk 0 d.size w) hH hb (by omega)
  exact hcon.mono fun e w' ⟨h1, d', k, os, h2, _, h4⟩ => ⟨h1, d', k, os, h2, h4⟩

set_option maxRecDepth 100000 in
set_option maxHeartbeats 1000000 in
theorem chanNew_any (own other : ByteArray) (w : World) (h1 : nameOk own = true) (h2 : nameOk other = true) (h3 : (own.toList == other.toList) = false) :
    Calls Tryd.prog 4 #[.string own, .string other] w fun e w' => ∃ c m, e = .returned (.tuple #[.pointer (some ⟨c, 0, none⟩), .int .i64 0]) ∧ ChanAt w' c m 0 own other 1 (.map []) ∧ w.heap.size ≤ c ∧ w.heap.size ≤ m ∧ Ext w w' := by
  have hm : own.size ≤ maxLen ∧ other.size ≤ maxLen := by have := nameOk_size h1; have := nameOk_size h2; unfold maxLen; omega
  have p1 : (⟨1, own, ⟨#[]⟩, 1⟩ : PackD).wf := ⟨(by decide : I64 1), hm.1, (by decide : (⟨#[]⟩ : ByteArray).size ≤ maxLen), (by decide : I64 1)⟩
  have p2 : (⟨1, other, ⟨#[]⟩, 1⟩ : PackD).wf := ⟨(by decide : I64 1), hm.2, (by decide : (⟨#[]⟩ : ByteArray).size ≤ maxLen), (by decide : I64 1)⟩
  have k1 : packOk ⟨1, own, ⟨#[]⟩, 1⟩ = true := by simp [packOk, h1]; decide
  have k2 : packOk ⟨1, other, ⟨#[]⟩, 1⟩ = true := by simp [packOk, h2]; decide
  have hmm := @run_makeMap Tryd.prog
  replace h1 := Lib.hid h1
  replace h2 := Lib.hid h2
  replace k1 := Lib.hid k1
  replace k2 := Lib.hid k2
  clear hm
  go_enter Tryd.func4, Tryd.ntmps4
  go_wp2_with fail
  generalize hW : World.alloc w _ = W
  have hx0 : Ext w W := by rw [← hW]; exact (Fr.refl _ _).alloc _
  have c0 : W.cell? ⟨w.heap.size, 0, none⟩ = some (.string own) := by rw [← hW]; exact cell_of_row _ _ 0 _ _ _ (heap_alloc_new _ _)
  have c1 : W.cell? ⟨w.heap.size, 1, none⟩ = some (.string other) := by rw [← hW]; exact cell_of_row _ _ 1 _ _ _ (heap_alloc_new _ _)
  clear hW
  go_loopw [14] (fun i wr => ∃ k : Nat, k ≤ 2 ∧ i = .int .i64 k ∧ Ext W wr) (fun i _ => 2 - (intOf i).toNat)
  case atStart => exact ⟨0, by omega, rfl, Fr.refl _ _⟩
  case round =>
    obtain ⟨k, hk, rfl, hx⟩ := hrel
    have d0 := hx.cell c0
    have d1 := hx.cell c1
    rcases (by omega : k = 0 ∨ k = 1 ∨ k = 2) with rfl | rfl | rfl
    · go_wp2_with fail
      refine (encodePacket_any ⟨1, own, ⟨#[]⟩, 1⟩ wr p1).mono ?_
      rintro e w2 ⟨hx2, h2⟩
      rw [if_pos k1.out] at h2
      obtain ⟨v, rfl, _⟩ := h2
      go_wp2_with fail
      go_roundw
      case rel => exact ⟨1, by omega, rfl, hx.ext hx2⟩
      case measure => simp [intOf]
    · go_wp2_with fail
      refine (encodePacket_any ⟨1, other, ⟨#[]⟩, 1⟩ wr p2).mono ?_
      rintro e w2 ⟨hx2, h2⟩
      rw [if_pos k2.out] at h2
      obtain ⟨v, rfl, _⟩ := h2
      go_wp2_with fail
      go_roundw
      case rel => exact ⟨2, by omega, rfl, hx.ext hx2⟩
      case measure => simp [intOf]
    · have hxx := hx0.ext hx
      clear hx d0 d1
      go_wp2_with fail
      go_ret2
      refine ⟨wr.heap.size + 1, wr.heap.size, rfl, ⟨?_, ?_⟩, ?_, ?_, (hxx.alloc _).alloc _⟩
      · have := heap_alloc_new (wr.alloc (.map #[] 0)) (.cells #[.string own, .string other, .int .i64 1, .map (some wr.heap.size)] 56)
        have e : (wr.alloc (.map #[] 0)).heap.size = wr.heap.size + 1 := by simp
        rwa [e] at this
      · exact (World.ownsMap_made _ _ _ _).alloc _
      · have := hxx.size; simp; omega
      · exact hxx.size

set_option maxRecDepth 100000 in
theorem next_any (c m n : Nat) (own other : ByteArray) (next : Nat) (D : DataW Unit) (w : World) (hC : ChanAt w c m n own other next D) :
    Calls Tryd.prog 8 #[.pointer (some ⟨c, 0, none⟩)] w fun e w' => e = .returned (.int .i64 next) ∧ w = w' := by
  have d2 : w.cell? ⟨c, 2, none⟩ = some (.int .i64 next) := by have := cell_of_row _ _ 2 _ _ _ hC.row; simpa using this
  go_enter Tryd.func8, Tryd.ntmps8
  go_wp2_with fail
  go_ret
  exact ⟨rfl, rfl⟩
end Go.Proofs.YtbehebnjbjkafaaDoor
