/- Package blake: a hash in figures. -/
import Derived.Test.YtbehebnjbjkafaaDoorEnc
import Derived.Test.YtbehebnjbjkafaaDoorLibB
import Derived.Test.YtbehebnjbjkafaaDoorBlakeC
namespace Go.Proofs.YtbehebnjbjkafaaDoor
open Go.RowKit

def figsB : ByteArray := ⟨#[48, 49, 50, 51, 52, 53, 54, 55, 56, 57, 97, 98, 99, 100, 101, 102]⟩
def figU (i : Nat) : UInt8 := if i < 10 then UInt8.ofNat (48 + i) else UInt8.ofNat (87 + i)
/-- A hash's figures. -/
def textU (l : List Int) : List UInt8 := (l.map fun c => [figU (c / 16).toNat, figU (c % 16).toNat]).flatten
def hashText (h : Hash) : ByteArray := ⟨(textU h.l).toArray⟩
def u8b (l : List UInt8) : List Value := l.map fun b => .int .u8 (b.toNat : Int)
theorem length_textU (l : List Int) : (textU l).length = 2 * l.length := by
  induction l with
  | nil => rfl
  | cons c l ih => simp [textU] at ih ⊢; omega
theorem textU_snoc (l : List Int) (c : Int) : textU (l ++ [c]) = textU l ++ [figU (c / 16).toNat, figU (c % 16).toNat] := by simp [textU]
theorem u8b_append (a b : List UInt8) : u8b (a ++ b) = u8b a ++ u8b b := by simp [u8b]
theorem length_u8b (a : List UInt8) : (u8b a).length = a.length := by simp [u8b]
theorem u8b_one (a : List UInt8) : ∀ v ∈ u8b a, v.oneCell' = true := by
  intro v hv
  simp only [u8b, List.mem_map] at hv
  obtain ⟨b, _, rfl⟩ := hv
  rfl
theorem hashText_size (h : Hash) : (hashText h).size = 64 := by
  show (textU h.l).toArray.size = 64
  rw [List.size_toArray, length_textU, h.len]
theorem fig_get (i : Nat) (h : i < 16) : ((⟨#[48, 49, 50, 51, 52, 53, 54, 55, 56, 57, 97, 98, 99, 100, 101, 102]⟩ : ByteArray)[i]'h).toNat = (figU i).toNat := by
  have key : ∀ i : Fin 16, ((⟨#[48, 49, 50, 51, 52, 53, 54, 55, 56, 57, 97, 98, 99, 100, 101, 102]⟩ : ByteArray)[i.val]'i.isLt).toNat = (figU i.val).toNat := by decide +kernel
  exact key ⟨i, h⟩
theorem and15_u8 (c : Int) (h0 : 0 ≤ c) (h1 : c < 256) : bits BinOp.and IntKind.u8 c 15 = c % 16 := by
  have key : ∀ i : Fin 256, bits BinOp.and IntKind.u8 (i.val : Int) 15 = (i.val : Int) % 16 := by decide +kernel
  have := key ⟨c.toNat, by omega⟩
  simpa [Int.toNat_of_nonneg h0] using this
theorem info_u8 : (Tryd.prog.info? 5).map (fun i => (i.zero, i.size, i.bytes)) = some (some (.int .u8 0), 1, 1) := by kernel_rfl

set_option maxRecDepth 100000 in
set_option maxHeartbeats 1000000 in
theorem text_hash (h : Hash) (w : World) : Calls Tryd.prog 15 #[.agg h.cells.toArray] w fun e w' => e = .returned (.string (hashText h)) ∧ Ext w w' := by
  obtain ⟨i0, hi, hz0, hz1, hz2⟩ := info_parts info_u8
  have hcs : Cs (w.alloc (.cells h.cells.toArray 41)) w.heap.size 0 h.cells := Cs.alloc_new' _ _ _
  have x1 : Ext w (w.alloc (.cells h.cells.toArray 41)) := (Fr.refl _ _).alloc _
  have hsz : (w.alloc (.cells h.cells.toArray 41)).heap.size = w.heap.size + 1 := by simp
  go_enter Tryd.func15, Tryd.ntmps15
  go_wp2_with (refine wpList_load_cs rfl 41 _ rfl w.heap.size 0 rfl h.cells hcs _ rfl rfl 32 h.length_cells (by kernel_rfl) ?_)
  generalize w.alloc (.cells h.cells.toArray 41) = W at *
  clear hcs
  go_loopw [3, 7] (fun v i wr => ∃ k : Nat, k ≤ 32 ∧ i = .int .i64 k ∧ wr.ownsRow w.heap.size 5 1 v (2 * k) (u8b (textU (h.l.take k))) ∧ Ext w wr ∧ w.heap.size < wr.heap.size) (fun _ i _ => 32 - (intOf i).toNat)
  case atStart => exact ⟨0, by omega, rfl, World.ownsRow_nil _ _ _ _, x1, by omega⟩
  case round =>
    obtain ⟨k, hk, rfl, hown, hx, hlt⟩ := hrel
    by_cases hk2 : k < 32
    · obtain ⟨c, hc⟩ : ∃ c, h.l[k]? = some c := ⟨_, List.getElem?_eq_getElem (by rw [h.len]; exact hk2)⟩
      have hcr : 0 ≤ c ∧ c < 256 := h.ok c (List.mem_of_getElem? hc)
      obtain ⟨hc0, hc1⟩ := hcr
      have hki : (k : Int) < 32 := by omega
      have hcell : h.cells[k]? = some (.int .u8 c) := by simp [Hash.cells, u8s, hc]
      have hts : textU (h.l.take (k + 1)) = textU (h.l.take k) ++ [figU (c / 16).toNat, figU (c % 16).toNat] := by
        rw [List.take_add_one, hc]; exact textU_snoc _ _
      have hf1 := fig_get (c / 16).toNat (by omega)
      have hf2 := fig_get (c % 16).toNat (by omega)
      have q1 : 0 ≤ c / 16 := by omega
      have q2 : c / 16 < 16 := by omega
      have q3 : 0 ≤ c % 16 := by omega
      have q4 : c % 16 < 16 := by omega
      have ha := and15_u8 c hc0 hc1
      generalize (figU (c / 16).toNat) = f1 at *
      generalize (figU (c % 16).toNat) = f2 at *
      have hidx : (Instr.index 41 (.agg h.cells.toArray) (.int .i64 k)).run Tryd.prog wr = .ok (.int .u8 c) wr := by
        have := run_index_byte Tryd.prog 41 5 h.l 32 h.len Tryd.underlying41 Tryd.underlying5 (by kernel_rfl) k hk2 wr
        have e : gt h.l k = c := by unfold gt; rw [List.getD_eq_getElem?_getD, hc]; rfl
        rwa [e] at this
      replace hts := Lib.hid hts
      replace hc := Lib.hid hc
      clear hcell
      go_wp2_with fail
      go_region_law (refine step_append_own rfl _ _ 51 rfl w.heap.size 5 i0 (.int .u8 0) 1 1 Tryd.underlying51 hi hz0 hz1 hz2 rfl (by decide) _ _ _ rfl (hown.alloc _) ⟨wr.heap.size, 0, none⟩ 2 2 (u8b [f1, f2]) rfl rfl (fun j u hj => by rw [addr_add]; exact Cs.alloc_new' wr (u8b [f1, f2]) 5 j u hj) (u8b_one _) (by unfold maxLen; omega) (by omega) (by simp; omega) ?_; intro v' w1 hown' hg hnil)
      all_goals
        go_wp2_with fail
        have hx1 : Ext w w1 := (hx.alloc (.cells (u8b [f1, f2]).toArray 5)).trans (G := fun g => some g = u3.ownBlock) ⟨hg.os, hg.tape, hg.output, hg.size, fun g hg1 hg2 => hg.block g hg1 hg2⟩ (fun g hg1 hg2 => absurd (hown.lt g hg2.symm).1 (by omega))
        have hlt1 : w.heap.size < w1.heap.size := by have := hg.size; simp at this; omega
        go_roundw
        case rel =>
          have e1 : 2 * k + 2 = 2 * (k + 1) := by omega
          rw [e1, ← u8b_append, ← hts.out] at hown'
          exact ⟨k + 1, by omega, by go_num, hown', hx1, hlt1⟩
        case measure => simp [intOf]; omega
    · obtain rfl : k = 32 := by omega
      rw [List.take_of_length_le (by rw [h.len]; exact Nat.le_refl _)] at hown
      rcases hown.2 with ⟨_, h0⟩ | ⟨g, cap, cur, rfl, hb, hg, h1, h2, h3, h4⟩
      · exact absurd h0 (by decide)
      · have hcb := run_convert_bytes_back (P := Tryd.prog) wr 51 9 5 ⟨g, 0, none⟩ cap (textU h.l) Tryd.underlying51 Tryd.underlying5 Tryd.underlying9 (fun j hj => by
          rw [addr_add, cell_of_row _ _ _ _ _ _ hg]
          have := congrArg (fun l => l[j]?) h4
          have hj2 : j < 64 := by rw [length_textU, h.len] at hj; exact hj
          simpa [List.getElem?_take, hj2, u8b, List.getElem?_eq_getElem hj] using this)
        have hl : (textU h.l).length = 64 := by rw [length_textU, h.len]
        rw [hl] at hcb
        go_wp2_with fail
        go_ret
        exact ⟨rfl, hx⟩
end Go.Proofs.YtbehebnjbjkafaaDoor
