/- The document's answers: a hash in figures. -/
import Derived.Test.YtbehebnjbjkafaaDoorChanB
import Derived.Test.YtbehebnjbjkafaaDoorQuietT
namespace Go.Proofs.YtbehebnjbjkafaaDoor
open Go.RowKit

theorem figslice {a : Act} {o : Oper} {w : World} (x lo hi : Operand) (ho : o.op = .slice 9 x (some lo) (some hi) none) (k : IntKind) (i : Nat) (h : i < 16)
    (hx : a.eval x = .string ⟨#[48, 49, 50, 51, 52, 53, 54, 55, 56, 57, 97, 98, 99, 100, 101, 102]⟩) (hlo : a.eval lo = .int k i) (hhi : a.eval hi = .int k ((i : Int) + 1)) :
    (execOp a.eval o).run Tryd.prog w = .ok (.value (.string ⟨#[figU i]⟩)) w := by
  simp only [execOp, ho, hx, hlo, hhi, Option.map]
  clear ho hx hlo hhi
  rcases (by omega : i = 0 ∨ i = 1 ∨ i = 2 ∨ i = 3 ∨ i = 4 ∨ i = 5 ∨ i = 6 ∨ i = 7 ∨ i = 8 ∨ i = 9 ∨ i = 10 ∨ i = 11 ∨ i = 12 ∨ i = 13 ∨ i = 14 ∨ i = 15) with rfl | rfl | rfl | rfl | rfl | rfl | rfl | rfl | rfl | rfl | rfl | rfl | rfl | rfl | rfl | rfl <;> kernel_rfl

set_option maxRecDepth 100000 in
set_option maxHeartbeats 2000000 in
theorem rtext_any (h : Hash) (w : World) : Calls Tryd.prog 12 #[.agg h.cells.toArray] w fun e w' => e = .returned (.string (hashText h)) ∧ Ext w w' := by
  have hcs : Cs (w.alloc (.cells h.cells.toArray 41)) w.heap.size 0 h.cells := Cs.alloc_new' _ _ _
  have x1 : Ext w (w.alloc (.cells h.cells.toArray 41)) := (Fr.refl _ _).alloc _
  go_enter Tryd.func12, Tryd.ntmps12
  go_wp2_with fail
  change Code.wp _ _ _ _ (w.alloc (.cells h.cells.toArray 41))
  generalize w.alloc (.cells h.cells.toArray 41) = W at *
  generalize hbx : w.heap.size = bx at *
  replace hbx := Lib.hid hbx
  go_loopw [3, 5] (fun v i wr => ∃ k : Nat, k ≤ 32 ∧ i = .int .i64 k ∧ v = .string ⟨(textU (h.l.take k)).toArray⟩ ∧ Ext W wr) (fun _ i _ => 32 - (intOf i).toNat)
  case atStart => exact ⟨0, by omega, rfl, rfl, Fr.refl _ _⟩
  case round =>
    obtain ⟨k, hk, rfl, rfl, hx⟩ := hrel
    by_cases hk2 : k < 32
    · obtain ⟨c, hc⟩ : ∃ c, h.l[k]? = some c := ⟨_, List.getElem?_eq_getElem (by rw [h.len]; exact hk2)⟩
      obtain ⟨hc0, hc1⟩ : 0 ≤ c ∧ c < 256 := h.ok c (List.mem_of_getElem? hc)
      have hki : (k : Int) < 32 := by omega
      have hcell : wr.cell? ⟨bx, k, none⟩ = some (.int .u8 c) := by
        have := (hcs.ext hx).get (j := k) (v := .int .u8 c) (by simp [Hash.cells, u8s, hc])
        simpa using this
      obtain ⟨q1, hq1⟩ : ∃ q : Nat, c / 16 = (q : Int) := ⟨(c / 16).toNat, by omega⟩
      obtain ⟨q2, hq2⟩ : ∃ q : Nat, c % 16 = (q : Int) := ⟨(c % 16).toNat, by omega⟩
      have l1 : q1 < 16 := by omega
      have l2 : q2 < 16 := by omega
      have e1 : IntKind.u8.wrap (c.tdiv 16) = (q1 : Int) := by
        rw [Int.tdiv_eq_ediv_of_nonneg hc0, hq1]
        exact Int.emod_eq_of_lt (by omega) (by show (q1 : Int) < 256; omega)
      have e2 : c.tmod 16 = (q2 : Int) := by
        rw [Int.tmod_eq_emod_of_nonneg hc0, hq2]
      have e3 : IntKind.u8.wrap ((q1 : Int) + 1) = (q1 : Int) + 1 := Int.emod_eq_of_lt (by omega) (by show (q1 : Int) + 1 < 256; omega)
      have e4 : IntKind.u8.wrap ((q2 : Int) + 1) = (q2 : Int) + 1 := Int.emod_eq_of_lt (by omega) (by show (q2 : Int) + 1 < 256; omega)
      have hts : textU (h.l.take (k + 1)) = textU (h.l.take k) ++ [figU q1, figU q2] := by
        rw [List.take_add_one, hc]
        have := textU_snoc (h.l.take k) c
        rw [hq1, hq2] at this
        exact this
      have hl : (textU (h.l.take k)).length ≤ 64 := by
        rw [length_textU]
        have := List.length_take_le k h.l
        omega
      generalize textU (h.l.take k) = T at *
      have hn1 : ¬ 9223372036854775807 < T.length + 1 := by omega
      have hn2 : ¬ 9223372036854775807 < T.length + 1 + 1 := by omega
      replace hts := Lib.hid hts
      replace hc := Lib.hid hc
      replace hq1 := Lib.hid hq1
      replace hq2 := Lib.hid hq2
      go_wp2_with fail
      refine wp_quiet_tail 25 (fun w' => Ext wr w') (by kernel_rfl) (by kernel_rfl) (Fr.refl _ _).drew ?_
      simp only [List.take_succ_cons, List.take_zero, List.drop_succ_cons, List.drop_zero]
      refine quiet_go (by kernel_rfl) (quiet_val (v := .string ⟨T.toArray⟩) (fun w => by go_simp) ?_)
      go_frame
      refine quiet_go (by kernel_rfl) (quiet_val (v := .string ⟨#[48, 49, 50, 51, 52, 53, 54, 55, 56, 57, 97, 98, 99, 100, 101, 102]⟩) (fun w => by go_simp) ?_)
      go_frame
      refine quiet_go (by kernel_rfl) (quiet_val (v := .int .i64 k) (fun w => by go_simp) ?_)
      go_frame
      refine quiet_go (by kernel_rfl) (quiet_val (v := .pointer (some ⟨bx, k, none⟩)) (fun w => by go_simp) ?_)
      go_frame
      refine quiet_go (by kernel_rfl) (quiet_read (v := .int .u8 c) (fun w hw => run_load1 5 _ rfl ⟨bx, k, none⟩ rfl (by kernel_rfl) _ (Ext.cell hw hcell)) ?_)
      go_frame
      refine quiet_go (by kernel_rfl) (quiet_val (v := .int .u8 q1) (fun w => by go_simp) ?_)
      go_frame
      refine quiet_go (by kernel_rfl) (quiet_val (v := .int .i64 k) (fun w => by go_simp) ?_)
      go_frame
      refine quiet_go (by kernel_rfl) (quiet_val (v := .pointer (some ⟨bx, k, none⟩)) (fun w => by go_simp) ?_)
      go_frame
      refine quiet_go (by kernel_rfl) (quiet_read (v := .int .u8 c) (fun w hw => run_load1 5 _ rfl ⟨bx, k, none⟩ rfl (by kernel_rfl) _ (Ext.cell hw hcell)) ?_)
      go_frame
      refine quiet_go (by kernel_rfl) (quiet_val (v := .int .u8 q1) (fun w => by go_simp) ?_)
      go_frame
      refine quiet_go (by kernel_rfl) (quiet_val (v := .int .u8 ((q1 : Int) + 1)) (fun w => by go_simp) ?_)
      go_frame
      refine quiet_go (by kernel_rfl) (quiet_read (v := .string ⟨#[figU q1]⟩) (fun w _ => figslice _ _ _ rfl .u8 q1 l1 rfl rfl rfl) ?_)
      go_frame
      refine quiet_go (by kernel_rfl) (quiet_val (v := .string (⟨T.toArray⟩ ++ ⟨#[figU q1]⟩)) (fun w => by (go_simp)) ?_)
      go_frame
      refine quiet_go (by kernel_rfl) (quiet_val (v := .string ⟨#[48, 49, 50, 51, 52, 53, 54, 55, 56, 57, 97, 98, 99, 100, 101, 102]⟩) (fun w => by go_simp) ?_)
      go_frame
      refine quiet_go (by kernel_rfl) (quiet_val (v := .int .i64 k) (fun w => by go_simp) ?_)
      go_frame
      refine quiet_go (by kernel_rfl) (quiet_val (v := .pointer (some ⟨bx, k, none⟩)) (fun w => by go_simp) ?_)
      go_frame
      refine quiet_go (by kernel_rfl) (quiet_read (v := .int .u8 c) (fun w hw => run_load1 5 _ rfl ⟨bx, k, none⟩ rfl (by kernel_rfl) _ (Ext.cell hw hcell)) ?_)
      go_frame
      refine quiet_go (by kernel_rfl) (quiet_val (v := .int .u8 q2) (fun w => by go_simp) ?_)
      go_frame
      refine quiet_go (by kernel_rfl) (quiet_val (v := .int .i64 k) (fun w => by go_simp) ?_)
      go_frame
      refine quiet_go (by kernel_rfl) (quiet_val (v := .pointer (some ⟨bx, k, none⟩)) (fun w => by go_simp) ?_)
      go_frame
      refine quiet_go (by kernel_rfl) (quiet_read (v := .int .u8 c) (fun w hw => run_load1 5 _ rfl ⟨bx, k, none⟩ rfl (by kernel_rfl) _ (Ext.cell hw hcell)) ?_)
      go_frame
      refine quiet_go (by kernel_rfl) (quiet_val (v := .int .u8 q2) (fun w => by go_simp) ?_)
      go_frame
      refine quiet_go (by kernel_rfl) (quiet_val (v := .int .u8 ((q2 : Int) + 1)) (fun w => by go_simp) ?_)
      go_frame
      refine quiet_go (by kernel_rfl) (quiet_read (v := .string ⟨#[figU q2]⟩) (fun w _ => figslice _ _ _ rfl .u8 q2 l2 rfl rfl rfl) ?_)
      go_frame
      refine quiet_go (by kernel_rfl) (quiet_val (v := .string (⟨T.toArray⟩ ++ ⟨#[figU q1]⟩ ++ ⟨#[figU q2]⟩)) (fun w => by (go_simp)) ?_)
      go_frame
      refine wpQuiet_nil ?_
      intro w2 hw2
      go_wp2_with fail
      refine ⟨⟨k + 1, by omega, by simp, ?_, hx.ext hw2⟩, by simp [intOf]; omega⟩
      rw [hts.out]
      congr 1
      apply bytes_ext
      simp
    · obtain rfl : k = 32 := by omega
      rw [List.take_of_length_le (by rw [h.len]; exact Nat.le_refl _)]
      go_wp2_with fail
      go_ret
      exact ⟨rfl, x1.ext hx⟩
end Go.Proofs.YtbehebnjbjkafaaDoor
