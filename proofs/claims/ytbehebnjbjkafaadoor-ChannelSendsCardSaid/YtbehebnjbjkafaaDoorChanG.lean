/- The live question of the channel's laws. -/
import Derived.Test.YtbehebnjbjkafaaDoorChanF
namespace Go.Proofs.YtbehebnjbjkafaaDoor
open Go.RowKit Go.Maps Go.Sort

def nameA : ByteArray := ⟨#[97]⟩
def nameB : ByteArray := ⟨#[98]⟩
theorem ckey_one : ckey commitB 1 = ⟨#[99, 111, 109, 109, 105, 116, 47, 49]⟩ := by
  unfold ckey
  rw [Lib.decDigits_one (by decide)]
  rfl
theorem put_one (k : List UInt8) (v : DataW Unit) : strKeys ((DataW.map []).put (.string k) v) = [k] := rfl
theorem size_one (k : Lit) (v : DataW Unit) : Maps.size ((DataW.map []).put k v) = 1 := rfl

set_option maxRecDepth 100000 in
set_option maxHeartbeats 2000000 in
theorem alive_any (w : World) (hR : Roots w) : Calls Tryd.prog 5 #[] w fun e w' => e = .returned (.bool true) ∧ Ext w w' := by
  have hok : packOk ⟨((1 : Nat) : Int), nameA, ⟨#[104, 105]⟩, 9⟩ = true := by decide
  replace hok := Lib.hid hok
  go_enter Tryd.func5, Tryd.ntmps5
  go_wp2_with fail
  refine (chanNew_any nameA nameB w (by decide) (by decide) (by rw [Lib.toList_data, Lib.toList_data]; decide)).mono ?_
  rintro e w2 ⟨c, m, rfl, hC, hc, hm, hx2⟩
  go_wp2_with fail
  have hs := send_any c m 0 nameA nameB 1 (.map []) ⟨#[104, 105]⟩ 9 w2 hC (hR.ext hx2) (by decide) (by decide) (by decide : I64 9) (by decide) (by decide)
  refine hs.mono ?_
  clear hs
  rintro e w3 h3
  unfold SendAns at h3
  rw [if_pos hok.out] at h3
  obtain ⟨rfl, hC3, hF3⟩ := h3
  have hx3 : Ext w w3 := hx2.trans hF3 (fun k hk e => by rcases e with rfl | rfl <;> omega)
  clear hx2 hF3 hC
  generalize hpe : (⟨((1 : Nat) : Int), nameA, ⟨#[104, 105]⟩, 9⟩ : PackD) = p at *
  have hp0 : p.cells = [.int .i64 1, .string nameA, .string ⟨#[104, 105]⟩, .int .i64 9] := by rw [← hpe]; rfl
  replace hp0 := Lib.hid hp0
  clear hpe hok
  go_upto_region 5 with (refine wpList_store_new rfl 34 _ _ rfl p.cells _ _ w3.heap.size rfl rfl rfl 4 rfl (by kernel_rfl) rfl p.one ?_)
  have hq : Cs (w3.alloc (.cells p.cells.toArray 34)) w3.heap.size 0 p.cells := Cs.alloc_new' _ _ _
  have hC4 := hC3.ext ((Fr.refl (fun _ => False) w3).alloc (.cells p.cells.toArray 34))
  have hx4 := hx3.alloc (.cells p.cells.toArray 34)
  generalize w3.alloc (.cells p.cells.toArray 34) = w4 at *
  generalize w3.heap.size = pb at *
  have q0 : w4.cell? ⟨pb, 0, none⟩ = some (.int .i64 1) := hq.get (j := 0) (by rw [hp0.out]; rfl)
  clear hq hC3 hx3
  have hen := entries_any c m _ nameA nameB _ _ w4 hC4 (by rw [size_one]; decide) (by rw [size_one]; decide) (sortOK _ (by rw [size_one]; decide))
  replace hen := Lib.hid hen
  go_wp2_with fail
  refine hen.out.mono ?_
  clear hen
  rintro e w5 ⟨g, cap, d, rfl, hH, ⟨hP, _⟩, _, hx5⟩
  rw [put_one] at hP
  have hP2 := List.perm_singleton.1 hP
  have hd1 : d.size = 1 := by have := congrArg List.length hP2; simpa using this
  obtain ⟨x, hx⟩ : ∃ x, d = #[x] := Array.size_eq_one_iff.1 hd1
  subst hx
  have hk : x.1 = ⟨#[99, 111, 109, 109, 105, 116, 47, 49]⟩ := by
    rw [← ckey_one]
    exact bytes_ext (by simpa using hP2)
  have r0 : w5.cell? ⟨g, 0, none⟩ = some (.string ⟨#[99, 111, 109, 109, 105, 116, 47, 49]⟩) := by
    have := (hH.cell (i := 0) (c := 0) (by show 0 < 1; decide) (by decide)).1
    rw [← hk]
    simpa [encE] using this
  have hC5 := hC4.ext hx5
  have q5 := hx5.cell q0
  have hx := hx4.ext hx5
  clear hP hP2 hk hd1 hH hC4 hx4 hx5 q0
  have hsz : (#[x] : Array (ByteArray × ByteArray)).size = 1 := rfl
  rw [hsz]
  clear hsz
  have hnx := next_any c m _ nameA nameB _ _ w5 hC5
  replace hnx := Lib.hid hnx
  go_wp2_with fail
  refine hnx.out.mono ?_
  rintro e w6 ⟨rfl, rfl⟩
  go_wp2_with fail
  go_ret
  exact ⟨rfl, hx⟩
end Go.Proofs.YtbehebnjbjkafaaDoor
