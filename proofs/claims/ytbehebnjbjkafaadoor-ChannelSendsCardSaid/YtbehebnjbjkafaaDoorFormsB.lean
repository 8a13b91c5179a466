/- Package forms: names; what is thrown is caught; an encoding. -/
import Derived.Test.YtbehebnjbjkafaaDoorForms
import Derived.Lib.ConvBytes
namespace Go.Proofs.YtbehebnjbjkafaaDoor
open Go.RowKit

def letterB (c : Int) : Bool := decide (97 ≤ c) && decide (c ≤ 122)
/-- May a name be? -/
def nameOk (s : ByteArray) : Bool := decide (1 ≤ s.size) && decide (s.size ≤ 16) && (sb s).all letterB

set_option maxRecDepth 100000 in
set_option maxHeartbeats 800000 in
theorem name_any (s : ByteArray) (w : World) (hs : s.size ≤ maxLen) : Calls Tryd.prog 41 #[.string s] w fun e w' => e = chk (nameOk s) ∧ Ext w w' := by
  have hw := within_any s.size 1 16 w
  replace hw := Lib.hid hw
  by_cases hsz : 1 ≤ s.size ∧ s.size ≤ 16
  · obtain ⟨h1, h2⟩ := hsz
    have e0 : (decide ((1 : Int) ≤ s.size) && decide ((s.size : Int) ≤ 16)) = true := by simp; omega
    replace e0 := Lib.hid e0
    have hcv := Lib.run_convert_string_bytes (P := Tryd.prog) w 9 51 5 s rfl rfl rfl
    go_enter Tryd.func41, Tryd.ntmps41
    go_wp2_with fail
    refine hw.out.mono ?_
    rintro e w' ⟨rfl, rfl⟩
    simp only [chk, e0.out, if_true]
    go_wp2_with fail
    have hx0 : Ext w (Lib.bytesWorld w 5 s) := ⟨rfl, rfl, rfl, by simp [Lib.bytesWorld_size], fun k hk _ => Lib.bytesWorld_at_old w _ s k hk⟩
    have hc0 : ∀ j : Nat, j < s.size → ∀ c, (sb s)[j]? = some c → (Lib.bytesWorld w 5 s).cell? ⟨w.heap.size, j, none⟩ = some (.int .u8 c) := by
      intro j hj c hc
      rw [Lib.bytesWorld_cell w _ s j hj]
      simp only [sb, List.getElem?_map, Option.map_eq_some_iff] at hc
      obtain ⟨d, hd, rfl⟩ := hc
      rw [List.getD_eq_getElem?_getD, hd]
      rfl
    clear hcv
    generalize hgc : grownCap w s.size 0 5 = cap
    clear hgc
    generalize hW0 : Lib.bytesWorld w 5 s = W0 at *
    clear hW0
    go_loopw [10] (fun i wr => ∃ j : Nat, j ≤ s.size ∧ i = .int .i64 j ∧ wr = W0 ∧ ((sb s).take j).all letterB = true) (fun i _ => (s.size - (intOf i)).toNat)
    case atStart => exact ⟨0, Nat.zero_le _, rfl, rfl, rfl⟩
    case round =>
      obtain ⟨j, hj, rfl, rfl, hl⟩ := hrel
      by_cases hjs : j < s.size
      · obtain ⟨c, hc⟩ : ∃ c, (sb s)[j]? = some c := ⟨_, List.getElem?_eq_getElem (by rw [length_sb]; exact hjs)⟩
        have hcc := hc0 j hjs c hc
        have hj1 : (j : Int) < s.size := by omega
        have hj2 : (j : Int) ≤ 16 := by omega
        have hbs : (sb s).take (j + 1) = (sb s).take j ++ [c] := by rw [List.take_add_one, hc]; rfl
        by_cases hg : 97 ≤ c
        · by_cases hk : c ≤ 122
          · have hp := must_any true wr
            replace hp := Lib.hid hp
            have hlb : letterB c = true := by simp [letterB, hg, hk]
            replace hlb := Lib.hid hlb
            replace hbs := Lib.hid hbs
            replace hc := Lib.hid hc
            go_wp2_with fail
            refine hp.out.mono ?_
            rintro e w' ⟨rfl, rfl⟩
            simp only [chk, if_true]
            go_wp2_with fail
            go_roundw
            case rel =>
              have e9 : ((sb s).take (j + 1)).all letterB = true := by rw [hbs.out, List.all_append, hl]; simp [hlb.out]
              have e6 : Value.int IntKind.i64 ((j : Int) + 1) = .int .i64 ((j + 1 : Nat) : Int) := by simp
              repeat (first | exact ⟨j + 1, hjs, e6, by first | rfl | trivial, e9⟩ | exact ⟨⟨j + 1, hjs, e6, by first | rfl | trivial, e9⟩, rfl⟩ | apply Exists.intro)
            case measure => simp [intOf]; omega
          · have hn0 : nameOk s = false := by
              unfold nameOk
              have : (sb s).all letterB = false := by
                rw [List.all_eq_false]
                exact ⟨c, List.mem_of_getElem? hc, by simp [letterB]; omega⟩
              rw [this, Bool.and_false]
            replace hn0 := Lib.hid hn0
            have hp := must_any false wr
            replace hp := Lib.hid hp
            replace hbs := Lib.hid hbs
            replace hc := Lib.hid hc
            go_wp2_with fail
            refine hp.out.mono ?_
            rintro e w' ⟨rfl, rfl⟩
            exact ⟨rfl, by rw [hn0.out]; rfl, hx0⟩
        · have hn0 : nameOk s = false := by
            unfold nameOk
            have : (sb s).all letterB = false := by
              rw [List.all_eq_false]
              exact ⟨c, List.mem_of_getElem? hc, by simp [letterB]; omega⟩
            rw [this, Bool.and_false]
          replace hn0 := Lib.hid hn0
          have hp := must_any false wr
          replace hp := Lib.hid hp
          replace hbs := Lib.hid hbs
          replace hc := Lib.hid hc
          have hgf : decide (c ≥ 97) = false := by simpa using hg
          go_wp2_with fail
          refine hp.out.mono ?_
          rintro e w' ⟨rfl, rfl⟩
          exact ⟨rfl, by rw [hn0.out]; rfl, hx0⟩
      · obtain rfl : j = s.size := by omega
        rw [List.take_of_length_le (by rw [length_sb]; exact Nat.le_refl _)] at hl
        have hn1 : nameOk s = true := by
          unfold nameOk
          rw [hl]
          simp; omega
        replace hn1 := Lib.hid hn1
        go_wp2_with fail
        go_end0
        exact ⟨by rw [hn1.out]; rfl, hx0⟩
  · go_enter Tryd.func41, Tryd.ntmps41
    go_wp2_with fail
    refine hw.out.mono ?_
    rintro e w' ⟨rfl, rfl⟩
    have e0 : (decide ((1 : Int) ≤ s.size) && decide ((s.size : Int) ≤ 16)) = false := by simp; omega
    have e1 : nameOk s = false := by
      unfold nameOk
      have : (decide (1 ≤ s.size) && decide (s.size ≤ 16)) = false := by simp; omega
      rw [this]; rfl
    rw [e0]
    exact ⟨rfl, by rw [e1]; rfl, Fr.refl _ _⟩
end Go.Proofs.YtbehebnjbjkafaaDoor
