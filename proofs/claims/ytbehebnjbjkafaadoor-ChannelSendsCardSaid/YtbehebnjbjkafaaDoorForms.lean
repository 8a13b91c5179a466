/- Package forms: what is not right is thrown, and caught. -/
import Derived.Test.YtbehebnjbjkafaaDoorWireB
import Derived.Defers
import Derived.Recover
namespace Go.Proofs.YtbehebnjbjkafaaDoor
open Go.RowKit

/-- What is thrown where something is not right. -/
def thrown : List PanicEntry := [{ v := .iface 117 (.agg #[]), recovered := false }]
/-- How a check ends. -/
def chk (ok : Bool) : Ending := if ok then .returned (.tuple #[]) else .panicked thrown

set_option maxHeartbeats 400000 in
theorem must_any (ok : Bool) (w : World) : Calls Tryd.prog 39 #[.bool ok] w fun e w' => e = chk ok ∧ w = w' := by
  have hnot : ∀ (x : Bool) (w : World), (Op.unary .not (.bool x)).run Tryd.prog w = .ok (.bool (!x)) w := fun _ _ => rfl
  cases ok
  · go_enter Tryd.func39, Tryd.ntmps39
    go_wp2
    exact ⟨rfl, rfl, rfl⟩
  · go_enter Tryd.func39, Tryd.ntmps39
    go_wp2
    go_end0
    exact ⟨rfl, rfl⟩

set_option maxHeartbeats 400000 in
theorem within_any (n a b : Int) (w : World) : Calls Tryd.prog 40 #[.int .i64 n, .int .i64 a, .int .i64 b] w fun e w' => e = chk (decide (a ≤ n) && decide (n ≤ b)) ∧ w = w' := by
  by_cases h1 : a ≤ n
  · by_cases h2 : n ≤ b
    · have hp := must_any true w
      replace hp := Lib.hid hp
      go_enter Tryd.func40, Tryd.ntmps40
      go_wp2_with fail
      refine hp.out.mono ?_
      rintro e w' ⟨rfl, rfl⟩
      simp only [chk, if_true]
      go_wp2_with fail
      go_end0
      exact ⟨by simp [h1, h2, chk], rfl⟩
    · have hp := must_any false w
      replace hp := Lib.hid hp
      go_enter Tryd.func40, Tryd.ntmps40
      go_wp2_with fail
      refine hp.out.mono ?_
      rintro e w' ⟨rfl, rfl⟩
      exact ⟨rfl, by simp [h1, h2, chk], rfl⟩
  · have hp := must_any false w
    replace hp := Lib.hid hp
    have hd : decide (a ≤ n) = false := by simpa using h1
    go_enter Tryd.func40, Tryd.ntmps40
    go_wp2_with fail
    refine hp.out.mono ?_
    rintro e w' ⟨rfl, rfl⟩
    exact ⟨rfl, by simp [hd, chk], rfl⟩
end Go.Proofs.YtbehebnjbjkafaaDoor
