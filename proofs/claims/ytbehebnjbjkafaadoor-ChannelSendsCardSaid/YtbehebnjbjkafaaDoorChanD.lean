/- cmp.Compare at strings; the order of entries. -/
import Derived.Test.YtbehebnjbjkafaaDoorChanC
import Derived.Shelf.SlSortCmp.InsertionK
namespace Go.Proofs.YtbehebnjbjkafaaDoor
open Go.RowKit Go.Sort

theorem bl_eq : ∀ x y : List UInt8, Op.bytesLess x y = decide (x < y)
  | [], [] => by simp [Op.bytesLess]
  | _ :: _, [] => by simp [Op.bytesLess]
  | [], _ :: _ => by simp [Op.bytesLess]
  | a :: x, b :: y => by
    rw [Op.bytesLess, bl_eq x y]
    rw [Bool.eq_iff_iff]
    simp [List.cons_lt_cons_iff]

/-- cmp.Compare at two strings. -/
def cmpS (s t : ByteArray) : Int := if Op.bytesLess s.toList t.toList = true then -1 else if (!s.toList == t.toList) = true then 1 else 0

set_option maxRecDepth 100000 in
set_option maxHeartbeats 1000000 in
theorem isNaN_any (s : ByteArray) (w : World) : Calls Tryd.prog 31 #[.string s] w fun e w' => e = .returned (.bool false) ∧ w = w' := by
  go_enter Tryd.func31, Tryd.ntmps31
  go_wp2_with fail
  go_ret
  exact ⟨rfl, rfl⟩
set_option maxRecDepth 100000 in
set_option maxHeartbeats 1000000 in
theorem compare_any (s t : ByteArray) (w : World) : Calls Tryd.prog 19 #[.string s, .string t] w fun e w' => e = .returned (.int .i64 (cmpS s t)) ∧ w = w' := by
  have e1 : Op.bytesLess s.toList t.toList = true → cmpS s t = -1 := fun h => by unfold cmpS; rw [if_pos h]
  have e2 : Op.bytesLess s.toList t.toList = false → (!s.toList == t.toList) = true → cmpS s t = 1 := fun h k => by unfold cmpS; rw [if_neg (by rw [h]; decide), if_pos k]
  have e3 : Op.bytesLess s.toList t.toList = false → (!s.toList == t.toList) = false → cmpS s t = 0 := fun h k => by unfold cmpS; rw [if_neg (by rw [h]; decide), if_neg (by rw [k]; decide)]
  replace e1 := Lib.hid e1
  replace e2 := Lib.hid e2
  replace e3 := Lib.hid e3
  go_enter Tryd.func19, Tryd.ntmps19
  go_wp2_with fail
  refine (isNaN_any _ w).mono ?_
  rintro e w2 ⟨rfl, rfl⟩
  go_wp2_with fail
  refine (isNaN_any _ w).mono ?_
  rintro e w2 ⟨rfl, rfl⟩
  go_wp2_with fail
  · go_ret
    exact ⟨by rw [e1.out (by assumption)]; rfl, rfl⟩
  · go_ret
    exact ⟨by rw [e2.out (by assumption) (by assumption)]; rfl, rfl⟩
  · go_ret
    exact ⟨by rw [e3.out (by assumption) (by assumption)]; rfl, rfl⟩

/-- An entry's cells. -/
def encE (x : ByteArray × ByteArray) : List Value := [.string x.1, .string x.2]
theorem encE_one (x : ByteArray × ByteArray) : ∀ v ∈ encE x, v.oneCell' = true := by
  intro v hv
  simp [encE] at hv
  rcases hv with rfl | rfl <;> rfl
/-- How entries are compared. -/
def cmpE (x y : ByteArray × ByteArray) : Int := cmpS x.1 y.1
theorem ltE (x y : ByteArray × ByteArray) : ltOf cmpE x y = decide (x.1.toList < y.1.toList) := by
  unfold ltOf cmpE cmpS
  rw [bl_eq]
  by_cases h : x.1.toList < y.1.toList
  · simp [h]
  · simp only [h, decide_false, Bool.false_eq_true, if_false]
    split <;> simp
theorem swoE : SWO (ltOf cmpE) := by
  refine ⟨fun x => ?_, fun x y z h1 h2 => ?_, fun x y z h1 h2 => ?_⟩
  · rw [ltE]; simp [List.lt_irrefl]
  · rw [ltE] at *; simp only [decide_eq_true_eq] at *; exact List.lt_trans h1 h2
  · rw [ltE] at *
    simp only [decide_eq_false_iff_not, List.not_lt] at *
    exact List.le_trans h2 h1

set_option maxRecDepth 100000 in
set_option maxHeartbeats 1000000 in
theorem entryCmp_any (x y : ByteArray × ByteArray) (W : World) :
    Calls Tryd.prog 18 #[.agg (encE x).toArray, .agg (encE y).toArray] W fun e w' => e = .returned (.int .i64 (cmpE x y)) ∧ ∃ q os', w' = grow (W.drewN q) os' := by
  have hcon := fun W' => compare_any x.1 y.1 W'
  have e : cmpS x.1 y.1 = cmpE x y := rfl
  rw [e] at hcon
  clear e
  generalize cmpE x y = r at hcon ⊢
  unfold encE
  obtain ⟨x1, x2⟩ := x
  obtain ⟨y1, y2⟩ := y
  replace hcon := Lib.hid hcon
  go_enter Tryd.func18, Tryd.ntmps18
  go_wp2_with fail
  refine (hcon.out _).mono ?_
  rintro e w' ⟨rfl, rfl⟩
  go_wp2_with fail
  go_ret
  exact ⟨rfl, 0, _, by rw [alloc_eq_grow, alloc_eq_grow, grow_grow]; rfl⟩

theorem cmpLaysE (blk off size : Nat) (w : World) : CmpLays Tryd.prog 18 #[] encE 2 cmpE blk off size w :=
  fun _ _ _ _ x y => entryCmp_any x y _
end Go.Proofs.YtbehebnjbjkafaaDoor
