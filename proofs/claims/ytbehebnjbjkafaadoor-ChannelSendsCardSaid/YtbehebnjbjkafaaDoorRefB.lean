/- The document's answers: digits, keys, finding. -/
import Derived.Test.YtbehebnjbjkafaaDoorRefA
import Derived.Test.YtbehebnjbjkafaaDoorChanE
namespace Go.Proofs.YtbehebnjbjkafaaDoor
open Go.RowKit Go.Maps Go.Sort

theorem wpList_digslice {ops : Array Oper} {rest : List Oper} {o : Oper} {a : Act} {w : World} {Q : Exit → Act → World → Prop} (hg : o.guard = none) (x lo hi : Operand) (ho : o.op = .slice 9 x (some lo) (some hi) none) (k : IntKind) (i : Nat) (h : i < 10)
    (hx : a.eval x = .string ⟨#[48, 49, 50, 51, 52, 53, 54, 55, 56, 57]⟩) (hlo : a.eval lo = .int k i) (hhi : a.eval hi = .int k ((i : Int) + 1))
    (hk : wpList Tryd.prog ops Q rest (a.put o.dst (.string ⟨#[UInt8.ofNat (48 + i)]⟩)) w) : wpList Tryd.prog ops Q (o :: rest) a w := by
  refine wpList_run (by simp [Region.wanted, hg]) _ ?_ hk
  simp only [execOp, ho, hx, hlo, hhi, Option.map]
  clear ho hx hlo hhi hk
  rcases (by omega : i = 0 ∨ i = 1 ∨ i = 2 ∨ i = 3 ∨ i = 4 ∨ i = 5 ∨ i = 6 ∨ i = 7 ∨ i = 8 ∨ i = 9) with rfl | rfl | rfl | rfl | rfl | rfl | rfl | rfl | rfl | rfl <;> kernel_rfl

theorem dig_step (n : Nat) (h : n < 100) : (if n / 10 = 0 then [] else Lib.decDigits (n / 10)) ++ [UInt8.ofNat (48 + n % 10)] = Lib.decDigits n := by
  by_cases h1 : n < 10
  · rw [if_pos (by omega), Lib.decDigits_one h1, Nat.mod_eq_of_lt h1]; rfl
  · rw [if_neg (by omega), Lib.decDigits_two h1 h, Lib.decDigits_one (by omega)]; rfl

/-- The digits under way: s is what was written, n what is left. -/
def DigRel (i n : Nat) (s : List UInt8) : Prop := n < 100 ∧ ((s = [] ∧ n = i) ∨ (s ≠ [] ∧ (if n = 0 then [] else Lib.decDigits n) ++ s = Lib.decDigits i))
theorem DigRel.step {i n : Nat} {s : List UInt8} (h : DigRel i n s) (hn : 0 < n ∨ s = []) : DigRel i (n / 10) (UInt8.ofNat (48 + n % 10) :: s) := by
  obtain ⟨h1, h2⟩ := h
  refine ⟨by omega, Or.inr ⟨by simp, ?_⟩⟩
  have e := dig_step n h1
  have e2 : (if n / 10 = 0 then [] else Lib.decDigits (n / 10)) ++ (UInt8.ofNat (48 + n % 10) :: s) = Lib.decDigits n ++ s := by
    rw [← e]; simp
  rw [e2]
  rcases h2 with ⟨rfl, rfl⟩ | ⟨h3, h4⟩
  · simp
  · rcases hn with hn | hn
    · rwa [if_neg (by omega)] at h4
    · exact absurd hn h3
theorem DigRel.len {i n : Nat} {s : List UInt8} (h : DigRel i n s) (hi : i < 100) : s.length ≤ 2 := by
  rcases h.2 with ⟨rfl, _⟩ | ⟨_, h4⟩
  · simp
  · have := congrArg List.length h4
    have h5 := (decDigits_le hi).1
    rw [List.length_append] at this
    omega
theorem DigRel.done {i : Nat} {s : List UInt8} (h : DigRel i 0 s) (hs : s ≠ []) : s = Lib.decDigits i := by
  rcases h.2 with ⟨rfl, _⟩ | ⟨_, h4⟩
  · exact absurd rfl hs
  · simpa using h4

set_option maxRecDepth 100000 in
set_option maxHeartbeats 1000000 in
theorem rdigits_any (i : Nat) (w : World) (hi : i < 100) : Calls Tryd.prog 21 #[.int .u64 i] w fun e w' => e = .returned (.string ⟨(Lib.decDigits i).toArray⟩) ∧ w = w' := by
  go_enter Tryd.func21, Tryd.ntmps21
  go_wp2_with fail
  go_loopw [0, 3] (fun u v wr => ∃ (n : Nat) (s : List UInt8), u = .int .u64 n ∧ v = .string ⟨s.toArray⟩ ∧ wr = w ∧ DigRel i n s) (fun u v _ => (intOf u).toNat * 4 + (match v with | .string b => 1 - b.size | _ => 0))
  case atStart => exact ⟨i, [], rfl, rfl, rfl, hi, Or.inl ⟨rfl, rfl⟩⟩
  case round =>
    obtain ⟨n, s, rfl, rfl, rfl, hr⟩ := hrel
    have hlt := hr.1
    have hl := hr.len hi
    have hm : n % 10 < 10 := by omega
    have e1 : (n : Int).tmod 10 = ((n % 10 : Nat) : Int) := by rw [Int.tmod_eq_emod_of_nonneg (by omega)]; omega
    have e2 : (n : Int).tdiv 10 = ((n / 10 : Nat) : Int) := by rw [Int.tdiv_eq_ediv_of_nonneg (by omega)]; omega
    by_cases hn : 0 < n
    · have hst := hr.step (Or.inl hn)
      have hni : (0 : Int) < n := by omega
      have hq : n / 10 < n := by omega
      obtain ⟨k, hk⟩ : ∃ k, k = n % 10 := ⟨_, rfl⟩
      obtain ⟨q, hqe⟩ : ∃ q, q = n / 10 := ⟨_, rfl⟩
      rw [← hk] at hst hm e1
      rw [← hqe] at hst hq e2
      have hki : (k : Int) < 10 := by omega
      have hn1 : ¬ 9223372036854775807 < 1 + s.length := by omega
      replace hk := Lib.hid hk
      replace hqe := Lib.hid hqe
      go_wp2_with (refine wpList_digslice rfl _ _ _ rfl .i64 k hm rfl rfl rfl ?_)
      refine ⟨⟨q, UInt8.ofNat (48 + k) :: s, rfl, ?_, trivial, hst⟩, ?_⟩
      · congr 1
        apply bytes_ext
        simp
      · show q * 4 + (1 - _) < n * 4 + _
        omega
    · obtain rfl : n = 0 := by omega
      by_cases hs : s = []
      · subst hs
        have hst := hr.step (Or.inr rfl)
        have e3 : IntKind.u64.wrap ((0 : Nat) : Int) = 0 := rfl
        go_wp2_with (refine wpList_digslice rfl _ _ _ rfl .i64 0 (by decide) rfl rfl rfl ?_)
        exact ⟨⟨0, _, rfl, rfl, trivial, hst⟩, by decide⟩
      · have hd := hr.done hs
        have hn1 : s.isEmpty = false := by simpa using hs
        have hn2 : (Lib.decDigits i).isEmpty = false := hd ▸ hn1
        go_wp2_with fail
        go_ret
        exact ⟨by rw [← hd]; rfl, rfl⟩

set_option maxRecDepth 100000 in
set_option maxHeartbeats 1000000 in
theorem rkey_any (s : ByteArray) (i : Nat) (w : World) (hs : s.size ≤ 100) (hi : i < 100) : Calls Tryd.prog 11 #[.string s, .int .i64 i] w fun e w' => e = .returned (.string (ckey s i)) ∧ w = w' := by
  have hp := rdigits_any i w hi
  replace hp := Lib.hid hp
  have hd := (decDigits_le hi).1
  have e1 : IntKind.u64.wrap (i : Int) = (i : Int) := Int.emod_eq_of_lt (by omega) (by show (i : Int) < 18446744073709551616; omega)
  go_enter Tryd.func11, Tryd.ntmps11
  go_wp2_with fail
  refine hp.out.mono ?_
  rintro e w2 ⟨rfl, rfl⟩
  have hle : ¬ 9223372036854775807 < s.size + 1 + (Lib.decDigits i).length := by omega
  go_wp2_with fail
  go_ret
  exact ⟨rfl, rfl⟩

/-- The entry found at a key. -/
def findF (l : List (ByteArray × ByteArray)) (k : ByteArray) : Option ByteArray := (l.find? fun x => decide (x.1 = k)).map (·.2)
/-- How it is answered. -/
def findV (o : Option ByteArray) : Value := match o with | some v => .tuple #[.string v, .bool true] | none => .tuple #[.string ⟨#[]⟩, .bool false]

theorem findF_at : ∀ (l : List (ByteArray × ByteArray)) (k : ByteArray) (n : Nat) (x : ByteArray × ByteArray), (∀ y ∈ l.take n, ¬ y.1 = k) → l[n]? = some x → x.1 = k → findF l k = some x.2
  | [], _, _, _, _, h, _ => by simp at h
  | y :: l, k, 0, x, _, h, hk => by
    simp at h; subst h
    simp [findF, List.find?_cons, hk]
  | y :: l, k, n + 1, x, hn, h, hk => by
    have h1 : ¬ y.1 = k := hn y (by simp)
    have := findF_at l k n x (fun z hz => hn z (by simp [hz])) (by simpa using h) hk
    unfold findF at *
    rw [List.find?_cons, decide_eq_false h1]
    exact this
theorem findF_none (l : List (ByteArray × ByteArray)) (k : ByteArray) (h : ∀ y ∈ l, ¬ y.1 = k) : findF l k = none := by
  unfold findF
  rw [List.find?_eq_none.2 (by intro x hx; simpa using h x hx)]
  rfl

set_option maxRecDepth 100000 in
set_option maxHeartbeats 1000000 in
theorem find_any (g cap : Nat) (d : Array (ByteArray × ByteArray)) (k : ByteArray) (w : World) (hH : HoldsK encE 2 w g 0 d) (hl : d.size ≤ 1000) : Calls Tryd.prog 10 #[.slice (some ⟨g, 0, none⟩) d.size cap, .string k] w fun e w' =>
    e = .returned (findV (findF d.toList k)) ∧ w = w' := by
  go_enter Tryd.func10, Tryd.ntmps10
  go_wp2_with fail
  go_loopw [6] (fun i wr => ∃ n : Nat, i = .int .i64 n ∧ n ≤ d.size ∧ wr = w ∧ (∀ x ∈ d.toList.take n, ¬ x.1 = k)) (fun i _ => d.size - (intOf i).toNat)
  case atStart => exact ⟨0, rfl, by omega, rfl, by simp⟩
  case round =>
    obtain ⟨n, rfl, hn, rfl, hno⟩ := hrel
    by_cases hn2 : n < d.size
    · have hni : (n : Int) < d.size := by omega
      obtain ⟨x, hx⟩ : ∃ x, d[n]? = some x := ⟨_, Array.getElem?_eq_getElem hn2⟩
      have hxg : d[n]! = x := by rw [getElem!_pos d n hn2]; exact Option.some.inj ((Array.getElem?_eq_getElem hn2).symm.trans hx)
      have c0 := (hH.cell (i := n) (c := 0) hn2 (by decide)).1
      have c1 := (hH.cell (i := n) (c := 1) hn2 (by decide)).1
      rw [hxg] at c0 c1
      replace c0 : wr.cell? ⟨g, n * 2, none⟩ = some (.string x.1) := by simpa [encE] using c0
      replace c1 : wr.cell? ⟨g, n * 2 + 1, none⟩ = some (.string x.2) := by simpa [encE] using c1
      have hxl : d.toList[n]? = some x := by simpa using hx
      have hat := findF_at d.toList k n x hno hxl
      have hst : ¬ x.1 = k → ∀ y ∈ d.toList.take (n + 1), ¬ y.1 = k := by
        intro hk y hy
        rw [List.take_add_one, hxl] at hy
        rcases List.mem_append.1 hy with h | h
        · exact hno y h
        · simp at h; subst h; exact hk
      obtain ⟨r, hr⟩ : ∃ r, r = findF d.toList k := ⟨_, rfl⟩
      rw [← hr] at hat
      replace hr := Lib.hid hr
      replace hat := Lib.hid hat
      replace hst := Lib.hid hst
      replace hx := Lib.hid hx
      replace hxl := Lib.hid hxl
      replace hxg := Lib.hid hxg
      go_wp2_with fail
      · have hk : x.1 = k := bytes_ext (by rw [← Lib.toList_data, ← Lib.toList_data]; exact eq_of_beq (by assumption))
        go_ret2
        exact ⟨by rw [← hr.out, hat.out hk]; rfl, rfl⟩
      · have hk : ¬ x.1 = k := by
          intro e
          have : (x.1.toList == k.toList) = false := by assumption
          rw [e] at this
          simp at this
        exact ⟨⟨n + 1, rfl, by omega, trivial, hst.out hk⟩, by simp [intOf]; omega⟩
    · obtain rfl : n = d.size := by omega
      have hno2 := findF_none d.toList k (by have := hno; rwa [List.take_of_length_le (by simp)] at this)
      clear hno
      replace hno2 := Lib.hid hno2
      go_wp2_with fail
      go_ret2
      exact ⟨by rw [hno2.out]; rfl, rfl⟩
end Go.Proofs.YtbehebnjbjkafaaDoor
