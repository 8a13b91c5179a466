/- Package channel: an entry's key. -/
import Derived.Test.YtbehebnjbjkafaaDoorChanA
import Derived.Test.YtbehebnjbjkafaaDoorShelfB
namespace Go.Proofs.YtbehebnjbjkafaaDoor
open Go.RowKit

/-- An entry's key. -/
def ckey (s : ByteArray) (i : Nat) : ByteArray := s ++ ⟨#[47]⟩ ++ ⟨(Lib.decDigits i).toArray⟩
theorem decDigits_le {i : Nat} (h : i < 100) : (Lib.decDigits i).length ≤ 2 ∧ 1 ≤ (Lib.decDigits i).length := by
  by_cases h1 : i < 10
  · rw [Lib.decDigits_one h1]; simp
  · rw [Lib.decDigits_two h1 h]; simp
theorem ckey_list (s : ByteArray) (i : Nat) : (ckey s i).data.toList = s.data.toList ++ (47 :: Lib.decDigits i) := by
  simp [ckey]
theorem size_list (s : ByteArray) : s.data.toList.length = s.size := by simp
theorem bytes_ext {a b : ByteArray} (h : a.data.toList = b.data.toList) : a = b := by
  cases a; cases b; congr 1; exact Array.toList_inj.1 h
theorem ckey_size (s : ByteArray) {i : Nat} (h : i < 100) : (ckey s i).size ≤ s.size + 3 := by
  rw [← size_list, ckey_list, List.length_append, size_list, List.length_cons]
  have := decDigits_le h
  omega
theorem decDigits_inj {i j : Nat} (hi : i < 100) (hj : j < 100) (h : Lib.decDigits i = Lib.decDigits j) : i = j := by
  have key : ∀ a : Fin 100, ∀ b : Fin 100, ((if a.val < 10 then [UInt8.ofNat (48 + a.val)] else [UInt8.ofNat (48 + a.val / 10), UInt8.ofNat (48 + a.val % 10)]) == (if b.val < 10 then [UInt8.ofNat (48 + b.val)] else [UInt8.ofNat (48 + b.val / 10), UInt8.ofNat (48 + b.val % 10)])) = true → a.val = b.val := by decide +kernel
  have e : ∀ n : Nat, n < 100 → Lib.decDigits n = if n < 10 then [UInt8.ofNat (48 + n)] else [UInt8.ofNat (48 + n / 10), UInt8.ofNat (48 + n % 10)] := by
    intro n hn
    by_cases h1 : n < 10
    · rw [Lib.decDigits_one h1, if_pos h1]
    · rw [Lib.decDigits_two h1 hn, if_neg h1]
  rw [e i hi, e j hj] at h
  exact key ⟨i, hi⟩ ⟨j, hj⟩ (by simp only [beq_iff_eq]; exact h)
theorem ckey_inj {s : ByteArray} {i j : Nat} (hi : i < 100) (hj : j < 100) (h : ckey s i = ckey s j) : i = j := by
  have h2 := congrArg (fun b : ByteArray => b.data.toList) h
  simp only [ckey_list] at h2
  have h3 := List.append_cancel_left h2
  simp only [List.cons.injEq, true_and] at h3
  exact decDigits_inj hi hj h3

set_option maxRecDepth 100000 in
set_option maxHeartbeats 1000000 in
theorem ckey_any (s : ByteArray) (i : Nat) (w : World) (hs : s.size ≤ 100) (hi : i < 100) :
    Calls Tryd.prog 16 #[.string s, .int .i64 i] w fun e w' => e = .returned (.string (ckey s i)) ∧ w = w' := by
  have hp := Tryd.strconv_Itoa_small i hi w
  replace hp := Lib.hid hp
  have hd := (decDigits_le hi).1
  go_enter Tryd.func16, Tryd.ntmps16
  go_wp2_with fail
  refine hp.out.mono ?_
  rintro e w2 ⟨rfl, rfl⟩
  have hle : ¬ 9223372036854775807 < s.size + 1 + (Lib.decDigits i).length := by omega
  go_wp2_with fail
  go_ret
  exact ⟨rfl, rfl⟩
end Go.Proofs.YtbehebnjbjkafaaDoor
