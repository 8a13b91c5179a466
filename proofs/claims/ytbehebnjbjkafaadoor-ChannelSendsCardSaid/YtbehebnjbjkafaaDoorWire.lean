/- Package wire's Writer: fields as bytes. -/
import Derived.Test.YtbehebnjbjkafaaDoorBlakeG
import Derived.Test.YtbehebnjbjkafaaDoorShelf
namespace Go.Proofs.YtbehebnjbjkafaaDoor
open Go.RowKit

/-- The bytes of a text. -/
def sb (s : ByteArray) : List Int := s.data.toList.map fun c => (c.toNat : Int)
theorem u8s_sb (s : ByteArray) : u8s (sb s) = Lib.byteCells s.data.toList := by simp [u8s, sb, Lib.byteCells]
theorem length_sb (s : ByteArray) : (sb s).length = s.size := by simp [sb]
theorem bytes_sb (s : ByteArray) : Bytes (sb s) := by
  intro x hx
  simp only [sb, List.mem_map] at hx
  obtain ⟨c, _, rfl⟩ := hx
  exact ⟨by omega, by have := c.toNat_lt; omega⟩
/-- A number's bytes, the highest first. -/
def beF (n : Int) (size : Nat) : List Int := (List.range size).map fun i => n / 2 ^ (8 * (size - 1 - i)) % 256
theorem length_beF (n : Int) (k : Nat) : (beF n k).length = k := by simp [beF]
theorem bytes_beF (n : Int) (k : Nat) : Bytes (beF n k) := by
  intro x hx
  simp only [beF, List.mem_map] at hx
  obtain ⟨i, _, rfl⟩ := hx
  exact ⟨Int.emod_nonneg _ (by decide), Int.emod_lt_of_pos _ (by decide)⟩

/-- Block b is a Writer of the call's own (from B on) that holds the bytes bs. -/
def Wr (B b : Nat) (bs : List Int) (bad : Bool) (w : World) : Prop :=
  LibA.IsBuffer 95 (fun i => if i = 3 then some (.bool bad) else none) 5 B b 0 (u8s bs) w ∧ B ≤ w.heap.size
/-- What a call of a Writer's leaves alone. -/
structure WF (B b : Nat) (w w' : World) : Prop where
  below : Below B w w'
  kept : Lib.OthersKept 5 (some b) w w'
theorem WF.refl (B b : Nat) (w : World) : WF B b w w := ⟨Below.refl _ _, Lib.OthersKept.refl _ _ _⟩
theorem WF.trans {B b : Nat} {w w1 w2 : World} (h : WF B b w w1) (k : WF B b w1 w2) : WF B b w w2 := ⟨h.below.trans k.below, h.kept.trans k.kept⟩
theorem WF.drew {B b : Nat} {w w1 : World} (h : WF B b w w1) : WF B b w w1.drew := ⟨h.below.drew, h.kept.drew⟩
theorem WF.alloc {B b : Nat} {w w1 : World} (h : WF B b w w1) (hB : B ≤ w1.heap.size) (o : Obj) : WF B b w (w1.alloc o) := ⟨h.below.alloc hB _, h.kept.alloc _⟩
theorem WF.row {B b : Nat} {w w1 : World} (h : WF B b w w1) {k : Nat} {c : Array Value} {T : TypeId} {fr : Nat × Nat} (hk : w.heap[k]? = some (.cells c T fr)) (hb : k ≠ b) (hT : T ≠ 5) : w1.heap[k]? = some (.cells c T fr) :=
  h.kept k _ hk (by simpa using hb) (fun c' fz e => by injection e with _ e2 _; exact hT e2)
theorem Wr.lt {B b : Nat} {bs : List Int} {bad : Bool} {w : World} (h : Wr B b bs bad w) : b < w.heap.size := LibA.IsBuffer.lt h.1
theorem Wr.le {B b : Nat} {bs : List Int} {bad : Bool} {w : World} (h : Wr B b bs bad w) : B ≤ b := h.1.1
theorem Wr.drew {B b : Nat} {bs : List Int} {bad : Bool} {w : World} (h : Wr B b bs bad w) : Wr B b bs bad w.drew := h
theorem u8s_append (a b : List Int) : u8s (a ++ b) = u8s a ++ u8s b := by simp [u8s]
theorem length_u8s (a : List Int) : (u8s a).length = a.length := by simp [u8s]

theorem writeByte_any (B b : Nat) (bs : List Int) (bad : Bool) (c : Int) (w : World) (h : Wr B b bs bad w) (hl : bs.length ≤ 1000000) :
    Calls Tryd.prog 59 #[.pointer (some ⟨b, 0, none⟩), .int .u8 c] w fun e w' => e = .returned .nilIface ∧ Wr B b (bs ++ [c]) bad w' ∧ WF B b w w' :=
  (Tryd.Buffer_WriteByte_at _ _ B b 0 (u8s bs) c w h.1 h.2 (u8s_one _) (by rw [length_u8s]; omega)).mono fun _ w' ⟨h1, h2, h3, h4⟩ =>
    ⟨h1, ⟨by rw [u8s_append]; exact h2, Nat.le_trans h.2 h3.size⟩, h3, h4⟩

set_option maxRecDepth 100000 in
set_option maxHeartbeats 1000000 in
theorem put_any (B b : Nat) (bs : List Int) (bad : Bool) (n : Int) (k : Nat) (w : World) (h : Wr B b bs bad w) (hl : bs.length ≤ 100000) (hk : k ≤ 8) (hn : 0 ≤ n ∧ n < 18446744073709551616) :
    Calls Tryd.prog 43 #[.pointer (some ⟨b, 0, none⟩), .int .u64 n, .int .i64 k] w fun e w' => e = .returned (.tuple #[]) ∧ Wr B b (bs ++ beF n k) bad w' ∧ WF B b w w' := by
  clear hn
  go_enter Tryd.func43, Tryd.ntmps43
  go_wp2_with fail
  go_loopw [6] (fun i wr => ∃ j : Nat, j ≤ k ∧ i = .int .i64 ((j : Int) - 1) ∧ Wr B b (bs ++ (beF n k).take (k - j)) bad wr ∧ WF B b w wr) (fun i _ => ((intOf i) + 1).toNat)
  case atStart => exact ⟨k, Nat.le_refl _, by rfl, by simpa using h, WF.refl _ _ _⟩
  case round =>
    obtain ⟨j, hj, rfl, hW, hF⟩ := hrel
    by_cases h0 : 1 ≤ j
    · obtain ⟨i, rfl⟩ : ∃ i, j = i + 1 := ⟨j - 1, by omega⟩
      have e0 : ((i + 1 : Nat) : Int) - 1 = (i : Int) := by omega
      rw [e0]
      clear e0
      have hi8 : (i : Int) ≤ 7 := by omega
      obtain ⟨f, hf⟩ : ∃ f, f = 8 * i := ⟨_, rfl⟩
      have e1 : IntKind.i64.wrap (8 * (i : Int)) = (f : Int) := by rw [IntKind.wrap_i64]; omega
      have e2 : min f 64 = f := Nat.min_eq_left (by omega)
      replace hf := Lib.hid hf
      go_wp2_with fail
      go_still_tail 8, (by kernel_rfl)
      change wpList _ _ _ _ _ wr.drew
      go_wp2_with fail
      refine (writeByte_any B b _ bad _ wr.drew hW.drew (by simp [length_beF]; omega)).mono ?_
      rintro e w2 ⟨rfl, hW2, hF2⟩
      go_wp2_with fail
      go_roundw
      case rel =>
        have e3 : bs ++ (beF n k).take (k - (i + 1)) ++ [n / 2 ^ f % 256] = bs ++ (beF n k).take (k - i) := by
          rw [List.append_assoc]
          congr 1
          have e4 : k - i = k - (i + 1) + 1 := by omega
          rw [e4, List.take_succ_eq_append_getElem (by rw [length_beF]; omega)]
          congr 2
          have e5 : k - 1 - (k - (i + 1)) = i := by omega
          simp [beF, e5, hf.out]
        rw [e3] at hW2
        have e6 : Value.int IntKind.i64 ((i : Int) - 1) = .int .i64 ((i : Int) - 1) := rfl
        first
        | exact ⟨i, by omega, e6, hW2, (hF.drew).trans hF2⟩
        | ((repeat apply Exists.intro); exact ⟨⟨i, by omega, e6, hW2, (hF.drew).trans hF2⟩, rfl⟩)
      case measure => simp [intOf]
    · obtain rfl : j = 0 := by omega
      have e0 : ((0 : Nat) : Int) - 1 = -1 := rfl
      rw [e0]
      clear e0
      go_wp2_with fail
      go_end0
      rw [Nat.sub_zero, List.take_of_length_le (by rw [length_beF]; exact Nat.le_refl _)] at hW
      exact ⟨rfl, hW, hF⟩

set_option maxHeartbeats 400000 in
theorem newWriter_any (w : World) :
    Calls Tryd.prog 37 #[] w fun e w' => e = .returned (.pointer (some ⟨w.heap.size, 0, none⟩)) ∧ Wr w.heap.size w.heap.size [] false w' ∧ Ext w w' := by
  go_enter Tryd.func37, Tryd.ntmps37
  go_wp2_with fail
  go_ret
  refine ⟨rfl, ⟨LibA.zero_isBuffer (Nat.le_refl _) (lr := 0) ⟨_, heap_alloc_new _ _, rfl, rfl, rfl, ?_⟩, by simp⟩, (Fr.refl _ _).alloc _⟩
  intro i hi
  match i, hi with
  | 3, _ => rfl
  | i + 4, _ => rfl

set_option maxRecDepth 100000 in
set_option maxHeartbeats 400000 in
theorem word_any (B b : Nat) (bs : List Int) (bad : Bool) (n : Int) (w : World) (h : Wr B b bs bad w) (hl : bs.length ≤ 100000) (hn : 0 ≤ n ∧ n < 18446744073709551616) :
    Calls Tryd.prog 42 #[.pointer (some ⟨b, 0, none⟩), .int .u64 n] w fun e w' => e = .returned (.tuple #[]) ∧ Wr B b (bs ++ beF n 8) bad w' ∧ WF B b w w' := by
  have hp := put_any B b bs bad n 8 w h hl (by omega) hn
  replace hp := Lib.hid hp
  clear hn
  go_enter Tryd.func42, Tryd.ntmps42
  go_wp2_with fail
  refine hp.out.mono ?_
  rintro e w2 ⟨rfl, h2, h3⟩
  go_wp2_with fail
  go_end0
  exact ⟨rfl, h2, h3⟩

set_option maxRecDepth 100000 in
set_option maxHeartbeats 400000 in
theorem number_any (B b : Nat) (bs : List Int) (bad : Bool) (n : Int) (w : World) (h : Wr B b bs bad w) (hl : bs.length ≤ 100000) :
    Calls Tryd.prog 26 #[.pointer (some ⟨b, 0, none⟩), .int .i64 n] w fun e w' => e = .returned (.tuple #[]) ∧ Wr B b (bs ++ beF (n % 18446744073709551616) 8) bad w' ∧ WF B b w w' := by
  have hp := word_any B b bs bad (n % 18446744073709551616) w h hl ⟨Int.emod_nonneg _ (by decide), Int.emod_lt_of_pos _ (by decide)⟩
  have e : n % 18446744073709551616 = IntKind.u64.wrap n := rfl
  rw [e] at hp ⊢
  clear e
  replace hp := Lib.hid hp
  go_enter Tryd.func26, Tryd.ntmps26
  go_wp2_with fail
  refine hp.out.mono ?_
  rintro e w2 ⟨rfl, h2, h3⟩
  go_wp2_with fail
  go_end0
  exact ⟨rfl, h2, h3⟩
end Go.Proofs.YtbehebnjbjkafaaDoor
