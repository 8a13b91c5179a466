/- The digest of package blake as a plain function: words are Ints from 0 to 2^32 - 1, bytes Ints from 0 to 255. -/
import Derived.WalkKit
namespace Go.Proofs.YtbehebnjbjkafaaDoor
open Go.RowKit

/-- A word of a list. -/
def gt (V : List Int) (i : Nat) : Int := V.getD i 0
def inW (x : Int) : Prop := 0 ≤ x ∧ x < 4294967296
def inB (x : Int) : Prop := 0 ≤ x ∧ x < 256
def Rng (V : List Int) : Prop := ∀ x ∈ V, 0 ≤ x ∧ x < 4294967296
def xorW (a b : Int) : Int := bits BinOp.xor IntKind.u32 a b
def orW (a b : Int) : Int := bits BinOp.or IntKind.u32 a b
def addW (a b : Int) : Int := (a + b) % 4294967296
def rotW (l r x : Int) : Int := bits BinOp.or IntKind.u32 (x * l % 4294967296) (x / r)
def figF (c : Int) : Int := if 97 ≤ c then c - 97 + 10 else (c - 48) % 256

theorem wrap_u32 (x : Int) : 0 ≤ IntKind.u32.wrap x ∧ IntKind.u32.wrap x < 4294967296 := by
  simp only [IntKind.wrap, IntKind.signed, IntKind.bits, Bool.false_and, Bool.false_eq_true, if_false]
  exact ⟨Int.emod_nonneg _ (by decide), Int.emod_lt_of_pos _ (by decide)⟩
theorem bits_u32 (op : BinOp) (a b : Int) : inW (bits op IntKind.u32 a b) := wrap_u32 _
theorem xorW_in (a b : Int) : inW (xorW a b) := bits_u32 _ _ _
theorem rotW_in (l r x : Int) : inW (rotW l r x) := bits_u32 _ _ _
theorem orW_in (a b : Int) : inW (orW a b) := bits_u32 _ _ _
theorem addW_in (a b : Int) : inW (addW a b) := ⟨Int.emod_nonneg _ (by decide), Int.emod_lt_of_pos _ (by decide)⟩
theorem Rng.gt {V : List Int} (h : Rng V) (i : Nat) : 0 ≤ gt V i ∧ gt V i < 4294967296 := by
  unfold Go.Proofs.YtbehebnjbjkafaaDoor.gt
  rw [List.getD_eq_getElem?_getD]
  cases hi : V[i]? with
  | none => simp
  | some x => simpa using h x (List.mem_of_getElem? hi)
theorem Rng.set {V : List Int} (h : Rng V) (i : Nat) {x : Int} (hx : inW x) : Rng (V.set i x) := fun y hy => by
  rcases List.mem_or_eq_of_mem_set hy with h' | h'
  · exact h y h'
  · subst h'; exact hx

/-- The rounds' orders, a figure a word. -/
def ordersL : List Int := [48, 49, 50, 51, 52, 53, 54, 55, 56, 57, 97, 98, 99, 100, 101, 102, 101, 97, 52, 56, 57, 102, 100, 54, 49, 99, 48, 50, 98, 55, 53, 51, 98, 56, 99, 48, 53, 50, 102, 100, 97, 101, 51, 54, 55, 49, 57, 52, 55, 57, 51, 49, 100, 99, 98, 101, 50, 54, 53, 97, 52, 48, 102, 56, 57, 48, 53, 55, 50, 52, 97, 102, 101, 49, 98, 99, 54, 56, 51, 100, 50, 99, 54, 97, 48, 98, 56, 51, 52, 100, 55, 53, 102, 101, 49, 57, 99, 53, 49, 102, 101, 100, 52, 97, 48, 55, 54, 51, 57, 50, 56, 98, 100, 98, 55, 101, 99, 49, 51, 57, 53, 48, 102, 52, 56, 54, 50, 97, 54, 102, 101, 57, 98, 51, 48, 56, 99, 50, 100, 55, 49, 52, 97, 53, 97, 50, 56, 52, 55, 54, 49, 53, 102, 98, 57, 101, 51, 99, 100, 48]
theorem ordersB_get (k : Nat) (h : k < 160) : (((⟨#[48, 49, 50, 51, 52, 53, 54, 55, 56, 57, 97, 98, 99, 100, 101, 102, 101, 97, 52, 56, 57, 102, 100, 54, 49, 99, 48, 50, 98, 55, 53, 51, 98, 56, 99, 48, 53, 50, 102, 100, 97, 101, 51, 54, 55, 49, 57, 52, 55, 57, 51, 49, 100, 99, 98, 101, 50, 54, 53, 97, 52, 48, 102, 56, 57, 48, 53, 55, 50, 52, 97, 102, 101, 49, 98, 99, 54, 56, 51, 100, 50, 99, 54, 97, 48, 98, 56, 51, 52, 100, 55, 53, 102, 101, 49, 57, 99, 53, 49, 102, 101, 100, 52, 97, 48, 55, 54, 51, 57, 50, 56, 98, 100, 98, 55, 101, 99, 49, 51, 57, 53, 48, 102, 52, 56, 54, 50, 97, 54, 102, 101, 57, 98, 51, 48, 56, 99, 50, 100, 55, 49, 52, 97, 53, 97, 50, 56, 52, 55, 54, 49, 53, 102, 98, 57, 101, 51, 99, 100, 48]⟩ : ByteArray)[k]'h).toNat : Int) = gt ordersL k := by
  have key : ∀ i : Fin 160, (((⟨#[48, 49, 50, 51, 52, 53, 54, 55, 56, 57, 97, 98, 99, 100, 101, 102, 101, 97, 52, 56, 57, 102, 100, 54, 49, 99, 48, 50, 98, 55, 53, 51, 98, 56, 99, 48, 53, 50, 102, 100, 97, 101, 51, 54, 55, 49, 57, 52, 55, 57, 51, 49, 100, 99, 98, 101, 50, 54, 53, 97, 52, 48, 102, 56, 57, 48, 53, 55, 50, 52, 97, 102, 101, 49, 98, 99, 54, 56, 51, 100, 50, 99, 54, 97, 48, 98, 56, 51, 52, 100, 55, 53, 102, 101, 49, 57, 99, 53, 49, 102, 101, 100, 52, 97, 48, 55, 54, 51, 57, 50, 56, 98, 100, 98, 55, 101, 99, 49, 51, 57, 53, 48, 102, 52, 56, 54, 50, 97, 54, 102, 101, 57, 98, 51, 48, 56, 99, 50, 100, 55, 49, 52, 97, 53, 97, 50, 56, 52, 55, 54, 49, 53, 102, 98, 57, 101, 51, 99, 100, 48]⟩ : ByteArray)[i.val]'i.isLt).toNat : Int) = gt ordersL i.val := by decide +kernel
  exact key ⟨k, h⟩
theorem ordersL_in (k : Nat) : 0 ≤ gt ordersL k ∧ gt ordersL k < 256 := by
  by_cases h : k < 160
  · have key : ∀ i : Fin 160, 0 ≤ gt ordersL i.val ∧ gt ordersL i.val < 256 := by decide +kernel
    exact key ⟨k, h⟩
  · have : gt ordersL k = 0 := by
      unfold gt; rw [List.getD_eq_getElem?_getD, List.getElem?_eq_none (by have : ordersL.length = 160 := rfl; omega)]; rfl
    rw [this]; decide
/-- The order's number at a place. -/
def ordF (k : Nat) : Nat := (figF (gt ordersL k)).toNat

theorem ordF_lt (k : Nat) (h : k < 160) : ordF k < 16 := by
  have key : ∀ i : Fin 160, ordF i.val < 16 := by decide +kernel
  exact key ⟨k, h⟩
theorem ordF_int (k : Nat) (h : k < 160) : figF (gt ordersL k) = (ordF k : Int) := by
  have key : ∀ i : Fin 160, figF (gt ordersL i.val) = (ordF i.val : Int) := by decide +kernel
  exact key ⟨k, h⟩
/-- Half of a mixing. -/
def halfF (M V : List Int) (a b c d : Nat) (word : Nat) (lx rx ly ry : Int) : List Int :=
  let V1 := V.set a (addW (gt V a) (addW (gt V b) (gt M (ordF word))))
  let V2 := V1.set d (rotW lx rx (xorW (gt V1 d) (gt V1 a)))
  let V3 := V2.set c (addW (gt V2 c) (gt V2 d))
  V3.set b (rotW ly ry (xorW (gt V3 b) (gt V3 c)))
def mixF (M V : List Int) (a b c d : Nat) (at_ : Nat) : List Int :=
  halfF M (halfF M V a b c d at_ 65536 65536 1048576 4096) a b c d (at_ + 1) 16777216 256 33554432 128
def colTo (M V : List Int) (r k : Nat) : List Int := (List.range k).foldl (fun V i => mixF M V i (4 + i) (8 + i) (12 + i) (16 * r + 2 * i)) V
def diaTo (M V : List Int) (r k : Nat) : List Int := (List.range k).foldl (fun V i => mixF M V i (4 + (i + 1) % 4) (8 + (i + 2) % 4) (12 + (i + 3) % 4) (16 * r + 8 + 2 * i)) V
def roundF (M V : List Int) (r : Nat) : List Int := diaTo M (colTo M V r 4) r 4
def roundsTo (M V : List Int) (k : Nat) : List Int := (List.range k).foldl (fun V r => roundF M V r) V
def finTo (h V : List Int) (k : Nat) : List Int := (List.range k).foldl (fun h i => h.set i (xorW (gt h i) (xorW (gt V i) (gt V (i + 8))))) h
theorem colTo_zero (M V : List Int) (r : Nat) : colTo M V r 0 = V := rfl
theorem diaTo_zero (M V : List Int) (r : Nat) : diaTo M V r 0 = V := rfl
theorem roundsTo_zero (M V : List Int) : roundsTo M V 0 = V := rfl
theorem finTo_zero (h V : List Int) : finTo h V 0 = h := rfl
theorem colTo_succ (M V : List Int) (r k : Nat) : colTo M V r (k + 1) = mixF M (colTo M V r k) k (4 + k) (8 + k) (12 + k) (16 * r + 2 * k) := by simp [colTo, List.range_succ]
theorem diaTo_succ (M V : List Int) (r k : Nat) : diaTo M V r (k + 1) = mixF M (diaTo M V r k) k (4 + (k + 1) % 4) (8 + (k + 2) % 4) (12 + (k + 3) % 4) (16 * r + 8 + 2 * k) := by simp [diaTo, List.range_succ]
theorem roundsTo_succ (M V : List Int) (k : Nat) : roundsTo M V (k + 1) = roundF M (roundsTo M V k) k := by simp [roundsTo, List.range_succ]
theorem finTo_succ (h V : List Int) (k : Nat) : finTo h V (k + 1) = (finTo h V k).set k (xorW (gt (finTo h V k) k) (xorW (gt V k) (gt V (k + 8)))) := by simp [finTo, List.range_succ]
/-- The block's words after k bytes. -/
def wordsTo (b : List Int) (k : Nat) : List Int :=
  (List.range k).foldl (fun M i => M.set (i / 4) (orW (gt M (i / 4)) (gt b i * 2 ^ (i % 4 * 8) % 4294967296))) (List.replicate 16 0)
theorem wordsTo_succ (b : List Int) (k : Nat) : wordsTo b (k + 1) = (wordsTo b k).set (k / 4) (orW (gt (wordsTo b k) (k / 4)) (gt b k * 2 ^ (k % 4 * 8) % 4294967296)) := by
  simp [wordsTo, List.range_succ]
def rootsL : List Int := [1779033703, 3144134277, 1013904242, 2773480762, 1359893119, 2600822924, 528734635, 1541459225]

structure St where
  h : List Int
  b : List Int
  n : Nat
  done : Int

def init12 (s : St) : List Int := (s.h ++ rootsL).set 12 (xorW (gt (s.h ++ rootsL) 12) (s.done % 4294967296))
def init13 (s : St) : List Int := (init12 s).set 13 (xorW (gt (init12 s) 13) (s.done / 4294967296))
def init14 (s : St) (last : Bool) : List Int := if last then (init13 s).set 14 (xorW 4294967295 (gt (init13 s) 14)) else init13 s
def blockF (s : St) (last : Bool) : List Int := finTo s.h (roundsTo (wordsTo s.b 64) (init14 s last) 10) 8

/-- A byte more. -/
def stepF (s : St) (c : Int) : St :=
  let s := if s.n = 64 then let d := (s.done + 64) % 18446744073709551616; { s with done := d, h := blockF { s with done := d } false, n := 0 } else s
  { s with b := s.b.set s.n c, n := s.n + 1 }
def newF : St := { h := rootsL.set 0 (xorW (gt rootsL 0) 16842784), b := List.replicate 64 0, n := 0, done := 0 }
def sumF (s : St) : List Int :=
  let t : St := { s with done := (s.done + s.n) % 18446744073709551616, b := s.b.take s.n ++ List.replicate (64 - s.n) 0 }
  let h := blockF t true
  (List.range 32).map fun i => gt h (i / 4) / 2 ^ (i % 4 * 8) % 256
/-- The digest of some bytes. -/
def blakeF (l : List Int) : List Int := sumF (l.foldl stepF newF)
end Go.Proofs.YtbehebnjbjkafaaDoor
