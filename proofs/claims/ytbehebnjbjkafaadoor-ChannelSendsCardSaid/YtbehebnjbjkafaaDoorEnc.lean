/- Encodings: their parts, and what an encoding answers. -/
import Derived.Test.YtbehebnjbjkafaaDoorTypes
namespace Go.Proofs.YtbehebnjbjkafaaDoor
open Go.RowKit

def betw (a n b : Int) : Bool := decide (a ≤ n) && decide (n ≤ b)

def numB (n : Int) : List Int := beF (n % 18446744073709551616) 8
def textB (s : ByteArray) : List Int := beF s.size 2 ++ sb s
theorem length_numB (n : Int) : (numB n).length = 8 := length_beF _ _
theorem length_textB (s : ByteArray) : (textB s).length = s.size + 2 := by simp [textB, length_beF, length_sb]; omega
theorem bytes_numB (n : Int) : Bytes (numB n) := bytes_beF _ _
theorem Bytes.append {a b : List Int} (h : Bytes a) (k : Bytes b) : Bytes (a ++ b) := by
  intro x hx
  rcases List.mem_append.1 hx with h1 | h1
  · exact h x h1
  · exact k x h1
theorem bytes_textB (s : ByteArray) : Bytes (textB s) := (bytes_beF _ _).append (bytes_sb s)

theorem nameOk_size {s : ByteArray} (h : nameOk s = true) : s.size ≤ 16 := by
  simp only [nameOk, Bool.and_eq_true, decide_eq_true_eq] at h; exact h.1.2

/-- A row below B still lies there behind a Writer's call. -/
theorem Cs.wf {w w' : World} {B b k off : Nat} {l : List Value} (h : Cs w k off l) (hf : WF B b w w') (hk : k < B) : Cs w' k off l :=
  h.frame (Fr.of_below hf.below) (by omega)
theorem Cs.wext {w w' : World} {k off : Nat} {l : List Value} (h : Cs w k off l) (hf : Ext w w') : Cs w' k off l := h.ext hf
theorem WF.ext {B b : Nat} {w w1 w2 : World} (h : WF B b w w1) (hx : Ext w1 w2) (hB : B ≤ w.heap.size) : WF B b w w2 :=
  ⟨⟨hx.os.trans h.below.os, hx.tape.trans h.below.tape, hx.output.trans h.below.output, Nat.le_trans h.below.size hx.size,
    fun k hk => (hx.block k (by have := h.below.size; omega) (fun e => e)).trans (h.below.block k hk)⟩, h.kept.below (Ext.below hx)⟩
theorem Wr.ext {B b : Nat} {bs : List Int} {bad : Bool} {w w' : World} (h : Wr B b bs bad w) (hx : Ext w w') : Wr B b bs bad w' :=
  ⟨h.1.old (Ext.below hx), Nat.le_trans h.2 hx.size⟩

/-- A kind of struct load: a hash out of a row. -/
theorem Cs.mid {w : World} {b off n : Nat} {l c d e : List Value} (h : Cs w b off l) (hl : l = c ++ (d ++ e)) (hn : off + c.length = n) : Cs w b n d := by
  subst hl; subst hn; exact h.right.left

/-- An encoding's answer. -/
def EncAns (ok : Bool) (bs : List Int) (w : World) (e : Ending) (w' : World) : Prop :=
  Ext w w' ∧ if ok then ∃ v, e = .returned (.tuple #[v, .int .i64 0]) ∧ SlB w' v bs else e = .returned (.tuple #[.slice none 0 0, .int .i64 61])

/-- The answer of a hash of something: its bytes' digest, or the error. -/
def HashAns (ok : Bool) (x : Hash) : Ending := .returned (.tuple #[.agg (if ok then x else zeroH).cells.toArray, .int .i64 (if ok then 0 else 61)])
theorem hashAns_bad (x : Hash) : HashAns false x = .returned (.tuple #[.agg zeroH.cells.toArray, .int .i64 61]) := rfl
theorem hashAns_ok (x : Hash) : HashAns true x = .returned (.tuple #[.agg x.cells.toArray, .int .i64 0]) := rfl
end Go.Proofs.YtbehebnjbjkafaaDoor
