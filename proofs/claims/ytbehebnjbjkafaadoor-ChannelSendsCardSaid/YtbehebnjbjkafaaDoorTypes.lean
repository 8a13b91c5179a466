/- What the program's structs hold, and their cells. -/
import Derived.Test.YtbehebnjbjkafaaDoorFormsC
namespace Go.Proofs.YtbehebnjbjkafaaDoor
open Go.RowKit

def I64 (n : Int) : Prop := -9223372036854775808 ≤ n ∧ n ≤ 9223372036854775807
def U64 (n : Int) : Prop := 0 ≤ n ∧ n < 18446744073709551616
instance (n : Int) : Decidable (I64 n) := by unfold I64; infer_instance
instance (n : Int) : Decidable (U64 n) := by unfold U64; infer_instance

structure VoteD where
  chain : ByteArray
  height : Int
  round : Int
  type : Int
  block : Hash
  key : Int
  r : Int
  s : Int
def VoteD.cells (v : VoteD) : List Value := .string v.chain :: .int .i64 v.height :: .int .i64 v.round :: .int .i64 v.type :: (v.block.cells ++ [.int .u64 v.key, .int .u64 v.r, .int .u64 v.s])
structure VoteD.wf (v : VoteD) : Prop where
  chain : v.chain.size ≤ maxLen
  height : I64 v.height
  round : I64 v.round
  type : I64 v.type
  key : U64 v.key
  r : U64 v.r
  s : U64 v.s
theorem VoteD.length_cells (v : VoteD) : v.cells.length = 39 := by simp [VoteD.cells, Hash.length_cells]

structure ValD where
  key : Int
  power : Int
  deriving DecidableEq
def ValD.cells (v : ValD) : List Value := [.int .u64 v.key, .int .i64 v.power]
def ValD.wf (v : ValD) : Prop := U64 v.key ∧ I64 v.power

structure HeaderD where
  chain : ByteArray
  height : Int
  time : Int
  last : Hash
  set : Hash
  next : Hash
  data : Hash
  app : Hash
def HeaderD.cells (h : HeaderD) : List Value := .string h.chain :: .int .i64 h.height :: .int .i64 h.time :: (h.last.cells ++ (h.set.cells ++ (h.next.cells ++ (h.data.cells ++ h.app.cells))))
structure HeaderD.wf (h : HeaderD) : Prop where
  chain : h.chain.size ≤ maxLen
  height : I64 h.height
  time : I64 h.time
theorem HeaderD.length_cells (h : HeaderD) : h.cells.length = 163 := by simp [HeaderD.cells, Hash.length_cells]

structure SealD where
  key : Int
  r : Int
  s : Int
  deriving DecidableEq
def SealD.cells (x : SealD) : List Value := [.int .u64 x.key, .int .u64 x.r, .int .u64 x.s]
def SealD.wf (x : SealD) : Prop := U64 x.key ∧ U64 x.r ∧ U64 x.s

structure CommitD where
  height : Int
  round : Int
  block : Hash
  seals : List SealD

/-- An element that is a struct of the cells f x. -/
def RC {α : Type} (f : α → List Value) (_ : World) (cs : List Value) (x : α) : Prop := cs = f x
/-- A slice of structs of n cells each. -/
abbrev SlC {α : Type} (n : Nat) (f : α → List Value) (w : World) (v : Value) (l : List α) : Prop := Sl n (RC f) w v l
abbrev SlV (w : World) (v : Value) (l : List ValD) : Prop := SlC 2 ValD.cells w v l
abbrev SlS (w : World) (v : Value) (l : List SealD) : Prop := SlC 3 SealD.cells w v l
theorem SlC.ext {α : Type} {n : Nat} {f : α → List Value} {w w' : World} {v : Value} {l : List α} (h : SlC n f w v l) (hf : Ext w w') : SlC n f w' v l := Sl.ext h hf (fun _ _ e => e)
theorem Sl.val {α : Type} {sz : Nat} {R : World → List Value → α → Prop} {w : World} {v : Value} {l : List α} (h : Sl sz R w v l) : ∃ p cap, v = .slice p l.length cap := by
  rcases h with ⟨rfl, rfl⟩ | ⟨a, off, cap, rfl, _⟩
  · exact ⟨none, 0, rfl⟩
  · exact ⟨_, cap, rfl⟩

/-- The cells of a commit, whose seals are the slice v. -/
def CommitD.cells (c : CommitD) (v : Value) : List Value := .int .i64 c.height :: .int .i64 c.round :: (c.block.cells ++ [v])
structure CommitD.wf (c : CommitD) : Prop where
  height : I64 c.height
  round : I64 c.round
  seals : ∀ x ∈ c.seals, x.wf
theorem CommitD.length_cells (c : CommitD) (v : Value) : (c.cells v).length = 35 := by simp [CommitD.cells, Hash.length_cells]
end Go.Proofs.YtbehebnjbjkafaaDoor
