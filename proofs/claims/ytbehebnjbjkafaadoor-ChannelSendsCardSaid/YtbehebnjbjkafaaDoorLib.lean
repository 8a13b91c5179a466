/- Frames of a call, rows of cells in memory, loads and stores of whole structs: lemmas of no program. -/
import Derived.WalkKit
import Derived.WalkSpells
import Derived.WalkLawsBesides
import Derived.Lib.Hide
import Derived.StillTailTactics
import Derived.Deep.QuietTactic
import Derived.BigQuiet
import Derived.Deep.LoopGhost
import Derived.Lib.OthersKept
import Derived.Deep.Cut
import Derived.Laws.CopyOwn
namespace Go.Proofs.YtbehebnjbjkafaaDoor
open Go.RowKit

/-- Of the blocks that w has, those outside F stand in w' as they stood; the streams too. -/
structure Fr (F : Nat → Prop) (w w' : World) : Prop where
  os : w'.os = w.os
  tape : w'.tape = w.tape
  output : w'.output = w.output
  size : w.heap.size ≤ w'.heap.size
  block : ∀ k, k < w.heap.size → ¬ F k → w'.heap[k]? = w.heap[k]?

/-- Nothing that was there has turned. -/
abbrev Ext (w w' : World) : Prop := Fr (fun _ => False) w w'

namespace Fr
variable {F G : Nat → Prop} {w w1 w2 : World}
theorem refl (F : Nat → Prop) (w : World) : Fr F w w := ⟨rfl, rfl, rfl, Nat.le_refl _, fun _ _ _ => rfl⟩
theorem trans (h : Fr F w w1) (k : Fr G w1 w2) (hg : ∀ k, k < w.heap.size → G k → F k) : Fr F w w2 :=
  ⟨k.os.trans h.os, k.tape.trans h.tape, k.output.trans h.output, Nat.le_trans h.size k.size,
   fun i hi hf => (k.block i (Nat.lt_of_lt_of_le hi h.size) (fun e => hf (hg i hi e))).trans (h.block i hi hf)⟩
theorem ext (h : Fr F w w1) (k : Ext w1 w2) : Fr F w w2 := h.trans k (fun _ _ e => e.elim)
theorem mono (h : Fr F w w1) (hf : ∀ k, k < w.heap.size → F k → G k) : Fr G w w1 :=
  ⟨h.os, h.tape, h.output, h.size, fun i hi hg => h.block i hi (fun e => hg (hf i hi e))⟩
theorem of_ext (h : Ext w w1) : Fr F w w1 := h.mono (fun _ _ e => e.elim)
theorem drew (h : Fr F w w1) : Fr F w w1.drew := ⟨h.os, h.tape, h.output, h.size, h.block⟩
theorem drewN (h : Fr F w w1) (n : Nat) : Fr F w (w1.drewN n) := ⟨h.os, h.tape, h.output, h.size, h.block⟩
theorem alloc (h : Fr F w w1) (o : Obj) : Fr F w (w1.alloc o) :=
  h.trans (G := fun _ => False) ⟨rfl, rfl, rfl, by simp, fun k hk _ => Below.heap_alloc _ _ _ hk⟩ (fun _ _ e => e.elim)
theorem setCell (h : Fr F w w1) {p : Addr} (hp : p.block < w.heap.size → F p.block) (u : Value) : Fr F w (w1.setCell p u) :=
  h.trans (G := fun k => k = p.block) ⟨rfl, rfl, rfl, by simp [World.setCell], fun k _ hk => Below.heap_setCell _ _ _ _ hk⟩
    (fun k hk e => by subst e; exact hp hk)
theorem setRow (h : Fr F w w1) {g : Nat} (hp : g < w.heap.size → F g) (cs : Array Value) : Fr F w (w1.setRow g cs) :=
  h.trans (G := fun k => k = g) ⟨rfl, rfl, rfl, by simp, fun k _ hk => setRow_other _ _ _ _ hk⟩
    (fun k hk e => by subst e; exact hp hk)
theorem cell (h : Fr F w w1) {p : Addr} (hp : p.block < w.heap.size) (hf : ¬ F p.block) : w1.cell? p = w.cell? p :=
  World.cell?_of_block (w := w) (h.block p.block hp hf)
theorem frozen (h : Fr F w w1) {p : Addr} (hp : p.block < w.heap.size) (hf : ¬ F p.block) : w1.frozen? p = w.frozen? p :=
  World.frozen?_of_block (w := w) (h.block p.block hp hf)
theorem heap_some (h : Fr F w w1) {k : Nat} {o : Obj} (hk : w.heap[k]? = some o) (hf : ¬ F k) : w1.heap[k]? = some o :=
  (h.block k (Array.getElem?_eq_some_iff.1 hk).1 hf).trans hk
theorem cell_some (h : Fr F w w1) {p : Addr} {v : Value} (hp : w.cell? p = some v) (hf : ¬ F p.block) : w1.cell? p = some v :=
  (h.cell (World.block_lt_of_cell? w p hp) hf).trans hp
theorem below (h : Fr F w w1) {B : Nat} (hB : B ≤ w.heap.size) (hf : ∀ k, k < B → ¬ F k) : Below B w w1 :=
  ⟨h.os, h.tape, h.output, h.size, fun k hk => h.block k (Nat.lt_of_lt_of_le hk hB) (hf k hk)⟩
theorem of_below {B : Nat} (h : Below B w w1) : Fr (fun k => B ≤ k) w w1 :=
  ⟨h.os, h.tape, h.output, h.size, fun k _ hk => h.block k (Nat.lt_of_not_le hk)⟩
end Fr
theorem Ext.of_below {w w1 : World} (h : Below w.heap.size w w1) : Ext w w1 :=
  (Fr.of_below h).mono (fun k hk e => absurd hk (Nat.not_lt_of_le e))
theorem Ext.below {w w1 : World} (h : Ext w w1) : Below w.heap.size w w1 := Fr.below h (Nat.le_refl _) (fun _ _ e => e)
theorem Ext.refl (w : World) : Ext w w := Fr.refl _ w
theorem Ext.cell {w w1 : World} (h : Ext w w1) {p : Addr} {v : Value} (hp : w.cell? p = some v) : w1.cell? p = some v := h.cell_some hp (fun e => e)

/-- The cells cs lie from place off of block b on. -/
def Cs (w : World) (b off : Nat) (cs : List Value) : Prop := ∀ j v, cs[j]? = some v → w.cell? ⟨b, off + j, none⟩ = some v
namespace Cs
variable {w w1 : World} {b off : Nat} {cs cs1 cs2 : List Value}
theorem nil (w : World) (b off : Nat) : Cs w b off [] := fun j v h => by simp at h
theorem get (h : Cs w b off cs) {j : Nat} {v : Value} (hj : cs[j]? = some v) : w.cell? ⟨b, off + j, none⟩ = some v := h j v hj
theorem left (h : Cs w b off (cs1 ++ cs2)) : Cs w b off cs1 := fun j v hj =>
  h j v (by rw [List.getElem?_append_left (List.getElem?_eq_some_iff.1 hj).1]; exact hj)
theorem right (h : Cs w b off (cs1 ++ cs2)) : Cs w b (off + cs1.length) cs2 := fun j v hj => by
  have := h (cs1.length + j) v (by rw [List.getElem?_append_right (by omega)]; simpa using hj)
  rwa [← Nat.add_assoc] at this
theorem right' (h : Cs w b off (cs1 ++ cs2)) {n : Nat} (hn : cs1.length = n) : Cs w b (off + n) cs2 := hn ▸ h.right
theorem head {v : Value} (h : Cs w b off (v :: cs)) : w.cell? ⟨b, off, none⟩ = some v := h 0 v rfl
theorem tail {v : Value} (h : Cs w b off (v :: cs)) : Cs w b (off + 1) cs := h.right (cs1 := [v])
theorem mk_append (h : Cs w b off cs1) (k : Cs w b (off + cs1.length) cs2) : Cs w b off (cs1 ++ cs2) := fun j v hj => by
  by_cases hlt : j < cs1.length
  · exact h j v (by rwa [List.getElem?_append_left hlt] at hj)
  · rw [List.getElem?_append_right (by omega)] at hj
    have := k _ v hj
    rwa [Nat.add_assoc, Nat.add_sub_cancel' (by omega)] at this
theorem cons {v : Value} (h : w.cell? ⟨b, off, none⟩ = some v) (k : Cs w b (off + 1) cs) : Cs w b off (v :: cs) :=
  mk_append (cs1 := [v]) (fun j u hj => by cases j with | zero => simpa using hj ▸ h | succ j => simp at hj) k
theorem of_row {c : Array Value} {T : TypeId} {fr : Nat × Nat} (h : w.heap[b]? = some (.cells c T fr)) : Cs w b 0 c.toList := fun j v hj => by
  rw [cell_of_row w b (0 + j) c T fr h]; simpa using hj
theorem of_row_list {T : TypeId} {fr : Nat × Nat} (h : w.heap[b]? = some (.cells cs.toArray T fr)) : Cs w b 0 cs := by simpa using of_row h
theorem lt (h : Cs w b off cs) (hn : cs ≠ []) : b < w.heap.size := by
  cases cs with
  | nil => exact absurd rfl hn
  | cons v cs => exact World.block_lt_of_cell? w _ h.head
theorem frame (h : Cs w b off cs) {F : Nat → Prop} (hf : Fr F w w1) (hb : ¬ F b) : Cs w1 b off cs := fun j v hj => hf.cell_some (h j v hj) hb
theorem ext (h : Cs w b off cs) (hf : Ext w w1) : Cs w1 b off cs := h.frame hf (fun e => e)
theorem alloc_new (w : World) (c : Array Value) (T : TypeId) : Cs (w.alloc (.cells c T)) w.heap.size 0 c.toList := of_row (heap_alloc_new w _)
theorem alloc_new' (w : World) (cs : List Value) (T : TypeId) : Cs (w.alloc (.cells cs.toArray T)) w.heap.size 0 cs := by simpa using alloc_new w cs.toArray T
end Cs

theorem addr_add (b off j : Nat) : (⟨b, off, none⟩ : Addr).add j = ⟨b, off + j, none⟩ := by
  unfold Addr.add; split <;> simp_all

section
variable {P : Program} {ops : Array Oper} {rest : List Oper} {o : Oper} {a : Act} {w : World} {Q : Exit → Act → World → Prop}

theorem run_loadVar_cs {ty : TypeId} {b off : Nat} {cs : List Value} {d : TypeDesc} (hcs : Cs w b off cs)
    (hu : P.underlying ty = some d) (hd : (match d with | .struct _ | .array _ _ => true | _ => false) = true) (hi : (P.info? ty).map (·.size) = some cs.length) :
    (loadVar ty ⟨b, off, none⟩).run P w = .ok (.agg cs.toArray) w := by
  have hl : (loadCells ⟨b, off, none⟩ cs.length).run P w = .ok cs.toArray w :=
    run_loadCells_list (P := P) w ⟨b, off, none⟩ cs (fun j v hv => by rw [addr_add]; exact hcs j v hv)
  cases hq : P.info? ty with
  | none => simp [hq] at hi
  | some i =>
    have hs : i.size = cs.length := by simpa [hq] using hi
    have hagg : (isAgg ty).run P w = .ok true w := by
      unfold isAgg
      rw [Sem.run_bind, run_underlying hu w]
      cases d <;> simp_all
    simp [loadVar, Sem.run_bind, hagg, sizeOf, typeInfo, hq, hs, hl]

/-- A whole struct or array is read. -/
theorem wpList_load_cs (hgd : o.guard = none) (ty : TypeId) (x : Operand) (ho : o.op = .load ty x)
    (b off : Nat) (hx : a.eval x = .pointer (some ⟨b, off, none⟩)) (cs : List Value) (hcs : Cs w b off cs) (d : TypeDesc)
    (hu : P.underlying ty = some d) (hd : (match d with | .struct _ | .array _ _ => true | _ => false) = true) (n : Nat) (hn : cs.length = n) (hi : (P.info? ty).map (·.size) = some n)
    (h : wpList P ops Q rest (a.put o.dst (.agg cs.toArray)) w) : wpList P ops Q (o :: rest) a w :=
  wpList_plain hgd fun K hK => by
    subst hn
    unfold Oper.wp execOp
    simp only [ho, hx, Instr.loadAt, Instr.sureAddr, Sem.run_bind, Sem.run_pure, Result.andThen_ok, run_loadVar_cs hcs hu hd hi]
    exact hK _ _ h
end

theorem oneCell_cells {v : Value} (h : v.oneCell' = true) : v.cells = #[v] := by cases v <;> simp_all [Value.oneCell', Value.cells]

theorem setRow_alloc (w : World) (c cs : Array Value) (T : TypeId) : (w.alloc (.cells c T)).setRow w.heap.size cs = w.alloc (.cells cs T) := by
  unfold World.setRow World.alloc
  congr 1
  apply Array.ext_getElem?
  intro k
  simp only [Array.getElem?_modify, Array.getElem?_push]
  by_cases hk : w.heap.size = k
  · subst hk; simp
  · rw [if_neg hk, if_neg (Ne.symm hk), if_neg (Ne.symm hk)]

section
variable {P : Program} {ops : Array Oper} {rest : List Oper} {o : Oper} {a : Act} {w : World} {Q : Exit → Act → World → Prop}
/-- A whole struct or array is stored into a row that is known. -/
theorem wpList_store_cs (hgd : o.guard = none) (ty : TypeId) (x y : Operand) (ho : o.op = .store ty x y)
    (b off : Nat) (hx : a.eval x = .pointer (some ⟨b, off, none⟩)) (cs : List Value) (hy : a.eval y = .agg cs.toArray)
    (n : Nat) (hn : cs.length = n) (hi : (P.info? ty).map (·.size) = some n) (h1 : ∀ v ∈ cs, v.oneCell' = true)
    (cur : Array Value) (T : TypeId) (hg : w.heap[b]? = some (.cells cur T (0, 0))) (hfit : off + cs.length ≤ cur.size)
    (h : wpList P ops Q rest (a.put o.dst undef) (w.setRow b (cur.toList.take off ++ cs ++ cur.toList.drop (off + cs.length)).toArray)) : wpList P ops Q (o :: rest) a w :=
  wpList_plain hgd fun K hK => by
    subst hn
    have hst := run_storeCells_at P b off T cs 0 cur w hg (by simpa using hfit) h1
    simp only [Nat.add_zero] at hst
    cases hq : P.info? ty with
    | none => simp [hq] at hi
    | some i =>
      have hs : i.size = cs.length := by simpa [hq] using hi
      unfold Oper.wp execOp
      simp only [List.append_assoc] at hst h
      simp [ho, hx, hy, Instr.storeAt, Instr.sureAddr, Sem.run_bind, storeVar, Value.cells, sizeOf, typeInfo, hq, hs, hst]
      exact hK _ _ h
/-- A whole struct or array is stored into a variable that has just been laid. -/
theorem wpList_store_new (hgd : o.guard = none) (ty : TypeId) (x y : Operand) (ho : o.op = .store ty x y)
    (cs : List Value) (cur : Array Value) (T : TypeId) (g : Nat) (hx : a.eval x = .pointer (some ⟨g, 0, none⟩)) (hgw : g = w.heap.size) (hy : a.eval y = .agg cs.toArray)
    (n : Nat) (hn : cs.length = n) (hi : (P.info? ty).map (·.size) = some n) (hc : cur.size = n) (h1 : ∀ v ∈ cs, v.oneCell' = true)
    (h : wpList P ops Q rest (a.put o.dst undef) (w.alloc (.cells cs.toArray T))) : wpList P ops Q (o :: rest) a (w.alloc (.cells cur T)) := by
  subst hgw
  refine wpList_store_cs hgd ty x y ho w.heap.size 0 hx cs hy n hn hi h1 cur T (heap_alloc_new w _) (by omega) ?_
  rw [setRow_alloc]
  have e : (cur.toList.take 0 ++ cs ++ cur.toList.drop (0 + cs.length)).toArray = cs.toArray := by
    rw [List.drop_of_length_le (by simp; omega)]; simp
  rw [e]
  exact h
end


theorem zeroCells_one (z : Value) (n : Nat) : (Builtin.zeroCells #[z] n).toList = List.replicate n z := by
  apply List.ext_getElem
  · simp [Builtin.zeroCells]
  · intro i h1 h2
    have h : i % 1 = 0 := Nat.mod_one i
    simp [Builtin.zeroCells, h]

/-- clear of a slice that lies in a row that is known. -/
theorem run_clear_row {P : Program} {w : World} (T ty : TypeId)
    (E : TypeId) (hu : P.underlying T = some (.slice E)) (z : Value) (hz : ∀ w : World, (zeroValue E).run P w = .ok z w) (hz1 : z.oneCell' = true)
    (b off n cap : Nat) (cur : Array Value) (B : TypeId) (hg : w.heap[b]? = some (.cells cur B (0, 0))) (hfit : off + n ≤ cur.size) :
    (Builtin.clear_ #[T] ty #[.slice (some ⟨b, off, none⟩) n cap]).run P w = .ok (.tuple #[]) (w.setRow b (cur.toList.take off ++ List.replicate n z ++ cur.toList.drop (off + n)).toArray) := by
  have hzc := oneCell_cells hz1
  have h1 : ∀ v ∈ List.replicate n z, v.oneCell' = true := fun v hv => by rw [List.eq_of_mem_replicate hv]; exact hz1
  have hst := run_storeCells_at P b off B (List.replicate n z) 0 cur w hg (by simpa using hfit) h1
  simp only [Nat.add_zero, List.length_replicate] at hst
  cases n with
  | zero =>
    have e : (cur.toList.take off ++ List.replicate 0 z ++ cur.toList.drop (off + 0)).toArray = cur := by simp
    rw [e, setRow_self w b cur B (0, 0) hg]
    simp [Builtin.clear_, run_underlying hu]
  | succ n =>
    simp only [List.append_assoc] at hst ⊢
    simp [Builtin.clear_, run_underlying hu, hz, hzc, zeroCells_one, hst]
end Go.Proofs.YtbehebnjbjkafaaDoor
