/- Literals whose parts are whole structs or arrays: lemmas of no program. -/
import Derived.Test.YtbehebnjbjkafaaDoorTypes
import Derived.Great.BuildSlice
namespace Go.Proofs.YtbehebnjbjkafaaDoor
open Go.RowKit

/-- The parts lie side by side, from off on. -/
def Dense (place : Nat → Option (Nat × Nat)) : List (Nat × Value) → Nat → Prop
  | [], _ => True
  | (i, v) :: r, off => place i = some (off, v.cells.size) ∧ Dense place r (off + v.cells.size)

theorem fill_side (place : Nat → Option (Nat × Nat)) : ∀ (ps : List (Nat × Value)) (pre t : List Value), Dense place ps pre.length →
    t.length = (ps.map fun p => p.2.cells.toList).flatten.length →
    Instr.fill place (pre ++ t).toArray ps = some (pre ++ (ps.map fun p => p.2.cells.toList).flatten).toArray
  | [], pre, t, _, ht => by
    simp at ht; subst ht; simp [Instr.fill]
  | (i, v) :: r, pre, t, hd, ht => by
    obtain ⟨h1, h2⟩ := hd
    rw [List.map_cons, List.flatten_cons, List.length_append] at ht
    have ht : t.length = v.cells.size + (r.map fun p => p.2.cells.toList).flatten.length := by simpa using ht
    have e : v.cells.toList.length = v.cells.size := by simp
    have h3 : (v.cells.zipIdx.foldl (fun cs (c, j) => cs.setIfInBounds (pre.length + j) c) (pre ++ t).toArray) = (pre ++ v.cells.toList ++ t.drop v.cells.size).toArray := by
      obtain ⟨g1, g2⟩ := Great.foldl_set pre.length v.cells.toList 0 (pre ++ t).toArray
      have e0 : (v.cells.zipIdx.foldl (fun cs (c, j) => cs.setIfInBounds (pre.length + j) c) (pre ++ t).toArray) = ((v.cells.toList.zipIdx 0).foldl (fun cs (x : Value × Nat) => cs.setIfInBounds (pre.length + x.2) x.1) (pre ++ t).toArray) := by
        rw [← Array.foldl_toList, Array.toList_zipIdx]
      rw [e0]
      apply Array.ext_getElem?
      intro k
      rw [g2 k]
      simp only [Nat.add_zero, List.size_toArray, List.length_append, List.getElem?_toArray]
      by_cases hA : pre.length ≤ k ∧ k < pre.length + v.cells.toList.length ∧ k < pre.length + t.length
      · rw [if_pos hA, List.getElem?_append_left (by simp only [List.length_append]; omega), List.getElem?_append_right (by omega)]
      · rw [if_neg hA]
        by_cases hB : k < pre.length
        · rw [List.getElem?_append_left hB, List.append_assoc, List.getElem?_append_left hB]
        · rw [List.getElem?_append_right (by omega), List.getElem?_append_right (by simp only [List.length_append]; omega), List.getElem?_drop]
          congr 1
          simp only [List.length_append]
          omega
    unfold Instr.fill
    simp only [h1]
    rw [if_neg (by simp; omega), h3, fill_side place r (pre ++ v.cells.toList) (t.drop v.cells.size) (by rw [List.length_append, e]; exact h2) (by rw [List.length_drop]; omega)]
    simp [List.append_assoc]

theorem dense_aggs (n : Nat) : ∀ (css : List (List Value)) (i : Nat), (∀ c ∈ css, c.length = n) → Dense (fun i => some (i * n, n)) ((css.zipIdx i).map fun x => (x.2, Value.agg x.1.toArray)) (i * n)
  | [], _, _ => trivial
  | c :: css, i, h => by
    have hc : c.length = n := h c List.mem_cons_self
    rw [List.zipIdx_cons, List.map_cons]
    refine ⟨by simp [Value.cells, hc], ?_⟩
    have := dense_aggs n css (i + 1) (fun c hc => h c (List.mem_cons_of_mem _ hc))
    have e : i * n + (Value.cells (Value.agg c.toArray)).size = (i + 1) * n := by simp [Value.cells, hc, Nat.add_mul]
    rw [e]; exact this

theorem flatten_len {α : Type} (n : Nat) : ∀ css : List (List α), (∀ c ∈ css, c.length = n) → css.flatten.length = css.length * n
  | [], _ => by simp
  | c :: css, h => by
    have := flatten_len n css (fun c hc => h c (List.mem_cons_of_mem _ hc))
    rw [List.flatten_cons, List.length_append, this, h c List.mem_cons_self, List.length_cons, Nat.add_mul]
    omega

section
variable {P : Program} {ops : Array Oper} {rest : List Oper} {o : Oper} {a : Act} {w : World} {Q : Exit → Act → World → Prop}
/-- A slice literal of whole structs or arrays. -/
theorem wpList_buildSlice_cs (hg : o.guard = none) (t e : TypeId) (len : Nat) (parts : Array (Nat × Operand)) (ho : o.op = .buildSlice t len parts)
    (css : List (List Value)) (n : Nat) (hn : ∀ c ∈ css, c.length = n) (hlen : css.length = len)
    (hparts : (parts.toList.map fun p => (p.1, a.eval p.2)) = (css.zipIdx 0).map fun x => (x.2, Value.agg x.1.toArray))
    (hu : P.underlying t = some (.slice e)) (hsz : (P.info? e).map (·.size) = some n) (hz : ((P.info? e).bind (·.zero)).isSome = true)
    (hpos : 0 < len * n) (hsmall : len * n ≤ 2 ^ 24)
    (h : wpList P ops Q rest (a.put o.dst (.slice (some ⟨w.heap.size, 0, none⟩) len len)) (w.alloc (.cells css.flatten.toArray e))) : wpList P ops Q (o :: rest) a w := by
  cases hie : P.info? e with
  | none => simp [hie] at hsz
  | some ie =>
    simp only [hie, Option.map_some, Option.some.injEq, Option.bind_some] at hsz hz
    obtain ⟨z, hzz⟩ := Option.isSome_iff_exists.1 hz
    refine wpList_buildSlice hg t e len parts ho css.flatten.toArray ie z hu hie hzz (by rw [hsz]; omega) (by rw [hsz]; omega) ?_ h
    have hp2 : (parts.map fun (i, x) => (i, a.eval x)).toList = (css.zipIdx 0).map fun x => (x.2, Value.agg x.1.toArray) := by rw [← hparts, Array.toList_map]
    rw [hp2, hsz]
    have h1 := fill_side (fun i => some (i * n, n)) ((css.zipIdx 0).map fun x => (x.2, Value.agg x.1.toArray)) [] ((Array.range (len * n)).map (z.cells[· % z.cells.size]!)).toList
      (by have := dense_aggs n css 0 hn; simpa using this)
    have h2 : (((css.zipIdx 0).map fun x => (x.2, Value.agg x.1.toArray)).map fun p => p.2.cells.toList) = css := by
      rw [List.map_map]
      have : ((fun p : Nat × Value => p.2.cells.toList) ∘ fun x : List Value × Nat => (x.2, Value.agg x.1.toArray)) = fun x => x.1 := by
        funext x; simp [Value.cells]
      rw [this]
      exact List.zipIdx_map_fst 0 css
    rw [h2] at h1
    have h3 : css.flatten.length = len * n := by
      rw [← hlen]; exact flatten_len n css hn
    have h4 := h1 (by rw [h3]; simp)
    rw [List.nil_append, List.nil_append, Array.toArray_toList] at h4
    exact h4
end

theorem results_cs_tmp {P : Program} {fn : Func} {p q : Tmp} {ty : TypeId} (h : fn.results = #[.cell p ty, .tmp q]) (tmps : Array Value) (w : World) (g : Nat) (t : TypeId) (cs : Array Value) (fr : Nat × Nat) (d : TypeDesc)
    (hp : tmps.getD p undef = .pointer (some ⟨g, 0, none⟩)) (hg : w.heap[g]? = some (.cells cs t fr))
    (hu : P.underlying ty = some d) (hd : (match d with | .struct _ | .array _ _ => true | _ => false) = true) (hi : (P.info? ty).map (·.size) = some cs.size) :
    (results fn tmps).run P w = .ok (.tuple #[.agg cs, tmps.getD q undef]) w := by
  have hp' : tmps[p]?.getD undef = .pointer (some ⟨g, 0, none⟩) := by simpa using hp
  simp [results, h, hp', asAddr, run_loadVar_row w g t ty cs fr d hg hu hd hi]

/-- A function whose results are a struct in a variable and something in a slot returns. -/
theorem ret_cs_tmp {P : Program} {fn : Func} {p q : Tmp} {ty t : TypeId} {R : Ending → World → Prop} {a : Act} {w : World} (h : fn.results = #[.cell p ty, .tmp q]) (g : Nat) (hp : a.tmps.getD p undef = .pointer (some ⟨g, 0, none⟩)) (hd : a.defers = [])
    (cs : List Value) (n : Nat) (hn : cs.length = n) (hg : w.heap[g]? = some (.cells cs.toArray t (0, 0))) (d : TypeDesc) (hu : P.underlying ty = some d) (hdd : (match d with | .struct _ | .array _ _ => true | _ => false) = true) (hi : (P.info? ty).map (·.size) = some n)
    (hR : R (.returned (.tuple #[.agg cs.toArray, a.tmps.getD q undef])) w) : bodyPost P fn R .ret a w :=
  bodyPost_ret (v := .tuple #[.agg cs.toArray, a.tmps.getD q undef]) (results_cs_tmp h _ _ g t cs.toArray (0, 0) d hp hg hu hdd (by rw [List.size_toArray, hn]; exact hi)) hd hR
theorem ret_cs {P : Program} {fn : Func} {p : Tmp} {ty t : TypeId} {R : Ending → World → Prop} {a : Act} {w : World} (h : fn.results = #[.cell p ty]) (g : Nat) (hp : a.tmps.getD p undef = .pointer (some ⟨g, 0, none⟩)) (hd : a.defers = [])
    (cs : List Value) (n : Nat) (hn : cs.length = n) (hg : w.heap[g]? = some (.cells cs.toArray t (0, 0))) (d : TypeDesc) (hu : P.underlying ty = some d) (hdd : (match d with | .struct _ | .array _ _ => true | _ => false) = true) (hi : (P.info? ty).map (·.size) = some n)
    (hR : R (.returned (.agg cs.toArray)) w) : bodyPost P fn R .ret a w :=
  bodyPost_ret (v := .agg cs.toArray) (results_cell_row h _ _ g t cs.toArray (0, 0) d hp hg hu hdd (by rw [List.size_toArray, hn]; exact hi)) hd hR
end Go.Proofs.YtbehebnjbjkafaaDoor
