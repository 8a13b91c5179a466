/- A region that draws its order: loads, then 'x, e := f(..)' with x a variable of many cells: its variable may be made at any time. Lemmas of no program. -/
import Derived.Test.YtbehebnjbjkafaaDoorQuietT
import Derived.OrdersHeld
namespace Go.Proofs.YtbehebnjbjkafaaDoor
open Go.RowKit

section
variable {P : Program} {ops : Array Oper} {md : Region.Mode} {S : World → Prop} {Q : Exit → Act → World → Prop}

/-- The operations only read, in every world of the class. -/
def wpReads (P : Program) (ops : Array Oper) (S : World → Prop) (Lq : Act → Prop) : List Oper → Act → Prop
  | [], a => Lq a
  | o :: r, a => ∃ v, YieldsIf P ops S o v a ∧ wpReads P ops S Lq r (a.put o.dst v)
theorem reads_val {Lq : Act → Prop} {o : Oper} {r : List Oper} {a : Act} (v : Value) (hw : Region.wanted o (yielded ops a.tmps) = true) (h : ∀ w, (execOp a.eval o).run P w = .ok (.value v) w)
    (hk : wpReads P ops S Lq r (a.put o.dst v)) : wpReads P ops S Lq (o :: r) a := ⟨v, Or.inl ⟨hw, fun w _ => h w⟩, hk⟩
theorem reads_read {Lq : Act → Prop} {o : Oper} {r : List Oper} {a : Act} (v : Value) (hw : Region.wanted o (yielded ops a.tmps) = true) (h : ∀ w, S w → (execOp a.eval o).run P w = .ok (.value v) w)
    (hk : wpReads P ops S Lq r (a.put o.dst v)) : wpReads P ops S Lq (o :: r) a := ⟨v, Or.inl ⟨hw, h⟩, hk⟩

/-- The first k have come up. -/
def listedN (m : Nat) : Nat → Array Bool
  | 0 => Array.replicate m false
  | k + 1 => (listedN m k).setIfInBounds k true
def headB (md : Region.Mode) (ops : Array Oper) (n : Nat) : Bool :=
  Region.noSelect ops && (List.range n).all fun k => Region.free md ops (listedN ops.size k) k && (Region.ready md ops (listedN ops.size k)).contains k

theorem heads_reads {n fuel : Nat} {Lq : Act → Prop} {w : World} (hB : headB md ops n = true) (hQ : ∀ c a d v w, Q (.panic c) (a.put d v) w → Q (.panic c) a w) (hS : S w)
    (hL : ∀ a, Lq a → wpAnyH P md ops Q S fuel (listedN ops.size n) a w) : ∀ (m k : Nat) (l : List Oper) (a : Act), k + m = n → l.length = m → (∀ j, j < m → l[j]? = ops[k + j]?) →
    wpReads P ops S Lq l a → wpAnyH P md ops Q S (m + fuel) (listedN ops.size k) a w := by
  simp only [headB, Bool.and_eq_true, List.all_eq_true, List.mem_range] at hB
  intro m
  induction m with
  | zero =>
    intro k l a hk hl _ h
    obtain rfl : l = [] := List.length_eq_zero_iff.1 hl
    obtain rfl : k = n := by omega
    rw [Nat.zero_add]
    exact hL a h
  | succ m ih =>
    intro k l a hk hl hop h
    match l, hl with
    | o :: r, hl =>
      obtain ⟨v, hy, h⟩ := h
      have ho : ops[k]? = some o := by simpa using (hop 0 (by omega)).symm
      obtain ⟨hf, hr⟩ := hB.2 k (by omega)
      rw [show m + 1 + fuel = (m + fuel) + 1 by omega]
      exact wpAnyH_take ho hB.1 hf hr (fun c a w => hQ c a _ v w) hy hS (ih (k + 1) r _ (by omega) (by simpa using hl) (fun j hj => by have := hop (j + 1) (by omega); simpa [Nat.add_assoc, Nat.add_comm 1 j] using this) h)

theorem heldOp_value {i : Nat} {o : Oper} {a : Act} {w w' : World} {v : Value} {K : Act → World → Prop} (ho : ops[i]? = some o) (hg : o.guard = none) (h : (execOp a.eval o).run P w = .ok (.value v) w') (hk : K (a.put o.dst v) w') : wpOp P ops Q i K a w := by
  unfold wpOp
  simp only [ho]
  rw [if_pos (by simp [Region.wanted, hg])]
  refine Or.inl ?_
  unfold Oper.wp
  rw [h]
  exact hk
theorem heldOp_skip {i : Nat} {o : Oper} {a : Act} {w w' : World} {K : Act → World → Prop} (ho : ops[i]? = some o) (hg : o.guard = none) (h : (execOp a.eval o).run P w = .ok .skip w') (hk : K (a.put o.dst undef) w') : wpOp P ops Q i K a w := by
  unfold wpOp
  simp only [ho]
  rw [if_pos (by simp [Region.wanted, hg])]
  refine Or.inl ?_
  unfold Oper.wp
  rw [h]
  exact hk
theorem heldOp_call {i : Nat} {o : Oper} {a : Act} {w : World} {K : Act → World → Prop} {f : FuncId} {args : Array Value} (ho : ops[i]? = some o) (hg : o.guard = none) (h : (execOp a.eval o).run P w = .ok (.enter f args) w)
    (hk : Calls P f args w fun e w' => ∃ v, e = .returned v ∧ K (a.put o.dst v) w') : wpOp P ops Q i K a w := by
  unfold wpOp
  simp only [ho]
  rw [if_pos (by simp [Region.wanted, hg])]
  refine Or.inl ?_
  unfold Oper.wp
  rw [h]
  refine hk.mono ?_
  rintro e w' ⟨v, rfl, h⟩
  exact h
theorem put_comm {a : Act} {d d' : Tmp} {v v' : Value} (h : d ≠ d') : (a.put (some d) v).put (some d') v' = (a.put (some d') v').put (some d) v := by
  simp only [Act.put]
  rw [Array.setIfInBounds_comm _ _ h]

theorem eval_put_same {a : Act} {d : Tmp} {v : Value} (h : d < a.tmps.size) : (a.put (some d) v).eval (.tmp d) = v := by
  simp [Act.put, Act.eval, h]
theorem eval_put_other {a : Act} {d d' : Tmp} {v : Value} (h : d ≠ d') : (a.put (some d) v).eval (.tmp d') = a.eval (.tmp d') := by
  simp [Act.put, Act.eval, h]
theorem size_put' {a : Act} {d : Option Tmp} {v : Value} : (a.put d v).tmps.size = a.tmps.size := by
  cases d <;> simp [Act.put]

theorem heldOp_store {i : Nat} {o : Oper} {a : Act} {w : World} {K : Act → World → Prop} (hi : ops[i]? = some o) (hgd : o.guard = none) (ty : TypeId) (x y : Operand) (ho : o.op = .store ty x y)
    (g : Nat) (hx : a.eval x = .pointer (some ⟨g, 0, none⟩)) (cs : List Value) (hy : a.eval y = .agg cs.toArray)
    (n : Nat) (hn : cs.length = n) (hsz : (P.info? ty).map (·.size) = some n) (h1 : ∀ v ∈ cs, v.oneCell' = true)
    (cur : Array Value) (hcur : cur.size = n) (T : TypeId) (hg : w.heap[g]? = some (.cells cur T (0, 0)))
    (h : K (a.put o.dst undef) (w.setRow g cs.toArray)) : wpOp P ops Q i K a w := by
  subst hn
  have hst := run_storeCells_at P g 0 T cs 0 cur w hg (by omega) h1
  simp only [Nat.add_zero, List.take_zero, List.nil_append] at hst
  rw [List.drop_of_length_le (by rw [Array.length_toList]; omega), List.append_nil] at hst
  cases hq : P.info? ty with
  | none => simp [hq] at hsz
  | some j =>
    have hs : j.size = cs.length := by simpa [hq] using hsz
    unfold wpOp
    simp only [hi]
    rw [if_pos (by simp [Region.wanted, hgd])]
    refine Or.inl ?_
    unfold Oper.wp execOp
    simp [ho, hx, hy, Instr.storeAt, Instr.sureAddr, Sem.run_bind, storeVar, Value.cells, sizeOf, typeInfo, hq, hs, hst]
    exact h

/-- What comes up when, behind the loads. -/
def tailB (md : Region.Mode) (ops : Array Oper) (n : Nat) : Bool :=
  let L := listedN ops.size n
  let s (l : Array Bool) (k : Nat) := l.setIfInBounds (n + k) true
  let one (l : Array Bool) (k : Nat) := Region.free md ops l (n + k) && (Region.ready md ops l).contains (n + k)
  Region.noSelect ops && Region.ready md ops L == [n, n + 4] &&
  one (s L 0) 1 && one (s (s L 0) 1) 2 && one (s (s (s L 0) 1) 2) 3 && Region.ready md ops (s (s (s (s L 0) 1) 2) 3) == [n + 4] && Region.ready md ops (s (s (s (s (s L 0) 1) 2) 3) 4) == [n + 5] &&
  one (s (s (s (s (s (s L 0) 1) 2) 3) 4) 5) 6 && Region.ready md ops (s (s (s (s (s (s (s L 0) 1) 2) 3) 4) 5) 6) == [] &&
  Region.ready md ops (s L 4) == [n] && one (s (s L 4) 0) 1 && one (s (s (s L 4) 0) 1) 2 && one (s (s (s (s L 4) 0) 1) 2) 3 && Region.ready md ops (s (s (s (s (s L 4) 0) 1) 2) 3) == [n + 5] &&
  one (s (s (s (s (s (s L 4) 0) 1) 2) 3) 5) 6 && Region.ready md ops (s (s (s (s (s (s (s L 4) 0) 1) 2) 3) 5) 6) == []

set_option maxHeartbeats 4000000 in
theorem tail_call_store {a : Act} {w : World} (n : Nat) (hB : tailB md ops n = true) (hQ : ∀ c a d v w, Q (.panic c) (a.put d v) w → Q (.panic c) a w)
    {o0 o1 o2 o3 oA oS oE : Oper} {d0 d1 d2 d3 dA dE : Tmp} (ty : TypeId)
    (i0 : ops[n]? = some o0) (g0 : o0.guard = none) (q0 : o0.dst = some d0)
    (i1 : ops[n + 1]? = some o1) (g1 : o1.guard = none) (q1 : o1.dst = some d1) (p1 : o1.op = .move (.tmp d0))
    (i2 : ops[n + 2]? = some o2) (g2 : o2.guard = none) (q2 : o2.dst = some d2) (p2 : o2.op = .extract (.tmp d1) 0)
    (i3 : ops[n + 3]? = some o3) (g3 : o3.guard = none) (q3 : o3.dst = some d3) (p3 : o3.op = .extract (.tmp d1) 1)
    (iA : ops[n + 4]? = some oA) (gA : oA.guard = none) (qA : oA.dst = some dA)
    (iS : ops[n + 5]? = some oS) (gS : oS.guard = none) (qS : oS.dst = none) (pS : oS.op = .store ty (.tmp dA) (.tmp d2))
    (iE : ops[n + 6]? = some oE) (gE : oE.guard = none) (qE : oE.dst = some dE) (pE : oE.op = .assign (.tmp d3))
    (sz : Nat) (hsize : a.tmps.size = sz) (hd : ([d0, d1, d2, d3, dA, dE].Nodup ∧ ∀ d ∈ [d0, d1, d2, d3, dA, dE], d < sz))
    {f : FuncId} {args : Array Value} (he : ∀ W, (execOp a.eval o0).run P W = .ok (.enter f args) W) (he2 : ∀ v W, (execOp (a.put (some dA) v).eval o0).run P W = .ok (.enter f args) W)
    (z : Array Value) (T : TypeId) (ha : ∀ (a : Act) (W : World), (execOp a.eval oA).run P W = .ok (.value (.pointer (some ⟨W.heap.size, 0, none⟩))) (W.alloc (.cells z T)))
    (m : Nat) (hz : z.size = m) (hsz : (P.info? ty).map (·.size) = some m)
    (G : World → List Value → Value → World → Prop) (hS : S w) (hSA : ∀ W c, S W → S (W.alloc (.cells c T)))
    (hcall : ∀ W, (W = w ∨ W = w.alloc (.cells z T)) → Calls P f args W fun e w' => ∃ x u, e = .returned (.tuple #[.agg x.toArray, u]) ∧ G W x u w')
    (hG : ∀ W x u w', G W x u w' → x.length = m ∧ (∀ v ∈ x, v.oneCell' = true) ∧ (S W → S w') ∧ (∀ b, w.heap.size ≤ b → b < W.heap.size → w'.heap[b]? = W.heap[b]?))
    (K : List Value → Value → Nat → World → Prop)
    (hK1 : ∀ x u w', G w x u w' → S w' → K x u w'.heap.size (w'.alloc (.cells x.toArray T)))
    (hK2 : ∀ x u w' W, G (w.alloc (.cells z T)) x u w' → S w' → W.heap[w.heap.size]? = some (.cells x.toArray T (0, 0)) → Fr (fun k => k = w.heap.size) w' W → K x u w.heap.size W ∧ S W)
    (hfin : ∀ x u g W, K x u g W → Q .normal ((((((a.put (some d0) (.tuple #[.agg x.toArray, u])).put (some d1) (.tuple #[.agg x.toArray, u])).put (some d2) (.agg x.toArray)).put (some d3) u).put (some dA) (.pointer (some ⟨g, 0, none⟩))).put (some dE) u) W) :
    wpAnyH P md ops Q S 7 (listedN ops.size n) a w := by
  simp only [tailB, Bool.and_eq_true, beq_iff_eq] at hB
  obtain ⟨⟨⟨⟨⟨⟨⟨⟨⟨⟨⟨⟨⟨⟨⟨hs, r0⟩, t1⟩, t2⟩, t3⟩, r4⟩, r5⟩, t6⟩, r7⟩, m0⟩, m1⟩, m2⟩, m3⟩, m4⟩, m5⟩, m6⟩ := hB
  subst hsize
  obtain ⟨hd, hlt⟩ := hd
  have l0 := hlt d0 (by simp)
  have l1 := hlt d1 (by simp)
  have l2 := hlt d2 (by simp)
  have l3 := hlt d3 (by simp)
  have lA := hlt dA (by simp)
  have lE := hlt dE (by simp)
  simp only [List.nodup_cons, List.mem_cons, List.not_mem_nil, or_false, not_or, List.nodup_nil, and_true, not_false_eq_true] at hd
  obtain ⟨⟨n01, n02, n03, n0A, n0E⟩, ⟨n12, n13, n1A, n1E⟩, ⟨n23, n2A, n2E⟩, ⟨n3A, n3E⟩, nAE⟩ := hd
  have mv : ∀ (a : Act) (o : Oper) (x : Operand), o.op = .move x → ∀ W, (execOp a.eval o).run P W = .ok (.value (a.eval x)) W := fun a o x h W => by simp [execOp, h]
  have asn : ∀ (a : Act) (o : Oper) (x : Operand), o.op = .assign x → ∀ W, (execOp a.eval o).run P W = .ok (.value (a.eval x)) W := fun a o x h W => by simp [execOp, h]
  have ex : ∀ (a : Act) (o : Oper) (d : Tmp) (k : Nat) (vs : Array Value) (v : Value), o.op = .extract (.tmp d) k → a.eval (.tmp d) = .tuple vs → vs[k]? = some v → ∀ W, (execOp a.eval o).run P W = .ok (.value v) W := fun a o d k vs v h he hv W => by simp [execOp, h, he, Instr.extract, hv]
  have y : ∀ (o : Oper) (a : Act) (v : Value), o.guard = none → (∀ W, (execOp a.eval o).run P W = .ok (.value v) W) → YieldsIf P ops S o v a := fun o a v hg h => Or.inl ⟨by simp [Region.wanted, hg], fun W _ => h W⟩
  refine wpAnyH_all r0 (by simp) ?_
  intro i hi
  rcases List.mem_cons.1 hi with rfl | hi
  · refine heldOp_call i0 g0 (he _) ((hcall w (Or.inl rfl)).mono ?_)
    rintro e w' ⟨x, u, rfl, hg⟩
    obtain ⟨hx1, hx2, hx3, _⟩ := hG _ _ _ _ hg
    have hSw := hx3 hS
    refine ⟨_, rfl, hSw, ?_⟩
    rw [q0]
    refine wpAnyH_take i1 hs t1.1 t1.2 (fun c a w => hQ c a _ _ w) (y _ _ _ g1 (mv _ _ _ p1)) hSw ?_
    rw [q1, eval_put_same l0]
    refine wpAnyH_take i2 hs t2.1 t2.2 (fun c a w => hQ c a _ _ w) (y _ _ (.agg x.toArray) g2 (ex _ _ _ _ _ _ p2 (eval_put_same (by simpa [size_put'] using l1)) rfl)) hSw ?_
    rw [q2]
    refine wpAnyH_take i3 hs t3.1 t3.2 (fun c a w => hQ c a _ _ w) (y _ _ u g3 (ex _ _ _ _ #[.agg x.toArray, u] _ p3 (by rw [eval_put_other (Ne.symm n12), eval_put_same (by simpa [size_put'] using l1)]) rfl)) hSw ?_
    rw [q3]
    refine wpAnyH_all r4 (by simp) ?_
    intro i hi
    obtain rfl := List.mem_singleton.1 hi
    refine heldOp_value iA gA (ha _ _) ⟨hSA _ _ hSw, ?_⟩
    rw [qA]
    refine wpAnyH_all r5 (by simp) ?_
    intro i hi
    obtain rfl := List.mem_singleton.1 hi
    refine heldOp_store iS gS ty _ _ pS w'.heap.size (eval_put_same (by simpa [size_put'] using lA)) x (by rw [eval_put_other (Ne.symm n2A), eval_put_other (Ne.symm n23), eval_put_same (by simpa [size_put'] using l2)]) m hx1 hsz hx2 z hz T (heap_alloc_new _ _) ?_
    rw [setRow_alloc, qS]
    refine ⟨hSA _ _ hSw, ?_⟩
    show wpAnyH P md ops Q S 1 _ _ _
    refine wpAnyH_take iE hs t6.1 t6.2 (fun c a w => hQ c a _ _ w) (y _ _ _ gE (asn _ _ _ pE)) (hSA _ _ hSw) ?_
    refine wpAnyH_done r7 ?_ _
    rw [qE]
    have e1 : ((((((a.put (some d0) (.tuple #[.agg x.toArray, u])).put (some d1) (.tuple #[.agg x.toArray, u])).put (some d2) (.agg x.toArray)).put (some d3) u).put (some dA) (.pointer (some ⟨w'.heap.size, 0, none⟩))).put none undef).eval (.tmp d3) = u := by
      show ((((((a.put (some d0) (.tuple #[.agg x.toArray, u])).put (some d1) (.tuple #[.agg x.toArray, u])).put (some d2) (.agg x.toArray)).put (some d3) u).put (some dA) (.pointer (some ⟨w'.heap.size, 0, none⟩)))).eval (.tmp d3) = u
      rw [eval_put_other (Ne.symm n3A), eval_put_same (by simpa [size_put'] using l3)]
    rw [e1]
    exact hfin x u _ _ (hK1 x u w' hg hSw)
  · obtain rfl := List.mem_singleton.1 hi
    refine heldOp_value iA gA (ha _ _) ⟨hSA _ _ hS, ?_⟩
    rw [qA]
    refine wpAnyH_all m0 (by simp) ?_
    intro i hi
    obtain rfl := List.mem_singleton.1 hi
    refine heldOp_call i0 g0 (he2 _ _) ((hcall _ (Or.inr rfl)).mono ?_)
    rintro e w' ⟨x, u, rfl, hg⟩
    obtain ⟨hx1, hx2, hx3, hx4⟩ := hG _ _ _ _ hg
    have hSw := hx3 (hSA _ _ hS)
    have hrow : w'.heap[w.heap.size]? = some (.cells z T (0, 0)) := by rw [hx4 _ (Nat.le_refl _) (by simp)]; exact heap_alloc_new _ _
    refine ⟨_, rfl, hSw, ?_⟩
    rw [q0]
    refine wpAnyH_take i1 hs m1.1 m1.2 (fun c a w => hQ c a _ _ w) (y _ _ _ g1 (mv _ _ _ p1)) hSw ?_
    rw [q1, eval_put_same (by simpa [size_put'] using l0)]
    refine wpAnyH_take i2 hs m2.1 m2.2 (fun c a w => hQ c a _ _ w) (y _ _ (.agg x.toArray) g2 (ex _ _ _ _ _ _ p2 (eval_put_same (by simpa [size_put'] using l1)) rfl)) hSw ?_
    rw [q2]
    refine wpAnyH_take i3 hs m3.1 m3.2 (fun c a w => hQ c a _ _ w) (y _ _ u g3 (ex _ _ _ _ #[.agg x.toArray, u] _ p3 (by rw [eval_put_other (Ne.symm n12), eval_put_same (by simpa [size_put'] using l1)]) rfl)) hSw ?_
    rw [q3]
    refine wpAnyH_all m4 (by simp) ?_
    intro i hi
    obtain rfl := List.mem_singleton.1 hi
    refine heldOp_store iS gS ty _ _ pS w.heap.size (by rw [eval_put_other n3A, eval_put_other n2A, eval_put_other n1A, eval_put_other n0A, eval_put_same lA]) x (by rw [eval_put_other (Ne.symm n23), eval_put_same (by simpa [size_put'] using l2)]) m hx1 hsz hx2 z hz T hrow ?_
    have hW := hK2 x u w' (w'.setRow w.heap.size x.toArray) hg hSw (by rw [setRow_heap w' _ _ _ _ _ hrow]) ((Fr.refl (fun k => k = w.heap.size) w').setRow (fun _ => rfl) _)
    rw [qS]
    refine ⟨hW.2, ?_⟩
    show wpAnyH P md ops Q S 1 _ _ _
    refine wpAnyH_take iE hs m5.1 m5.2 (fun c a w => hQ c a _ _ w) (y _ _ _ gE (asn _ _ _ pE)) hW.2 ?_
    refine wpAnyH_done m6 ?_ _
    rw [qE]
    have e1 : ((((((a.put (some dA) (.pointer (some ⟨w.heap.size, 0, none⟩))).put (some d0) (.tuple #[.agg x.toArray, u])).put (some d1) (.tuple #[.agg x.toArray, u])).put (some d2) (.agg x.toArray)).put (some d3) u).put none undef).eval (.tmp d3) = u := by
      show (((((a.put (some dA) (.pointer (some ⟨w.heap.size, 0, none⟩))).put (some d0) (.tuple #[.agg x.toArray, u])).put (some d1) (.tuple #[.agg x.toArray, u])).put (some d2) (.agg x.toArray)).put (some d3) u).eval (.tmp d3) = u
      rw [eval_put_same (by simpa [size_put'] using l3)]
    rw [e1]
    have := hfin x u _ _ hW.1
    rw [put_comm n3A, put_comm n2A, put_comm n1A, put_comm n0A] at this
    exact this

theorem reads_nil {Lq : Act → Prop} {a : Act} (h : Lq a) : wpReads P ops S Lq [] a := h
/-- Such a region. -/
theorem wp_reads_tail {id : Nat} {a : Act} {w : World} {l : List Oper} (n m : Nat) (S : World → Prop) (hm : P.follows .mixedOrders = true) (hl : n + m = l.length) (hB : headB .any l.toArray n = true) (hQ : ∀ c a d v w, Q (.panic c) (a.put d v) w → Q (.panic c) a w) (hS : S w.drew)
    (h : wpReads P l.toArray S (fun a' => wpAnyH P .any l.toArray Q S m (listedN l.toArray.size n) a' w.drew) (l.take n) a) : (Code.region id l.toArray true).wp P Q a w := by
  refine wp_region_held (S := S) hm ?_
  have := heads_reads (fuel := m) hB hQ hS (fun _ h => h) n 0 (l.take n) a (by omega) (by simp; omega) (fun j hj => by simp [List.getElem?_take_of_lt hj]) h
  rw [show n + m = l.toArray.size by simp; omega] at this
  exact this
/-- A cut behind a region: what holds of the frame and the world there. -/
theorem region_cut {c : Code} {a : Act} {w : World} (F : Act → Act → World → Prop) (h1 : c.wp P (fun e a' w' => e = .normal ∧ F a a' w') a w) (h2 : ∀ a' w', F a a' w' → Q .normal a' w') : c.wp P Q a w :=
  Code.wp_mono (fun e a' w' ⟨he, hF⟩ => he ▸ h2 a' w' hF) h1
end
end Go.Proofs.YtbehebnjbjkafaaDoor
