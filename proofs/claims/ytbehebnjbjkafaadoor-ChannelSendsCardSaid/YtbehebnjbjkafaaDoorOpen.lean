/- What arguments hold: lemmas of no law. -/
import Derived.Test.YtbehebnjbjkafaaDoorTypes
import Derived.Test.YtbehebnjbjkafaaDoorFin
namespace Go.Proofs.YtbehebnjbjkafaaDoor
open Go.ChangeShapes Go.WideShapes Go.ChangeAt Go.WideMaps Go.WideElems Go.RowKit

section
variable {H : Type} {enc : TypeId × Value → H} {w : World} {base : Nat} {sp : Nat → Bool} {hd : Bool}
theorem one_int {fuel : Nat} {c : Value} {x : DataW H × List MemPlace} (h : DataW.trod enc Tryd.prog w base sp hd fuel 3 [c] = some x) : ∃ n, c = .int .i64 n ∧ I64 n := by
  obtain ⟨n, h1, _, h3⟩ := DataW.trod_int Tryd.underlying3 h
  refine ⟨n, by simpa using h1, ?_⟩
  have e1 : IntKind.i64.min = -9223372036854775808 := by decide
  have e2 : IntKind.i64.max = 9223372036854775807 := by decide
  simp only [Lit.wf, e1, e2, Bool.and_eq_true, decide_eq_true_eq] at h3
  exact h3
theorem one_string {fuel : Nat} {c : Value} {x : DataW H × List MemPlace} (h : DataW.trod enc Tryd.prog w base sp hd fuel 9 [c] = some x) : ∃ s : ByteArray, c = .string s ∧ s.size ≤ maxLen := by
  obtain ⟨n, h1, _, h3⟩ := DataW.trod_string Tryd.underlying9 h
  exact ⟨n, by simpa using h1, h3⟩
theorem one_bool {fuel : Nat} {c : Value} {x : DataW H × List MemPlace} (h : DataW.trod enc Tryd.prog w base sp hd fuel 4 [c] = some x) : ∃ s : Bool, c = .bool s := by
  obtain ⟨n, h1, _⟩ := DataW.trod_bool Tryd.underlying4 h
  exact ⟨n, by simpa using h1⟩
theorem fld {t : TypeId} {fs : Array Field} {fuel : Nat} {cs : List Value} {x : DataW H × List MemPlace} (ht : Tryd.prog.underlying t = some (.struct fs)) (h : DataW.trod enc Tryd.prog w base sp hd fuel t cs = some x) :
    ∃ n, ∀ (i : Nat) (u : TypeId) (off k : Nat), (fs[i]?).map (fun f => (f.type, f.offset)) = some (u, off) → Tryd.prog.cellsOf u = k → ∃ y, DataW.trod enc Tryd.prog w base sp hd n u ((cs.drop off).take k) = some y := by
  obtain ⟨xs, n, _, _, _, hl, hg⟩ := DataW.trod_struct ht h
  refine ⟨n, fun i u off k hf hk => ?_⟩
  obtain ⟨f, hf1, hf2⟩ := Option.map_eq_some_iff.1 hf
  simp only [Prod.mk.injEq] at hf2
  obtain ⟨rfl, rfl⟩ := hf2
  have hi : i < xs.length := by rw [hl]; exact (Array.getElem?_eq_some_iff.1 hf1).1
  have := hg i f hf1
  rw [hk] at this
  exact ⟨xs[i], by rw [this]; exact List.getElem?_eq_getElem hi⟩

theorem ci : Tryd.prog.cellsOf 3 = 1 := by kernel_rfl
theorem cstr : Tryd.prog.cellsOf 9 = 1 := by kernel_rfl
theorem cb : Tryd.prog.cellsOf 4 = 1 := by kernel_rfl

end

section
variable {H : Type} {enc : TypeId × Value → H} {P : Program} {w : World} {base : Nat} {sp : Nat → Bool} {hd : Bool}
/-- A slice whose elements, of sz cells each, are the l. -/
def OpSl {α : Type} (sz : Nat) (R : List Value → α → Prop) (w : World) (v : Value) (l : List α) : Prop :=
  ∃ p cap, v = .slice p l.length cap ∧ l.length ≤ maxLen ∧ ∀ k x, l[k]? = some x → ∃ b off cs, p = some ⟨b, off, none⟩ ∧ cs.length = sz ∧ Cs w b (off + k * sz) cs ∧ R cs x
theorem OpSl.ext {α : Type} {sz : Nat} {R : List Value → α → Prop} {w w' : World} {v : Value} {l : List α} (h : OpSl sz R w v l) (hf : Ext w w') : OpSl sz R w' v l := by
  obtain ⟨p, cap, h1, h2, h3⟩ := h
  refine ⟨p, cap, h1, h2, fun k x hk => ?_⟩
  obtain ⟨b, off, cs, g1, g2, g3, g4⟩ := h3 k x hk
  exact ⟨b, off, cs, g1, g2, g3.ext hf, g4⟩
theorem list_choose {α β : Type} (R : β → α → Prop) (l : List β) (h : ∀ x ∈ l, ∃ y, R x y) : ∃ m : List α, m.length = l.length ∧ ∀ (k : Nat) (x : β) (y : α), l[k]? = some x → m[k]? = some y → R x y := by
  induction l with
  | nil => exact ⟨[], rfl, by simp⟩
  | cons x l ih =>
    obtain ⟨y, hy⟩ := h x (by simp)
    obtain ⟨m, h1, h2⟩ := ih (fun z hz => h z (by simp [hz]))
    refine ⟨y :: m, by simp [h1], fun k u v hu hv => ?_⟩
    cases k with
    | zero => simp at hu hv; subst hu; subst hv; exact hy
    | succ k => exact h2 k u v (by simpa using hu) (by simpa using hv)
theorem open_slice {α : Type} {R : List Value → α → Prop} {t e : TypeId} (sz : Nat) (h0 : 0 < sz) (ht : P.underlying t = some (.slice e)) (hc : P.cellsOf e = sz)
    (hel : ∀ (n : Nat) (cs : List Value) (x : DataW H × List MemPlace), cs.length = sz → DataW.trod enc P w base sp hd n e cs = some x → ∃ y, R cs y)
    {v : Value} {d : DataW H} {p : List MemPlace} (hx : ∃ a len cap, v = .slice a len cap) (h : DataW.Trod enc P w base sp hd t v d p) : ∃ l : List α, OpSl sz R w v l := by
  obtain ⟨q, len, cap, rfl⟩ := hx
  obtain ⟨fuel, hf⟩ := h
  have hcells : (Value.slice q len cap).cells.toList = [.slice q len cap] := rfl
  rw [hcells] at hf
  rcases DataW.trod_slice ht hf with ⟨h1, _⟩ | ⟨a, len', cap', elems, rest, n, _, h1, _, _, h2, h3, h4, h5, _⟩
  · simp at h1
    obtain ⟨rfl, rfl, rfl⟩ := h1
    exact ⟨[], none, 0, rfl, by simp, by simp⟩
  · simp at h1
    obtain ⟨rfl, rfl, rfl⟩ := h1
    rw [hc] at h5
    have hall : ∀ i, i < len → ∃ (cs : List Value) (y : α), a.spot = none ∧ cs.length = sz ∧ (∀ j, j < sz → w.cell? ((a.add (i * sz)).add j) = cs[j]?) ∧ R cs y := by
      intro i hi
      have e := h5 i hi
      rw [List.getElem?_eq_getElem (by omega)] at e
      obtain ⟨cs, c1, c2⟩ := Option.bind_eq_some_iff.1 e
      obtain ⟨_, c3, c4⟩ := World.cells?_some c1
      obtain ⟨y, hy⟩ := hel n cs _ c3 c2
      have e0 := h5 0 (by omega)
      rw [List.getElem?_eq_getElem (by omega)] at e0
      obtain ⟨cs0, z1, _⟩ := Option.bind_eq_some_iff.1 e0
      obtain ⟨_, z3, z4⟩ := World.cells?_some z1
      have z5 := z4 0 h0
      rw [List.getElem?_eq_getElem (by omega)] at z5
      have z6 := World.cell?_spot z5
      have z7 : (a.add (0 * sz)).add 0 = a := by simp [Addr.add]
      rw [z7] at z6
      exact ⟨cs, y, z6, c3, c4, hy⟩
    obtain ⟨m, m1, m2⟩ := list_choose (fun (i : Nat) (z : List Value × α) => a.spot = none ∧ z.1.length = sz ∧ (∀ j, j < sz → w.cell? ((a.add (i * sz)).add j) = z.1[j]?) ∧ R z.1 z.2) (List.range len)
      (fun i hi => by obtain ⟨cs, y, h⟩ := hall i (by simpa using hi); exact ⟨(cs, y), h⟩)
    refine ⟨m.map (·.2), some a, cap, by simp [m1], by simp [m1]; omega, fun k x hk => ?_⟩
    rw [List.getElem?_map] at hk
    obtain ⟨z, z1, rfl⟩ := Option.map_eq_some_iff.1 hk
    have hkl : k < len := by have := (List.getElem?_eq_some_iff.1 z1).1; simpa [m1] using this
    obtain ⟨g1, g2, g3, g4⟩ := m2 k k z (by simp [hkl]) z1
    obtain ⟨b, off, sp'⟩ := a
    simp at g1
    subst g1
    refine ⟨b, off, z.1, rfl, g2, ?_, g4⟩
    intro j u hj
    have hjs : j < sz := by rw [← g2]; exact (List.getElem?_eq_some_iff.1 hj).1
    have := g3 j hjs
    rw [Addr.add_lit, Addr.add_lit, hj] at this
    exact this
end
end Go.Proofs.YtbehebnjbjkafaaDoor
