/- What the channel's arguments hold. -/
import Derived.Test.YtbehebnjbjkafaaGreatDoorChanH
import Derived.Test.YtbehebnjbjkafaaGreatDoorFin
namespace Go.Proofs.YtbehebnjbjkafaaGreatDoor
open Go.ChangeShapes Go.WideShapes Go.ChangeAt Go.WideMaps Go.WideElems Go.RowKit

section
variable {H : Type} {enc : TypeId × Value → H} {w : World} {base : Nat} {sp : Nat → Bool} {hd : Bool}
theorem one_int {fuel : Nat} {c : Value} {x : DataW H × List MemPlace} (h : DataW.trod enc Tryz.prog w base sp hd fuel 3 [c] = some x) : ∃ n, c = .int .i64 n ∧ I64 n := by
  obtain ⟨n, h1, _, h3⟩ := DataW.trod_int Tryz.underlying3 h
  refine ⟨n, by simpa using h1, ?_⟩
  have e1 : IntKind.i64.min = -9223372036854775808 := by decide
  have e2 : IntKind.i64.max = 9223372036854775807 := by decide
  simp only [Lit.wf, e1, e2, Bool.and_eq_true, decide_eq_true_eq] at h3
  exact h3
theorem one_string {fuel : Nat} {c : Value} {x : DataW H × List MemPlace} (h : DataW.trod enc Tryz.prog w base sp hd fuel 9 [c] = some x) : ∃ s : ByteArray, c = .string s ∧ s.size ≤ maxLen := by
  obtain ⟨n, h1, _, h3⟩ := DataW.trod_string Tryz.underlying9 h
  exact ⟨n, by simpa using h1, h3⟩
theorem one_bool {fuel : Nat} {c : Value} {x : DataW H × List MemPlace} (h : DataW.trod enc Tryz.prog w base sp hd fuel 4 [c] = some x) : ∃ s : Bool, c = .bool s := by
  obtain ⟨n, h1, _⟩ := DataW.trod_bool Tryz.underlying4 h
  exact ⟨n, by simpa using h1⟩
theorem fld {t : TypeId} {fs : Array Field} {fuel : Nat} {cs : List Value} {x : DataW H × List MemPlace} (ht : Tryz.prog.underlying t = some (.struct fs)) (h : DataW.trod enc Tryz.prog w base sp hd fuel t cs = some x) :
    ∃ n, ∀ (i : Nat) (u : TypeId) (off k : Nat), (fs[i]?).map (fun f => (f.type, f.offset)) = some (u, off) → Tryz.prog.cellsOf u = k → ∃ y, DataW.trod enc Tryz.prog w base sp hd n u ((cs.drop off).take k) = some y := by
  obtain ⟨xs, n, _, _, _, hl, hg⟩ := DataW.trod_struct ht h
  refine ⟨n, fun i u off k hf hk => ?_⟩
  obtain ⟨f, hf1, hf2⟩ := Option.map_eq_some_iff.1 hf
  simp only [Prod.mk.injEq] at hf2
  obtain ⟨rfl, rfl⟩ := hf2
  have hi : i < xs.length := by rw [hl]; exact (Array.getElem?_eq_some_iff.1 hf1).1
  have := hg i f hf1
  rw [hk] at this
  exact ⟨xs[i], by rw [this]; exact List.getElem?_eq_getElem hi⟩

theorem ci : Tryz.prog.cellsOf 3 = 1 := by kernel_rfl
theorem cstr : Tryz.prog.cellsOf 9 = 1 := by kernel_rfl
theorem cb : Tryz.prog.cellsOf 4 = 1 := by kernel_rfl

set_option maxRecDepth 100000 in
theorem open_pack {r : Reach} {b0 : Nat} {v : Value} {d : DataW H} {p : List MemPlace} (hv : Value.okWide Tryz.prog w r b0 28 v) (h : DataW.Trod enc Tryz.prog w base sp hd 28 v d p) :
    ∃ x : PackD, v = .agg x.cells.toArray ∧ x.wf := by
  obtain ⟨cs, rfl, hsz⟩ := okWide_struct Tryz.underlying28 hv
  obtain ⟨l⟩ := cs
  have hC : Tryz.prog.cellsOf 28 = 4 := by kernel_rfl
  match l, hsz.trans hC with
  | [c0, c1, c2, c3], _ =>
    obtain ⟨fuel, hf⟩ := h
    obtain ⟨n, hg⟩ := fld Tryz.underlying28 hf
    obtain ⟨_, h0⟩ := hg 0 3 0 _ rfl ci
    obtain ⟨_, h1⟩ := hg 1 9 1 _ rfl cstr
    obtain ⟨_, h2⟩ := hg 2 9 2 _ rfl cstr
    obtain ⟨_, h3⟩ := hg 3 3 3 _ rfl ci
    obtain ⟨a, rfl, ha⟩ := one_int h0
    obtain ⟨b, rfl, hb⟩ := one_string h1
    obtain ⟨c, rfl, hc⟩ := one_string h2
    obtain ⟨e, rfl, he⟩ := one_int h3
    exact ⟨⟨a, b, c, e⟩, rfl, ⟨ha, hb, hc, he⟩⟩

set_option maxRecDepth 100000 in
theorem open_act {r : Reach} {b0 : Nat} {v : Value} {d : DataW H} {p : List MemPlace} (hv : Value.okWide Tryz.prog w r b0 26 v) (h : DataW.Trod enc Tryz.prog w base sp hd 26 v d p) :
    ∃ x : ActD, v = .agg x.cells.toArray := by
  obtain ⟨cs, rfl, hsz⟩ := okWide_struct Tryz.underlying26 hv
  obtain ⟨l⟩ := cs
  have hC : Tryz.prog.cellsOf 26 = 11 := by kernel_rfl
  have hP : Tryz.prog.cellsOf 24 = 2 := by kernel_rfl
  match l, hsz.trans hC with
  | [c0, c1, c2, c3, c4, c5, c6, c7, c8, c9, c10], _ =>
    obtain ⟨fuel, hf⟩ := h
    obtain ⟨n, hg⟩ := fld Tryz.underlying26 hf
    obtain ⟨_, h0⟩ := hg 0 3 0 _ rfl ci
    obtain ⟨_, h1⟩ := hg 1 3 1 _ rfl ci
    obtain ⟨_, h2⟩ := hg 2 3 2 _ rfl ci
    obtain ⟨_, h3⟩ := hg 3 3 3 _ rfl ci
    obtain ⟨_, h4⟩ := hg 4 9 4 _ rfl cstr
    obtain ⟨_, h5⟩ := hg 5 3 5 _ rfl ci
    obtain ⟨_, h6⟩ := hg 6 9 6 _ rfl cstr
    obtain ⟨_, h7⟩ := hg 7 4 7 _ rfl cb
    obtain ⟨_, h8⟩ := hg 8 24 8 _ rfl hP
    obtain ⟨_, h9⟩ := hg 9 3 10 _ rfl ci
    obtain ⟨a0, rfl, _⟩ := one_int h0
    obtain ⟨a1, rfl, _⟩ := one_int h1
    obtain ⟨a2, rfl, _⟩ := one_int h2
    obtain ⟨a3, rfl, _⟩ := one_int h3
    obtain ⟨a4, rfl, _⟩ := one_string h4
    obtain ⟨a5, rfl, _⟩ := one_int h5
    obtain ⟨a6, rfl, _⟩ := one_string h6
    obtain ⟨a7, rfl⟩ := one_bool h7
    obtain ⟨a10, rfl, _⟩ := one_int h9
    obtain ⟨m, hg2⟩ := fld Tryz.underlying24 h8
    obtain ⟨_, k0⟩ := hg2 0 3 0 _ rfl ci
    obtain ⟨a8, rfl, _⟩ := one_int k0
    exact ⟨⟨a0, a1, a2, a3, a4, a5, a6, a7, a8, c9, a10⟩, rfl⟩
end
end Go.Proofs.YtbehebnjbjkafaaGreatDoor
