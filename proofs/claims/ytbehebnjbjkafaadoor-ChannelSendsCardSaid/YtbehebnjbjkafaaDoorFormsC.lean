/- Package forms: what is thrown is caught; an encoding is what its writing makes. -/
import Derived.Test.YtbehebnjbjkafaaDoorFormsB
namespace Go.Proofs.YtbehebnjbjkafaaDoor
open Go.RowKit

set_option maxRecDepth 100000 in
set_option maxHeartbeats 400000 in
theorem caught_any (w : World) : Calls Tryd.prog 36 #[.iface 117 (.agg #[])] w fun e w' => e = .returned (.tuple #[]) ∧ Ext w w' := by
  have hnot : ∀ (x : Bool) (w : World), (Op.unary .not (.bool x)).run Tryd.prog w = .ok (.bool (!x)) w := fun _ _ => rfl
  have hta : ∀ w : World, (Instr.typeAssert (.iface 117 (.agg #[])) 20 117 true).run Tryd.prog w = .ok (.tuple #[.agg #[], .bool true]) w := fun _ => by kernel_rfl
  go_enter Tryd.func36, Tryd.ntmps36
  go_wp2_with fail
  go_end0
  exact ⟨rfl, (Fr.refl _ _).alloc _⟩

/-- What was thrown, once it is caught. -/
def seen : List PanicEntry := [{ v := .iface 117 (.agg #[]), recovered := true }]

set_option maxRecDepth 100000 in
set_option maxHeartbeats 400000 in
theorem catch_panicking (b : Nat) (x y : Value) (w : World) (hp : w.heap[b]? = some (.cells #[x] 51 (0, 0))) (hq : w.heap[b + 1]? = some (.cells #[y] 24 (0, 0))) :
    CallsD Tryd.prog 35 #[.pointer (some ⟨b, 0, none⟩), .pointer (some ⟨b + 1, 0, none⟩)] (.panicking thrown) w fun e u' w' =>
      e = .returned (.tuple #[]) ∧ u' = .panicking seen ∧ ∃ w1, Ext w w1 ∧ w' = (w1.setCell ⟨b, 0, none⟩ (.slice none 0 0)).setCell ⟨b + 1, 0, none⟩ (.int .i64 61) := by
  have hne : ∀ w : World, (binOp .neq 20 (.iface 117 (.agg #[])) .nilIface).run Tryd.prog w = .ok (.bool true) w := fun _ => by kernel_rfl
  refine callsD_of_wpS Tryd.func35 rfl fun c₀ cs hu => ?_
  apply wpS_seq
  apply wpS_region
  simp [wpOpsS, go_sem, recoverD, hu, thrown, hne, Tryd.ntmps35, Exit.thenS]
  refine wpS_of_wp ?_
  change Code.wp _ _ _ { tmps := #[.pointer (some ⟨b, 0, none⟩), .pointer (some ⟨b + 1, 0, none⟩), .iface 117 (.agg #[]), .iface 117 (.agg #[]), undef, undef, undef, undef], defers := [] } w
  go_wp2_with fail
  refine (caught_any w).mono ?_
  rintro e w1 ⟨rfl, hx⟩
  have h1 := hx.heap_some hp (fun e => e)
  have h2 := hx.heap_some hq (fun e => e)
  have c1 : w1.cell? ⟨b, 0, none⟩ = some x := by simpa using cell_of_row w1 b 0 _ _ _ h1
  have c2 : (w1.setCell ⟨b, 0, none⟩ (.slice none 0 0)).cell? ⟨b + 1, 0, none⟩ = some y := by
    have := cell_of_row (w1.setCell ⟨b, 0, none⟩ (.slice none 0 0)) (b + 1) 0 _ _ _ ((heap_setCell_other _ _ _ _ (by simp)).trans h2)
    simpa using this
  have z1 : w1.frozen? ⟨b, 0, none⟩ = false := frozen_of_row w1 b 0 _ _ h1
  have z2 : (w1.setCell ⟨b, 0, none⟩ (.slice none 0 0)).frozen? ⟨b + 1, 0, none⟩ = false := frozen_of_row _ (b + 1) 0 _ _ (by rw [heap_setCell_other _ _ _ _ (by simp)]; exact h2)
  go_wp2_with fail
  cases c₀
  simp_all [bodyPostS, results, seen]
  exact ⟨w1, hx, rfl⟩

set_option maxRecDepth 100000 in
set_option maxHeartbeats 400000 in
theorem catch_idle (p q : Addr) (w : World) :
    CallsD Tryd.prog 35 #[.pointer (some p), .pointer (some q)] .returning w fun e u' w' => e = .returned (.tuple #[]) ∧ u' = .returning ∧ w' = w := by
  have hne : ∀ w : World, (binOp .neq 20 .nilIface .nilIface).run Tryd.prog w = .ok (.bool false) w := fun _ => by kernel_rfl
  refine callsD_of_wpS Tryd.func35 rfl fun c₀ cs hu => ?_
  apply wpS_seq
  apply wpS_region
  simp [wpOpsS, go_sem, recoverD, hu, hne, Tryd.ntmps35, Exit.thenS]
  refine wpS_of_wp ?_
  change Code.wp _ _ _ { tmps := #[.pointer (some p), .pointer (some q), .nilIface, .nilIface, undef, undef, undef, undef], defers := [] } w
  go_wp2_with fail
  cases c₀
  simp_all [bodyPostS, results]

theorem cell_set {w : World} {a : Addr} {u : Value} (h : w.cell? a = some u) (v : Value) : (w.setCell a v).cell? a = some v := World.cell?_setCell_same _ _ _ h
theorem cell_set_ne {w : World} {a b : Addr} {v : Value} (h : a ≠ b) : (w.setCell a v).cell? b = w.cell? b := World.cell?_setCell_other _ _ _ _ h
theorem Cs.set {w : World} {b off : Nat} {l : List Int} (h : Cs w b off (u8s l)) {p : Addr} {x : Value} (hp : w.cell? p = some x) (hn : ∀ c, x ≠ .int .u8 c) (u : Value) : Cs (w.setCell p u) b off (u8s l) := by
  intro j v hj
  have h1 := h j v hj
  rw [cell_set_ne]
  · exact h1
  · rintro rfl
    rw [hp] at h1
    simp only [u8s, List.getElem?_map, Option.map_eq_some_iff] at hj
    obtain ⟨c, _, rfl⟩ := hj
    exact hn c (by simpa using h1)
theorem SlB.set {w : World} {v : Value} {l : List Int} (h : SlB w v l) {p : Addr} {x : Value} (hp : w.cell? p = some x) (hn : ∀ c, x ≠ .int .u8 c) (u : Value) : SlB (w.setCell p u) v l := by
  rcases h with h | ⟨a, off, cap, rfl, h1, h2, h4, h3⟩
  · exact Or.inl h
  · exact Or.inr ⟨a, off, cap, rfl, h1, h2, by simpa [World.setCell] using h4, h3.set hp hn u⟩
theorem SlB.sl {w : World} {v : Value} {l : List Int} (h : SlB w v l) : ∃ p cap, v = .slice p l.length cap := by
  rcases h with ⟨rfl, rfl⟩ | ⟨a, off, cap, rfl, _⟩
  · exact ⟨none, 0, rfl⟩
  · exact ⟨_, cap, rfl⟩

/-- What a writing makes of a Writer that is new: it writes bs, or throws. -/
def Writes (g : FuncId) (c : Value) (ok : Bool) (bs : List Int) (B : Nat) (w : World) : Prop :=
  ∀ (b : Nat) (w1 : World), Wr B b [] false w1 → Below B w w1 → B ≤ w.heap.size → Calls Tryd.prog g #[.pointer (some ⟨b, 0, none⟩), c] w1 fun e w2 => if ok then e = .returned (.tuple #[]) ∧ Wr B b bs false w2 ∧ WF B b w1 w2 else e = .panicked thrown ∧ WF B b w1 w2

set_option maxRecDepth 100000 in
set_option maxHeartbeats 800000 in
theorem encode_any (g : FuncId) (c : Value) (ok : Bool) (bs : List Int) (w : World) (hcf : ∀ (p : Value) (w : World), (callFunc g #[p, c]).run Tryd.prog w = .ok (.enter g #[p, c]) w) (hl : ok = true → bs.length ≤ 100000)
    (h : Writes g c ok bs (w.heap.size + 2) (((w.alloc (.cells #[.slice none 0 0] 51)).alloc (.cells #[.int .i64 0] 24)))) :
    Calls Tryd.prog 23 #[.func (.func g) #[] #[c]] w fun e w' => Ext w w' ∧
      if ok then ∃ v, e = .returned (.tuple #[v, .int .i64 0]) ∧ SlB w' v bs else e = .returned (.tuple #[.slice none 0 0, .int .i64 61]) := by
  have hmf : ∀ (fn : Fn) (first cap : Array Value) (w : World), (Instr.makeFunc fn first cap).run Tryd.prog w = .ok (.func fn first cap) w := fun _ _ _ _ => rfl
  have s0 : (w.alloc (.cells #[.slice none 0 0] 51)).heap.size = w.heap.size + 1 := by simp
  generalize hW : (w.alloc (.cells #[.slice none 0 0] 51)).alloc (.cells #[.int .i64 0] 24) = W at h
  have sW : W.heap.size = w.heap.size + 2 := by rw [← hW]; simp
  have k0 : W.heap[w.heap.size]? = some (.cells #[.slice none 0 0] 51 (0, 0)) := by rw [← hW, Below.heap_alloc _ _ _ (by simp)]; exact heap_alloc_new _ _
  have k1 : W.heap[w.heap.size + 1]? = some (.cells #[.int .i64 0] 24 (0, 0)) := by rw [← hW, ← s0]; exact heap_alloc_new _ _
  have xW : Ext w W := by rw [← hW]; exact ((Fr.refl _ _).alloc _).alloc _
  have hnw := newWriter_any W
  replace hnw := Lib.hid hnw
  replace hW := Lib.hid hW
  replace s0 := Lib.hid s0
  go_enter_defers Tryd.func23, Tryd.ntmps23
  go_wp2_with fail
  rw [hW.out]
  refine hnw.out.mono ?_
  rintro e w2 ⟨rfl, hw2, x2⟩
  rw [sW] at hw2
  obtain ⟨B, hB⟩ : ∃ B, B = w.heap.size + 2 := ⟨_, rfl⟩
  rw [← hB] at hw2 h
  have hc := h B w2 hw2 (Fr.below x2 (by omega) (fun _ _ e => e)) (by omega)
  rw [sW, ← hB]
  clear h
  replace hc := Lib.hid hc
  replace sW := Lib.hid sW
  replace hB := Lib.hid hB
  cases ok
  · go_wp2_with fail
    refine hc.out.mono ?_
    rintro e w3 ⟨rfl, f3⟩
    have j0 : w3.heap[w.heap.size]? = _ := (Fr.of_below f3.below).heap_some (x2.heap_some k0 (fun e => e)) (by have := hB.out; omega)
    have j1 : w3.heap[w.heap.size + 1]? = _ := (Fr.of_below f3.below).heap_some (x2.heap_some k1 (fun e => e)) (by have := hB.out; omega)
    refine leaves_cons (f := 35) (args := #[.pointer (some ⟨w.heap.size, 0, none⟩), .pointer (some ⟨w.heap.size + 1, 0, none⟩)]) (by simp) (by simp [go_sem]) ?_
    refine (catch_panicking w.heap.size _ _ w3 j0 j1).mono ?_
    rintro e u' w4 ⟨rfl, rfl, w5, x5, rfl⟩
    have i0 : w5.heap[w.heap.size]? = _ := x5.heap_some j0 (fun e => e)
    have i1 : w5.heap[w.heap.size + 1]? = _ := x5.heap_some j1 (fun e => e)
    have xx : Ext w ((w5.setCell ⟨w.heap.size, 0, none⟩ (.slice none 0 0)).setCell ⟨w.heap.size + 1, 0, none⟩ (.int .i64 61)) :=
      Fr.setCell (Fr.setCell (((xW.trans x2 (fun _ _ e => e)).trans (G := fun k => B ≤ k) (Fr.of_below f3.below) (fun k hk e => by have := hB.out; omega)).trans x5 (fun _ _ e => e)) (fun e => by simp at e) _) (fun e => by simp at e; omega) _
    have c1 : ((w5.setCell ⟨w.heap.size, 0, none⟩ (.slice none 0 0)).setCell ⟨w.heap.size + 1, 0, none⟩ (.int .i64 61)).cell? ⟨w.heap.size, 0, none⟩ = some (.slice none 0 0) := by
      rw [cell_set_ne (by simp)]
      exact cell_set (by simpa using cell_of_row _ _ 0 _ _ _ i0) _
    have c2 : ((w5.setCell ⟨w.heap.size, 0, none⟩ (.slice none 0 0)).setCell ⟨w.heap.size + 1, 0, none⟩ (.int .i64 61)).cell? ⟨w.heap.size + 1, 0, none⟩ = some (.int .i64 61) :=
      cell_set (by rw [cell_set_ne (by simp)]; simpa using cell_of_row _ _ 0 _ _ _ i1) _
    generalize (w5.setCell ⟨w.heap.size, 0, none⟩ (.slice none 0 0)).setCell ⟨w.heap.size + 1, 0, none⟩ (.int .i64 61) = W5 at *
    simp [Leaves, settle, results, seen, go_sem, Tryd.f23, c1, c2, xx]
  · go_wp2_with fail
    refine hc.out.mono ?_
    rintro e w3 ⟨rfl, h3, f3⟩
    go_wp2_with fail
    refine (bytes_any B B bs false w3 h3 (by have := hl (by first | trivial | rfl); omega)).mono ?_
    rintro e w4 ⟨x4, v, rfl, hv⟩
    obtain ⟨p, cap, rfl⟩ := hv.sl
    have y4 : Ext w w4 := ((xW.trans x2 (fun _ _ e => e)).trans (G := fun k => B ≤ k) (Fr.of_below f3.below) (fun k hk e => by have := hB.out; omega)).trans x4 (fun _ _ e => e)
    have j0 : w4.heap[w.heap.size]? = _ := x4.heap_some ((Fr.of_below f3.below).heap_some (x2.heap_some k0 (fun e => e)) (by have := hB.out; omega)) (fun e => e)
    have j1 : w4.heap[w.heap.size + 1]? = _ := x4.heap_some ((Fr.of_below f3.below).heap_some (x2.heap_some k1 (fun e => e)) (by have := hB.out; omega)) (fun e => e)
    have c0 : w4.cell? ⟨w.heap.size, 0, none⟩ = some (.slice none 0 0) := by simpa using cell_of_row _ _ 0 _ _ _ j0
    have c1 : w4.cell? ⟨w.heap.size + 1, 0, none⟩ = some (.int .i64 0) := by simpa using cell_of_row _ _ 0 _ _ _ j1
    have z0 : w4.frozen? ⟨w.heap.size, 0, none⟩ = false := frozen_of_row _ _ 0 _ _ j0
    have z1 : w4.frozen? ⟨w.heap.size + 1, 0, none⟩ = false := frozen_of_row _ _ 0 _ _ j1
    go_wp2_with fail
    have d0 : (w4.setCell ⟨w.heap.size, 0, none⟩ (.slice p bs.length cap)).cell? ⟨w.heap.size + 1, 0, none⟩ = some (.int .i64 0) := by rw [cell_set_ne (by simp)]; exact c1
    have hv5 := (hv.set c0 (fun _ => by simp) (.slice p bs.length cap)).set d0 (fun _ => by simp) (.int .i64 0)
    have y5 : Ext w ((w4.setCell ⟨w.heap.size, 0, none⟩ (.slice p bs.length cap)).setCell ⟨w.heap.size + 1, 0, none⟩ (.int .i64 0)) :=
      Fr.setCell (Fr.setCell y4 (fun e => by simp at e) _) (fun e => by simp at e; omega) _
    have e0 : ((w4.setCell ⟨w.heap.size, 0, none⟩ (.slice p bs.length cap)).setCell ⟨w.heap.size + 1, 0, none⟩ (.int .i64 0)).cell? ⟨w.heap.size, 0, none⟩ = some (.slice p bs.length cap) := by
      rw [cell_set_ne (by simp)]; exact cell_set c0 _
    have e1 : ((w4.setCell ⟨w.heap.size, 0, none⟩ (.slice p bs.length cap)).setCell ⟨w.heap.size + 1, 0, none⟩ (.int .i64 0)).cell? ⟨w.heap.size + 1, 0, none⟩ = some (.int .i64 0) := cell_set d0 _
    have f0 : ((w4.setCell ⟨w.heap.size, 0, none⟩ (.slice p bs.length cap)).setCell ⟨w.heap.size + 1, 0, none⟩ (.int .i64 0)).frozen? ⟨w.heap.size, 0, none⟩ = false := by simpa [go_sem] using z0
    have f1 : ((w4.setCell ⟨w.heap.size, 0, none⟩ (.slice p bs.length cap)).setCell ⟨w.heap.size + 1, 0, none⟩ (.int .i64 0)).frozen? ⟨w.heap.size + 1, 0, none⟩ = false := by simpa [go_sem] using z1
    generalize (w4.setCell ⟨w.heap.size, 0, none⟩ (.slice p bs.length cap)).setCell ⟨w.heap.size + 1, 0, none⟩ (.int .i64 0) = W5 at hv5 y5 e0 e1 f0 f1 ⊢
    clear d0 z0 z1 c0 c1 j0 j1 hv y4 x4 f3 h3
    refine (must_any true W5).mono ?_
    rintro e w6 ⟨rfl, rfl⟩
    simp only [chk, if_true]
    go_wp2_with fail
    have d0 : (W5.setCell ⟨w.heap.size, 0, none⟩ (.slice p bs.length cap)).cell? ⟨w.heap.size + 1, 0, none⟩ = some (.int .i64 0) := by rw [cell_set_ne (by simp)]; exact e1
    have hv6 := (hv5.set e0 (fun _ => by simp) (.slice p bs.length cap)).set d0 (fun _ => by simp) (.int .i64 0)
    have y6 : Ext w ((W5.setCell ⟨w.heap.size, 0, none⟩ (.slice p bs.length cap)).setCell ⟨w.heap.size + 1, 0, none⟩ (.int .i64 0)) :=
      Fr.setCell (Fr.setCell y5 (fun e => by simp at e) _) (fun e => by simp at e; omega) _
    have g0 : ((W5.setCell ⟨w.heap.size, 0, none⟩ (.slice p bs.length cap)).setCell ⟨w.heap.size + 1, 0, none⟩ (.int .i64 0)).cell? ⟨w.heap.size, 0, none⟩ = some (.slice p bs.length cap) := by
      rw [cell_set_ne (by simp)]; exact cell_set e0 _
    have g1 : ((W5.setCell ⟨w.heap.size, 0, none⟩ (.slice p bs.length cap)).setCell ⟨w.heap.size + 1, 0, none⟩ (.int .i64 0)).cell? ⟨w.heap.size + 1, 0, none⟩ = some (.int .i64 0) := cell_set d0 _
    generalize (W5.setCell ⟨w.heap.size, 0, none⟩ (.slice p bs.length cap)).setCell ⟨w.heap.size + 1, 0, none⟩ (.int .i64 0) = W6 at hv6 y6 g0 g1 ⊢
    refine leaves_cons (f := 35) (args := #[.pointer (some ⟨w.heap.size, 0, none⟩), .pointer (some ⟨w.heap.size + 1, 0, none⟩)]) (by simp) (by simp [go_sem]) ?_
    refine (catch_idle _ _ W6).mono ?_
    rintro e u' w7 ⟨rfl, rfl, rfl⟩
    simp only [Leaves, settle, results, go_sem, Tryd.f23]
    refine ⟨.tuple #[.slice p bs.length cap, .int .i64 0], ?_, y6, _, rfl, hv6⟩
    simp [go_sem, g0, g1]
end Go.Proofs.YtbehebnjbjkafaaDoor
