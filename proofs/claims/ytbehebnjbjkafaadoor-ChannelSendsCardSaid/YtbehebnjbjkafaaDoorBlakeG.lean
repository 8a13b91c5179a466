/- Package blake: Sum, Join; slices in memory. -/
import Derived.Test.YtbehebnjbjkafaaDoorBlakeF
namespace Go.Proofs.YtbehebnjbjkafaaDoor
open Go.RowKit

/-- A slice reads as l: each element has sz cells, which R reads. -/
def Sl {α : Type} (sz : Nat) (R : World → List Value → α → Prop) (w : World) (v : Value) (l : List α) : Prop :=
  (v = .slice none 0 0 ∧ l = []) ∨ ∃ a off cap, v = .slice (some ⟨a, off, none⟩) l.length cap ∧ l.length ≤ cap ∧ cap ≤ maxLen ∧ a < w.heap.size ∧
    ∀ k x, l[k]? = some x → ∃ cs, cs.length = sz ∧ Cs w a (off + k * sz) cs ∧ R w cs x
theorem Sl.ext {α : Type} {sz : Nat} {R : World → List Value → α → Prop} {w w' : World} {v : Value} {l : List α} (h : Sl sz R w v l) (hf : Ext w w')
    (hR : ∀ cs x, R w cs x → R w' cs x) : Sl sz R w' v l := by
  rcases h with h | ⟨a, off, cap, rfl, h1, h2, h3, h4⟩
  · exact Or.inl h
  · refine Or.inr ⟨a, off, cap, rfl, h1, h2, Nat.lt_of_lt_of_le h3 hf.size, fun k x hk => ?_⟩
    obtain ⟨cs, c1, c2, c3⟩ := h4 k x hk
    exact ⟨cs, c1, c2.ext hf, hR _ _ c3⟩
/-- An element that is a slice of bytes. -/
def RB (w : World) (cs : List Value) (x : List Int) : Prop := ∃ v, cs = [v] ∧ SlB w v x
theorem RB.ext {w w' : World} (hf : Ext w w') (cs : List Value) (x : List Int) (h : RB w cs x) : RB w' cs x := by
  obtain ⟨v, h1, h2⟩ := h; exact ⟨v, h1, h2.ext hf⟩

theorem length_sumF (s : St) : (sumF s).length = 32 := by simp [sumF]
theorem bytes_sumF (s : St) : Bytes (sumF s) := by
  intro x hx
  simp only [sumF, List.mem_map] at hx
  obtain ⟨i, _, rfl⟩ := hx
  exact ⟨Int.emod_nonneg _ (by decide), Int.emod_lt_of_pos _ (by decide)⟩

/-- A hash: 32 bytes. -/
structure Hash where
  l : List Int
  len : l.length = 32
  ok : Bytes l
def Hash.cells (h : Hash) : List Value := u8s h.l
theorem Hash.ext' {a b : Hash} (h : a.l = b.l) : a = b := by cases a; cases b; cases h; rfl
instance : DecidableEq Hash := fun a b => decidable_of_iff (a.l = b.l) ⟨Hash.ext', fun h => by rw [h]⟩
theorem Hash.length_cells (h : Hash) : h.cells.length = 32 := by simp [Hash.cells, u8s, h.len]
theorem Hash.one (h : Hash) : ∀ v ∈ h.cells, v.oneCell' = true := u8s_one _
def zeroH : Hash := ⟨List.replicate 32 0, rfl, by intro x hx; rw [List.eq_of_mem_replicate hx]; decide⟩
/-- The digest of some bytes. -/
def blakeH (l : List Int) : Hash := ⟨blakeF l, length_sumF _, bytes_sumF _⟩

/-- A hash is stored into a variable of that type. -/
theorem wpList_store_hash {ops : Array Oper} {rest : List Oper} {o : Oper} {a : Act} {w : World} {Q : Exit → Act → World → Prop}
    (hgd : o.guard = none) (x y : Operand) (ho : o.op = .store 41 x y) (g : Nat) (hx : a.eval x = .pointer (some ⟨g, 0, none⟩)) (H : Hash) (hy : a.eval y = .agg H.cells.toArray)
    (H0 : Hash) (hg : w.heap[g]? = some (.cells H0.cells.toArray 41 (0, 0)))
    (h : ∀ W : World, W.heap[g]? = some (.cells H.cells.toArray 41 (0, 0)) → Fr (fun k => k = g) w W → W.heap.size = w.heap.size → wpList Tryd.prog ops Q rest (a.put o.dst undef) W) :
    wpList Tryd.prog ops Q (o :: rest) a w := by
  refine wpList_store_cs hgd 41 x y ho g 0 hx H.cells hy 32 H.length_cells (by kernel_rfl) H.one _ _ hg (by rw [H.length_cells, List.size_toArray, H0.length_cells]; exact Nat.le_refl _) ?_
  refine h _ ?_ ((Fr.refl (fun k => k = g) w).setRow (fun _ => rfl) _) (by simp)
  rw [setRow_heap w g _ _ _ _ hg]
  rw [List.drop_of_length_le (by rw [H.length_cells, H0.length_cells]; exact Nat.le_refl _), List.append_nil]
  simp
/-- A function whose result is a hash in a variable returns. -/
theorem ret_hash {fn : Func} {p : Tmp} {R : Ending → World → Prop} {a : Act} {w : World} (h : fn.results = #[.cell p 41]) (g : Nat) (hp : a.tmps.getD p undef = .pointer (some ⟨g, 0, none⟩)) (hd : a.defers = [])
    (H : Hash) (hg : w.heap[g]? = some (.cells H.cells.toArray 41 (0, 0))) (hR : R (.returned (.agg H.cells.toArray)) w) : bodyPost Tryd.prog fn R .ret a w :=
  bodyPost_ret (v := .agg H.cells.toArray) (results_cell_row h _ _ g 41 H.cells.toArray (0, 0) _ hp hg Tryd.underlying41 rfl (by rw [List.size_toArray, H.length_cells]; kernel_rfl)) hd hR

set_option maxRecDepth 100000 in
set_option maxHeartbeats 600000 in
theorem join_any (tag : Int) (v : Value) (ps : List (List Int)) (w : World) (ht : 0 ≤ tag ∧ tag < 256) (hv : Sl 1 RB w v ps) (hl : ∀ p ∈ ps, Bytes p) (hR : Roots w) :
    Calls Tryd.prog 20 #[.int .u8 tag, v] w fun e w' => e = .returned (.agg (blakeH (tag :: ps.flatten)).cells.toArray) ∧ Ext w w' := by
  have hn := fun W h => new_any W h
  replace hn := Lib.hid hn
  go_enter Tryd.func20, Tryd.ntmps20
  go_wp2_with fail
  generalize hW1 : World.alloc w _ = W1
  have hF1 : Ext w W1 := by rw [← hW1]; exact (Fr.refl _ _).alloc _
  have hr1 : W1.heap[w.heap.size]? = some (.cells zeroH.cells.toArray 41 (0, 0)) := by rw [← hW1]; exact heap_alloc_new _ _
  have hsz : w.heap.size < W1.heap.size := by rw [← hW1]; simp
  clear hW1
  replace hr1 := Lib.hid hr1
  refine (hn.out W1 (hR.ext hF1)).mono ?_
  rintro e w2 ⟨rfl, hS, hF2⟩
  obtain ⟨bs, hbs⟩ : ∃ bs, bs = W1.heap.size := ⟨_, rfl⟩
  rw [← hbs] at hS hsz ⊢
  replace hbs := Lib.hid hbs
  have hs2 : bs < w2.heap.size := (Array.getElem?_eq_some_iff.1 hS.row).1
  go_wp2_with fail
  generalize hW3 : World.alloc w2 _ = W3
  obtain ⟨bt, hbt⟩ : ∃ bt, bt = w2.heap.size := ⟨_, rfl⟩
  have hF3 : Ext w2 W3 := by rw [← hW3]; exact (Fr.refl _ _).alloc _
  have hst : SlB W3 (.slice (some ⟨bt, 0, none⟩) 1 1) [tag] := Or.inr ⟨bt, 0, 1, rfl, Nat.le_refl 1, by decide, by rw [← hW3, hbt]; simp, by rw [← hW3, hbt]; exact Cs.alloc_new w2 #[.int .u8 tag] 5⟩
  rw [← hbt]
  clear hW3
  replace hbt := Lib.hid hbt
  have hS3 := hS.frame hF3 (fun e => e)
  have hrt := hbt.out
  refine (write_any bs newF _ [tag] W3 hS3 (((hR.ext hF1).ext hF2).ext hF3) hst (by intro x hx; simp at hx; subst hx; exact ht) (fun e => by injection e with e1; have e2 : bt = bs := e1; omega)).mono ?_
  rintro e w4 ⟨rfl, hS4, hF4⟩
  have hFw : Ext w W3 := (hF1.ext hF2).ext hF3
  have hr3 : W3.heap[w.heap.size]? = some (.cells zeroH.cells.toArray 41 (0, 0)) := hF3.heap_some (hF2.heap_some hr1.out (fun e => e)) (fun e => e)
  have hwbs : w.heap.size < bs := by have := hbs.out; omega
  have hng := hS.ng
  have key : ∀ wr : World, StAt bs ((tag :: ps.flatten).foldl stepF newF) wr → Fr (fun k => k = bs) W3 wr → Calls Tryd.prog 34 #[.pointer (some ⟨bs, 0, none⟩)] wr
      fun e w' => e = .returned (.agg (blakeH (tag :: ps.flatten)).cells.toArray) ∧ w'.heap[w.heap.size]? = some (.cells zeroH.cells.toArray 41 (0, 0)) ∧ Ext w w' := fun wr hSr hFr =>
    (stateSum_any bs _ wr hSr ((hR.ext hFw).frame hFr (fun e => hng e.symm))).mono fun e w' ⟨h1, h2⟩ =>
      ⟨h1, h2.heap_some (hFr.heap_some hr3 (by omega)) (fun e => e), (hFw.trans hFr (fun k hk e => absurd hk (by omega))).ext h2⟩
  replace key := Lib.hid key
  have hR4 : ∀ wr : World, Fr (fun k => k = bs) W3 wr → Roots wr := fun wr h => (hR.ext hFw).frame h (fun e => hng e.symm)
  replace hR4 := Lib.hid hR4
  clear hr3 hst hS hS3 hF1 hF2 hF3 hr1 hs2 hrt
  rcases hv with ⟨rfl, rfl⟩ | ⟨a, off, cap, rfl, h1, h2, h3, h4⟩
  · go_wp2_with fail
    refine wp_loop_once ?_
    go_wp2_with fail
    refine (key.out w4 hS4 hF4).mono ?_
    rintro e w5 ⟨rfl, hr5, hF5⟩
    replace hr5 := Lib.hid hr5
    go_wp2_with (refine wpList_store_hash rfl _ _ rfl w.heap.size rfl (blakeH [tag]) rfl zeroH hr5.out (fun W6 hr6 hF6 _ => ?_))
    refine ret_hash rfl w.heap.size rfl rfl (blakeH [tag]) hr6 ⟨rfl, hF5.trans hF6 (fun k hk e => absurd hk (by omega))⟩
  · have hm : (ps.length : Int) ≤ 9223372036854775807 := by unfold maxLen at h2; omega
    replace h4 := Lib.hid h4
    replace hl := Lib.hid hl
    clear h1 h2
    go_wp2_with fail
    go_loopw [15] (fun i wr => ∃ k : Nat, k ≤ ps.length ∧ i = .int .i64 k ∧ StAt bs ((tag :: (ps.take k).flatten).foldl stepF newF) wr ∧ Fr (fun k => k = bs) W3 wr) (fun i _ => ps.length - (intOf i).toNat)
    case atStart => exact ⟨0, Nat.zero_le _, rfl, hS4, hF4⟩
    case round =>
      clear hS4 hF4
      obtain ⟨k, hk, rfl, hS, hF⟩ := hrel
      by_cases hlt : k < ps.length
      · obtain ⟨cs, hc1, hc2, vk, rfl, hb⟩ := h4.out k ps[k] (List.getElem?_eq_getElem hlt)
        have hcv := ((hc2.ext hFw).frame hF (by omega)).head
        rw [Nat.mul_one] at hcv
        have hbl := hl.out ps[k] (List.getElem_mem hlt)
        have hbw := (hb.ext hFw).frame hF (fun j hj e => by have := hb.lt j hj; omega)
        have hbs' : vk.ownBlock ≠ some bs := fun e => by have := hb.lt _ e; omega
        clear hc1 hc2 hb
        go_wp2_with fail
        refine (write_any bs _ vk ps[k] wr hS (hR4.out wr hF) hbw hbl hbs').mono ?_
        rintro e w5 ⟨rfl, hS5, hF5⟩
        go_wp2_with fail
        go_roundw
        case rel =>
          have e1 : (tag :: (ps.take (k + 1)).flatten).foldl stepF newF = ps[k].foldl stepF ((tag :: (ps.take k).flatten).foldl stepF newF) := by
            rw [List.take_succ_eq_append_getElem hlt, List.flatten_append]
            simp [List.foldl_append]
          rw [← e1] at hS5
          first
          | exact ⟨k + 1, by omega, rfl, hS5, hF.trans hF5 (fun _ _ e => e)⟩
          | ((repeat apply Exists.intro); exact ⟨⟨k + 1, by omega, rfl, hS5, hF.trans hF5 (fun _ _ e => e)⟩, rfl⟩)
        case measure => simp [intOf]; omega
      · obtain rfl : k = ps.length := by omega
        rw [List.take_length] at hS
        go_wp2_with fail
        refine (key.out wr hS hF).mono ?_
        rintro e w5 ⟨rfl, hr5, hF5⟩
        replace hr5 := Lib.hid hr5
        go_wp2_with (refine wpList_store_hash rfl _ _ rfl w.heap.size rfl (blakeH (tag :: ps.flatten)) rfl zeroH hr5.out (fun W6 hr6 hF6 _ => ?_))
        refine ret_hash rfl w.heap.size rfl rfl (blakeH (tag :: ps.flatten)) hr6 ⟨rfl, hF5.trans hF6 (fun k hk e => absurd hk (by omega))⟩
end Go.Proofs.YtbehebnjbjkafaaDoor
