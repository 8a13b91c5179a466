/- Package wire's Writer: texts, and all its bytes. -/
import Derived.Test.YtbehebnjbjkafaaDoorWire
namespace Go.Proofs.YtbehebnjbjkafaaDoor
open Go.RowKit

theorem Wr.setbad {B b : Nat} {bs : List Int} {bad : Bool} {w : World} (h : Wr B b bs bad w) : Wr B b bs true (w.setCell ⟨b, 3, none⟩ (.bool true)) := by
  obtain ⟨⟨hB, v, lr, ⟨cs, hb, h0, h1, h2, hr⟩, hown, hne⟩, hs⟩ := h
  refine ⟨⟨hB, v, lr, ⟨cs.setIfInBounds 3 (.bool true), heap_setCell_same w b 3 _ _ _ hb, ?_, ?_, ?_, ?_⟩, hown.kept (Lib.grownBy_setCell w b 3 _) (Or.inr hne), hne⟩, by simpa using hs⟩
  · rw [Array.getElem?_setIfInBounds_ne (by omega)]; exact h0
  · rw [Array.getElem?_setIfInBounds_ne (by omega)]; exact h1
  · rw [Array.getElem?_setIfInBounds_ne (by omega)]; exact h2
  · intro i hi
    by_cases h3 : i = 3
    · subst h3
      have := hr 3 (by omega)
      have hlt : 3 < cs.size := (Array.getElem?_eq_some_iff.1 (by simpa using this)).1
      simp [hlt]
    · rw [Array.getElem?_setIfInBounds_ne (by omega), hr i hi]
      simp [h3]
theorem Wr.cbad {B b : Nat} {bs : List Int} {bad : Bool} {w : World} (h : Wr B b bs bad w) : w.cell? ⟨b, 3, none⟩ = some (.bool bad) := by
  obtain ⟨⟨hB, v, lr, h3, _⟩, _⟩ := h
  have := h3.rest 3 (by omega)
  simpa using this
theorem Wr.fr {B b : Nat} {bs : List Int} {bad : Bool} {w : World} (h : Wr B b bs bad w) (i : Nat) : w.frozen? ⟨b, i, none⟩ = false := by
  obtain ⟨⟨hB, v, lr, h3, _⟩, _⟩ := h
  exact h3.f i

set_option maxRecDepth 100000 in
set_option maxHeartbeats 400000 in
theorem text_any (B b : Nat) (bs : List Int) (bad : Bool) (s : ByteArray) (w : World) (h : Wr B b bs bad w) (hl : bs.length ≤ 50000) :
    Calls Tryd.prog 27 #[.pointer (some ⟨b, 0, none⟩), .string s] w fun e w' => e = .returned (.tuple #[]) ∧
      (if s.size ≤ 4096 then Wr B b (bs ++ (beF s.size 2 ++ sb s)) bad w' else Wr B b bs true w') ∧ WF B b w w' := by
  by_cases hs : s.size ≤ 4096
  · have hp := put_any B b bs bad s.size 2 w h (by omega) (by omega) (by omega)
    replace hp := Lib.hid hp
    simp only [if_pos hs]
    go_enter Tryd.func27, Tryd.ntmps27
    go_wp2_with fail
    refine hp.out.mono ?_
    rintro e w2 ⟨rfl, h2, h3⟩
    go_wp2_with fail
    refine (Tryd.Buffer_WriteString_at _ _ B b 0 _ s w2 h2.1 h2.2 (u8s_one _) (by rw [length_u8s, List.length_append, length_beF]; omega)).mono ?_
    rintro e w3 ⟨rfl, h4, h5, h6⟩
    go_wp2_with fail
    go_end0
    refine ⟨rfl, ⟨?_, Nat.le_trans h2.2 h5.size⟩, h3.trans ⟨h5, h6⟩⟩
    rw [← List.append_assoc, u8s_append, u8s_sb]
    exact h4
  · simp only [if_neg hs]
    have hs' : 4096 < s.size := by omega
    have hi : (4096 : Int) < s.size := by omega
    have c3 := h.cbad
    have f3 := h.fr 3
    go_enter Tryd.func27, Tryd.ntmps27
    go_wp2_with fail
    refine bodyPost_ret (results_none rfl _ _ _) rfl ⟨rfl, h.setbad, ?_⟩
    exact ⟨(Below.refl _ _).setCell (p := ⟨b, 3, none⟩) h.le _, (Lib.OthersKept.refl _ _ _).setCell ⟨b, 3, none⟩ rfl _⟩

set_option maxRecDepth 100000 in
set_option maxHeartbeats 400000 in
theorem bufBytes_any (B b : Nat) (bs : List Int) (bad : Bool) (w : World) (h : Wr B b bs bad w) :
    Calls Tryd.prog 58 #[.pointer (some ⟨b, 0, none⟩)] w fun e w' => ∃ v, e = .returned v ∧ SlB w v bs ∧ w' = w.drew := by
  obtain ⟨⟨hB, v, lr, h3, hown, hne⟩, hs⟩ := h
  have c0 := h3.c0
  have c1 : w.cell? ⟨b, 1, none⟩ = some (.int .i64 0) := h3.c1
  rcases hown with ⟨hl, ⟨rfl, h0⟩ | ⟨g, cap, cur, rfl, hBg, hg, hnc, hcm, hcs, htk⟩⟩
  · have hb : bs = [] := by rw [length_u8s] at h0; exact List.eq_nil_of_length_eq_zero h0
    subst hb
    clear hl h0 h3 hne
    go_enter Tryd.func58, Tryd.ntmps58
    go_wp2_with fail
    go_still_tail 9, (by kernel_rfl)
    change wpList _ _ _ _ _ w.drew
    go_wp2_with fail
    go_ret
    exact ⟨_, rfl, Or.inl ⟨rfl, rfl⟩, rfl⟩
  · have hlen : bs.length = (u8s bs).length := (length_u8s bs).symm
    have hgl : g < w.heap.size := (Array.getElem?_eq_some_iff.1 hg).1
    have hcsb : Cs w g 0 (u8s bs) := by
      intro j v hj
      have hlt := (List.getElem?_eq_some_iff.1 hj).1
      rw [← htk] at hj
      have : cur.toList[j]? = some v := by
        rw [List.getElem?_take] at hj
        split at hj
        · exact hj
        · cases hj
      have h5 := cell_of_row w g (0 + j) cur _ _ hg
      rw [h5]
      simpa using this
    rw [← hlen] at c0 hnc
    have hres : ∀ cap', bs.length ≤ cap' → cap' ≤ maxLen → SlB w.drew (.slice (some ⟨g, 0, none⟩) bs.length cap') bs := fun cap' h1 h2 => Or.inr ⟨g, 0, cap', rfl, h1, h2, hgl, hcsb⟩
    have hci : (cap : Int) ≤ 9223372036854775807 := by unfold maxLen at hcm; omega
    replace hcm := Lib.hid hcm
    replace hres := Lib.hid hres
    replace hg := Lib.hid hg
    clear hcs htk hl h3 hlen hcsb hne
    go_enter Tryd.func58, Tryd.ntmps58
    go_wp2_with fail
    go_still_tail 9, (by kernel_rfl)
    change wpList _ _ _ _ _ w.drew
    go_wp2_with fail
    all_goals go_ret
    all_goals exact ⟨_, rfl, hres.out _ hnc hcm.out, rfl⟩

set_option maxRecDepth 100000 in
set_option maxHeartbeats 400000 in
theorem bytes_any (B b : Nat) (bs : List Int) (bad : Bool) (w : World) (h : Wr B b bs bad w) (hl : bs.length ≤ 1000000) :
    Calls Tryd.prog 38 #[.pointer (some ⟨b, 0, none⟩)] w fun e w' => Ext w w' ∧
      if bad then e = .returned (.tuple #[.slice none 0 0, .int .i64 21]) else ∃ v, e = .returned (.tuple #[v, .int .i64 0]) ∧ SlB w' v bs := by
  have c3 := h.cbad
  cases bad
  · have hp := bufBytes_any B b bs false w h
    replace hp := Lib.hid hp
    go_enter Tryd.func38, Tryd.ntmps38
    go_wp2_with fail
    refine hp.out.mono ?_
    rintro e w2 ⟨v, rfl, hv, rfl⟩
    rcases hv with ⟨rfl, rfl⟩ | ⟨a, off, cap, rfl, h1, h2, h3, h4⟩
    · go_wp2_with fail
      refine (Tryd.bytes_Clone_nil 0 0 _).mono ?_
      rintro e w3 ⟨rfl, rfl⟩
      go_wp2_with fail
      go_ret2
      exact ⟨(Fr.refl _ _).drew, _, rfl, Or.inl ⟨rfl, rfl⟩⟩
    · replace h4 := Lib.hid h4
      go_wp2_with fail
      refine (Tryd.bytes_Clone_at ⟨a, off, none⟩ bs.length cap bs w.drew rfl (by omega) (fun i hi => by rw [addr_add]; exact h4.out i _ (by simp [u8s, List.getD, hi]))).mono ?_
      rintro e w3 ⟨v', rfl, hown, hne, hbel⟩
      go_wp2_with fail
      go_ret2
      refine ⟨((Fr.refl (fun _ => False) w).drew).ext (Ext.of_below hbel), _, rfl, ?_⟩
      rcases hown.2 with ⟨hnil, _⟩ | ⟨g, cap', cur, rfl, hBg, hg, hnc, hcm, hcs, htk⟩
      · exact absurd hnil hne
      · refine Or.inr ⟨g, 0, cap', rfl, hnc, hcm, (Array.getElem?_eq_some_iff.1 hg).1, ?_⟩
        intro j v hj
        have h5 := cell_of_row w3 g (0 + j) cur _ _ hg
        rw [h5]
        have hj2 : (bs.map (Value.int .u8))[j]? = some v := hj
        rw [← htk, List.getElem?_take] at hj2
        split at hj2
        · simpa using hj2
        · cases hj2
  · go_enter Tryd.func38, Tryd.ntmps38
    go_wp2_with fail
    go_ret2
    exact ⟨Fr.refl _ _, rfl⟩
end Go.Proofs.YtbehebnjbjkafaaDoor
