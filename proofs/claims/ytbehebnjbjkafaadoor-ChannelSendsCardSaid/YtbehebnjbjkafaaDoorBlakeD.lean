/- Package blake's Write: bytes go into a state. -/
import Derived.Test.YtbehebnjbjkafaaDoorBlakeC
namespace Go.Proofs.YtbehebnjbjkafaaDoor
open Go.RowKit

/-- A slice of bytes reads as l. -/
def SlB (w : World) (v : Value) (l : List Int) : Prop :=
  (v = .slice none 0 0 ∧ l = []) ∨ ∃ a off cap, v = .slice (some ⟨a, off, none⟩) l.length cap ∧ l.length ≤ cap ∧ cap ≤ maxLen ∧ a < w.heap.size ∧ Cs w a off (u8s l)
def Bytes (l : List Int) : Prop := ∀ x ∈ l, 0 ≤ x ∧ x < 256
theorem Bytes.gt {l : List Int} (h : Bytes l) (i : Nat) : 0 ≤ gt l i ∧ gt l i < 256 := gtb_in h i
theorem SlB.frame {w w' : World} {v : Value} {l : List Int} (h : SlB w v l) {F : Nat → Prop} (hf : Fr F w w') (hF : ∀ k, v.ownBlock = some k → ¬ F k) : SlB w' v l := by
  rcases h with h | ⟨a, off, cap, rfl, h1, h2, h4, h3⟩
  · exact Or.inl h
  · exact Or.inr ⟨a, off, cap, rfl, h1, h2, Nat.lt_of_lt_of_le h4 hf.size, h3.frame hf (hF a rfl)⟩
theorem SlB.lt {w : World} {v : Value} {l : List Int} (h : SlB w v l) : ∀ k, v.ownBlock = some k → k < w.heap.size := by
  intro k hk
  rcases h with ⟨rfl, _⟩ | ⟨a, off, cap, rfl, _, _, h4, _⟩
  · cases hk
  · cases hk; exact h4
theorem SlB.ext {w w' : World} {v : Value} {l : List Int} (h : SlB w v l) (hf : Ext w w') : SlB w' v l := h.frame hf (fun _ _ e => e)

theorem StAt.setd {b : Nat} {s : St} {w : World} (h : StAt b s w) {d : Int} (h0 : 0 ≤ d) (h1 : d < 18446744073709551616) : StAt b { s with done := d } (w.setCell ⟨b, 73, none⟩ (.int .u64 d)) := by
  refine ⟨?_, ⟨h.ok.lh, h.ok.rh, h.ok.lb, h.ok.rb, h.ok.n, h0, h1⟩, h.ng⟩
  rw [heap_setCell_same w b 73 _ _ _ h.row]
  simp [stCells, u8s, List.set_append, h.ok.lh, h.ok.lb]
theorem StAt.setn {b : Nat} {s : St} {w : World} (h : StAt b s w) {n : Nat} (hn : n ≤ 64) : StAt b { s with n := n } (w.setCell ⟨b, 72, none⟩ (.int .i64 n)) := by
  refine ⟨?_, ⟨h.ok.lh, h.ok.rh, h.ok.lb, h.ok.rb, hn, h.ok.d0, h.ok.d1⟩, h.ng⟩
  rw [heap_setCell_same w b 72 _ _ _ h.row]
  simp [stCells, u8s, List.set_append, h.ok.lh, h.ok.lb]
theorem StAt.setb {b : Nat} {s : St} {w : World} (h : StAt b s w) {i : Nat} (hi : i < 64) {c : Int} (hc : 0 ≤ c ∧ c < 256) : StAt b { s with b := s.b.set i c } (w.setCell ⟨b, 8 + i, none⟩ (.int .u8 c)) := by
  refine ⟨?_, ⟨h.ok.lh, h.ok.rh, by simp [h.ok.lb], ?_, h.ok.n, h.ok.d0, h.ok.d1⟩, h.ng⟩
  · rw [heap_setCell_same w b (8 + i) _ _ _ h.row]
    have e1 : ¬ 8 + i < 8 := by omega
    have e2 : i < 64 := hi
    simp [stCells, u8s, List.set_append, h.ok.lh, h.ok.lb, hi, List.map_set]
  · intro x hx
    rcases List.mem_or_eq_of_mem_set hx with h' | h'
    · exact h.ok.rb x h'
    · subst h'; exact hc
theorem StAt.drew {b : Nat} {s : St} {w : World} (h : StAt b s w) : StAt b s w.drew := ⟨h.row, h.ok, h.ng⟩
theorem StAt.cb {b : Nat} {s : St} {w : World} (h : StAt b s w) {i : Nat} (hi : i < 64) : w.cell? ⟨b, 8 + i, none⟩ = some (.int .u8 (gt s.b i)) :=
  h.csb i (.int .u8 (gt s.b i)) (by have : i < s.b.length := by rw [h.ok.lb]; exact hi
                                    simp [u8s, gt, this])

/-- What a block taken in makes of a state. -/
def flushF (s : St) : St := let d := (s.done + 64) % 18446744073709551616; { s with done := d, h := blockF { s with done := d } false, n := 0 }
theorem stepF_eq (s : St) (c : Int) : stepF s c = let s := if s.n = 64 then flushF s else s; { s with b := s.b.set s.n c, n := s.n + 1 } := rfl

set_option maxRecDepth 100000 in
set_option maxHeartbeats 2000000 in
theorem write_any (b : Nat) (s : St) (v : Value) (l : List Int) (w : World) (hS : StAt b s w) (hR : Roots w) (hv : SlB w v l) (hl : Bytes l) (hb : v.ownBlock ≠ some b) :
    Calls Tryd.prog 33 #[.pointer (some ⟨b, 0, none⟩), v] w
      fun e w' => e = .returned (.tuple #[]) ∧ StAt b (l.foldl stepF s) w' ∧ Fr (fun k => k = b) w w' := by
  rcases hv with ⟨rfl, rfl⟩ | ⟨a, off, cap, rfl, h1, h2, h4, h3⟩
  · go_enter Tryd.func33, Tryd.ntmps33
    go_wp2_with fail
    refine wp_loop_once ?_
    go_wp2_with fail
    go_end0
    exact ⟨rfl, hS, Fr.refl _ _⟩
  · have hab : a ≠ b := fun e => hb (by rw [e]; rfl)
    clear hb
    have hm : (l.length : Int) ≤ 9223372036854775807 := by unfold maxLen at h2; omega
    replace h3 := Lib.hid h3
    replace hl := Lib.hid hl
    clear h1 h2 h4
    go_enter Tryd.func33, Tryd.ntmps33
    go_wp2_with fail
    go_loopw [10] (fun i wr => ∃ k : Nat, k ≤ l.length ∧ i = .int .i64 k ∧ StAt b ((l.take k).foldl stepF s) wr ∧ Fr (fun k => k = b) w wr) (fun i _ => l.length - (intOf i).toNat)
    case atStart => exact ⟨0, Nat.zero_le _, rfl, hS, Fr.refl _ _⟩
    case round =>
      clear hS
      obtain ⟨k, hk, rfl, hS, hF⟩ := hrel
      by_cases hlt : k < l.length
      · have hc := (h3.out.frame hF hab).get (j := k) (v := .int .u8 (gt l k)) (by simp [u8s, gt, hlt])
        have hR1 := hR.frame hF (fun e => hS.ng e.symm)
        have hcr := hl.out.gt k
        have htk : (l.take (k + 1)).foldl stepF s = stepF ((l.take k).foldl stepF s) (gt l k) := by
          rw [List.take_succ_eq_append_getElem hlt, List.foldl_append]
          simp [gt, hlt]
        replace htk := Lib.hid htk
        generalize hc0 : gt l k = c at hc hcr htk
        clear hc0
        generalize ht : (l.take k).foldl stepF s = t at hS htk
        clear ht
        have cn := hS.csn
        have fn := hS.fr
        have nn := hS.ok.n
        have cd := hS.csd
        by_cases hn : t.n = 64
        · have hnb : ((t.n : Int) == 64) = true := by rw [hn]; rfl
          have d0 := hS.ok.d0
          have d1 := hS.ok.d1
          replace hn := Lib.hid hn
          go_wp2_with fail
          have hS1 : StAt b { t with done := (t.done + 64) % 18446744073709551616 } (wr.setCell ⟨b, 73, none⟩ (.int .u64 (IntKind.u64.wrap (t.done + 64)))) :=
            hS.setd (Int.emod_nonneg _ (by decide)) (Int.emod_lt_of_pos _ (by decide))
          refine (block_any b _ false _ hS1 (hR1.frame ((Fr.refl (fun k => k = b) wr).setCell (p := ⟨b, 73, none⟩) (fun _ => rfl) _) (fun e => hS.ng e.symm))).mono ?_
          rintro e w1 ⟨rfl, hS2, hF1⟩
          have f2 := hS2.fr
          have n2 := hS2.csn
          clear hS1 cn cd fn
          go_wp2_with fail
          generalize hW2 : World.setCell w1 _ _ = W2
          replace hS2 : StAt b (flushF t) W2 := by rw [← hW2]; exact hS2.setn (n := 0) (by omega)
          have hF2 : Fr (fun k => k = b) w W2 := by
            rw [← hW2]
            exact (((hF.setCell (p := ⟨b, 73, none⟩) (fun _ => rfl) _).trans hF1 (fun _ _ e => e)).setCell (p := ⟨b, 72, none⟩) (fun _ => rfl) _)
          clear hW2 f2 n2 hF1 hF hR1
          have hn2 : (flushF t).n < 64 := by show 0 < 64; omega
          have cn := hS2.csn
          have fn := hS2.fr
          have hni : ((flushF t).n : Int) < 64 := by omega
          have cb := hS2.cb hn2
          have e1 : IntKind.i64.wrap (((flushF t).n : Int) + 1) = (((flushF t).n + 1 : Nat) : Int) := by rw [IntKind.wrap_i64]; omega
          go_wp2_with fail
          go_still_tail 9, (by kernel_rfl)
          change wpList _ _ _ _ _ W2.drew
          go_wp2_with fail
          go_roundw
          case rel =>
            first
            | refine ⟨k + 1, by omega, rfl, ?_, ?_⟩
            | ((repeat apply Exists.intro); refine ⟨⟨k + 1, by omega, rfl, ?_, ?_⟩, rfl⟩)
            · rw [htk.out, stepF_eq, if_pos hn.out]
              exact ((hS2.setb hn2 hcr).drew).setn (n := (flushF t).n + 1) (by show (flushF t).n + 1 ≤ 64; omega)
            · exact ((hF2.setCell (p := ⟨b, 8 + (flushF t).n, none⟩) (fun _ => rfl) _).drew).setCell (p := ⟨b, 72, none⟩) (fun _ => rfl) _
          case measure => simp [intOf]; omega
        · have hnb : ((t.n : Int) == 64) = false := by rw [beq_eq_false_iff_ne]; omega
          have hS2 := hS
          have hF2 := hF
          have hn2 : t.n < 64 := by omega
          obtain ⟨W2, rfl⟩ : ∃ W2, W2 = wr := ⟨_, rfl⟩
          clear cn cd fn nn
          have cn := hS2.csn
          have fn := hS2.fr
          have hni : (t.n : Int) < 64 := by omega
          have cb := hS2.cb hn2
          have e1 : IntKind.i64.wrap ((t.n : Int) + 1) = ((t.n + 1 : Nat) : Int) := by rw [IntKind.wrap_i64]; omega
          go_wp2_with fail
          go_still_tail 9, (by kernel_rfl)
          change wpList _ _ _ _ _ W2.drew
          go_wp2_with fail
          go_roundw
          case rel =>
            first
            | refine ⟨k + 1, by omega, rfl, ?_, ?_⟩
            | ((repeat apply Exists.intro); refine ⟨⟨k + 1, by omega, rfl, ?_, ?_⟩, rfl⟩)
            · rw [htk.out, stepF_eq, if_neg hn]
              exact ((hS2.setb hn2 hcr).drew).setn (n := t.n + 1) (by show t.n + 1 ≤ 64; omega)
            · exact ((hF2.setCell (p := ⟨b, 8 + t.n, none⟩) (fun _ => rfl) _).drew).setCell (p := ⟨b, 72, none⟩) (fun _ => rfl) _
          case measure => simp [intOf]; omega
      · obtain rfl : k = l.length := by omega
        go_wp2_with fail
        go_end0
        rw [List.take_length] at hS
        exact ⟨rfl, hS, hF⟩
end Go.Proofs.YtbehebnjbjkafaaDoor
