/- Package channel: has, Answer without a receipt, Entries of none. -/
import Derived.Test.YtbehebnjbjkafaaDoorRefB
import Derived.Test.YtbehebnjbjkafaaDoorChanG
namespace Go.Proofs.YtbehebnjbjkafaaDoor
open Go.RowKit Go.Maps Go.Sort

set_option maxRecDepth 100000 in
set_option maxHeartbeats 2000000 in
theorem has_any (c m n : Nat) (own other : ByteArray) (next : Nat) (D : DataW Unit) (k : ByteArray) (w : World) (hC : ChanAt w c m n own other next D) (hk : k.size ≤ maxLen) :
    Calls Tryd.prog 22 #[.pointer (some ⟨c, 0, none⟩), .string k] w fun e w' => e = .returned (.bool (Maps.has D (.string k.data.toList))) ∧ Ext w w' := by
  have d3 : w.cell? ⟨c, 3, none⟩ = some (.map (some m)) := by have := cell_of_row _ _ 3 _ _ _ hC.row; simpa using this
  have hkk : keyOf Tryd.prog 9 (.string k) = some (.string k.data.toList) := Go.WideMaps.keyOf_string_mk Tryd.underlying9 hk
  replace hkk := Lib.hid hkk
  go_enter Tryd.func22, Tryd.ntmps22
  go_wp2_with (at_lookup; refine wpList_lookup_own_ok _ rfl _ _ 54 rfl 9 60 slaw Tryd.underlying54 itemR (szero _) (.agg [.lit (.string [])]) [] (itemR_mk (by decide)) m n D rfl hC.map _ _ rfl hkk.out ?_; intro v ps hv; obtain ⟨s', rfl, _⟩ := itemR_inv hv; clear hv; go_frame)
  go_ret
  exact ⟨rfl, (Fr.refl _ _).alloc _⟩

def receiptB : ByteArray := ⟨#[114, 101, 99, 101, 105, 112, 116]⟩
set_option maxRecDepth 100000 in
set_option maxHeartbeats 2000000 in
theorem answer_none (c m n : Nat) (own other : ByteArray) (next : Nat) (D : DataW Unit) (i : Nat) (w : World) (hC : ChanAt w c m n own other next D) (hi : i < 100) (hh : Maps.has D (.string (ckey receiptB i).data.toList) = false) :
    Calls Tryd.prog 13 #[.pointer (some ⟨c, 0, none⟩), .int .i64 i, .string ⟨#[111, 107]⟩] w fun e w' => e = .returned (.int .i64 201) ∧ Ext w w' := by
  have hks : (ckey receiptB i).size ≤ maxLen := by have := ckey_size receiptB hi; have e : receiptB.size = 7 := rfl; unfold maxLen; omega
  have h1 := ckey_any receiptB i w (by decide) hi
  have h2 := has_any c m n own other next D (ckey receiptB i) w hC hks
  rw [hh] at h2
  replace h1 := Lib.hid h1
  replace h2 := Lib.hid h2
  clear hh hks
  go_enter Tryd.func13, Tryd.ntmps13
  go_wp2_with fail
  refine h1.out.mono ?_
  rintro e w2 ⟨rfl, rfl⟩
  go_wp2_with fail
  refine h2.out.mono ?_
  rintro e w2 ⟨rfl, hx⟩
  go_wp2_with fail
  go_ret
  exact ⟨rfl, hx⟩

set_option maxRecDepth 100000 in
set_option maxHeartbeats 2000000 in
theorem entries_none (c m n : Nat) (own other : ByteArray) (next : Nat) (D : DataW Unit) (w : World) (hC : ChanAt w c m n own other next D) (hsz : Maps.size D = 0) :
    Calls Tryd.prog 7 #[.pointer (some ⟨c, 0, none⟩)] w fun e w' => e = .returned (.slice none 0 0) ∧ Ext w w' := by
  have d3 : w.cell? ⟨c, 3, none⟩ = some (.map (some m)) := by have := cell_of_row _ _ 3 _ _ _ hC.row; simpa using this
  have hbl := hC.map.lt
  go_enter Tryd.func7, Tryd.ntmps7
  go_wp2_with (at_range; refine wpList_range_own _ rfl _ 54 rfl 9 60 slaw Tryd.underlying54 itemR m n D rfl hC.map ?_; intro w0 hrg0 hg0 hs0)
  go_frame
  have hx0 : Ext w w0 := ⟨hg0.os, hg0.tape, hg0.output, hg0.size, fun k hk _ => hg0.block k hk (by simp)⟩
  obtain ⟨r, hr⟩ : ∃ r, r = w.heap.size := ⟨_, rfl⟩
  rw [← hr] at hrg0 hs0 ⊢
  rw [hsz] at hrg0
  clear hg0 hs0
  replace hr := Lib.hid hr
  go_loopw [3] (fun v wr => ∃ (left : Lit → Bool), wr.ranges Tryd.prog 9 itemR m r n D left 0 ∧ v = .slice none 0 0 ∧ Ext w wr) (fun _ wr => wr.rangeLeft m r)
  case atStart => exact ⟨_, hrg0, rfl, hx0⟩
  case round =>
    obtain ⟨left, hrg, rfl, hx⟩ := hrel
    go_wp2_with (at_next; refine wpList_next_ranges _ rfl _ rfl 9 slaw itemR (fun s : ByteArray => .string s) (fun s : ByteArray => .agg #[.string s]) (fun key kl hk => by obtain ⟨x, hx, _⟩ := Maps.keyOf_str Tryd.underlying9 hk; exact ⟨_, hx⟩) (fun v y hv => by obtain ⟨s, hs, _⟩ := itemR_inv hv; exact ⟨s, hs⟩) m r n _ _ _ rfl hrg ?_ ?_)
    intro hc0
    have hc := AnyF.slices_SortFunc_none Tryd.sortE none 0 (.func (.func 18) #[] #[]) wr
    replace hc := Lib.hid hc
    go_wp2_with fail
    refine hc.out.mono ?_
    rintro e w' ⟨rfl, rfl⟩
    go_wp2_with fail
    go_ret
    exact ⟨rfl, hx⟩

/-- All entries, however many. -/
def EntsAns (D : DataW Unit) (w : World) (e : Ending) (w' : World) : Prop :=
  ∃ p cap, e = .returned (.slice p (Maps.size D) cap) ∧ (1 ≤ Maps.size D → ∃ (g : Nat) (d : Array (ByteArray × ByteArray)), p = some ⟨g, 0, none⟩ ∧ d.size = Maps.size D ∧ HoldsK encE 2 w' g 0 d ∧ Pairs D d.toList) ∧ Ext w w'
theorem ents_any (c m n : Nat) (own other : ByteArray) (next : Nat) (D : DataW Unit) (w : World) (hC : ChanAt w c m n own other next D) (hsz : Maps.size D ≤ 1000) :
    Calls Tryd.prog 7 #[.pointer (some ⟨c, 0, none⟩)] w fun e w' => EntsAns D w e w' := by
  by_cases h0 : Maps.size D = 0
  · refine (entries_none c m n own other next D w hC h0).mono ?_
    rintro e w' ⟨rfl, hx⟩
    exact ⟨none, 0, by rw [h0], fun h => by omega, hx⟩
  · refine (entries_any c m n own other next D w hC hsz (by omega) (sortOK _ (by omega))).mono ?_
    rintro e w' ⟨g, cap, d, rfl, hH, hP, _, hx⟩
    have hd : d.size = Maps.size D := by
      rw [← size_keys hC.map, ← hP.1.length_eq]
      simp
    exact ⟨some ⟨g, 0, none⟩, cap, by rw [hd], fun _ => ⟨g, d, rfl, hd, hH, hP⟩, hx⟩
end Go.Proofs.YtbehebnjbjkafaaDoor
