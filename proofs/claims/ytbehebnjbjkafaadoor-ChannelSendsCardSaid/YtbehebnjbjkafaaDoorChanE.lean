/- Package channel: all entries. -/
import Derived.Test.YtbehebnjbjkafaaDoorChanD
import Derived.Test.YtbehebnjbjkafaaDoorShelfC
namespace Go.Proofs.YtbehebnjbjkafaaDoor
open Go.RowKit Go.Maps Go.Sort

theorem flat_get (l : List (ByteArray × ByteArray)) (j : Nat) (hj : j < l.length * 2) : ((l.map encE).flatten)[j]? = some ((encE l.toArray[j / 2]!)[j % 2]!) := by
  induction l generalizing j with
  | nil => simp at hj
  | cons x l ih =>
    rw [List.map_cons, List.flatten_cons]
    have hl : (encE x).length = 2 := rfl
    by_cases h : j < 2
    · rw [List.getElem?_append_left (by omega)]
      have e0 : j / 2 = 0 := by omega
      have e1 : j % 2 = j := by omega
      rw [e0, e1]
      rw [List.getElem?_eq_getElem (by omega), getElem!_pos (encE (x :: l).toArray[0]!) j (by simp; omega)]
      simp
    · obtain ⟨i, rfl⟩ : ∃ i, j = i + 2 := ⟨j - 2, by omega⟩
      rw [List.getElem?_append_right (by omega), hl, Nat.add_sub_cancel, ih i (by simp at hj; omega)]
      have e0 : (i + 2) / 2 = i / 2 + 1 := by omega
      have e1 : (i + 2) % 2 = i % 2 := by omega
      rw [e0, e1]
      have hi : i / 2 < l.length := by simp at hj; omega
      have e2 : (x :: l).toArray[i / 2 + 1]! = l.toArray[i / 2]! := by
        rw [getElem!_pos _ _ (by simp; omega), getElem!_pos _ _ (by simp; omega)]
        simp
      rw [e2]
theorem holdsE {w : World} {g : Nat} {cur : Array Value} {e : TypeId} {l : List (ByteArray × ByteArray)} (hb : w.heap[g]? = some (.cells cur e (0, 0))) (ht : cur.toList.take (l.length * 2) = (l.map encE).flatten) : HoldsK encE 2 w g 0 l.toArray := by
  intro j hj
  rw [size_flatK] at hj
  have hj' : j < l.length * 2 := by simpa using hj
  refine ⟨?_, by simp [World.frozen?, hb]⟩
  have h1 := congrArg (fun x => x[j]?) ht
  simp only [List.getElem?_take_of_lt hj'] at h1
  rw [flat_get l j hj'] at h1
  rw [cell_of_row _ _ _ _ _ _ hb, Nat.zero_add, ← Array.getElem?_toList, h1, get_flatK _ _ _ _ hj]
  rfl
theorem ext_sorted {w wr : World} {g n : Nat} {os : Array Obj} (d : Array (ByteArray × ByteArray)) (hx : Ext w wr) (hg : w.heap.size ≤ g) : Ext w (sortWorldK encE 2 wr g 0 n d os) := by
  have h1 : Fr (fun k => k = g) wr (sortWorldK encE 2 wr g 0 n d os) := by
    refine ⟨rfl, rfl, rfl, by simp [sortWorldK, grow, putRowK, putRow, mapBlock, Sort.ahead], fun k hk hne => ?_⟩
    have : g ≠ k := fun e => hne e.symm
    simp only [sortWorldK, grow, putRowK, putRow, mapBlock, Sort.ahead]
    rw [Array.getElem?_append_left (by simpa using hk), Array.getElem?_modify, if_neg this]
  exact hx.trans h1 (fun k hk e => absurd hk (by omega))
theorem permIn_all {d d' : Array (ByteArray × ByteArray)} (h : PermIn 0 d.size d d') : d'.size = d.size ∧ d'.toList.Perm d.toList := by
  obtain ⟨h1, _, h3⟩ := h
  refine ⟨h1, ?_⟩
  rw [← h1] at h3
  have e1 : d'.extract 0 d'.size = d' := by simp
  rw [e1] at h3
  rw [h1] at h3
  simpa using h3

/-- The entries l are those of the map D. -/
def Pairs (D : DataW Unit) (l : List (ByteArray × ByteArray)) : Prop :=
  (l.map fun x => x.1.data.toList).Perm (strKeys D) ∧ ∀ x ∈ l, ∀ zd, D.atKey (.string x.1.data.toList) zd = .agg [.lit (.string x.2.data.toList)]
/-- The sort of the library's serves rows of n entries. -/
def SortOK (n : Nat) : Prop := ∀ (blk cap : Nat) (d : Array (ByteArray × ByteArray)) (w : World), d.size = n → HoldsK encE 2 w blk 0 d → blk < w.heap.size →
  Calls Tryd.prog 17 #[.slice (some ⟨blk, 0, none⟩) d.size cap, .func (.func 18) #[] #[]] w fun e w' => e = .returned (.tuple #[]) ∧ ∃ d' k os, PermIn 0 d.size d d' ∧ w' = sortWorldK encE 2 w blk 0 k d' os
/-- All entries, as they are handed back. -/
def EntAns (D : DataW Unit) (w : World) (e : Ending) (w' : World) : Prop :=
  ∃ (g cap : Nat) (d : Array (ByteArray × ByteArray)), e = .returned (.slice (some ⟨g, 0, none⟩) d.size cap) ∧ HoldsK encE 2 w' g 0 d ∧ Pairs D d.toList ∧ w.heap.size ≤ g ∧ Ext w w'

theorem info_entry : (Tryd.prog.info? 58).map (fun i => (i.zero, i.size, i.bytes)) = some (some (.agg #[.string ⟨#[]⟩, .string ⟨#[]⟩]), 2, 32) := by kernel_rfl
theorem size_keys {w : World} {m n : Nat} {D : DataW Unit} (h : w.ownsMap Tryd.prog 9 itemR m n D) : (strKeys D).length = Maps.size D := by
  obtain ⟨es, clock, _, _, _, rfl⟩ := h
  simp [strKeys, Maps.size]

set_option maxRecDepth 100000 in
set_option maxHeartbeats 2000000 in
theorem entries_any (c m n : Nat) (own other : ByteArray) (next : Nat) (D : DataW Unit) (w : World) (hC : ChanAt w c m n own other next D) (hsz : Maps.size D ≤ 1000) (h0 : 1 ≤ Maps.size D) (hsort : SortOK (Maps.size D)) :
    Calls Tryd.prog 7 #[.pointer (some ⟨c, 0, none⟩)] w fun e w' => EntAns D w e w' := by
  obtain ⟨i0, hi, hz0, hz1, hz2⟩ := info_parts info_entry
  have d3 : w.cell? ⟨c, 3, none⟩ = some (.map (some m)) := by have := cell_of_row _ _ 3 _ _ _ hC.row; simpa using this
  have hbl := hC.map.lt
  replace hsort := Lib.hid hsort
  go_enter Tryd.func7, Tryd.ntmps7
  go_wp2_with (at_range; refine wpList_range_own _ rfl _ 54 rfl 9 60 slaw Tryd.underlying54 itemR m n D rfl hC.map ?_; intro w0 hrg0 hg0 hs0)
  go_frame
  have hx0 : Ext w w0 := ⟨hg0.os, hg0.tape, hg0.output, hg0.size, fun k hk _ => hg0.block k hk (by simp)⟩
  obtain ⟨r, hr⟩ : ∃ r, r = w.heap.size := ⟨_, rfl⟩
  rw [← hr] at hrg0 hs0 ⊢
  have hrlt : r < w0.heap.size := by omega
  clear hg0 hs0
  replace hr := Lib.hid hr
  go_loopw [3] (fun v wr => ∃ (left : Lit → Bool) (cnt : Nat) (l : List (ByteArray × ByteArray)), wr.ranges Tryd.prog 9 itemR m r n D left cnt ∧ l.length + cnt ≤ Maps.size D ∧
      wr.ownsRow (r + 1) 58 2 v l.length (l.map encE).flatten ∧ Collected D left (l.map fun x => x.1.data.toList) ∧ (∀ x ∈ l, ∀ zd, D.atKey (.string x.1.data.toList) zd = .agg [.lit (.string x.2.data.toList)]) ∧ Ext w wr ∧ r < wr.heap.size)
    (fun _ wr => wr.rangeLeft m r)
  case atStart =>
    exact ⟨_, _, [], hrg0, by simp, World.ownsRow_nil _ _ _ _, Collected.start D, by simp, hx0, hrlt⟩
  case round =>
    obtain ⟨left, cnt, l, hrg, hcs, hrow, hCol, hval, hx, hrl⟩ := hrel
    go_wp2_with (at_next; refine wpList_next_ranges _ rfl _ rfl 9 slaw itemR (fun s : ByteArray => .string s) (fun s : ByteArray => .agg #[.string s]) (fun key kl hk => by obtain ⟨x, hx, _⟩ := Maps.keyOf_str Tryd.underlying9 hk; exact ⟨_, hx⟩) (fun v y hv => by obtain ⟨s, hs, _⟩ := itemR_inv hv; exact ⟨s, hs⟩) m r n _ _ _ rfl hrg ?_ ?_)
    · intro hc0 hl0
      have hperm := hCol.perm hC.map slaw Tryd.underlying9 hl0
      have hlen : l.length = Maps.size D := by rw [← size_keys hC.map, ← hperm.length_eq, List.length_map]
      rcases hrow.2 with ⟨hnil, h00⟩ | ⟨g, cap, cur, rfl, hbase, hb, h1, h2, h3, h4⟩
      · omega
      have hH := holdsE hb h4
      have hgl : g < wr.heap.size := (Array.getElem?_eq_some_iff.1 hb).1
      have hc := hsort.out g cap l.toArray wr (by simpa using hlen) hH hgl
      have hsl : l.toArray.size = l.length := by simp
      rw [hsl] at hc
      replace hc := Lib.hid hc
      replace hlen := Lib.hid hlen
      replace hsl := Lib.hid hsl
      clear h3 h4 hb hrow
      go_wp2_with fail
      refine hc.out.mono ?_
      rintro e w' ⟨rfl, d', k, os, hp, rfl⟩
      rw [← hsl.out] at hp
      obtain ⟨hs1, hs2⟩ := permIn_all hp
      go_wp2_with fail
      go_ret
      refine ⟨g, cap, d', by rw [hs1, hsl.out]; rfl, holdsK_sortWorldK_c encE 2 wr g 0 l.toArray d' k os hH hgl hs1, ⟨?_, ?_⟩, by have := hr.out; omega, ext_sorted d' hx (by have := hr.out; omega)⟩
      · exact (hs2.map _).trans (by simpa using hperm)
      · intro x hx' zd
        exact hval x (by simpa using hs2.mem_iff.1 hx') zd
    · intro key val kl yd yp w2 cnt2 hkey hlk hv hat hrg2 hlt hg2 hs2 hen
      obtain ⟨x', ex, rfl, _⟩ := Maps.keyOf_str Tryd.underlying9 hkey
      obtain rfl : x' = key.data.toList := by
        have : key = ⟨x'.toArray⟩ := by simpa [Go.Proofs.encStr] using ex
        rw [this]
      obtain ⟨s', es, _, ez⟩ := itemR_inv hv
      obtain rfl : val = s' := by simpa using es
      obtain ⟨rfl, rfl⟩ : yd = .agg [.lit (.string val.data.toList)] ∧ yp = [] := by simpa using ez
      have hrow2 := hrow.kept hg2 (Or.inr (fun e => absurd (hrow.lt r (by first | exact e | exact e.symm)).1 (by omega)))
      have hx2 : Ext w w2 := hx.trans (G := fun k => k = r) ⟨hg2.os, hg2.tape, hg2.output, hg2.size, fun k hk hk2 => hg2.block k hk (fun e => hk2 (by simpa using e))⟩ (fun k hk e => absurd hk (by have := hr.out; omega))
      have hrl2 : r < w2.heap.size := Nat.lt_of_lt_of_le hrl hg2.size
      have hCol2 := hCol.step hlk hat
      clear hs2 ex es ez hkey hv hlk
      replace hat := Lib.hid hat
      replace hval := Lib.hid hval
      have hcsN : Cs ((w2.alloc (.cells #[.string val] 60)).alloc (.cells (encE (key, val)).toArray 58)) (w2.heap.size + 1) 0 (encE (key, val)) := by
        have := Cs.alloc_new' (w2.alloc (.cells #[.string val] 60)) (encE (key, val)) 58
        have e : (w2.alloc (.cells #[.string val] 60)).heap.size = w2.heap.size + 1 := by simp
        rwa [e] at this
      replace hcsN := Lib.hid hcsN
      go_wp2_with (at_builtin; (refine wpList_append_own _ rfl _ _ 37 rfl (r + 1) 58 i0 (.agg #[.string ⟨#[]⟩, .string ⟨#[]⟩]) 2 32 Tryd.underlying37 hi hz0 hz1 hz2 rfl (by decide) _ _ _ rfl ((hrow2.alloc _).alloc _) ⟨w2.heap.size + 1, 0, none⟩ 1 1 (encE (key, val)) rfl rfl (fun j u hj => by rw [addr_add]; exact hcsN.out j u hj) (encE_one _) (by unfold maxLen; omega) (by omega) (by simp; omega) ?_); intro v' w3 hown' hg3 hnil3; go_frame)
      have hb2 : ∀ k, u3.ownBlock = some k → r + 1 ≤ k := fun k hk => (hrow2.lt k hk).1
      have hml : m < r := by have := hr.out; omega
      have hrg3 := ((hrg2.alloc _).alloc _).kept hg3 (fun e => by have := hb2 m (by first | exact e | exact e.symm); omega) (fun e => by have := hb2 r (by first | exact e | exact e.symm); omega)
      have hx3 : Ext w w3 := ((hx2.alloc (.cells #[.string val] 60)).alloc (.cells #[.string key, .string val] 58)).trans (G := fun k => some k = u3.ownBlock) ⟨hg3.os, hg3.tape, hg3.output, hg3.size, fun k hk hk2 => hg3.block k hk hk2⟩ (fun k hk e => absurd (hb2 k e.symm) (by have := hr.out; omega))
      have hrl3 : r < w3.heap.size := by have := hg3.size; simp at this; omega
      refine ⟨⟨_, cnt2, l ++ [(key, val)], hrg3, by simp; omega, by simpa using hown', by simpa using hCol2, ?_, hx3, hrl3⟩, ?_⟩
      · intro x hx' zd
        rcases List.mem_append.1 hx' with h | h
        · exact hval.out x h zd
        · simp at h
          subst h
          exact hat.out zd
      · rw [hrg3.left_eq, hrg.left_eq]
        exact hlt
end Go.Proofs.YtbehebnjbjkafaaDoor
