/- Package channel: a channel in memory; sending. -/
import Derived.Test.YtbehebnjbjkafaaDoorChanB
import Derived.Maps.OwnSet
import Derived.Maps.RangeWalk
import Derived.Sort.KeysCollected
import Derived.Deep.RegionHeld3
import Derived.Test.YtbehebnjbjkafaaDoorQuietT
namespace Go.Proofs.YtbehebnjbjkafaaDoor
open Go.RowKit Go.Maps

/-- What an entry's value reads as. -/
def itemR (v : Value) : Option (DataW Unit × List MemPlace) :=
  match v with
  | .agg ⟨[.string s]⟩ => if s.size ≤ maxLen then some (.agg [.lit (.string s.data.toList)], []) else none
  | _ => none
theorem itemR_mk {s : ByteArray} (h : s.size ≤ maxLen) : itemR (.agg #[.string s]) = some (.agg [.lit (.string s.data.toList)], []) := by
  show (if s.size ≤ maxLen then _ else _) = _
  rw [if_pos h]
theorem itemR_inv {v : Value} {z : DataW Unit × List MemPlace} (h : itemR v = some z) : ∃ s : ByteArray, v = .agg #[.string s] ∧ s.size ≤ maxLen ∧ z = (.agg [.lit (.string s.data.toList)], []) := by
  unfold itemR at h
  split at h
  · rename_i s
    split at h
    · rename_i hs
      exact ⟨s, rfl, hs, by simpa using h.symm⟩
    · cases h
  · cases h
theorem slaw : Keyed Tryd.prog 9 := string_keyed Tryd.underlying9
theorem szero (w : World) : (zeroValue 60).run Tryd.prog w = .ok (.agg #[.string ⟨#[]⟩]) w := by kernel_rfl

/-- A channel lies at block c; its entries are the map of block m, which reads as D. -/
structure ChanAt (w : World) (c m n : Nat) (own other : ByteArray) (next : Nat) (D : DataW Unit) : Prop where
  row : w.heap[c]? = some (.cells #[.string own, .string other, .int .i64 next, .map (some m)] 56 (0, 0))
  map : w.ownsMap Tryd.prog 9 itemR m n D
theorem ChanAt.ne {w : World} {c m n : Nat} {own other : ByteArray} {next : Nat} {D : DataW Unit} (h : ChanAt w c m n own other next D) : m ≠ c := by
  intro e
  subst e
  obtain ⟨es, clock, hb, _⟩ := h.map
  rw [h.row] at hb
  cases hb
theorem ChanAt.ext {w w' : World} {c m n : Nat} {own other : ByteArray} {next : Nat} {D : DataW Unit} (h : ChanAt w c m n own other next D) (hx : Ext w w') : ChanAt w' c m n own other next D :=
  ⟨hx.heap_some h.row (fun e => e), h.map.kept (row := none) ⟨hx.os, hx.tape, hx.output, hx.size, fun k hk _ => hx.block k hk (fun e => e)⟩ (by simp)⟩

def commitB : ByteArray := ⟨#[99, 111, 109, 109, 105, 116]⟩
def zeroP : PackD := ⟨0, ⟨#[]⟩, ⟨#[]⟩, 0⟩
def commitD (p : PackD) : DataW Unit := .agg [.lit (.string (hashText (packHash p)).data.toList)]

/-- How a sending ends. -/
def SendAns (c m n : Nat) (own other : ByteArray) (next : Nat) (D : DataW Unit) (p : PackD) (w : World) (e : Ending) (w' : World) : Prop :=
  if packOk p then e = .returned (.tuple #[.agg p.cells.toArray, .int .i64 0]) ∧ ChanAt w' c m (n + 1) own other (next + 1) (D.put (.string (ckey commitB next).data.toList) (commitD p)) ∧ Fr (fun k => k = c ∨ k = m) w w'
  else e = .returned (.tuple #[.agg zeroP.cells.toArray, .int .i64 61]) ∧ Ext w w'

set_option maxRecDepth 100000 in
set_option maxHeartbeats 1000000 in
theorem send_any (c m n : Nat) (own other : ByteArray) (next : Nat) (D : DataW Unit) (data : ByteArray) (timeout : Int) (w : World) (hC : ChanAt w c m n own other next D) (hR : Roots w)
    (ho : own.size ≤ maxLen) (hd : data.size ≤ maxLen) (ht : I64 timeout) (hnx : next < 99) (hn : n < maxLen) :
    Calls Tryd.prog 6 #[.pointer (some ⟨c, 0, none⟩), .string data, .int .i64 timeout] w fun e w' => SendAns c m n own other next D ⟨next, own, data, timeout⟩ w e w' := by
  have hp : (⟨next, own, data, timeout⟩ : PackD).wf := ⟨⟨by show (_ : Int) ≤ (next : Int); omega, by show (next : Int) ≤ _; omega⟩, ho, hd, ht⟩
  obtain ⟨p, hpe⟩ : ∃ p : PackD, p = ⟨next, own, data, timeout⟩ := ⟨_, rfl⟩
  have hcells : (#[.int .i64 next, .string own, .string data, .int .i64 timeout] : Array Value) = p.cells.toArray := by rw [hpe]; rfl
  rw [← hpe] at hp ⊢
  replace hpe := Lib.hid hpe
  replace hcells := Lib.hid hcells
  have c0 := cell_of_row _ _ 0 _ _ _ hC.row
  have c2 := cell_of_row _ _ 2 _ _ _ hC.row
  simp at c0 c2
  have x1 : Ext w (w.alloc (.cells zeroP.cells.toArray 34)) := (Fr.refl _ _).alloc _
  have c0' := x1.cell c0
  have c2' := x1.cell c2
  go_enter Tryd.func6, Tryd.ntmps6
  go_upto_region 3 with fail
  change Code.wp _ _ _ _ (w.alloc (.cells zeroP.cells.toArray 34))
  generalize hW : w.alloc (.cells zeroP.cells.toArray 34) = W at *
  go_region_held3 (fun w' => w'.cell? ⟨c, 0, none⟩ = some (.string own) ∧ w'.cell? ⟨c, 2, none⟩ = some (.int .i64 next)) (first | exact ⟨c0', c2'⟩ | exact ⟨((Fr.refl (fun _ => False) W).alloc _).cell_some c0' (fun e => e), ((Fr.refl (fun _ => False) W).alloc _).cell_some c2' (fun e => e)⟩) (first | fail)
  rw [hcells.out]
  have hF2 : Ext w (W.alloc (.cells p.cells.toArray 34)).drew := (x1.alloc _).drew
  have hcs2 : Cs (W.alloc (.cells p.cells.toArray 34)).drew W.heap.size 0 p.cells := Cs.alloc_new' _ _ _
  have hrz : W.heap[w.heap.size]? = some (.cells zeroP.cells.toArray 34 (0, 0)) := by rw [← hW]; exact heap_alloc_new _ _
  have hrz2 : (W.alloc (.cells p.cells.toArray 34)).drew.heap[w.heap.size]? = _ := ((Fr.refl (fun _ => False) W).alloc _).drew.heap_some hrz (fun e => e)
  have hsW : W.heap.size = w.heap.size + 1 := by rw [← hW]; simp
  clear hW hrz x1 c0 c2 c0' c2'
  obtain ⟨g, hg⟩ : ∃ g, g = W.heap.size := ⟨_, rfl⟩
  rw [← hg] at hcs2 hsW ⊢
  generalize (W.alloc (.cells p.cells.toArray 34)).drew = W2 at *
  replace hcs2 := Lib.hid hcs2
  replace hg := Lib.hid hg
  replace hsW := Lib.hid hsW
  have hph := pHash_any p W2 hp (hR.ext hF2)
  replace hph := Lib.hid hph
  go_wp2_with (refine wpList_load_cs rfl 34 _ rfl g 0 rfl p.cells hcs2.out _ rfl rfl 4 p.length_cells (by kernel_rfl) ?_)
  refine hph.out.mono ?_
  rintro e w3 ⟨rfl, hF3⟩
  have hF := hF2.ext hF3
  have hr3 := hF3.heap_some hrz2 (fun e => e)
  have hcs3 := hcs2.out.ext hF3
  clear hph hcs2 hrz2
  cases hok : packOk p
  · rw [hashAns_bad]
    go_upto_region 6 with (refine wpList_store_new rfl 41 _ _ rfl zeroH.cells _ _ w3.heap.size rfl rfl rfl 32 (Hash.length_cells _) (by kernel_rfl) rfl zeroH.one ?_)
    have hr4 : (w3.alloc (.cells zeroH.cells.toArray 41)).heap[w.heap.size]? = _ := ((Fr.refl (fun _ => False) w3).alloc _).heap_some hr3 (fun e => e)
    have hF4 := hF.alloc (.cells zeroH.cells.toArray 41)
    generalize w3.alloc (.cells zeroH.cells.toArray 41) = W4 at *
    replace hr4 := Lib.hid hr4
    go_wp2_with (refine wpList_store_whole rfl 34 _ _ rfl w.heap.size rfl zeroP.cells rfl 4 rfl (by kernel_rfl) zeroP.one _ rfl _ hr4.out (fun W6 hr6 hF6 _ => ?_))
    refine ret_cs_tmp rfl w.heap.size rfl rfl zeroP.cells 4 rfl hr6 _ Tryd.underlying34 rfl (by kernel_rfl) ?_
    unfold SendAns
    rw [if_neg (by rw [hok]; simp)]
    exact ⟨rfl, hF4.trans hF6 (fun k hk e => absurd hk (by omega))⟩
  · rw [hashAns_ok]
    go_upto_region 7 with (refine wpList_store_new rfl 41 _ _ rfl (packHash p).cells _ _ w3.heap.size rfl rfl rfl 32 (Hash.length_cells _) (by kernel_rfl) rfl (packHash p).one ?_)
    have hr4 : (w3.alloc (.cells (packHash p).cells.toArray 41)).heap[w.heap.size]? = _ := ((Fr.refl (fun _ => False) w3).alloc _).heap_some hr3 (fun e => e)
    have hF4 := hF.alloc (.cells (packHash p).cells.toArray 41)
    have hh4 : Cs (w3.alloc (.cells (packHash p).cells.toArray 41)) w3.heap.size 0 (packHash p).cells := Cs.alloc_new' _ _ _
    have hcs4 := hcs3.ext ((Fr.refl (fun _ => False) w3).alloc (.cells (packHash p).cells.toArray 41))
    have hC4 := hC.ext hF4
    generalize w3.alloc (.cells (packHash p).cells.toArray 41) = W4 at *
    generalize w3.heap.size = hb at *
    have d2 : W4.cell? ⟨c, 2, none⟩ = some (.int .i64 next) := by have := cell_of_row _ _ 2 _ _ _ hC4.row; simpa using this
    have d3 : W4.cell? ⟨c, 3, none⟩ = some (.map (some m)) := by have := cell_of_row _ _ 3 _ _ _ hC4.row; simpa using this
    refine wp_quiet_tail 12 (fun w' => Ext W4 w') (by kernel_rfl) (by kernel_rfl) (Fr.refl _ _).drew ?_
    simp only [List.take_succ_cons, List.take_zero, List.drop_succ_cons, List.drop_zero]
    refine quiet_go (by kernel_rfl) (quiet_val (v := .pointer (some ⟨c, 0, none⟩)) (fun w => by go_simp) ?_)
    go_frame
    refine quiet_go (by kernel_rfl) (quiet_val (v := .pointer (some ⟨c, 0, none⟩)) (fun w => by go_simp) ?_)
    go_frame
    refine quiet_go (by kernel_rfl) (quiet_val (v := .pointer (some ⟨c, 3, none⟩)) (fun w => by go_simp) ?_)
    go_frame
    refine quiet_go (by kernel_rfl) (quiet_read (v := .map (some m)) (fun w hw => run_load1 54 _ rfl ⟨c, 3, none⟩ rfl (by kernel_rfl) _ (hw.cell d3)) ?_)
    go_frame
    refine quiet_go (by kernel_rfl) (quiet_val (v := .pointer (some ⟨c, 0, none⟩)) (fun w => by go_simp) ?_)
    go_frame
    refine quiet_go (by kernel_rfl) (quiet_val (v := .pointer (some ⟨c, 0, none⟩)) (fun w => by go_simp) ?_)
    go_frame
    refine quiet_go (by kernel_rfl) (quiet_val (v := .pointer (some ⟨c, 2, none⟩)) (fun w => by go_simp) ?_)
    go_frame
    refine quiet_go (by kernel_rfl) (quiet_read (v := .int .i64 next) (fun w hw => run_load1 3 _ rfl ⟨c, 2, none⟩ rfl (by kernel_rfl) _ (hw.cell d2)) ?_)
    go_frame
    refine quiet_go (by kernel_rfl) (quiet_call (f := 16) (args := #[.string commitB, .int .i64 next]) (v := .string (ckey commitB next)) (fun w => by kernel_rfl) (fun w hw => (ckey_any commitB next w (by decide) (by omega)).mono fun _ _ h => ⟨h.1, h.2 ▸ hw⟩) ?_)
    go_frame
    refine quiet_go (by kernel_rfl) (quiet_read (v := .agg (packHash p).cells.toArray) (fun w hw => run_loadN 41 _ rfl hb 0 rfl (packHash p).cells (hh4.ext hw) _ Tryd.underlying41 rfl 32 (Hash.length_cells _) (by kernel_rfl)) ?_)
    go_frame
    refine quiet_go (by kernel_rfl) (quiet_call (f := 15) (args := #[.agg (packHash p).cells.toArray]) (v := .string (hashText (packHash p))) (fun w => by kernel_rfl) (fun w hw => (text_hash (packHash p) w).mono fun _ _ h => ⟨h.1, hw.ext h.2⟩) ?_)
    go_frame
    refine quiet_go (by kernel_rfl) (quiet_val (v := .agg #[.string (hashText (packHash p))]) (fun w => by go_simp) ?_)
    go_frame
    refine wpQuiet_nil ?_
    intro w5 hF5
    have hC5 := hC4.ext hF5
    have hF6 := hF4.ext hF5
    have hr5 := hF5.heap_some hr4 (fun e => e)
    have hcs5 := hcs4.ext hF5
    have hky : (ckey commitB next).size ≤ maxLen := by have := ckey_size commitB (i := next) (by omega); have e : commitB.size = 6 := rfl; unfold maxLen; omega
    have hkk : keyOf Tryd.prog 9 (.string (ckey commitB next)) = some (.string (ckey commitB next).data.toList) := Go.WideMaps.keyOf_string_mk Tryd.underlying9 hky
    have hval : itemR (.agg #[.string (hashText (packHash p))]) = some (commitD p, []) := itemR_mk (by rw [hashText_size]; decide)
    have hnxi : (next : Int) < 99 := by omega
    replace hkk := Lib.hid hkk
    replace hval := Lib.hid hval
    clear d2 d3 hh4 hr4 hcs4 hC4 hcs3 hr3 hky hF4 hF5 hF3 hF2
    go_upto_region 8 with (at_mapUpdate; refine wpList_mapUpdate_own _ rfl _ _ _ 54 rfl 9 60 slaw Tryd.underlying54 itemR m n D rfl hC5.map hn _ _ _ rfl rfl hkk.out (commitD p) [] hval.out ?_; intro w6 hown6 hgr6; go_frame)
    have hm6 : Fr (fun k => k = m) w5 w6 := ⟨hgr6.os, hgr6.tape, hgr6.output, hgr6.size, fun k hk hk2 => hgr6.block k hk (fun e => hk2 (by simpa using e))⟩
    have hne : c ≠ m := fun e => hC.ne e.symm
    have hmlt : m < w.heap.size := hC.map.lt
    have hclt : c < w.heap.size := (Array.getElem?_eq_some_iff.1 hC.row).1
    have hrow6 := hm6.heap_some hC5.row hne
    have hr6 := hm6.heap_some hr5 (by omega)
    have hcs6 := hcs5.frame hm6 (by have := hsW.out; omega)
    have hF7 : Fr (fun k => k = c ∨ k = m) w w6 := (Fr.of_ext hF6).trans hm6 (fun k _ e => Or.inr e)
    have d2 : w6.cell? ⟨c, 2, none⟩ = some (.int .i64 next) := by have := cell_of_row _ _ 2 _ _ _ hrow6; simpa using this
    have z2 : w6.frozen? ⟨c, 2, none⟩ = false := frozen_of_row _ _ _ _ _ hrow6
    clear hC5 hr5 hcs5 hgr6 hm6 hF6 hkk hval
    go_upto_region 9 with fail
    have hrow7 : (w6.setCell ⟨c, 2, none⟩ (.int .i64 ((next : Int) + 1))).heap[c]? = some (.cells #[.string own, .string other, .int .i64 ((next + 1 : Nat) : Int), .map (some m)] 56 (0, 0)) := by
      rw [heap_setCell_same _ _ _ _ _ _ hrow6]
      simp
    have hr7 : (w6.setCell ⟨c, 2, none⟩ (.int .i64 ((next : Int) + 1))).heap[w.heap.size]? = _ := (heap_setCell_other _ _ _ _ (by simp; omega)).trans hr6
    have hcs7 : Cs (w6.setCell ⟨c, 2, none⟩ (.int .i64 ((next : Int) + 1))) g 0 p.cells := hcs6.frame (Fr.setCell (F := fun k => k = c) (Fr.refl _ _) (fun _ => rfl) _) (by have := hsW.out; omega)
    have hF8 : Fr (fun k => k = c ∨ k = m) w (w6.setCell ⟨c, 2, none⟩ (.int .i64 ((next : Int) + 1))) := hF7.setCell (fun _ => Or.inl rfl) _
    have hown7 := hown6.setCell (a := ⟨c, 2, none⟩) (fun e => hne e.symm) (.int .i64 ((next : Int) + 1))
    generalize w6.setCell ⟨c, 2, none⟩ (.int .i64 ((next : Int) + 1)) = w7 at *
    replace hr7 := Lib.hid hr7
    replace hcs7 := Lib.hid hcs7
    replace hrow7 := Lib.hid hrow7
    go_wp2_with (first
      | (refine wpList_load_cs rfl 34 _ rfl g 0 rfl p.cells hcs7.out _ rfl rfl 4 p.length_cells (by kernel_rfl) ?_)
      | (refine wpList_store_whole rfl 34 _ _ rfl w.heap.size rfl p.cells rfl 4 rfl (by kernel_rfl) p.one _ rfl _ hr7.out (fun W6 hr6 hF6 _ => ?_)))
    refine ret_cs_tmp rfl w.heap.size rfl rfl p.cells 4 rfl hr6 _ Tryd.underlying34 rfl (by kernel_rfl) ?_
    unfold SendAns
    rw [if_pos hok]
    refine ⟨rfl, ⟨hF6.heap_some hrow7.out (by omega), hown7.kept (row := some w.heap.size) ⟨hF6.os, hF6.tape, hF6.output, hF6.size, fun k hk hk2 => hF6.block k hk (fun e => hk2 (by rw [e]))⟩ (by simp; omega)⟩, hF8.trans hF6 (fun k hk e => absurd hk (by omega))⟩
end Go.Proofs.YtbehebnjbjkafaaDoor
