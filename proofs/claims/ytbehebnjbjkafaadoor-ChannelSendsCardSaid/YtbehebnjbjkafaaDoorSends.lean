/- ChannelSends: the script; the walk. -/
import Derived.Test.YtbehebnjbjkafaaDoorRefC
import Derived.Test.YtbehebnjbjkafaaDoorOpen
import Derived.Test.YtbehebnjbjkafaaDoorHeldT
namespace Go.Proofs.YtbehebnjbjkafaaDoor
open Go.ChangeShapes Go.WideShapes Go.ChangeAt Go.WideMaps Go.WideElems Go.RowKit Go.Maps Go.Sort

/-- An act's cells, as far as the law reads them. -/
def ActR (cs : List Value) (x : ByteArray × Int) : Prop := cs[4]? = some (.string x.1) ∧ cs[5]? = some (.int .i64 x.2) ∧ x.1.size ≤ maxLen ∧ I64 x.2
def Script (w : World) (v : Value) (l : List (ByteArray × Int)) : Prop := OpSl 11 ActR w v l

section
variable {H : Type} {enc : TypeId × Value → H} {w : World} {base : Nat} {sp : Nat → Bool} {hd : Bool}
set_option maxRecDepth 100000 in
theorem open_script {r : Reach} {b0 : Nat} {v : Value} {d : DataW H} {p : List MemPlace} (hv : Value.okWide Tryd.prog w r b0 22 v) (h : DataW.Trod enc Tryd.prog w base sp hd 22 v d p) :
    ∃ l, Script w v l := by
  refine open_slice 11 (by decide) Tryd.underlying22 (by kernel_rfl) (fun n cs x hl hf => ?_) (okWide_slice Tryd.underlying22 hv) h
  match cs, hl with
  | [c0, c1, c2, c3, c4, c5, c6, c7, c8, c9, c10], _ =>
    obtain ⟨n, hg⟩ := fld Tryd.underlying32 hf
    obtain ⟨_, h4⟩ := hg 4 9 4 _ rfl cstr
    obtain ⟨_, h5⟩ := hg 5 3 5 _ rfl ci
    obtain ⟨a4, rfl, h6⟩ := one_string h4
    obtain ⟨a5, rfl, h7⟩ := one_int h5
    exact ⟨(a4, a5), rfl, rfl, h6, h7⟩
end

/-- What was sent so far: n packets, each with its entry. -/
structure Sent (D : DataW Unit) (n : Nat) : Prop where
  tidy : Tidy D
  size : Maps.size D = n
  keys : ∀ k, (∀ i, i ≤ n → k ≠ ckey commitB i) → Maps.has D (.string k.data.toList) = false

def mkP (N : Nat) (x : ByteArray × Int) : PackD := ⟨((N + 1 : Nat) : Int), nameA, x.1, x.2⟩
def nextD (N : Nat) (D : DataW Unit) (x : ByteArray × Int) : DataW Unit := D.put (.string (ckey commitB (N + 1)).data.toList) (commitD (mkP N x))
theorem key_len (k : ByteArray) : WideAt.IsKeyLit (.string k.data.toList : Lit) := trivial
theorem ckey_ne {i j : Nat} {s : ByteArray} (hi : i < 100) (hj : j < 100) (h : i ≠ j) : ckey s i ≠ ckey s j := fun e => h (ckey_inj hi hj e)
theorem lit_ne {a b : ByteArray} (h : a ≠ b) : (Lit.string a.data.toList) ≠ (Lit.string b.data.toList) := fun e => h (bytes_ext (by injection e))
theorem Sent.next {D : DataW Unit} {N : Nat} (h : Sent D N) (y : ByteArray × Int) (hN : N < 90) : Sent (nextD N D y) (N + 1) := by
  have hno : Maps.has D (.string (ckey commitB (N + 1)).data.toList) = false := h.keys _ (fun i hi => ckey_ne (by omega) (by omega) (by omega))
  refine ⟨h.tidy.put (key_len _) _, ?_, ?_⟩
  · unfold nextD
    rw [Maps.size_put h.tidy, if_neg (by rw [hno]; decide), h.size]
  · intro k hk
    unfold nextD
    rw [Maps.has_put_other (lit_ne (hk (N + 1) (Nat.le_refl _)))]
    exact h.keys k (fun i hi => hk i (by omega))
theorem nextD_at {D : DataW Unit} {N : Nat} {y : ByteArray × Int} (h : Sent D N) : Maps.has (nextD N D y) (.string (ckey commitB (N + 1)).data.toList) = true ∧ ∀ zd, (nextD N D y).atKey (.string (ckey commitB (N + 1)).data.toList) zd = commitD (mkP N y) :=
  ⟨Maps.has_put_same h.tidy.isMap (key_len _) _, fun zd => Maps.atKey_put_same h.tidy.isMap (key_len _) _ zd⟩
theorem sent_none : Sent (.map []) 0 := ⟨Maps.tidy_empty, rfl, fun _ _ => rfl⟩
theorem mem_strKeys {D : DataW Unit} {s : List UInt8} (h : Maps.has D (.string s) = true) : s ∈ strKeys D := by
  cases D with
  | map es =>
    obtain ⟨p, hp, hs⟩ := List.any_eq_true.1 h
    have e : p.1 = .string s := by
      cases hq : p.1 <;> rw [hq] at hs <;> simp [Lit.sameKey] at hs
      rw [hs]
    exact List.mem_map.2 ⟨p, hp, by rw [e]; rfl⟩
  | _ => cases h
theorem receipt_ne (i j : Nat) : ckey receiptB i ≠ ckey commitB j := by
  intro e
  have := congrArg (fun b : ByteArray => b.data.toList.head?) e
  simp only [ckey_list] at this
  simp [receiptB, commitB] at this
theorem find_pairs {D : DataW Unit} {l : List (ByteArray × ByteArray)} {k v : ByteArray} (h : Pairs D l) (hk : k.data.toList ∈ strKeys D) (hat : ∀ zd, D.atKey (.string k.data.toList) zd = .agg [.lit (.string v.data.toList)]) : findF l k = some v := by
  obtain ⟨h1, h2⟩ := h
  have hm := h1.mem_iff.2 hk
  obtain ⟨x, hx, hxk⟩ := List.mem_map.1 hm
  have hex : (l.find? fun x => decide (x.1 = k)).isSome = true := by
    rw [List.find?_isSome]
    exact ⟨x, hx, decide_eq_true (bytes_ext hxk)⟩
  obtain ⟨y, hy⟩ := Option.isSome_iff_exists.1 hex
  have hyk : y.1 = k := of_decide_eq_true (p := y.1 = k) (List.find?_some (p := fun x : ByteArray × ByteArray => decide (x.1 = k)) hy)
  have hyl := List.mem_of_find?_eq_some hy
  have e1 := h2 y hyl .nil
  rw [hyk, hat] at e1
  simp at e1
  unfold findF
  rw [hy]
  exact congrArg some (bytes_ext (by simpa using e1.symm))
theorem holds_ext {w w' : World} {g : Nat} {d : Array (ByteArray × ByteArray)} (h : HoldsK encE 2 w g 0 d) (hx : Ext w w') : HoldsK encE 2 w' g 0 d := by
  intro j hj
  obtain ⟨h1, h2⟩ := h j hj
  have hlt := World.block_lt_of_cell? _ _ h1
  have hb : w'.heap[g]? = w.heap[g]? := hx.block g hlt (fun e => e)
  refine ⟨Ext.cell hx h1, ?_⟩
  unfold World.frozen? at h2 ⊢
  simpa [hb] using h2
/-- Behind a sending. -/
def SendG (c m N : Nat) (D : DataW Unit) (y : ByteArray × Int) (W : World) (x : List Value) (u : Value) (w' : World) : Prop :=
  (packOk (mkP N y) = true ∧ x = (mkP N y).cells ∧ u = .int .i64 0 ∧ ChanAt w' c m (N + 1) nameA nameB (N + 1 + 1) (nextD N D y) ∧ Fr (fun k => k = c ∨ k = m) W w') ∨
  (packOk (mkP N y) = false ∧ x = zeroP.cells ∧ u = .int .i64 61 ∧ Ext W w')
def SendK (w0 : World) (c m N : Nat) (D : DataW Unit) (y : ByteArray × Int) (x : List Value) (u : Value) (g : Nat) (W : World) : Prop :=
  Cs W g 0 x ∧ Ext w0 W ∧ w0.heap.size ≤ g ∧
  ((packOk (mkP N y) = true ∧ x = (mkP N y).cells ∧ u = .int .i64 0 ∧ ChanAt W c m (N + 1) nameA nameB (N + 1 + 1) (nextD N D y)) ∨
   (packOk (mkP N y) = false ∧ x = zeroP.cells ∧ u = .int .i64 61 ∧ ChanAt W c m N nameA nameB (N + 1) D))
theorem SendG.ext {w0 : World} {c m N : Nat} {D : DataW Unit} {y : ByteArray × Int} {W w' : World} {x : List Value} {u : Value} (h : SendG c m N D y W x u w') (hx : Ext w0 W) (hc : w0.heap.size ≤ c) (hm : w0.heap.size ≤ m) : Ext w0 w' := by
  rcases h with ⟨_, _, _, _, h⟩ | ⟨_, _, _, h⟩
  · exact hx.trans h (fun k hk e => by rcases e with rfl | rfl <;> omega)
  · exact hx.ext h
theorem SendG.len {c m N : Nat} {D : DataW Unit} {y : ByteArray × Int} {W w' : World} {x : List Value} {u : Value} (h : SendG c m N D y W x u w') : x.length = 4 ∧ ∀ v ∈ x, v.oneCell' = true := by
  rcases h with ⟨_, rfl, _⟩ | ⟨_, rfl, _⟩
  · exact ⟨(mkP N y).length_cells, (mkP N y).one⟩
  · exact ⟨zeroP.length_cells, zeroP.one⟩
theorem SendG.far {c m N : Nat} {D : DataW Unit} {y : ByteArray × Int} {W w' : World} {x : List Value} {u : Value} (h : SendG c m N D y W x u w') {b : Nat} (hb : b < W.heap.size) (hc : b ≠ c) (hm : b ≠ m) : w'.heap[b]? = W.heap[b]? := by
  rcases h with ⟨_, _, _, _, h⟩ | ⟨_, _, _, h⟩
  · exact h.block b hb (by rintro (rfl | rfl) <;> contradiction)
  · exact h.block b hb (fun e => e)
theorem SendG.k1 {w0 : World} {c m N : Nat} {D : DataW Unit} {y : ByteArray × Int} {W w' : World} {x : List Value} {u : Value} (h : SendG c m N D y W x u w') (hC : ChanAt W c m N nameA nameB (N + 1) D) (hx : Ext w0 w') (T : TypeId) :
    SendK w0 c m N D y x u w'.heap.size (w'.alloc (.cells x.toArray T)) := by
  have e : Ext w' (w'.alloc (.cells x.toArray T)) := (Fr.refl _ _).alloc _
  refine ⟨Cs.alloc_new' _ _ _, hx.ext e, hx.size, ?_⟩
  rcases h with ⟨h1, h2, h3, h4, _⟩ | ⟨h1, h2, h3, h4⟩
  · exact Or.inl ⟨h1, h2, h3, h4.ext e⟩
  · exact Or.inr ⟨h1, h2, h3, (hC.ext h4).ext e⟩
theorem chan_far {w W : World} {c m n g : Nat} {own other : ByteArray} {next : Nat} {D : DataW Unit} (h : ChanAt w c m n own other next D) (hf : Fr (fun k => k = g) w W) (hc : c ≠ g) (hm : m ≠ g) : ChanAt W c m n own other next D :=
  ⟨hf.heap_some h.row hc, h.map.kept (row := some g) ⟨hf.os, hf.tape, hf.output, hf.size, fun k hk hk2 => hf.block k hk (fun e => hk2 (by rw [e]))⟩ (by simp; exact hm)⟩
theorem SendG.k2 {w0 : World} {c m N g : Nat} {D : DataW Unit} {y : ByteArray × Int} {W w' W2 : World} {x : List Value} {u : Value} {T : TypeId} (h : SendG c m N D y W x u w') (hC : ChanAt W c m N nameA nameB (N + 1) D) (hx : Ext w0 w')
    (hr : W2.heap[g]? = some (.cells x.toArray T (0, 0))) (hf : Fr (fun k => k = g) w' W2) (hg : w0.heap.size ≤ g) (hc : c ≠ g) (hm : m ≠ g) : SendK w0 c m N D y x u g W2 ∧ Ext w0 W2 := by
  have e : Ext w0 W2 := hx.trans hf (fun k hk e => by omega)
  refine ⟨⟨?_, e, hg, ?_⟩, e⟩
  · intro j v hj
    rw [Nat.zero_add, cell_of_row _ _ _ _ _ _ hr]
    simpa using hj
  · rcases h with ⟨h1, h2, h3, h4, _⟩ | ⟨h1, h2, h3, h4⟩
    · exact Or.inl ⟨h1, h2, h3, chan_far h4 hf hc hm⟩
    · exact Or.inr ⟨h1, h2, h3, chan_far (hC.ext h4) hf hc hm⟩
theorem ext_drewN (w : World) (n : Nat) : Ext w (w.drewN n) := ⟨rfl, rfl, rfl, Nat.le_refl _, fun _ _ _ => rfl⟩
theorem send_g (c m N : Nat) (D : DataW Unit) (y : ByteArray × Int) (W : World) (hC : ChanAt W c m N nameA nameB (N + 1) D) (hR : Roots W) (hd : y.1.size ≤ maxLen) (ht : I64 y.2) (hN : N < 90) :
    Calls Tryd.prog 6 #[.pointer (some ⟨c, 0, none⟩), .string y.1, .int .i64 y.2] W fun e w' => ∃ x u, e = .returned (.tuple #[.agg x.toArray, u]) ∧ SendG c m N D y W x u w' := by
  refine (send_any c m N nameA nameB (N + 1) D y.1 y.2 W hC hR (by decide) hd ht (by omega) (by unfold maxLen; omega)).mono ?_
  intro e w' h
  unfold SendAns at h
  split at h
  · rename_i hok
    exact ⟨_, _, h.1, Or.inl ⟨hok, rfl, rfl, h.2.1, h.2.2⟩⟩
  · rename_i hok
    exact ⟨_, _, h.1, Or.inr ⟨eq_false_of_ne_true hok, rfl, rfl, h.2⟩⟩

set_option maxRecDepth 100000 in
set_option maxHeartbeats 2000000 in
theorem sends_any (v : Value) (l : List (ByteArray × Int)) (w : World) (hS : Script w v l) (hR : Roots w) :
    Calls Tryd.prog 3 #[v] w fun e w' => e = .returned (.bool true) ∧ Ext w w' := by
  obtain ⟨p, cap, rfl, hlen, hel⟩ := hS
  go_enter Tryd.func3, Tryd.ntmps3
  go_wp2_with fail
  refine (chanNew_any nameA nameB w (by decide) (by decide) (by rw [Lib.toList_data, Lib.toList_data]; decide)).mono ?_
  rintro e w2 ⟨c, m, rfl, hC, hc, hm, hx2⟩
  go_wp2_with fail
  refine (alive_any w2 (hR.ext hx2)).mono ?_
  rintro e w3 ⟨rfl, hx3⟩
  have hC3 := hC.ext hx3
  have hx := hx2.ext hx3
  clear hC hx2 hx3
  go_wp2_with fail
  go_loopw [5, 6] (fun n i wr => ∃ (N I : Nat) (D : DataW Unit), n = .int .i64 N ∧ i = .int .i64 I ∧ N ≤ I ∧ I ≤ l.length ∧ I ≤ 60 ∧ ChanAt wr c m N nameA nameB (N + 1) D ∧ Sent D N ∧ Ext w wr) (fun _ i _ => 60 - (intOf i).toNat)
  case atStart => exact ⟨0, 0, _, rfl, rfl, by omega, by omega, by omega, hC3, sent_none, hx⟩
  case round =>
    obtain ⟨N, I, D, rfl, rfl, hNI, hIl, hI, hCr, hD, hxr⟩ := hrel
    by_cases h60 : I < 60
    · by_cases hil : I < l.length
      · obtain ⟨x, hxI⟩ : ∃ x, l[I]? = some x := ⟨_, List.getElem?_eq_getElem hil⟩
        obtain ⟨b, off, cs, rfl, hcl, hcs, hx4, hx5, hd, ht⟩ := hel I x hxI
        have hmlt : m < wr.heap.size := hCr.map.lt
        have hclt : c < wr.heap.size := (Array.getElem?_eq_some_iff.1 hCr.row).1
        have k4 := hcs.get hx4
        have k5 := hcs.get hx5
        have j4 := Ext.cell hxr k4
        have j5 := Ext.cell hxr k5
        have hIi : (I : Int) < 60 := by omega
        have hIl : (I : Int) < l.length := by omega
        clear hel hcs hxI hx4 hx5
        by_cases h1000 : x.1.size ≤ 1000
        · have h1000i : ¬ (1000 : Int) < x.1.size := by omega
          go_upto_region 9 with fail
          refine region_cut (fun a a' w' => ∃ xs u g, a' = (((((((((((((((((a.put (some 46) (.pointer (some ⟨c, 0, none⟩))).put (some 47) (.slice (some ⟨b, off, none⟩) l.length cap)).put (some 48) (.int .i64 I)).put (some 49) (.pointer (some ⟨b, off + I * 11, none⟩))).put (some 50) (.pointer (some ⟨b, off + I * 11 + 4, none⟩))).put (some 51) (.string x.1)).put (some 52) (.slice (some ⟨b, off, none⟩) l.length cap)).put (some 53) (.int .i64 I)).put (some 54) (.pointer (some ⟨b, off + I * 11, none⟩))).put (some 55) (.pointer (some ⟨b, off + I * 11 + 5, none⟩))).put (some 56) (.int .i64 x.2)).put (some 57) (.tuple #[.agg xs.toArray, u])).put (some 45) (.tuple #[.agg xs.toArray, u])).put (some 58) (.agg xs.toArray)).put (some 59) u).put (some 7) (.pointer (some ⟨g, 0, none⟩))).put (some 8) u) ∧ SendK w c m N D x xs u g w') ?_ ?_
          · refine wp_reads_tail 11 7 (fun w' => Ext w w') (by kernel_rfl) rfl (by kernel_rfl) (fun _ _ _ _ _ h => by cases h.1) (hxr.drew) ?_
            simp only [List.take_succ_cons, List.take_zero]
            refine reads_val (.pointer (some ⟨c, 0, none⟩)) (by kernel_rfl) (fun w => by go_simp) ?_
            go_frame
            refine reads_val (.slice (some ⟨b, off, none⟩) l.length cap) (by kernel_rfl) (fun w => by go_simp) ?_
            go_frame
            refine reads_val (.int .i64 I) (by kernel_rfl) (fun w => by go_simp) ?_
            go_frame
            refine reads_val (.pointer (some ⟨b, off + I * 11, none⟩)) (by kernel_rfl) (fun w => by go_simp) ?_
            go_frame
            refine reads_val (.pointer (some ⟨b, off + I * 11 + 4, none⟩)) (by kernel_rfl) (fun w => by go_simp) ?_
            go_frame
            refine reads_read (.string x.1) (by kernel_rfl) (fun w hw => run_load1 9 _ rfl ⟨b, off + I * 11 + 4, none⟩ rfl (by kernel_rfl) _ (Ext.cell hw k4)) ?_
            go_frame
            refine reads_val (.slice (some ⟨b, off, none⟩) l.length cap) (by kernel_rfl) (fun w => by go_simp) ?_
            go_frame
            refine reads_val (.int .i64 I) (by kernel_rfl) (fun w => by go_simp) ?_
            go_frame
            refine reads_val (.pointer (some ⟨b, off + I * 11, none⟩)) (by kernel_rfl) (fun w => by go_simp) ?_
            go_frame
            refine reads_val (.pointer (some ⟨b, off + I * 11 + 5, none⟩)) (by kernel_rfl) (fun w => by go_simp) ?_
            go_frame
            refine reads_read (.int .i64 x.2) (by kernel_rfl) (fun w hw => run_load1 3 _ rfl ⟨b, off + I * 11 + 5, none⟩ rfl (by kernel_rfl) _ (Ext.cell hw k5)) ?_
            go_frame
            refine reads_nil ?_
            refine tail_call_store (f := 6) (args := #[.pointer (some ⟨c, 0, none⟩), .string x.1, .int .i64 x.2]) 11 (by kernel_rfl) (fun _ _ _ _ _ h => by cases h.1) 34 rfl rfl rfl rfl rfl rfl rfl rfl rfl rfl rfl rfl rfl rfl rfl rfl rfl rfl rfl rfl rfl rfl rfl rfl rfl rfl 144 rfl (by decide) (fun _ => by kernel_rfl) (fun _ _ => by kernel_rfl) zeroP.cells.toArray 34 (fun _ _ => by kernel_rfl) 4 rfl (by kernel_rfl) (SendG c m N D x) (hxr.drew) (fun W cs h => h.alloc _) ?_ ?_ (SendK w c m N D x) ?_ ?_ ?_
            · rintro W (rfl | rfl)
              · exact send_g c m N D x _ (hCr.ext (Fr.refl _ _).drew) (hR.ext hxr.drew) hd ht (by omega)
              · exact send_g c m N D x _ (hCr.ext ((Fr.refl _ _).drew.alloc _)) (hR.ext (hxr.drew.alloc _)) hd ht (by omega)
            · intro W xs u w' h
              exact ⟨h.len.1, h.len.2, fun hs => h.ext hs hc hm, fun b hb hb2 => h.far hb2 (fun e => by have h1 := hclt; have h2 : wr.heap.size ≤ b := hb; omega) (fun e => by have h1 := hmlt; have h2 : wr.heap.size ≤ b := hb; omega)⟩
            · intro xs u w' h hs
              exact h.k1 (hCr.ext (Fr.refl _ _).drew) hs _
            · intro xs u w' W h hs hr hf
              exact h.k2 (hCr.ext ((Fr.refl _ _).drew.alloc _)) hs hr hf (hxr.drew).size (fun e => by have h1 := hclt; have h2 : c = wr.heap.size := e; omega) (fun e => by have h1 := hmlt; have h2 : m = wr.heap.size := e; omega)
            · intro xs u g W h
              exact ⟨rfl, xs, u, g, rfl, h⟩
          · rintro _ w5 ⟨xs, u, g, rfl, hK⟩
            go_frame
            obtain ⟨hcs5, hx5, hg5, ⟨hok, rfl, rfl, hC5⟩ | ⟨hok, rfl, rfl, hC5⟩⟩ := hK
            · have hD5 := hD.next x (by omega)
              have hat5 := nextD_at (D := D) (N := N) (y := x) hD
              have hno5 := hD5.keys (ckey receiptB (N + 1)) (fun i hi => receipt_ne _ _)
              obtain ⟨D5, hDe⟩ : ∃ z, z = nextD N D x := ⟨_, rfl⟩
              rw [← hDe] at hD5 hat5 hno5 hC5
              clear hDe
              replace hat5 := Lib.hid hat5
              replace hno5 := Lib.hid hno5
              have hen := ents_any c m (N + 1) nameA nameB (N + 1 + 1) D5 w5 hC5 (by rw [hD5.size]; omega)
              unfold EntsAns at hen
              rw [hD5.size] at hen
              have hN60 : ¬ 9223372036854775807 < (N : Int) + 1 := by omega
              have hN61 : ¬ 9223372036854775807 < (N : Int) + 1 + 1 := by omega
              have hNc : ((N + 1 : Nat) : Int) = (N : Int) + 1 := by omega
              replace hen := Lib.hid hen
              clear hCr
              go_wp2_with fail
              refine hen.out.mono ?_
              rintro e w6 ⟨q, cap6, rfl, hent, hx6⟩
              have hC6 := hC5.ext hx6
              have hcs6 := hcs5.ext hx6
              have hw6 := hx5.ext hx6
              have hnx : ∀ W, (∃ n, W = w6.drewN n) → Calls Tryd.prog 8 #[.pointer (some ⟨c, 0, none⟩)] W fun e w' => e = .returned (.int .i64 ((N : Int) + 1 + 1)) ∧ ∃ n, w' = W.drewN n := fun W hW => (next_any c m (N + 1) nameA nameB (N + 1 + 1) D5 W (hC6.ext (by obtain ⟨n, rfl⟩ := hW; exact ext_drewN _ _))).mono fun e w' h => ⟨by rw [h.1]; rfl, 0, h.2.symm⟩
              replace hnx := Lib.hid hnx
              have p0 : w6.cell? ⟨g, 0, none⟩ = some (.int .i64 ((N : Int) + 1)) := by have := hcs6.get (j := 0) (v := .int .i64 ((N + 1 : Nat) : Int)) rfl; simpa using this
              have p1 : w6.cell? ⟨g, 1, none⟩ = some (.string ⟨#[97]⟩) := by have := hcs6.get (j := 1) (v := .string ⟨#[97]⟩) rfl; simpa using this
              have p2 : w6.cell? ⟨g, 2, none⟩ = some (.string x.1) := by have := hcs6.get (j := 2) (v := .string x.1) rfl; simpa using this
              have p3 : w6.cell? ⟨g, 3, none⟩ = some (.int .i64 x.2) := by have := hcs6.get (j := 3) (v := .int .i64 x.2) rfl; simpa using this
              have l4 := Ext.cell hw6 k4
              have l5 := Ext.cell hw6 k5
              clear hen hC5 hx hC3 j4 j5
              replace hcs6 := Lib.hid hcs6
              go_upto_region 13 with fail
              go_quiet (exact Calls.quiet_of (hnx.out _ ⟨_, rfl⟩))
              clear hnx p0 p1 p2 p3 l4 l5
              obtain ⟨g2, d, rfl, hds, hHd, hPd⟩ := hent (by omega)
              have hx7 := ext_drewN w6 nq
              have hC7 := hC6.ext hx7
              have hcs7 := hcs6.out.ext hx7
              have hHd7 := holds_ext hHd hx7
              have hw7 := hw6.ext hx7
              have hfd := find_pairs (k := ckey commitB (N + 1)) (v := hashText (packHash (mkP N x))) hPd (mem_strKeys hat5.out.1) hat5.out.2
              clear hPd hHd hat5 hcs6 hC6 hw6 hx7 hent
              generalize w6.drewN nq = w7 at *
              have hph := pHash_any (mkP N x) w7 ⟨(by show I64 ((N + 1 : Nat) : Int); unfold I64; omega), (by show (nameA).size ≤ maxLen; decide), hd, ht⟩ (hR.ext hw7)
              rw [hok, hashAns_ok] at hph
              replace hph := Lib.hid hph
              replace hcs7 := Lib.hid hcs7
              replace hfd := Lib.hid hfd
              replace hds := Lib.hid hds
              go_upto_region 16 with fail
              go_wp2_with (refine wpList_load_cs rfl 34 _ rfl g 0 rfl (mkP N x).cells hcs7.out _ rfl rfl 4 (mkP N x).length_cells (by kernel_rfl) ?_)
              refine hph.out.mono ?_
              rintro e w8 ⟨rfl, hx8⟩
              go_upto_region 17 with (refine wpList_store_new rfl 41 _ _ rfl (packHash (mkP N x)).cells _ _ w8.heap.size rfl rfl rfl 32 (Hash.length_cells _) (by kernel_rfl) rfl (packHash (mkP N x)).one ?_)
              have hx9 := hx8.alloc (.cells (packHash (mkP N x)).cells.toArray 41)
              have hh9 : Cs (w8.alloc (.cells (packHash (mkP N x)).cells.toArray 41)) w8.heap.size 0 (packHash (mkP N x)).cells := Cs.alloc_new' _ _ _
              generalize w8.alloc (.cells (packHash (mkP N x)).cells.toArray 41) = w9 at *
              generalize w8.heap.size = hb at *
              have hC9 := hC7.ext hx9
              have hw9 := hw7.ext hx9
              have hHd9 := holds_ext hHd7 hx9
              clear hC7 hw7 hHd7 hcs7 hx8 hx9 hph
              have hkey := rkey_any commitB (N + 1) w9 (by decide) (by omega)
              rw [hNc] at hkey
              have hfnd := find_any g2 cap6 d (ckey commitB (N + 1)) w9 hHd9 (by have := hds.out; omega)
              rw [hfd.out, hds.out] at hfnd
              replace hkey := Lib.hid hkey
              replace hfnd := Lib.hid hfnd
              clear hHd9 hfd hds
              go_wp2_with fail
              refine hkey.out.mono ?_
              rintro e w10 ⟨rfl, rfl⟩
              go_wp2_with fail
              refine hfnd.out.mono ?_
              rintro e w10 ⟨rfl, rfl⟩
              clear hkey hfnd
              unfold findV
              go_upto_region 18 with fail
              go_wp2_with (refine wpList_loadN (by kernel_rfl) 41 _ rfl hb 0 rfl (packHash (mkP N x)).cells hh9 _ Tryd.underlying41 rfl 32 (Hash.length_cells _) (by kernel_rfl) ?_)
              refine (rtext_any (packHash (mkP N x)) w9).mono ?_
              rintro e w10 ⟨rfl, hx10⟩
              have hC10 := hC9.ext hx10
              have hw10 := hw9.ext hx10
              have hans := answer_none c m (N + 1) nameA nameB (N + 1 + 1) D5 (N + 1) w10 hC10 (by omega) hno5.out
              rw [hNc] at hans
              replace hans := Lib.hid hans
              generalize hashText (packHash (mkP N x)) = T at *
              clear hC9 hw9 hh9 hx10
              go_wp2_with fail
              refine hans.out.mono ?_
              rintro e w11 ⟨rfl, hx11⟩
              clear hans
              have hC11 := hC10.ext hx11
              have hw11 := hw10.ext hx11
              clear hC10 hw10 hx11 hNc
              go_wp2_with fail
              exact ⟨⟨N + 1, I + 1, D5, rfl, rfl, by omega, by omega, by omega, hC11, hD5, hw11⟩, by simp [intOf]; omega⟩
            · have hen := ents_any c m N nameA nameB (N + 1) D w5 hC5 (by rw [hD.size]; omega)
              unfold EntsAns at hen
              rw [hD.size] at hen
              have hN60 : ¬ 9223372036854775807 < (N : Int) + 1 := by omega
              replace hen := Lib.hid hen
              go_wp2_with fail
              refine hen.out.mono ?_
              rintro e w6 ⟨q, cap6, rfl, _, hx6⟩
              have hC6 := hC5.ext hx6
              have hnx : ∀ W, (∃ n, W = w6.drewN n) → Calls Tryd.prog 8 #[.pointer (some ⟨c, 0, none⟩)] W fun e w' => e = .returned (.int .i64 ((N : Int) + 1)) ∧ ∃ n, w' = W.drewN n := fun W hW => (next_any c m N nameA nameB (N + 1) D W (hC6.ext (by obtain ⟨n, rfl⟩ := hW; exact ext_drewN _ _))).mono fun e w' h => ⟨by rw [h.1]; rfl, 0, h.2.symm⟩
              replace hnx := Lib.hid hnx
              clear hen hC5 hCr hR hx hC3
              go_upto_region 13 with fail
              go_quiet (exact Calls.quiet_of (hnx.out _ ⟨_, rfl⟩))
              go_wp2_with fail
              exact ⟨⟨N, I + 1, D, rfl, rfl, by omega, by omega, by omega, hC6.ext (ext_drewN _ _), hD, (hx5.ext hx6).ext (ext_drewN _ _)⟩, by simp [intOf]; omega⟩
        · have h1000i : (1000 : Int) < x.1.size := by omega
          go_wp2_with fail
          exact ⟨⟨N, I + 1, D, rfl, rfl, by omega, by omega, by omega, hCr, hD, hxr⟩, by simp [intOf]; omega⟩
      · obtain rfl : I = l.length := by omega
        have hIi : (l.length : Int) < 60 := by omega
        go_wp2_with fail
        go_ret
        exact ⟨rfl, hxr⟩
    · obtain rfl : I = 60 := by omega
      by_cases hil : 60 < l.length
      · have hIl : (60 : Int) < l.length := by omega
        go_wp2_with fail
        go_ret
        exact ⟨rfl, hxr⟩
      · have hIl : ¬ (60 : Int) < l.length := by omega
        go_wp2_with fail
        go_ret
        exact ⟨rfl, hxr⟩
end Go.Proofs.YtbehebnjbjkafaaDoor
