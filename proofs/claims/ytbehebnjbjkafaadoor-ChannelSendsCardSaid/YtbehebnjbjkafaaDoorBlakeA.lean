/- Package blake's inner functions: figure, the turned words, half a mixing, a mixing. -/
import Derived.Test.YtbehebnjbjkafaaDoorLib
import Derived.Test.YtbehebnjbjkafaaDoorBlakeSpec
import Derived.Test.YtbehebnjbjkafaaDoorProg
namespace Go.Proofs.YtbehebnjbjkafaaDoor
open Go.RowKit

def u32s (l : List Int) : Array Value := (l.map (Value.int .u32)).toArray
def u8s (l : List Int) : List Value := l.map (Value.int .u8)
theorem ret_int {k : IntKind} {a b : Int} (h : a = b) : Ending.returned (.int k a) = .returned (.int k b) := by rw [h]

theorem figure_any (c : Int) (h0 : 0 ≤ c) (h1 : c < 256) (w : World) :
    Calls Tryd.prog 70 #[.int .u8 c] w fun e w' => e = .returned (.int .i64 (figF c)) ∧ w = w' := by
  unfold figF
  go_enter Tryd.func70, Tryd.ntmps70
  go_wp2
  · go_ret
    have h : 97 ≤ c := by assumption
    exact ⟨ret_int (by simp [h]), rfl⟩
  · go_ret
    have h : ¬ 97 ≤ c := by omega
    exact ⟨ret_int (by simp [h]), rfl⟩

theorem rot16_any (x : Int) (h0 : 0 ≤ x) (h1 : x < 4294967296) (w : World) :
    Calls Tryd.prog 71 #[.int .u32 x, .int .i64 (-16)] w fun e w' => e = .returned (.int .u32 (rotW 65536 65536 x)) ∧ w = w' := by
  have hk : bits BinOp.and IntKind.u64 (IntKind.u64.wrap (-16)) 31 = 16 := by decide
  go_enter Tryd.func71, Tryd.ntmps71
  go_wp2
  go_ret
  exact ⟨rfl, rfl⟩
theorem rot12_any (x : Int) (h0 : 0 ≤ x) (h1 : x < 4294967296) (w : World) :
    Calls Tryd.prog 71 #[.int .u32 x, .int .i64 (-12)] w fun e w' => e = .returned (.int .u32 (rotW 1048576 4096 x)) ∧ w = w' := by
  have hk : bits BinOp.and IntKind.u64 (IntKind.u64.wrap (-12)) 31 = 20 := by decide
  go_enter Tryd.func71, Tryd.ntmps71
  go_wp2
  go_ret
  exact ⟨rfl, rfl⟩
theorem rot8_any (x : Int) (h0 : 0 ≤ x) (h1 : x < 4294967296) (w : World) :
    Calls Tryd.prog 71 #[.int .u32 x, .int .i64 (-8)] w fun e w' => e = .returned (.int .u32 (rotW 16777216 256 x)) ∧ w = w' := by
  have hk : bits BinOp.and IntKind.u64 (IntKind.u64.wrap (-8)) 31 = 24 := by decide
  go_enter Tryd.func71, Tryd.ntmps71
  go_wp2
  go_ret
  exact ⟨rfl, rfl⟩
theorem rot7_any (x : Int) (h0 : 0 ≤ x) (h1 : x < 4294967296) (w : World) :
    Calls Tryd.prog 71 #[.int .u32 x, .int .i64 (-7)] w fun e w' => e = .returned (.int .u32 (rotW 33554432 128 x)) ∧ w = w' := by
  have hk : bits BinOp.and IntKind.u64 (IntKind.u64.wrap (-7)) 31 = 25 := by decide
  go_enter Tryd.func71, Tryd.ntmps71
  go_wp2
  go_ret
  exact ⟨rfl, rfl⟩

/-- What a mixing's half finds in memory: the words v (block bv), m (block bm), the places in variables of their own. -/
structure Mem (bv bm : Nat) (M V : List Int) (w : World) : Prop where
  v : w.heap[bv]? = some (.cells (u32s V) 132 (0, 0))
  m : w.heap[bm]? = some (.cells (u32s M) 132 (0, 0))
  lv : V.length = 16
  lm : M.length = 16
  rv : Rng V
  rm : Rng M
  ne : bv ≠ bm

theorem u32s_get {V : List Int} {i : Nat} (h : i < V.length) : (u32s V)[i]? = some (.int .u32 (gt V i)) := by
  simp [u32s, gt, h]
theorem Mem.cv {bv bm : Nat} {M V : List Int} {w : World} (h : Mem bv bm M V w) {i : Nat} (hi : i < 16) : w.cell? ⟨bv, i, none⟩ = some (.int .u32 (gt V i)) := by
  rw [cell_of_row w bv i _ _ _ h.v]; exact u32s_get (by rw [h.lv]; exact hi)
theorem Mem.cm {bv bm : Nat} {M V : List Int} {w : World} (h : Mem bv bm M V w) {i : Nat} (hi : i < 16) : w.cell? ⟨bm, i, none⟩ = some (.int .u32 (gt M i)) := by
  rw [cell_of_row w bm i _ _ _ h.m]; exact u32s_get (by rw [h.lm]; exact hi)
theorem Mem.fv {bv bm : Nat} {M V : List Int} {w : World} (h : Mem bv bm M V w) (i : Nat) : w.frozen? ⟨bv, i, none⟩ = false := frozen_of_row w bv i _ _ h.v
theorem Mem.set {bv bm : Nat} {M V : List Int} {w : World} (h : Mem bv bm M V w) (i : Nat) {x : Int} (hx : inW x) : Mem bv bm M (V.set i x) (w.setCell ⟨bv, i, none⟩ (.int .u32 x)) := by
  refine ⟨?_, ?_, by rw [List.length_set]; exact h.lv, h.lm, h.rv.set i hx, h.rm, h.ne⟩
  · rw [heap_setCell_same w bv i _ _ _ h.v]
    simp [u32s, List.map_set]
  · rw [heap_setCell_other w _ bm _ (Ne.symm h.ne)]; exact h.m
theorem Mem.drew {bv bm : Nat} {M V : List Int} {w : World} (h : Mem bv bm M V w) : Mem bv bm M V w.drew := ⟨h.v, h.m, h.lv, h.lm, h.rv, h.rm, h.ne⟩

/-- The same, with the places a, b, c, d in variables of their own, and the frame behind a world w0. -/
structure HB (bv bm ba bb bc bd : Nat) (M V : List Int) (a b c d : Nat) (w0 w : World) : Prop where
  mem : Mem bv bm M V w
  ca : w.cell? ⟨ba, 0, none⟩ = some (.int .i64 a)
  cb : w.cell? ⟨bb, 0, none⟩ = some (.int .i64 b)
  cc : w.cell? ⟨bc, 0, none⟩ = some (.int .i64 c)
  cd : w.cell? ⟨bd, 0, none⟩ = some (.int .i64 d)
  na : ba ≠ bv
  nb : bb ≠ bv
  nc : bc ≠ bv
  nd : bd ≠ bv
  fr : Fr (fun k => k = bv) w0 w
  sz : w0.heap.size = w.heap.size
theorem HB.set {bv bm ba bb bc bd : Nat} {M V : List Int} {a b c d : Nat} {w0 w : World} (h : HB bv bm ba bb bc bd M V a b c d w0 w) (i : Nat) {x : Int} (hx : inW x) :
    HB bv bm ba bb bc bd M (V.set i x) a b c d w0 (w.setCell ⟨bv, i, none⟩ (.int .u32 x)).drew := by
  have hk : ∀ {k : Nat} {v : Value}, k ≠ bv → w.cell? ⟨k, 0, none⟩ = some v → (w.setCell ⟨bv, i, none⟩ (.int .u32 x)).drew.cell? ⟨k, 0, none⟩ = some v := fun hne hc => by
    rw [World.cell?_drew, World.cell?_setCell_other _ _ _ _ (fun e => hne (by injection e with e1; exact e1.symm))]; exact hc
  exact ⟨(h.mem.set i hx).drew, hk h.na h.ca, hk h.nb h.cb, hk h.nc h.cc, hk h.nd h.cd, h.na, h.nb, h.nc, h.nd, (h.fr.setCell (p := ⟨bv, i, none⟩) (fun _ => rfl) _).drew, by simp [h.sz]⟩

set_option maxRecDepth 100000 in
set_option maxHeartbeats 4000000 in
theorem half_step (bv bm ba bb bc bd : Nat) (M V : List Int) (a b c d : Nat) (word : Nat) (x y lx rx ly ry : Int) (w : World)
    (hB : HB bv bm ba bb bc bd M V a b c d w w) (ha : a < 16) (hb : b < 16) (hc : c < 16) (hd : d < 16) (hw : word < 160)
    (hx0 : 0 ≤ x) (hx1 : x < 64) (hy0 : 0 ≤ y) (hy1 : y < 64)
    (hrx : ∀ (v : Int) (W : World), 0 ≤ v → v < 4294967296 → Calls Tryd.prog 71 #[.int .u32 v, .int .i64 (-x)] W fun e w' => e = .returned (.int .u32 (rotW lx rx v)) ∧ w' = W)
    (hry : ∀ (v : Int) (W : World), 0 ≤ v → v < 4294967296 → Calls Tryd.prog 71 #[.int .u32 v, .int .i64 (-y)] W fun e w' => e = .returned (.int .u32 (rotW ly ry v)) ∧ w' = W) :
    Calls Tryd.prog 69 #[.int .i64 word, .int .i64 x, .int .i64 y, .pointer (some ⟨bv, 0, none⟩), .pointer (some ⟨ba, 0, none⟩), .pointer (some ⟨bb, 0, none⟩), .pointer (some ⟨bm, 0, none⟩), .pointer (some ⟨bd, 0, none⟩), .pointer (some ⟨bc, 0, none⟩)] w
      fun e w' => e = .returned (.tuple #[]) ∧ HB bv bm ba bb bc bd M (halfF M V a b c d word lx rx ly ry) a b c d w w' := by
  have hai : (a : Int) < 16 := by omega
  have hbi : (b : Int) < 16 := by omega
  have hci : (c : Int) < 16 := by omega
  have hdi : (d : Int) < 16 := by omega
  have hwi : (word : Int) < 160 := by omega
  have ca := hB.ca; have cb := hB.cb
  have va := hB.mem.cv ha
  have vb := hB.mem.cv hb
  have fa := hB.mem.fv a
  have hbyte := ordersB_get word hw
  have hfig := fun W : World => (figure_any (gt ordersL word) (ordersL_in word).1 (ordersL_in word).2 W).mono (R' := fun e w' => e = .returned (.int .i64 (ordF word : Int)) ∧ w' = W) fun e w' h => ⟨by rw [h.1, ordF_int word hw], h.2.symm⟩
  replace hfig := Lib.hid hfig
  have hm := hB.mem.cm (ordF_lt word hw)
  have hoi : (ordF word : Int) < 16 := by have := ordF_lt word hw; omega
  have nx : IntKind.i64.wrap (-x) = -x := IntWalk.i64_in _ (by omega)
  have ny : IntKind.i64.wrap (-y) = -y := IntWalk.i64_in _ (by omega)
  replace hrx := Lib.hid hrx
  replace hry := Lib.hid hry
  go_enter Tryd.func69, Tryd.ntmps69
  apply wp_seq_k; intro K hK
  go_still_tail 14, (by kernel_rfl)
  refine wpStill_step (fun K hK => ?_)
  go_simp
  refine ⟨_, hfig.out _, hK _ ?_⟩
  clear hK K hbyte hwi
  repeat still_step
  refine wpStill_nil ?_
  change wpList _ _ _ _ _ w.drew
  go_wp2
  generalize hW : World.drew (World.setCell _ _ _) = W1
  have hB1 : HB bv bm ba bb bc bd M (V.set a (addW (gt V a) (addW (gt V b) (gt M (ordF word))))) a b c d w W1 := by rw [← hW]; exact hB.set a (addW_in _ _)
  clear hW
  clear ca cb va vb fa hfig hm hoi
  generalize hV1 : V.set a (addW (gt V a) (addW (gt V b) (gt M (ordF word)))) = V1 at hB1
  replace hV1 := Lib.hid hV1
  have ca := hB1.ca; have cd := hB1.cd
  have va := hB1.mem.cv ha; have vd := hB1.mem.cv hd
  have fd := hB1.mem.fv d
  go_still_tail 12, (by kernel_rfl)
  repeat still_step
  refine wpStill_step (fun K hK => ?_)
  go_simp
  refine ⟨_, hrx.out _ _ (xorW_in _ _).1 (xorW_in _ _).2, hK _ ?_⟩
  clear hK K
  repeat still_step
  refine wpStill_nil ?_
  change wpList _ _ _ _ _ W1.drew
  go_wp2
  generalize hW : World.drew (World.setCell _ _ _) = W2
  have hB2 : HB bv bm ba bb bc bd M (V1.set d (rotW lx rx (xorW (gt V1 d) (gt V1 a)))) a b c d w W2 := by rw [← hW]; exact hB1.set d (rotW_in _ _ _)
  clear hW
  clear ca cd va vd fd hB1
  generalize hV2 : V1.set d (rotW lx rx (xorW (gt V1 d) (gt V1 a))) = V2 at hB2
  replace hV2 := Lib.hid hV2
  have cc := hB2.cc; have cd := hB2.cd
  have vc := hB2.mem.cv hc; have vd := hB2.mem.cv hd
  have fc := hB2.mem.fv c
  go_still_tail 8, (by kernel_rfl)
  change wpList _ _ _ _ _ W2.drew
  go_wp2
  generalize hW : World.drew (World.setCell _ _ _) = W3
  have hB3 : HB bv bm ba bb bc bd M (V2.set c (addW (gt V2 c) (gt V2 d))) a b c d w W3 := by rw [← hW]; exact hB2.set c (addW_in _ _)
  clear hW
  clear cc cd vc vd fc hB2
  generalize hV3 : V2.set c (addW (gt V2 c) (gt V2 d)) = V3 at hB3
  replace hV3 := Lib.hid hV3
  have cb := hB3.cb; have cc := hB3.cc
  have vb := hB3.mem.cv hb; have vc := hB3.mem.cv hc
  have fb := hB3.mem.fv b
  go_still_tail 12, (by kernel_rfl)
  refine wpStill_step (fun K hK => ?_)
  go_simp
  refine ⟨_, hry.out _ _ (xorW_in _ _).1 (xorW_in _ _).2, hK _ ?_⟩
  clear hK K
  repeat still_step
  refine wpStill_nil ?_
  change wpList _ _ _ _ _ W3.drew
  go_wp2
  go_end0
  refine ⟨rfl, ?_⟩
  have hB4 := hB3.set b (rotW_in ly ry (xorW (gt V3 b) (gt V3 c)))
  have hE : halfF M V a b c d word lx rx ly ry = V3.set b (rotW ly ry (xorW (gt V3 b) (gt V3 c))) := by
    rw [← hV3.out, ← hV2.out, ← hV1.out]; rfl
  rw [hE]
  exact hB4
end Go.Proofs.YtbehebnjbjkafaaDoor
