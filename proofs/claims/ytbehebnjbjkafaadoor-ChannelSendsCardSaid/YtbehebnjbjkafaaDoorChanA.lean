/- Package channel: a packet's hash; an entry's key. -/
import Derived.Test.YtbehebnjbjkafaaDoorPack
import Derived.Test.YtbehebnjbjkafaaDoorText
import Derived.Test.YtbehebnjbjkafaaDoorBuild
namespace Go.Proofs.YtbehebnjbjkafaaDoor
open Go.RowKit

def packHash (p : PackD) : Hash := blakeH (6 :: packBytes p)

set_option maxRecDepth 100000 in
set_option maxHeartbeats 1000000 in
theorem pHash_any (p : PackD) (w : World) (hp : p.wf) (hR : Roots w) :
    Calls Tryd.prog 9 #[.agg p.cells.toArray] w fun e w' => e = HashAns (packOk p) (packHash p) ∧ Ext w w' := by
  have hcs : Cs (w.alloc (.cells p.cells.toArray 34)) w.heap.size 0 p.cells := Cs.alloc_new' _ _ _
  have hF1 : Ext w (w.alloc (.cells p.cells.toArray 34)) := (Fr.refl _ _).alloc _
  have hsz : (w.alloc (.cells p.cells.toArray 34)).heap.size = w.heap.size + 1 := by simp
  go_enter Tryd.func9, Tryd.ntmps9
  go_upto_region 1 with fail
  generalize w.alloc (.cells p.cells.toArray 34) = W1 at *
  change Code.wp _ _ _ _ (W1.alloc (.cells zeroH.cells.toArray 41))
  have hr2 : (W1.alloc (.cells zeroH.cells.toArray 41)).heap[W1.heap.size]? = some (.cells zeroH.cells.toArray 41 (0, 0)) := heap_alloc_new _ _
  have hcs2 := hcs.ext ((Fr.refl (fun _ => False) W1).alloc (.cells zeroH.cells.toArray 41))
  have hF2 := hF1.alloc (.cells zeroH.cells.toArray 41)
  generalize W1.alloc (.cells zeroH.cells.toArray 41) = W2 at *
  rw [hsz] at hr2
  clear hsz hcs hF1
  obtain ⟨g, hg⟩ : ∃ g, g = w.heap.size + 1 := ⟨_, rfl⟩
  rw [← hg] at hr2 ⊢
  generalize hbv : w.heap.size = bv at hcs2 ⊢
  replace hcs2 := Lib.hid hcs2
  replace hbv := Lib.hid hbv
  replace hg := Lib.hid hg
  go_wp2_with (refine wpList_load_cs rfl 34 _ rfl bv 0 rfl p.cells hcs2.out _ rfl rfl 4 p.length_cells (by kernel_rfl) ?_)
  refine (encodePacket_any p W2 hp).mono ?_
  rintro e w3 ⟨hF3, h3⟩
  have hr3 := hF3.heap_some hr2 (fun e => e)
  have hF := hF2.ext hF3
  clear hr2 hcs2
  cases hok : packOk p
  · rw [hok, if_neg (by simp)] at h3
    subst h3
    replace hr3 := Lib.hid hr3
    go_upto_region 3 with fail
    repeat (first | refine wpList_store_hash rfl _ _ rfl g rfl zeroH rfl zeroH hr3.out (fun W6 hr6 hF6 _ => ?_) | go_step)
    refine ret_cs_tmp rfl g rfl rfl zeroH.cells 32 (Hash.length_cells _) hr6 _ Tryd.underlying41 rfl (by kernel_rfl) ⟨by rw [hok]; rfl, ?_⟩
    exact hF.trans hF6 (fun k hk e => absurd hk (by have := hg.out; have := hbv.out; omega))
  · rw [hok, if_pos rfl] at h3
    obtain ⟨u, rfl, hu⟩ := h3
    obtain ⟨q, cap, rfl⟩ := hu.sl
    go_wp2_with fail
    have hz := (Fr.refl (fun _ => False) w3).alloc (.cells #[.slice q (packBytes p).length cap] 51)
    have hr4 : (w3.alloc (.cells #[.slice q (packBytes p).length cap] 51)).heap[g]? = _ := hz.heap_some hr3 (fun e => e)
    have hF4 := hF.ext hz
    have hs : Sl 1 RB (w3.alloc (.cells #[.slice q (packBytes p).length cap] 51)) (.slice (some ⟨w3.heap.size, 0, none⟩) 1 1) [packBytes p] := by
      refine Or.inr ⟨w3.heap.size, 0, 1, rfl, Nat.le_refl _, by decide, by simp, ?_⟩
      intro k x hk
      cases k with
      | zero =>
        simp at hk; subst hk
        exact ⟨_, rfl, Cs.alloc_new w3 #[.slice q (packBytes p).length cap] 51, _, rfl, hu.ext hz⟩
      | succ k => simp at hk
    have hlen := length_packBytes hok
    generalize w3.alloc (.cells #[.slice q (packBytes p).length cap] 51) = W4 at *
    clear hz hr3 hF hu hF3 hF2
    refine (join_any 6 _ [packBytes p] W4 (by decide) hs (by intro x hx; simp at hx; subst hx; exact bytes_packBytes p) (hR.ext hF4)).mono ?_
    rintro e w5 ⟨rfl, hF5⟩
    have hr5 := hF5.heap_some hr4 (fun e => e)
    replace hr5 := Lib.hid hr5
    have e1 : [packBytes p].flatten = packBytes p := by simp
    rw [e1]
    clear e1
    go_wp2_with (refine wpList_store_hash rfl _ _ rfl g rfl (packHash p) rfl zeroH hr5.out (fun W6 hr6 hF6 _ => ?_))
    refine ret_cs_tmp rfl g rfl rfl (packHash p).cells 32 (Hash.length_cells _) hr6 _ Tryd.underlying41 rfl (by kernel_rfl) ⟨by rw [hok]; rfl, ?_⟩
    exact (hF4.ext hF5).trans hF6 (fun k hk e => absurd hk (by have := hg.out; have := hbv.out; omega))
end Go.Proofs.YtbehebnjbjkafaaDoor
