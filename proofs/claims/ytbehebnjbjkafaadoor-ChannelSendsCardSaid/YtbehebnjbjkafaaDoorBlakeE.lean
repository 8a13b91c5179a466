/- Package blake: New, the digest of a state, Sum, Join. -/
import Derived.Test.YtbehebnjbjkafaaDoorBlakeD
namespace Go.Proofs.YtbehebnjbjkafaaDoor
open Go.RowKit

def zeroF : St := { h := rootsL, b := List.replicate 64 0, n := 0, done := 0 }
theorem zeroF_ok : zeroF.ok := ⟨rfl, (by decide +kernel : ∀ x ∈ rootsL, 0 ≤ x ∧ x < 4294967296), rfl, by intro x hx; rw [List.eq_of_mem_replicate hx]; decide, by decide, by decide, by decide⟩
theorem zero_row : List.foldl (fun (cs : Array Value) (x : Value × Nat) => cs.setIfInBounds x.snd x.fst) Tryd.zeroCells115 (List.map (Value.int IntKind.u32) rootsL).zipIdx = (stCells zeroF).toArray := by kernel_rfl

set_option maxRecDepth 100000 in
set_option maxHeartbeats 2000000 in
theorem new_any (w : World) (hR : Roots w) :
    Calls Tryd.prog 32 #[] w
      fun e w' => e = .returned (.pointer (some ⟨w.heap.size, 0, none⟩)) ∧ StAt w.heap.size newF w' ∧ Ext w w' := by
  obtain ⟨T, fr, hroot⟩ := hR
  have hng : w.heap.size ≠ 0 := by have := (Array.getElem?_eq_some_iff.1 hroot).1; omega
  have hcr : Cs w 0 0 (rootsL.map (.int .u32)) := Cs.of_row_list hroot
  replace hcr := Lib.hid hcr
  replace hroot := Lib.hid hroot
  go_enter Tryd.func32, Tryd.ntmps32
  go_wp2_with (refine wpList_load_cs rfl 112 _ rfl 0 0 rfl (rootsL.map (.int .u32)) hcr.out _ Tryd.underlying112 rfl 8 rfl (by kernel_rfl) ?_)
  rw [zero_row]
  generalize hW1 : World.alloc w _ = W1
  have hS : StAt w.heap.size zeroF W1 := by rw [← hW1]; exact ⟨heap_alloc_new w _, zeroF_ok, hng⟩
  have hF : Ext w W1 := by rw [← hW1]; exact (Fr.refl _ _).alloc _
  clear hW1 hcr hroot
  have c0 := hS.ch (i := 0) (by omega)
  have f0 := hS.fr 0
  go_still_tail 9, (by kernel_rfl)
  change wpList _ _ _ _ _ W1.drew
  go_wp2_with fail
  go_ret
  refine ⟨rfl, (hS.seth 0 (by omega) (xorW_in _ _)).drew, (hF.setCell (p := ⟨w.heap.size, 0, none⟩) (fun h => absurd h (Nat.lt_irrefl _)) _).drew⟩

theorem stCells_one (s : St) : ∀ v ∈ stCells s, v.oneCell' = true := by
  intro v hv
  simp only [stCells, u8s, List.mem_append, List.mem_map, List.mem_cons, List.not_mem_nil, or_false] at hv
  rcases hv with ⟨x, _, rfl⟩ | ⟨x, _, rfl⟩ | rfl | rfl <;> rfl
/-- A hash's cells. -/
def sumTo (h : List Int) (k : Nat) : List Int := (List.range k).map (fun i => gt h (i / 4) / 2 ^ (i % 4 * 8) % 256) ++ List.replicate (32 - k) 0
theorem length_sumTo (h : List Int) (k : Nat) (hk : k ≤ 32) : (sumTo h k).length = 32 := by simp [sumTo]; omega
theorem run_shr_u32 (P : Program) (x : Int) (f : Nat) (hf : f ≤ 32) (w : World) : (Op.shift BinOp.shr IntKind.u32 x IntKind.i64 (f : Int)).run P w = .ok (.int .u32 (x / 2 ^ f)) w := by
  have h0 : ¬ ((f : Int) < 0) := by omega
  have h1 : min f 32 = f := Nat.min_eq_left hf
  simp [Op.shift, h0, IntKind.bits, h1, Int.fdiv_eq_ediv_of_nonneg _ (Int.le_of_lt (Int.pow_pos (by decide : (0:Int) < 2)))]
def TT (s : St) : St := { s with done := (s.done + s.n) % 18446744073709551616, b := s.b.take s.n ++ List.replicate (64 - s.n) 0 }
theorem length_stCells {s : St} (h : s.ok) : (stCells s).length = 74 := by simp [stCells, u8s, h.lh, h.lb]
theorem StAt.cs {b : Nat} {s : St} {w : World} (h : StAt b s w) : Cs w b 0 (stCells s) := Cs.of_row_list h.row

theorem clear_row {s : St} (h : s.ok) : (stCells s).take (8 + s.n) ++ List.replicate (64 - s.n) (Value.int .u8 0) ++ (stCells s).drop (8 + s.n + (64 - s.n)) = stCells { s with b := s.b.take s.n ++ List.replicate (64 - s.n) 0 } := by
  have hn := h.n
  have e : 8 + s.n + (64 - s.n) = 72 := by omega
  have e2 : 8 + s.n - 8 = s.n := by omega
  have e3 : 8 + s.n - 8 - 64 = 0 := by omega
  have e4 : List.take (8 + s.n) (s.h.map (Value.int .u32)) = s.h.map (Value.int .u32) := List.take_of_length_le (by simp [h.lh])
  have e5 : List.drop 72 (s.h.map (Value.int .u32)) = [] := List.drop_of_length_le (by simp [h.lh])
  have e6 : List.drop 64 (s.b.map (Value.int .u8)) = [] := List.drop_of_length_le (by simp [h.lb])
  rw [e]
  simp only [stCells, u8s, List.take_append, List.drop_append, List.length_map, h.lh, h.lb, e4, e5, e6, e2, Nat.reduceSub, List.map_append, List.map_replicate, List.map_take, List.nil_append, List.append_assoc]
  have e7 : s.n - 64 = 0 := by omega
  try simp [e7]
theorem clear_ok {s : St} (h : s.ok) : St.ok { s with b := s.b.take s.n ++ List.replicate (64 - s.n) 0 } :=
  ⟨h.lh, h.rh, by have := h.n; simp [h.lb]; try omega, by
    intro x hx
    rcases List.mem_append.1 hx with hx | hx
    · exact h.rb x (List.mem_of_mem_take hx)
    · rw [List.eq_of_mem_replicate hx]; decide, h.n, h.d0, h.d1⟩



theorem u8s_one (l : List Int) : ∀ v ∈ u8s l, v.oneCell' = true := by
  intro v hv
  simp only [u8s, List.mem_map] at hv
  obtain ⟨x, _, rfl⟩ := hv
  rfl
theorem sumTo_all (s : St) : sumTo (blockF (TT s) true) 32 = sumF s := by
  simp [sumTo, sumF, TT]
theorem sumTo_succ (h : List Int) (k : Nat) (hk : k < 32) : sumTo h (k + 1) = (sumTo h k).set k (gt h (k / 4) / 2 ^ (k % 4 * 8) % 256) := by
  unfold sumTo
  rw [List.range_succ, List.map_append, List.set_append, if_neg (by simp), List.append_assoc]
  congr 1
  have e : 32 - k = 32 - (k + 1) + 1 := by omega
  rw [e, List.replicate_succ]
  simp
end Go.Proofs.YtbehebnjbjkafaaDoor
