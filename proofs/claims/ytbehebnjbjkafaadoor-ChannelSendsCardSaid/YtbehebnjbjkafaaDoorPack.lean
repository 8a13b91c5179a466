/- Package forms: packets as bytes; package channel: a packet's hash. -/
import Derived.Test.YtbehebnjbjkafaaDoorEnc
namespace Go.Proofs.YtbehebnjbjkafaaDoor
open Go.RowKit

structure PackD where
  seq : Int
  own : ByteArray
  data : ByteArray
  timeout : Int
def PackD.cells (p : PackD) : List Value := [.int .i64 p.seq, .string p.own, .string p.data, .int .i64 p.timeout]
structure PackD.wf (p : PackD) : Prop where
  seq : I64 p.seq
  own : p.own.size ≤ maxLen
  data : p.data.size ≤ maxLen
  timeout : I64 p.timeout
theorem PackD.length_cells (p : PackD) : p.cells.length = 4 := rfl
theorem PackD.one (p : PackD) : ∀ v ∈ p.cells, v.oneCell' = true := by
  intro v hv
  simp [PackD.cells] at hv
  rcases hv with rfl | rfl | rfl | rfl <;> rfl
def packOk (p : PackD) : Bool := betw 1 p.seq 1099511627776 && nameOk p.own && decide (p.data.size ≤ 256) && betw 1 p.timeout 1099511627776
def packBytes (p : PackD) : List Int := numB 6 ++ numB p.seq ++ textB p.own ++ textB p.data ++ numB p.timeout
theorem packOk_size {p : PackD} (h : packOk p = true) : p.own.size ≤ 16 ∧ p.data.size ≤ 256 := by
  simp only [packOk, Bool.and_eq_true, decide_eq_true_eq] at h
  exact ⟨nameOk_size h.1.1.2, h.1.2⟩

set_option maxRecDepth 100000 in
set_option maxHeartbeats 1000000 in
theorem checkPacket_any (p : PackD) (w : World) (hp : p.wf) : Calls Tryd.prog 25 #[.agg p.cells.toArray] w fun e w' => e = chk (packOk p) ∧ Ext w w' := by
  have hcs : Cs (w.alloc (.cells p.cells.toArray 34)) w.heap.size 0 p.cells := Cs.alloc_new' _ _ _
  have c0 := hcs 0 _ rfl
  have c1 := hcs 1 _ rfl
  have c2 := hcs 2 _ rfl
  have c3 := hcs 3 _ rfl
  have x1 : Ext w (w.alloc (.cells p.cells.toArray 34)) := (Fr.refl _ _).alloc _
  go_enter Tryd.func25, Tryd.ntmps25
  go_wp2_with fail
  generalize w.alloc (.cells p.cells.toArray 34) = W at *
  refine (within_any _ _ _ W).mono ?_
  rintro e w3 ⟨rfl, rfl⟩
  cases h1 : (decide (1 ≤ p.seq) && decide (p.seq ≤ 1099511627776))
  · exact ⟨rfl, by simp [packOk, betw, h1, chk], x1⟩
  simp only [chk, if_true]
  replace h1 := Lib.hid h1
  go_wp2_with fail
  refine (name_any p.own W hp.own).mono ?_
  rintro e w2 ⟨rfl, hx⟩
  replace c2 := hx.cell c2
  replace c3 := hx.cell c3
  have x2 := x1.ext hx
  clear c0 c1 hcs x1 hx
  cases h0 : nameOk p.own
  · exact ⟨rfl, by simp [packOk, h0, chk], x2⟩
  simp only [chk, if_true]
  replace h0 := Lib.hid h0
  go_wp2_with fail
  refine (must_any _ w2).mono ?_
  rintro e w3 ⟨rfl, rfl⟩
  cases h2 : decide (p.data.size ≤ 256)
  · have h2' : decide ((p.data.size : Int) ≤ 256) = false := by simp at h2 ⊢; omega
    rw [h2']
    exact ⟨rfl, by simp [packOk, h2, chk], x2⟩
  have h2' : decide ((p.data.size : Int) ≤ 256) = true := by simp at h2 ⊢; omega
  rw [h2']
  simp only [chk, if_true]
  replace h2 := Lib.hid h2
  clear h2'
  go_wp2_with fail
  refine (within_any _ _ _ w2).mono ?_
  rintro e w3 ⟨rfl, rfl⟩
  cases h3 : (decide (1 ≤ p.timeout) && decide (p.timeout ≤ 1099511627776))
  · exact ⟨rfl, by simp [packOk, betw, h3, chk], x2⟩
  simp only [chk, if_true]
  replace h3 := Lib.hid h3
  go_wp2_with fail
  go_end0
  exact ⟨by simp [packOk, betw, h0.out, h1.out, h2.out, h3.out, chk], x2⟩

set_option maxRecDepth 100000 in
set_option maxHeartbeats 4000000 in
theorem writePacket (p : PackD) (bv B : Nat) (w : World) (hp : p.wf) (hb : bv < B) (hc : Cs w bv 0 p.cells) : Writes 24 (.pointer (some ⟨bv, 0, none⟩)) (packOk p) (packBytes p) B w := by
  intro b w1 hW hB hBs
  have hc1 := hc.frame (Fr.of_below hB) (by omega)
  clear hc hB hBs
  have hF := WF.refl B b w1
  replace hc1 := Lib.hid hc1
  have hck := checkPacket_any p w1 hp
  replace hck := Lib.hid hck
  go_enter Tryd.func24, Tryd.ntmps24
  go_wp2_with (refine wpList_load_cs rfl 34 _ rfl bv 0 rfl p.cells hc1.out _ rfl rfl 4 p.length_cells (by kernel_rfl) ?_)
  refine hck.out.mono ?_
  rintro e w2 ⟨rfl, hx⟩
  replace hF := Lib.hid (hF.ext hx hW.2)
  replace hW := hW.ext hx
  replace hc1 := Lib.hid (hc1.out.wext hx)
  clear hx hck
  cases hok : packOk p
  · refine ⟨rfl, ?_⟩
    show ite _ _ _
    rw [if_neg (by simp [hok])]
    exact ⟨rfl, hF.out⟩
  simp only [chk, if_true]
  obtain ⟨hsz, hsz2⟩ := packOk_size hok
  replace hok := Lib.hid hok
  go_wp2_with fail
  refine (number_any B b _ false 6 w2 hW (by simp only [List.length_append, List.length_nil, length_numB, length_textB, length_beF, length_sb]; omega)).mono ?_
  rintro e w3 ⟨rfl, hW2, hF2⟩
  replace hW := hW2
  replace hc1 := Lib.hid (hc1.out.wf hF2 hb)
  replace hF := Lib.hid (hF.out.trans hF2)
  clear hW2 hF2
  have c0 : _ = some (Value.int .i64 p.seq) := hc1.out 0 _ rfl
  go_wp2_with fail
  refine (number_any B b _ false p.seq w3 hW (by simp only [List.length_append, List.length_nil, length_numB, length_textB, length_beF, length_sb]; omega)).mono ?_
  rintro e w4 ⟨rfl, hW2, hF2⟩
  replace hW := hW2
  replace hc1 := Lib.hid (hc1.out.wf hF2 hb)
  replace hF := Lib.hid (hF.out.trans hF2)
  clear hW2 hF2 c0
  have c0 : _ = some (Value.string p.own) := hc1.out 1 _ rfl
  go_wp2_with fail
  refine (text_any B b _ false p.own w4 hW (by simp only [List.length_append, List.length_nil, length_numB, length_textB, length_beF, length_sb]; omega)).mono ?_
  rintro e w5 ⟨rfl, hW2, hF2⟩
  rw [if_pos (by omega)] at hW2
  replace hW := hW2
  replace hc1 := Lib.hid (hc1.out.wf hF2 hb)
  replace hF := Lib.hid (hF.out.trans hF2)
  clear hW2 hF2 c0
  have c0 : _ = some (Value.string p.data) := hc1.out 2 _ rfl
  go_wp2_with fail
  refine (text_any B b _ false p.data w5 hW (by simp only [List.length_append, List.length_nil, length_numB, length_textB, length_beF, length_sb]; omega)).mono ?_
  rintro e w6 ⟨rfl, hW2, hF2⟩
  rw [if_pos (by omega)] at hW2
  replace hW := hW2
  replace hc1 := Lib.hid (hc1.out.wf hF2 hb)
  replace hF := Lib.hid (hF.out.trans hF2)
  clear hW2 hF2 c0
  have c0 : _ = some (Value.int .i64 p.timeout) := hc1.out 3 _ rfl
  go_wp2_with fail
  refine (number_any B b _ false p.timeout w6 hW (by simp only [List.length_append, List.length_nil, length_numB, length_textB, length_beF, length_sb]; omega)).mono ?_
  rintro e w7 ⟨rfl, hW2, hF2⟩
  replace hW := hW2
  replace hc1 := Lib.hid (hc1.out.wf hF2 hb)
  replace hF := Lib.hid (hF.out.trans hF2)
  clear hW2 hF2 c0
  go_wp2_with fail
  go_end0
  refine ⟨rfl, ?_, hF.out⟩
  simpa [packBytes, numB, textB] using hW

theorem length_packBytes {p : PackD} (h : packOk p = true) : (packBytes p).length ≤ 400 := by
  have := packOk_size h
  simp only [packBytes, List.length_append, length_numB, length_textB]
  omega
theorem bytes_packBytes (p : PackD) : Bytes (packBytes p) :=
  ((((bytes_numB _).append (bytes_numB _)).append (bytes_textB _)).append (bytes_textB _)).append (bytes_numB _)

set_option maxRecDepth 100000 in
set_option maxHeartbeats 1000000 in
theorem encodePacket_any (p : PackD) (w : World) (hp : p.wf) : Calls Tryd.prog 14 #[.agg p.cells.toArray] w fun e w' => EncAns (packOk p) (packBytes p) w e w' := by
  have hmf : ∀ (fn : Fn) (first cap : Array Value) (w : World), (Instr.makeFunc fn first cap).run Tryd.prog w = .ok (.func fn first cap) w := fun _ _ _ _ => rfl
  have hcs : Cs (w.alloc (.cells p.cells.toArray 34)) w.heap.size 0 p.cells := Cs.alloc_new' _ _ _
  have x1 : Ext w (w.alloc (.cells p.cells.toArray 34)) := (Fr.refl _ _).alloc _
  have hsz : w.heap.size < (w.alloc (.cells p.cells.toArray 34)).heap.size := by simp
  replace hcs := Lib.hid hcs
  replace x1 := Lib.hid x1
  replace hsz := Lib.hid hsz
  go_enter Tryd.func14, Tryd.ntmps14
  go_wp2_with fail
  generalize hW : w.alloc (.cells p.cells.toArray 34) = W at *
  clear hW
  refine (encode_any 24 (.pointer (some ⟨w.heap.size, 0, none⟩)) (packOk p) (packBytes p) W (fun _ _ => by kernel_rfl) (fun h => by have := length_packBytes h; omega) (writePacket p w.heap.size _ _ hp (by have := hsz.out; omega) (Cs.wext hcs.out (((Fr.refl _ _).alloc _).alloc _)))).mono ?_
  rintro e w2 ⟨hx, h2⟩
  have hxx : Ext w w2 := x1.out.ext hx
  cases hok : packOk p
  · rw [hok, if_neg (by simp)] at h2
    subst h2
    go_wp2_with fail
    go_ret2
    exact ⟨hxx, by rw [if_neg (by simp [hok])]; rfl⟩
  · rw [hok, if_pos rfl] at h2
    obtain ⟨u, rfl, hu⟩ := h2
    obtain ⟨q, cap, rfl⟩ := hu.sl
    go_wp2_with fail
    go_ret2
    exact ⟨hxx, by rw [if_pos hok]; exact ⟨_, rfl, hu⟩⟩
end Go.Proofs.YtbehebnjbjkafaaDoor
