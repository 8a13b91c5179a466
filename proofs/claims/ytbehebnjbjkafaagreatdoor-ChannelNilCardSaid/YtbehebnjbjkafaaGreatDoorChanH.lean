/- ChannelNil, as it is called. -/
import Derived.Test.YtbehebnjbjkafaaGreatDoorChanG
namespace Go.Proofs.YtbehebnjbjkafaaGreatDoor
open Go.RowKit Go.Maps Go.Sort

/-- An act's cells. -/
structure ActD where
  kind : Int
  a : Int
  i : Int
  j : Int
  data : ByteArray
  timeout : Int
  answer : ByteArray
  own : Bool
  psize : Int
  parts : Value
  bent : Int
def ActD.cells (x : ActD) : List Value := [.int .i64 x.kind, .int .i64 x.a, .int .i64 x.i, .int .i64 x.j, .string x.data, .int .i64 x.timeout, .string x.answer, .bool x.own, .int .i64 x.psize, x.parts, .int .i64 x.bent]

set_option maxRecDepth 100000 in
set_option maxHeartbeats 2000000 in
theorem channelNil_any (x : ActD) (p : PackD) (w : World) (hR : Roots w) :
    Calls Tryz.prog 3 #[.agg x.cells.toArray, .agg p.cells.toArray] w fun e w' => e = .returned (.bool true) ∧ Ext w w' := by
  have heq : ∀ w : World, (binOp .eql 28 (.agg #[.int .i64 0, .string ⟨#[]⟩, .string ⟨#[]⟩, .int .i64 0]) (.agg #[.int .i64 0, .string ⟨#[]⟩, .string ⟨#[]⟩, .int .i64 0])).run Tryz.prog w = .ok (.bool true) w := fun _ => by kernel_rfl
  have hx0 : Ext w ((w.alloc (.cells x.cells.toArray 26)).alloc (.cells p.cells.toArray 28)) := ((Fr.refl _ _).alloc _).alloc _
  have ha0 : Cs ((w.alloc (.cells x.cells.toArray 26)).alloc (.cells p.cells.toArray 28)) w.heap.size 0 x.cells := (Cs.alloc_new' w _ _).ext ((Fr.refl _ _).alloc _)
  have hp0 : Cs ((w.alloc (.cells x.cells.toArray 26)).alloc (.cells p.cells.toArray 28)) (w.heap.size + 1) 0 p.cells := by
    have := Cs.alloc_new' (w.alloc (.cells x.cells.toArray 26)) p.cells 28
    have e : (w.alloc (.cells x.cells.toArray 26)).heap.size = w.heap.size + 1 := by simp
    rwa [e] at this
  go_enter Tryz.func3, Tryz.ntmps3
  go_upto_region 2 with fail
  generalize (w.alloc (.cells x.cells.toArray 26)).alloc (.cells p.cells.toArray 28) = W at *
  generalize w.heap.size = ab at *
  have c2 : W.cell? ⟨ab, 2, none⟩ = some (.int .i64 x.i) := by simpa using ha0.get (j := 2) rfl
  have c3 : W.cell? ⟨ab, 3, none⟩ = some (.int .i64 x.j) := by simpa using ha0.get (j := 3) rfl
  have c4 : W.cell? ⟨ab, 4, none⟩ = some (.string x.data) := by simpa using ha0.get (j := 4) rfl
  have c5 : W.cell? ⟨ab, 5, none⟩ = some (.int .i64 x.timeout) := by simpa using ha0.get (j := 5) rfl
  have c6 : W.cell? ⟨ab, 6, none⟩ = some (.string x.answer) := by simpa using ha0.get (j := 6) rfl
  have c8 : W.cell? ⟨ab, 8, none⟩ = some (.int .i64 x.psize) := by simpa using ha0.get (j := 8) rfl
  have c9 : W.cell? ⟨ab, 9, none⟩ = some x.parts := by simpa using ha0.get (j := 9) rfl
  have p0 : W.cell? ⟨ab + 1, 0, none⟩ = some (.int .i64 p.seq) := by simpa using hp0.get (j := 0) rfl
  have p1 : W.cell? ⟨ab + 1, 1, none⟩ = some (.string p.own) := by simpa using hp0.get (j := 1) rfl
  have p2 : W.cell? ⟨ab + 1, 2, none⟩ = some (.string p.data) := by simpa using hp0.get (j := 2) rfl
  have p3 : W.cell? ⟨ab + 1, 3, none⟩ = some (.int .i64 p.timeout) := by simpa using hp0.get (j := 3) rfl
  clear ha0 hp0
  go_wp2_with fail
  refine (sendNil_any _ _ W).mono ?_
  rintro e w2 ⟨rfl, y2⟩
  go_upto_region 3 with (refine wpList_store_new rfl 28 _ _ rfl zeroP.cells _ _ w2.heap.size rfl rfl rfl 4 rfl (by kernel_rfl) rfl zeroP.one ?_)
  have q0 : Cs (w2.alloc (.cells zeroP.cells.toArray 28)) w2.heap.size 0 zeroP.cells := Cs.alloc_new' _ _ _
  replace y2 := y2.alloc (.cells zeroP.cells.toArray 28)
  generalize w2.alloc (.cells zeroP.cells.toArray 28) = w3 at *
  generalize w2.heap.size = qb at *
  replace q0 := Lib.hid q0
  go_wp2_with fail
  refine (alive_any w3 (hR.ext (hx0.ext y2))).mono ?_
  rintro e w4 ⟨rfl, z4⟩
  have y4 : Ext W w4 := y2.ext z4
  have d2 := Ext.cell y4 c2
  have d3 := Ext.cell y4 c3
  have d6 := Ext.cell y4 c6
  have d8 := Ext.cell y4 c8
  have d9 := Ext.cell y4 c9
  have e0 := Ext.cell y4 p0
  have e1 := Ext.cell y4 p1
  have e2 := Ext.cell y4 p2
  have e3 := Ext.cell y4 p3
  have q1 := q0.out.ext z4
  have z0 : w4.cell? ⟨qb, 0, none⟩ = some (.int .i64 0) := by have := q1.get (j := 0) rfl; simpa [zeroP] using this
  have z1 : w4.cell? ⟨qb, 1, none⟩ = some (.string ⟨#[]⟩) := by have := q1.get (j := 1) rfl; simpa [zeroP] using this
  have z2 : w4.cell? ⟨qb, 2, none⟩ = some (.string ⟨#[]⟩) := by have := q1.get (j := 2) rfl; simpa [zeroP] using this
  have z3 : w4.cell? ⟨qb, 3, none⟩ = some (.int .i64 0) := by have := q1.get (j := 3) rfl; simpa [zeroP] using this
  clear z4 y2 q0 q1
  go_wp2_with fail
  refine (receiveNil_any _ _ _ _ _).mono ?_
  rintro e w5 ⟨rfl, z⟩
  clear d2 d3 d6 d8 d9 e0 e1 e2 e3
  clear z0 z1 z2 z3 heq
  have y5 : Ext W w5 := y4.ext z
  have d2 := Ext.cell y5 c2
  have d3 := Ext.cell y5 c3
  have d6 := Ext.cell y5 c6
  have d8 := Ext.cell y5 c8
  have d9 := Ext.cell y5 c9
  have e0 := Ext.cell y5 p0
  have e1 := Ext.cell y5 p1
  have e2 := Ext.cell y5 p2
  have e3 := Ext.cell y5 p3
  clear z y4
  go_wp2_with fail
  refine (answerNil_any _ _ _).mono ?_
  rintro e w6 ⟨rfl, z⟩
  clear d2 d3 d6 d8 d9 e0 e1 e2 e3
  have y6 : Ext W w6 := y5.ext z
  have d2 := Ext.cell y6 c2
  have d3 := Ext.cell y6 c3
  have d6 := Ext.cell y6 c6
  have d8 := Ext.cell y6 c8
  have d9 := Ext.cell y6 c9
  have e0 := Ext.cell y6 p0
  have e1 := Ext.cell y6 p1
  have e2 := Ext.cell y6 p2
  have e3 := Ext.cell y6 p3
  clear z y5
  go_wp2_with fail
  refine (ackNil_any _ _ _ _ _).mono ?_
  rintro e w7 ⟨rfl, z⟩
  clear d2 d3 d6 d8 d9 e0 e1 e2 e3
  have y7 : Ext W w7 := y6.ext z
  have d2 := Ext.cell y7 c2
  have d3 := Ext.cell y7 c3
  have d6 := Ext.cell y7 c6
  have d8 := Ext.cell y7 c8
  have d9 := Ext.cell y7 c9
  have e0 := Ext.cell y7 p0
  have e1 := Ext.cell y7 p1
  have e2 := Ext.cell y7 p2
  have e3 := Ext.cell y7 p3
  clear z y6
  go_wp2_with fail
  refine (expireNil_any _ _ _ _).mono ?_
  rintro e w8 ⟨rfl, z⟩
  clear d2 d3 d6 d8 d9 e0 e1 e2 e3
  have y8 : Ext W w8 := y7.ext z
  have d2 := Ext.cell y8 c2
  have d3 := Ext.cell y8 c3
  have d6 := Ext.cell y8 c6
  have d8 := Ext.cell y8 c8
  have d9 := Ext.cell y8 c9
  have e0 := Ext.cell y8 p0
  have e1 := Ext.cell y8 p1
  have e2 := Ext.cell y8 p2
  have e3 := Ext.cell y8 p3
  clear z y7
  go_wp2_with fail
  refine (nextNil_any _).mono ?_
  rintro e w9 ⟨rfl, z⟩
  clear d2 d3 d6 d8 d9 e0 e1 e2 e3
  have y9 : Ext W w9 := y8.ext z
  have d2 := Ext.cell y9 c2
  have d3 := Ext.cell y9 c3
  have d6 := Ext.cell y9 c6
  have d8 := Ext.cell y9 c8
  have d9 := Ext.cell y9 c9
  have e0 := Ext.cell y9 p0
  have e1 := Ext.cell y9 p1
  have e2 := Ext.cell y9 p2
  have e3 := Ext.cell y9 p3
  clear z y8
  go_wp2_with fail
  refine (entriesNil_any _).mono ?_
  rintro e w10 ⟨rfl, z⟩
  clear d2 d3 d6 d8 d9 e0 e1 e2 e3
  have y10 : Ext W w10 := y9.ext z
  have d2 := Ext.cell y10 c2
  have d3 := Ext.cell y10 c3
  have d6 := Ext.cell y10 c6
  have d8 := Ext.cell y10 c8
  have d9 := Ext.cell y10 c9
  have e0 := Ext.cell y10 p0
  have e1 := Ext.cell y10 p1
  have e2 := Ext.cell y10 p2
  have e3 := Ext.cell y10 p3
  clear z y9
  go_wp2_with fail
  refine (copyNil_any _).mono ?_
  rintro e w11 ⟨rfl, z⟩
  clear d2 d3 d6 d8 d9 e0 e1 e2 e3
  have y11 : Ext W w11 := y10.ext z
  have d2 := Ext.cell y11 c2
  have d3 := Ext.cell y11 c3
  have d6 := Ext.cell y11 c6
  have d8 := Ext.cell y11 c8
  have d9 := Ext.cell y11 c9
  have e0 := Ext.cell y11 p0
  have e1 := Ext.cell y11 p1
  have e2 := Ext.cell y11 p2
  have e3 := Ext.cell y11 p3
  clear z y10
  go_wp2_with fail
  go_ret
  exact ⟨rfl, hx0.ext y11⟩
end Go.Proofs.YtbehebnjbjkafaaGreatDoor
