/- Steps of regions that draw their order: lemmas of no program. -/
import Derived.Test.YtbehebnjbjkafaaDoorLib
import Derived.Laws.AppendOwn
import Derived.Deep.RegionLaw
namespace Go.Proofs.YtbehebnjbjkafaaDoor
open Go.RowKit

/-- append onto a slice of the call's own, as a step of a region that draws. -/
theorem step_append_own {P : Program} {ops : Array Oper} {o : Oper} {a : Act} {w : World} {K : Act → World → Prop} {Q : Exit → Act → World → Prop} {E : Prop}
    (hg : o.guard = none) (s x : Operand) (t : TypeId)
    (ho : o.op = .call { callee := .builtin .append, args := #[s, x], argTypes := #[t, t] })
    (base : Nat) (e : TypeId) (i : TypeInfo) (z : Value) (size bytes : Nat) (ht : P.underlying t = some (.slice e)) (hi : P.info? e = some i) (hz : i.zero = some z)
    (hsize : i.size = size) (hby : i.bytes = bytes) (hzs : z.cells.size = size) (hsz : 0 < size)
    (v : Value) (n : Nat) (xs : List Value) (hs : a.eval s = v) (hown : w.ownsRow base e size v n xs)
    (ad : Addr) (m c : Nat) (news : List Value) (hx : a.eval x = .slice (some ad) m c) (hl : news.length = m * size) (hnews : ∀ j u, news[j]? = some u → w.cell? (ad.add j) = some u) (h1 : ∀ u ∈ news, u.oneCell' = true)
    (h63 : n + m ≤ maxLen) (hbytes : (n + m) * bytes ≤ 140737488355328) (hbase : base ≤ w.heap.size)
    (h : ∀ v' w', w'.ownsRow base e size v' (n + m) (xs ++ news) → w.grownBy w' v.ownBlock → (v' = .slice none 0 0 ↔ v = .slice none 0 0 ∧ m = 0) → K (a.put o.dst v') w') :
    if Region.wanted o (yielded ops a.tmps) = true then Oper.wp P o a w K Q else E := by
  have hw : Region.wanted o (yielded ops a.tmps) = true := by simp [Region.wanted, hg]
  rw [if_pos hw]
  exact wp_append_own w s x t ho base e i z size bytes ht hi hz hsize hby hzs hsz v n xs hs hown ad m c news hx hl hnews h1 h63 hbytes hbase h

/-- A whole struct or array is stored into a variable of its type. -/
theorem wpList_store_whole {P : Program} {ops : Array Oper} {rest : List Oper} {o : Oper} {a : Act} {w : World} {Q : Exit → Act → World → Prop}
    (hgd : o.guard = none) (ty : TypeId) (x y : Operand) (ho : o.op = .store ty x y) (g : Nat) (hx : a.eval x = .pointer (some ⟨g, 0, none⟩)) (cs : List Value) (hy : a.eval y = .agg cs.toArray)
    (n : Nat) (hn : cs.length = n) (hi : (P.info? ty).map (·.size) = some n) (h1 : ∀ v ∈ cs, v.oneCell' = true)
    (cur : Array Value) (hcur : cur.size = n) (T : TypeId) (hg : w.heap[g]? = some (.cells cur T (0, 0)))
    (h : ∀ W : World, W.heap[g]? = some (.cells cs.toArray T (0, 0)) → Fr (fun k => k = g) w W → W.heap.size = w.heap.size → wpList P ops Q rest (a.put o.dst undef) W) :
    wpList P ops Q (o :: rest) a w := by
  refine wpList_store_cs hgd ty x y ho g 0 hx cs hy n hn hi h1 _ _ hg (by omega) ?_
  refine h _ ?_ ((Fr.refl (fun k => k = g) w).setRow (fun _ => rfl) _) (by simp)
  rw [setRow_heap w g _ _ _ _ hg]
  rw [List.drop_of_length_le (by rw [Array.length_toList]; omega), List.append_nil]
  simp
end Go.Proofs.YtbehebnjbjkafaaDoor
