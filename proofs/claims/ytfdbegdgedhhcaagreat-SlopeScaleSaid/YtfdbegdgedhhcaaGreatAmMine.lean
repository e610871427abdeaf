import Derived.Test.YtfdbegdgedhhcaaGreatAmExec
set_option linter.all false
/- The program as the abstract machine has it. -/
namespace Go.AM
/-- What is told of functions without code here. -/
def extT : Nat → List AV → Heap → Option (AV × Heap) := fun _ _ _ => none
def prog : AProg := { fns := fnsT, ext := extT }
abbrev ints : PT := .slice (.int .i64)
abbrev int : PT := .int .i64
/-- Name, kind, arguments, dims, number. -/
abbrev node : PT := .pair .str (.pair int (.pair ints (.pair ints int)))
abbrev nodes : PT := .slice node
/-- Dims, data. -/
abbrev tensor : PT := .pair ints ints
abbrev tensors : PT := .slice tensor
/-- Nodes, loss, gradients. -/
abbrev joint : PT := .pair nodes (.pair int ints)
abbrev ask8 : PT := .pair (.slice nodes) (.pair ints (.slice ints))
abbrev ask10 : PT := .pair ask8 (.pair (.slice tensors) (.slice tensors))
abbrev ask13 : PT := .pair (.slice joint) ints
/-- A number as 64 bits hold it. -/
abbrev w64 (n : Int) : Int := IntKind.i64.wrap n
theorem w64_id {n : Int} (h1 : -9223372036854775808 ≤ n) (h2 : n ≤ 9223372036854775807) : IntKind.i64.wrap n = n := by
  simp [IntKind.wrap, IntKind.bits, IntKind.signed]
  omega
theorem succ64 {i n : Nat} (hi : i < n) (hn : n ≤ 140737488355328) : IntKind.i64.wrap ((i : Int) + 1) = ((i + 1 : Nat) : Int) := by
  rw [w64_id (by omega) (by omega)]
  rfl
theorem foldl_take_succ {α β : Type} (f : β → α → β) (b : β) {l : List α} {i : Nat} (hi : i < l.length) : (l.take (i + 1)).foldl f b = f ((l.take i).foldl f b) l[i] := by
  rw [List.take_add_one, List.foldl_append]
  simp [hi]
theorem Holds.elem {S : Nat → Prop} {h : Heap} {e : PT} {l : List e.den} {v : AV} (H : Holds S h (.slice e) l [v]) : ∃ ds, SliceAt S h v e.sz l.length ds ∧ ∀ (i : Nat) (x : e.den), l[i]? = some x → Holds S h e x ((ds.drop (i * e.sz)).take e.sz) := by
  obtain ⟨v', ds, hv, hs, hc⟩ := H
  cases hv
  exact ⟨ds, hs, hc⟩
theorem map_take_succ {α β : Type} (f : α → β) {l : List α} {i : Nat} (hi : i < l.length) : (l.take (i + 1)).map f = (l.take i).map f ++ [f l[i]] := by
  rw [List.take_add_one, List.getElem?_eq_getElem hi, List.map_append]
  rfl
/-- Numbers. -/
theorem Holds.ints {S : Nat → Prop} {h : Heap} {l : List Int} {v : AV} (H : Holds S h (.slice (.int .i64)) l [v]) : ∃ ds, SliceAt S h v 1 l.length ds ∧ (∀ (i : Nat) (hi : i < l.length), (ds.drop (i * 1)).take 1 = [.int .i64 l[i]]) ∧ (∀ x ∈ l, -9223372036854775808 ≤ x ∧ x ≤ 9223372036854775807) ∧ l.length ≤ 140737488355328 := by
  obtain ⟨ds, hs, hc⟩ := H.elem
  refine ⟨ds, hs, fun i hi => (hc i l[i] (List.getElem?_eq_getElem hi)).1, fun x hx => ?_, hs.1⟩
  obtain ⟨i, hi, rfl⟩ := List.getElem_of_mem hx
  exact (hc i l[i] (List.getElem?_eq_getElem hi)).2
/-- A node. -/
theorem Holds.node {S : Nat → Prop} {h : Heap} {x : node.den} {cs : List AV} (H : Holds S h node x cs) : ∃ a d, cs = [.str x.1, .int .i64 x.2.1, a, d, .int .i64 x.2.2.2.2] ∧ Holds S h (.slice (.int .i64)) x.2.2.1 [a] ∧ Holds S h (.slice (.int .i64)) x.2.2.2.1 [d] ∧
    (-9223372036854775808 ≤ x.2.1 ∧ x.2.1 ≤ 9223372036854775807) ∧ (-9223372036854775808 ≤ x.2.2.2.2 ∧ x.2.2.2.2 ≤ 9223372036854775807) ∧ x.1.size ≤ 140737488355328 := by
  obtain ⟨c1, c2, rfl, ⟨rfl, hs⟩, c3, c4, rfl, ⟨rfl, hk⟩, c5, c6, rfl, ha, c7, c8, rfl, hd, ⟨rfl, hn⟩⟩ := H
  obtain ⟨a, da, rfl, ra⟩ := id ha
  obtain ⟨d, dd, rfl, rd⟩ := id hd
  exact ⟨a, d, rfl, ha, hd, hk, hn, hs⟩
/-- Nodes, one by one. -/
theorem Holds.nodes {S : Nat → Prop} {h : Heap} {l : List Go.AM.node.den} {v : AV} (H : Holds S h (.slice Go.AM.node) l [v]) : ∃ ds, SliceAt S h v 5 l.length ds ∧ (∀ (i : Nat) (hi : i < l.length), ∃ a d, (ds.drop (i * 5)).take 5 = [.str l[i].1, .int .i64 l[i].2.1, a, d, .int .i64 l[i].2.2.2.2] ∧ Holds S h (.slice (.int .i64)) l[i].2.2.1 [a] ∧ Holds S h (.slice (.int .i64)) l[i].2.2.2.1 [d] ∧
    Holds S h Go.AM.node l[i] [.str l[i].1, .int .i64 l[i].2.1, a, d, .int .i64 l[i].2.2.2.2]) ∧ l.length ≤ 140737488355328 := by
  obtain ⟨ds, hs, hc⟩ := H.elem
  refine ⟨ds, hs, fun i hi => ?_, hs.1⟩
  have hn := hc i l[i] (List.getElem?_eq_getElem hi)
  obtain ⟨a, d, e, ha, hd, _⟩ := hn.node
  refine ⟨a, d, e, ha, hd, ?_⟩
  have e' : (ds.drop (i * Go.AM.node.sz)).take Go.AM.node.sz = _ := e
  rw [e'] at hn
  exact hn
end Go.AM
