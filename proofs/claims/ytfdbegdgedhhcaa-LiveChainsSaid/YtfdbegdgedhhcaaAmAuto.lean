/- Rules over what holds: steps that go by themselves. -/
import Derived.Test.YtfdbegdgedhhcaaAmS11
set_option linter.all false
namespace Go.AM
set_option maxRecDepth 20000
/-- From, to, size. -/
abbrev life : PT := .pair int (.pair int int)
abbrev lives : PT := .slice life
section
variable {R : Type} {Q : R → Prop} {S : Nat → Prop} {h : Heap}
theorem wq_len {e : PT} {l : List e.den} {v : AV} (H : Holds S h (.slice e) l [v]) {K : Nat → Option R} (k : WP (K l.length) Q) : WP (lenK v K) Q := by
  obtain ⟨ds, hs, _⟩ := H.elem
  exact wp_len hs k
theorem wq_idx {e : PT} {l : List e.den} {v : AV} (H : Holds S h (.slice e) l [v]) {s : Nat} {i : Int} (hs : s = e.sz) (h0 : 0 ≤ i) (h1 : i < (l.length : Int)) {K : AV → Option R} (k : WP (K (addrOf v s i.toNat 0)) Q) : WP (idxK s v i K) Q := by
  subst hs
  obtain ⟨ds, hs, _⟩ := H.elem
  exact wp_idx hs (j := i.toNat) (by omega) (by omega) k
theorem wq_int {l : List Int} {v : AV} (H : Holds S h ints l [v]) {j : Nat} (hj : j < l.length) {K : AV → Option R} (k : WP (K (.int .i64 l[j])) Q) : WP (readK1 h (addrOf v 1 j 0) 1 K) Q := by
  obtain ⟨ds, hs, hc, _⟩ := H.ints
  exact wp_cell hs hj (hc j hj) rfl k
theorem wq_sub {e : PT} {l : List (List e.den)} {v : AV} (H : Holds S h (.slice (.slice e)) l [v]) {j : Nat} (hj : j < l.length) {K : AV → Option R} (k : ∀ u, Holds S h (.slice e) l[j] [u] → WP (K u) Q) : WP (readK1 h (addrOf v 1 j 0) 1 K) Q := by
  obtain ⟨ds, hs, hc⟩ := H.elem
  have hx := hc j l[j] (List.getElem?_eq_getElem hj)
  obtain ⟨u, ds', hu, _⟩ := id hx
  rw [hu] at hx
  exact wp_cell hs hj hu rfl (k u hx)
theorem wq_name {l : List node.den} {v : AV} (H : Holds S h nodes l [v]) {j : Nat} (hj : j < l.length) {K : AV → Option R} (k : WP (K (.str l[j].1)) Q) : WP (readK1 h (addrOf v 5 j 0) 1 K) Q := by
  obtain ⟨ds, hs, hc, _⟩ := H.nodes
  obtain ⟨a, d, e, _⟩ := hc j hj
  exact wp_cell hs hj e rfl k
theorem wq_kind {l : List node.den} {v : AV} (H : Holds S h nodes l [v]) {j : Nat} (hj : j < l.length) {K : AV → Option R} (k : WP (K (.int .i64 l[j].2.1)) Q) : WP (readK1 h (addrOf v 5 j 1) 1 K) Q := by
  obtain ⟨ds, hs, hc, _⟩ := H.nodes
  obtain ⟨a, d, e, _⟩ := hc j hj
  exact wp_cell hs hj e rfl k
theorem wq_args {l : List node.den} {v : AV} (H : Holds S h nodes l [v]) {j : Nat} (hj : j < l.length) {K : AV → Option R} (k : ∀ u, Holds S h ints l[j].2.2.1 [u] → WP (K u) Q) : WP (readK1 h (addrOf v 5 j 2) 1 K) Q := by
  obtain ⟨ds, hs, hc, _⟩ := H.nodes
  obtain ⟨a, d, e, ha, hd, _⟩ := hc j hj
  exact wp_cell hs hj e rfl (k a ha)
theorem wq_dims {l : List node.den} {v : AV} (H : Holds S h nodes l [v]) {j : Nat} (hj : j < l.length) {K : AV → Option R} (k : ∀ u, Holds S h ints l[j].2.2.2.1 [u] → WP (K u) Q) : WP (readK1 h (addrOf v 5 j 3) 1 K) Q := by
  obtain ⟨ds, hs, hc, _⟩ := H.nodes
  obtain ⟨a, d, e, ha, hd, _⟩ := hc j hj
  exact wp_cell hs hj e rfl (k d hd)
theorem wq_num {l : List node.den} {v : AV} (H : Holds S h nodes l [v]) {j : Nat} (hj : j < l.length) {K : AV → Option R} (k : WP (K (.int .i64 l[j].2.2.2.2)) Q) : WP (readK1 h (addrOf v 5 j 4) 1 K) Q := by
  obtain ⟨ds, hs, hc, _⟩ := H.nodes
  obtain ⟨a, d, e, _⟩ := hc j hj
  exact wp_cell hs hj e rfl k
theorem wq_node {l : List node.den} {v : AV} (H : Holds S h nodes l [v]) {j : Nat} (hj : j < l.length) {K : List AV → Option R}
    (k : ∀ a d, Holds S h ints l[j].2.2.1 [a] → Holds S h ints l[j].2.2.2.1 [d] → Holds S h node l[j] [.str l[j].1, .int .i64 l[j].2.1, a, d, .int .i64 l[j].2.2.2.2] → WP (K [.str l[j].1, .int .i64 l[j].2.1, a, d, .int .i64 l[j].2.2.2.2]) Q) : WP (readK h (addrOf v 5 j 0) 5 K) Q := by
  obtain ⟨ds, hs, hc, _⟩ := H.nodes
  obtain ⟨a, d, e, ha, hd, hn⟩ := hc j hj
  exact wp_elem hs hj e (k a d ha hd hn)
/-- A tensor. -/
theorem holds_tensor {x : tensor.den} {cs : List AV} (H : Holds S h tensor x cs) : ∃ d t, cs = [d, t] ∧ Holds S h ints x.1 [d] ∧ Holds S h ints x.2 [t] := by
  obtain ⟨c1, c2, rfl, hd, ht⟩ := H
  obtain ⟨d, _, rfl, _⟩ := id hd
  obtain ⟨t, _, rfl, _⟩ := id ht
  exact ⟨d, t, rfl, hd, ht⟩
theorem wq_tensor {l : List tensor.den} {v : AV} (H : Holds S h tensors l [v]) {j : Nat} (hj : j < l.length) {K : List AV → Option R}
    (k : ∀ d t, Holds S h ints l[j].1 [d] → Holds S h ints l[j].2 [t] → WP (K [d, t]) Q) : WP (readK h (addrOf v 2 j 0) 2 K) Q := by
  obtain ⟨ds, hs, hc⟩ := H.elem
  have hx := hc j l[j] (List.getElem?_eq_getElem hj)
  obtain ⟨d, t, e, hd, ht⟩ := holds_tensor hx
  exact wp_elem hs hj e (k d t hd ht)
theorem wq_tdims {l : List tensor.den} {v : AV} (H : Holds S h tensors l [v]) {j : Nat} (hj : j < l.length) {K : AV → Option R}
    (k : ∀ d, Holds S h ints l[j].1 [d] → WP (K d) Q) : WP (readK1 h (addrOf v 2 j 0) 1 K) Q := by
  obtain ⟨ds, hs, hc⟩ := H.elem
  have hx := hc j l[j] (List.getElem?_eq_getElem hj)
  obtain ⟨d, t, e, hd, ht⟩ := holds_tensor hx
  exact wp_cell hs hj e rfl (k d hd)
theorem wq_tdata {l : List tensor.den} {v : AV} (H : Holds S h tensors l [v]) {j : Nat} (hj : j < l.length) {K : AV → Option R}
    (k : ∀ d, Holds S h ints l[j].2 [d] → WP (K d) Q) : WP (readK1 h (addrOf v 2 j 1) 1 K) Q := by
  obtain ⟨ds, hs, hc⟩ := H.elem
  have hx := hc j l[j] (List.getElem?_eq_getElem hj)
  obtain ⟨d, t, e, hd, ht⟩ := holds_tensor hx
  exact wp_cell hs hj e rfl (k t ht)
/-- A life. -/
theorem holds_life {x : life.den} {cs : List AV} (H : Holds S h life x cs) : cs = [.int .i64 x.1, .int .i64 x.2.1, .int .i64 x.2.2] := by
  obtain ⟨c1, c2, rfl, ⟨rfl, _⟩, c3, c4, rfl, ⟨rfl, _⟩, ⟨rfl, _⟩⟩ := H
  rfl
theorem wq_life {l : List life.den} {v : AV} (H : Holds S h lives l [v]) {j : Nat} (hj : j < l.length) {K : List AV → Option R}
    (k : WP (K [.int .i64 l[j].1, .int .i64 l[j].2.1, .int .i64 l[j].2.2]) Q) : WP (readK h (addrOf v 3 j 0) 3 K) Q := by
  obtain ⟨ds, hs, hc⟩ := H.elem
  exact wp_elem hs hj (holds_life (hc j l[j] (List.getElem?_eq_getElem hj))) k
theorem wq_from {l : List life.den} {v : AV} (H : Holds S h lives l [v]) {j : Nat} (hj : j < l.length) {K : AV → Option R}
    (k : WP (K (.int .i64 l[j].1)) Q) : WP (readK1 h (addrOf v 3 j 0) 1 K) Q := by
  obtain ⟨ds, hs, hc⟩ := H.elem
  exact wp_cell hs hj (holds_life (hc j l[j] (List.getElem?_eq_getElem hj))) rfl k
theorem wq_to {l : List life.den} {v : AV} (H : Holds S h lives l [v]) {j : Nat} (hj : j < l.length) {K : AV → Option R}
    (k : WP (K (.int .i64 l[j].2.1)) Q) : WP (readK1 h (addrOf v 3 j 1) 1 K) Q := by
  obtain ⟨ds, hs, hc⟩ := H.elem
  exact wp_cell hs hj (holds_life (hc j l[j] (List.getElem?_eq_getElem hj))) rfl k
theorem wq_size {l : List life.den} {v : AV} (H : Holds S h lives l [v]) {j : Nat} (hj : j < l.length) {K : AV → Option R}
    (k : WP (K (.int .i64 l[j].2.2)) Q) : WP (readK1 h (addrOf v 3 j 2) 1 K) Q := by
  obtain ⟨ds, hs, hc⟩ := H.elem
  exact wp_cell hs hj (holds_life (hc j l[j] (List.getElem?_eq_getElem hj))) rfl k
/-- A joint. -/
theorem holds_joint {x : joint.den} {cs : List AV} (H : Holds S h joint x cs) : ∃ n g, cs = [n, .int .i64 x.2.1, g] ∧ Holds S h nodes x.1 [n] ∧ Holds S h ints x.2.2 [g] ∧ (-9223372036854775808 ≤ x.2.1 ∧ x.2.1 ≤ 9223372036854775807) := by
  obtain ⟨c1, c2, rfl, hn, c3, c4, rfl, ⟨rfl, hl⟩, hg⟩ := H
  obtain ⟨n, _, rfl, _⟩ := id hn
  obtain ⟨g, _, rfl, _⟩ := id hg
  exact ⟨n, g, rfl, hn, hg, hl⟩
theorem wq_joint {l : List joint.den} {v : AV} (H : Holds S h (.slice joint) l [v]) {j : Nat} (hj : j < l.length) {K : List AV → Option R}
    (k : ∀ n g, Holds S h nodes l[j].1 [n] → Holds S h ints l[j].2.2 [g] → Holds S h joint l[j] [n, .int .i64 l[j].2.1, g] → (-9223372036854775808 ≤ l[j].2.1 ∧ l[j].2.1 ≤ 9223372036854775807) → WP (K [n, .int .i64 l[j].2.1, g]) Q) : WP (readK h (addrOf v 3 j 0) 3 K) Q := by
  obtain ⟨ds, hs, hc⟩ := H.elem
  have hx := hc j l[j] (List.getElem?_eq_getElem hj)
  obtain ⟨n, g, e, hn, hg, hl⟩ := holds_joint hx
  have hx' := hx
  rw [e] at hx'
  exact wp_elem hs hj e (k n g hn hg hx' hl)
/-- Cells behind a pointer of one's own. -/
abbrev Box (h : Heap) (l : Nat) (cs : List AV) : Prop := h[l]? = some (.cells 0 1 cs)
theorem Box.lt {l : Nat} {cs : List AV} (H : Box h l cs) : l < h.length := (List.getElem?_eq_some_iff.1 H).1
theorem Box.old {h' : Heap} {n l : Nat} {cs : List AV} (o : Old n h h') (H : Box h l cs) (hl : l < n) : Box h' l cs := (o.2 l hl).trans H
theorem Box.new {g : List AObj} {cs : List AV} : Box (h ++ [.cells 0 1 cs]) h.length cs := by simp [Box]
theorem wq_init {b n : Nat} {zs cs : List AV} (hb : b ≤ h.length) (hz : zs.length = n) (hc : cs.length = n) {K : Heap → Option R} (k : ∀ h', Old h.length h h' → Box h' h.length cs → h.length < h'.length → WP (K h') Q) : WP (storeK b n (h ++ [.cells 0 1 zs]) (.ptr h.length 0 0) (.agg cs) K) Q :=
  wp_init hb hz hc (k _ Old.app (by simp [Box]) (by simp))
theorem wq_ptr {l off : Nat} {cs : List AV} (hb : Box h l cs) {v : AV} (ho : cs[off]? = some v) {K : AV → Option R} (k : WP (K v) Q) : WP (readK1 h (.ptr l 0 off) 1 K) Q := wp_ptr1 hb ho k
theorem wq_ptrs {l off n : Nat} {cs : List AV} (hb : Box h l cs) (ho : off + n ≤ cs.length) {K : List AV → Option R} (k : WP (K ((cs.drop off).take n)) Q) : WP (readK h (.ptr l 0 off) n K) Q := wp_ptrs hb ho k
/-- A cell of a box is written. -/
theorem wq_put {b l off n : Nat} {cs vs : List AV} (hb : Box h l cs) (hl : b ≤ l) {x : AV} (hx : ∀ {R : Type} (K : List AV → Option R), cellsK x K = K vs) (hv : vs.length = n) (ho : off + n ≤ cs.length) {K : Heap → Option R}
    (k : ∀ h', h'.length = h.length → (∀ j, j ≠ l → h'[j]? = h[j]?) → Box h' l (layAt cs off vs) → WP (K h') Q) : WP (storeK b n h (.ptr l 0 off) x K) Q := by
  have hlt := hb.lt
  simp only [storeK, hx]
  rw [if_pos hl, if_pos hv]
  unfold blockK
  rw [hb]
  simp only [if_true]
  rw [if_pos ho]
  exact k _ (by simp) (fun j hj => List.getElem?_set_ne (fun e => hj e.symm)) (List.getElem?_set_self hlt)
/-- Many are appended. -/
theorem wp_pushAll {base f n0 bytes s m : Nat} {p : PT} {v : AV} {l l2 : List p.den} {ys : List AV} (H : AccP f n0 h p v l) (hy : ys.length = l2.length * p.sz)
    (hx : ∀ (i : Nat) (x : p.den), l2[i]? = some x → Holds (fun j => f ≤ j ∧ j < h.length ∧ v.blk ≠ some j) h p x ((ys.drop (i * p.sz)).take p.sz)) (hm : m = l2.length) (hs : s = p.sz) (hb : base ≤ n0) (hn : n0 ≤ h.length)
    (h1 : (l.length + l2.length) * bytes ≤ 140737488355328) (h2 : l.length + l2.length ≤ 140737488355328) {K : AV → Heap → Option R}
    (k : ∀ v' h', But v h h' → Old n0 h h' → AccP f n0 h' p v' (l ++ l2) → WP (K v' h') Q) : WP (appK base s bytes h v ys m K) Q := by
  subst hs hm
  obtain ⟨cs, a, e⟩ := H
  have hcl := a.len
  refine wp_app a hb hn hy h1 h2 fun v' h' but hv a' => k v' h' but (but.old a hn) ⟨cs ++ ys, by simpa using a', fun i y hi => ?_⟩
  have fr : ∀ j, (f ≤ j ∧ j < h.length ∧ v.blk ≠ some j) → (f ≤ j ∧ j < h'.length ∧ v'.blk ≠ some j) ∧ h'[j]? = h[j]? := fun j hj => ⟨⟨hj.1, Nat.lt_of_lt_of_le hj.2.1 but.1, fun eq => by
    rcases hv j eq with e1 | e1
    · exact hj.2.2 e1
    · omega⟩, but.2 j hj.2.1 hj.2.2⟩
  rcases Nat.lt_or_ge i l.length with hil | hil
  · rw [List.getElem?_append_left hil] at hi
    have hle : (i + 1) * p.sz ≤ l.length * p.sz := Nat.mul_le_mul_right _ hil
    rw [Nat.add_mul, Nat.one_mul] at hle
    rw [List.drop_append_of_le_length (by omega), List.take_append_of_le_length (by rw [List.length_drop]; omega)]
    exact (e i y hi).frame fr
  · rw [List.getElem?_append_right hil] at hi
    have e1 : (cs ++ ys).drop (i * p.sz) = ys.drop ((i - l.length) * p.sz) := by
      rw [List.drop_append, List.drop_of_length_le (by rw [hcl]; exact Nat.mul_le_mul_right _ hil), List.nil_append, hcl, ← Nat.sub_mul]
    rw [e1]
    exact (hx _ y hi).frame fr
theorem AccP.floor {f f' n0 : Nat} {p : PT} {v : AV} {l : List p.den} (H : AccP f n0 h p v l) (hf : f' ≤ f) : AccP f' n0 h p v l := by
  obtain ⟨cs, a, e⟩ := H
  exact ⟨cs, a, fun i x hi => (e i x hi).mono fun j hj => ⟨Nat.le_trans hf hj.1, hj.2⟩⟩
/-- All of an old slice are appended. -/
theorem wp_pushS {base n0 bytes s : Nat} {p : PT} {v w : AV} {l l2 : List p.den} {ds : List AV} (H : AccP 0 n0 h p v l) (hs2 : SliceAt S h w p.sz l2.length ds) (hc2 : ∀ (i : Nat) (x : p.den), l2[i]? = some x → Holds S h p x ((ds.drop (i * p.sz)).take p.sz)) (hS : ∀ j, S j → j < n0)
    (hs : s = p.sz) (hb : base ≤ n0) (hn : n0 ≤ h.length) (h1 : (l.length + l2.length) * bytes ≤ 140737488355328) (h2 : l.length + l2.length ≤ 140737488355328) {K : AV → Heap → Option R}
    (k : ∀ v' h', But v h h' → Old n0 h h' → AccP 0 n0 h' p v' (l ++ l2) → WP (K v' h') Q) : WP (appK base s bytes h v ds l2.length K) Q :=
  wp_pushAll H hs2.len (fun i x hi => (hc2 i x hi).mono fun j hj => ⟨Nat.zero_le _, Nat.lt_of_lt_of_le (hS j hj) hn, H.apart (hS j hj)⟩) rfl hs hb hn h1 h2 k
/-- What lies elsewhere than a slice of one's own. -/
theorem AccP.off {f n0 : Nat} {p : PT} {v : AV} {l : List p.den} (H : AccP f n0 h p v l) {q : PT} {x : q.den} {cs : List AV} (hx : Holds S h q x cs) (hS : ∀ j, S j → f ≤ j ∧ j < n0 ∧ j < h.length) : Holds (fun j => f ≤ j ∧ j < h.length ∧ v.blk ≠ some j) h q x cs :=
  hx.mono fun j hj => ⟨(hS j hj).1, (hS j hj).2.2, H.apart (hS j hj).2.1⟩
/-- A slice of one's own that is done. -/
theorem AccP.in {f n0 : Nat} {p : PT} {v : AV} {l : List p.den} (H : AccP f n0 h p v l) (hf : f ≤ n0) : In h (.slice p) l [v] := (H.holds hf).mono fun _ hj => hj.2
/-- One more; the block that it came in stays behind. -/
theorem wp_push1 {base f n0 bytes s : Nat} {o : AObj} {p : PT} {v : AV} {l : List p.den} {x : p.den} {ys : List AV} (H : AccP f n0 h p v l) (hx : Holds (fun j => f ≤ j ∧ j < h.length ∧ v.blk ≠ some j) h p x ys) (hs : s = p.sz) (hb : base ≤ n0) (hn : n0 ≤ h.length)
    (h1 : (l.length + 1) * bytes ≤ 140737488355328) (h2 : l.length + 1 ≤ 140737488355328) {K : AV → Heap → Option R}
    (k : ∀ v' h', Old n0 h h' → AccP f n0 h' p v' (l ++ [x]) → WP (K v' h') Q) : WP (appK base s bytes (h ++ [o]) v ys 1 K) Q := by
  refine wp_push (H.keep (h' := h ++ [o]) Old.app) (hx.frame fun j hj => ⟨⟨hj.1, by simp; omega, hj.2.2⟩, List.getElem?_append_left hj.2.1⟩) hs hb (by simp; omega) h1 h2 fun v' h' _ o' a' => k v' h' ((Old.app.mono hn).trans o') a'
theorem holds_int {n : Int} (hn : -9223372036854775808 ≤ n ∧ n ≤ 9223372036854775807) : Holds S h int n [.int .i64 n] := ⟨rfl, hn⟩
/-- One number more. -/
theorem wp_pushI {base f n0 : Nat} {o : AObj} {v : AV} {l : List Int} {x : Int} (H : AccP f n0 h int v l) (hx : -9223372036854775808 ≤ x ∧ x ≤ 9223372036854775807) (hb : base ≤ n0) (hn : n0 ≤ h.length) (hl : l.length ≤ 1000000000000) {K : AV → Heap → Option R}
    (k : ∀ v' h', Old n0 h h' → AccP f n0 h' int v' (l ++ [x]) → WP (K v' h') Q) : WP (appK base 1 8 (h ++ [o]) v [.int .i64 x] 1 K) Q :=
  wp_push1 (p := int) (x := x) H (holds_int hx) rfl hb hn (by simp only [PT.den] at *; omega) (by simp only [PT.den] at *; omega) k
theorem layAt_get {cs vs : List AV} {p : Nat} (h : p + vs.length ≤ cs.length) (j : Nat) : (layAt cs p vs)[j]? = if p ≤ j ∧ j < p + vs.length then vs[j - p]? else cs[j]? := by
  have hm : min p cs.length = p := Nat.min_eq_left (by omega)
  unfold layAt
  rw [List.append_assoc, List.getElem?_append, List.getElem?_append]
  simp only [List.length_take, hm, List.getElem?_take, List.getElem?_drop]
  by_cases h1 : j < p
  · rw [if_pos h1, if_pos h1, if_neg (by omega)]
  · by_cases h2 : j < p + vs.length
    · rw [if_neg h1, if_pos (by omega), if_pos ⟨by omega, h2⟩]
    · rw [if_neg h1, if_neg (by omega), if_neg (by omega)]
      congr 1
      omega
theorem layAt_part {cs vs : List AV} {a o s : Nat} (h : a + s ≤ cs.length) (ho : o + vs.length ≤ s) : ((layAt cs (a + o) vs).drop a).take s = layAt ((cs.drop a).take s) o vs := by
  apply List.ext_getElem?
  intro j
  rw [List.getElem?_take, layAt_get (by simp; omega), List.getElem?_take, List.getElem?_drop, List.getElem?_drop, layAt_get (by omega)]
  by_cases h1 : j < s
  · rw [if_pos h1, if_pos h1]
    by_cases h2 : o ≤ j ∧ j < o + vs.length
    · rw [if_pos (by omega), if_pos h2]
      congr 1
      omega
    · rw [if_neg (by omega), if_neg h2]
  · rw [if_neg h1, if_neg h1, if_neg (by omega)]
/-- A part of an element is written. -/
theorem wp_putf {base f n0 s m o : Nat} {p : PT} {v : AV} {l : List p.den} {x : p.den} {X : AV} {vs : List AV} (H : AccP f n0 h p v l) (hX : ∀ {R : Type} (K : List AV → Option R), cellsK X K = K vs) (hv : vs.length = m) (hs : s = p.sz) (ho : o + m ≤ p.sz) (hb : base ≤ n0) (hn : n0 ≤ h.length)
    {i : Nat} (hi : i < l.length) (hel : ∀ ys, ys.length = p.sz → Holds (fun j => f ≤ j ∧ j < h.length ∧ v.blk ≠ some j) h p l[i] ys → Holds (fun j => f ≤ j ∧ j < h.length ∧ v.blk ≠ some j) h p x (layAt ys o vs)) {K : Heap → Option R}
    (k : ∀ h', But v h h' → h'.length = h.length → Old n0 h h' → AccP f n0 h' p v (l.set i x) → WP (K h') Q) : WP (storeK base m h (addrOf v s i o) X K) Q := by
  subst hs
  obtain ⟨cs, a, e⟩ := H
  have hcl := a.len
  have hle : (i + 1) * p.sz ≤ l.length * p.sz := Nat.mul_le_mul_right _ hi
  rw [Nat.add_mul, Nat.one_mul] at hle
  refine wp_set a hb hi (by omega) hX hv fun h' but hl' a' => k h' but hl' (but.old a hn) ⟨_, by simpa using a', fun j y hj => ?_⟩
  have fr : ∀ j, (f ≤ j ∧ j < h.length ∧ v.blk ≠ some j) → (f ≤ j ∧ j < h'.length ∧ v.blk ≠ some j) ∧ h'[j]? = h[j]? := fun j hj => ⟨⟨hj.1, Nat.lt_of_lt_of_le hj.2.1 but.1, hj.2.2⟩, but.2 j hj.2.1 hj.2.2⟩
  by_cases hij : j = i
  · subst hij
    rw [List.getElem?_set_self hi] at hj
    cases hj
    rw [layAt_part (by omega) (by omega)]
    exact (hel _ (by simp; omega) (e j _ (List.getElem?_eq_getElem hi))).frame fr
  · rw [List.getElem?_set_ne (fun e => hij e.symm)] at hj
    have hjl := (List.getElem?_eq_some_iff.1 hj).1
    rcases Nat.lt_or_ge j i with h1 | h1
    · have : (j + 1) * p.sz ≤ i * p.sz := Nat.mul_le_mul_right _ h1
      rw [Nat.add_mul, Nat.one_mul] at this
      rw [layAt_before (by omega) (by omega)]
      exact (e j y hj).frame fr
    · have : (i + 1) * p.sz ≤ j * p.sz := Nat.mul_le_mul_right _ (by omega)
      rw [Nat.add_mul, Nat.one_mul] at this
      rw [layAt_behind (by omega) (by omega)]
      exact (e j y hj).frame fr
/-- Numbers in a block that stands there. -/
theorem holds_ref {k : Nat} {l : List Int} {n : Nat} (hb : h[k]? = some (.cells 0 1 (l.map (.int .i64)))) (hS : S k) (hn : n = l.length) (hl : l.length ≤ 140737488355328) (hr : ∀ x ∈ l, -9223372036854775808 ≤ x ∧ x ≤ 9223372036854775807) : Holds S h ints l [.ref k 0 0 n] := by
  subst hn
  refine ⟨_, l.map (.int .i64), rfl, ⟨hl, hS, rfl, by simp [PT.sz], _, hb, by simp [PT.sz], by simp only [PT.sz]; rw [List.drop_zero, List.take_of_length_le (by simp)]⟩, fun i x hi => ?_⟩
  obtain ⟨hil, rfl⟩ := List.getElem?_eq_some_iff.1 hi
  simp only [PT.sz]
  rw [take1_drop (by simpa using hil)]
  exact ⟨by simp, hr _ (List.getElem_mem hil)⟩
@[simp] theorem sliceK_new2 {a : AObj} {s n : Nat} {cs : List AV} (K : List AV → Option R) : sliceK (h ++ [a, .cells 0 s cs]) s (.ref (h.length + 1) 0 0 n) K = if n * s ≤ cs.length then K (cs.take (n * s)) else none := by
  simp [sliceK, blockK]
@[simp] theorem sliceK_new3 {a b : AObj} {s n : Nat} {cs : List AV} (K : List AV → Option R) : sliceK (h ++ [a, b, .cells 0 s cs]) s (.ref (h.length + 2) 0 0 n) K = if n * s ≤ cs.length then K (cs.take (n * s)) else none := by
  simp [sliceK, blockK]
@[simp] theorem sliceK_new4 {a b c : AObj} {s n : Nat} {cs : List AV} (K : List AV → Option R) : sliceK (h ++ [a, b, c, .cells 0 s cs]) s (.ref (h.length + 3) 0 0 n) K = if n * s ≤ cs.length then K (cs.take (n * s)) else none := by
  simp [sliceK, blockK]
theorem cells_one {v : AV} (H : v.one = true) {R : Type} (K : List AV → Option R) : cellsK v K = K [v] := by
  cases v <;> first | rfl | cases H
theorem in_nil {p : PT} : Holds S h (.slice p) [] [.nil] := ⟨.nil, [], rfl, ⟨Nat.zero_le _, rfl, rfl⟩, fun i x hi => by simp at hi⟩
theorem holds_le {e : PT} {l : List e.den} {v : AV} (H : Holds S h (.slice e) l [v]) : l.length ≤ 140737488355328 := by
  obtain ⟨_, hs, _⟩ := H.elem
  exact hs.1
theorem holds_range {l : List Int} {v : AV} (H : Holds S h ints l [v]) {i : Nat} (hi : i < l.length) : -9223372036854775808 ≤ l[i] ∧ l[i] ≤ 9223372036854775807 := by
  obtain ⟨_, _, _, hr, _⟩ := H.ints
  exact hr _ (List.getElem_mem hi)
theorem wq_cells {p : PT} {l : List p.den} {v : AV} (H : Holds S h (.slice p) l [v]) {K : List AV → Option R} (k : WP (K [v]) Q) : WP (cellsK v K) Q := wp_cells H.one1 k
theorem wq_isnil {p : PT} {l : List p.den} {v : AV} (H : Holds S h (.slice p) l [v]) {K : AV → Option R} (k : ∀ b : Bool, (b = true → l = []) → WP (K (.bool b)) Q) : WP (binK .eql 2 v .nil K) Q := by
  obtain ⟨_, hs, _⟩ := H.elem
  exact wp_isnil hs fun b hb => k b fun e => List.length_eq_zero_iff.1 (hb e)
end
end Go.AM
