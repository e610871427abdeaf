import Derived.Test.YtfdbegdgedhhcaaGreatAmS5
set_option linter.all false
/- Rules over what holds: steps that go by themselves. -/
namespace Go.AM
set_option maxRecDepth 20000
/-- From, to, size. -/
abbrev life : PT := .pair int (.pair int int)
abbrev lives : PT := .slice life
section
variable {R : Type} {Q : R → Prop} {S : Nat → Prop} {h : Heap}
theorem wq_len {e : PT} {l : List e.den} {v : AV} (H : Holds S h (.slice e) l [v]) {K : Nat → Option R} (k : WP (K l.length) Q) : WP (lenK v K) Q := by
  obtain ⟨ds, hs, _⟩ := H.elem
  exact wp_len hs k
theorem wq_idx {e : PT} {l : List e.den} {v : AV} (H : Holds S h (.slice e) l [v]) {s : Nat} {i : Int} (hs : s = e.sz) (h0 : 0 ≤ i) (h1 : i < (l.length : Int)) {K : AV → Option R} (k : WP (K (addrOf v s i.toNat 0)) Q) : WP (idxK s v i K) Q := by
  subst hs
  obtain ⟨ds, hs, _⟩ := H.elem
  exact wp_idx hs (j := i.toNat) (by omega) (by omega) k
theorem wq_int {l : List Int} {v : AV} (H : Holds S h ints l [v]) {j : Nat} (hj : j < l.length) {K : AV → Option R} (k : WP (K (.int .i64 l[j])) Q) : WP (readK1 h (addrOf v 1 j 0) 1 K) Q := by
  obtain ⟨ds, hs, hc, _⟩ := H.ints
  exact wp_cell hs hj (hc j hj) rfl k
theorem wq_sub {e : PT} {l : List (List e.den)} {v : AV} (H : Holds S h (.slice (.slice e)) l [v]) {j : Nat} (hj : j < l.length) {K : AV → Option R} (k : ∀ u, Holds S h (.slice e) l[j] [u] → WP (K u) Q) : WP (readK1 h (addrOf v 1 j 0) 1 K) Q := by
  obtain ⟨ds, hs, hc⟩ := H.elem
  have hx := hc j l[j] (List.getElem?_eq_getElem hj)
  obtain ⟨u, ds', hu, _⟩ := id hx
  rw [hu] at hx
  exact wp_cell hs hj hu rfl (k u hx)
theorem wq_name {l : List node.den} {v : AV} (H : Holds S h nodes l [v]) {j : Nat} (hj : j < l.length) {K : AV → Option R} (k : WP (K (.str l[j].1)) Q) : WP (readK1 h (addrOf v 5 j 0) 1 K) Q := by
  obtain ⟨ds, hs, hc, _⟩ := H.nodes
  obtain ⟨a, d, e, _⟩ := hc j hj
  exact wp_cell hs hj e rfl k
theorem wq_kind {l : List node.den} {v : AV} (H : Holds S h nodes l [v]) {j : Nat} (hj : j < l.length) {K : AV → Option R} (k : WP (K (.int .i64 l[j].2.1)) Q) : WP (readK1 h (addrOf v 5 j 1) 1 K) Q := by
  obtain ⟨ds, hs, hc, _⟩ := H.nodes
  obtain ⟨a, d, e, _⟩ := hc j hj
  exact wp_cell hs hj e rfl k
theorem wq_args {l : List node.den} {v : AV} (H : Holds S h nodes l [v]) {j : Nat} (hj : j < l.length) {K : AV → Option R} (k : ∀ u, Holds S h ints l[j].2.2.1 [u] → WP (K u) Q) : WP (readK1 h (addrOf v 5 j 2) 1 K) Q := by
  obtain ⟨ds, hs, hc, _⟩ := H.nodes
  obtain ⟨a, d, e, ha, hd, _⟩ := hc j hj
  exact wp_cell hs hj e rfl (k a ha)
theorem wq_dims {l : List node.den} {v : AV} (H : Holds S h nodes l [v]) {j : Nat} (hj : j < l.length) {K : AV → Option R} (k : ∀ u, Holds S h ints l[j].2.2.2.1 [u] → WP (K u) Q) : WP (readK1 h (addrOf v 5 j 3) 1 K) Q := by
  obtain ⟨ds, hs, hc, _⟩ := H.nodes
  obtain ⟨a, d, e, ha, hd, _⟩ := hc j hj
  exact wp_cell hs hj e rfl (k d hd)
theorem wq_num {l : List node.den} {v : AV} (H : Holds S h nodes l [v]) {j : Nat} (hj : j < l.length) {K : AV → Option R} (k : WP (K (.int .i64 l[j].2.2.2.2)) Q) : WP (readK1 h (addrOf v 5 j 4) 1 K) Q := by
  obtain ⟨ds, hs, hc, _⟩ := H.nodes
  obtain ⟨a, d, e, _⟩ := hc j hj
  exact wp_cell hs hj e rfl k
theorem wq_node {l : List node.den} {v : AV} (H : Holds S h nodes l [v]) {j : Nat} (hj : j < l.length) {K : List AV → Option R}
    (k : ∀ a d, Holds S h ints l[j].2.2.1 [a] → Holds S h ints l[j].2.2.2.1 [d] → Holds S h node l[j] [.str l[j].1, .int .i64 l[j].2.1, a, d, .int .i64 l[j].2.2.2.2] → WP (K [.str l[j].1, .int .i64 l[j].2.1, a, d, .int .i64 l[j].2.2.2.2]) Q) : WP (readK h (addrOf v 5 j 0) 5 K) Q := by
  obtain ⟨ds, hs, hc, _⟩ := H.nodes
  obtain ⟨a, d, e, ha, hd, hn⟩ := hc j hj
  exact wp_elem hs hj e (k a d ha hd hn)
/-- A tensor. -/
theorem holds_tensor {x : tensor.den} {cs : List AV} (H : Holds S h tensor x cs) : ∃ d t, cs = [d, t] ∧ Holds S h ints x.1 [d] ∧ Holds S h ints x.2 [t] := by
  obtain ⟨c1, c2, rfl, hd, ht⟩ := H
  obtain ⟨d, _, rfl, _⟩ := id hd
  obtain ⟨t, _, rfl, _⟩ := id ht
  exact ⟨d, t, rfl, hd, ht⟩
theorem wq_tensor {l : List tensor.den} {v : AV} (H : Holds S h tensors l [v]) {j : Nat} (hj : j < l.length) {K : List AV → Option R}
    (k : ∀ d t, Holds S h ints l[j].1 [d] → Holds S h ints l[j].2 [t] → WP (K [d, t]) Q) : WP (readK h (addrOf v 2 j 0) 2 K) Q := by
  obtain ⟨ds, hs, hc⟩ := H.elem
  have hx := hc j l[j] (List.getElem?_eq_getElem hj)
  obtain ⟨d, t, e, hd, ht⟩ := holds_tensor hx
  exact wp_elem hs hj e (k d t hd ht)
theorem wq_tdims {l : List tensor.den} {v : AV} (H : Holds S h tensors l [v]) {j : Nat} (hj : j < l.length) {K : AV → Option R}
    (k : ∀ d, Holds S h ints l[j].1 [d] → WP (K d) Q) : WP (readK1 h (addrOf v 2 j 0) 1 K) Q := by
  obtain ⟨ds, hs, hc⟩ := H.elem
  have hx := hc j l[j] (List.getElem?_eq_getElem hj)
  obtain ⟨d, t, e, hd, ht⟩ := holds_tensor hx
  exact wp_cell hs hj e rfl (k d hd)
theorem wq_tdata {l : List tensor.den} {v : AV} (H : Holds S h tensors l [v]) {j : Nat} (hj : j < l.length) {K : AV → Option R}
    (k : ∀ d, Holds S h ints l[j].2 [d] → WP (K d) Q) : WP (readK1 h (addrOf v 2 j 1) 1 K) Q := by
  obtain ⟨ds, hs, hc⟩ := H.elem
  have hx := hc j l[j] (List.getElem?_eq_getElem hj)
  obtain ⟨d, t, e, hd, ht⟩ := holds_tensor hx
  exact wp_cell hs hj e rfl (k t ht)
/-- A life. -/
theorem holds_life {x : life.den} {cs : List AV} (H : Holds S h life x cs) : cs = [.int .i64 x.1, .int .i64 x.2.1, .int .i64 x.2.2] := by
  obtain ⟨c1, c2, rfl, ⟨rfl, _⟩, c3, c4, rfl, ⟨rfl, _⟩, ⟨rfl, _⟩⟩ := H
  rfl
theorem wq_life {l : List life.den} {v : AV} (H : Holds S h lives l [v]) {j : Nat} (hj : j < l.length) {K : List AV → Option R}
    (k : WP (K [.int .i64 l[j].1, .int .i64 l[j].2.1, .int .i64 l[j].2.2]) Q) : WP (readK h (addrOf v 3 j 0) 3 K) Q := by
  obtain ⟨ds, hs, hc⟩ := H.elem
  exact wp_elem hs hj (holds_life (hc j l[j] (List.getElem?_eq_getElem hj))) k
theorem wq_from {l : List life.den} {v : AV} (H : Holds S h lives l [v]) {j : Nat} (hj : j < l.length) {K : AV → Option R}
    (k : WP (K (.int .i64 l[j].1)) Q) : WP (readK1 h (addrOf v 3 j 0) 1 K) Q := by
  obtain ⟨ds, hs, hc⟩ := H.elem
  exact wp_cell hs hj (holds_life (hc j l[j] (List.getElem?_eq_getElem hj))) rfl k
theorem wq_to {l : List life.den} {v : AV} (H : Holds S h lives l [v]) {j : Nat} (hj : j < l.length) {K : AV → Option R}
    (k : WP (K (.int .i64 l[j].2.1)) Q) : WP (readK1 h (addrOf v 3 j 1) 1 K) Q := by
  obtain ⟨ds, hs, hc⟩ := H.elem
  exact wp_cell hs hj (holds_life (hc j l[j] (List.getElem?_eq_getElem hj))) rfl k
theorem wq_size {l : List life.den} {v : AV} (H : Holds S h lives l [v]) {j : Nat} (hj : j < l.length) {K : AV → Option R}
    (k : WP (K (.int .i64 l[j].2.2)) Q) : WP (readK1 h (addrOf v 3 j 2) 1 K) Q := by
  obtain ⟨ds, hs, hc⟩ := H.elem
  exact wp_cell hs hj (holds_life (hc j l[j] (List.getElem?_eq_getElem hj))) rfl k
/-- A joint. -/
theorem holds_joint {x : joint.den} {cs : List AV} (H : Holds S h joint x cs) : ∃ n g, cs = [n, .int .i64 x.2.1, g] ∧ Holds S h nodes x.1 [n] ∧ Holds S h ints x.2.2 [g] ∧ (-9223372036854775808 ≤ x.2.1 ∧ x.2.1 ≤ 9223372036854775807) := by
  obtain ⟨c1, c2, rfl, hn, c3, c4, rfl, ⟨rfl, hl⟩, hg⟩ := H
  obtain ⟨n, _, rfl, _⟩ := id hn
  obtain ⟨g, _, rfl, _⟩ := id hg
  exact ⟨n, g, rfl, hn, hg, hl⟩
theorem wq_joint {l : List joint.den} {v : AV} (H : Holds S h (.slice joint) l [v]) {j : Nat} (hj : j < l.length) {K : List AV → Option R}
    (k : ∀ n g, Holds S h nodes l[j].1 [n] → Holds S h ints l[j].2.2 [g] → Holds S h joint l[j] [n, .int .i64 l[j].2.1, g] → (-9223372036854775808 ≤ l[j].2.1 ∧ l[j].2.1 ≤ 9223372036854775807) → WP (K [n, .int .i64 l[j].2.1, g]) Q) : WP (readK h (addrOf v 3 j 0) 3 K) Q := by
  obtain ⟨ds, hs, hc⟩ := H.elem
  have hx := hc j l[j] (List.getElem?_eq_getElem hj)
  obtain ⟨n, g, e, hn, hg, hl⟩ := holds_joint hx
  have hx' := hx
  rw [e] at hx'
  exact wp_elem hs hj e (k n g hn hg hx' hl)
/-- Cells behind a pointer of one's own. -/
abbrev Box (h : Heap) (l : Nat) (cs : List AV) : Prop := h[l]? = some (.cells 0 1 cs)
theorem Box.lt {l : Nat} {cs : List AV} (H : Box h l cs) : l < h.length := (List.getElem?_eq_some_iff.1 H).1
theorem Box.old {h' : Heap} {n l : Nat} {cs : List AV} (o : Old n h h') (H : Box h l cs) (hl : l < n) : Box h' l cs := (o.2 l hl).trans H
theorem Box.new {g : List AObj} {cs : List AV} : Box (h ++ [.cells 0 1 cs]) h.length cs := by simp [Box]
theorem wq_init {b n : Nat} {zs cs : List AV} (hb : b ≤ h.length) (hz : zs.length = n) (hc : cs.length = n) {K : Heap → Option R} (k : ∀ h', Old h.length h h' → Box h' h.length cs → h.length < h'.length → WP (K h') Q) : WP (storeK b n (h ++ [.cells 0 1 zs]) (.ptr h.length 0 0) (.agg cs) K) Q :=
  wp_init hb hz hc (k _ Old.app (by simp [Box]) (by simp))
theorem wq_ptr {l off : Nat} {cs : List AV} (hb : Box h l cs) {v : AV} (ho : cs[off]? = some v) {K : AV → Option R} (k : WP (K v) Q) : WP (readK1 h (.ptr l 0 off) 1 K) Q := wp_ptr1 hb ho k
theorem wq_ptrs {l off n : Nat} {cs : List AV} (hb : Box h l cs) (ho : off + n ≤ cs.length) {K : List AV → Option R} (k : WP (K ((cs.drop off).take n)) Q) : WP (readK h (.ptr l 0 off) n K) Q := wp_ptrs hb ho k
/-- A cell of a box is written. -/
theorem wq_put {b l off n : Nat} {cs vs : List AV} (hb : Box h l cs) (hl : b ≤ l) {x : AV} (hx : ∀ {R : Type} (K : List AV → Option R), cellsK x K = K vs) (hv : vs.length = n) (ho : off + n ≤ cs.length) {K : Heap → Option R}
    (k : ∀ h', h'.length = h.length → (∀ j, j ≠ l → h'[j]? = h[j]?) → Box h' l (layAt cs off vs) → WP (K h') Q) : WP (storeK b n h (.ptr l 0 off) x K) Q := by
  have hlt := hb.lt
  simp only [storeK, hx]
  rw [if_pos hl, if_pos hv]
  unfold blockK
  rw [hb]
  simp only [if_true]
  rw [if_pos ho]
  exact k _ (by simp) (fun j hj => List.getElem?_set_ne (fun e => hj e.symm)) (List.getElem?_set_self hlt)
/-- Many are appended. -/
theorem wp_pushAll {base f n0 bytes s m : Nat} {p : PT} {v : AV} {l l2 : List p.den} {ys : List AV} (H : AccP f n0 h p v l) (hy : ys.length = l2.length * p.sz)
    (hx : ∀ (i : Nat) (x : p.den), l2[i]? = some x → Holds (fun j => f ≤ j ∧ j < h.length ∧ v.blk ≠ some j) h p x ((ys.drop (i * p.sz)).take p.sz)) (hm : m = l2.length) (hs : s = p.sz) (hb : base ≤ n0) (hn : n0 ≤ h.length)
    (h1 : (l.length + l2.length) * bytes ≤ 140737488355328) (h2 : l.length + l2.length ≤ 140737488355328) {K : AV → Heap → Option R}
    (k : ∀ v' h', But v h h' → Old n0 h h' → AccP f n0 h' p v' (l ++ l2) → WP (K v' h') Q) : WP (appK base s bytes h v ys m K) Q := by
  subst hs hm
  obtain ⟨cs, a, e⟩ := H
  have hcl := a.len
  refine wp_app a hb hn hy h1 h2 fun v' h' but hv a' => k v' h' but (but.old a hn) ⟨cs ++ ys, by simpa using a', fun i y hi => ?_⟩
  have fr : ∀ j, (f ≤ j ∧ j < h.length ∧ v.blk ≠ some j) → (f ≤ j ∧ j < h'.length ∧ v'.blk ≠ some j) ∧ h'[j]? = h[j]? := fun j hj => ⟨⟨hj.1, Nat.lt_of_lt_of_le hj.2.1 but.1, fun eq => by
    rcases hv j eq with e1 | e1
    · exact hj.2.2 e1
    · omega⟩, but.2 j hj.2.1 hj.2.2⟩
  rcases Nat.lt_or_ge i l.length with hil | hil
  · rw [List.getElem?_append_left hil] at hi
    have hle : (i + 1) * p.sz ≤ l.length * p.sz := Nat.mul_le_mul_right _ hil
    rw [Nat.add_mul, Nat.one_mul] at hle
    rw [List.drop_append_of_le_length (by omega), List.take_append_of_le_length (by rw [List.length_drop]; omega)]
    exact (e i y hi).frame fr
  · rw [List.getElem?_append_right hil] at hi
    have e1 : (cs ++ ys).drop (i * p.sz) = ys.drop ((i - l.length) * p.sz) := by
      rw [List.drop_append, List.drop_of_length_le (by rw [hcl]; exact Nat.mul_le_mul_right _ hil), List.nil_append, hcl, ← Nat.sub_mul]
    rw [e1]
    exact (hx _ y hi).frame fr
theorem AccP.floor {f f' n0 : Nat} {p : PT} {v : AV} {l : List p.den} (H : AccP f n0 h p v l) (hf : f' ≤ f) : AccP f' n0 h p v l := by
  obtain ⟨cs, a, e⟩ := H
  exact ⟨cs, a, fun i x hi => (e i x hi).mono fun j hj => ⟨Nat.le_trans hf hj.1, hj.2⟩⟩
/-- All of an old slice are appended. -/
theorem wp_pushS {base n0 bytes s : Nat} {p : PT} {v w : AV} {l l2 : List p.den} {ds : List AV} (H : AccP 0 n0 h p v l) (hs2 : SliceAt S h w p.sz l2.length ds) (hc2 : ∀ (i : Nat) (x : p.den), l2[i]? = some x → Holds S h p x ((ds.drop (i * p.sz)).take p.sz)) (hS : ∀ j, S j → j < n0)
    (hs : s = p.sz) (hb : base ≤ n0) (hn : n0 ≤ h.length) (h1 : (l.length + l2.length) * bytes ≤ 140737488355328) (h2 : l.length + l2.length ≤ 140737488355328) {K : AV → Heap → Option R}
    (k : ∀ v' h', But v h h' → Old n0 h h' → AccP 0 n0 h' p v' (l ++ l2) → WP (K v' h') Q) : WP (appK base s bytes h v ds l2.length K) Q :=
  wp_pushAll H hs2.len (fun i x hi => (hc2 i x hi).mono fun j hj => ⟨Nat.zero_le _, Nat.lt_of_lt_of_le (hS j hj) hn, H.apart (hS j hj)⟩) rfl hs hb hn h1 h2 k
/-- What lies elsewhere than a slice of one's own. -/
theorem AccP.off {f n0 : Nat} {p : PT} {v : AV} {l : List p.den} (H : AccP f n0 h p v l) {q : PT} {x : q.den} {cs : List AV} (hx : Holds S h q x cs) (hS : ∀ j, S j → f ≤ j ∧ j < n0 ∧ j < h.length) : Holds (fun j => f ≤ j ∧ j < h.length ∧ v.blk ≠ some j) h q x cs :=
  hx.mono fun j hj => ⟨(hS j hj).1, (hS j hj).2.2, H.apart (hS j hj).2.1⟩
/-- A slice of one's own that is done. -/
theorem AccP.in {f n0 : Nat} {p : PT} {v : AV} {l : List p.den} (H : AccP f n0 h p v l) (hf : f ≤ n0) : In h (.slice p) l [v] := (H.holds hf).mono fun _ hj => hj.2
/-- One more; the block that it came in stays behind. -/
theorem wp_push1 {base f n0 bytes s : Nat} {o : AObj} {p : PT} {v : AV} {l : List p.den} {x : p.den} {ys : List AV} (H : AccP f n0 h p v l) (hx : Holds (fun j => f ≤ j ∧ j < h.length ∧ v.blk ≠ some j) h p x ys) (hs : s = p.sz) (hb : base ≤ n0) (hn : n0 ≤ h.length)
    (h1 : (l.length + 1) * bytes ≤ 140737488355328) (h2 : l.length + 1 ≤ 140737488355328) {K : AV → Heap → Option R}
    (k : ∀ v' h', Old n0 h h' → AccP f n0 h' p v' (l ++ [x]) → WP (K v' h') Q) : WP (appK base s bytes (h ++ [o]) v ys 1 K) Q := by
  refine wp_push (H.keep (h' := h ++ [o]) Old.app) (hx.frame fun j hj => ⟨⟨hj.1, by simp; omega, hj.2.2⟩, List.getElem?_append_left hj.2.1⟩) hs hb (by simp; omega) h1 h2 fun v' h' _ o' a' => k v' h' ((Old.app.mono hn).trans o') a'
theorem holds_int {n : Int} (hn : -9223372036854775808 ≤ n ∧ n ≤ 9223372036854775807) : Holds S h int n [.int .i64 n] := ⟨rfl, hn⟩
/-- One number more. -/
theorem wp_pushI {base f n0 : Nat} {o : AObj} {v : AV} {l : List Int} {x : Int} (H : AccP f n0 h int v l) (hx : -9223372036854775808 ≤ x ∧ x ≤ 9223372036854775807) (hb : base ≤ n0) (hn : n0 ≤ h.length) (hl : l.length ≤ 1000000000000) {K : AV → Heap → Option R}
    (k : ∀ v' h', Old n0 h h' → AccP f n0 h' int v' (l ++ [x]) → WP (K v' h') Q) : WP (appK base 1 8 (h ++ [o]) v [.int .i64 x] 1 K) Q :=
  wp_push1 (p := int) (x := x) H (holds_int hx) rfl hb hn (by simp only [PT.den] at *; omega) (by simp only [PT.den] at *; omega) k
theorem layAt_get {cs vs : List AV} {p : Nat} (h : p + vs.length ≤ cs.length) (j : Nat) : (layAt cs p vs)[j]? = if p ≤ j ∧ j < p + vs.length then vs[j - p]? else cs[j]? := by
  have hm : min p cs.length = p := Nat.min_eq_left (by omega)
  unfold layAt
  rw [List.append_assoc, List.getElem?_append, List.getElem?_append]
  simp only [List.length_take, hm, List.getElem?_take, List.getElem?_drop]
  by_cases h1 : j < p
  · rw [if_pos h1, if_pos h1, if_neg (by omega)]
  · by_cases h2 : j < p + vs.length
    · rw [if_neg h1, if_pos (by omega), if_pos ⟨by omega, h2⟩]
    · rw [if_neg h1, if_neg (by omega), if_neg (by omega)]
      congr 1
      omega
theorem layAt_part {cs vs : List AV} {a o s : Nat} (h : a + s ≤ cs.length) (ho : o + vs.length ≤ s) : ((layAt cs (a + o) vs).drop a).take s = layAt ((cs.drop a).take s) o vs := by
  apply List.ext_getElem?
  intro j
  rw [List.getElem?_take, layAt_get (by simp; omega), List.getElem?_take, List.getElem?_drop, List.getElem?_drop, layAt_get (by omega)]
  by_cases h1 : j < s
  · rw [if_pos h1, if_pos h1]
    by_cases h2 : o ≤ j ∧ j < o + vs.length
    · rw [if_pos (by omega), if_pos h2]
      congr 1
      omega
    · rw [if_neg (by omega), if_neg h2]
  · rw [if_neg h1, if_neg h1, if_neg (by omega)]
/-- A part of an element is written. -/
theorem wp_putf {base f n0 s m o : Nat} {p : PT} {v : AV} {l : List p.den} {x : p.den} {X : AV} {vs : List AV} (H : AccP f n0 h p v l) (hX : ∀ {R : Type} (K : List AV → Option R), cellsK X K = K vs) (hv : vs.length = m) (hs : s = p.sz) (ho : o + m ≤ p.sz) (hb : base ≤ n0) (hn : n0 ≤ h.length)
    {i : Nat} (hi : i < l.length) (hel : ∀ ys, ys.length = p.sz → Holds (fun j => f ≤ j ∧ j < h.length ∧ v.blk ≠ some j) h p l[i] ys → Holds (fun j => f ≤ j ∧ j < h.length ∧ v.blk ≠ some j) h p x (layAt ys o vs)) {K : Heap → Option R}
    (k : ∀ h', But v h h' → h'.length = h.length → Old n0 h h' → AccP f n0 h' p v (l.set i x) → WP (K h') Q) : WP (storeK base m h (addrOf v s i o) X K) Q := by
  subst hs
  obtain ⟨cs, a, e⟩ := H
  have hcl := a.len
  have hle : (i + 1) * p.sz ≤ l.length * p.sz := Nat.mul_le_mul_right _ hi
  rw [Nat.add_mul, Nat.one_mul] at hle
  refine wp_set a hb hi (by omega) hX hv fun h' but hl' a' => k h' but hl' (but.old a hn) ⟨_, by simpa using a', fun j y hj => ?_⟩
  have fr : ∀ j, (f ≤ j ∧ j < h.length ∧ v.blk ≠ some j) → (f ≤ j ∧ j < h'.length ∧ v.blk ≠ some j) ∧ h'[j]? = h[j]? := fun j hj => ⟨⟨hj.1, Nat.lt_of_lt_of_le hj.2.1 but.1, hj.2.2⟩, but.2 j hj.2.1 hj.2.2⟩
  by_cases hij : j = i
  · subst hij
    rw [List.getElem?_set_self hi] at hj
    cases hj
    rw [layAt_part (by omega) (by omega)]
    exact (hel _ (by simp; omega) (e j _ (List.getElem?_eq_getElem hi))).frame fr
  · rw [List.getElem?_set_ne (fun e => hij e.symm)] at hj
    have hjl := (List.getElem?_eq_some_iff.1 hj).1
    rcases Nat.lt_or_ge j i with h1 | h1
    · have : (j + 1) * p.sz ≤ i * p.sz := Nat.mul_le_mul_right _ h1
      rw [Nat.add_mul, Nat.one_mul] at this
      rw [layAt_before (by omega) (by omega)]
      exact (e j y hj).frame fr
    · have : (i + 1) * p.sz ≤ j * p.sz := Nat.mul_le_mul_right _ (by omega)
      rw [Nat.add_mul, Nat.one_mul] at this
      rw [layAt_behind (by omega) (by omega)]
      exact (e j y hj).frame fr
/-- Numbers in a block that stands there. -/
theorem holds_ref {k : Nat} {l : List Int} {n : Nat} (hb : h[k]? = some (.cells 0 1 (l.map (.int .i64)))) (hS : S k) (hn : n = l.length) (hl : l.length ≤ 140737488355328) (hr : ∀ x ∈ l, -9223372036854775808 ≤ x ∧ x ≤ 9223372036854775807) : Holds S h ints l [.ref k 0 0 n] := by
  subst hn
  refine ⟨_, l.map (.int .i64), rfl, ⟨hl, hS, rfl, by simp [PT.sz], _, hb, by simp [PT.sz], by simp only [PT.sz]; rw [List.drop_zero, List.take_of_length_le (by simp)]⟩, fun i x hi => ?_⟩
  obtain ⟨hil, rfl⟩ := List.getElem?_eq_some_iff.1 hi
  simp only [PT.sz]
  rw [take1_drop (by simpa using hil)]
  exact ⟨by simp, hr _ (List.getElem_mem hil)⟩
@[simp] theorem sliceK_new2 {a : AObj} {s n : Nat} {cs : List AV} (K : List AV → Option R) : sliceK (h ++ [a, .cells 0 s cs]) s (.ref (h.length + 1) 0 0 n) K = if n * s ≤ cs.length then K (cs.take (n * s)) else none := by
  simp [sliceK, blockK]
@[simp] theorem sliceK_new3 {a b : AObj} {s n : Nat} {cs : List AV} (K : List AV → Option R) : sliceK (h ++ [a, b, .cells 0 s cs]) s (.ref (h.length + 2) 0 0 n) K = if n * s ≤ cs.length then K (cs.take (n * s)) else none := by
  simp [sliceK, blockK]
@[simp] theorem sliceK_new4 {a b c : AObj} {s n : Nat} {cs : List AV} (K : List AV → Option R) : sliceK (h ++ [a, b, c, .cells 0 s cs]) s (.ref (h.length + 3) 0 0 n) K = if n * s ≤ cs.length then K (cs.take (n * s)) else none := by
  simp [sliceK, blockK]
theorem cells_one {v : AV} (H : v.one = true) {R : Type} (K : List AV → Option R) : cellsK v K = K [v] := by
  cases v <;> first | rfl | cases H
theorem in_nil {p : PT} : Holds S h (.slice p) [] [.nil] := ⟨.nil, [], rfl, ⟨Nat.zero_le _, rfl, rfl⟩, fun i x hi => by simp at hi⟩
theorem holds_le {e : PT} {l : List e.den} {v : AV} (H : Holds S h (.slice e) l [v]) : l.length ≤ 140737488355328 := by
  obtain ⟨_, hs, _⟩ := H.elem
  exact hs.1
theorem holds_range {l : List Int} {v : AV} (H : Holds S h ints l [v]) {i : Nat} (hi : i < l.length) : -9223372036854775808 ≤ l[i] ∧ l[i] ≤ 9223372036854775807 := by
  obtain ⟨_, _, _, hr, _⟩ := H.ints
  exact hr _ (List.getElem_mem hi)
theorem wq_cells {p : PT} {l : List p.den} {v : AV} (H : Holds S h (.slice p) l [v]) {K : List AV → Option R} (k : WP (K [v]) Q) : WP (cellsK v K) Q := wp_cells H.one1 k
theorem wq_isnil {p : PT} {l : List p.den} {v : AV} (H : Holds S h (.slice p) l [v]) {K : AV → Option R} (k : ∀ b : Bool, (b = true → l = []) → WP (K (.bool b)) Q) : WP (binK .eql 2 v .nil K) Q := by
  obtain ⟨_, hs, _⟩ := H.elem
  exact wp_isnil hs fun b hb => k b fun e => List.length_eq_zero_iff.1 (hb e)
end
end Go.AM

/- Leaves. -/
namespace Go.AM
set_option maxRecDepth 20000
set_option maxHeartbeats 400000
/-- Where nodes of a kind are, up to a place. -/
def ofKind (l : List node.den) (k : Int) : Nat → List Int
  | 0 => []
  | i + 1 => ofKind l k i ++ (match l[i]? with | some x => if x.2.1 = k then [(i : Int)] else [] | none => [])
theorem ofKind_len (l : List node.den) (k : Int) : ∀ i, (ofKind l k i).length ≤ i
  | 0 => Nat.le_refl _
  | i + 1 => by
      have := ofKind_len l k i
      rw [ofKind, List.length_append]
      split
      · split <;> simp <;> omega
      · simp; omega
/-- Inputs, then parameters. -/
def ends (l : List node.den) : List Int := ofKind l 1 l.length ++ ofKind l 2 l.length
def endsAt (l : List node.den) : Nat → List Int
  | 0 => []
  | 1 => ofKind l 1 l.length
  | _ => ends l
section
variable {h : Heap}
theorem graph_Ends {vl : AV} {l : List node.den} (hl : In h nodes l [vl]) (hlen : l.length ≤ 1000000) (b : Nat) (hb : b ≤ h.length) :
    WP (call prog b 69 [vl] h) fun r => Old h.length h r.2 ∧ AccP h.length h.length r.2 int r.1 (ends l) := by
  obtain ⟨dl, sl, cl, bl⟩ := hl.nodes
  refine wp_enter (fn := C.graph_Ends) rfl ?_
  dsimp only [bodyN, C.graph_Ends, C.graph_Ends_l1]; simp [layAt]
  generalize hh : h ++ [AObj.cells 0 1 [AV.int IntKind.i64 1, AV.int IntKind.i64 2]] = h1
  have o1 : Old h.length h h1 := hh ▸ Old.app
  have hnew := AccP.newInts (h := h) (l := [1, 2]) (by simp) (by intro x hx; simp at hx; omega)
  have hk : In h1 ints [1, 2] [.ref h.length 0 0 2] := hh ▸ (hnew.holds (Nat.le_refl _)).mono fun j hj => hj.2
  obtain ⟨dk, sk, ck, _, _⟩ := hk.ints
  have sl1 := sl.old o1 (Nat.le_refl _)
  refine wp_loop (I := fun m e h' => Old h1.length h1 h' ∧ ∃ j v, e = (ea 0 vl <| ea 2 v <| ea 7 (.ref h.length 0 0 2) <| ea 8 (.int .i64 2) <| ea 9 (.int .i64 (j : Nat)) e0) ∧ j + m = 2 ∧ AccP h1.length h1.length h' int v (endsAt l j)) ?_ ⟨Old.refl (Nat.le_refl _), 0, .nil, rfl, Nat.zero_add _, AccP.nil⟩
  rintro N m e h' ⟨old, j, v, rfl, hjm, acc⟩ next
  have o2 := o1.trans (old.mono o1.1)
  dsimp only [C.graph_Ends_b1, C.graph_Ends_l0]; simp
  refine wp_dec (fun hj => ?_) fun hj => ?_
  · try simp
    have hj2 : j < [(1 : Int), 2].length := by simp; omega
    have sk' := sk.old old (Nat.le_refl _)
    refine wp_idx sk' rfl hj2 ?_
    try simp
    refine wp_cell sk' hj2 (ck j hj2) rfl ?_
    try simp
    have sl2 := sl.old o2 (Nat.le_refl _)
    refine wp_len sl2 ?_
    try simp
    generalize hkk : [(1 : Int), 2][j] = kk
    have hsum : endsAt l (j + 1) = endsAt l j ++ ofKind l kk l.length := by
      have : j = 0 ∨ j = 1 := by omega
      rcases this with rfl | rfl <;> (simp at hkk; subst hkk; simp [endsAt, ends])
    have hel : (endsAt l j).length ≤ 1000000 := by
      have : j = 0 ∨ j = 1 := by omega
      rcases this with rfl | rfl
      · simp [endsAt]
      · have := ofKind_len l 1 l.length
        simp only [endsAt]
        omega
    refine wp_loop (I := fun m2 e h2 => Old h1.length h1 h2 ∧ ∃ i v', e = (ea 0 vl <| ea 2 v' <| ea 4 (.int .i64 kk) <| ea 7 (.ref h.length 0 0 2) <| ea 8 (.int .i64 2) <| ea 9 (.int .i64 (j : Nat)) <| ea 13 vl <| ea 14 (.int .i64 l.length) <| ea 15 (.int .i64 (i : Nat)) e0) ∧ i + m2 = l.length ∧ AccP h1.length h1.length h2 int v' (endsAt l j ++ ofKind l kk i)) ?_ ⟨old, 0, v, rfl, Nat.zero_add _, by simpa [ofKind] using acc⟩
    rintro N2 m2 e h2 ⟨old2, i, v', rfl, him, acc2⟩ next2
    have o3 := o1.trans (old2.mono o1.1)
    have sl3 := sl.old o3 (Nat.le_refl _)
    dsimp only [C.graph_Ends_b0]; simp [layAt]
    refine wp_dec (fun hi => ?_) fun hi => ?_
    · try simp
      obtain ⟨a, d, e, ha, hd, hn⟩ := cl i hi
      refine wp_idx sl3 rfl hi ?_
      try simp
      refine wp_elem sl3 hi e ?_
      try simp
      refine wp_init (Nat.le_trans hb o3.1) (by rfl) (by rfl) ?_
      try simp
      generalize hh3 : h2 ++ [AObj.cells 0 1 [AV.str l[i].fst, AV.int IntKind.i64 l[i].snd.fst, a, d, AV.int IntKind.i64 l[i].snd.snd.snd.snd]] = h3
      have o23 : Old h2.length h2 h3 := hh3 ▸ Old.app
      have hbx : h3[h2.length]? = some (.cells 0 1 [AV.str l[i].fst, AV.int IntKind.i64 l[i].snd.fst, a, d, AV.int IntKind.i64 l[i].snd.snd.snd.snd]) := by rw [← hh3]; simp
      have old3 := old2.trans (o23.mono old2.1)
      have acc3 := acc2.keep o23
      have hil := ofKind_len l kk i
      refine wp_ptr1 hbx rfl ?_
      try simp
      refine wp_dec (fun hq => ?_) fun hq => ?_
      · simp [layAt]
        refine wp_pushI acc3 (by omega) (Nat.le_trans hb o1.1) old3.1 (by rw [List.length_append]; omega) fun v4 h4 o4 acc4 => ?_
        try simp
        rw [succ64 hi bl]
        refine next2 (m2 - 1) _ _ (by omega) ⟨old3.trans o4, i + 1, _, rfl, by omega, ?_⟩
        rw [ofKind, List.getElem?_eq_getElem hi, ← List.append_assoc]
        simpa [hq] using acc4
      · try simp
        rw [succ64 hi bl]
        refine next2 (m2 - 1) _ _ (by omega) ⟨old3, i + 1, _, rfl, by omega, ?_⟩
        rw [ofKind, List.getElem?_eq_getElem hi]
        simpa [hq] using acc3
    · try simp
      rw [succ64 (n := 2) (by omega) (by omega)]
      have : i = l.length := by omega
      subst this
      exact next (m - 1) _ _ (by omega) ⟨old2, j + 1, _, rfl, by omega, by rw [hsum]; exact acc2⟩
  · try simp
    have : j = 2 := by omega
    subst this
    exact wp_some ⟨o2, acc.mono o1.1 o1.1⟩
end
end Go.AM

/- Leaves, uses; copies. -/
namespace Go.AM
set_option maxRecDepth 20000
set_option maxHeartbeats 1000000
/-- Which nodes up to a place are made of one. -/
def usesUp (l : List node.den) (a : Int) : Nat → List Int
  | 0 => []
  | i + 1 => usesUp l a i ++ (match l[i]? with | some x => if a ∈ x.2.2.1 then [(i : Int)] else [] | none => [])
theorem usesUp_len (l : List node.den) (a : Int) : ∀ i, (usesUp l a i).length ≤ i
  | 0 => Nat.le_refl _
  | i + 1 => by
      have := usesUp_len l a i
      rw [usesUp, List.length_append]
      split
      · split <;> simp <;> omega
      · simp; omega
section
variable {h : Heap}
theorem graph_Leaves {vl : AV} {l : List node.den} (hl : In h nodes l [vl]) (hsm : Small l) (b : Nat) (hb : b ≤ h.length) :
    WP (call prog b 13 [vl] h) fun r => Old h.length h r.2 ∧ ∃ v, r.1 = .tup [v, .int .i64 (if isL l = true then 0 else 1)] ∧ AccP h.length h.length r.2 int v (if isL l = true then ends l else []) := by
  refine wp_enter (fn := C.graph_Leaves) rfl ?_
  dsimp only [bodyN, C.graph_Leaves]; simp
  refine wp_call (graph_Is hl hsm b hb) fun v3 h3 ⟨o3, e3⟩ => ?_
  simp only at o3 e3
  subst e3
  try simp
  refine wp_iteK (fun hm => ?_) fun hm => ?_
  · try simp
    simp only [Bool.not_eq_true'] at hm
    exact wp_some ⟨o3, .nil, by simp [hm], by simp [hm]; exact AccP.nil⟩
  · try simp
    simp only [Bool.not_eq_false'] at hm
    have hlen : l.length ≤ 24 := by
      simp only [isL, Bool.and_eq_true, decide_eq_true_eq] at hm
      omega
    refine wp_call (graph_Ends (In.old o3 hl) (by omega) b (Nat.le_trans hb o3.1)) fun v4 h4 ⟨o4, a4⟩ => ?_
    simp only at o4 a4
    try simp
    exact wp_some ⟨o3.trans (o4.mono o3.1), v4, by simp [hm], by simpa [hm] using a4.mono o3.1 o3.1⟩
theorem graph_Uses {vl : AV} {l : List node.den} (hl : In h nodes l [vl]) (hsm : Small l) {a : Int} (b : Nat) (hb : b ≤ h.length) :
    WP (call prog b 15 [vl, .int .i64 a] h) fun r => Old h.length h r.2 ∧ ∃ v, r.1 = .tup [v, .int .i64 (if mayL l = true then (if 0 ≤ a ∧ a < (l.length : Int) then 0 else 3) else 1)] ∧ AccP h.length h.length r.2 int v (if mayL l = true ∧ 0 ≤ a ∧ a < (l.length : Int) then usesUp l a l.length else []) := by
  refine wp_enter (fn := C.graph_Uses) rfl ?_
  dsimp only [bodyN, C.graph_Uses, C.graph_Uses_l0]; simp
  refine wp_call (graph_May hl hsm b hb) fun v3 h3 ⟨o3, e3⟩ => ?_
  simp only at o3 e3
  subst e3
  try simp
  refine wp_iteK (fun hm => ?_) fun hm => ?_
  · try simp
    simp only [Bool.not_eq_true'] at hm
    exact wp_some ⟨o3, .nil, by simp [hm], by simp [hm]; exact AccP.nil⟩
  try simp
  simp only [Bool.not_eq_false'] at hm
  have hl3 := In.old o3 hl
  refine wp_dec (fun h1 => ?_) fun h1 => ?_
  · try simp
    exact wp_some ⟨o3, .nil, by rw [if_pos hm, if_neg (by omega)], by rw [if_neg (by omega)]; exact AccP.nil⟩
  try simp
  repeat ((first | refine wq_len (by assumption) ?_ | refine wq_idx (by assumption) (by rfl) (by omega) (by omega) ?_ | refine wq_int (by assumption) (by omega) ?_ | refine wq_kind (by assumption) (by omega) ?_ | refine wq_num (by assumption) (by omega) ?_ | refine wq_name (by assumption) (by omega) ?_ | refine wq_ptr (by assumption) rfl ?_ | refine wp_new1 rfl ?_ | refine wq_from (by assumption) (by omega) ?_ | refine wq_to (by assumption) (by omega) ?_ | refine wq_size (by assumption) (by omega) ?_ | refine wq_life (by assumption) (by omega) ?_ | refine wp_guard (by omega) ?_ | refine wq_cells (by assumption) ?_); (try simp))
  refine wp_dec (fun h2 => ?_) fun h2 => ?_
  · try simp
    exact wp_some ⟨o3, .nil, by rw [if_pos hm, if_neg (by omega)], by rw [if_neg (by omega)]; exact AccP.nil⟩
  try simp
  repeat ((first | refine wq_len (by assumption) ?_ | refine wq_idx (by assumption) (by rfl) (by omega) (by omega) ?_ | refine wq_int (by assumption) (by omega) ?_ | refine wq_kind (by assumption) (by omega) ?_ | refine wq_num (by assumption) (by omega) ?_ | refine wq_name (by assumption) (by omega) ?_ | refine wq_ptr (by assumption) rfl ?_ | refine wp_new1 rfl ?_ | refine wq_from (by assumption) (by omega) ?_ | refine wq_to (by assumption) (by omega) ?_ | refine wq_size (by assumption) (by omega) ?_ | refine wq_life (by assumption) (by omega) ?_ | refine wp_guard (by omega) ?_ | refine wq_cells (by assumption) ?_); (try simp))
  have hlen : l.length ≤ 240 := by
    simp only [mayL, Bool.and_eq_true, decide_eq_true_eq] at hm
    omega
  refine wp_loop (I := fun m e h' => Old h3.length h3 h' ∧ ∃ i v, e = (ea 1 (.int .i64 a) <| ea 6 v <| ea 22 vl <| ea 23 (.int .i64 l.length) <| ea 24 (.int .i64 (i : Nat)) e0) ∧ i + m = l.length ∧ AccP h3.length h3.length h' int v (usesUp l a i)) ?_ ⟨Old.refl (Nat.le_refl _), 0, .nil, rfl, Nat.zero_add _, AccP.nil⟩
  rintro N m e h' ⟨old, i, v, rfl, him, acc⟩ next
  have hl' := In.old old hl3
  have ho := old.1
  have ho3 := o3.1
  dsimp only [C.graph_Uses_b0]; simp
  refine wp_dec (fun hi => ?_) fun hi => ?_
  · try simp
    repeat ((first | refine wq_len (by assumption) ?_ | refine wq_idx (by assumption) (by rfl) (by omega) (by omega) ?_ | refine wq_int (by assumption) (by omega) ?_ | refine wq_kind (by assumption) (by omega) ?_ | refine wq_num (by assumption) (by omega) ?_ | refine wq_name (by assumption) (by omega) ?_ | refine wq_ptr (by assumption) rfl ?_ | refine wp_new1 rfl ?_ | refine wq_from (by assumption) (by omega) ?_ | refine wq_to (by assumption) (by omega) ?_ | refine wq_size (by assumption) (by omega) ?_ | refine wq_life (by assumption) (by omega) ?_ | refine wp_guard (by omega) ?_ | refine wq_cells (by assumption) ?_); (try simp))
    refine wq_node hl' (by omega) fun va vd ha hd hn => ?_
    try simp
    refine wq_init (by omega) (by rfl) (by rfl) fun h4 o4 b4 lt4 => ?_
    try simp
    repeat ((first | refine wq_len (by assumption) ?_ | refine wq_idx (by assumption) (by rfl) (by omega) (by omega) ?_ | refine wq_int (by assumption) (by omega) ?_ | refine wq_kind (by assumption) (by omega) ?_ | refine wq_num (by assumption) (by omega) ?_ | refine wq_name (by assumption) (by omega) ?_ | refine wq_ptr (by assumption) rfl ?_ | refine wp_new1 rfl ?_ | refine wq_from (by assumption) (by omega) ?_ | refine wq_to (by assumption) (by omega) ?_ | refine wq_size (by assumption) (by omega) ?_ | refine wq_life (by assumption) (by omega) ?_ | refine wp_guard (by omega) ?_ | refine wq_cells (by assumption) ?_); (try simp))
    rw [callK_eq (slices_Contains_int (In.old o4 ha) a _)]
    try simp
    have old4 := old.trans (o4.mono ho)
    have acc4 := acc.keep o4
    have hul := usesUp_len l a i
    refine wp_dec (fun hq => ?_) fun hq => ?_
    · simp [layAt]
      refine wp_pushI acc4 (by omega) (by omega) old4.1 (by omega) fun v5 h5 o5 acc5 => ?_
      try simp
      rw [succ64 hi (by omega)]
      refine next (m - 1) _ _ (by omega) ⟨old4.trans o5, i + 1, _, rfl, by omega, ?_⟩
      rw [usesUp, List.getElem?_eq_getElem hi]
      simpa [hq] using acc5
    · try simp
      rw [succ64 hi (by omega)]
      refine next (m - 1) _ _ (by omega) ⟨old4, i + 1, _, rfl, by omega, ?_⟩
      rw [usesUp, List.getElem?_eq_getElem hi]
      simpa [hq] using acc4
  · try simp
    have : i = l.length := by omega
    subst this
    exact wp_some ⟨o3.trans (old.mono ho3), v, by rw [if_pos hm, if_pos (by omega)], by rw [if_pos ⟨hm, by omega⟩]; exact acc.mono ho3 ho3⟩
end
end Go.AM

/- Small graphs made here; what may be, of parts. -/
namespace Go.AM
set_option maxRecDepth 20000
set_option maxHeartbeats 1000000
section
variable {h : Heap}
/-- Cells, one behind another. -/
def InAll (h : Heap) (p : PT) : List p.den → List AV → Prop
  | [], cs => cs = []
  | x :: l, cs => ∃ c1 c2, cs = c1 ++ c2 ∧ In h p x c1 ∧ InAll h p l c2
theorem InAll.len {p : PT} : ∀ {l : List p.den} {cs : List AV}, InAll h p l cs → cs.length = l.length * p.sz
  | [], cs, H => by simp [InAll] at H; simp [H]
  | x :: l, cs, ⟨c1, c2, e, h1, h2⟩ => by rw [e, List.length_append, h1.len, h2.len, List.length_cons, Nat.add_mul]; omega
theorem InAll.get {p : PT} : ∀ {l : List p.den} {cs : List AV}, InAll h p l cs → ∀ (i : Nat) (x : p.den), l[i]? = some x → In h p x ((cs.drop (i * p.sz)).take p.sz)
  | [], _, _, i, x, hi => by simp at hi
  | y :: l, cs, ⟨c1, c2, e, h1, h2⟩, 0, x, hi => by
      simp at hi
      subst hi e
      rw [Nat.zero_mul, List.drop_zero, ← h1.len, List.take_left]
      exact h1
  | y :: l, cs, ⟨c1, c2, e, h1, h2⟩, i + 1, x, hi => by
      simp at hi
      subst e
      rw [Nat.add_mul, Nat.one_mul, Nat.add_comm, ← List.drop_drop, ← h1.len, List.drop_left, h1.len]
      exact h2.get i x hi
/-- A new slice. -/
theorem accp_new {p : PT} {l : List p.den} {cs : List AV} (H : InAll h p l cs) (hb : l.length ≤ 140737488355328) {s n : Nat} (hs : s = p.sz) (hn : n = l.length) : AccP 0 h.length (h ++ [.cells 0 s cs]) p (.ref h.length 0 0 n) l := by
  subst hs hn
  refine ⟨cs, Acc.new (Nat.le_refl _) H.len hb, fun i x hi => (H.get i x hi).frame fun j hj => ⟨⟨Nat.zero_le _, by simp; omega, fun e => ?_⟩, List.getElem?_append_left hj⟩⟩
  cases e
  omega
theorem in_new {p : PT} {l : List p.den} {cs : List AV} (H : InAll h p l cs) (hb : l.length ≤ 140737488355328) {s n : Nat} (hs : s = p.sz) (hn : n = l.length) : In (h ++ [.cells 0 s cs]) (.slice p) l [.ref h.length 0 0 n] :=
  (accp_new H hb hs hn).in (Nat.zero_le _)
theorem in_node {x : node.den} {a d : AV} (ha : In h ints x.2.2.1 [a]) (hd : In h ints x.2.2.2.1 [d]) (hk : -9223372036854775808 ≤ x.2.1 ∧ x.2.1 ≤ 9223372036854775807) (hn : -9223372036854775808 ≤ x.2.2.2.2 ∧ x.2.2.2.2 ≤ 9223372036854775807) (hs : x.1.size ≤ 140737488355328) : In h node x [.str x.1, .int .i64 x.2.1, a, d, .int .i64 x.2.2.2.2] :=
  ⟨[.str x.1], _, rfl, ⟨rfl, hs⟩, [.int .i64 x.2.1], _, rfl, ⟨rfl, hk⟩, [a], _, rfl, ha, [d], _, rfl, hd, rfl, hn⟩
theorem in_ints {l : List Int} (hl : l.length ≤ 140737488355328) (hr : ∀ x ∈ l, -9223372036854775808 ≤ x ∧ x ≤ 9223372036854775807) : In (h ++ [.cells 0 1 (l.map (.int .i64))]) ints l [.ref h.length 0 0 l.length] := (AccP.newInts hl hr).in (Nat.le_refl _)
theorem graph_Nodes {vl : AV} {l : List node.den} (hl : In h nodes l [vl]) (hsm : Small l) (b : Nat) (hb : b ≤ h.length) :
    WP (call prog b 11 [vl] h) fun r => Old h.length h r.2 ∧ r.1 = .int .i64 (if mayL l = true then 0 else 1) := by
  refine wp_enter (fn := C.graph_Nodes) rfl ?_
  dsimp only [bodyN, C.graph_Nodes]; simp
  refine wp_call (graph_May hl hsm b hb) fun v3 h3 ⟨o3, e3⟩ => ?_
  simp only at o3 e3
  subst e3
  try simp
  refine wp_iteK (fun hm => ?_) fun hm => ?_
  · try simp
    simp only [Bool.not_eq_true'] at hm
    exact wp_some ⟨o3, by simp [hm]⟩
  · try simp
    simp only [Bool.not_eq_false'] at hm
    exact wp_some ⟨o3, by simp [hm]⟩
/-- The graph that each law of graphs wakes with. -/
def wake8 : List node.den := [(bs [97], 3, [], [1], 5)]
theorem wake8_is : isL wake8 = true := by decide +kernel
theorem small1 {x : node.den} (h1 : x.2.2.1.length * 24 ≤ 140737488355328) (h2 : x.2.2.2.1.length * 24 ≤ 140737488355328) : Small [x] := fun y hy => by
  simp at hy
  subst hy
  exact ⟨h1, h2⟩
theorem law8_wakes (b : Nat) (hb : b ≤ h.length) : WP (call prog b 7 [] h) fun r => Old h.length h r.2 ∧ r.1 = .bool true := by
  refine wp_enter (fn := C.law8_wakes) rfl ?_
  dsimp only [bodyN, C.law8_wakes]; simp [layAt]
  have H1 := in_ints (h := h) (l := [1]) (by simp) (by simp)
  have H2 := in_new (s := 5) (n := 1) (l := wake8) (p := node) ⟨_, [], (List.append_nil _).symm, in_node (x := (bs [97], 3, [], [1], 5)) in_nil H1 (by simp) (by simp) (by decide), rfl⟩ (by simp [wake8]) (by rfl) (by simp [wake8])
  simp at H2
  have o1 : Old h.length h (h ++ [AObj.cells 0 1 [AV.int IntKind.i64 1], AObj.cells 0 5 [AV.str (bs [97]), AV.int IntKind.i64 3, AV.nil, AV.ref h.length 0 0 1, AV.int IntKind.i64 5]]) := Old.app
  generalize hh : h ++ [AObj.cells 0 1 [AV.int IntKind.i64 1], AObj.cells 0 5 [AV.str (bs [97]), AV.int IntKind.i64 3, AV.nil, AV.ref h.length 0 0 1, AV.int IntKind.i64 5]] = h1 at *
  have hsm : Small wake8 := small1 (by simp) (by simp)
  refine wp_call (graph_Leaves H2 hsm b (Nat.le_trans hb o1.1)) fun v3 h3 ⟨o3, v3', e3, a3⟩ => ?_
  simp only [wake8_is, if_true] at o3 e3 a3
  subst e3
  try simp
  have o13 := o1.trans (o3.mono o1.1)
  refine wp_call (graph_Check (In.old o3 H2) hsm b (Nat.le_trans hb o13.1)) fun v4 h4 ⟨o4, e4⟩ => ?_
  simp only [wake8_is, if_true] at o4 e4
  subst e4
  try simp
  have o14 := o13.trans (o4.mono o13.1)
  have a3' : In h3 ints _ [v3'] := a3.in (Nat.le_refl _)
  refine wq_len a3' ?_
  try simp
  have e0 : (ends wake8).length = 0 := by decide +kernel
  try simp [e0]
  refine wp_call (graph_Check (l := []) in_nil (fun x hx => by simp at hx) b (Nat.le_trans hb o14.1)) fun v5 h5 ⟨o5, e5⟩ => ?_
  simp only at o5 e5
  have e6 : isL [] = false := by decide +kernel
  simp [e6] at e5
  subst e5
  try simp
  exact wp_some ⟨o14.trans (o5.mono o14.1), rfl⟩
end
/-! What holds of each node of what may be. -/
theorem allOk_at {l : List node.den} : ∀ {n : Nat}, allOk l n = true → ∀ {i : Nat} (hi : i < l.length), i < n → nodeOk (l.take i) l[i] = true
  | 0, _, _, _, hn => by omega
  | n + 1, H, i, hi, hn => by
      rw [allOk, Bool.and_eq_true] at H
      rcases Nat.eq_or_lt_of_le (Nat.le_of_lt_succ hn) with e | e
      · subst e
        have := H.2
        rw [List.getElem?_eq_getElem hi] at this
        exact this
      · exact allOk_at H.1 hi e
theorem mayL_at {l : List node.den} (H : mayL l = true) {i : Nat} (hi : i < l.length) : nodeOk (l.take i) l[i] = true := by
  rw [mayL, Bool.and_eq_true] at H
  exact allOk_at H.2 hi hi
theorem allOk_take {l : List node.den} {k : Nat} (hk : k ≤ l.length) : ∀ {n : Nat}, n ≤ k → allOk (l.take k) n = allOk l n
  | 0, _ => rfl
  | n + 1, hn => by
      rw [allOk, allOk, allOk_take hk (by omega), List.getElem?_take, if_pos (by omega), List.take_take, Nat.min_eq_left (by omega)]
theorem allOk_le {l : List node.den} {n m : Nat} (h : allOk l n = true) (hm : m ≤ n) : allOk l m = true := by
  cases e : allOk l m with
  | true => rfl
  | false => rw [allOk_false e hm] at h; cases h
theorem mayL_take {l : List node.den} (H : mayL l = true) (k : Nat) : mayL (l.take k) = true := by
  rcases Nat.lt_or_ge l.length k with hk | hk
  · rw [List.take_of_length_le (by omega)]
    exact H
  · rw [mayL, Bool.and_eq_true, decide_eq_true_eq] at H ⊢
    have e : (l.take k).length = k := by simp; omega
    rw [e, allOk_take hk (Nat.le_refl _)]
    exact ⟨by omega, allOk_le H.2 hk⟩
theorem nodeOk_parts {l : List node.den} {x : node.den} (H : nodeOk l x = true) : argsOk l.length x.2.2.1 = true ∧ formOk x.2.1 x.2.2.2.2 (if asked x.2.1 = true then x.2.2.2.1 else []) (x.2.2.1.map (dimsAt l)) = true ∧ inferD x.2.1 x.2.2.2.2 (if asked x.2.1 = true then x.2.2.2.1 else []) (x.2.2.1.map (dimsAt l)) = some x.2.2.2.1 := by
  rw [nodeOk, decide_eq_true_eq, inferL] at H
  generalize (if asked x.2.1 = true then x.2.2.2.1 else []) = d at *
  split at H
  · rename_i h1
    rw [inferE] at H
    split at H
    · rename_i h2
      refine ⟨h1, h2, ?_⟩
      split at H
      · rename_i x hx
        rw [hx]
        exact congrArg some (congrArg Prod.fst H)
      · have := congrArg Prod.snd H
        simp at this
    · have := congrArg Prod.snd H
      simp at this
  · have := congrArg Prod.snd H
    simp at this
theorem formOk_many {k n : Int} {d : List Int} {ls : List (List Int)} (H : formOk k n d ls = true) : (ls.length : Int) = many k := by
  simp only [formOk, Bool.and_eq_true, decide_eq_true_eq] at H
  exact H.1.1.1.2
theorem formOk_kind {k n : Int} {d : List Int} {ls : List (List Int)} (H : formOk k n d ls = true) : 1 ≤ k ∧ k ≤ 17 := by
  simp only [formOk, Bool.and_eq_true, decide_eq_true_eq] at H
  exact H.1.1.1.1
theorem argsOk_at {n : Nat} {args : List Int} (H : argsOk n args = true) {a : Int} (ha : a ∈ args) : 0 ≤ a ∧ a < (n : Int) := by
  rw [argsOk, List.all_eq_true] at H
  simpa using H a ha
theorem mem_ofKind {l : List node.den} {k : Int} : ∀ {n : Nat} {x : Int}, x ∈ ofKind l k n → ∃ (i : Nat) (hi : i < l.length), x = (i : Int) ∧ l[i].2.1 = k ∧ i < n
  | 0, x, hx => by simp [ofKind] at hx
  | n + 1, x, hx => by
      rw [ofKind, List.mem_append] at hx
      rcases hx with hx | hx
      · obtain ⟨i, hi, e, ek, hn⟩ := mem_ofKind hx
        exact ⟨i, hi, e, ek, by omega⟩
      · rcases Nat.lt_or_ge n l.length with hn | hn
        · rw [List.getElem?_eq_getElem hn] at hx
          simp only at hx
          split at hx
          · simp at hx
            exact ⟨n, hn, hx, by assumption, by omega⟩
          · simp at hx
        · rw [List.getElem?_eq_none (by omega)] at hx
          simp at hx
theorem mem_ends {l : List node.den} {x : Int} (hx : x ∈ ends l) : ∃ (i : Nat) (hi : i < l.length), x = (i : Int) ∧ (l[i].2.1 = 1 ∨ l[i].2.1 = 2) := by
  rw [ends, List.mem_append] at hx
  rcases hx with hx | hx
  · obtain ⟨i, hi, e, ek, _⟩ := mem_ofKind hx
    exact ⟨i, hi, e, .inl ek⟩
  · obtain ⟨i, hi, e, ek, _⟩ := mem_ofKind hx
    exact ⟨i, hi, e, .inr ek⟩
theorem mem_ends' {l : List node.den} {x : Int} (hx : x ∈ ends l) : 0 ≤ x ∧ x < (l.length : Int) ∧ ∃ hi : x.toNat < l.length, l[x.toNat].2.1 = 1 ∨ l[x.toNat].2.1 = 2 := by
  obtain ⟨i, hi, rfl, ek⟩ := mem_ends hx
  exact ⟨by omega, by omega, hi, ek⟩
theorem mem_usesUp {l : List node.den} {a : Int} : ∀ {n : Nat} {x : Int}, x ∈ usesUp l a n → ∃ (i : Nat) (hi : i < l.length), x = (i : Int) ∧ a ∈ l[i].2.2.1 ∧ i < n
  | 0, x, hx => by simp [usesUp] at hx
  | n + 1, x, hx => by
      rw [usesUp, List.mem_append] at hx
      rcases hx with hx | hx
      · obtain ⟨i, hi, e, ek, hn⟩ := mem_usesUp hx
        exact ⟨i, hi, e, ek, by omega⟩
      · rcases Nat.lt_or_ge n l.length with hn | hn
        · rw [List.getElem?_eq_getElem hn] at hx
          simp only at hx
          split at hx
          · simp at hx
            exact ⟨n, hn, hx, by assumption, by omega⟩
          · simp at hx
        · rw [List.getElem?_eq_none (by omega)] at hx
          simp at hx
theorem mem_usesUp' {l : List node.den} {a : Int} {n : Nat} {x : Int} (hx : x ∈ usesUp l a n) : 0 ≤ x ∧ x < (l.length : Int) ∧ x < (n : Int) ∧ ∃ hi : x.toNat < l.length, a ∈ l[x.toNat].2.2.1 := by
  obtain ⟨i, hi, rfl, ek, hn⟩ := mem_usesUp hx
  exact ⟨by omega, by omega, by omega, hi, ek⟩
theorem isL_may {l : List node.den} (H : isL l = true) : mayL l = true := by
  simp only [isL, Bool.and_eq_true] at H
  exact H.1.1.1.2
theorem ends_noargs {l : List node.den} (H : mayL l = true) {i : Nat} (hi : i < l.length) (hk : l[i].2.1 = 1 ∨ l[i].2.1 = 2) : l[i].2.2.1 = [] := by
  obtain ⟨_, h2, _⟩ := nodeOk_parts (mayL_at H hi)
  have := formOk_many h2
  rw [List.length_map] at this
  have h0 : many l[i].2.1 = 0 := by rcases hk with e | e <;> rw [e] <;> rfl
  rw [h0] at this
  exact List.length_eq_zero_iff.1 (by omega)
theorem mem_weight {l : List (List node.den)} {x : List node.den} (hx : x ∈ l) : wNodes x ≤ (l.map wNodes).sum := by
  induction l with
  | nil => simp at hx
  | cons y l ih =>
    simp only [List.map_cons, List.sum_cons]
    rcases List.mem_cons.1 hx with e | e
    · rw [e]; omega
    · have := ih e; omega
theorem mem_wNode {l : List node.den} {x : node.den} (hx : x ∈ l) : wNode x ≤ (l.map wNode).sum := by
  induction l with
  | nil => simp at hx
  | cons y l ih =>
    simp only [List.map_cons, List.sum_cons]
    rcases List.mem_cons.1 hx with e | e
    · rw [e]; omega
    · have := ih e; omega
theorem small_of {l : List node.den} {n : Nat} (h : wNodes l ≤ n) (hn : n ≤ 1000000) : Small l ∧ l.length ≤ n := by
  rw [wNodes] at h
  refine ⟨fun x hx => ?_, by omega⟩
  have := mem_wNode hx
  rw [wNode] at this
  omega
theorem light_small {y : ask8.den} (h : light8 y) {l : List node.den} (hl : l ∈ y.1) : Small l ∧ l.length ≤ 1200 := by
  rw [light8] at h
  have := mem_weight hl
  exact small_of (by omega) (by omega)
end Go.AM

/- Copies, and what is the same. -/
namespace Go.AM
set_option maxRecDepth 20000
set_option maxHeartbeats 1000000
attribute [local simp] layAt
attribute [local irreducible] lenK sliceK idxK fldK cutK storeK appK copyK clearK mapAtK callK loopH readK readK1 guardK grdK fnK nilK fieldK extrK strK nextK joinK iteK intK boolK cellsK castK castL castEnv binK unK intBin layParts execN runOpsN runItemsN denN call loop blockK
section
variable {h : Heap}
theorem old_put {h' : Heap} {n l : Nat} (hl : h'.length = h.length) (hk : ∀ j, j ≠ l → h'[j]? = h[j]?) (hn : n ≤ l) (hnl : n ≤ h.length) : Old n h h' := ⟨by omega, fun j hj => hk j (by omega)⟩
theorem AccP.but {h' : Heap} {f n0 l0 : Nat} {p : PT} {v : AV} {l : List p.den} (H : AccP f n0 h p v l) (hl : h'.length = h.length) (hk : ∀ j, j ≠ l0 → h'[j]? = h[j]?) (hf : l0 < f) (hn : l0 < n0) : AccP f n0 h' p v l := by
  obtain ⟨cs, a, e⟩ := H
  exact ⟨cs, a.keep fun j hj => hk j (by have := (a.lt hj).1; omega), fun i x hi => (e i x hi).frame fun j hj => ⟨⟨hj.1, by omega, hj.2.2⟩, hk j (by omega)⟩⟩
theorem holds_node {S : Nat → Prop} {x : node.den} {a d : AV} (ha : Holds S h ints x.2.2.1 [a]) (hd : Holds S h ints x.2.2.2.1 [d]) (hk : -9223372036854775808 ≤ x.2.1 ∧ x.2.1 ≤ 9223372036854775807) (hn : -9223372036854775808 ≤ x.2.2.2.2 ∧ x.2.2.2.2 ≤ 9223372036854775807) (hs : x.1.size ≤ 140737488355328) : Holds S h node x [.str x.1, .int .i64 x.2.1, a, d, .int .i64 x.2.2.2.2] :=
  ⟨[.str x.1], _, rfl, ⟨rfl, hs⟩, [.int .i64 x.2.1], _, rfl, ⟨rfl, hk⟩, [a], _, rfl, ha, [d], _, rfl, hd, rfl, hn⟩
/-- A node's parts are not too long. -/
abbrev SmallN (x : node.den) : Prop := x.2.2.1.length * 24 ≤ 140737488355328 ∧ x.2.2.2.1.length * 24 ≤ 140737488355328
/-- A copy: cells of one's own. -/
def FreshNode (n0 : Nat) (h : Heap) (x : node.den) (cs : List AV) : Prop := ∃ a d, cs = [.str x.1, .int .i64 x.2.1, a, d, .int .i64 x.2.2.2.2] ∧ AccP n0 n0 h int a x.2.2.1 ∧ AccP n0 n0 h int d x.2.2.2.1
theorem ref0_CopyNode {x : node.den} {cs : List AV} (hx : In h node x cs) (hs : SmallN x) (b : Nat) (hb : b ≤ h.length) :
    WP (call prog b 67 [.agg cs] h) fun r => Old h.length h r.2 ∧ ∃ cs', r.1 = .agg cs' ∧ Holds (fun j => h.length ≤ j ∧ j < r.2.length) r.2 node x cs' := by
  obtain ⟨a, d, rfl, ha, hd, hk, hn, hss⟩ := hx.node
  refine wp_enter (fn := C.ref0_CopyNode) rfl ?_
  dsimp only [bodyN, C.ref0_CopyNode]; simp
  generalize hh : h ++ [AObj.cells 0 1 [AV.str x.fst, AV.int IntKind.i64 x.snd.fst, a, d, AV.int IntKind.i64 x.snd.snd.snd.snd], AObj.cells 0 1 [AV.str (bs []), AV.int IntKind.i64 0, AV.nil, AV.nil, AV.int IntKind.i64 0]] = h1
  have o1 : Old h.length h h1 := hh ▸ Old.app
  have l1 : h1.length = h.length + 2 := by rw [← hh]; simp
  have b1 : Box h1 h.length [AV.str x.fst, AV.int IntKind.i64 x.snd.fst, a, d, AV.int IntKind.i64 x.snd.snd.snd.snd] := by rw [← hh]; simp [Box]
  have c1 : Box h1 (h.length + 1) [AV.str (bs []), AV.int IntKind.i64 0, AV.nil, AV.nil, AV.int IntKind.i64 0] := by rw [← hh]; simp [Box]
  refine wq_ptrs b1 (by simp) ?_
  try simp
  refine wq_init (by omega) (by rfl) (by rfl) fun h2 o12 d2 lt2 => ?_
  try simp
  have o2 : Old h.length h h2 := o1.trans (o12.mono (by omega))
  have b2 := b1.old o12 (by omega)
  have c2 := c1.old o12 (by omega)
  refine wq_ptr b2 rfl ?_
  try simp
  refine wp_call (ref0_CopyNumbers (In.old o2 ha) (by omega) b (by omega)) fun v3 h3 ⟨o3, a3⟩ => ?_
  simp only at o3 a3
  try simp
  have d3 := d2.old o3 (by omega)
  refine wq_put d3 (by omega) (fun K => cells_one a3.one K) (by rfl) (by simp) fun h4 l4 k4 d4 => ?_
  try simp
  simp at d4
  have b4 : Box h4 h.length _ := (k4 _ (by omega)).trans (b2.old o3 (by omega))
  have c4 : Box h4 (h.length + 1) _ := (k4 _ (by omega)).trans (c2.old o3 (by omega))
  have o4 : Old h.length h h4 := (o2.trans (o3.mono (by omega))).trans (old_put l4 k4 (by omega) (by have := o3.1; omega))
  have a4 := a3.but l4 k4 (by omega) (by omega)
  refine wq_ptr b4 rfl ?_
  try simp
  refine wp_call (ref0_CopyNumbers (In.old o4 hd) (by omega) b (by have := o4.1; omega)) fun v5 h5 ⟨o5, a5⟩ => ?_
  simp only at o5 a5
  have c5 := c4.old o5 c4.lt
  have d5 := d4.old o5 d4.lt
  have a45 := a4.keep o5
  try simp
  refine wq_put d5 (by omega) (fun K => cells_one a5.one K) (by rfl) (by simp) fun h6 l6 k6 d6 => ?_
  try simp
  simp at d6
  have q3 := o3.1
  have q5 := o5.1
  have q4 := o4.1
  have c6 : Box h6 (h.length + 1) _ := (k6 _ (by omega)).trans c5
  have a46 := a45.but l6 k6 (by omega) (by omega)
  have a6 := a5.but l6 k6 (by omega) (by omega)
  refine wq_ptrs d6 (by simp) ?_
  try simp
  refine wq_put c6 (by omega) (fun _ => by simp; rfl) (by rfl) (by simp) fun h7 l7 k7 c7 => ?_
  try simp
  simp at c7
  refine wq_ptrs c7 (by simp) ?_
  try simp
  have a47 := a46.but l7 k7 (by omega) (by omega)
  have a7 := a6.but l7 k7 (by omega) (by omega)
  refine wp_some ⟨⟨by simp only; omega, fun j hj => ?_⟩, _, rfl, ?_⟩
  · simp only
    rw [k7 _ (by omega), k6 _ (by omega), o5.2 _ (by omega), o4.2 _ hj]
  · have e1 := (a47.holds (Nat.le_refl _)).mono (T := fun j => h.length ≤ j ∧ j < h7.length) fun j hj => ⟨by have := hj.1; omega, hj.2⟩
    have e2 := (a7.holds (Nat.le_refl _)).mono (T := fun j => h.length ≤ j ∧ j < h7.length) fun j hj => ⟨by have := hj.1; omega, hj.2⟩
    exact holds_node e1 e2 hk hn hss
theorem ref0_CopyNodes {vl : AV} {l : List node.den} (hl : In h nodes l [vl]) (hsm : Small l) (hlen : l.length ≤ 1000000) (b : Nat) (hb : b ≤ h.length) :
    WP (call prog b 9 [vl] h) fun r => Old h.length h r.2 ∧ AccP h.length h.length r.2 node r.1 l := by
  refine wp_enter (fn := C.ref0_CopyNodes) rfl ?_
  dsimp only [bodyN, C.ref0_CopyNodes, C.ref0_CopyNodes_l0]; simp
  refine wp_loop (I := fun m e h' => Old h.length h h' ∧ ∃ i v, e = (ea 0 vl <| ea 3 v <| ea 4 (.int .i64 (i : Nat)) e0) ∧ i + m = l.length ∧ AccP h.length h.length h' node v (l.take i)) ?_ ⟨Old.refl (Nat.le_refl _), 0, .nil, rfl, Nat.zero_add _, AccP.nil⟩
  rintro N m e h' ⟨old, i, v, rfl, him, acc⟩ next
  have hl' := In.old old hl
  have ho := old.1
  dsimp only [C.ref0_CopyNodes_b0]; simp
  repeat ((first | refine wq_len (by assumption) ?_ | refine wq_idx (by assumption) (by rfl) (by omega) (by omega) ?_ | refine wq_int (by assumption) (by omega) ?_ | refine wq_kind (by assumption) (by omega) ?_ | refine wq_num (by assumption) (by omega) ?_ | refine wq_name (by assumption) (by omega) ?_ | refine wq_ptr (by assumption) rfl ?_ | refine wp_new1 rfl ?_ | refine wq_from (by assumption) (by omega) ?_ | refine wq_to (by assumption) (by omega) ?_ | refine wq_size (by assumption) (by omega) ?_ | refine wq_life (by assumption) (by omega) ?_ | refine wp_guard (by omega) ?_ | refine wq_cells (by assumption) ?_); (try simp))
  refine wp_dec (fun hi => ?_) fun hi => ?_
  · try simp
    repeat ((first | refine wq_len (by assumption) ?_ | refine wq_idx (by assumption) (by rfl) (by omega) (by omega) ?_ | refine wq_int (by assumption) (by omega) ?_ | refine wq_kind (by assumption) (by omega) ?_ | refine wq_num (by assumption) (by omega) ?_ | refine wq_name (by assumption) (by omega) ?_ | refine wq_ptr (by assumption) rfl ?_ | refine wp_new1 rfl ?_ | refine wq_from (by assumption) (by omega) ?_ | refine wq_to (by assumption) (by omega) ?_ | refine wq_size (by assumption) (by omega) ?_ | refine wq_life (by assumption) (by omega) ?_ | refine wp_guard (by omega) ?_ | refine wq_cells (by assumption) ?_); (try simp))
    refine wq_node hl' (by omega) fun va vd ha hd hn => ?_
    try simp
    refine wp_call (ref0_CopyNode hn (hsm _ (List.getElem_mem hi)) b (by omega)) fun v4 h4 ⟨o4, cs', e4, a4⟩ => ?_
    simp only at o4 e4 a4
    obtain ⟨a, d, ec, _⟩ := a4.node
    rw [ec] at e4 a4
    subst e4
    try simp
    have old4 := old.trans (o4.mono ho)
    refine wp_push1 (p := node) (x := l[i]) (acc.keep o4) (a4.mono fun j hj => ⟨by omega, hj.2, fun e => ?_⟩) rfl hb old4.1 (by rw [List.length_take]; omega) (by rw [List.length_take]; omega) fun v5 h5 o5 a5 => ?_
    · obtain ⟨_, ac, _⟩ := acc
      have := (ac.lt e).2
      omega
    try simp
    have w5 := succ64 hi (by omega)
    simp only [w5]
    exact next (m - 1) _ _ (by omega) ⟨old4.trans o5, i + 1, _, rfl, by omega, by rw [take_succ_app hi]; exact a5⟩
  · refine wp_some ⟨old, ?_⟩
    rwa [List.take_of_length_le (by omega)] at acc
end
end Go.AM

/- Writing into one's own; the greatest of numbers. -/
namespace Go.AM
set_option maxRecDepth 20000
set_option maxHeartbeats 1000000
attribute [local simp] layAt
attribute [local irreducible] lenK sliceK idxK fldK cutK storeK appK copyK clearK mapAtK callK loopH readK readK1 guardK grdK fnK nilK fieldK extrK strK nextK joinK iteK intK boolK cellsK castK castL castEnv binK unK intBin layParts execN runOpsN runItemsN denN call loop blockK
theorem wrap_range (n : Int) : -9223372036854775808 ≤ w64 n ∧ w64 n ≤ 9223372036854775807 := by
  simp [w64, IntKind.wrap, IntKind.bits, IntKind.signed]
  omega
theorem prodW_range (d : List Int) : -9223372036854775808 ≤ prodW d ∧ prodW d ≤ 9223372036854775807 := by
  have key : ∀ (d : List Int) (n : Int), (-9223372036854775808 ≤ n ∧ n ≤ 9223372036854775807) → -9223372036854775808 ≤ d.foldl (fun n x => w64 (n * x)) n ∧ d.foldl (fun n x => w64 (n * x)) n ≤ 9223372036854775807 := fun d => by
    induction d with
    | nil => intro n h; exact h
    | cons y d ih => intro n _; exact ih _ (wrap_range _)
  exact key d 1 (by omega)
def maxF (a b : Int) : Int := if b > a then b else a
/-- The greatest. -/
def maxL (l : List Int) : Int := (l.drop 1).foldl maxF (l.getD 0 0)
section
variable {R : Type} {Q : R → Prop} {S : Nat → Prop} {h : Heap}
theorem wp_putI {base f n0 : Nat} {v : AV} {l : List Int} {x : Int} (H : AccP f n0 h int v l) (hx : -9223372036854775808 ≤ x ∧ x ≤ 9223372036854775807) (hb : base ≤ n0) (hn : n0 ≤ h.length) {i : Nat} (hi : i < l.length) {K : Heap → Option R}
    (k : ∀ h', But v h h' → h'.length = h.length → Old n0 h h' → AccP f n0 h' int v (l.set i x) → WP (K h') Q) : WP (storeK base 1 h (addrOf v 1 i 0) (.int .i64 x) K) Q :=
  wp_put (p := int) (x := x) H (holds_int hx) (fun _ => by rw [cellsK_int]) rfl hb hn hi k
theorem wp_putB {base f n0 : Nat} {v : AV} {l : List Bool} {x : Bool} (H : AccP f n0 h .bool v l) (hb : base ≤ n0) (hn : n0 ≤ h.length) {i : Nat} (hi : i < l.length) {K : Heap → Option R}
    (k : ∀ h', But v h h' → h'.length = h.length → Old n0 h h' → AccP f n0 h' .bool v (l.set i x) → WP (K h') Q) : WP (storeK base 1 h (addrOf v 1 i 0) (.bool x) K) Q :=
  wp_put (p := .bool) (x := x) (ys := [.bool x]) H (rfl) (fun _ => by rw [cellsK_bool]) rfl hb hn hi k
theorem wq_bool {l : List Bool} {v : AV} (H : Holds S h (.slice .bool) l [v]) {j : Nat} (hj : j < l.length) {K : AV → Option R} (k : WP (K (.bool l[j])) Q) : WP (readK1 h (addrOf v 1 j 0) 1 K) Q := by
  obtain ⟨ds, hs, hc⟩ := H.elem
  exact wp_cell hs hj (hc j l[j] (List.getElem?_eq_getElem hj)) rfl k
theorem flat_rep {zs : List AV} : ∀ {n i : Nat}, i < n → (((List.replicate n zs).flatten).drop (i * zs.length)).take zs.length = zs
  | 0, i, hi => by omega
  | n + 1, 0, _ => by rw [List.replicate_succ, List.flatten_cons, Nat.zero_mul, List.drop_zero, List.take_left]
  | n + 1, i + 1, hi => by rw [List.replicate_succ, List.flatten_cons, Nat.add_mul, Nat.one_mul, Nat.add_comm, ← List.drop_drop, List.drop_left, flat_rep (by omega)]
/-- A new slice of as many of the same. -/
theorem accp_make {p : PT} {n : Nat} {x : p.den} {zs : List AV} (hz : ∀ (S : Nat → Prop) (h : Heap), Holds S h p x zs) (hn : n ≤ 140737488355328) : AccP h.length h.length (h ++ [.cells 0 p.sz ((List.replicate n zs).flatten)]) p (.ref h.length 0 0 n) (List.replicate n x) := by
  have hl := (hz (fun _ => True) h).len
  refine ⟨(List.replicate n zs).flatten, ?_, fun i y hi => ?_⟩
  · rw [List.length_replicate]
    exact Acc.new (Nat.le_refl _) (by simp [hl]) hn
  · have hin : i < n := by
      have := (List.getElem?_eq_some_iff.1 hi).1
      simpa using this
    rw [List.getElem?_replicate, if_pos hin] at hi
    cases hi
    rw [← hl, flat_rep hin]
    exact hz _ _
theorem AccP.flat {h' : Heap} {f n0 : Nat} {p : PT} {v : AV} {l : List p.den} (H : AccP f n0 h p v l) (hp : ∀ (S S' : Nat → Prop) (x : p.den) (cs : List AV), Holds S h p x cs → Holds S' h' p x cs) (hk : ∀ j, v.blk = some j → h'[j]? = h[j]?) : AccP f n0 h' p v l := by
  obtain ⟨cs, a, e⟩ := H
  exact ⟨cs, a.keep hk, fun i x hi => hp _ _ _ _ (e i x hi)⟩
theorem AccP.flatI {h' : Heap} {f n0 : Nat} {v w : AV} {l : List Int} (H : AccP f n0 h int v l) (but : But w h h') (hw : ∀ j, w.blk = some j → j < n0) : AccP f n0 h' int v l :=
  H.flat (fun _ _ _ _ h => h) fun j hj => by
    obtain ⟨_, a, _⟩ := H
    have := a.lt hj
    exact but.2 j this.2 fun e => by have := hw j e; omega
theorem AccP.flatB {h' : Heap} {f n0 k : Nat} {v : AV} {l : List Bool} (H : AccP f n0 h .bool v l) (o : Old k h h') (hv : ∀ j, v.blk = some j → j < k) : AccP f n0 h' .bool v l :=
  H.flat (fun _ _ _ _ h => h) fun j hj => o.2 j (hv j hj)
theorem AccP.flatO {h' : Heap} {f n0 k : Nat} {v : AV} {l : List Int} (H : AccP f n0 h int v l) (o : Old k h h') (hv : ∀ j, v.blk = some j → j < k) : AccP f n0 h' int v l :=
  H.flat (fun _ _ _ _ h => h) fun j hj => o.2 j (hv j hj)
theorem slices_Max_int {v : AV} {l : List Int} (hl : In h ints l [v]) (h0 : l ≠ []) (b : Nat) : call prog b 73 [v] h = some (.int .i64 (maxL l), h) := by
  have hp : 0 < l.length := List.length_pos_iff.2 h0
  have bl := holds_le hl
  refine wp_iff.1 (wp_enter (fn := C.slices_Max_int) rfl ?_)
  dsimp only [bodyN, C.slices_Max_int, C.slices_Max_int_l0]; simp
  refine wq_len hl ?_
  have n1 : ¬ ((l.length : Int) < 1) := by omega
  simp [n1]
  refine wq_idx hl (by rfl) (by omega) (by omega) ?_
  try simp
  refine wq_int hl hp ?_
  try simp
  refine wp_loop (I := fun m e h' => h' = h ∧ ∃ (i : Nat) (a : Int), e = (ea 0 v <| ea 3 (.int .i64 a) <| ea 4 (.int .i64 (i : Nat)) e0) ∧ i + m = l.length ∧ 1 ≤ i ∧ a = ((l.drop 1).take (i - 1)).foldl maxF (l.getD 0 0)) ?_ (m := l.length - 1) ⟨rfl, 1, l[0], rfl, by omega, Nat.le_refl _, by rw [List.getD_eq_getElem?_getD, List.getElem?_eq_getElem hp]; rfl⟩
  rintro N m e _ ⟨rfl, i, a, rfl, him, hi1, ha⟩ next
  dsimp only [C.slices_Max_int_b0]; simp
  refine wq_len hl ?_
  try simp
  refine wp_dec (fun hi => ?_) fun hi => ?_
  · try simp
    refine wq_idx hl (by rfl) (by omega) (by omega) ?_
    try simp
    refine wq_int hl hi ?_
    have w1 := succ64 hi bl
    simp [w1]
    refine next (m - 1) _ _ (by omega) ⟨rfl, i + 1, _, rfl, by omega, by omega, ?_⟩
    obtain ⟨d, rfl⟩ : ∃ d, i = d + 1 := ⟨i - 1, by omega⟩
    have hd : d < (l.drop 1).length := by simp; omega
    rw [Nat.add_sub_cancel, foldl_take_succ _ _ hd]
    rw [Nat.add_sub_cancel] at ha
    rw [← ha, List.getElem_drop, maxF]
    simp [Nat.add_comm]
  · try simp
    have ei : i = l.length := by omega
    refine wp_some ?_
    rw [ha, ei, List.take_of_length_le (by simp), maxL]
end
end Go.AM

/- A slice of one's own whose parts lie where one says: for slices that stand in boxes. -/
namespace Go.AM
set_option maxRecDepth 20000
set_option maxHeartbeats 1000000
attribute [local simp] layAt
attribute [local irreducible] lenK sliceK idxK fldK cutK storeK appK copyK clearK mapAtK callK loopH readK readK1 guardK grdK fnK nilK fieldK extrK strK nextK joinK iteK intK boolK cellsK castK castL castEnv binK unK intBin layParts execN runOpsN runItemsN denN call loop blockK
section
variable {R : Type} {Q : R → Prop} {S : Nat → Prop} {h : Heap}
/-- As AccP; the parts lie in blocks that F lets. -/
def AccF (F : Nat → Prop) (n0 : Nat) (h : Heap) (p : PT) (v : AV) (l : List p.den) : Prop :=
  ∃ cs, Acc n0 h p.sz v cs l.length ∧ ∀ (i : Nat) (x : p.den), l[i]? = some x → Holds (fun j => F j ∧ j < h.length ∧ v.blk ≠ some j) h p x ((cs.drop (i * p.sz)).take p.sz)
theorem AccF.nil {F : Nat → Prop} {n0 : Nat} {p : PT} : AccF F n0 h p .nil [] := ⟨[], Acc.nil, fun i x hi => by simp at hi⟩
theorem AccF.one {F : Nat → Prop} {n0 : Nat} {p : PT} {v : AV} {l : List p.den} (H : AccF F n0 h p v l) : v.one = true := let ⟨_, a, _⟩ := H; a.one
theorem AccF.in {F : Nat → Prop} {n0 : Nat} {p : PT} {v : AV} {l : List p.den} (H : AccF F n0 h p v l) : In h (.slice p) l [v] := by
  obtain ⟨cs, a, e⟩ := H
  exact ⟨v, cs, rfl, a.slice fun k hk => (a.lt hk).2, fun i x hi => (e i x hi).mono fun j hj => hj.2.1⟩
theorem AccF.keep {F : Nat → Prop} {n0 : Nat} {h' : Heap} {p : PT} {v : AV} {l : List p.den} (H : AccF F n0 h p v l) (ho : Old h.length h h') : AccF F n0 h' p v l := by
  obtain ⟨cs, a, e⟩ := H
  exact ⟨cs, a.keep fun l hl => ho.2 l (a.lt hl).2, fun i x hi => (e i x hi).frame fun j hj => ⟨⟨hj.1, Nat.lt_of_lt_of_le hj.2.1 ho.1, hj.2.2⟩, ho.2 j hj.2.1⟩⟩
theorem AccF.lt {F : Nat → Prop} {n0 : Nat} {p : PT} {v : AV} {l : List p.den} (H : AccF F n0 h p v l) {j : Nat} (hj : v.blk = some j) : n0 ≤ j ∧ j < h.length := let ⟨_, a, _⟩ := H; a.lt hj
/-- A block is written where nothing of it lies. -/
theorem AccF.but {h' : Heap} {F : Nat → Prop} {n0 l0 : Nat} {p : PT} {v : AV} {l : List p.den} (H : AccF F n0 h p v l) (hl : h.length ≤ h'.length) (hk : ∀ j, j < h.length → j ≠ l0 → h'[j]? = h[j]?) (hf : ¬ F l0) (hn : v.blk ≠ some l0) : AccF F n0 h' p v l := by
  obtain ⟨cs, a, e⟩ := H
  exact ⟨cs, a.keep fun j hj => hk j (a.lt hj).2 (fun e => hn (e ▸ hj)), fun i x hi => (e i x hi).frame fun j hj => ⟨⟨hj.1, by omega, hj.2.2⟩, hk j hj.2.1 (fun e => hf (e ▸ hj.1))⟩⟩
theorem AccF.ofP {F : Nat → Prop} {f n0 : Nat} {p : PT} {v : AV} {l : List p.den} (H : AccP f n0 h p v l) (hF : ∀ j, f ≤ j → j < h.length → F j) : AccF F n0 h p v l := by
  obtain ⟨cs, a, e⟩ := H
  exact ⟨cs, a, fun i x hi => (e i x hi).mono fun j hj => ⟨hF j hj.1 hj.2.1, hj.2⟩⟩
theorem AccF.mono {F G : Nat → Prop} {n0 : Nat} {p : PT} {v : AV} {l : List p.den} (H : AccF F n0 h p v l) (hF : ∀ j, F j → j < h.length → G j) : AccF G n0 h p v l := by
  obtain ⟨cs, a, e⟩ := H
  exact ⟨cs, a, fun i x hi => (e i x hi).mono fun j hj => ⟨hF j hj.1 hj.2.1, hj.2⟩⟩
theorem wp_pushF {base n0 bytes s : Nat} {F : Nat → Prop} {p : PT} {v : AV} {l : List p.den} {x : p.den} {ys : List AV} (H : AccF F n0 h p v l) (hx : Holds (fun j => F j ∧ j < h.length ∧ v.blk ≠ some j) h p x ys) (hs : s = p.sz) (hb : base ≤ n0) (hn : n0 ≤ h.length)
    (h1 : (l.length + 1) * bytes ≤ 140737488355328) (h2 : l.length + 1 ≤ 140737488355328) {K : AV → Heap → Option R}
    (k : ∀ v' h', But v h h' → Old n0 h h' → (∀ j, v'.blk = some j → v.blk = some j ∨ j = h.length) → AccF F n0 h' p v' (l ++ [x]) → WP (K v' h') Q) : WP (appK base s bytes h v ys 1 K) Q := by
  subst hs
  obtain ⟨cs, a, e⟩ := H
  have hcl := a.len
  refine wp_app a hb hn (by rw [hx.len, Nat.one_mul]) h1 h2 fun v' h' but hv a' => k v' h' but (but.old a hn) hv ⟨cs ++ ys, by simpa using a', fun i y hi => ?_⟩
  have fr : ∀ j, (F j ∧ j < h.length ∧ v.blk ≠ some j) → (F j ∧ j < h'.length ∧ v'.blk ≠ some j) ∧ h'[j]? = h[j]? := fun j hj => ⟨⟨hj.1, Nat.lt_of_lt_of_le hj.2.1 but.1, fun eq => by
    rcases hv j eq with e1 | e1
    · exact hj.2.2 e1
    · omega⟩, but.2 j hj.2.1 hj.2.2⟩
  rcases Nat.lt_or_ge i l.length with hil | hil
  · rw [List.getElem?_append_left hil] at hi
    have hle : (i + 1) * p.sz ≤ l.length * p.sz := Nat.mul_le_mul_right _ hil
    rw [Nat.add_mul, Nat.one_mul] at hle
    rw [List.drop_append_of_le_length (by omega), List.take_append_of_le_length (by rw [List.length_drop]; omega)]
    exact (e i y hi).frame fr
  · rw [List.getElem?_append_right hil] at hi
    have h0 : i = l.length := by
      rcases Nat.eq_or_lt_of_le hil with h0 | h0
      · exact h0.symm
      · rw [List.getElem?_eq_none (by simp; omega)] at hi
        cases hi
    subst h0
    simp at hi
    subst hi
    rw [← hcl, List.drop_left, List.take_of_length_le (Nat.le_of_eq hx.len)]
    exact hx.frame fr
end
end Go.AM

/- Places in dims: plain numbers. -/
namespace Go.AM
/-- The product, plainly. -/
def prodI : List Int → Int
  | [] => 1
  | d :: r => d * prodI r
/-- All above 0. -/
def Pos (d : List Int) : Prop := ∀ x ∈ d, 1 ≤ x
theorem Pos.tail {x : Int} {d : List Int} (h : Pos (x :: d)) : Pos d := fun y hy => h y (List.mem_cons_of_mem _ hy)
theorem Pos.head {x : Int} {d : List Int} (h : Pos (x :: d)) : 1 ≤ x := h x List.mem_cons_self
theorem prodI_pos : ∀ {d : List Int}, Pos d → 1 ≤ prodI d
  | [], _ => by simp [prodI]
  | x :: d, h => by
      have h1 := prodI_pos h.tail
      have h2 := h.head
      have : 1 * 1 ≤ x * prodI d := Int.mul_le_mul h2 h1 (by omega) (by omega)
      simpa [prodI] using this
def strides : List Int → List Int
  | [] => []
  | _ :: r => prodI r :: strides r
/-- The numbers of a place, by strides. -/
def numbersI : List Int → Int → List Int
  | [], _ => []
  | s :: r, n => n / s :: numbersI r (n % s)
/-- The place of numbers, by strides. -/
def placeI : List Int → List Int → Int
  | s :: r, p :: q => s * p + placeI r q
  | _, _ => 0
/-- The page's: from behind. -/
def whereI : List Int → Int → List Int × Int
  | [], n => ([], n)
  | d :: r, n => ((whereI r n).2 % d :: (whereI r n).1, (whereI r n).2 / d)
def atI : List Int → List Int → Int → Int
  | d :: r, p :: q, n => atI r q (n * d + p)
  | _, _, n => n
theorem emod_mul_div {n a b : Int} (ha : 0 < a) (hb : 0 < b) : (n % (a * b)) / b = (n / b) % a := by
  have h1 : n % (a * b) = n - a * b * (n / (a * b)) := Int.emod_def n (a * b)
  have h2 : n / (a * b) = n / b / a := by rw [Int.mul_comm a b, Int.ediv_ediv_of_nonneg (Int.le_of_lt hb)]
  rw [h1, h2, Int.emod_def (n / b) a]
  have : n - a * b * (n / b / a) = n + b * (-(a * (n / b / a))) := by
    rw [Int.mul_neg, Int.mul_comm a b, Int.mul_assoc]
    omega
  rw [this, Int.add_mul_ediv_left _ _ (by omega)]
  omega
theorem whereI_eq : ∀ {d : List Int}, Pos d → ∀ n, whereI d n = (numbersI (strides d) (n % prodI d), n / prodI d)
  | [], _, n => by simp [whereI, strides, numbersI, prodI]
  | x :: d, h, n => by
      have ih := whereI_eq h.tail n
      have hp := prodI_pos h.tail
      have hx := h.head
      simp only [whereI, ih, strides, numbersI, prodI]
      rw [emod_mul_div (by omega) (by omega), Int.emod_emod_of_dvd n (Int.dvd_mul_left x (prodI d)), Int.mul_comm x, Int.ediv_ediv_of_nonneg (by omega)]
theorem atI_eq : ∀ {d p : List Int} (n : Int), p.length = d.length → atI d p n = n * prodI d + placeI (strides d) p
  | [], [], n, _ => by simp [atI, prodI, strides, placeI]
  | x :: d, y :: p, n, h => by
      have ih := atI_eq (d := d) (p := p) (n * x + y) (by simpa using h)
      simp only [atI, ih, strides, placeI, prodI]
      rw [Int.add_mul, Int.mul_assoc, Int.mul_comm y]
      omega
  | [], _ :: _, _, h => by simp at h
  | _ :: _, [], _, h => by simp at h
/-- Numbers within dims. -/
def Within : List Int → List Int → Prop
  | [], [] => True
  | d :: r, p :: q => 0 ≤ p ∧ p < d ∧ Within r q
  | _, _ => False
theorem Within.len : ∀ {d p : List Int}, Within d p → p.length = d.length
  | [], [], _ => rfl
  | _ :: d, _ :: p, h => by simp [Within.len h.2.2]
  | [], _ :: _, h => h.elim
  | _ :: _, [], h => h.elim
theorem numbersI_within : ∀ {d : List Int}, Pos d → ∀ {n : Int}, 0 ≤ n → n < prodI d → Within d (numbersI (strides d) n)
  | [], _, _, _, _ => trivial
  | x :: d, h, n, h0, h1 => by
      have hp := prodI_pos h.tail
      simp only [prodI] at h1
      refine ⟨Int.ediv_nonneg h0 (by omega), ?_, numbersI_within h.tail (Int.emod_nonneg _ (by omega)) (Int.emod_lt_of_pos _ (by omega))⟩
      exact Int.ediv_lt_of_lt_mul (by omega) h1
theorem placeI_range : ∀ {d p : List Int}, Pos d → Within d p → 0 ≤ placeI (strides d) p ∧ placeI (strides d) p < prodI d
  | [], [], _, _ => by simp [strides, placeI, prodI]
  | x :: d, y :: p, h, w => by
      have ih := placeI_range h.tail w.2.2
      have hp := prodI_pos h.tail
      have h1 : 0 ≤ prodI d * y := Int.mul_nonneg (by omega) w.1
      have h2 : prodI d * (y + 1) ≤ prodI d * x := Int.mul_le_mul_of_nonneg_left (by have := w.2.1; omega) (by omega)
      simp only [strides, placeI, prodI]
      rw [Int.mul_add, Int.mul_one] at h2
      rw [Int.mul_comm x]
      omega
  | [], _ :: _, _, w => w.elim
  | _ :: _, [], _, w => w.elim
/-- A place of wider dims in narrower ones: where these are 1 it is 0. -/
def narrowI : List Int → List Int → List Int
  | d :: r, p :: q => (if d = 1 then 0 else p) :: narrowI r q
  | _, p => p
theorem narrowI_within : ∀ {a g p : List Int}, Pos a → wider a g = true → Within g p → Within a (narrowI a p)
  | [], [], [], _, _, _ => trivial
  | x :: a, y :: g, z :: p, ha, hw, w => by
      rw [wider] at hw
      simp only [Bool.and_eq_true] at hw
      have ih := narrowI_within ha.tail hw.2 w.2.2
      have h1 := w.1
      have h2 := w.2.1
      have h3 := ha.head
      refine ⟨?_, ?_, ih⟩
      · split <;> omega
      · have := hw.1
        simp at this
        split <;> omega
  | [], _ :: _, _, _, hw, _ => by simp [wider] at hw
  | _ :: _, [], _, _, hw, _ => by simp [wider] at hw
  | [], [], _ :: _, _, _, w => w.elim
  | _ :: _, _ :: _, [], _, _, w => w.elim
/-- The place in lesser dims of a place in greater ones. -/
def lowI (a g : List Int) (n : Int) : Int := placeI (strides a) (narrowI a (numbersI (strides g) n))
theorem lowI_range {a g : List Int} {n : Int} (ha : Pos a) (hg : Pos g) (hw : wider a g = true) (h0 : 0 ≤ n) (h1 : n < prodI g) : 0 ≤ lowI a g n ∧ lowI a g n < prodI a :=
  placeI_range ha (narrowI_within ha hw (numbersI_within hg h0 h1))
theorem dimsOk_pos {d : List Int} (h : dimsOk d = true) : Pos d := fun _ hx => (dimsOk_mem h hx).1
theorem foldl_prodW : ∀ (d : List Int) (n : Int), Pos d → (∀ x ∈ d, x ≤ 8) → d.length ≤ 3 → 1 ≤ n → ∀ k : Nat, n ≤ 8 ^ k → k + d.length ≤ 6 → d.foldl (fun n x => w64 (n * x)) n = n * prodI d
  | [], n, _, _, _, _, _, _, _ => by simp [prodI]
  | x :: d, n, hp, h8, hl, hn, k, hk, hkl => by
      have hx := hp.head
      have hx8 := h8 x List.mem_cons_self
      have h1 : n * x ≤ 8 ^ k * 8 := Int.mul_le_mul hk hx8 (by omega) (Int.le_trans (by omega) hk)
      have h2 : 1 * 1 ≤ n * x := Int.mul_le_mul hn hx (by omega) (by omega)
      have h3 : (8 : Int) ^ k * 8 = 8 ^ (k + 1) := (Int.pow_succ 8 k).symm
      have h4 : (8 : Int) ^ (k + 1) ≤ 8 ^ 6 := by
        have : (8 : Nat) ^ (k + 1) ≤ 8 ^ 6 := Nat.pow_le_pow_right (by omega) (by simp at hkl; omega)
        exact_mod_cast this
      have h5 : (8 : Int) ^ 6 = 262144 := by decide
      simp only [List.foldl_cons, prodI]
      rw [w64, w64_id (by omega) (by omega), foldl_prodW d (n * x) hp.tail (fun y hy => h8 y (List.mem_cons_of_mem _ hy)) (by simp at hl; omega) (by omega) (k + 1) (by omega) (by simp at hkl; omega), Int.mul_assoc]
theorem prodW_eq {d : List Int} (hp : Pos d) (h8 : ∀ x ∈ d, x ≤ 8) (hl : d.length ≤ 3) : prodW d = prodI d := by
  have := foldl_prodW d 1 hp h8 hl (by omega) 0 (by simp) (by omega)
  rw [Int.one_mul] at this
  exact this
theorem dimsOk_prod {d : List Int} (h : dimsOk d = true) : prodW d = prodI d ∧ 1 ≤ prodI d ∧ prodI d ≤ 64 := by
  have e := prodW_eq (dimsOk_pos h) (fun x hx => (dimsOk_mem h hx).2) (dimsOk_len h).2
  refine ⟨e, prodI_pos (dimsOk_pos h), ?_⟩
  rw [← e]
  simp [dimsOk] at h
  omega
end Go.AM

/- Tensors: new ones; number by number. -/
namespace Go.AM
set_option maxRecDepth 20000
set_option maxHeartbeats 1000000
attribute [local simp] layAt
attribute [local irreducible] lenK sliceK idxK fldK cutK storeK appK copyK clearK mapAtK callK loopH readK readK1 guardK grdK fnK nilK fieldK extrK strK nextK joinK iteK intK boolK cellsK castK castL castEnv binK unK intBin layParts execN runOpsN runItemsN denN call loop blockK
/-- May a tensor be? -/
def tenOk (t : tensor.den) : Bool := dimsOk t.1 && decide ((t.2.length : Int) = prodW t.1)
/-- A tensor of one's own: its dims, its data, in blocks of their own. -/
def TenAt (n0 : Nat) (h : Heap) (t : tensor.den) (v : AV) : Prop :=
  ∃ vd vt k, v = .agg [vd, vt] ∧ AccP n0 n0 h int vd t.1 ∧ (∀ j, vd.blk = some j → j < k) ∧ n0 ≤ k ∧ k ≤ h.length ∧ AccP k k h int vt t.2
section
variable {h : Heap}
theorem TenAt.keep {h' : Heap} {n0 : Nat} {t : tensor.den} {v : AV} (H : TenAt n0 h t v) (o : Old h.length h h') : TenAt n0 h' t v := by
  obtain ⟨vd, vt, k, e, a1, a2, a3, a4, a5⟩ := H
  exact ⟨vd, vt, k, e, a1.keep o, a2, a3, Nat.le_trans a4 o.1, a5.keep o⟩
theorem TenAt.mono {n0 m0 : Nat} {t : tensor.den} {v : AV} (H : TenAt n0 h t v) (hm : m0 ≤ n0) : TenAt m0 h t v := by
  obtain ⟨vd, vt, k, e, a1, a2, a3, a4, a5⟩ := H
  exact ⟨vd, vt, k, e, a1.mono hm hm, a2, Nat.le_trans hm a3, a4, a5⟩
theorem TenAt.parts {n0 : Nat} {t : tensor.den} {v : AV} (H : TenAt n0 h t v) : ∃ vd vt, v = .agg [vd, vt] ∧ In h ints t.1 [vd] ∧ In h ints t.2 [vt] := by
  obtain ⟨vd, vt, k, e, a1, a2, a3, a4, a5⟩ := H
  exact ⟨vd, vt, e, a1.in (Nat.le_refl _), a5.in (Nat.le_refl _)⟩
theorem holds_ten {S : Nat → Prop} {t : tensor.den} {vd vt : AV} (hd : Holds S h ints t.1 [vd]) (ht : Holds S h ints t.2 [vt]) : Holds S h tensor t [vd, vt] := ⟨[vd], [vt], rfl, hd, ht⟩
theorem ten_parts {t : tensor.den} (H : tenOk t = true) : dimsOk t.1 = true ∧ (t.2.length : Int) = prodI t.1 ∧ 1 ≤ t.2.length ∧ t.2.length ≤ 64 ∧ t.1.length ≤ 3 := by
  simp only [tenOk, Bool.and_eq_true, decide_eq_true_eq] at H
  obtain ⟨h1, h2, h3⟩ := dimsOk_prod H.1
  refine ⟨H.1, by omega, by omega, by omega, (dimsOk_len H.1).2⟩
theorem shape_Is {t : tensor.den} {cs : List AV} (ht : In h tensor t cs) (b : Nat) (hb : b ≤ h.length) : WP (call prog b 151 [.agg cs] h) fun r => Old h.length h r.2 ∧ r.1 = .bool (tenOk t) := by
  obtain ⟨vd, vt, rfl, hd, hdt⟩ := holds_tensor ht
  refine wp_enter (fn := C.shape_Is) rfl ?_
  dsimp only [bodyN, C.shape_Is]; simp
  have o1 : Old h.length h (h ++ [AObj.cells 0 1 [vd, vt]]) := Old.app
  refine wp_new1 rfl ?_
  try simp
  rw [callK_eq (shape_May (In.old o1 hd) _)]
  try simp
  refine wp_iteK (fun h1 => ?_) fun h1 => ?_
  · try simp
    refine wp_new1 rfl ?_
    try simp
    refine wq_len hdt ?_
    try simp
    refine wp_new1 rfl ?_
    try simp
    rw [callK_eq (shape_Product (In.old o1 hd) _)]
    try simp
    exact wp_some ⟨o1, by simp [tenOk, h1]⟩
  · try simp
    exact wp_some ⟨o1, by simp [tenOk, h1]⟩
theorem shape_New {vd : AV} {d : List Int} (hd : In h ints d [vd]) (hok : dimsOk d = true) (b : Nat) (hb : b ≤ h.length) : WP (call prog b 152 [vd] h) fun r => Old h.length h r.2 ∧ TenAt h.length r.2 (d, List.replicate (prodI d).toNat 0) r.1 := by
  obtain ⟨p1, p2, p3⟩ := dimsOk_prod hok
  have dl := dimsOk_len hok
  refine wp_enter (fn := C.shape_New) rfl ?_
  dsimp only [bodyN, C.shape_New]; simp
  generalize hh : h ++ [AObj.cells 0 1 [AV.nil, AV.nil]] = h1
  have o1 : Old h.length h h1 := hh ▸ Old.app
  have l1 : h1.length = h.length + 1 := by rw [← hh]; simp
  have b1 : Box h1 h.length [AV.nil, AV.nil] := by rw [← hh]; simp [Box]
  refine wp_call (slices_Clone_int (In.old o1 hd) (by omega) b (by omega)) fun v2 h2 ⟨o2, a2⟩ => ?_
  simp only at o2 a2
  have l2 := o2.1
  have b2 := b1.old o2 b1.lt
  have o12 := o1.trans (o2.mono o1.1)
  try simp
  rw [callK_eq (shape_Product (In.old o12 hd) _), p1]
  try simp
  refine wp_guard (by omega) ?_
  have mk := accp_make (h := h2) (p := int) (n := (prodI d).toNat) (x := 0) (zs := [.int .i64 0]) (fun _ _ => holds_int (by omega)) (by omega)
  simp [PT.sz] at mk
  have o23 : Old h2.length h2 (h2 ++ [AObj.cells 0 1 (List.replicate (prodI d).toNat (AV.int IntKind.i64 0))]) := Old.app
  have l3 : (h2 ++ [AObj.cells 0 1 (List.replicate (prodI d).toNat (AV.int IntKind.i64 0))]).length = h2.length + 1 := by simp
  try simp
  generalize h2 ++ [AObj.cells 0 1 (List.replicate (prodI d).toNat (AV.int IntKind.i64 0))] = h3 at *
  have b3 := b2.old o23 b2.lt
  have a3 := a2.keep o23
  refine wp_cells a2.one ?_
  try simp
  refine wq_put b3 (by omega) (vs := [v2, AV.ref h2.length 0 0 (prodI d).toNat]) (fun _ => by rw [cellsK_agg]) (by rfl) (by simp) fun h4 l4 k4 b4 => ?_
  simp at b4
  try simp
  refine wq_ptrs b4 (by simp) ?_
  try simp
  have a4 := a3.but l4 k4 (by omega) (by omega)
  have mk4 := mk.but l4 k4 (by omega) (by omega)
  refine wp_some ⟨(o12.trans (o23.mono (by omega))).trans (old_put l4 k4 (by omega) (by omega)), v2, _, h2.length, rfl, a4.mono (by omega) (by omega), fun j hj => ?_, by omega, by simp only; omega, mk4⟩
  obtain ⟨_, ac, _⟩ := a2
  exact (ac.lt hj).2
theorem slices_IndexFunc_TensorM {v : AV} {ds : List AV} {bs : List Bool} (hs : SliceAt (fun l => l < h.length) h v 2 bs.length ds) {cs : Nat → List AV} (hc : ∀ i, i < bs.length → (ds.drop (i * 2)).take 2 = cs i) {g : Nat} {cap : List AV} (b : Nat) (hb0 : b ≤ h.length) (hf : ∀ (i : Nat) (hi : i < bs.length), Tests g cap h (.agg (cs i)) bs[i]) :
    WP (call prog b 150 [v, .fn g cap] h) fun r => Old h.length h r.2 ∧ r.1 = .int .i64 (idxFrom 0 bs) := by
  have hb := hs.1
  refine wp_enter (fn := C.slices_IndexFunc_Tensor) rfl ?_
  dsimp only [bodyN, C.slices_IndexFunc_Tensor, C.slices_IndexFunc_Tensor_l0]; simp
  refine wp_len hs ?_
  try simp
  refine wp_loop (I := fun m e h' => Old h.length h h' ∧ ∃ i, e = (ea 0 v <| ea 1 (.fn g cap) <| ea 7 (.int .i64 bs.length) <| ea 8 (.int .i64 (i : Nat)) e0) ∧ i + m = bs.length ∧ idxFrom 0 bs = idxFrom i (bs.drop i)) ?_ ⟨Old.refl (Nat.le_refl _), 0, rfl, Nat.zero_add _, rfl⟩
  rintro N m e h' ⟨old, i, rfl, him, heq⟩ next
  have hs' := hs.old old (Nat.le_refl _)
  dsimp only [C.slices_IndexFunc_Tensor_b0]; simp
  refine wp_dec (fun hi => ?_) fun hi => ?_
  · try simp
    refine wp_idx hs' rfl hi ?_
    try simp
    refine wp_elem hs' hi (hc i hi) ?_
    try simp
    refine wp_call (hf i hi b h' (Nat.le_trans hb0 old.1) old) fun v2 h2 ⟨o2, e2⟩ => ?_
    simp only at o2 e2
    subst e2
    have o12 := old.trans (o2.mono old.1)
    rw [idxFrom_drop hi] at heq
    try simp
    refine wp_iteK (fun hn => ?_) fun hn => ?_
    · refine wp_some ⟨o12, ?_⟩
      rw [heq, if_pos hn]
    · try simp
      rw [succ64 hi hb]
      refine next (m - 1) _ _ (by omega) ⟨o12, i + 1, rfl, by omega, ?_⟩
      rw [heq, if_neg (by simp [hn])]
  · refine wp_some ⟨old, ?_⟩
    rw [heq, List.drop_of_length_le (by omega)]
    rfl
theorem slices_ContainsFunc_TensorM {v : AV} {ds : List AV} {bs : List Bool} (hs : SliceAt (fun l => l < h.length) h v 2 bs.length ds) {cs : Nat → List AV} (hc : ∀ i, i < bs.length → (ds.drop (i * 2)).take 2 = cs i) {g : Nat} {cap : List AV} (b : Nat) (hb0 : b ≤ h.length) (hf : ∀ (i : Nat) (hi : i < bs.length), Tests g cap h (.agg (cs i)) bs[i]) :
    WP (call prog b 133 [v, .fn g cap] h) fun r => Old h.length h r.2 ∧ r.1 = .bool (bs.any id) := by
  refine wp_enter (fn := C.slices_ContainsFunc_Tensor) rfl ?_
  dsimp only [bodyN, C.slices_ContainsFunc_Tensor]; simp
  refine wp_call (slices_IndexFunc_TensorM hs hc b hb0 hf) fun v2 h2 ⟨o2, e2⟩ => ?_
  simp only at o2 e2
  subst e2
  try simp
  exact wp_some ⟨o2, by rw [idxFrom_any]⟩
theorem shape_All_1 {t : tensor.den} {cs : List AV} (ht : In h tensor t cs) (b : Nat) (hb : b ≤ h.length) : WP (call prog b 134 [.agg cs] h) fun r => Old h.length h r.2 ∧ r.1 = .bool (!tenOk t) := by
  obtain ⟨vd, vt, rfl, hd, hdt⟩ := holds_tensor ht
  refine wp_enter (fn := C.shape_All_1) rfl ?_
  dsimp only [bodyN, C.shape_All_1]; simp
  generalize hh : h ++ [AObj.cells 0 1 [vd, vt]] = h1
  have o1 : Old h.length h h1 := hh ▸ Old.app
  have b1 : Box h1 h.length [vd, vt] := by rw [← hh]; simp [Box]
  have l1 := o1.1
  refine wq_ptrs b1 (by simp) ?_
  try simp
  refine wp_call (shape_Is (In.old o1 ht) b (by omega)) fun v2 h2 ⟨o2, e2⟩ => ?_
  simp only at o2 e2
  subst e2
  try simp
  exact wp_some ⟨o1.trans (o2.mono l1), rfl⟩
theorem shape_All {v : AV} {l : List tensor.den} (hl : In h tensors l [v]) (b : Nat) (hb : b ≤ h.length) : WP (call prog b 118 [v] h) fun r => Old h.length h r.2 ∧ r.1 = .bool (l.all tenOk) := by
  obtain ⟨ds, hs, hc⟩ := hl.elem
  refine wp_enter (fn := C.shape_All) rfl ?_
  dsimp only [bodyN, C.shape_All]; simp
  refine wp_call (slices_ContainsFunc_TensorM (g := 134) (cap := []) (bs := l.map fun t => !tenOk t) (by rw [List.length_map]; exact hs) (cs := fun i => (ds.drop (i * 2)).take 2) (fun _ _ => rfl) b hb (fun i hi b' h' hb' old' => by
    have hi : i < l.length := by simpa using hi
    have hx := hc i l[i] (List.getElem?_eq_getElem hi)
    have := shape_All_1 (In.old old' hx) b' hb'
    simp only [List.getElem_map]
    exact this)) fun v5 h5 ⟨o5, e5⟩ => ?_
  simp only at o5 e5
  subst e5
  have e : (l.map fun t => !tenOk t).any id = !(l.all tenOk) := by rw [List.any_map, List.not_all_eq_any_not]; rfl
  rw [e]
  try simp
  exact wp_some ⟨o5, by simp⟩
/-- Two tensors that go together number by number. -/
theorem ring_pair {s t : tensor.den} {cs ct : List AV} (hs : In h tensor s cs) (ht : In h tensor t ct) (ks : tenOk s = true) (kt : tenOk t = true) (e : s.1 = t.1) (b : Nat) (hb : b ≤ h.length) : WP (call prog b 194 [.agg cs, .agg ct] h) fun r => Old h.length h r.2 ∧ r.1 = .int .i64 0 := by
  obtain ⟨sd, st, rfl, hsd, hst⟩ := holds_tensor hs
  obtain ⟨td, tt, rfl, htd, htt⟩ := holds_tensor ht
  refine wp_enter (fn := C.ring_pair) rfl ?_
  dsimp only [bodyN, C.ring_pair]; simp
  generalize hh : h ++ [AObj.cells 0 1 [sd, st], AObj.cells 0 1 [td, tt]] = h1
  have o1 : Old h.length h h1 := hh ▸ Old.app
  have b1 : Box h1 h.length [sd, st] := by rw [← hh]; simp [Box]
  have c1 : Box h1 (h.length + 1) [td, tt] := by rw [← hh]; simp [Box]
  have l1 := o1.1
  refine wq_ptrs b1 (by simp) ?_
  try simp
  refine wq_ptrs c1 (by simp) ?_
  try simp
  have H2 := in_new (h := h1) (s := 2) (n := 2) (l := [s, t]) (p := tensor) ⟨_, _, rfl, In.old o1 hs, _, [], (List.append_nil _).symm, In.old o1 ht, rfl⟩ (by simp) (by rfl) (by simp)
  simp at H2
  have o2 : Old h1.length h1 (h1 ++ [AObj.cells 0 2 [sd, st, td, tt]]) := Old.app
  generalize h1 ++ [AObj.cells 0 2 [sd, st, td, tt]] = h2 at *
  have l2 := o2.1
  refine wp_call (shape_All H2 b (by omega)) fun v3 h3 ⟨o3, e3⟩ => ?_
  simp only at o3 e3
  simp [ks, kt] at e3
  subst e3
  have o13 := o1.trans ((o2.trans (o3.mono l2)).mono l1)
  have b3 := (b1.old o2 b1.lt).old o3 (by have := b1.lt; omega)
  have c3 := (c1.old o2 c1.lt).old o3 (by have := c1.lt; omega)
  try simp
  refine wq_ptr b3 rfl ?_
  try simp
  refine wq_ptr c3 rfl ?_
  try simp
  rw [callK_eq (slices_Equal_int (In.old o13 hsd) (In.old o13 htd) _)]
  simp [e]
  exact wp_some ⟨o13, rfl⟩
end
end Go.AM
