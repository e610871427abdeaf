/- Numbers in order: turned round, brought in order. -/
import Derived.Test.YtfdbegdgedhhcaaAmS17
set_option linter.all false
namespace Go.AM
set_option maxRecDepth 20000
set_option maxHeartbeats 1000000
attribute [local simp] layAt
attribute [local irreducible] lenK sliceK idxK fldK cutK storeK appK copyK clearK mapAtK callK loopH readK readK1 guardK grdK fnK nilK fieldK extrK strK nextK joinK iteK intK boolK cellsK castK castL castEnv binK unK intBin layParts execN runOpsN runItemsN denN call loop blockK
section
variable {R : Type} {Q : R → Prop} {S : Nat → Prop} {h : Heap}
theorem wp_putI {base f n0 : Nat} {v : AV} {l : List Int} {x : Int} (H : AccP f n0 h int v l) (hx : -9223372036854775808 ≤ x ∧ x ≤ 9223372036854775807) (hb : base ≤ n0) (hn : n0 ≤ h.length) {i : Nat} (hi : i < l.length) {K : Heap → Option R}
    (k : ∀ h', But v h h' → h'.length = h.length → Old n0 h h' → AccP f n0 h' int v (l.set i x) → WP (K h') Q) : WP (storeK base 1 h (addrOf v 1 i 0) (.int .i64 x) K) Q :=
  wp_put (p := int) (x := x) H (holds_int hx) (fun _ => by rw [cellsK_int]) rfl hb hn hi k
theorem wp_putB {base f n0 : Nat} {v : AV} {l : List Bool} {x : Bool} (H : AccP f n0 h .bool v l) (hb : base ≤ n0) (hn : n0 ≤ h.length) {i : Nat} (hi : i < l.length) {K : Heap → Option R}
    (k : ∀ h', But v h h' → h'.length = h.length → Old n0 h h' → AccP f n0 h' .bool v (l.set i x) → WP (K h') Q) : WP (storeK base 1 h (addrOf v 1 i 0) (.bool x) K) Q :=
  wp_put (p := .bool) (x := x) (ys := [.bool x]) H (rfl) (fun _ => by rw [cellsK_bool]) rfl hb hn hi k
theorem wq_bool {l : List Bool} {v : AV} (H : Holds S h (.slice .bool) l [v]) {j : Nat} (hj : j < l.length) {K : AV → Option R} (k : WP (K (.bool l[j])) Q) : WP (readK1 h (addrOf v 1 j 0) 1 K) Q := by
  obtain ⟨ds, hs, hc⟩ := H.elem
  exact wp_cell hs hj (hc j l[j] (List.getElem?_eq_getElem hj)) rfl k
theorem flat_rep {zs : List AV} : ∀ {n i : Nat}, i < n → (((List.replicate n zs).flatten).drop (i * zs.length)).take zs.length = zs
  | 0, i, hi => by omega
  | n + 1, 0, _ => by rw [List.replicate_succ, List.flatten_cons, Nat.zero_mul, List.drop_zero, List.take_left]
  | n + 1, i + 1, hi => by rw [List.replicate_succ, List.flatten_cons, Nat.add_mul, Nat.one_mul, Nat.add_comm, ← List.drop_drop, List.drop_left, flat_rep (by omega)]
/-- A new slice of as many of the same. -/
theorem accp_make {p : PT} {n : Nat} {x : p.den} {zs : List AV} (hz : ∀ (S : Nat → Prop) (h : Heap), Holds S h p x zs) (hn : n ≤ 140737488355328) : AccP h.length h.length (h ++ [.cells 0 p.sz ((List.replicate n zs).flatten)]) p (.ref h.length 0 0 n) (List.replicate n x) := by
  have hl := (hz (fun _ => True) h).len
  refine ⟨(List.replicate n zs).flatten, ?_, fun i y hi => ?_⟩
  · rw [List.length_replicate]
    exact Acc.new (Nat.le_refl _) (by simp [hl]) hn
  · have hin : i < n := by
      have := (List.getElem?_eq_some_iff.1 hi).1
      simpa using this
    rw [List.getElem?_replicate, if_pos hin] at hi
    cases hi
    rw [← hl, flat_rep hin]
    exact hz _ _
theorem slices_Reverse_int {n0 : Nat} {v : AV} {l : List Int} (H : AccP n0 n0 h int v l) (hn : n0 ≤ h.length) (hl : l.length ≤ 1000000) (b : Nat) (hb : b ≤ n0) : WP (call prog b 76 [v] h) fun r => Old n0 h r.2 ∧ AccP n0 n0 r.2 int v l.reverse := by
  refine wp_enter (fn := C.slices_Reverse_int) rfl ?_
  dsimp only [bodyN, C.slices_Reverse_int, C.slices_Reverse_int_l0]; simp
  refine wq_len (H.in (Nat.le_refl _)) ?_
  have w0 : IntKind.i64.wrap ((l.length : Int) - 1) = (l.length : Int) - 1 := w64_id (by omega) (by omega)
  simp [w0]
  refine wp_loop (I := fun m e h' => Old n0 h h' ∧ ∃ (i : Nat) (L : List Int), e = (ea 0 v <| ea 2 (.int .i64 (i : Nat)) <| ea 3 (.int .i64 ((l.length : Int) - 1 - i)) e0) ∧ i + m = l.length ∧ AccP n0 n0 h' int v L ∧ L.length = l.length ∧ 2 * i ≤ l.length + 1 ∧ ∀ k, k < l.length → L[k]? = if k < i ∨ l.length - i ≤ k then l[l.length - 1 - k]? else l[k]?) ?_ (m := l.length) ⟨Old.refl hn, 0, l, by simp, by omega, H, rfl, by omega, fun k hk => by rw [if_neg (by omega)]⟩
  rintro N m e h' ⟨old, i, L, rfl, him, acc, hL, h2i, hk⟩ next
  have hin := acc.in (Nat.le_refl _)
  dsimp only [C.slices_Reverse_int_b0]; simp
  refine wp_dec (fun hi => ?_) fun hi => ?_
  · obtain ⟨j, hj⟩ : ∃ j : Nat, j = l.length - 1 - i := ⟨_, rfl⟩
    have ej : (l.length : Int) - 1 - (i : Int) = (j : Int) := by omega
    have hiL : i < L.length := by omega
    have hjL : j < L.length := by omega
    have r1 := holds_range hin hiL
    have r2 := holds_range hin hjL
    try simp only [ej]
    repeat ((first | refine wq_len (by assumption) ?_ | refine wq_idx (by assumption) (by rfl) (by omega) (by omega) ?_ | refine wq_int (by assumption) (by omega) ?_ | refine wq_kind (by assumption) (by omega) ?_ | refine wq_num (by assumption) (by omega) ?_ | refine wq_name (by assumption) (by omega) ?_ | refine wq_ptr (by assumption) rfl ?_ | refine wp_new1 rfl ?_ | refine wq_from (by assumption) (by omega) ?_ | refine wq_to (by assumption) (by omega) ?_ | refine wq_size (by assumption) (by omega) ?_ | refine wq_life (by assumption) (by omega) ?_ | refine wp_guard (by omega) ?_ | refine wq_cells (by assumption) ?_); (try simp))
    refine wp_putI acc r2 hb old.1 hiL fun h1 _ l1 o1 a1 => ?_
    try simp
    have hin1 := a1.in (Nat.le_refl _)
    refine wq_idx hin1 (by rfl) (by omega) (by rw [List.length_set]; omega) ?_
    try simp
    refine wp_putI a1 r1 hb (by rw [l1]; exact old.1) (by rw [List.length_set]; omega) fun h2 _ l2 o2 a2 => ?_
    have w1 := succ64 (i := i) (n := 1000000) (by omega) (by omega)
    have w2 : IntKind.i64.wrap ((l.length : Int) - 1 - (i : Int) - 1) = (l.length : Int) - 1 - ((i : Int) + 1) := by rw [w64_id (by omega) (by omega)]; omega
    simp [w1, w2]
    refine next (m - 1) _ _ (by omega) ⟨old.trans (o1.trans o2), i + 1, _, rfl, by omega, a2, by simp [hL], by omega, fun k hkl => ?_⟩
    have f1 : L[j]? = l[j]? := by rw [hk j (by omega), if_neg (by omega)]
    have f2 : L[i]? = l[i]? := by rw [hk i (by omega), if_neg (by omega)]
    rw [List.getElem?_eq_getElem hjL] at f1
    rw [List.getElem?_eq_getElem hiL] at f2
    rw [List.getElem?_set, List.getElem?_set]
    simp only [List.length_set, ← hj]
    by_cases c1 : j = k
    · subst c1
      rw [if_pos rfl, if_pos hjL, if_pos (by omega), f2]
      congr 1
      omega
    · rw [if_neg c1]
      by_cases c2 : i = k
      · subst c2
        rw [if_pos rfl, if_pos hiL, if_pos (by omega), f1]
        congr 1
      · rw [if_neg c2, hk k hkl]
        by_cases c3 : k < i ∨ l.length - i ≤ k
        · rw [if_pos c3, if_pos (by omega)]
        · rw [if_neg c3, if_neg (by omega)]
  · try simp
    refine wp_some ⟨old, ?_⟩
    have e : L = l.reverse := by
      apply List.ext_getElem?
      intro k
      rcases Nat.lt_or_ge k l.length with hkl | hkl
      · rw [hk k hkl, List.getElem?_reverse hkl]
        by_cases c3 : k < i ∨ l.length - i ≤ k
        · rw [if_pos c3]
        · rw [if_neg c3]
          congr 1
          omega
      · rw [List.getElem?_eq_none (by omega), List.getElem?_eq_none (by simp; omega)]
    rw [← e]
    exact acc
end
end Go.AM
