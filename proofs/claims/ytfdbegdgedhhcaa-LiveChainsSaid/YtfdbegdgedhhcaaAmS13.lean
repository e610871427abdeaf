/- Leaves, uses; copies. -/
import Derived.Test.YtfdbegdgedhhcaaAmS12
set_option linter.all false
namespace Go.AM
set_option maxRecDepth 20000
set_option maxHeartbeats 1000000
/-- Which nodes up to a place are made of one. -/
def usesUp (l : List node.den) (a : Int) : Nat → List Int
  | 0 => []
  | i + 1 => usesUp l a i ++ (match l[i]? with | some x => if a ∈ x.2.2.1 then [(i : Int)] else [] | none => [])
theorem usesUp_len (l : List node.den) (a : Int) : ∀ i, (usesUp l a i).length ≤ i
  | 0 => Nat.le_refl _
  | i + 1 => by
      have := usesUp_len l a i
      rw [usesUp, List.length_append]
      split
      · split <;> simp <;> omega
      · simp; omega
section
variable {h : Heap}
theorem graph_Leaves {vl : AV} {l : List node.den} (hl : In h nodes l [vl]) (hsm : Small l) (b : Nat) (hb : b ≤ h.length) :
    WP (call prog b 13 [vl] h) fun r => Old h.length h r.2 ∧ ∃ v, r.1 = .tup [v, .int .i64 (if isL l = true then 0 else 1)] ∧ AccP h.length h.length r.2 int v (if isL l = true then ends l else []) := by
  refine wp_enter (fn := C.graph_Leaves) rfl ?_
  dsimp only [bodyN, C.graph_Leaves]; simp
  refine wp_call (graph_Is hl hsm b hb) fun v3 h3 ⟨o3, e3⟩ => ?_
  simp only at o3 e3
  subst e3
  try simp
  refine wp_iteK (fun hm => ?_) fun hm => ?_
  · try simp
    simp only [Bool.not_eq_true'] at hm
    exact wp_some ⟨o3, .nil, by simp [hm], by simp [hm]; exact AccP.nil⟩
  · try simp
    simp only [Bool.not_eq_false'] at hm
    have hlen : l.length ≤ 24 := by
      simp only [isL, Bool.and_eq_true, decide_eq_true_eq] at hm
      omega
    refine wp_call (graph_Ends (In.old o3 hl) (by omega) b (Nat.le_trans hb o3.1)) fun v4 h4 ⟨o4, a4⟩ => ?_
    simp only at o4 a4
    try simp
    exact wp_some ⟨o3.trans (o4.mono o3.1), v4, by simp [hm], by simpa [hm] using a4.mono o3.1 o3.1⟩
theorem graph_Uses {vl : AV} {l : List node.den} (hl : In h nodes l [vl]) (hsm : Small l) {a : Int} (b : Nat) (hb : b ≤ h.length) :
    WP (call prog b 15 [vl, .int .i64 a] h) fun r => Old h.length h r.2 ∧ ∃ v, r.1 = .tup [v, .int .i64 (if mayL l = true then (if 0 ≤ a ∧ a < (l.length : Int) then 0 else 3) else 1)] ∧ AccP h.length h.length r.2 int v (if mayL l = true ∧ 0 ≤ a ∧ a < (l.length : Int) then usesUp l a l.length else []) := by
  refine wp_enter (fn := C.graph_Uses) rfl ?_
  dsimp only [bodyN, C.graph_Uses, C.graph_Uses_l0]; simp
  refine wp_call (graph_May hl hsm b hb) fun v3 h3 ⟨o3, e3⟩ => ?_
  simp only at o3 e3
  subst e3
  try simp
  refine wp_iteK (fun hm => ?_) fun hm => ?_
  · try simp
    simp only [Bool.not_eq_true'] at hm
    exact wp_some ⟨o3, .nil, by simp [hm], by simp [hm]; exact AccP.nil⟩
  try simp
  simp only [Bool.not_eq_false'] at hm
  have hl3 := In.old o3 hl
  refine wp_dec (fun h1 => ?_) fun h1 => ?_
  · try simp
    exact wp_some ⟨o3, .nil, by rw [if_pos hm, if_neg (by omega)], by rw [if_neg (by omega)]; exact AccP.nil⟩
  try simp
  repeat ((first | refine wq_len (by assumption) ?_ | refine wq_idx (by assumption) (by rfl) (by omega) (by omega) ?_ | refine wq_int (by assumption) (by omega) ?_ | refine wq_kind (by assumption) (by omega) ?_ | refine wq_num (by assumption) (by omega) ?_ | refine wq_name (by assumption) (by omega) ?_ | refine wq_ptr (by assumption) rfl ?_ | refine wp_new1 rfl ?_ | refine wq_from (by assumption) (by omega) ?_ | refine wq_to (by assumption) (by omega) ?_ | refine wq_size (by assumption) (by omega) ?_ | refine wq_life (by assumption) (by omega) ?_ | refine wp_guard (by omega) ?_ | refine wq_cells (by assumption) ?_); (try simp))
  refine wp_dec (fun h2 => ?_) fun h2 => ?_
  · try simp
    exact wp_some ⟨o3, .nil, by rw [if_pos hm, if_neg (by omega)], by rw [if_neg (by omega)]; exact AccP.nil⟩
  try simp
  repeat ((first | refine wq_len (by assumption) ?_ | refine wq_idx (by assumption) (by rfl) (by omega) (by omega) ?_ | refine wq_int (by assumption) (by omega) ?_ | refine wq_kind (by assumption) (by omega) ?_ | refine wq_num (by assumption) (by omega) ?_ | refine wq_name (by assumption) (by omega) ?_ | refine wq_ptr (by assumption) rfl ?_ | refine wp_new1 rfl ?_ | refine wq_from (by assumption) (by omega) ?_ | refine wq_to (by assumption) (by omega) ?_ | refine wq_size (by assumption) (by omega) ?_ | refine wq_life (by assumption) (by omega) ?_ | refine wp_guard (by omega) ?_ | refine wq_cells (by assumption) ?_); (try simp))
  have hlen : l.length ≤ 240 := by
    simp only [mayL, Bool.and_eq_true, decide_eq_true_eq] at hm
    omega
  refine wp_loop (I := fun m e h' => Old h3.length h3 h' ∧ ∃ i v, e = (ea 1 (.int .i64 a) <| ea 6 v <| ea 22 vl <| ea 23 (.int .i64 l.length) <| ea 24 (.int .i64 (i : Nat)) e0) ∧ i + m = l.length ∧ AccP h3.length h3.length h' int v (usesUp l a i)) ?_ ⟨Old.refl (Nat.le_refl _), 0, .nil, rfl, Nat.zero_add _, AccP.nil⟩
  rintro N m e h' ⟨old, i, v, rfl, him, acc⟩ next
  have hl' := In.old old hl3
  have ho := old.1
  have ho3 := o3.1
  dsimp only [C.graph_Uses_b0]; simp
  refine wp_dec (fun hi => ?_) fun hi => ?_
  · try simp
    repeat ((first | refine wq_len (by assumption) ?_ | refine wq_idx (by assumption) (by rfl) (by omega) (by omega) ?_ | refine wq_int (by assumption) (by omega) ?_ | refine wq_kind (by assumption) (by omega) ?_ | refine wq_num (by assumption) (by omega) ?_ | refine wq_name (by assumption) (by omega) ?_ | refine wq_ptr (by assumption) rfl ?_ | refine wp_new1 rfl ?_ | refine wq_from (by assumption) (by omega) ?_ | refine wq_to (by assumption) (by omega) ?_ | refine wq_size (by assumption) (by omega) ?_ | refine wq_life (by assumption) (by omega) ?_ | refine wp_guard (by omega) ?_ | refine wq_cells (by assumption) ?_); (try simp))
    refine wq_node hl' (by omega) fun va vd ha hd hn => ?_
    try simp
    refine wq_init (by omega) (by rfl) (by rfl) fun h4 o4 b4 lt4 => ?_
    try simp
    repeat ((first | refine wq_len (by assumption) ?_ | refine wq_idx (by assumption) (by rfl) (by omega) (by omega) ?_ | refine wq_int (by assumption) (by omega) ?_ | refine wq_kind (by assumption) (by omega) ?_ | refine wq_num (by assumption) (by omega) ?_ | refine wq_name (by assumption) (by omega) ?_ | refine wq_ptr (by assumption) rfl ?_ | refine wp_new1 rfl ?_ | refine wq_from (by assumption) (by omega) ?_ | refine wq_to (by assumption) (by omega) ?_ | refine wq_size (by assumption) (by omega) ?_ | refine wq_life (by assumption) (by omega) ?_ | refine wp_guard (by omega) ?_ | refine wq_cells (by assumption) ?_); (try simp))
    rw [callK_eq (slices_Contains_int (In.old o4 ha) a _)]
    try simp
    have old4 := old.trans (o4.mono ho)
    have acc4 := acc.keep o4
    have hul := usesUp_len l a i
    refine wp_dec (fun hq => ?_) fun hq => ?_
    · simp [layAt]
      refine wp_pushI acc4 (by omega) (by omega) old4.1 (by omega) fun v5 h5 o5 acc5 => ?_
      try simp
      rw [succ64 hi (by omega)]
      refine next (m - 1) _ _ (by omega) ⟨old4.trans o5, i + 1, _, rfl, by omega, ?_⟩
      rw [usesUp, List.getElem?_eq_getElem hi]
      simpa [hq] using acc5
    · try simp
      rw [succ64 hi (by omega)]
      refine next (m - 1) _ _ (by omega) ⟨old4, i + 1, _, rfl, by omega, ?_⟩
      rw [usesUp, List.getElem?_eq_getElem hi]
      simpa [hq] using acc4
  · try simp
    have : i = l.length := by omega
    subst this
    exact wp_some ⟨o3.trans (old.mono ho3), v, by rw [if_pos hm, if_pos (by omega)], by rw [if_pos ⟨hm, by omega⟩]; exact acc.mono ho3 ho3⟩
end
end Go.AM
