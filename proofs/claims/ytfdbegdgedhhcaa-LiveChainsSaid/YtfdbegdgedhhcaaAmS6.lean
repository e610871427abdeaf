/- Nodes: their form, their dims. -/
import Derived.Test.YtfdbegdgedhhcaaAmS5
set_option linter.all false
namespace Go.AM
set_option maxRecDepth 20000
section
variable {h : Heap}
/-- One more node's dims, or the error. -/
def inferE (k n : Int) (d : List Int) (ls : List (List Int)) : List Int × Int :=
  if formOk k n d ls = true then (match inferD k n d ls with | some x => (x, 0) | none => ([], 4)) else ([], 1)
theorem inferD_ne {k n : Int} {d : List Int} {ls : List (List Int)} (hf : formOk k n d ls = true) {x : List Int} (hx : inferD k n d ls = some x) : x ≠ [] := by
  simp only [formOk, Bool.and_eq_true, decide_eq_true_eq, List.all_eq_true] at hf
  obtain ⟨⟨⟨⟨⟨hk1, hk2⟩, hlen⟩, hall⟩, hn⟩, hdd⟩ := hf
  have hd : asked k = true → d ≠ [] := fun h e => by
    rw [if_pos h] at hdd
    have := dimsOk_len hdd
    simp [e] at this
  have ha : 1 ≤ ls.length → ls.getD 0 [] ≠ [] := fun h e => by
    have h0 : ls.getD 0 [] ∈ ls := by
      rw [List.getD_eq_getElem?_getD, List.getElem?_eq_getElem (by omega)]
      exact List.getElem_mem _
    have := dimsOk_len (hall _ h0)
    rw [e] at this
    simp at this
  have ha' : ¬ (k = 1 ∨ k = 2 ∨ k = 3) → ls.getD 0 [] ≠ [] := fun h => ha (by
    unfold many at hlen
    split at hlen
    · omega
    · split at hlen <;> omega)
  have ln : ∀ a : List Int, lessD a n = [] → a = [] := fun a h => List.length_eq_zero_iff.1 (by
    have := congrArg List.length h
    simpa [lessD] using this)
  intro e
  subst e
  unfold inferD at hx
  simp only at hx
  repeat' (split at hx)
  all_goals first
    | exact absurd (Option.some.inj hx) (hd (by simp [asked]; omega))
    | exact absurd (Option.some.inj hx) (ha' (by omega))
    | exact absurd (ln _ (Option.some.inj hx)) (ha' (by omega))
    | cases hx
theorem kernel_Dims {vd vl : AV} {k n : Int} {d : List Int} {ls : List (List Int)} (hd : In h ints d [vd]) (hl : In h (.slice ints) ls [vl]) (b : Nat) (hb : b ≤ h.length) :
    WP (call prog b 99 [.int .i64 k, .int .i64 n, vd, vl] h) fun r => Old h.length h r.2 ∧ ∃ v', r.1 = .tup [v', .int .i64 (inferE k n d ls).2] ∧ AccP h.length h.length r.2 int v' (inferE k n d ls).1 := by
  refine wp_enter (fn := C.kernel_Dims) rfl ?_
  dsimp only [bodyN, C.kernel_Dims]; simp
  rw [callK_eq (kernel_form hd hl k n b)]
  try simp
  refine wp_iteK (fun hf => ?_) fun hf => ?_
  · try simp
    simp only [Bool.not_eq_true'] at hf
    exact wp_some ⟨Old.refl (Nat.le_refl _), .nil, by simp [inferE, hf], by simp [inferE, hf]; exact AccP.nil⟩
  · try simp
    simp only [Bool.not_eq_false'] at hf
    refine wp_call (kernel_dims hd hl hf b hb) fun v' h' ⟨o, a⟩ => ?_
    simp only at o a
    obtain ⟨da, sa, _, _, _⟩ := a.ints
    try simp
    refine wp_len sa ?_
    try simp
    cases hx : inferD k n d ls with
    | none =>
      simp [hx]
      refine wp_some ⟨o, .nil, by simp [inferE, hf, hx], by simp [inferE, hf, hx]; exact AccP.nil⟩
    | some x =>
      have hne := inferD_ne hf hx
      rw [hx] at a
      have hl : ¬ ((x.length : Int) = 0) := fun e => hne (List.length_eq_zero_iff.1 (by omega))
      simp [hx, hne]
      exact wp_some ⟨o, v', by simp [inferE, hf, hx], by simpa [inferE, hf, hx] using a⟩
/-- Are kind, number, dims, arguments' dims of their form? -/
theorem ref1_May {vd vl : AV} {k n : Int} {d : List Int} {ls : List (List Int)} (hd : In h ints d [vd]) (hl : In h (.slice ints) ls [vl]) (b : Nat) :
    call prog b 64 [.int .i64 k, .int .i64 n, vd, vl] h = some (.bool (formOk k n d ls), h) := by
  obtain ⟨ds, el, hs, hc, he, hbl⟩ := hl.lists
  obtain ⟨ds', hs', hc', _, _⟩ := hd.ints
  refine wp_iff.1 (wp_enter (fn := C.ref1_May) rfl ?_)
  dsimp only [bodyN, C.ref1_May, C.ref1_May_l0]; simp
  refine wp_dec (fun h1 => wp_some ?_) fun h1 => ?_
  · have : (decide (1 ≤ k) && decide (k ≤ 17)) = false := by
      unfold manyR at h1
      simp
      (repeat' split at h1) <;> omega
    simp [formOk, this]
  have hk : 1 ≤ k ∧ k ≤ 17 := by
    unfold manyR at h1
    (repeat' split at h1) <;> omega
  have hm : manyR k = many k := by
    unfold manyR many
    (repeat' split) <;> omega
  try simp
  refine wp_len hs ?_
  rw [hm]
  try simp
  refine wp_ndec (fun h2 => wp_some ?_) fun h2 => ?_
  · rw [hm] at h2
    simp [formOk, h2]
  rw [hm] at h2
  refine wp_loop (I := fun m e h' => h' = h ∧ ∃ i, e = (ea 0 (.int .i64 k) <| ea 1 (.int .i64 n) <| ea 2 vd <| ea 3 vl <| ea 9 (.int .i64 (i : Nat)) e0) ∧ i + m = ls.length ∧ (ls.take i).all dimsOk = true) ?_ ⟨rfl, 0, rfl, Nat.zero_add _, rfl⟩
  rintro N m e _ ⟨rfl, i, rfl, him, hall⟩ next
  dsimp only [C.ref1_May_b0]; simp
  refine wp_len hs ?_
  try simp
  refine wp_dec (fun hi => ?_) fun hi => ?_
  · try simp
    refine wp_idx hs rfl hi ?_
    try simp
    refine wp_cell hs hi (hc i hi) rfl ?_
    try simp
    rw [callK_eq (ref1_Dims (he i hi) b)]
    try simp
    refine wp_iteK (fun hn => ?_) fun hn => ?_
    · refine wp_some ?_
      have : ls.all dimsOk = false := by
        rw [List.all_eq_false]
        exact ⟨ls[i], List.getElem_mem hi, by simpa using hn⟩
      simp [formOk, this]
    · try simp
      rw [succ64 hi hbl]
      exact next (m - 1) _ _ (by omega) ⟨rfl, i + 1, rfl, by omega, by
        rw [take_succ_app hi, List.all_append, hall]
        simpa using hn⟩
  · rw [List.take_of_length_le (by omega)] at hall
    have hf : formOk k n d ls = (numberOk k n && (if asked k = true then dimsOk d else decide (d = []))) := by
      simp [formOk, hk, h2, hall]
    cases ha : asked k with
    | true =>
      simp [ha]
      rw [callK_eq (ref1_Dims hd b)]
      try simp
      cases hdd : dimsOk d with
      | false =>
        simp [hdd]
        exact wp_some (by simp [hf, ha, hdd])
      | true =>
        have k8 : ¬ k = 8 := fun e => by subst e; simp [asked] at ha
        have k15 : ¬ k = 15 := fun e => by subst e; simp [asked] at ha
        have k17 : ¬ k = 17 := fun e => by subst e; simp [asked] at ha
        by_cases k3 : k = 3
        · simp [hdd, ha, k3]
          exact wp_some (by rw [k3] at ha hf; simp [hf, ha, hdd, numberOk])
        · simp [hdd, ha, k3, k8, k15, k17]
          exact wp_some (by simp [hf, ha, hdd, numberOk, k3, k8, k15, k17])
    | false =>
      simp [ha]
      refine wp_len hs' ?_
      try simp
      by_cases hdn : d = []
      · subst hdn
        have k3 : ¬ k = 3 := fun e => by subst e; simp [asked] at ha
        by_cases k8 : k = 8
        · simp [ha, k3, k8]
          exact wp_some (by rw [k8] at hf ha; simp [hf, ha, numberOk, k8])
        by_cases k15 : k = 15
        · simp [ha, k3, k8, k15]
          exact wp_some (by rw [k15] at hf ha; simp [hf, ha, numberOk, k15])
        by_cases k17 : k = 17
        · simp [ha, k3, k8, k15, k17]
          exact wp_some (by rw [k17] at hf ha; simp [hf, ha, numberOk, k17])
        simp [ha, k3, k8, k15, k17]
        exact wp_some (by simp [hf, ha, numberOk, k3, k8, k15, k17])
      · have : 0 < d.length := List.length_pos_iff.2 hdn
        simp [this]
        exact wp_some (by simp [hf, ha, hdn])
theorem graph_Asked {x : node.den} {cs : List AV} (hx : In h node x cs) (b : Nat) (hb : b ≤ h.length) :
    WP (call prog b 97 [.agg cs] h) fun r => Old h.length h r.2 ∧ In h ints (if asked x.2.1 = true then x.2.2.2.1 else []) [r.1] := by
  obtain ⟨a, d, rfl, ha, hd, _⟩ := hx.node
  refine wp_enter (fn := C.graph_Asked) rfl ?_
  dsimp only [bodyN, C.graph_Asked]; simp
  refine wp_new1 rfl ?_
  try simp
  refine wp_iteK (fun hk => ?_) fun hk => ?_
  · try simp
    refine wp_new1 rfl ?_
    try simp
    exact wp_some ⟨Old.app, by simpa [hk] using hd⟩
  · try simp
    exact wp_some ⟨Old.app, by simp [hk]; exact ⟨.nil, [], rfl, ⟨Nat.zero_le _, rfl, rfl⟩, fun i x hi => by simp at hi⟩⟩
theorem ref7_Args {v : AV} {l : List Int} (hl : In h ints l [v]) (n : Int) (hn : -9223372036854775807 ≤ n ∧ n ≤ 9223372036854775807) (b : Nat) : call prog b 27 [v, .int .i64 n] h = some (.bool (l.all fun a => decide (0 ≤ a) && decide (a < n)), h) := by
  obtain ⟨ds, hs, hc, _, hb⟩ := hl.ints
  refine wp_iff.1 (wp_enter (fn := C.ref7_Args) rfl ?_)
  dsimp only [bodyN, C.ref7_Args, C.ref7_Args_l0]; simp
  refine wp_loop (I := fun m e h' => h' = h ∧ ∃ i, e = (ea 0 v <| ea 1 (.int .i64 n) <| ea 5 (.int .i64 (i : Nat)) e0) ∧ i + m = l.length ∧ (l.take i).all (fun a => decide (0 ≤ a) && decide (a < n)) = true) ?_ ⟨rfl, 0, rfl, Nat.zero_add _, rfl⟩
  rintro N m e _ ⟨rfl, i, rfl, him, hall⟩ next
  dsimp only [C.ref7_Args_b0]; simp
  refine wp_len hs ?_
  try simp
  refine wp_dec (fun hi => ?_) fun hi => ?_
  · try simp
    refine wp_idx hs rfl hi ?_
    try simp
    refine wp_cell hs hi (hc i hi) rfl ?_
    try simp
    rw [w64_id (n := n - 1) (by omega) (by omega)]
    refine wp_iteK (fun hn => ?_) fun hn => ?_
    · refine wp_some ?_
      have : (l.all fun a => decide (0 ≤ a) && decide (a < n)) = false := by
        rw [List.all_eq_false]
        refine ⟨l[i], List.getElem_mem hi, ?_⟩
        simp at hn ⊢
        omega
      rw [this]
    · try simp
      rw [succ64 hi hb]
      exact next (m - 1) _ _ (by omega) ⟨rfl, i + 1, rfl, by omega, by
        rw [take_succ_app hi, List.all_append, hall]
        simp at hn ⊢
        omega⟩
  · refine wp_some ?_
    rw [List.take_of_length_le (by omega)] at hall
    rw [hall]
end
end Go.AM
