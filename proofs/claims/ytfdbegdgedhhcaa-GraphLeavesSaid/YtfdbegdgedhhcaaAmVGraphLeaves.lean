/- The law GraphLeaves: leaves are made of nothing, what is made of a node stands behind it, a part of a graph may still be nodes. No condition. -/
import Derived.Test.YtfdbegdgedhhcaaAmS14
set_option linter.all false
namespace Go.AM
set_option maxRecDepth 20000
set_option maxHeartbeats 1000000
attribute [local irreducible] lenK sliceK idxK fldK cutK storeK appK copyK clearK mapAtK callK loopH readK readK1 guardK grdK fnK nilK fieldK extrK strK nextK joinK iteK intK boolK cellsK castK castL castEnv binK unK intBin layParts execN runOpsN runItemsN denN call loop blockK
theorem Laws.GraphLeaves (y : ask8.den) (as : List AV) (H : Holds (fun _ => False) [] ask8 y as) : WP (call prog 0 16 [.agg as] []) fun r => r.1 = .bool true := by
  have H0 : In [] ask8 y as := H.mono fun _ h => h.elim
  obtain ⟨vl, vn, vd, rfl, hl, hn, hd⟩ := holds_ask8 H0
  refine wp_enter (fn := C.law8_GraphLeaves) rfl ?_
  dsimp only [bodyN, C.law8_GraphLeaves, C.law8_GraphLeaves_l3]; simp
  generalize hh : [AObj.cells 0 1 [vl, vn, vd]] = h1
  have b1 : Box h1 0 [vl, vn, vd] := by subst hh; simp [Box]
  have o1 : Old ([] : Heap).length [] h1 := ⟨Nat.zero_le _, fun l hl => by simp at hl⟩
  refine wq_ptrs b1 (by simp) ?_
  try simp
  refine wp_call (law8_Heavy (In.old o1 H0) 0 (Nat.zero_le _)) fun v2 h2 ⟨o2, q, e2, light⟩ => ?_
  simp only at o2 e2
  subst e2
  try simp
  refine wp_iteK (fun hq => by (try simp); exact wp_some rfl) fun hq => ?_
  have light := light hq
  have b2 := b1.old o2 b1.lt
  have hl2 := In.old o2 (In.old o1 hl)
  have lt1 := b2.lt
  try simp
  refine wp_loop (I := fun m e h' => Old h2.length h2 h' ∧ ∃ i, e = (ea 1 (.ptr 0 0 0) <| ea 3 (.int .i64 (i : Nat)) e0) ∧ i + m = y.1.length) ?_ ⟨Old.refl (Nat.le_refl _), 0, rfl, Nat.zero_add _⟩
  rintro N m e h3 ⟨o3, i, rfl, him⟩ next
  have b3 := b2.old o3 lt1
  have hl3 := In.old o3 hl2
  have ho3 := o3.1
  have bl := holds_le hl
  -- the end of all rounds
  have fin : ∀ h' (K : AV → Heap → Option (AV × Heap)), (∀ v h, K v h = some (v, h)) → WP (callK (call prog) 0 7 [] h' K) fun r => r.fst = AV.bool true := fun h' K hK => by
    refine wp_call (law8_wakes 0 (Nat.zero_le _)) fun v5 h5 ⟨_, e5⟩ => ?_
    rw [hK]
    exact wp_some e5
  dsimp only [C.law8_GraphLeaves_b3, C.law8_GraphLeaves_l0, C.law8_GraphLeaves_l2]; simp
  repeat ((first | refine wq_len (by assumption) ?_ | refine wq_idx (by assumption) (by rfl) (by omega) (by omega) ?_ | refine wq_int (by assumption) (by omega) ?_ | refine wq_kind (by assumption) (by omega) ?_ | refine wq_num (by assumption) (by omega) ?_ | refine wq_name (by assumption) (by omega) ?_ | refine wq_ptr (by assumption) rfl ?_ | refine wp_new1 rfl ?_ | refine wq_from (by assumption) (by omega) ?_ | refine wq_to (by assumption) (by omega) ?_ | refine wq_size (by assumption) (by omega) ?_ | refine wq_life (by assumption) (by omega) ?_ | refine wp_guard (by omega) ?_ | refine wq_cells (by assumption) ?_); (try simp))
  refine wp_dec (fun hi => ?_) fun hi => by (try simp); exact fin h3 _ fun _ _ => by simp
  try simp
  refine wp_dec (fun h5 => ?_) fun h5 => by (try simp); exact fin h3 _ fun _ _ => by simp
  try simp
  repeat ((first | refine wq_len (by assumption) ?_ | refine wq_idx (by assumption) (by rfl) (by omega) (by omega) ?_ | refine wq_int (by assumption) (by omega) ?_ | refine wq_kind (by assumption) (by omega) ?_ | refine wq_num (by assumption) (by omega) ?_ | refine wq_name (by assumption) (by omega) ?_ | refine wq_ptr (by assumption) rfl ?_ | refine wp_new1 rfl ?_ | refine wq_from (by assumption) (by omega) ?_ | refine wq_to (by assumption) (by omega) ?_ | refine wq_size (by assumption) (by omega) ?_ | refine wq_life (by assumption) (by omega) ?_ | refine wp_guard (by omega) ?_ | refine wq_cells (by assumption) ?_); (try simp))
  refine wq_sub hl3 (by omega) fun u hu => ?_
  try simp
  obtain ⟨hsm, hlen⟩ := light_small light (List.getElem_mem hi)
  refine wp_call (graph_Leaves hu hsm 0 (Nat.zero_le _)) fun v4 h4 ⟨o4, v4', e4, a4⟩ => ?_
  simp only at o4 e4 a4
  subst e4
  try simp
  have o34 := o3.trans (o4.mono ho3)
  have nexti : ∀ h', Old h2.length h2 h' → WP (N (ea 1 (.ptr 0 0 0) <| ea 3 (.int .i64 (IntKind.i64.wrap ((i : Int) + 1))) e0) h') fun r => r.fst = AV.bool true := fun h' o => by
    rw [succ64 hi bl]
    exact next (m - 1) _ _ (by omega) ⟨o, i + 1, rfl, by omega⟩
  generalize y.1[i] = l at *
  refine wp_iteK (fun hm => nexti h4 o34) fun hm => ?_
  simp only [Bool.not_eq_false'] at hm
  simp only [hm, if_true] at a4
  have hmay := isL_may hm
  have hx := a4.in (Nat.le_refl _)
  have hu4 := In.old o4 hu
  refine wp_loop (I := fun m2 e h' => Old h4.length h4 h' ∧ ∃ k, e = (ea 1 (.ptr 0 0 0) <| ea 3 (.int .i64 (i : Nat)) <| ea 4 u <| ea 5 v4' <| ea 7 (.int .i64 (k : Nat)) e0) ∧ k + m2 = (ends l).length) ?_ ⟨Old.refl (Nat.le_refl _), 0, rfl, Nat.zero_add _⟩
  rintro N2 m2 e h5 ⟨o5, k, rfl, hkm⟩ next2
  have hx5 := In.old o5 hx
  have hu5 := In.old o5 hu4
  have bx := holds_le hx
  dsimp only [C.law8_GraphLeaves_b0, C.law8_GraphLeaves_l1]; simp
  repeat ((first | refine wq_len (by assumption) ?_ | refine wq_idx (by assumption) (by rfl) (by omega) (by omega) ?_ | refine wq_int (by assumption) (by omega) ?_ | refine wq_kind (by assumption) (by omega) ?_ | refine wq_num (by assumption) (by omega) ?_ | refine wq_name (by assumption) (by omega) ?_ | refine wq_ptr (by assumption) rfl ?_ | refine wp_new1 rfl ?_ | refine wq_from (by assumption) (by omega) ?_ | refine wq_to (by assumption) (by omega) ?_ | refine wq_size (by assumption) (by omega) ?_ | refine wq_life (by assumption) (by omega) ?_ | refine wp_guard (by omega) ?_ | refine wq_cells (by assumption) ?_); (try simp))
  refine wp_dec (fun hk => ?_) fun hk => ?_
  · try simp
    repeat ((first | refine wq_len (by assumption) ?_ | refine wq_idx (by assumption) (by rfl) (by omega) (by omega) ?_ | refine wq_int (by assumption) (by omega) ?_ | refine wq_kind (by assumption) (by omega) ?_ | refine wq_num (by assumption) (by omega) ?_ | refine wq_name (by assumption) (by omega) ?_ | refine wq_ptr (by assumption) rfl ?_ | refine wp_new1 rfl ?_ | refine wq_from (by assumption) (by omega) ?_ | refine wq_to (by assumption) (by omega) ?_ | refine wq_size (by assumption) (by omega) ?_ | refine wq_life (by assumption) (by omega) ?_ | refine wp_guard (by omega) ?_ | refine wq_cells (by assumption) ?_); (try simp))
    obtain ⟨q1, q2, hc, kc⟩ := mem_ends' (List.getElem_mem hk)
    have hn := ends_noargs hmay hc kc
    have q3 : (ends l)[k] ≤ (l.length : Int) - 1 := by omega
    rw [w64_id (by omega) (by omega)]
    simp [q1, q3]
    repeat ((first | refine wq_len (by assumption) ?_ | refine wq_idx (by assumption) (by rfl) (by omega) (by omega) ?_ | refine wq_int (by assumption) (by omega) ?_ | refine wq_kind (by assumption) (by omega) ?_ | refine wq_num (by assumption) (by omega) ?_ | refine wq_name (by assumption) (by omega) ?_ | refine wq_ptr (by assumption) rfl ?_ | refine wp_new1 rfl ?_ | refine wq_from (by assumption) (by omega) ?_ | refine wq_to (by assumption) (by omega) ?_ | refine wq_size (by assumption) (by omega) ?_ | refine wq_life (by assumption) (by omega) ?_ | refine wp_guard (by omega) ?_ | refine wq_cells (by assumption) ?_); (try simp))
    refine wq_args hu5 hc fun ua hua => ?_
    rw [hn] at hua
    try simp
    repeat ((first | refine wq_len (by assumption) ?_ | refine wq_idx (by assumption) (by rfl) (by omega) (by omega) ?_ | refine wq_int (by assumption) (by omega) ?_ | refine wq_kind (by assumption) (by omega) ?_ | refine wq_num (by assumption) (by omega) ?_ | refine wq_name (by assumption) (by omega) ?_ | refine wq_ptr (by assumption) rfl ?_ | refine wp_new1 rfl ?_ | refine wq_from (by assumption) (by omega) ?_ | refine wq_to (by assumption) (by omega) ?_ | refine wq_size (by assumption) (by omega) ?_ | refine wq_life (by assumption) (by omega) ?_ | refine wp_guard (by omega) ?_ | refine wq_cells (by assumption) ?_); (try simp))
    rw [succ64 hk bx]
    exact next2 (m2 - 1) _ _ (by omega) ⟨o5, k + 1, rfl, by omega⟩
  · try simp
    refine wp_loop (I := fun m2 e h' => Old h4.length h4 h' ∧ ∃ k, e = (ea 1 (.ptr 0 0 0) <| ea 3 (.int .i64 (i : Nat)) <| ea 4 u <| ea 8 (.int .i64 (k : Nat)) e0) ∧ k + m2 = l.length) ?_ ⟨o5, 0, rfl, Nat.zero_add _⟩
    rintro N3 m3 e h6 ⟨o6, k, rfl, hkm⟩ next3
    have hu6 := In.old o6 hu4
    dsimp only [C.law8_GraphLeaves_b2, C.law8_GraphLeaves_l1]; simp
    repeat ((first | refine wq_len (by assumption) ?_ | refine wq_idx (by assumption) (by rfl) (by omega) (by omega) ?_ | refine wq_int (by assumption) (by omega) ?_ | refine wq_kind (by assumption) (by omega) ?_ | refine wq_num (by assumption) (by omega) ?_ | refine wq_name (by assumption) (by omega) ?_ | refine wq_ptr (by assumption) rfl ?_ | refine wp_new1 rfl ?_ | refine wq_from (by assumption) (by omega) ?_ | refine wq_to (by assumption) (by omega) ?_ | refine wq_size (by assumption) (by omega) ?_ | refine wq_life (by assumption) (by omega) ?_ | refine wp_guard (by omega) ?_ | refine wq_cells (by assumption) ?_); (try simp))
    refine wp_dec (fun hk => ?_) fun hk => ?_
    · try simp
      refine wp_call (graph_Uses hu6 hsm 0 (Nat.zero_le _)) fun v7 h7 ⟨o7, v7', e7, a7⟩ => ?_
      simp only at o7 e7 a7
      rw [if_pos hmay, if_pos (by omega)] at e7
      rw [if_pos ⟨hmay, by omega⟩] at a7
      subst e7
      try simp
      have o67 := o6.trans (o7.mono o6.1)
      have hy := a7.in (Nat.le_refl _)
      have hu7 := In.old o7 hu6
      refine wp_loop (I := fun m2 e h' => h' = h7 ∧ ∃ j, e = (ea 1 (.ptr 0 0 0) <| ea 3 (.int .i64 (i : Nat)) <| ea 4 u <| ea 8 (.int .i64 (k : Nat)) <| ea 9 v7' <| ea 11 (.int .i64 (j : Nat)) e0) ∧ j + m2 = (usesUp l k l.length).length) ?_ ⟨rfl, 0, rfl, Nat.zero_add _⟩
      rintro N4 m4 e _ ⟨rfl, j, rfl, hjm⟩ next4
      have by' := holds_le hy
      dsimp only [C.law8_GraphLeaves_b1]; simp
      repeat ((first | refine wq_len (by assumption) ?_ | refine wq_idx (by assumption) (by rfl) (by omega) (by omega) ?_ | refine wq_int (by assumption) (by omega) ?_ | refine wq_kind (by assumption) (by omega) ?_ | refine wq_num (by assumption) (by omega) ?_ | refine wq_name (by assumption) (by omega) ?_ | refine wq_ptr (by assumption) rfl ?_ | refine wp_new1 rfl ?_ | refine wq_from (by assumption) (by omega) ?_ | refine wq_to (by assumption) (by omega) ?_ | refine wq_size (by assumption) (by omega) ?_ | refine wq_life (by assumption) (by omega) ?_ | refine wp_guard (by omega) ?_ | refine wq_cells (by assumption) ?_); (try simp))
      refine wp_dec (fun hj => ?_) fun hj => ?_
      · try simp
        repeat ((first | refine wq_len (by assumption) ?_ | refine wq_idx (by assumption) (by rfl) (by omega) (by omega) ?_ | refine wq_int (by assumption) (by omega) ?_ | refine wq_kind (by assumption) (by omega) ?_ | refine wq_num (by assumption) (by omega) ?_ | refine wq_name (by assumption) (by omega) ?_ | refine wq_ptr (by assumption) rfl ?_ | refine wp_new1 rfl ?_ | refine wq_from (by assumption) (by omega) ?_ | refine wq_to (by assumption) (by omega) ?_ | refine wq_size (by assumption) (by omega) ?_ | refine wq_life (by assumption) (by omega) ?_ | refine wp_guard (by omega) ?_ | refine wq_cells (by assumption) ?_); (try simp))
        obtain ⟨q1, q2, _, hc, kc⟩ := mem_usesUp' (List.getElem_mem hj)
        have hlt : (k : Int) < (usesUp l k l.length)[j] := by
          have h1 := argsOk_at (nodeOk_parts (mayL_at hmay hc)).1 kc
          rw [List.length_take] at h1
          omega
        refine wp_dec (fun hle => by omega) fun _ => ?_
        try simp
        rw [succ64 hj by']
        exact next4 (m4 - 1) _ _ (by omega) ⟨rfl, j + 1, rfl, by omega⟩
      · try simp
        repeat ((first | refine wq_len (by assumption) ?_ | refine wq_idx (by assumption) (by rfl) (by omega) (by omega) ?_ | refine wq_int (by assumption) (by omega) ?_ | refine wq_kind (by assumption) (by omega) ?_ | refine wq_num (by assumption) (by omega) ?_ | refine wq_name (by assumption) (by omega) ?_ | refine wq_ptr (by assumption) rfl ?_ | refine wp_new1 rfl ?_ | refine wq_from (by assumption) (by omega) ?_ | refine wq_to (by assumption) (by omega) ?_ | refine wq_size (by assumption) (by omega) ?_ | refine wq_life (by assumption) (by omega) ?_ | refine wp_guard (by omega) ?_ | refine wq_cells (by assumption) ?_); (try simp))
        refine wp_cut (p := node) hu7 rfl (a := 0) (b := k) (by omega) (by omega) (by rfl) (by rfl) fun v' hv' => ?_
        try simp
        have ht : (l.drop 0).take (k - 0) = l.take k := by simp
        rw [ht] at hv'
        refine wp_call (graph_Nodes hv' (fun x hx => hsm x (List.mem_of_mem_take hx)) 0 (Nat.zero_le _)) fun v8 h8 ⟨o8, e8⟩ => ?_
        simp only at o8 e8
        rw [if_pos (mayL_take hmay k)] at e8
        subst e8
        try simp
        rw [succ64 hk (by omega)]
        exact next3 (m3 - 1) _ _ (by omega) ⟨o67.trans (o8.mono o67.1), k + 1, rfl, by omega⟩
    · try simp
      exact nexti h6 (o34.trans (o6.mono o34.1))
end Go.AM
