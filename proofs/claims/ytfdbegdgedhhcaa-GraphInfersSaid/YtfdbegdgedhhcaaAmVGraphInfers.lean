/- The law GraphInfers: what one more node would be is the page's, or the error is. No condition. -/
import Derived.Test.YtfdbegdgedhhcaaAmS14
set_option linter.all false
namespace Go.AM
set_option maxRecDepth 20000
set_option maxHeartbeats 1000000
attribute [local simp] layAt
attribute [local irreducible] lenK sliceK idxK fldK cutK storeK appK copyK clearK mapAtK callK loopH readK readK1 guardK grdK fnK nilK fieldK extrK strK nextK joinK iteK intK boolK cellsK castK castL castEnv binK unK intBin layParts execN runOpsN runItemsN denN call loop blockK
theorem inferL_err {l : List node.den} {k n : Int} {d args : List Int} (h : (inferL l k n d args).2 ≠ 0) : (inferL l k n d args).1 = [] := by
  rw [inferL] at h ⊢
  split at h
  · rename_i h1
    rw [if_pos h1]
    rw [inferE] at h ⊢
    split at h
    · rename_i h2
      rw [if_pos h2]
      cases hx : inferD k n d (args.map (dimsAt l)) with
      | none => rfl
      | some x => rw [hx] at h; exact absurd rfl h
    · rename_i h2
      rw [if_neg h2]
  · rename_i h1
    rw [if_neg h1]
theorem Laws.GraphInfers (y : ask8.den) (as : List AV) (H : Holds (fun _ => False) [] ask8 y as) : WP (call prog 0 8 [.agg as] []) fun r => r.1 = .bool true := by
  have H0 : In [] ask8 y as := H.mono fun _ h => h.elim
  obtain ⟨vl, vn, vd, rfl, hl, hn, hd⟩ := holds_ask8 H0
  refine wp_enter (fn := C.law8_GraphInfers) rfl ?_
  dsimp only [bodyN, C.law8_GraphInfers, C.law8_GraphInfers_l3]; simp
  generalize hh : [AObj.cells 0 1 [vl, vn, vd]] = h1
  have b1 : Box h1 0 [vl, vn, vd] := by subst hh; simp [Box]
  have o1 : Old ([] : Heap).length [] h1 := ⟨Nat.zero_le _, fun l hl => by simp at hl⟩
  refine wq_ptrs b1 (by simp) ?_
  try simp
  refine wp_call (law8_Heavy (In.old o1 H0) 0 (Nat.zero_le _)) fun v2 h2 ⟨o2, q, e2, light⟩ => ?_
  simp only at o2 e2
  subst e2
  try simp
  refine wp_iteK (fun hq => by (try simp); exact wp_some rfl) fun hq => ?_
  have light := light hq
  have b2 := b1.old o2 b1.lt
  have hl2 := In.old o2 (In.old o1 hl)
  have hn2 := In.old o2 (In.old o1 hn)
  have hd2 := In.old o2 (In.old o1 hd)
  have lt1 := b2.lt
  have bn : y.2.1.length ≤ 1200 ∧ y.2.2.length ≤ 1200 := by
    rw [light8, wLists] at light
    omega
  try simp
  -- numbers
  have an := (AccP.newInts (h := h2) (l := [0, 2, 5]) (by simp) (by simp)).floor (Nat.zero_le _)
  simp at an
  have ho : Old h2.length h2 (h2 ++ [AObj.cells 0 1 [AV.int IntKind.i64 0, AV.int IntKind.i64 2, AV.int IntKind.i64 5]]) := Old.app
  generalize h2 ++ [AObj.cells 0 1 [AV.int IntKind.i64 0, AV.int IntKind.i64 2, AV.int IntKind.i64 5]] = h3 at *
  have b3 := b2.old ho lt1
  repeat ((first | refine wq_len (by assumption) ?_ | refine wq_idx (by assumption) (by rfl) (by omega) (by omega) ?_ | refine wq_int (by assumption) (by omega) ?_ | refine wq_kind (by assumption) (by omega) ?_ | refine wq_num (by assumption) (by omega) ?_ | refine wq_name (by assumption) (by omega) ?_ | refine wq_ptr (by assumption) rfl ?_ | refine wp_new1 rfl ?_ | refine wq_from (by assumption) (by omega) ?_ | refine wq_to (by assumption) (by omega) ?_ | refine wq_size (by assumption) (by omega) ?_ | refine wq_life (by assumption) (by omega) ?_ | refine wp_guard (by omega) ?_ | refine wq_cells (by assumption) ?_); (try simp))
  obtain ⟨dn, sn, cn⟩ := (Holds.old ho (Nat.le_refl _) hn2).elem
  have lenn := sn.len
  simp only [PT.sz] at lenn sn
  refine wp_slice sn ?_
  try simp
  refine wp_len sn ?_
  try simp
  refine wp_guard (by omega) ?_
  refine wp_pushS (p := int) (l2 := y.2.1) an sn cn (fun _ h => h) rfl (Nat.zero_le _) ho.1 (by simp only [List.length_cons, List.length_nil]; omega) (by simp only [List.length_cons, List.length_nil]; omega) fun v4 h4 _ o4 a4 => ?_
  try simp
  -- dims
  have o24 := ho.trans o4
  have hd4 := Holds.old o24 (Nat.le_refl _) hd2
  have hl4 := In.old o24 hl2
  have b4 := b3.old o4 lt1
  have in4 := a4.in (Nat.zero_le _)
  have H1 := in_ints (h := h4) (l := [2, 2]) (by simp) (by simp)
  have H2 := accp_new (s := 1) (n := 2) (l := [[], [2, 2]]) (p := ints) ⟨[.nil], _, rfl, in_nil, [_], [], rfl, H1, rfl⟩ (by simp) (by rfl) (by simp)
  simp at H2
  have o45 : Old h4.length h4 (h4 ++ [AObj.cells 0 1 [AV.int IntKind.i64 2, AV.int IntKind.i64 2], AObj.cells 0 1 [AV.nil, AV.ref h4.length 0 0 2]]) := Old.app
  generalize hh5 : h4 ++ [AObj.cells 0 1 [AV.int IntKind.i64 2, AV.int IntKind.i64 2], AObj.cells 0 1 [AV.nil, AV.ref h4.length 0 0 2]] = h5 at *
  have b5 := b4.old o45 b4.lt
  repeat ((first | refine wq_len (by assumption) ?_ | refine wq_idx (by assumption) (by rfl) (by omega) (by omega) ?_ | refine wq_int (by assumption) (by omega) ?_ | refine wq_kind (by assumption) (by omega) ?_ | refine wq_num (by assumption) (by omega) ?_ | refine wq_name (by assumption) (by omega) ?_ | refine wq_ptr (by assumption) rfl ?_ | refine wp_new1 rfl ?_ | refine wq_from (by assumption) (by omega) ?_ | refine wq_to (by assumption) (by omega) ?_ | refine wq_size (by assumption) (by omega) ?_ | refine wq_life (by assumption) (by omega) ?_ | refine wp_guard (by omega) ?_ | refine wq_cells (by assumption) ?_); (try simp))
  have hd5 := Holds.old o45 o24.1 hd4
  obtain ⟨dd, sd, cd⟩ := hd5.elem
  have lend := sd.len
  simp only [PT.sz] at lend sd
  refine wp_slice sd ?_
  try simp
  refine wp_len sd ?_
  try simp
  refine wp_guard (by omega) ?_
  refine wp_pushS (p := ints) (l2 := y.2.2) H2 sd cd (fun _ h => by have := o24.1; omega) rfl (Nat.zero_le _) (by rw [← hh5]; simp) (by simp only [List.length_cons, List.length_nil]; omega) (by simp only [List.length_cons, List.length_nil]; omega) fun v6 h6 _ o6 a6 => ?_
  try simp
  have o46 : Old h4.length h4 h6 := o45.trans (o6.mono (by omega))
  have ins := In.old o46 in4
  have ids := a6.in (Nat.zero_le _)
  have hl6 := In.old o46 hl4
  have b6 := b4.old o46 b4.lt
  have lt6 := b6.lt
  generalize hns : ([0, 2, 5] : List Int) ++ y.2.1 = ns at *
  generalize hds : ([[], [2, 2]] : List (List Int)) ++ y.2.2 = dd at *
  have nsl : 1 ≤ ns.length ∧ ns.length ≤ 1300 := by rw [← hns]; simp; omega
  have dsl : 1 ≤ dd.length ∧ dd.length ≤ 1300 := by rw [← hds]; simp; omega
  refine wp_loop (I := fun m e h' => Old h6.length h6 h' ∧ ∃ i, e = (ea 1 (.ptr 0 0 0) <| ea 3 v4 <| ea 4 v6 <| ea 5 (.int .i64 (i : Nat)) e0) ∧ i + m = y.1.length) ?_ ⟨Old.refl (Nat.le_refl _), 0, rfl, Nat.zero_add _⟩
  rintro N m e h7 ⟨o7, i, rfl, him⟩ next
  have b7 := b6.old o7 lt6
  have hl7 := In.old o7 hl6
  have bl := holds_le hl
  -- the end of all rounds
  have fin : ∀ h' (K : AV → Heap → Option (AV × Heap)), (∀ v h, K v h = some (v, h)) → WP (callK (call prog) 0 7 [] h' K) fun r => r.fst = AV.bool true := fun h' K hK => by
    refine wp_call (law8_wakes 0 (Nat.zero_le _)) fun v5 h5 ⟨_, e5⟩ => ?_
    rw [hK]
    exact wp_some e5
  have fin1 : dimsOk [1] = true := by decide +kernel
  dsimp only [C.law8_GraphInfers_b3, C.law8_GraphInfers_l2]; simp
  have one : ∀ h0 : Heap, call prog 0 6 [.ref h0.length 0 0 1] (h0 ++ [AObj.cells 0 1 [AV.int IntKind.i64 1]]) = some (.bool true, h0 ++ [AObj.cells 0 1 [AV.int IntKind.i64 1]]) := fun h0 => by
    have := ref1_Dims (in_ints (h := h0) (l := [1]) (by simp) (by simp)) 0
    simpa [fin1] using this
  repeat ((first | refine wq_len (by assumption) ?_ | refine wq_idx (by assumption) (by rfl) (by omega) (by omega) ?_ | refine wq_int (by assumption) (by omega) ?_ | refine wq_kind (by assumption) (by omega) ?_ | refine wq_num (by assumption) (by omega) ?_ | refine wq_name (by assumption) (by omega) ?_ | refine wq_ptr (by assumption) rfl ?_ | refine wp_new1 rfl ?_ | refine wq_from (by assumption) (by omega) ?_ | refine wq_to (by assumption) (by omega) ?_ | refine wq_size (by assumption) (by omega) ?_ | refine wq_life (by assumption) (by omega) ?_ | refine wp_guard (by omega) ?_ | refine wq_cells (by assumption) ?_); (try simp))
  refine wp_dec (fun hi => ?_) fun hi => by
    try simp
    rw [callK_eq (one _)]
    try simp
    exact fin _ _ fun _ _ => by simp
  try simp
  refine wp_dec (fun h5 => ?_) fun h5 => by
    try simp
    rw [callK_eq (one _)]
    try simp
    exact fin _ _ fun _ _ => by simp
  try simp
  repeat ((first | refine wq_len (by assumption) ?_ | refine wq_idx (by assumption) (by rfl) (by omega) (by omega) ?_ | refine wq_int (by assumption) (by omega) ?_ | refine wq_kind (by assumption) (by omega) ?_ | refine wq_num (by assumption) (by omega) ?_ | refine wq_name (by assumption) (by omega) ?_ | refine wq_ptr (by assumption) rfl ?_ | refine wp_new1 rfl ?_ | refine wq_from (by assumption) (by omega) ?_ | refine wq_to (by assumption) (by omega) ?_ | refine wq_size (by assumption) (by omega) ?_ | refine wq_life (by assumption) (by omega) ?_ | refine wp_guard (by omega) ?_ | refine wq_cells (by assumption) ?_); (try simp))
  refine wq_sub hl7 (by omega) fun u hu => ?_
  try simp
  obtain ⟨hsm, hlen⟩ := light_small light (List.getElem_mem hi)
  generalize y.1[i] = l at *
  refine wp_call (ref7_Nodes hu hsm 0 (Nat.zero_le _)) fun v8 h8 ⟨o8, e8⟩ => ?_
  simp only at o8 e8
  subst e8
  try simp
  have o78 := o7.trans (o8.mono o7.1)
  have hu8 := In.old o8 hu
  refine wp_loop (I := fun m2 e h' => Old h8.length h8 h' ∧ ∃ k, e = (ea 1 (.ptr 0 0 0) <| ea 3 v4 <| ea 4 v6 <| ea 5 (.int .i64 (i : Nat)) <| ea 6 u <| ea 7 (.bool (mayL l)) <| ea 8 (.int .i64 (k : Nat)) e0) ∧ k + m2 = 19) ?_ ⟨Old.refl (Nat.le_refl _), 0, rfl, Nat.zero_add _⟩
  rintro N2 m2 e h9 ⟨o9, k, rfl, hkm⟩ next2
  have o89 := o78.trans (o9.mono o78.1)
  dsimp only [C.law8_GraphInfers_b2, C.law8_GraphInfers_l1]; simp
  refine wp_dec (fun hk => ?_) fun hk => by
    try simp
    rw [succ64 hi bl]
    exact next (m - 1) _ _ (by omega) ⟨o89, i + 1, rfl, by omega⟩
  try simp
  refine wp_loop (I := fun m3 e h' => Old h9.length h9 h' ∧ ∃ j, e = (ea 1 (.ptr 0 0 0) <| ea 3 v4 <| ea 4 v6 <| ea 5 (.int .i64 (i : Nat)) <| ea 6 u <| ea 7 (.bool (mayL l)) <| ea 8 (.int .i64 (k : Nat)) <| ea 9 (.int .i64 (j : Nat)) e0) ∧ j + m3 = 8) ?_ ⟨Old.refl (Nat.le_refl _), 0, rfl, Nat.zero_add _⟩
  rintro N3 m3 e h10 ⟨o10, j, rfl, hjm⟩ next3
  have o910 := o89.trans (o10.mono o89.1)
  have o810 := o9.trans (o10.mono o9.1)
  dsimp only [C.law8_GraphInfers_b1, C.law8_GraphInfers_l0]; simp
  refine wp_dec (fun hj => ?_) fun hj => by
    try simp
    rw [succ64 (n := 19) (by omega) (by omega)]
    exact next2 (m2 - 1) _ _ (by omega) ⟨o810, k + 1, rfl, by omega⟩
  try simp
  have ins10 := In.old o910 ins
  have ids10 := In.old o910 ids
  have hu10 := In.old o810 hu8
  have w1 : IntKind.i64.wrap ((j : Int) + (k : Int)) = (j : Int) + (k : Int) := w64_id (by omega) (by omega)
  have w2 : IntKind.i64.wrap ((j : Int) + (i : Int)) = (j : Int) + (i : Int) := w64_id (by omega) (by omega)
  have r1 := Int.emod_nonneg ((j : Int) + (k : Int)) (b := (ns.length : Int)) (by omega)
  have r2 := Int.emod_lt_of_pos ((j : Int) + (k : Int)) (b := (ns.length : Int)) (by omega)
  have r3 := Int.emod_nonneg ((j : Int) + (i : Int)) (b := (dd.length : Int)) (by omega)
  have r4 := Int.emod_lt_of_pos ((j : Int) + (i : Int)) (b := (dd.length : Int)) (by omega)
  have t1 : ((j : Int) + (k : Int)).tmod ns.length = ((j : Int) + (k : Int)) % ns.length := Int.tmod_eq_emod_of_nonneg (by omega)
  have t2 : ((j : Int) + (i : Int)).tmod dd.length = ((j : Int) + (i : Int)) % dd.length := Int.tmod_eq_emod_of_nonneg (by omega)
  have hne : ¬ ns = [] := fun e => by simp [e] at nsl
  have hde : ¬ dd = [] := fun e => by simp [e] at dsl
  refine wq_len ins10 ?_
  try simp [w1, t1, hne]
  refine wq_idx ins10 (by rfl) r1 r2 ?_
  have r1' : (((j : Int) + (k : Int)) % ns.length).toNat < ns.length := by omega
  try simp
  refine wq_int ins10 r1' ?_
  try simp
  refine wq_len ids10 ?_
  try simp [w2, t2, hde]
  refine wq_idx ids10 (by rfl) r3 r4 ?_
  have r3' : (((j : Int) + (i : Int)) % dd.length).toNat < dd.length := by omega
  try simp
  refine wq_sub ids10 r3' fun ud hud => ?_
  try simp
  -- the arguments
  refine wp_loop (I := fun m4 e h' => Old h10.length h10 h' ∧ ∃ (c : Nat) (va : AV) (args : List Int), e = (ea 1 (.ptr 0 0 0) <| ea 3 v4 <| ea 4 v6 <| ea 5 (.int .i64 (i : Nat)) <| ea 6 u <| ea 7 (.bool (mayL l)) <| ea 8 (.int .i64 (k : Nat)) <| ea 9 (.int .i64 (j : Nat)) <| ea 10 (.int .i64 (ns[(((j : Int) + (k : Int)) % ns.length).toNat]'r1')) <| ea 11 ud <| ea 12 va <| ea 13 (.int .i64 (c : Nat)) e0) ∧ c + m4 = j % 3 ∧ args.length = c ∧ AccP h10.length h10.length h' int va args) ?_ ⟨Old.refl (Nat.le_refl _), 0, .nil, [], rfl, Nat.zero_add _, rfl, AccP.nil⟩
  rintro N4 m4 e h11 ⟨o11, c, va, args, rfl, hcm, hcl, acc⟩ next4
  have ins11 := In.old o11 ins10
  have hu11 := In.old o11 hu10
  have t3 : (j : Int).tmod 3 = ((j % 3 : Nat) : Int) := by rw [Int.tmod_eq_emod_of_nonneg (by omega)]; rfl
  dsimp only [C.law8_GraphInfers_b0]; simp [t3]
  refine wp_dec (fun hc => ?_) fun hc => ?_
  · have w3 : IntKind.i64.wrap ((j : Int) + (c : Int)) = (j : Int) + (c : Int) := w64_id (by omega) (by omega)
    have t4 : ((j : Int) + (c : Int)).tmod ns.length = ((j : Int) + (c : Int)) % ns.length := Int.tmod_eq_emod_of_nonneg (by omega)
    have r5 := Int.emod_nonneg ((j : Int) + (c : Int)) (b := (ns.length : Int)) (by omega)
    have r6 := Int.emod_lt_of_pos ((j : Int) + (c : Int)) (b := (ns.length : Int)) (by omega)
    have r7 : (((j : Int) + (c : Int)) % ns.length).toNat < ns.length := by omega
    have w4 : IntKind.i64.wrap ((l.length : Int) + 1) = (l.length : Int) + 1 := w64_id (by omega) (by omega)
    have n0 : ¬ ((l.length : Int) + 1 = 0) := by omega
    have w5 := succ64 (i := c) (n := 3) (by omega) (by omega)
    refine wq_len ins11 ?_
    try simp [w3, t4, hne]
    refine wq_idx ins11 (by rfl) r5 r6 ?_
    try simp
    refine wq_int ins11 r7 ?_
    try simp
    refine wq_len hu11 ?_
    simp [w4]
    refine wp_guard n0 ?_
    have b1 := Int.tmod_lt_of_pos (ns[(((j : Int) + (c : Int)) % ns.length).toNat]'r7) (b := (l.length : Int) + 1) (by omega)
    have b2 := Int.lt_tmod_of_pos (ns[(((j : Int) + (c : Int)) % ns.length).toNat]'r7) (b := (l.length : Int) + 1) (by omega)
    try simp
    refine wp_pushI acc (by omega) (Nat.zero_le _) o11.1 (by omega) fun v12 h12 o12 a12 => ?_
    simp [w5]
    exact next4 (m4 - 1) _ _ (by omega) ⟨o11.trans o12, c + 1, _, _, rfl, by omega, by simp [hcl], a12⟩
  try simp
  have o1011 := o11
  have hud11 := In.old o11 hud
  have ha11 := acc.in (Nat.le_refl _)
  have hal : args.length * 24 ≤ 140737488355328 := by omega
  refine wp_call (graph_Infer hud11 hu11 ha11 hsm hal 0 (Nat.zero_le _)) fun v12 h12 ⟨o12, v12', e12, a12⟩ => ?_
  simp only at o12 e12 a12
  subst e12
  try simp
  have hx := a12.in (Nat.le_refl _)
  have o812 := o810.trans ((o11.trans (o12.mono o11.1)).mono o810.1)
  have w6 := succ64 (i := j) (n := 8) (by omega) (by omega)
  have nextj : ∀ h', Old h9.length h9 h' → WP (N3 (ea 1 (.ptr 0 0 0) <| ea 3 v4 <| ea 4 v6 <| ea 5 (.int .i64 (i : Nat)) <| ea 6 u <| ea 7 (.bool (mayL l)) <| ea 8 (.int .i64 (k : Nat)) <| ea 9 (.int .i64 ((j : Int) + 1)) e0) h') fun r => r.fst = AV.bool true := fun h' o => next3 (m3 - 1) _ _ (by omega) ⟨o, j + 1, rfl, by omega⟩
  have o912 := o10.trans ((o11.trans (o12.mono o11.1)).mono o10.1)
  by_cases hm : mayL l = true
  · simp only [hm, if_true] at hx
    simp [hm]
    refine wp_call (ref7_Infer (In.old o12 hud11) (In.old o12 hu11) (In.old o12 ha11) hal 0 (Nat.zero_le _)) fun v13 h13 ⟨o13, v13', e13, a13⟩ => ?_
    simp only at o13 e13 a13
    subst e13
    have o913 := o912.trans (o13.mono o912.1)
    have hx13 := In.old o13 hx
    try simp
    by_cases he : (inferL l k (ns[(((j : Int) + (k : Int)) % ns.length).toNat]'r1') (dd[(((j : Int) + (i : Int)) % dd.length).toNat]'r3') args).2 = 0
    · have hw := (a13 he).in (Nat.le_refl _)
      simp [he]
      rw [callK_eq (ref0_EqNumbers hx13 hw 0)]
      simp [w6, hm]
      have q := nextj h13 o913
      simp only [hm] at q
      exact q
    · simp [he]
      have he' := inferL_err he
      rw [he'] at hx13
      rw [callK_eq (ref0_EqNumbers hx13 (in_nil (h := h13) (S := fun _ => False)) 0)]
      simp [w6, hm]
      have q := nextj h13 o913
      simp only [hm] at q
      exact q
  · have hm : mayL l = false := by simpa using hm
    simp [hm] at hx
    simp [hm]
    rw [callK_eq (ref0_EqNumbers hx (in_nil (h := h12) (S := fun _ => False)) 0)]
    simp [w6]
    exact nextj h12 o912
end Go.AM
