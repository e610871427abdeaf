import Derived.Test.YtfdbegdgedhhcaaAmS55
set_option linter.all false
/- The law EvalDims: each value has its node's dims; leaves' values are those handed in. No condition. -/
namespace Go.AM
set_option maxRecDepth 20000
set_option maxHeartbeats 1000000
attribute [local simp] layAt
attribute [local irreducible] lenK sliceK idxK fldK cutK storeK appK copyK clearK mapAtK callK loopH readK readK1 guardK grdK fnK nilK fieldK extrK strK nextK joinK iteK intK boolK cellsK castK castL castEnv binK unK intBin layParts execN runOpsN runItemsN denN call loop blockK
theorem Laws.EvalDims (y : ask10.den) (as : List AV) (H : Holds (fun _ => False) [] ask10 y as) : WP (call prog 0 43 [.agg as] []) fun r => r.1 = .bool true := by
  have H0 : In [] ask10 y as := H.mono fun _ h => h.elim
  obtain ⟨_, vl, vn, vd, vx, vv, rfl, rfl, h8, hl, hx, hv⟩ := holds_ask10 H0
  refine wp_enter (fn := C.law10_EvalDims) rfl ?_
  dsimp only [bodyN, C.law10_EvalDims, C.law10_EvalDims_l3]; simp
  generalize hh : [AObj.cells 0 1 [vl, vn, vd, vx, vv]] = h1
  have b1 : Box h1 0 [vl, vn, vd, vx, vv] := by subst hh; simp [Box]
  have o1 : Old ([] : Heap).length [] h1 := ⟨Nat.zero_le _, fun l hl => by simp at hl⟩
  refine wq_ptrs b1 (by simp) ?_
  try simp
  refine wp_call (law10_Heavy (In.old o1 H0) 0 (Nat.zero_le _)) fun v2 h2 ⟨o2, q, e2, light⟩ => ?_
  simp only at o2 e2
  subst e2
  try simp
  refine wp_iteK (fun hq => by (try simp); exact wp_some rfl) fun hq => ?_
  have light := light hq
  have b2 := b1.old o2 b1.lt
  have hl2 := In.old o2 (In.old o1 hl)
  have hx2 := In.old o2 (In.old o1 hx)
  have lt1 := b2.lt
  have bl := holds_le hl
  have bx := holds_le hx
  have fin : ∀ h' (K : AV → Heap → Option (AV × Heap)), (∀ v h, K v h = some (v, h)) → WP (callK (call prog) 0 42 [] h' K) fun r => r.fst = AV.bool true := fun h' K hK => by
    refine wp_call (law10_wakes 0 (Nat.zero_le _)) fun v5 h5 ⟨_, e5⟩ => ?_
    rw [hK]
    exact wp_some e5
  try simp
  refine wp_loop (I := fun m e h' => Old h2.length h2 h' ∧ ∃ i, e = (ea 1 (.ptr 0 0 0) <| ea 3 (.int .i64 (i : Nat)) e0) ∧ i + m = y.1.1.length) ?_ ⟨Old.refl (Nat.le_refl _), 0, rfl, Nat.zero_add _⟩
  rintro N m e h3 ⟨o3, i, rfl, him⟩ next
  have b3 := b2.old o3 lt1
  have hl3 := In.old o3 hl2
  dsimp only [C.law10_EvalDims_b3, C.law10_EvalDims_l2]; simp
  refine wq_ptr b3 rfl ?_
  try simp
  refine wq_len hl3 ?_
  try simp
  refine wp_dec (fun hi => ?_) fun hi => by (try simp); exact fin h3 _ fun _ _ => by simp
  try simp
  refine wp_dec (fun hi4 => ?_) fun hi4 => by (try simp); exact fin h3 _ fun _ _ => by simp
  try simp
  have wi := succ64 hi bl
  obtain ⟨hsm, hlen⟩ := light_small light (List.getElem_mem hi)
  refine wp_loop (I := fun m e h' => Old h2.length h2 h' ∧ ∃ k, e = (ea 1 (.ptr 0 0 0) <| ea 3 (.int .i64 (i : Nat)) <| ea 4 (.int .i64 (k : Nat)) e0) ∧ k + m = y.2.1.length) ?_ (m := y.2.1.length) ⟨o3, 0, rfl, Nat.zero_add _⟩
  rintro N2 m2 e h4 ⟨o4, k, rfl, hkm⟩ next2
  have l4 := o4.1
  have b4 := b2.old o4 lt1
  have hl4 := In.old o4 hl2
  have hx4 := In.old o4 hx2
  dsimp only [C.law10_EvalDims_b2, C.law10_EvalDims_l0, C.law10_EvalDims_l1]; simp
  refine wq_ptr b4 rfl ?_
  try simp
  refine wq_len hx4 ?_
  have nx : ∀ h', Old h2.length h2 h' → WP (N (ea 1 (.ptr 0 0 0) <| ea 3 (.int .i64 ((i + 1 : Nat) : Int)) e0) h') fun r => r.1 = .bool true := fun h' o' => next (m - 1) _ _ (by omega) ⟨o', i + 1, rfl, by omega⟩
  try simp
  refine wp_dec (fun hk => ?_) fun hk => by simp [wi]; exact nx h4 o4
  try simp
  refine wp_dec (fun hk4 => ?_) fun hk4 => by simp [wi]; exact nx h4 o4
  have wk := succ64 hk bx
  try simp
  refine wq_ptr b4 rfl ?_
  try simp
  refine wq_idx hl4 (by rfl) (by omega) (by omega) ?_
  try simp
  refine wq_sub hl4 hi fun ul hul => ?_
  try simp
  refine wq_ptr b4 rfl ?_
  try simp
  refine wq_idx hx4 (by rfl) (by omega) (by omega) ?_
  try simp
  refine wq_sub hx4 hk fun ux hux => ?_
  try simp
  refine wp_call (eval_All hul hux hsm _ (by omega)) fun v5 h5 ⟨o5, v6, e5, a5⟩ => ?_
  simp only at o5 e5 a5
  subst e5
  have o05 := o4.trans (o5.mono l4)
  try simp
  have nx2 : ∀ h', Old h2.length h2 h' → WP (N2 (ea 1 (.ptr 0 0 0) <| ea 3 (.int .i64 (i : Nat)) <| ea 4 (.int .i64 ((k + 1 : Nat) : Int)) e0) h') fun r => r.1 = .bool true := fun h' o' => next2 (m2 - 1) _ _ (by omega) ⟨o', k + 1, rfl, by omega⟩
  refine wp_ndec (fun h0 => ?_) fun h0 => ?_
  · simp [wk]
    exact nx2 h5 o05
  have a5 := a5 h0
  have hv5 := a5.in (Nat.le_refl _)
  have l5 := o5.1
  have b5 := b2.old o05 lt1
  have hl5 := In.old o05 hl2
  have hvl := valuesL_len y.1.1[i] y.2.1[k]
  have hw := fun (j : Nat) hj => valuesL_ok h0 (i := j) hj
  have hf := fits_len (checkL_parts h0).2.2
  have hm := mayL_len (checkL_parts h0).1
  have eE := ends_len y.1.1[i]
  try simp
  refine wq_len hv5 ?_
  try simp
  refine wq_ptr b5 rfl ?_
  try simp
  refine wq_idx hl5 (by rfl) (by omega) (by omega) ?_
  try simp
  refine wq_sub hl5 hi fun u1 hu1 => ?_
  try simp
  refine wq_len hu1 ?_
  simp [hvl]
  refine wp_loop (I := fun m e h' => Old h5.length h5 h' ∧ ∃ j, e = (ea 1 (.ptr 0 0 0) <| ea 3 (.int .i64 (i : Nat)) <| ea 4 (.int .i64 (k : Nat)) <| ea 5 v6 <| ea 7 (.int .i64 (j : Nat)) e0) ∧ j + m = y.1.1[i].length) ?_ (m := y.1.1[i].length) ⟨Old.refl (Nat.le_refl _), 0, rfl, Nat.zero_add _⟩
  rintro N3 m3 e h6 ⟨o6, j, rfl, hjm⟩ next3
  have l6 := o6.1
  have o06 := o05.trans (o6.mono (by omega))
  have b6 := b2.old o06 lt1
  have hl6 := In.old o06 hl2
  have hx6 := In.old o06 hx2
  have hv6 := In.old o6 hv5
  dsimp only [C.law10_EvalDims_b0]; simp
  refine wq_len hv6 ?_
  simp [hvl]
  refine wp_dec (fun hj => ?_) fun hj => ?_
  · have wj := succ64 (i := j) (n := 240) (by omega) (by omega)
    have hjv : j < (valuesL y.1.1[i] y.2.1[k]).length := by omega
    have hw := hw j hj
    rw [List.getD_eq_getElem?_getD, List.getElem?_eq_getElem hjv, Option.getD_some] at hw
    try simp
    refine wq_idx hv6 (by rfl) (by omega) (by omega) ?_
    try simp
    refine wq_tensor hv6 hjv fun dd tt hdd htt => ?_
    try simp
    refine wp_call (ref1_Tensor (t := (valuesL y.1.1[i] y.2.1[k])[j]) (holds_ten hdd htt) _ (Nat.le_refl _)) fun v7 h7 ⟨o7, e7⟩ => ?_
    simp only at o7 e7
    rw [hw.2] at e7
    subst e7
    have l7 := o7.1
    have o07 := o06.trans (o7.mono (by omega))
    have b7 := b2.old o07 lt1
    have hl7 := In.old o07 hl2
    have hv7 := In.old o7 hv6
    try simp
    refine wq_idx hv7 (by rfl) (by omega) (by omega) ?_
    try simp
    refine wq_tdims hv7 hjv fun d7 hd7 => ?_
    try simp
    refine wq_ptr b7 rfl ?_
    try simp
    refine wq_idx hl7 (by rfl) (by omega) (by omega) ?_
    try simp
    refine wq_sub hl7 hi fun u2 hu2 => ?_
    try simp
    refine wq_idx hu2 (by rfl) (by omega) (by omega) ?_
    try simp
    refine wq_dims hu2 hj fun d8 hd8 => ?_
    try simp
    rw [callK_eq (ref0_EqNumbers hd7 hd8 _)]
    simp [hw.1, wj]
    exact next3 (m3 - 1) _ _ (by omega) ⟨o6.trans (o7.mono (by omega)), j + 1, by simp, by omega⟩
  · try simp
    refine wq_ptr b6 rfl ?_
    try simp
    refine wq_idx hl6 (by rfl) (by omega) (by omega) ?_
    try simp
    refine wq_sub hl6 hi fun u1 hu1 => ?_
    try simp
    refine wp_call (ref7_Leaves hu1 (by omega) _ (by omega)) fun v7 h7 ⟨o7, a7⟩ => ?_
    simp only at o7 a7
    have l7 := o7.1
    have o07 := o06.trans (o7.mono (by omega))
    have hv7 := In.old o7 hv6
    have he7 := a7.in (Nat.zero_le _)
    try simp
    refine wp_loop (I := fun m e h' => Old h7.length h7 h' ∧ ∃ c, e = (ea 1 (.ptr 0 0 0) <| ea 3 (.int .i64 (i : Nat)) <| ea 4 (.int .i64 (k : Nat)) <| ea 5 v6 <| ea 8 v7 <| ea 9 (.int .i64 (c : Nat)) e0) ∧ c + m = (ends y.1.1[i]).length) ?_ (m := (ends y.1.1[i]).length) ⟨Old.refl (Nat.le_refl _), 0, rfl, Nat.zero_add _⟩
    rintro N4 m4 e h8 ⟨o8, c, rfl, hcm⟩ next4
    have l8 := o8.1
    have o08 := o07.trans (o8.mono (by omega))
    have b8 := b2.old o08 lt1
    have hx8 := In.old o08 hx2
    have hv8 := In.old o8 hv7
    have he8 := In.old o8 he7
    dsimp only [C.law10_EvalDims_b1]; simp
    refine wq_len he8 ?_
    try simp
    refine wp_dec (fun hc => ?_) fun hc => ?_
    · have wc := succ64 (i := c) (n := 480) (by omega) (by omega)
      have hcx : c < y.2.1[k].length := by omega
      have p := ends_at hc
      have hq : (ends y.1.1[i])[c].toNat < (valuesL y.1.1[i] y.2.1[k]).length := by omega
      have hlf := valuesL_leaf (x := y.2.1[k]) hc hcx
      rw [List.getD_eq_getElem?_getD, List.getElem?_eq_getElem hq, Option.getD_some] at hlf
      try simp
      refine wq_idx he8 (by rfl) (by omega) (by omega) ?_
      try simp
      refine wq_int he8 hc ?_
      try simp
      refine wq_idx hv8 (by rfl) p.1 (by omega) ?_
      try simp
      refine wq_tensor hv8 hq fun da ta hda hta => ?_
      try simp
      refine wq_ptr b8 rfl ?_
      try simp
      refine wq_idx hx8 (by rfl) (by omega) (by omega) ?_
      try simp
      refine wq_sub hx8 hk fun u3 hu3 => ?_
      try simp
      refine wq_idx hu3 (by rfl) (by omega) (by omega) ?_
      try simp
      refine wq_tensor hu3 hcx fun dc tc hdc htc => ?_
      try simp
      refine wp_call (ref0_EqTensor (s := (valuesL y.1.1[i] y.2.1[k])[(ends y.1.1[i])[c].toNat]) (t := y.2.1[k][c]) (holds_ten hda hta) (holds_ten hdc htc) _ (Nat.le_refl _)) fun v9 h9 ⟨o9, e9⟩ => ?_
      simp only at o9 e9
      rw [hlf] at e9
      simp at e9
      subst e9
      simp [wc]
      exact next4 (m4 - 1) _ _ (by omega) ⟨o8.trans (o9.mono (by omega)), c + 1, by simp, by omega⟩
    · simp [wk]
      exact nx2 h8 o08
end Go.AM
