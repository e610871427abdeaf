/- Cones: the page's, and their cost. -/
import Derived.Test.YtfdbegdgedhhcaaAmS20
set_option linter.all false
namespace Go.AM
set_option maxRecDepth 20000
set_option maxHeartbeats 1000000
attribute [local simp] layAt
attribute [local irreducible] lenK sliceK idxK fldK cutK storeK appK copyK clearK mapAtK callK loopH readK readK1 guardK grdK fnK nilK fieldK extrK strK nextK joinK iteK intK boolK cellsK castK castL castEnv binK unK intBin layParts execN runOpsN runItemsN denN call loop blockK
theorem coneD_desc (l : List node.den) (keep : List Int) : ∀ (n : Nat) (f : Nat → Bool), (coneD l keep n f).Pairwise (· > ·)
  | 0, _ => List.Pairwise.nil
  | n + 1, f => by
      rw [coneD]
      split
      · refine List.Pairwise.cons (fun x hx => ?_) (coneD_desc l keep n _)
        have := coneD_mem l keep n _ x hx
        omega
      · exact coneD_desc l keep n f
theorem rising_desc : ∀ (D A : List Int), (∀ x ∈ A, ∀ d ∈ D, d < x) → D.Pairwise (· > ·) → D.foldl insU A = D.reverse ++ A
  | [], A, _, _ => rfl
  | d :: D, A, hA, hD => by
      have h0 : insU A d = d :: A := by
        cases A with
        | nil => rfl
        | cons a A =>
          have hlt := hA a List.mem_cons_self d List.mem_cons_self
          have hp : posU d (a :: A) = 0 := by rw [posU, if_neg (by omega)]
          rw [insU, hp, if_neg]
          · rfl
          · simp
            omega
      rw [List.foldl_cons, h0, rising_desc D (d :: A) (fun x hx e he => ?_) (List.Pairwise.of_cons hD)]
      · simp
      · rcases List.mem_cons.1 hx with rfl | hx
        · exact List.rel_of_pairwise_cons hD he
        · exact hA x hx e (List.mem_cons_of_mem _ he)
section
variable {h : Heap}
theorem ref12_Cone {x : joint.den} {cs : List AV} {vk : AV} {keep : List Int} (hx : In h joint x cs) (hk : In h ints keep [vk]) {i : Int} (hm : mayJ x = true) (ht : there x.1.length i = true) (b : Nat) (hb : b ≤ h.length) :
    WP (call prog b 28 [.agg cs, .int .i64 i, vk] h) fun r => Old h.length h r.2 ∧ AccP h.length h.length r.2 int r.1 (coneL x.1 i.toNat keep) := by
  obtain ⟨vn, vg, rfl, hn, hg, hl⟩ := holds_joint hx
  obtain ⟨t0, t1⟩ := there_nat ht
  have hmay : mayL x.1 = true := by
    simp only [mayJ, Bool.and_eq_true] at hm
    exact hm.1.1.1
  have hlen : x.1.length ≤ 240 := by
    have := hmay
    simp only [mayL, Bool.and_eq_true, decide_eq_true_eq] at this
    omega
  refine wp_enter (fn := C.ref12_Cone) rfl ?_
  dsimp only [bodyN, C.ref12_Cone, C.ref12_Cone_l1]; simp
  generalize hh : h ++ [AObj.cells 0 1 [vn, AV.int IntKind.i64 x.snd.fst, vg]] = h2
  have o12 : Old h.length h h2 := hh ▸ Old.app
  have b2 : Box h2 h.length [vn, AV.int IntKind.i64 x.snd.fst, vg] := by rw [← hh]; simp [Box]
  have lt2 := b2.lt
  have hn2 := In.old o12 hn
  have hk2 := In.old o12 hk
  repeat ((first | refine wq_len (by assumption) ?_ | refine wq_idx (by assumption) (by rfl) (by omega) (by omega) ?_ | refine wq_int (by assumption) (by omega) ?_ | refine wq_kind (by assumption) (by omega) ?_ | refine wq_num (by assumption) (by omega) ?_ | refine wq_name (by assumption) (by omega) ?_ | refine wq_ptr (by assumption) rfl ?_ | refine wp_new1 rfl ?_ | refine wq_from (by assumption) (by omega) ?_ | refine wq_to (by assumption) (by omega) ?_ | refine wq_size (by assumption) (by omega) ?_ | refine wq_life (by assumption) (by omega) ?_ | refine wp_guard (by omega) ?_ | refine wq_cells (by assumption) ?_); (try simp))
  have mk := accp_make (h := h2) (p := .bool) (n := x.1.length) (x := false) (zs := [.bool false]) (fun _ _ => rfl) (by omega)
  simp [PT.sz] at mk
  have o23 : Old h2.length h2 (h2 ++ [AObj.cells 0 1 (List.replicate (List.length x.fst) (AV.bool false))]) := Old.app
  have l3 : (h2 ++ [AObj.cells 0 1 (List.replicate (List.length x.fst) (AV.bool false))]).length = h2.length + 1 := by simp
  generalize h2 ++ [AObj.cells 0 1 (List.replicate (List.length x.fst) (AV.bool false))] = h3 at *
  refine wq_idx (mk.in (Nat.le_refl _)) (by rfl) (by omega) (by simp; omega) ?_
  try simp
  refine wp_putB mk (by have := o12.1; omega) o23.1 (by simp; omega) fun h4 _ l4 o34 a4 => ?_
  try simp
  have o24 := o23.trans o34
  have hi2 : i.toNat < x.1.length := by omega
  refine wp_loop (I := fun m e h' => Old h2.length h2 h' ∧ ∃ (n : Nat) (f : Nat → Bool) (va : AV) (A : List Int) (M : List Bool), e = (ea 2 vk <| ea 3 (.ptr h.length 0 0) <| ea 7 (.ref h2.length 0 0 x.1.length) <| ea 8 va <| ea 9 (.int .i64 ((n : Int) - 1)) e0) ∧ n = m ∧ n ≤ i.toNat + 1 ∧ AccP h2.length h2.length h' .bool (.ref h2.length 0 0 x.1.length) M ∧ M.length = x.1.length ∧ (∀ a, a < x.1.length → M[a]? = some (f a)) ∧ h2.length + 1 ≤ h'.length ∧ AccP (h2.length + 1) (h2.length + 1) h' int va A ∧ coneD x.1 keep (i.toNat + 1) (fun a => decide (a = i.toNat)) = A ++ coneD x.1 keep n f) ?_ (m := i.toNat + 1) ⟨o24, i.toNat + 1, fun a => decide (a = i.toNat), .nil, [], _, by rw [show ((i.toNat + 1 : Nat) : Int) - 1 = i by omega], rfl, Nat.le_refl _, a4, by simp, fun a ha => ?_, by omega, AccP.nil, rfl⟩
  · rintro N m e h5 ⟨old, n, f, va, A, M, rfl, hnm, hni, mM, hM, hMf, hlen5, acc, hcone⟩ next
    have b5 := b2.old old lt2
    have hn5 := In.old old hn2
    have hk5 := In.old old hk2
    have AL : A.length + (coneD x.1 keep n f).length ≤ i.toNat + 1 := by
      have := coneD_len x.1 keep (i.toNat + 1) (fun a => decide (a = i.toNat))
      rw [hcone, List.length_append] at this
      omega
    dsimp only [C.ref12_Cone_b1, C.ref12_Cone_l0]; simp
    refine wp_dec (fun h0 => ?_) fun h0 => ?_
    · have hnp : 0 < n := by omega
      have hn1 : n - 1 < x.1.length := by omega
      have w1 : IntKind.i64.wrap ((n : Int) - 1 - 1) = ((n - 1 : Nat) : Int) - 1 := by rw [w64_id (by omega) (by omega)]; omega
      have en : (n : Int) - 1 = ((n - 1 : Nat) : Int) := by omega
      rw [coneD_pos hnp] at hcone
      have hMn := hMf (n - 1) hn1
      rw [List.getElem?_eq_getElem (by omega)] at hMn
      have hMn := Option.some.inj hMn
      try simp
      refine wq_idx (mM.in (Nat.le_refl _)) (by rfl) (by omega) (by omega) ?_
      try simp
      refine wq_bool (mM.in (Nat.le_refl _)) (by omega) ?_
      try simp
      have skip : ¬ (f (n - 1) = true ∧ ((n - 1 : Nat) : Int) ∉ keep) → WP (N (ea 2 vk <| ea 3 (.ptr h.length 0 0) <| ea 7 (.ref h2.length 0 0 x.1.length) <| ea 8 va <| ea 9 (.int .i64 (((n - 1 : Nat) : Int) - 1)) e0) h5) fun r => Old h.length h r.2 ∧ AccP h.length h.length r.2 int r.1 (coneL x.1 i.toNat keep) := fun hs =>
        next (m - 1) _ _ (by omega) ⟨old, n - 1, f, va, A, M, rfl, by omega, by omega, mM, hM, hMf, hlen5, acc, by rw [hcone, if_neg hs]⟩
      refine wp_iteK (fun hq => ?_) fun hq => ?_
      · rw [Bool.not_eq_true', hMn] at hq
        simp [w1]
        exact skip (fun h => by simp [h.1] at hq)
      · rw [Bool.not_eq_false', hMn] at hq
        try simp
        rw [callK_eq (ref0_In hk5 _ _)]
        try simp
        have ek : decide (0 ≤ idxFrom 0 (List.map (fun x => decide (x = (n : Int) - 1)) keep)) = decide (((n - 1 : Nat) : Int) ∈ keep) := by
          rw [idxFrom_any, List.any_map, Bool.eq_iff_iff, List.any_eq_true, decide_eq_true_eq, ← en]
          simp
        simp only [ek]
        refine wp_dec (fun hin => ?_) fun hin => ?_
        · simp [w1]
          exact skip (fun h => h.2 hin)
        rw [if_pos ⟨hq, hin⟩] at hcone
        refine wp_pushI acc (by omega) (by have := o12.1; omega) hlen5 (by omega) fun va' h6 o56 acc6 => ?_
        have must6 := mM.flatB o56 (fun j hj => by cases hj; omega)
        have o26 := old.trans (o56.mono (by omega))
        have args : argsAt x.1 (n - 1) = x.1[n - 1].2.2.1 := argsAt_at hn1
        have aok := (nodeOk_parts (mayL_at hmay hn1)).1
        simp [en]
        refine wp_loop (I := fun m2 e h' => Old h2.length h2 h' ∧ ∃ (c : Nat) (M' : List Bool), e = (ea 2 vk <| ea 3 (.ptr h.length 0 0) <| ea 7 (.ref h2.length 0 0 x.1.length) <| ea 8 va' <| ea 9 (.int .i64 ((n - 1 : Nat) : Int)) <| ea 10 (.int .i64 (c : Nat)) e0) ∧ c + m2 = x.1[n - 1].2.2.1.length ∧ h6.length ≤ h'.length ∧ AccP h2.length h2.length h' .bool (.ref h2.length 0 0 x.1.length) M' ∧ M'.length = x.1.length ∧ (∀ a, a < x.1.length → M'[a]? = some (f a || decide ((a : Int) ∈ x.1[n - 1].2.2.1.take c))) ∧ AccP (h2.length + 1) (h2.length + 1) h' int va' (A ++ [((n - 1 : Nat) : Int)])) ?_ ⟨o26, 0, M, by simp, Nat.zero_add _, Nat.le_refl _, must6, hM, fun a ha => by rw [hMf a ha]; simp, by rw [← en]; exact acc6⟩
        rintro N2 m2 e h7 ⟨o27, c, M', rfl, hcm, hlen7, must7, hM', hMf', acc7⟩ next2
        have hn7 := In.old o27 hn2
        have b7 := b2.old o27 lt2
        dsimp only [C.ref12_Cone_b0]; simp
        refine wq_ptr b7 rfl ?_
        try simp
        refine wq_idx hn7 (by rfl) (by omega) (by omega) ?_
        try simp
        refine wq_args hn7 (by omega) fun ua hua => ?_
        try simp
        have bua := holds_le hua
        refine wq_len hua ?_
        try simp
        refine wp_dec (fun hc => ?_) fun hc => ?_
        · try simp
          obtain ⟨a0, a1⟩ := argsOk_at aok (List.getElem_mem hc)
          rw [List.length_take] at a1
          refine wq_ptr b7 rfl ?_
          try simp
          refine wq_idx hn7 (by rfl) (by omega) (by omega) ?_
          try simp
          refine wq_args hn7 (by omega) fun ua hua => ?_
          try simp
          refine wq_idx hua (by rfl) (by omega) (by omega) ?_
          try simp
          refine wq_int hua hc ?_
          try simp
          refine wq_idx (must7.in (Nat.le_refl _)) (by rfl) (by omega) (by omega) ?_
          try simp
          refine wp_putB must7 (by have := o12.1; omega) o27.1 (by omega) fun h8 but8 l8 o78 must8 => ?_
          have w2 := succ64 hc bua
          simp [w2]
          have acc8 := acc7.flatI but8 (fun j hj => by cases hj; omega)
          refine next2 (m2 - 1) _ _ (by omega) ⟨o27.trans o78, c + 1, _, rfl, by omega, by omega, must8, by simp [hM'], fun a ha => ?_, acc8⟩
          rw [List.getElem?_set]
          by_cases c1 : x.1[n - 1].2.2.1[c].toNat = a
          · have e1 : x.1[n - 1].2.2.1[c] = (a : Int) := by rw [← c1]; exact (Int.toNat_of_nonneg a0).symm
            rw [if_pos c1, if_pos (by rw [c1]; omega), take_succ_app hc, e1]
            simp
          · have e1 : ¬ (a : Int) = x.1[n - 1].2.2.1[c] := fun e => c1 (by rw [← e]; exact Int.toNat_natCast a)
            have e2 : (a : Int) ∈ x.1[n - 1].2.2.1.take (c + 1) ↔ (a : Int) ∈ x.1[n - 1].2.2.1.take c := by
              rw [take_succ_app hc, List.mem_append]
              simp [e1]
            rw [if_neg c1, hMf' a ha, decide_eq_decide.2 e2]
        · try simp
          have ec : c = x.1[n - 1].2.2.1.length := by omega
          subst ec
          have w3 : IntKind.i64.wrap (((n - 1 : Nat) : Int) - 1) = ((n - 1 : Nat) : Int) - 1 := w64_id (by omega) (by omega)
          simp [w3]
          refine next (m - 1) _ _ (by omega) ⟨o27, n - 1, fun a => f a || decide ((a : Int) ∈ argsAt x.1 (n - 1)), va', _, M', rfl, by omega, by omega, must7, hM', fun a ha => ?_, by have := o56.1; omega, acc7, ?_⟩
          · rw [hMf' a ha, args, List.take_length]
          · rw [hcone, List.append_assoc]
            rfl
    · try simp
      have en : n = 0 := by omega
      subst en
      rw [coneD, List.append_nil] at hcone
      have va5 := acc.in (Nat.le_refl _)
      refine wp_call (ref0_Rising va5 (by omega) b (by have := o12.1; omega)) fun v6 h6 ⟨o6, a6⟩ => ?_
      simp only at o6 a6
      have o1 := o12.1
      try simp
      refine wp_some ⟨o12.trans ((old.trans (o6.mono (by omega))).mono o1), ?_⟩
      have er : risingL A = coneL x.1 i.toNat keep := by
        rw [coneL, hcone, risingL, rising_desc A [] (fun x hx => by simp at hx) (hcone ▸ coneD_desc _ _ _ _), List.append_nil]
      rw [← er]
      exact a6.mono (by omega) (by omega)
  · rw [List.getElem?_set]
    by_cases c1 : i.toNat = a
    · rw [if_pos c1, if_pos (by simp; omega)]
      simp [c1]
    · rw [if_neg c1, List.getElem?_replicate, if_pos ha]
      simp
      omega
theorem coneR_there {x : joint.den} {i : Int} {keep : List Int} : ∀ a ∈ coneR x i keep, there x.1.length a = true := fun a ha => by
  rw [coneR] at ha
  split at ha
  · rename_i hc
    obtain ⟨t0, t1⟩ := there_nat hc.2.1
    rw [coneL, List.mem_reverse] at ha
    have := coneD_mem _ _ _ _ _ ha
    simp [there]
    omega
  · simp at ha
theorem live_Cost {x : joint.den} {cs : List AV} {vk : AV} {keep : List Int} (hx : In h joint x cs) (hsm : Small x.1) (hk : In h ints keep [vk]) (i : Int) (b : Nat) (hb : b ≤ h.length) :
    WP (call prog b 26 [.agg cs, .int .i64 i, vk] h) fun r => Old h.length h r.2 ∧ r.1 = .tup [.int .i64 (sumL x.1 (coneR x i keep)), .int .i64 (coneE x i keep)] := by
  obtain ⟨vn, vg, rfl, hn, hg, hl⟩ := holds_joint hx
  refine wp_enter (fn := C.live_Cost) rfl ?_
  dsimp only [bodyN, C.live_Cost]; simp
  generalize hh : h ++ [AObj.cells 0 1 [vn, AV.int IntKind.i64 x.snd.fst, vg]] = h1
  have o1 : Old h.length h h1 := hh ▸ Old.app
  have b1 : Box h1 h.length [vn, AV.int IntKind.i64 x.snd.fst, vg] := by rw [← hh]; simp [Box]
  have lt1 := b1.lt
  refine wq_ptrs b1 (by simp) ?_
  try simp
  refine wp_call (live_Cone (In.old o1 hx) hsm (In.old o1 hk) i b (by omega)) fun v2 h2 ⟨o2, v3, e2, a2⟩ => ?_
  simp only at o2 e2 a2
  subst e2
  have o12 := o1.trans (o2.mono o1.1)
  have b2 := b1.old o2 lt1
  try simp
  refine wq_ptrs b2 (by simp) ?_
  try simp
  refine wp_call (live_Sum (In.old o12 hx) (a2.in (Nat.le_refl _)) coneR_there b (by have := o12.1; omega)) fun v4 h4 ⟨o4, e4⟩ => ?_
  simp only at o4 e4
  subst e4
  try simp
  exact wp_some ⟨o12.trans (o4.mono o12.1), rfl⟩
end
end Go.AM
