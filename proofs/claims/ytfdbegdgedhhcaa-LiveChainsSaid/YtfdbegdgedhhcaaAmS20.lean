/- Cones. -/
import Derived.Test.YtfdbegdgedhhcaaAmS19
set_option linter.all false
namespace Go.AM
set_option maxRecDepth 20000
set_option maxHeartbeats 1000000
attribute [local simp] layAt
attribute [local irreducible] lenK sliceK idxK fldK cutK storeK appK copyK clearK mapAtK callK loopH readK readK1 guardK grdK fnK nilK fieldK extrK strK nextK joinK iteK intK boolK cellsK castK castL castEnv binK unK intBin layParts execN runOpsN runItemsN denN call loop blockK
def argsAt (l : List node.den) (n : Nat) : List Int := ((l[n]?).map (·.2.2.1)).getD []
theorem argsAt_at {l : List node.den} {n : Nat} (h : n < l.length) : argsAt l n = l[n].2.2.1 := by
  rw [argsAt, List.getElem?_eq_getElem h]
  rfl
/-- What must be made, from a place down. -/
def coneD (l : List node.den) (keep : List Int) : Nat → (Nat → Bool) → List Int
  | 0, _ => []
  | n + 1, f => if f n = true ∧ (n : Int) ∉ keep then (n : Int) :: coneD l keep n (fun a => f a || decide ((a : Int) ∈ argsAt l n)) else coneD l keep n f
def coneL (l : List node.den) (i : Nat) (keep : List Int) : List Int := (coneD l keep (i + 1) fun a => decide (a = i)).reverse
theorem coneD_len (l : List node.den) (keep : List Int) : ∀ (n : Nat) (f : Nat → Bool), (coneD l keep n f).length ≤ n
  | 0, _ => Nat.le_refl _
  | n + 1, f => by
      rw [coneD]
      split
      · have := coneD_len l keep n (fun a => f a || decide ((a : Int) ∈ argsAt l n))
        simp only [List.length_cons]
        omega
      · have := coneD_len l keep n f
        omega
/-- Descending, below a place. -/
theorem coneD_mem (l : List node.den) (keep : List Int) : ∀ (n : Nat) (f : Nat → Bool) (x : Int), x ∈ coneD l keep n f → 0 ≤ x ∧ x < (n : Int)
  | 0, _, x, h => by simp [coneD] at h
  | n + 1, f, x, h => by
      rw [coneD] at h
      split at h
      · rcases List.mem_cons.1 h with e | e
        · omega
        · have := coneD_mem l keep n _ x e
          omega
      · have := coneD_mem l keep n _ x h
        omega
theorem coneD_pos {l : List node.den} {keep : List Int} {n : Nat} (hn : 0 < n) (f : Nat → Bool) : coneD l keep n f = if f (n - 1) = true ∧ ((n - 1 : Nat) : Int) ∉ keep then ((n - 1 : Nat) : Int) :: coneD l keep (n - 1) (fun a => f a || decide ((a : Int) ∈ argsAt l (n - 1))) else coneD l keep (n - 1) f := by
  cases n with
  | zero => omega
  | succ n => rfl
def keepOk (n : Nat) (keep : List Int) : Bool := keep.all (there n)
/-- What is told of a cone: the error, the nodes. -/
def coneE (x : joint.den) (i : Int) (keep : List Int) : Int := if mayJ x = true then (if there x.1.length i = true ∧ keepOk x.1.length keep = true then 0 else 3) else 1
def coneR (x : joint.den) (i : Int) (keep : List Int) : List Int := if mayJ x = true ∧ there x.1.length i = true ∧ keepOk x.1.length keep = true then coneL x.1 i.toNat keep else []
section
variable {h : Heap}
theorem AccP.flat {h' : Heap} {f n0 : Nat} {p : PT} {v : AV} {l : List p.den} (H : AccP f n0 h p v l) (hp : ∀ (S S' : Nat → Prop) (x : p.den) (cs : List AV), Holds S h p x cs → Holds S' h' p x cs) (hk : ∀ j, v.blk = some j → h'[j]? = h[j]?) : AccP f n0 h' p v l := by
  obtain ⟨cs, a, e⟩ := H
  exact ⟨cs, a.keep hk, fun i x hi => hp _ _ _ _ (e i x hi)⟩
theorem AccP.flatI {h' : Heap} {f n0 : Nat} {v w : AV} {l : List Int} (H : AccP f n0 h int v l) (but : But w h h') (hw : ∀ j, w.blk = some j → j < n0) : AccP f n0 h' int v l :=
  H.flat (fun _ _ _ _ h => h) fun j hj => by
    obtain ⟨_, a, _⟩ := H
    have := a.lt hj
    exact but.2 j this.2 fun e => by have := hw j e; omega
theorem AccP.flatB {h' : Heap} {f n0 k : Nat} {v : AV} {l : List Bool} (H : AccP f n0 h .bool v l) (o : Old k h h') (hv : ∀ j, v.blk = some j → j < k) : AccP f n0 h' .bool v l :=
  H.flat (fun _ _ _ _ h => h) fun j hj => o.2 j (hv j hj)
theorem live_Cone_1 {l : Nat} {x : joint.den} {cs : List AV} (hb : Box h l cs) (hx : In h joint x cs) (i : Int) (b : Nat) : call prog b 74 [.int .i64 i, .ptr l 0 0] h = some (.bool (!there x.1.length i), h) := by
  obtain ⟨vn, vg, rfl, hn, hg, hl⟩ := holds_joint hx
  refine wp_iff.1 (wp_enter (fn := C.live_Cone_1) rfl ?_)
  dsimp only [bodyN, C.live_Cone_1]; simp
  refine wp_dec (fun h1 => ?_) fun h1 => ?_
  · try simp
    refine wp_some ?_
    have q : ¬ 0 ≤ i := by omega
    simp [there, q]
  · try simp
    repeat ((first | refine wq_len (by assumption) ?_ | refine wq_idx (by assumption) (by rfl) (by omega) (by omega) ?_ | refine wq_int (by assumption) (by omega) ?_ | refine wq_kind (by assumption) (by omega) ?_ | refine wq_num (by assumption) (by omega) ?_ | refine wq_name (by assumption) (by omega) ?_ | refine wq_ptr (by assumption) rfl ?_ | refine wp_new1 rfl ?_ | refine wq_from (by assumption) (by omega) ?_ | refine wq_to (by assumption) (by omega) ?_ | refine wq_size (by assumption) (by omega) ?_ | refine wq_life (by assumption) (by omega) ?_ | refine wp_guard (by omega) ?_ | refine wq_cells (by assumption) ?_); (try simp))
    refine wp_some ?_
    have q : 0 ≤ i := by omega
    simp [there, q]
    rw [← decide_not, decide_eq_decide]
    omega
theorem live_Cone {x : joint.den} {cs : List AV} {vk : AV} {keep : List Int} (hx : In h joint x cs) (hsm : Small x.1) (hk : In h ints keep [vk]) (i : Int) (b : Nat) (hb : b ≤ h.length) :
    WP (call prog b 20 [.agg cs, .int .i64 i, vk] h) fun r => Old h.length h r.2 ∧ ∃ v, r.1 = .tup [v, .int .i64 (coneE x i keep)] ∧ AccP h.length h.length r.2 int v (coneR x i keep) := by
  obtain ⟨vn, vg, rfl, hn, hg, hl⟩ := holds_joint hx
  refine wp_enter (fn := C.live_Cone) rfl ?_
  dsimp only [bodyN, C.live_Cone, C.live_Cone_l1]; simp
  generalize hh : h ++ [AObj.cells 0 1 [vn, AV.int IntKind.i64 x.snd.fst, vg]] = h1
  have o1 : Old h.length h h1 := hh ▸ Old.app
  have b1 : Box h1 h.length [vn, AV.int IntKind.i64 x.snd.fst, vg] := by rw [← hh]; simp [Box]
  have lt1 := b1.lt
  refine wq_ptrs b1 (by simp) ?_
  try simp
  refine wp_call (back_May (In.old o1 hx) hsm b (by omega)) fun v2 h2 ⟨o2, e2⟩ => ?_
  simp only at o2 e2
  subst e2
  have o12 := o1.trans (o2.mono o1.1)
  have b2 := b1.old o2 lt1
  have hx2 := In.old o12 hx
  have hn2 := In.old o12 hn
  have hk2 := In.old o12 hk
  have lt2 := b2.lt
  try simp
  refine wp_iteK (fun hm => ?_) fun hm => ?_
  · rw [Bool.not_eq_true'] at hm
    try simp
    exact wp_some ⟨o12, .nil, by simp [coneE, hm], by simp [coneR, hm]; exact AccP.nil⟩
  rw [Bool.not_eq_false'] at hm
  try simp
  rw [callK_eq (live_Cone_1 b2 hx2 i _)]
  try simp
  refine wp_iteK (fun ht => ?_) fun ht => ?_
  · rw [Bool.not_eq_true'] at ht
    try simp
    exact wp_some ⟨o12, .nil, by simp [coneE, hm, ht], by simp [coneR, hm, ht]; exact AccP.nil⟩
  rw [Bool.not_eq_false'] at ht
  obtain ⟨t0, t1⟩ := there_nat ht
  try simp
  obtain ⟨dk, sk, ck, rk, bk⟩ := hk2.ints
  rw [callK_eq (slices_ContainsFunc_int (bs := keep.map fun k => !there x.1.length k) (el := fun i => .int .i64 (keep.getD i 0)) (g := 74) (cap := [.ptr h.length 0 0]) (by simpa using sk) (fun i hi => by
    have hi : i < keep.length := by simpa using hi
    rw [ck i hi, List.getD_eq_getElem?_getD, List.getElem?_eq_getElem hi]
    rfl) _ fun i hi => by
    rw [live_Cone_1 b2 hx2 _ _]
    have hi : i < keep.length := by simpa using hi
    simp [hi])]
  have ek : (keep.map fun k => !there x.1.length k).any id = !(keepOk x.1.length keep) := by rw [keepOk, List.any_map, List.not_all_eq_any_not]; rfl
  rw [ek]
  try simp
  refine wp_iteK (fun ha => ?_) fun ha => ?_
  · rw [Bool.not_eq_true'] at ha
    try simp
    exact wp_some ⟨o12, .nil, by simp [coneE, hm, ht, ha], by simp [coneR, hm, ht, ha]; exact AccP.nil⟩
  rw [Bool.not_eq_false'] at ha
  try simp
  have hmay : mayL x.1 = true := by
    simp only [mayJ, Bool.and_eq_true] at hm
    exact hm.1.1.1
  have hlen : x.1.length ≤ 240 := by
    have := hmay
    simp only [mayL, Bool.and_eq_true, decide_eq_true_eq] at this
    omega
  repeat ((first | refine wq_len (by assumption) ?_ | refine wq_idx (by assumption) (by rfl) (by omega) (by omega) ?_ | refine wq_int (by assumption) (by omega) ?_ | refine wq_kind (by assumption) (by omega) ?_ | refine wq_num (by assumption) (by omega) ?_ | refine wq_name (by assumption) (by omega) ?_ | refine wq_ptr (by assumption) rfl ?_ | refine wp_new1 rfl ?_ | refine wq_from (by assumption) (by omega) ?_ | refine wq_to (by assumption) (by omega) ?_ | refine wq_size (by assumption) (by omega) ?_ | refine wq_life (by assumption) (by omega) ?_ | refine wp_guard (by omega) ?_ | refine wq_cells (by assumption) ?_); (try simp))
  have mk := accp_make (h := h2) (p := .bool) (n := x.1.length) (x := false) (zs := [.bool false]) (fun _ _ => rfl) (by omega)
  simp [PT.sz] at mk
  have o23 : Old h2.length h2 (h2 ++ [AObj.cells 0 1 (List.replicate (List.length x.fst) (AV.bool false))]) := Old.app
  have l3 : (h2 ++ [AObj.cells 0 1 (List.replicate (List.length x.fst) (AV.bool false))]).length = h2.length + 1 := by simp
  generalize h2 ++ [AObj.cells 0 1 (List.replicate (List.length x.fst) (AV.bool false))] = h3 at *
  have hk3 := In.old o23 hk2
  rw [callK_eq (slices_Contains_int hk3 i _)]
  try simp
  refine wq_idx (mk.in (Nat.le_refl _)) (by rfl) (by omega) (by simp; omega) ?_
  try simp
  refine wp_putB mk (by have := o12.1; omega) o23.1 (by simp; omega) fun h4 _ l4 o34 a4 => ?_
  try simp
  have o24 := o23.trans o34
  have s24 := o24.1
  have hi2 : i.toNat < x.1.length := by omega
  refine wp_loop (I := fun m e h' => Old h2.length h2 h' ∧ ∃ (n : Nat) (f : Nat → Bool) (va : AV) (A : List Int) (M : List Bool), e = (ea 2 vk <| ea 3 (.ptr h.length 0 0) <| ea 9 (.ref h2.length 0 0 x.1.length) <| ea 10 va <| ea 11 (.int .i64 ((n : Int) - 1)) e0) ∧ n = m ∧ n ≤ i.toNat + 1 ∧ AccP h2.length h2.length h' .bool (.ref h2.length 0 0 x.1.length) M ∧ M.length = x.1.length ∧ (∀ a, a < x.1.length → M[a]? = some (f a && decide ((a : Int) ∉ keep))) ∧ h2.length + 1 ≤ h'.length ∧ AccP (h2.length + 1) (h2.length + 1) h' int va A ∧ coneD x.1 keep (i.toNat + 1) (fun a => decide (a = i.toNat)) = A ++ coneD x.1 keep n f) ?_ (m := i.toNat + 1) ⟨o24, i.toNat + 1, fun a => decide (a = i.toNat), .nil, [], _, by rw [show ((i.toNat + 1 : Nat) : Int) - 1 = i by omega], rfl, Nat.le_refl _, a4, by simp, fun a ha => ?_, by omega, AccP.nil, rfl⟩
  · rintro N m e h5 ⟨old, n, f, va, A, M, rfl, hnm, hni, mM, hM, hMf, hlen5, acc, hcone⟩ next
    have b5 := b2.old old lt2
    have hn5 := In.old old hn2
    have hk5 := In.old old hk2
    have AL : A.length + (coneD x.1 keep n f).length ≤ i.toNat + 1 := by
      have := coneD_len x.1 keep (i.toNat + 1) (fun a => decide (a = i.toNat))
      rw [hcone, List.length_append] at this
      omega
    dsimp only [C.live_Cone_b1, C.live_Cone_l0]; simp
    refine wp_dec (fun h0 => ?_) fun h0 => ?_
    · have hnp : 0 < n := by omega
      have hn1 : n - 1 < x.1.length := by omega
      have w1 : IntKind.i64.wrap ((n : Int) - 1 - 1) = ((n - 1 : Nat) : Int) - 1 := by rw [w64_id (by omega) (by omega)]; omega
      have en : (n : Int) - 1 = ((n - 1 : Nat) : Int) := by omega
      rw [coneD_pos hnp] at hcone
      have hMn := hMf (n - 1) hn1
      rw [List.getElem?_eq_getElem (by omega)] at hMn
      have hMn := Option.some.inj hMn
      try simp
      refine wq_idx (mM.in (Nat.le_refl _)) (by rfl) (by omega) (by omega) ?_
      try simp
      refine wq_bool (mM.in (Nat.le_refl _)) (by omega) ?_
      try simp
      refine wp_iteK (fun hq => ?_) fun hq => ?_
      · rw [Bool.not_eq_true', hMn] at hq
        simp [w1]
        refine next (m - 1) _ _ (by omega) ⟨old, n - 1, f, va, A, M, rfl, by omega, by omega, mM, hM, hMf, hlen5, acc, ?_⟩
        rw [hcone, if_neg (fun h => by simp [h.1, h.2] at hq)]
      · rw [Bool.not_eq_false', hMn] at hq
        simp at hq
        rw [if_pos hq] at hcone
        try simp
        refine wp_pushI acc (by omega) (by have := o12.1; omega) hlen5 (by omega) fun va' h6 o56 acc6 => ?_
        have must6 := mM.flatB o56 (fun j hj => by cases hj; omega)
        have o26 := old.trans (o56.mono (by omega))
        have hn6 := Holds.old o26 (Nat.le_refl _) hn2
        have b6 := b2.old o26 lt2
        simp [en]
        refine wq_ptr b6 rfl ?_
        try simp
        refine wq_idx hn6 (by rfl) (by omega) (by omega) ?_
        try simp
        refine wq_args hn6 (by omega) fun ua hua => ?_
        try simp
        repeat ((first | refine wq_len (by assumption) ?_ | refine wq_idx (by assumption) (by rfl) (by omega) (by omega) ?_ | refine wq_int (by assumption) (by omega) ?_ | refine wq_kind (by assumption) (by omega) ?_ | refine wq_num (by assumption) (by omega) ?_ | refine wq_name (by assumption) (by omega) ?_ | refine wq_ptr (by assumption) rfl ?_ | refine wp_new1 rfl ?_ | refine wq_from (by assumption) (by omega) ?_ | refine wq_to (by assumption) (by omega) ?_ | refine wq_size (by assumption) (by omega) ?_ | refine wq_life (by assumption) (by omega) ?_ | refine wp_guard (by omega) ?_ | refine wq_cells (by assumption) ?_); (try simp))
        have args : argsAt x.1 (n - 1) = x.1[n - 1].2.2.1 := argsAt_at hn1
        have aok := (nodeOk_parts (mayL_at hmay hn1)).1
        have bua := holds_le hua
        refine wp_loop (I := fun m2 e h' => Old h2.length h2 h' ∧ ∃ (c : Nat) (M' : List Bool), e = (ea 2 vk <| ea 3 (.ptr h.length 0 0) <| ea 9 (.ref h2.length 0 0 x.1.length) <| ea 10 va' <| ea 11 (.int .i64 ((n - 1 : Nat) : Int)) <| ea 58 ua <| ea 59 (.int .i64 x.1[n - 1].2.2.1.length) <| ea 60 (.int .i64 (c : Nat)) e0) ∧ c + m2 = x.1[n - 1].2.2.1.length ∧ h6.length ≤ h'.length ∧ Holds (fun j => j < h2.length) h' ints x.1[n - 1].2.2.1 [ua] ∧ AccP h2.length h2.length h' .bool (.ref h2.length 0 0 x.1.length) M' ∧ M'.length = x.1.length ∧ (∀ a, a < x.1.length → M'[a]? = some ((f a || decide ((a : Int) ∈ x.1[n - 1].2.2.1.take c)) && decide ((a : Int) ∉ keep))) ∧ AccP (h2.length + 1) (h2.length + 1) h' int va' (A ++ [((n - 1 : Nat) : Int)])) ?_ ⟨o26, 0, M, by simp, Nat.zero_add _, Nat.le_refl _, hua, must6, hM, fun a ha => by rw [hMf a ha]; simp, by rw [← en]; exact acc6⟩
        rintro N2 m2 e h7 ⟨o27, c, M', rfl, hcm, hlen7, hua7, must7, hM', hMf', acc7⟩ next2
        have hk7 := In.old o27 hk2
        dsimp only [C.live_Cone_b0]; simp
        refine wp_dec (fun hc => ?_) fun hc => ?_
        · try simp
          obtain ⟨a0, a1⟩ := argsOk_at aok (List.getElem_mem hc)
          rw [List.length_take] at a1
          refine wq_idx hua7 (by rfl) (by omega) (by omega) ?_
          try simp
          refine wq_int hua7 hc ?_
          try simp
          rw [callK_eq (slices_Contains_int hk7 _ _)]
          try simp
          refine wq_idx (must7.in (Nat.le_refl _)) (by rfl) (by omega) (by omega) ?_
          try simp
          refine wp_putB must7 (by have := o12.1; omega) o27.1 (by omega) fun h8 but8 l8 o78 must8 => ?_
          have w2 := succ64 hc bua
          simp [w2]
          have acc8 := acc7.flatI but8 (fun j hj => by cases hj; omega)
          refine next2 (m2 - 1) _ _ (by omega) ⟨o27.trans o78, c + 1, _, rfl, by omega, by omega, Holds.old o78 (Nat.le_refl _) hua7, must8, by simp [hM'], fun a ha => ?_, acc8⟩
          · rw [List.getElem?_set]
            by_cases c1 : x.1[n - 1].2.2.1[c].toNat = a
            · have e1 : x.1[n - 1].2.2.1[c] = (a : Int) := by rw [← c1]; exact (Int.toNat_of_nonneg a0).symm
              rw [if_pos c1, if_pos (by rw [c1]; omega), take_succ_app hc, e1]
              simp
            · have e1 : ¬ (a : Int) = x.1[n - 1].2.2.1[c] := fun e => c1 (by rw [← e]; exact Int.toNat_natCast a)
              have e2 : (a : Int) ∈ x.1[n - 1].2.2.1.take (c + 1) ↔ (a : Int) ∈ x.1[n - 1].2.2.1.take c := by
                rw [take_succ_app hc, List.mem_append]
                simp [e1]
              rw [if_neg c1, hMf' a ha, decide_eq_decide.2 e2]
        · try simp
          have ec : c = x.1[n - 1].2.2.1.length := by omega
          subst ec
          have w3 : IntKind.i64.wrap (((n - 1 : Nat) : Int) - 1) = ((n - 1 : Nat) : Int) - 1 := w64_id (by omega) (by omega)
          simp [w3]
          refine next (m - 1) _ _ (by omega) ⟨o27, n - 1, fun a => f a || decide ((a : Int) ∈ argsAt x.1 (n - 1)), va', _, M', rfl, by omega, by omega, must7, hM', fun a ha => ?_, by have := o56.1; omega, acc7, ?_⟩
          · rw [hMf' a ha, args, List.take_length]
          · rw [hcone, List.append_assoc]
            rfl
    · try simp
      have en : n = 0 := by omega
      subst en
      rw [coneD, List.append_nil] at hcone
      refine wp_call (slices_Reverse_int acc hlen5 (by omega) b (by have := o12.1; omega)) fun v6 h6 ⟨o6, a6⟩ => ?_
      simp only at o6 a6
      have o1 := o12.1
      try simp
      refine wp_some ⟨o12.trans ((old.trans (o6.mono (by omega))).mono o1), va, ?_, ?_⟩
      · simp [coneE, hm, ht, ha]
      · rw [coneR, if_pos ⟨hm, ht, ha⟩, coneL, hcone]
        exact a6.mono (by omega) (by omega)
  · rw [List.getElem?_set]
    by_cases c1 : i.toNat = a
    · have e1 : (a : Int) = i := by omega
      rw [if_pos c1, if_pos (by simp; omega), e1]
      simp [c1]
    · rw [if_neg c1, List.getElem?_replicate, if_pos ha]
      simp
      intro h
      omega
end
end Go.AM
