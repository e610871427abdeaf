/- How much is there, and the most. -/
import Derived.Test.YtfdbegdgedhhcaaAmS23
set_option linter.all false
namespace Go.AM
set_option maxRecDepth 20000
set_option maxHeartbeats 1000000
attribute [local simp] layAt
attribute [local irreducible] lenK sliceK idxK fldK cutK storeK appK copyK clearK mapAtK callK loopH readK readK1 guardK grdK fnK nilK fieldK extrK strK nextK joinK iteK intK boolK cellsK castK castL castEnv binK unK intBin layParts execN runOpsN runItemsN denN call loop blockK
/-- What is there behind a node, of lives. -/
def profOf (l : List life.den) (i : Nat) : Int := l.foldl (fun n y => if y.1 ≤ (i : Int) ∧ (i : Int) < y.2.1 then w64 (n + y.2.2) else n) 0
def profileL (x : joint.den) : List Int := (List.range x.1.length).map (profOf (livesL x))
theorem profileL_len (x : joint.den) : (profileL x).length = x.1.length := by simp [profileL]
def maxF (a b : Int) : Int := if b > a then b else a
/-- The greatest. -/
def maxL (l : List Int) : Int := (l.drop 1).foldl maxF (l.getD 0 0)
theorem lifeAt_range {x : joint.den} (hm : mayJ x = true) {k : Nat} (hk : k < x.1.length) : (lifeAt x k).1 = (k : Int) ∧ 0 ≤ (lifeAt x k).2.1 ∧ (lifeAt x k).2.1 ≤ (x.1.length : Int) := by
  refine ⟨rfl, ?_⟩
  have := toUp_le x.1 k x.1.length x.1.length hk (Nat.le_refl _)
  simp only [lifeAt]
  split
  · exact ⟨Int.natCast_nonneg _, Int.le_refl _⟩
  · exact ⟨Int.le_trans (by omega) this.1, this.2⟩
section
variable {h : Heap}
theorem AccP.flatO {h' : Heap} {f n0 k : Nat} {v : AV} {l : List Int} (H : AccP f n0 h int v l) (o : Old k h h') (hv : ∀ j, v.blk = some j → j < k) : AccP f n0 h' int v l :=
  H.flat (fun _ _ _ _ h => h) fun j hj => o.2 j (hv j hj)
theorem AccP.flatM {h' : Heap} {f n0 : Nat} {v w : AV} {l : List life.den} (H : AccP f n0 h life v l) (but : But w h h') (hw : ∀ j, w.blk = some j → j < n0) : AccP f n0 h' life v l :=
  H.flat (fun _ _ x cs hh => by
    obtain ⟨c1, c2, rfl, ⟨rfl, h1⟩, c3, c4, rfl, ⟨rfl, h2⟩, ⟨rfl, h3⟩⟩ := hh
    exact ⟨_, _, rfl, ⟨rfl, h1⟩, _, _, rfl, ⟨rfl, h2⟩, ⟨rfl, h3⟩⟩) fun j hj => by
    obtain ⟨_, a, _⟩ := H
    have := a.lt hj
    exact but.2 j this.2 fun e => by have := hw j e; omega
theorem live_Lives {x : joint.den} {cs : List AV} (hx : In h joint x cs) (hsm : Small x.1) (b : Nat) (hb : b ≤ h.length) : WP (call prog b 17 [.agg cs] h) fun r => Old h.length h r.2 ∧ ∃ v, r.1 = .tup [v, .int .i64 (if mayJ x = true then 0 else 1)] ∧ AccP h.length h.length r.2 life v (if mayJ x = true then livesL x else []) := by
  obtain ⟨vn, vg, rfl, hn, hg, hl⟩ := holds_joint hx
  refine wp_enter (fn := C.live_Lives) rfl ?_
  dsimp only [bodyN, C.live_Lives]; simp
  generalize hh : h ++ [AObj.cells 0 1 [vn, AV.int IntKind.i64 x.snd.fst, vg]] = h1
  have o1 : Old h.length h h1 := hh ▸ Old.app
  have b1 : Box h1 h.length [vn, AV.int IntKind.i64 x.snd.fst, vg] := by rw [← hh]; simp [Box]
  refine wq_ptrs b1 (by simp) ?_
  try simp
  have l1 := o1.1
  refine wp_call (back_May (In.old o1 hx) hsm b (by omega)) fun v2 h2 ⟨o2, e2⟩ => ?_
  simp only at o2 e2
  subst e2
  have o12 := o1.trans (o2.mono l1)
  have b2 := b1.old o2 b1.lt
  have l2 := o12.1
  try simp
  refine wp_iteK (fun hm => ?_) fun hm => ?_
  · rw [Bool.not_eq_true'] at hm
    try simp
    exact wp_some ⟨o12, .nil, by simp [hm], by simp [hm]; exact AccP.nil⟩
  rw [Bool.not_eq_false'] at hm
  try simp
  refine wq_ptrs b2 (by simp) ?_
  try simp
  refine wp_call (live_All (In.old o12 hx) hm b (by omega)) fun v3 h3 ⟨o3, a3⟩ => ?_
  simp only at o3 a3
  try simp
  exact wp_some ⟨o12.trans (o3.mono l2), v3, by simp [hm], by simpa [hm] using a3.mono l2 l2⟩
theorem live_Profile {x : joint.den} {cs : List AV} (hx : In h joint x cs) (hsm : Small x.1) (b : Nat) (hb : b ≤ h.length) : WP (call prog b 47 [.agg cs] h) fun r => Old h.length h r.2 ∧ ∃ v, r.1 = .tup [v, .int .i64 (if mayJ x = true then 0 else 1)] ∧ AccP h.length h.length r.2 int v (if mayJ x = true then profileL x else []) := by
  obtain ⟨vn, vg, rfl, hn, hg, hl⟩ := holds_joint hx
  refine wp_enter (fn := C.live_Profile) rfl ?_
  dsimp only [bodyN, C.live_Profile, C.live_Profile_l1]; simp
  generalize hh : h ++ [AObj.cells 0 1 [vn, AV.int IntKind.i64 x.snd.fst, vg]] = h1
  have o1 : Old h.length h h1 := hh ▸ Old.app
  have b1 : Box h1 h.length [vn, AV.int IntKind.i64 x.snd.fst, vg] := by rw [← hh]; simp [Box]
  refine wq_ptrs b1 (by simp) ?_
  try simp
  have l1 := o1.1
  refine wp_call (back_May (In.old o1 hx) hsm b (by omega)) fun v2 h2 ⟨o2, e2⟩ => ?_
  simp only at o2 e2
  subst e2
  have o12 := o1.trans (o2.mono l1)
  have b2 := b1.old o2 b1.lt
  have l12 := o12.1
  try simp
  refine wp_iteK (fun hm => ?_) fun hm => ?_
  · rw [Bool.not_eq_true'] at hm
    try simp
    exact wp_some ⟨o12, .nil, by simp [hm], by simp [hm]; exact AccP.nil⟩
  rw [Bool.not_eq_false'] at hm
  obtain ⟨hmay, hlen, _⟩ := mayJ_parts hm
  have hn2 := In.old o12 hn
  have hx2 := In.old o12 hx
  try simp
  repeat ((first | refine wq_len (by assumption) ?_ | refine wq_idx (by assumption) (by rfl) (by omega) (by omega) ?_ | refine wq_int (by assumption) (by omega) ?_ | refine wq_kind (by assumption) (by omega) ?_ | refine wq_num (by assumption) (by omega) ?_ | refine wq_name (by assumption) (by omega) ?_ | refine wq_ptr (by assumption) rfl ?_ | refine wp_new1 rfl ?_ | refine wq_from (by assumption) (by omega) ?_ | refine wq_to (by assumption) (by omega) ?_ | refine wq_size (by assumption) (by omega) ?_ | refine wq_life (by assumption) (by omega) ?_ | refine wp_guard (by omega) ?_ | refine wq_cells (by assumption) ?_); (try simp))
  have mk := accp_make (h := h2) (p := int) (n := x.1.length) (x := 0) (zs := [.int .i64 0]) (fun _ _ => holds_int (by omega)) (by omega)
  simp [PT.sz] at mk
  have o23 : Old h2.length h2 (h2 ++ [AObj.cells 0 1 (List.replicate (List.length x.fst) (AV.int IntKind.i64 0))]) := Old.app
  have l3 : (h2 ++ [AObj.cells 0 1 (List.replicate (List.length x.fst) (AV.int IntKind.i64 0))]).length = h2.length + 1 := by simp
  generalize h2 ++ [AObj.cells 0 1 (List.replicate (List.length x.fst) (AV.int IntKind.i64 0))] = h3 at *
  have b3 := b2.old o23 b2.lt
  refine wq_ptrs b3 (by simp) ?_
  try simp
  refine wp_call (live_All (In.old o23 hx2) hm b (by omega)) fun v4 h4 ⟨o34, a4⟩ => ?_
  simp only at o34 a4
  have mk4 := mk.flat (h' := h4) (fun _ _ _ _ h => h) (fun j hj => o34.2 j (by cases hj; omega))
  have o24 := o23.trans (o34.mono (by omega))
  have l34 := o34.1
  have a4m := a4.mono (m0 := h2.length + 1) (by omega) (by omega)
  have ll := livesL_len x
  try simp
  refine wq_len (a4.in (Nat.le_refl _)) ?_
  try simp
  refine wp_loop (I := fun m e h' => Old h2.length h2 h' ∧ ∃ (c : Nat) (P : List Int), e = (ea 4 (.ref h2.length 0 0 x.1.length) <| ea 16 v4 <| ea 17 (.int .i64 (livesL x).length) <| ea 18 (.int .i64 (c : Nat)) e0) ∧ c + m = x.1.length ∧ AccP (h2.length + 1) (h2.length + 1) h' life v4 (livesL x) ∧ h2.length + 1 ≤ h'.length ∧ AccP h2.length h2.length h' int (.ref h2.length 0 0 x.1.length) P ∧ P.length = x.1.length ∧ ∀ q, q < x.1.length → P[q]? = some (profOf ((livesL x).take c) q)) ?_ ⟨o24, 0, _, rfl, Nat.zero_add _, a4m, by omega, mk4, by simp, fun q hq => by rw [List.getElem?_replicate, if_pos hq]; rfl⟩
  rintro N m e h5 ⟨o25, c, P, rfl, hcm, a5, l5, p5, hP, hPq⟩ next
  have i5 := a5.in (Nat.le_refl _)
  dsimp only [C.live_Profile_b1, C.live_Profile_l0]; simp
  refine wp_dec (fun hc => ?_) fun hc => ?_
  · have hc' : c < x.1.length := by omega
    have hcl : c < (livesL x).length := by omega
    have w1 := succ64 (i := c) (n := 240) (by omega) (by omega)
    have eL : (livesL x)[c] = lifeAt x c := by simp [livesL]
    obtain ⟨f1, f2, f3⟩ := lifeAt_range hm hc'
    have hpf : ∀ q : Nat, profOf ((livesL x).take (c + 1)) q = if (c : Int) ≤ (q : Int) ∧ (q : Int) < (lifeAt x c).2.1 then w64 (profOf ((livesL x).take c) q + (lifeAt x c).2.2) else profOf ((livesL x).take c) q := fun q => by
      rw [profOf, foldl_take_succ _ _ hcl, eL, f1]
      rfl
    try simp
    refine wq_idx i5 (by rfl) (by omega) (by omega) ?_
    try simp
    refine wq_life i5 hcl ?_
    rw [eL, f1]
    try simp
    refine wq_init (by omega) (by rfl) (by rfl) fun h6 o56 b6 lt6 => ?_
    try simp
    repeat ((first | refine wq_len (by assumption) ?_ | refine wq_idx (by assumption) (by rfl) (by omega) (by omega) ?_ | refine wq_int (by assumption) (by omega) ?_ | refine wq_kind (by assumption) (by omega) ?_ | refine wq_num (by assumption) (by omega) ?_ | refine wq_name (by assumption) (by omega) ?_ | refine wq_ptr (by assumption) rfl ?_ | refine wp_new1 rfl ?_ | refine wq_from (by assumption) (by omega) ?_ | refine wq_to (by assumption) (by omega) ?_ | refine wq_size (by assumption) (by omega) ?_ | refine wq_life (by assumption) (by omega) ?_ | refine wp_guard (by omega) ?_ | refine wq_cells (by assumption) ?_); (try simp))
    have p6 := p5.flatO o56 (fun j hj => by cases hj; omega)
    have a6 := a5.keep o56
    have l6 := o56.1
    refine wp_loop (I := fun m2 e h' => Old h2.length h2 h' ∧ ∃ (i : Nat) (P' : List Int), e = (ea 4 (.ref h2.length 0 0 x.1.length) <| ea 6 (.ptr h5.length 0 0) <| ea 7 (.int .i64 (i : Nat)) <| ea 16 v4 <| ea 17 (.int .i64 (livesL x).length) <| ea 18 (.int .i64 (c : Nat)) e0) ∧ i + m2 = x.1.length ∧ c ≤ i ∧ ((i : Int) ≤ (lifeAt x c).2.1 ∨ i = c) ∧ h6.length ≤ h'.length ∧ Box h' h5.length [.int .i64 (c : Int), .int .i64 (lifeAt x c).2.1, .int .i64 (lifeAt x c).2.2] ∧ AccP (h2.length + 1) (h2.length + 1) h' life v4 (livesL x) ∧ AccP h2.length h2.length h' int (.ref h2.length 0 0 x.1.length) P' ∧ P'.length = x.1.length ∧ ∀ q, q < x.1.length → P'[q]? = some (if c ≤ q ∧ q < i then w64 (profOf ((livesL x).take c) q + (lifeAt x c).2.2) else profOf ((livesL x).take c) q)) ?_ (m := x.1.length - c) ⟨o25.trans (o56.mono (by omega)), c, P, rfl, by omega, Nat.le_refl _, .inr rfl, Nat.le_refl _, b6, a6, p6, hP, fun q hq => by rw [hPq q hq, if_neg (by omega)]⟩
    rintro N2 m2 e h7 ⟨o27, i, P', rfl, him, hci, hit, l7, b7, a7, p7, hP', hPq'⟩ next2
    dsimp only [C.live_Profile_b0]; simp
    refine wq_ptr b7 rfl ?_
    try simp
    refine wp_dec (fun hi => ?_) fun hi => ?_
    · have hiT : (i : Int) < (lifeAt x c).2.1 := hi
      have hiN : i < x.1.length := Int.ofNat_lt.1 (Int.lt_of_lt_of_le hiT f3)
      have w2 := succ64 (i := i) (n := 240) (by omega) (by omega)
      have hiP : i < P'.length := by omega
      have eP := hPq' i (by omega)
      rw [List.getElem?_eq_getElem hiP, if_neg (by omega)] at eP
      have eP := Option.some.inj eP
      have p7i := p7.in (Nat.le_refl _)
      try simp
      refine wq_idx p7i (by rfl) (by omega) (by omega) ?_
      try simp
      refine wq_int p7i hiP ?_
      try simp
      refine wq_ptr b7 rfl ?_
      try simp
      refine wq_idx p7i (by rfl) (by omega) (by omega) ?_
      try simp
      refine wp_putI p7 (wrap_range _) (by omega) o27.1 hiP fun h8 but8 l8 o78 p8 => ?_
      simp [w2]
      have b8 : Box h8 h5.length _ := (but8.2 _ b7.lt (fun e => by have := Option.some.inj e; omega)).trans b7
      refine next2 (m2 - 1) _ _ (by omega) ⟨o27.trans o78, i + 1, _, rfl, by omega, by omega, .inl (Int.add_one_le_of_lt hiT), by omega, b8, a7.flatM but8 (fun j hj => by cases hj; omega), p8, by simp [hP'], fun q hq => ?_⟩
      rw [List.getElem?_set]
      by_cases c1 : i = q
      · subst c1
        rw [if_pos rfl, if_pos hiP, if_pos (by omega), eP]
      · rw [if_neg c1, hPq' q hq]
        by_cases c2 : c ≤ q ∧ q < i
        · rw [if_pos c2, if_pos (by omega)]
        · rw [if_neg c2, if_neg (by omega)]
    · simp [w1]
      refine next (m - 1) _ _ (by omega) ⟨o27, c + 1, P', rfl, by omega, a7, by omega, p7, hP', fun q hq => ?_⟩
      rw [hPq' q hq, hpf q]
      by_cases c2 : c ≤ q ∧ q < i
      · rw [if_pos c2, if_pos (by omega)]
      · rw [if_neg c2, if_neg (by omega)]
  · have ec : c = x.1.length := by omega
    try simp
    refine wp_some ⟨o12.trans (o25.mono l12), .ref h2.length 0 0 x.1.length, by simp [hm], ?_⟩
    have e : P = profileL x := by
      apply List.ext_getElem?
      intro q
      rcases Nat.lt_or_ge q x.1.length with hq | hq
      · rw [hPq q hq, profileL, List.getElem?_map, List.getElem?_range hq, List.take_of_length_le (by omega)]
        rfl
      · rw [List.getElem?_eq_none (by omega), List.getElem?_eq_none (by rw [profileL_len]; omega)]
    rw [if_pos hm, ← e]
    exact p5.mono l12 l12
theorem slices_Max_int {v : AV} {l : List Int} (hl : In h ints l [v]) (h0 : l ≠ []) (b : Nat) : call prog b 73 [v] h = some (.int .i64 (maxL l), h) := by
  have hp : 0 < l.length := List.length_pos_iff.2 h0
  have bl := holds_le hl
  refine wp_iff.1 (wp_enter (fn := C.slices_Max_int) rfl ?_)
  dsimp only [bodyN, C.slices_Max_int, C.slices_Max_int_l0]; simp
  refine wq_len hl ?_
  have n1 : ¬ ((l.length : Int) < 1) := by omega
  simp [n1]
  refine wq_idx hl (by rfl) (by omega) (by omega) ?_
  try simp
  refine wq_int hl hp ?_
  try simp
  refine wp_loop (I := fun m e h' => h' = h ∧ ∃ (i : Nat) (a : Int), e = (ea 0 v <| ea 3 (.int .i64 a) <| ea 4 (.int .i64 (i : Nat)) e0) ∧ i + m = l.length ∧ 1 ≤ i ∧ a = ((l.drop 1).take (i - 1)).foldl maxF (l.getD 0 0)) ?_ (m := l.length - 1) ⟨rfl, 1, l[0], rfl, by omega, Nat.le_refl _, by rw [List.getD_eq_getElem?_getD, List.getElem?_eq_getElem hp]; rfl⟩
  rintro N m e _ ⟨rfl, i, a, rfl, him, hi1, ha⟩ next
  dsimp only [C.slices_Max_int_b0]; simp
  refine wq_len hl ?_
  try simp
  refine wp_dec (fun hi => ?_) fun hi => ?_
  · try simp
    refine wq_idx hl (by rfl) (by omega) (by omega) ?_
    try simp
    refine wq_int hl hi ?_
    have w1 := succ64 hi bl
    simp [w1]
    refine next (m - 1) _ _ (by omega) ⟨rfl, i + 1, _, rfl, by omega, by omega, ?_⟩
    obtain ⟨d, rfl⟩ : ∃ d, i = d + 1 := ⟨i - 1, by omega⟩
    have hd : d < (l.drop 1).length := by simp; omega
    rw [Nat.add_sub_cancel, foldl_take_succ _ _ hd]
    rw [Nat.add_sub_cancel] at ha
    rw [← ha, List.getElem_drop, maxF]
    simp [Nat.add_comm]
  · try simp
    have ei : i = l.length := by omega
    refine wp_some ?_
    rw [ha, ei, List.take_of_length_le (by simp), maxL]
theorem live_Peak {x : joint.den} {cs : List AV} (hx : In h joint x cs) (hsm : Small x.1) (b : Nat) (hb : b ≤ h.length) : WP (call prog b 18 [.agg cs] h) fun r => Old h.length h r.2 ∧ r.1 = .tup [.int .i64 (if mayJ x = true then maxL (profileL x) else 0), .int .i64 (if mayJ x = true then 0 else 1)] := by
  obtain ⟨vn, vg, rfl, hn, hg, hl⟩ := holds_joint hx
  refine wp_enter (fn := C.live_Peak) rfl ?_
  dsimp only [bodyN, C.live_Peak]; simp
  generalize hh : h ++ [AObj.cells 0 1 [vn, AV.int IntKind.i64 x.snd.fst, vg]] = h1
  have o1 : Old h.length h h1 := hh ▸ Old.app
  have b1 : Box h1 h.length [vn, AV.int IntKind.i64 x.snd.fst, vg] := by rw [← hh]; simp [Box]
  refine wq_ptrs b1 (by simp) ?_
  try simp
  have l1 := o1.1
  refine wp_call (live_Profile (In.old o1 hx) hsm b (by omega)) fun v2 h2 ⟨o2, v3, e2, a2⟩ => ?_
  simp only at o2 e2 a2
  subst e2
  have o12 := o1.trans (o2.mono l1)
  by_cases hm : mayJ x = true
  · simp only [hm, if_true] at a2 ⊢
    try simp
    obtain ⟨_, _, ht, _⟩ := mayJ_parts hm
    have := there_nat ht
    have hne : profileL x ≠ [] := fun e => by
      have := congrArg List.length e
      rw [profileL_len] at this
      simp at this
      simp [this] at ht
      simp [there] at ht
      omega
    rw [callK_eq (slices_Max_int (a2.in (Nat.le_refl _)) hne b)]
    try simp
    exact wp_some ⟨o12, rfl⟩
  · simp only [hm] at a2 ⊢
    try simp
    exact wp_some ⟨o12, rfl⟩
end
end Go.AM
