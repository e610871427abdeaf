import Derived.Test.YtfdbegdgedhhcaaGreatAmS27
set_option linter.all false
/- What goes through: the program's. -/
namespace Go.AM
set_option maxRecDepth 20000
set_option maxHeartbeats 1000000
attribute [local simp] layAt
attribute [local irreducible] lenK sliceK idxK fldK cutK storeK appK copyK clearK mapAtK callK loopH readK readK1 guardK grdK fnK nilK fieldK extrK strK nextK joinK iteK intK boolK cellsK castK castL castEnv binK unK intBin layParts execN runOpsN runItemsN denN call loop blockK
section
variable {R : Type} {Q : R → Prop} {h : Heap}
theorem gate_Step {s t : tensor.den} {cs ct : List AV} (hs : In h tensor s cs) (ht : In h tensor t ct) (ks : tenOk s = true) (kt : tenOk t = true) (e : s.1 = t.1) (b : Nat) (hb : b ≤ h.length) :
    WP (call prog b 157 [.agg cs, .agg ct] h) fun r => Old h.length h r.2 ∧ ∃ v, r.1 = .tup [v, .int .i64 0] ∧ TenAt h.length r.2 (s.1, stepL s.2 t.2) v := by
  obtain ⟨sd, st, rfl, hsd, hst⟩ := holds_tensor hs
  obtain ⟨td, tt, rfl, htd, htt⟩ := holds_tensor ht
  obtain ⟨s1, s2, s3, s4, s5⟩ := ten_parts ks
  obtain ⟨t1, t2, t3, t4, t5⟩ := ten_parts kt
  have hl : t.2.length = s.2.length := by rw [e] at s2; omega
  refine wp_enter (fn := C.gate_Step) rfl ?_
  dsimp only [bodyN, C.gate_Step, C.gate_Step_l0]; simp
  generalize hh : h ++ [AObj.cells 0 1 [sd, st], AObj.cells 0 1 [td, tt], AObj.cells 0 1 [AV.nil, AV.nil]] = h1
  have o1 : Old h.length h h1 := hh ▸ Old.app
  have l1 : h1.length = h.length + 3 := by rw [← hh]; simp
  have b1 : Box h1 h.length [sd, st] := by rw [← hh]; simp [Box]
  have c1 : Box h1 (h.length + 1) [td, tt] := by rw [← hh]; simp [Box]
  have r1 : Box h1 (h.length + 2) [AV.nil, AV.nil] := by rw [← hh]; simp [Box]
  refine wq_ptrs b1 (by simp) ?_
  try simp
  refine wq_ptrs c1 (by simp) ?_
  try simp
  have H2 := in_new (h := h1) (s := 2) (n := 2) (l := [s, t]) (p := tensor) ⟨_, _, rfl, In.old o1 hs, _, [], (List.append_nil _).symm, In.old o1 ht, rfl⟩ (by simp) (by rfl) (by simp)
  simp at H2
  have o2 : Old h1.length h1 (h1 ++ [AObj.cells 0 2 [sd, st, td, tt]]) := Old.app
  generalize h1 ++ [AObj.cells 0 2 [sd, st, td, tt]] = h2 at *
  have l2 := o2.1
  refine wp_call (shape_All H2 b (by omega)) fun v3 h3 ⟨o3, e3⟩ => ?_
  simp only at o3 e3
  simp [ks, kt] at e3
  subst e3
  have o13 := o2.trans (o3.mono l2)
  have l3 := o3.1
  have o03 := o1.trans (o13.mono (by omega))
  have b3 := b1.old o13 b1.lt
  have c3 := c1.old o13 c1.lt
  have r3 := r1.old o13 r1.lt
  try simp
  refine wq_ptr b3 rfl ?_
  try simp
  refine wq_ptr c3 rfl ?_
  try simp
  rw [callK_eq (slices_Equal_int (In.old o03 hsd) (In.old o03 htd) _)]
  simp [e]
  refine wq_ptr b3 rfl ?_
  try simp
  refine wp_call (shape_New (In.old o03 hsd) s1 b (by omega)) fun v4 h4 ⟨o4, T4⟩ => ?_
  simp only at o4 T4
  have l4 := o4.1
  try simp
  refine wp_initT T4 (by omega) fun vD vT k h5 e5 o5 lt5 B5 => ?_
  subst e5
  have l5 := o5.1
  have kl := B5.kl
  have kle := B5.le
  have o35 := o4.trans (o5.mono l4)
  have o15 := o13.trans (o35.mono (by omega))
  have b5 := b1.old o15 b1.lt
  have c5 := c1.old o15 c1.lt
  have r5 := r1.old o15 r1.lt
  have o05 := o1.trans (o15.mono (by omega))
  have lr1 := r1.lt
  have hst5 := In.old o05 hst
  try simp
  refine wq_ptr b5 rfl ?_
  try simp
  refine wq_len hst5 ?_
  have en : (prodI s.1).toNat = s.2.length := by omega
  rw [en] at B5
  try simp
  refine wp_loop (I := fun m e h' => Old k h5 h' ∧ h'.length = h5.length ∧ ∃ (i : Nat) (D : List Int), e = (ea 3 (.ptr (h.length + 1) 0 0) <| ea 4 (.ptr (h.length + 2) 0 0) <| ea 6 (.ptr h4.length 0 0) <| ea 28 st <| ea 29 (.int .i64 s.2.length) <| ea 30 (.int .i64 (i : Nat)) e0) ∧ i + m = s.2.length ∧ TB h3.length k h4.length s.1 D vD vT h' ∧ D.length = s.2.length ∧ ∀ q, q < s.2.length → D[q]? = some (if q < i then stepV (s.2.getD q 0) (t.2.getD q 0) else 0)) ?_ ⟨Old.refl (by omega), rfl, 0, _, rfl, Nat.zero_add _, B5, by simp, fun q hq => by rw [if_neg (by omega), List.getElem?_replicate, if_pos hq]⟩
  rintro N m e' h6 ⟨o6, l6, i, D, rfl, him, B6, hD, hDq⟩ next
  have c6 := c5.old o6 (by have := c1.lt; omega)
  have r6 := r5.old o6 (by omega)
  have o06 := o05.trans (o6.mono (by omega))
  have hst6 := In.old o06 hst
  have htt6 := In.old o06 htt
  dsimp only [C.gate_Step_b0]; simp
  refine wp_dec (fun hi => ?_) fun hi => ?_
  · have w1 := succ64 (i := i) (n := 64) (by omega) (by omega)
    have hit : i < t.2.length := by omega
    have gs : s.2.getD i 0 = s.2[i] := by rw [List.getD_eq_getElem?_getD, List.getElem?_eq_getElem hi]; rfl
    have gt : t.2.getD i 0 = t.2[i] := by rw [List.getD_eq_getElem?_getD, List.getElem?_eq_getElem hit]; rfl
    have ht6 := holds_range htt6 hit
    try simp
    refine wq_idx hst6 (by rfl) (by omega) (by omega) ?_
    try simp
    refine wq_int hst6 hi ?_
    try simp
    refine wp_dec (fun hz => ?_) fun hz => ?_
    · try simp
      refine wq_ptr B6.box rfl ?_
      try simp
      refine wq_ptr c6 rfl ?_
      try simp
      refine wq_idx htt6 (by rfl) (by omega) (by omega) ?_
      try simp
      refine wq_int htt6 hit ?_
      try simp
      refine wq_idx B6.in (by rfl) (by omega) (by omega) ?_
      try simp
      refine wp_putT B6 ht6 (by omega) (by omega) (by omega) fun h7 o7 l7 _ B7 => ?_
      simp [w1]
      refine next (m - 1) _ _ (by omega) ⟨o6.trans o7, by omega, i + 1, _, by simp, by omega, B7, by simp [hD], fun q hq => ?_⟩
      rw [List.getElem?_set]
      by_cases c : i = q
      · subst c
        rw [if_pos rfl, if_pos (by omega), if_pos (by omega), gs, gt, stepV, if_pos (by omega)]
      · rw [if_neg c, hDq q hq]
        by_cases c2 : q < i
        · rw [if_pos c2, if_pos (by omega)]
        · rw [if_neg c2, if_neg (by omega)]
    · simp [w1]
      refine next (m - 1) _ _ (by omega) ⟨o6, by omega, i + 1, D, by simp, by omega, B6, hD, fun q hq => ?_⟩
      rw [hDq q hq]
      by_cases c : i = q
      · subst c
        rw [if_neg (by omega), if_pos (by omega), gs, stepV, if_neg (by omega)]
      · by_cases c2 : q < i
        · rw [if_pos c2, if_pos (by omega)]
        · rw [if_neg c2, if_neg (by omega)]
  · have ei : i = s.2.length := by omega
    try simp
    refine wq_ptrs B6.box (by simp) ?_
    try simp
    refine wq_put r6 (by omega) (vs := [vD, vT]) (fun _ => by rw [cellsK_agg]) (by rfl) (by simp) fun h7 l7 k7 b7 => ?_
    simp at b7
    try simp
    refine wq_ptrs b7 (by simp) ?_
    try simp
    have eD : D = stepL s.2 t.2 := by
      apply List.ext_getElem?
      intro q
      rcases Nat.lt_or_ge q s.2.length with hq | hq
      · rw [hDq q hq, if_pos (by omega), stepL, List.getElem?_zipWith, List.getElem?_eq_getElem hq, List.getElem?_eq_getElem (by omega), List.getD_eq_getElem?_getD, List.getD_eq_getElem?_getD, List.getElem?_eq_getElem hq, List.getElem?_eq_getElem (by omega)]
        rfl
      · rw [List.getElem?_eq_none (by omega), List.getElem?_eq_none (by simp [stepL]; omega)]
    rw [eD, e] at B6
    exact wp_some ⟨o06.trans (old_put l7 k7 (by omega) (by omega)), _, rfl, (B6.told l7 k7 (by omega)).mono (by omega)⟩
theorem gate_Relu {s : tensor.den} {cs : List AV} (hs : In h tensor s cs) (ks : tenOk s = true) (b : Nat) (hb : b ≤ h.length) :
    WP (call prog b 165 [.agg cs] h) fun r => Old h.length h r.2 ∧ ∃ v, r.1 = .tup [v, .int .i64 0] ∧ TenAt h.length r.2 (s.1, stepL s.2 s.2) v := by
  obtain ⟨sd, st, rfl, hsd, hst⟩ := holds_tensor hs
  refine wp_enter (fn := C.gate_Relu) rfl ?_
  dsimp only [bodyN, C.gate_Relu]; simp
  generalize hh : h ++ [AObj.cells 0 1 [sd, st], AObj.cells 0 1 [AV.nil, AV.nil]] = h1
  have o1 : Old h.length h h1 := hh ▸ Old.app
  have l1 : h1.length = h.length + 2 := by rw [← hh]; simp
  have b1 : Box h1 h.length [sd, st] := by rw [← hh]; simp [Box]
  have r1 : Box h1 (h.length + 1) [AV.nil, AV.nil] := by rw [← hh]; simp [Box]
  refine wq_ptrs b1 (by simp) ?_
  try simp
  refine wq_ptrs b1 (by simp) ?_
  try simp
  refine wp_call (gate_Step (In.old o1 hs) (In.old o1 hs) ks ks rfl b (by omega)) fun v2 h2 ⟨o2, v3, e2, T2⟩ => ?_
  simp only at o2 e2 T2
  subst e2
  obtain ⟨vd, vt, k, rfl, ad, hk, hnk, hkl, at3⟩ := T2
  have l2 := o2.1
  have r2 := r1.old o2 r1.lt
  have r1lt := r1.lt
  try simp
  refine wq_put r2 (by omega) (vs := [vd, vt]) (fun _ => by rw [cellsK_agg]) (by rfl) (by simp) fun h6 l6 k6 b6 => ?_
  simp at b6
  try simp
  refine wq_ptrs b6 (by simp) ?_
  try simp
  exact wp_some ⟨(o1.trans (o2.mono (by omega))).trans (old_put l6 k6 (by omega) (by omega)), _, rfl, vd, vt, k, rfl, (ad.but l6 k6 (by omega) (by omega)).mono (by omega) (by omega), hk, by omega, by simp only; omega, at3.but l6 k6 (by omega) (by omega)⟩
end
end Go.AM

/- Strides, places, numbers: the program's. -/
namespace Go.AM
set_option maxRecDepth 20000
set_option maxHeartbeats 1000000
attribute [local simp] layAt
attribute [local irreducible] lenK sliceK idxK fldK cutK storeK appK copyK clearK mapAtK callK loopH readK readK1 guardK grdK fnK nilK fieldK extrK strK nextK joinK iteK intK boolK cellsK castK castL castEnv binK unK intBin layParts execN runOpsN runItemsN denN call loop blockK
/-- Dims that are few and small. -/
def Fit (d : List Int) : Prop := Pos d ∧ (∀ x ∈ d, x ≤ 8) ∧ d.length ≤ 3
theorem Fit.drop {d : List Int} (h : Fit d) (i : Nat) : Fit (d.drop i) :=
  ⟨fun x hx => h.1 x (List.mem_of_mem_drop hx), fun x hx => h.2.1 x (List.mem_of_mem_drop hx), by simp; have := h.2.2; omega⟩
theorem Fit.prod {d : List Int} (h : Fit d) : prodW d = prodI d := prodW_eq h.1 h.2.1 h.2.2
theorem dimsOk_fit {d : List Int} (h : dimsOk d = true) : Fit d := ⟨dimsOk_pos h, fun x hx => (dimsOk_mem h hx).2, (dimsOk_len h).2⟩
theorem Fit.le {d : List Int} (h : Fit d) : 1 ≤ prodI d ∧ prodI d ≤ 512 := by
  refine ⟨prodI_pos h.1, ?_⟩
  have key : ∀ d : List Int, Pos d → (∀ x ∈ d, x ≤ 8) → prodI d ≤ 8 ^ d.length := fun d => by
    induction d with
    | nil => intro _ _; simp [prodI]
    | cons x d ih =>
      intro hp h8
      have h1 := ih hp.tail (fun y hy => h8 y (List.mem_cons_of_mem _ hy))
      have h2 := h8 x List.mem_cons_self
      have h3 := prodI_pos hp.tail
      simp only [prodI, List.length_cons, Int.pow_succ]
      rw [Int.mul_comm (8 ^ d.length)]
      exact Int.mul_le_mul h2 h1 (by omega) (by omega)
  have h1 := key d h.1 h.2.1
  have h2 : (8 : Int) ^ d.length ≤ 8 ^ 3 := by
    have : (8 : Nat) ^ d.length ≤ 8 ^ 3 := Nat.pow_le_pow_right (by omega) h.2.2
    exact_mod_cast this
  have h3 : (8 : Int) ^ 3 = 512 := by decide
  omega
theorem strides_len : ∀ d : List Int, (strides d).length = d.length
  | [] => rfl
  | _ :: d => by simp [strides, strides_len d]
theorem strides_get : ∀ (d : List Int) (i : Nat), i < d.length → (strides d)[i]? = some (prodI (d.drop (i + 1)))
  | [], i, h => by simp at h
  | x :: d, 0, _ => by simp [strides]
  | x :: d, i + 1, h => by
      rw [strides, List.getElem?_cons_succ, strides_get d i (by simpa using h)]
      rfl
section
variable {R : Type} {Q : R → Prop} {h : Heap}
theorem shape_Strides {v : AV} {d : List Int} (hd : In h ints d [v]) (hf : Fit d) (b : Nat) (hb : b ≤ h.length) : WP (call prog b 198 [v] h) fun r => Old h.length h r.2 ∧ AccP h.length h.length r.2 int r.1 (strides d) := by
  have hl3 := hf.2.2
  refine wp_enter (fn := C.shape_Strides) rfl ?_
  dsimp only [bodyN, C.shape_Strides, C.shape_Strides_l0]; simp
  refine wq_len hd ?_
  try simp
  refine wp_guard (by omega) ?_
  have mk := accp_make (h := h) (p := int) (n := d.length) (x := 0) (zs := [.int .i64 0]) (fun _ _ => holds_int (by omega)) (by omega)
  simp [PT.sz] at mk
  have o1 : Old h.length h (h ++ [AObj.cells 0 1 (List.replicate d.length (AV.int IntKind.i64 0))]) := Old.app
  try simp
  generalize h ++ [AObj.cells 0 1 (List.replicate d.length (AV.int IntKind.i64 0))] = h1 at *
  refine wq_len hd ?_
  try simp
  refine wp_loop (I := fun m e h' => Old h.length h h' ∧ ∃ (i : Nat) (D : List Int), e = (ea 0 v <| ea 3 (.ref h.length 0 0 d.length) <| ea 9 (.int .i64 d.length) <| ea 10 (.int .i64 (i : Nat)) e0) ∧ i + m = d.length ∧ AccP h.length h.length h' int (.ref h.length 0 0 d.length) D ∧ D.length = d.length ∧ ∀ q, q < d.length → D[q]? = some (if q < i then prodI (d.drop (q + 1)) else 0)) ?_ ⟨o1, 0, _, rfl, Nat.zero_add _, mk, by simp, fun q hq => by rw [if_neg (by omega), List.getElem?_replicate, if_pos hq]⟩
  rintro N m e h2 ⟨o2, i, D, rfl, him, acc, hD, hDq⟩ next
  have hd2 := In.old o2 hd
  have l2 := o2.1
  dsimp only [C.shape_Strides_b0]; simp
  refine wp_dec (fun hi => ?_) fun hi => ?_
  · have w1 := succ64 (i := i) (n := 3) (by omega) (by omega)
    try simp
    refine wq_len hd2 ?_
    simp [w1]
    refine wp_guard (by omega) ?_
    refine wp_cut (p := int) hd2 rfl (a := i + 1) (b := d.length) (by omega) (Nat.le_refl _) (by simp) (by rfl) fun v3 hv3 => ?_
    have e3 : (d.drop (i + 1)).take (d.length - (i + 1)) = d.drop (i + 1) := List.take_of_length_le (by simp)
    rw [e3] at hv3
    try simp
    rw [callK_eq (shape_Product hv3 _), (hf.drop (i + 1)).prod]
    have fr := (hf.drop (i + 1)).le
    try simp
    refine wq_idx (acc.in (Nat.le_refl _)) (by rfl) (by omega) (by omega) ?_
    try simp
    refine wp_putI acc (by omega) hb l2 (by omega) fun h3 _ l3 o3 a3 => ?_
    simp [w1]
    refine next (m - 1) _ _ (by omega) ⟨o2.trans o3, i + 1, _, by simp, by omega, a3, by simp [hD], fun q hq => ?_⟩
    rw [List.getElem?_set]
    by_cases c : i = q
    · subst c
      rw [if_pos rfl, if_pos (by omega), if_pos (by omega)]
    · rw [if_neg c, hDq q hq]
      by_cases c2 : q < i
      · rw [if_pos c2, if_pos (by omega)]
      · rw [if_neg c2, if_neg (by omega)]
  · have ei : i = d.length := by omega
    try simp
    have eD : D = strides d := by
      apply List.ext_getElem?
      intro q
      rcases Nat.lt_or_ge q d.length with hq | hq
      · rw [hDq q hq, if_pos (by omega), strides_get d q hq]
      · rw [List.getElem?_eq_none (by omega), List.getElem?_eq_none (by rw [strides_len]; omega)]
    refine wp_some ⟨o2, ?_⟩
    rw [← eD]
    exact acc
end
end Go.AM

/- Numbers of a place, place of numbers: the program's. -/
namespace Go.AM
set_option maxRecDepth 20000
set_option maxHeartbeats 1000000
attribute [local simp] layAt
attribute [local irreducible] lenK sliceK idxK fldK cutK storeK appK copyK clearK mapAtK callK loopH readK readK1 guardK grdK fnK nilK fieldK extrK strK nextK joinK iteK intK boolK cellsK castK castL castEnv binK unK intBin layParts execN runOpsN runItemsN denN call loop blockK
theorem numbersI_len : ∀ (l : List Int) (n : Int), (numbersI l n).length = l.length
  | [], _ => rfl
  | _ :: l, n => by simp [numbersI, numbersI_len l]
theorem strides_drop : ∀ (d : List Int) (i : Nat), (strides d).drop i = strides (d.drop i)
  | _, 0 => rfl
  | [], i + 1 => by simp [strides]
  | x :: d, i + 1 => by simp [strides, strides_drop d i]
theorem Within.drop : ∀ {d p : List Int} (_ : Within d p) (i : Nat), Within (d.drop i) (p.drop i)
  | _, _, h, 0 => h
  | [], [], _, i + 1 => trivial
  | _ :: _, _ :: _, h, i + 1 => Within.drop h.2.2 i
  | [], _ :: _, h, _ + 1 => h.elim
  | _ :: _, [], h, _ + 1 => h.elim
theorem Within.get {d p : List Int} (h : Within d p) {i : Nat} (hi : i < d.length) (hp : i < p.length) : 0 ≤ p[i] ∧ p[i] < d[i] := by
  have := h.drop i
  rw [List.drop_eq_getElem_cons hi, List.drop_eq_getElem_cons hp] at this
  exact ⟨this.1, this.2.1⟩
section
variable {R : Type} {Q : R → Prop} {h : Heap}
theorem shape_Numbers {v : AV} {d : List Int} (hd : In h ints d [v]) (hf : Fit d) {n : Int} (hn : 0 ≤ n ∧ n ≤ 1000) (b : Nat) (hb : b ≤ h.length) : WP (call prog b 195 [v, .int .i64 n] h) fun r => Old h.length h r.2 ∧ AccP h.length h.length r.2 int r.1 (numbersI (strides d) n) := by
  have hl3 := hf.2.2
  refine wp_enter (fn := C.shape_Numbers) rfl ?_
  dsimp only [bodyN, C.shape_Numbers, C.shape_Numbers_l0]; simp
  refine wq_len hd ?_
  try simp
  refine wp_guard (by omega) ?_
  have mk := accp_make (h := h) (p := int) (n := d.length) (x := 0) (zs := [.int .i64 0]) (fun _ _ => holds_int (by omega)) (by omega)
  simp [PT.sz] at mk
  have o1 : Old h.length h (h ++ [AObj.cells 0 1 (List.replicate d.length (AV.int IntKind.i64 0))]) := Old.app
  have l1 : (h ++ [AObj.cells 0 1 (List.replicate d.length (AV.int IntKind.i64 0))]).length = h.length + 1 := by simp
  try simp
  generalize h ++ [AObj.cells 0 1 (List.replicate d.length (AV.int IntKind.i64 0))] = h1 at *
  refine wp_call (shape_Strides (In.old o1 hd) hf b (by omega)) fun v2 h2 ⟨o2, a2⟩ => ?_
  simp only at o2 a2
  have l2 := o2.1
  have mk2 := mk.flatO o2 (fun j hj => by cases hj; omega)
  have sl := strides_len d
  try simp
  refine wq_len (a2.in (Nat.le_refl _)) ?_
  rw [sl]
  try simp
  refine wp_loop (I := fun m e h' => Old h.length h h' ∧ h2.length ≤ h'.length ∧ AccP (h.length + 1) (h.length + 1) h' int v2 (strides d) ∧ ∃ (i : Nat) (k : Int) (P : List Int), e = (ea 1 (.int .i64 k) <| ea 5 (.ref h.length 0 0 d.length) <| ea 12 v2 <| ea 13 (.int .i64 d.length) <| ea 14 (.int .i64 (i : Nat)) e0) ∧ i + m = d.length ∧ 0 ≤ k ∧ k ≤ 1000 ∧ AccP h.length h.length h' int (.ref h.length 0 0 d.length) P ∧ P.length = d.length ∧ numbersI (strides d) n = P.take i ++ numbersI ((strides d).drop i) k) ?_ ⟨o1.trans (o2.mono (by omega)), Nat.le_refl _, a2.mono (by omega) (by omega), 0, n, _, rfl, Nat.zero_add _, hn.1, hn.2, mk2, by simp, by simp⟩
  rintro N m e h3 ⟨o3, l3, a3, i, k, P, rfl, him, k0, k1, acc, hP, hnum⟩ next
  have i3 := a3.in (Nat.le_refl _)
  dsimp only [C.shape_Numbers_b0]; simp
  refine wp_dec (fun hi => ?_) fun hi => ?_
  · have w1 := succ64 (i := i) (n := 3) (by omega) (by omega)
    have hil : i < (strides d).length := by omega
    have eg := strides_get d i (by omega)
    rw [List.getElem?_eq_getElem hil] at eg
    have eg := Option.some.inj eg
    have fr := (hf.drop (i + 1)).le
    rw [← eg] at fr
    have q1 : k.tdiv (strides d)[i] = k / (strides d)[i] := Int.tdiv_eq_ediv_of_nonneg k0
    have q2 : k.tmod (strides d)[i] = k % (strides d)[i] := Int.tmod_eq_emod_of_nonneg k0
    have r1 : 0 ≤ k / (strides d)[i] := Int.ediv_nonneg k0 (by omega)
    have r2 : k / (strides d)[i] ≤ k := Int.ediv_le_self _ k0
    have r3 : 0 ≤ k % (strides d)[i] := Int.emod_nonneg _ (by omega)
    have r4 : k % (strides d)[i] < (strides d)[i] := Int.emod_lt_of_pos _ (by omega)
    have nz : ¬ (strides d)[i] = 0 := by omega
    have w2 : IntKind.i64.wrap (k / (strides d)[i]) = k / (strides d)[i] := w64_id (by omega) (by omega)
    try simp
    refine wq_idx i3 (by rfl) (by omega) (by omega) ?_
    try simp
    refine wq_int i3 hil ?_
    try simp
    refine wp_guard nz ?_
    try simp
    refine wq_idx (acc.in (Nat.le_refl _)) (by rfl) (by omega) (by omega) ?_
    simp [q1, w2]
    refine wp_putI acc (by omega) hb o3.1 (by omega) fun h4 but4 l4 o4 a4 => ?_
    try simp
    refine wp_guard nz ?_
    simp [q2, w1]
    refine next (m - 1) _ _ (by omega) ⟨o3.trans o4, by omega, a3.flatI but4 (fun j hj => by cases hj; omega), i + 1, _, _, rfl, by omega, r3, by omega, a4, by simp [hP], ?_⟩
    rw [hnum, List.drop_eq_getElem_cons hil, numbersI, take_succ_app (by simp; omega)]
    simp [List.take_set_of_le]
  · have ei : i = d.length := by omega
    try simp
    rw [List.take_of_length_le (by omega), List.drop_of_length_le (by omega), numbersI, List.append_nil] at hnum
    rw [hnum]
    exact wp_some ⟨o3, acc⟩
theorem shape_Place {v w : AV} {d p : List Int} (hd : In h ints d [v]) (hp : In h ints p [w]) (hf : Fit d) (hw : Within d p) (b : Nat) (hb : b ≤ h.length) : WP (call prog b 196 [v, w] h) fun r => Old h.length h r.2 ∧ r.1 = .int .i64 (placeI (strides d) p) := by
  have hl3 := hf.2.2
  have pl := hw.len
  refine wp_enter (fn := C.shape_Place) rfl ?_
  dsimp only [bodyN, C.shape_Place, C.shape_Place_l0]; simp
  refine wp_call (shape_Strides hd hf b hb) fun v2 h2 ⟨o2, a2⟩ => ?_
  simp only at o2 a2
  have i2 := a2.in (Nat.le_refl _)
  have hp2 := In.old o2 hp
  have sl := strides_len d
  have pr := placeI_range hf.1 hw
  have fle := hf.le
  try simp
  refine wq_len i2 ?_
  rw [sl]
  try simp
  refine wp_loop (I := fun m e h' => h' = h2 ∧ ∃ (i : Nat) (k : Int), e = (ea 1 w <| ea 5 (.int .i64 k) <| ea 9 v2 <| ea 10 (.int .i64 d.length) <| ea 11 (.int .i64 (i : Nat)) e0) ∧ i + m = d.length ∧ 0 ≤ k ∧ placeI (strides d) p = k + placeI ((strides d).drop i) (p.drop i) ∧ 0 ≤ placeI ((strides d).drop i) (p.drop i)) ?_ ⟨rfl, 0, 0, rfl, Nat.zero_add _, Int.le_refl _, by simp, by simpa using pr.1⟩
  rintro N m e _ ⟨rfl, i, k, rfl, him, k0, hk, hk0⟩ next
  dsimp only [C.shape_Place_b0]; simp
  refine wp_dec (fun hi => ?_) fun hi => ?_
  · have w1 := succ64 (i := i) (n := 3) (by omega) (by omega)
    have hil : i < (strides d).length := by omega
    have hip : i < p.length := by omega
    have hid : i < d.length := by omega
    have wg := hw.get hid hip
    have rest := (placeI_range (hf.drop (i + 1)).1 (hw.drop (i + 1))).1
    rw [← strides_drop] at rest
    have sg : 1 ≤ (strides d)[i] := by
      have eg := strides_get d i hid
      rw [List.getElem?_eq_getElem hil] at eg
      have eg := Option.some.inj eg
      rw [eg]
      exact (hf.drop (i + 1)).le.1
    have pos : 0 ≤ (strides d)[i] * p[i] := Int.mul_nonneg (by omega) wg.1
    have hstep : placeI (strides d) p = k + (strides d)[i] * p[i] + placeI ((strides d).drop (i + 1)) (p.drop (i + 1)) := by
      rw [hk, List.drop_eq_getElem_cons hil, List.drop_eq_getElem_cons hip, placeI]
      omega
    have w2 : IntKind.i64.wrap ((strides d)[i] * p[i]) = (strides d)[i] * p[i] := w64_id (by omega) (by omega)
    have w3 : IntKind.i64.wrap (k + (strides d)[i] * p[i]) = k + (strides d)[i] * p[i] := w64_id (by omega) (by omega)
    try simp
    refine wq_idx i2 (by rfl) (by omega) (by omega) ?_
    try simp
    refine wq_int i2 hil ?_
    try simp
    refine wq_idx hp2 (by rfl) (by omega) (by omega) ?_
    try simp
    refine wq_int hp2 hip ?_
    simp [w1, w2, w3]
    exact next (m - 1) _ _ (by omega) ⟨rfl, i + 1, _, by simp, by omega, by omega, hstep, rest⟩
  · have ei : i = d.length := by omega
    try simp
    rw [List.drop_of_length_le (by omega), List.drop_of_length_le (by omega)] at hk
    refine wp_some ⟨o2, ?_⟩
    rw [hk]
    simp [placeI]
end
end Go.AM

/- Places in lesser dims; other dims. -/
namespace Go.AM
set_option maxRecDepth 20000
set_option maxHeartbeats 1000000
attribute [local simp] layAt
attribute [local irreducible] lenK sliceK idxK fldK cutK storeK appK copyK clearK mapAtK callK loopH readK readK1 guardK grdK fnK nilK fieldK extrK strK nextK joinK iteK intK boolK cellsK castK castL castEnv binK unK intBin layParts execN runOpsN runItemsN denN call loop blockK
theorem narrowI_len : ∀ (a p : List Int), (narrowI a p).length = p.length
  | [], p => by simp [narrowI]
  | _ :: _, [] => rfl
  | _ :: a, _ :: p => by simp [narrowI, narrowI_len a p]
theorem narrowI_get : ∀ {a p : List Int} {i : Nat} (ha : i < a.length) (hp : i < p.length), (narrowI a p)[i]? = some (if a[i] = 1 then 0 else p[i])
  | [], _, i, ha, _ => by simp at ha
  | _ :: _, [], i, _, hp => by simp at hp
  | x :: a, y :: p, 0, _, _ => by simp [narrowI]
  | x :: a, y :: p, i + 1, ha, hp => by
      rw [narrowI, List.getElem?_cons_succ, narrowI_get (by simpa using ha) (by simpa using hp)]
      rfl
section
variable {R : Type} {Q : R → Prop} {h : Heap}
theorem turn_Shape {s : tensor.den} {cs : List AV} {vd : AV} {d : List Int} (hs : In h tensor s cs) (hd : In h ints d [vd]) (ks : tenOk s = true) (hok : dimsOk d = true) (e : prodW d = prodW s.1) (b : Nat) (hb : b ≤ h.length) :
    WP (call prog b 162 [.agg cs, vd] h) fun r => Old h.length h r.2 ∧ ∃ v, r.1 = .tup [v, .int .i64 0] ∧ TenAt h.length r.2 (d, s.2) v := by
  obtain ⟨sd, st, rfl, hsd, hst⟩ := holds_tensor hs
  obtain ⟨s1, s2, s3, s4, s5⟩ := ten_parts ks
  have dl := dimsOk_len hok
  have ed : prodW d = (s.2.length : Int) := by
    simp only [tenOk, Bool.and_eq_true, decide_eq_true_eq] at ks
    rw [e, ks.2]
  refine wp_enter (fn := C.turn_Shape) rfl ?_
  dsimp only [bodyN, C.turn_Shape]; simp
  generalize hh : h ++ [AObj.cells 0 1 [sd, st], AObj.cells 0 1 [AV.nil, AV.nil]] = h1
  have o1 : Old h.length h h1 := hh ▸ Old.app
  have l1 : h1.length = h.length + 2 := by rw [← hh]; simp
  have b1 : Box h1 h.length [sd, st] := by rw [← hh]; simp [Box]
  have r1 : Box h1 (h.length + 1) [AV.nil, AV.nil] := by rw [← hh]; simp [Box]
  refine wq_ptrs b1 (by simp) ?_
  try simp
  refine wp_call (shape_Is (In.old o1 hs) b (by omega)) fun v2 h2 ⟨o2, e2⟩ => ?_
  simp only at o2 e2
  rw [ks] at e2
  subst e2
  have l2 := o2.1
  have o02 := o1.trans (o2.mono (by omega))
  have b2 := b1.old o2 b1.lt
  have r2 := r1.old o2 r1.lt
  try simp
  rw [callK_eq (shape_May (In.old o02 hd) _), hok]
  try simp
  rw [callK_eq (shape_Product (In.old o02 hd) _)]
  try simp
  refine wq_ptr b2 rfl ?_
  try simp
  refine wq_len hst ?_
  simp [ed]
  refine wp_call (slices_Clone_int (In.old o02 hd) (by omega) _ (Nat.le_refl _)) fun v3 h3 ⟨o3, a3⟩ => ?_
  simp only at o3 a3
  have l3 := o3.1
  have o03 := o02.trans (o3.mono (by omega))
  have b3 := b2.old o3 b2.lt
  have r3 := r2.old o3 r2.lt
  have lr1 := r1.lt
  have lr2 := r2.lt
  try simp
  refine wq_ptr b3 rfl ?_
  try simp
  refine wp_call (slices_Clone_int (In.old o03 hst) (by omega) _ (Nat.le_refl _)) fun v4 h4 ⟨o4, a4⟩ => ?_
  simp only at o4 a4
  have l4 := o4.1
  have r4 := r3.old o4 r3.lt
  have a34 := a3.keep o4
  try simp
  refine wp_cells a3.one ?_
  try simp
  refine wp_cells a4.one ?_
  try simp
  refine wq_put r4 (by omega) (vs := [v3, v4]) (fun _ => by rw [cellsK_agg]) (by rfl) (by simp) fun h6 l6 k6 b6 => ?_
  simp at b6
  try simp
  refine wq_ptrs b6 (by simp) ?_
  try simp
  refine wp_some ⟨(o03.trans (o4.mono (by omega))).trans (old_put l6 k6 (by omega) (by omega)), _, rfl, v3, v4, h3.length, rfl, (a34.but l6 k6 (by omega) (by omega)).mono (by omega) (by omega), fun j hj => ?_, by omega, by simp only; omega, a4.but l6 k6 (by omega) (by omega)⟩
  obtain ⟨_, ac, _⟩ := a3
  exact (ac.lt hj).2
theorem narrow_done {a p P : List Int} (hl : p.length = a.length) (hP : P.length = p.length) (h : ∀ q, q < p.length → P[q]? = some (if q < a.length ∧ a.getD q 0 = 1 then 0 else p.getD q 0)) : P = narrowI a p := by
  apply List.ext_getElem?
  intro q
  rcases Nat.lt_or_ge q p.length with hq | hq
  · have ha : q < a.length := by omega
    rw [h q hq, narrowI_get ha hq, List.getD_eq_getElem?_getD, List.getD_eq_getElem?_getD, List.getElem?_eq_getElem ha, List.getElem?_eq_getElem hq]
    simp [ha]
  · rw [List.getElem?_eq_none (by omega), List.getElem?_eq_none (by rw [narrowI_len]; omega)]
theorem ref1_narrow {v w : AV} {a p : List Int} (hv : In h ints a [v]) (hw : In h ints p [w]) (hl : p.length = a.length) (ha : a.length ≤ 3) (b : Nat) (hb : b ≤ h.length) : WP (call prog b 260 [v, w] h) fun r => Old h.length h r.2 ∧ AccP h.length h.length r.2 int r.1 (narrowI a p) := by
  refine wp_enter (fn := C.ref1_narrow) rfl ?_
  dsimp only [bodyN, C.ref1_narrow, C.ref1_narrow_l0]; simp
  refine wp_call (ref0_CopyNumbers hw (by omega) b hb) fun v2 h2 ⟨o2, a2⟩ => ?_
  simp only at o2 a2
  have l2 := o2.1
  try simp
  refine wp_loop (I := fun m e h' => Old h.length h h' ∧ ∃ (i : Nat) (P : List Int), e = (ea 0 v <| ea 5 v2 <| ea 6 (.int .i64 (i : Nat)) e0) ∧ i + m = p.length ∧ AccP h.length h.length h' int v2 P ∧ P.length = p.length ∧ ∀ q, q < p.length → P[q]? = some (if q < i ∧ a.getD q 0 = 1 then 0 else p.getD q 0)) ?_ ⟨o2, 0, p, rfl, Nat.zero_add _, a2, rfl, fun q hq => by rw [if_neg (by omega), List.getD_eq_getElem?_getD, List.getElem?_eq_getElem hq]; rfl⟩
  rintro N m e h3 ⟨o3, i, P, rfl, him, acc, hP, hPq⟩ next
  have hv3 := In.old o3 hv
  have l3 := o3.1
  dsimp only [C.ref1_narrow_b0]; simp
  refine wq_len (acc.in (Nat.le_refl _)) ?_
  simp [hP]
  refine wp_dec (fun hi => ?_) fun hi => ?_
  · have w1 := succ64 (i := i) (n := 3) (by omega) (by omega)
    have hia : i < a.length := by omega
    have ga : a.getD i 0 = a[i] := by rw [List.getD_eq_getElem?_getD, List.getElem?_eq_getElem hia]; rfl
    try simp
    refine wq_idx hv3 (by rfl) (by omega) (by omega) ?_
    try simp
    refine wq_int hv3 hia ?_
    try simp
    refine wp_dec (fun hc => ?_) fun hc => ?_
    · try simp
      refine wq_idx (acc.in (Nat.le_refl _)) (by rfl) (by omega) (by omega) ?_
      try simp
      refine wp_putI acc (x := 0) (by omega) hb l3 (by omega) fun h4 _ l4 o4 a4 => ?_
      simp [w1]
      refine next (m - 1) _ _ (by omega) ⟨o3.trans o4, i + 1, _, by simp, by omega, a4, by simp [hP], fun q hq => ?_⟩
      rw [List.getElem?_set]
      by_cases c : i = q
      · subst c
        rw [if_pos rfl, if_pos (by omega), if_pos ⟨by omega, by rw [ga]; exact hc⟩]
      · rw [if_neg c, hPq q hq]
        by_cases c2 : q < i ∧ a.getD q 0 = 1
        · rw [if_pos c2, if_pos ⟨by omega, c2.2⟩]
        · rw [if_neg c2, if_neg (fun h => c2 ⟨by omega, h.2⟩)]
    · simp [w1]
      refine next (m - 1) _ _ (by omega) ⟨o3, i + 1, P, by simp, by omega, acc, hP, fun q hq => ?_⟩
      rw [hPq q hq]
      by_cases c2 : q < i ∧ a.getD q 0 = 1
      · rw [if_pos c2, if_pos ⟨by omega, c2.2⟩]
      · rw [if_neg c2, if_neg (fun h => by
          by_cases c : i = q
          · subst c
            rw [ga] at h
            exact hc h.2
          · exact c2 ⟨by omega, h.2⟩)]
  · have ei : i = p.length := by omega
    try simp
    rw [narrow_done hl hP (fun q hq => by rw [hPq q hq, ei, hl])] at acc
    exact wp_some ⟨o3, acc⟩
theorem turn_low {v w : AV} {a g : List Int} (hv : In h ints a [v]) (hw : In h ints g [w]) (fa : Fit a) (fg : Fit g) (hwd : wider a g = true) {n : Int} (hn : 0 ≤ n ∧ n < prodI g) (b : Nat) (hb : b ≤ h.length) : WP (call prog b 187 [v, w, .int .i64 n] h) fun r => Old h.length h r.2 ∧ r.1 = .int .i64 (lowI a g n) := by
  have gle := fg.le
  have hlw : g.length = a.length := by
    rcases Nat.lt_trichotomy a.length g.length with h | h | h
    · rw [wider_ne (by omega)] at hwd; cases hwd
    · exact h.symm
    · rw [wider_ne (by omega)] at hwd; cases hwd
  have la := fa.2.2
  refine wp_enter (fn := C.turn_low) rfl ?_
  dsimp only [bodyN, C.turn_low, C.turn_low_l0]; simp
  refine wp_call (shape_Numbers hw fg (by omega) b hb) fun v2 h2 ⟨o2, a2⟩ => ?_
  simp only at o2 a2
  have l2 := o2.1
  have hwi := numbersI_within fg.1 hn.1 hn.2
  have hl : (numbersI (strides g) n).length = a.length := by rw [numbersI_len, strides_len, hlw]
  have hwn := narrowI_within fa.1 hwd hwi
  have elow : lowI a g n = placeI (strides a) (narrowI a (numbersI (strides g) n)) := rfl
  rw [elow]
  obtain ⟨p, hp⟩ : ∃ p, p = numbersI (strides g) n := ⟨_, rfl⟩
  rw [← hp] at a2 hl hwn ⊢
  try simp
  refine wq_len hv ?_
  try simp
  refine wp_loop (I := fun m e h' => Old h.length h h' ∧ ∃ (i : Nat) (P : List Int), e = (ea 0 v <| ea 7 v2 <| ea 13 v <| ea 14 (.int .i64 a.length) <| ea 15 (.int .i64 (i : Nat)) e0) ∧ i + m = a.length ∧ AccP h.length h.length h' int v2 P ∧ P.length = p.length ∧ ∀ q, q < p.length → P[q]? = some (if q < i ∧ a.getD q 0 = 1 then 0 else p.getD q 0)) ?_ ⟨o2, 0, p, rfl, Nat.zero_add _, a2, rfl, fun q hq => by rw [if_neg (by omega), List.getD_eq_getElem?_getD, List.getElem?_eq_getElem hq]; rfl⟩
  rintro N m e h3 ⟨o3, i, P, rfl, him, acc, hP, hPq⟩ next
  have hv3 := In.old o3 hv
  have l3 := o3.1
  dsimp only [C.turn_low_b0]; simp
  refine wp_dec (fun hi => ?_) fun hi => ?_
  · have w1 := succ64 (i := i) (n := 3) (by omega) (by omega)
    have hia : i < a.length := by omega
    have ga : a.getD i 0 = a[i] := by rw [List.getD_eq_getElem?_getD, List.getElem?_eq_getElem hia]; rfl
    try simp
    refine wq_idx hv3 (by rfl) (by omega) (by omega) ?_
    try simp
    refine wq_int hv3 hia ?_
    try simp
    refine wp_dec (fun hc => ?_) fun hc => ?_
    · try simp
      refine wq_idx (acc.in (Nat.le_refl _)) (by rfl) (by omega) (by omega) ?_
      try simp
      refine wp_putI acc (x := 0) (by omega) hb l3 (by omega) fun h4 _ l4 o4 a4 => ?_
      simp [w1]
      refine next (m - 1) _ _ (by omega) ⟨o3.trans o4, i + 1, _, by simp, by omega, a4, by simp [hP], fun q hq => ?_⟩
      rw [List.getElem?_set]
      by_cases c : i = q
      · subst c
        rw [if_pos rfl, if_pos (by omega), if_pos ⟨by omega, by rw [ga]; exact hc⟩]
      · rw [if_neg c, hPq q hq]
        by_cases c2 : q < i ∧ a.getD q 0 = 1
        · rw [if_pos c2, if_pos ⟨by omega, c2.2⟩]
        · rw [if_neg c2, if_neg (fun h => c2 ⟨by omega, h.2⟩)]
    · simp [w1]
      refine next (m - 1) _ _ (by omega) ⟨o3, i + 1, P, by simp, by omega, acc, hP, fun q hq => ?_⟩
      rw [hPq q hq]
      by_cases c2 : q < i ∧ a.getD q 0 = 1
      · rw [if_pos c2, if_pos ⟨by omega, c2.2⟩]
      · rw [if_neg c2, if_neg (fun h => by
          by_cases c : i = q
          · subst c
            rw [ga] at h
            exact hc h.2
          · exact c2 ⟨by omega, h.2⟩)]
  · have ei : i = a.length := by omega
    rw [narrow_done hl hP (fun q hq => by rw [hPq q hq, ei])] at acc
    try simp
    refine wp_call (shape_Place hv3 (acc.in (Nat.le_refl _)) fa hwn b (by omega)) fun v4 h4 ⟨o4, e4⟩ => ?_
    simp only at o4 e4
    subst e4
    try simp
    exact wp_some ⟨o3.trans (o4.mono l3), rfl⟩
end
end Go.AM

/- Laid out over greater dims: the program's. -/
namespace Go.AM
set_option maxRecDepth 20000
set_option maxHeartbeats 1000000
attribute [local simp] layAt
attribute [local irreducible] lenK sliceK idxK fldK cutK storeK appK copyK clearK mapAtK callK loopH readK readK1 guardK grdK fnK nilK fieldK extrK strK nextK joinK iteK intK boolK cellsK castK castL castEnv binK unK intBin layParts execN runOpsN runItemsN denN call loop blockK
def wideL (s : tensor.den) (d : List Int) : List Int := (List.range (prodI d).toNat).map fun (i : Nat) => s.2.getD (lowI s.1 d (i : Int)).toNat 0
section
variable {R : Type} {Q : R → Prop} {h : Heap}
theorem turn_Wide {s : tensor.den} {cs : List AV} {vd : AV} {d : List Int} (hs : In h tensor s cs) (hd : In h ints d [vd]) (ks : tenOk s = true) (hok : dimsOk d = true) (hw : wider s.1 d = true) (b : Nat) (hb : b ≤ h.length) :
    WP (call prog b 163 [.agg cs, vd] h) fun r => Old h.length h r.2 ∧ ∃ v, r.1 = .tup [v, .int .i64 0] ∧ TenAt h.length r.2 (d, wideL s d) v := by
  obtain ⟨sd, st, rfl, hsd, hst⟩ := holds_tensor hs
  obtain ⟨s1, s2, s3, s4, s5⟩ := ten_parts ks
  obtain ⟨d1, d2, d3⟩ := dimsOk_prod hok
  have fs := dimsOk_fit s1
  have fd := dimsOk_fit hok
  refine wp_enter (fn := C.turn_Wide) rfl ?_
  dsimp only [bodyN, C.turn_Wide, C.turn_Wide_l0]; simp
  generalize hh : h ++ [AObj.cells 0 1 [sd, st], AObj.cells 0 1 [AV.nil, AV.nil]] = h1
  have o1 : Old h.length h h1 := hh ▸ Old.app
  have l1 : h1.length = h.length + 2 := by rw [← hh]; simp
  have b1 : Box h1 h.length [sd, st] := by rw [← hh]; simp [Box]
  have r1 : Box h1 (h.length + 1) [AV.nil, AV.nil] := by rw [← hh]; simp [Box]
  refine wq_ptrs b1 (by simp) ?_
  try simp
  refine wp_call (shape_Is (In.old o1 hs) b (by omega)) fun v2 h2 ⟨o2, e2⟩ => ?_
  simp only at o2 e2
  rw [ks] at e2
  subst e2
  have l2 := o2.1
  have o02 := o1.trans (o2.mono (by omega))
  have b2 := b1.old o2 b1.lt
  have r2 := r1.old o2 r1.lt
  try simp
  rw [callK_eq (shape_May (In.old o02 hd) _), hok]
  try simp
  refine wq_ptr b2 rfl ?_
  try simp
  rw [callK_eq (shape_Grows (In.old o02 hsd) (In.old o02 hd) _), hw]
  try simp
  refine wp_call (shape_New (In.old o02 hd) hok b (by omega)) fun v4 h4 ⟨o4, T4⟩ => ?_
  simp only at o4 T4
  have l4 := o4.1
  try simp
  refine wp_initT T4 (by omega) fun vD vT k h5 e5 o5 lt5 B5 => ?_
  subst e5
  have l5 := o5.1
  have kl := B5.kl
  have kle := B5.le
  have o25 := o4.trans (o5.mono l4)
  have b5 := b2.old o25 b2.lt
  have r5 := r2.old o25 r2.lt
  have o05 := o02.trans (o25.mono (by omega))
  have lr1 := r1.lt
  have lb2 := b2.lt
  have lr2 := r2.lt
  try simp
  refine wq_ptr B5.box rfl ?_
  try simp
  refine wq_len B5.in ?_
  try simp
  refine wp_loop (I := fun m e h' => Old k h5 h' ∧ h5.length ≤ h'.length ∧ ∃ (i : Nat) (D : List Int), e = (ea 1 vd <| ea 2 (.ptr h.length 0 0) <| ea 4 (.ptr (h.length + 1) 0 0) <| ea 6 (.ptr h4.length 0 0) <| ea 29 (.int .i64 ((prodI d).toNat : Nat)) <| ea 30 (.int .i64 (i : Nat)) e0) ∧ i + m = (prodI d).toNat ∧ TB h2.length k h4.length d D vD vT h' ∧ D.length = (prodI d).toNat ∧ ∀ q, q < (prodI d).toNat → D[q]? = some (if q < i then s.2.getD (lowI s.1 d (q : Int)).toNat 0 else 0)) ?_ ⟨Old.refl (by omega), Nat.le_refl _, 0, _, by simp, Nat.zero_add _, B5, by simp, fun q hq => by rw [if_neg (by omega), List.getElem?_replicate, if_pos hq]⟩
  rintro N m e' h6 ⟨o6, l6, i, D, rfl, him, B6, hD, hDq⟩ next
  have b6 := b5.old o6 (by omega)
  have r6 := r5.old o6 (by omega)
  have o06 := o05.trans (o6.mono (by omega))
  have hst6 := In.old o06 hst
  have hsd6 := In.old o06 hsd
  have hd6 := In.old o06 hd
  dsimp only [C.turn_Wide_b0]; simp
  refine wp_dec (fun hi => ?_) fun hi => ?_
  · have hi : i < (prodI d).toNat := by omega
    have w1 := succ64 (i := i) (n := 64) (by omega) (by omega)
    have lr := lowI_range fs.1 fd.1 hw (n := (i : Int)) (by omega) (by omega)
    have hls : (lowI s.1 d (i : Int)).toNat < s.2.length := by omega
    try simp
    refine wq_ptr B6.box rfl ?_
    try simp
    refine wq_ptr b6 rfl ?_
    try simp
    refine wq_ptr b6 rfl ?_
    try simp
    refine wp_call (turn_low hsd6 hd6 fs fd hw (n := (i : Int)) ⟨by omega, by omega⟩ _ (Nat.le_refl _)) fun v7 h7 ⟨o7, e7⟩ => ?_
    simp only at o7 e7
    subst e7
    have B7 := B6.old o7
    have hst7 := In.old o7 hst6
    have l7 := o7.1
    try simp
    refine wq_idx hst7 (by rfl) (by omega) (by omega) ?_
    try simp
    refine wq_int hst7 hls ?_
    have rr := holds_range hst7 hls
    try simp
    refine wq_idx B7.in (by rfl) (by omega) (by omega) ?_
    try simp
    refine wp_putT B7 rr (by omega) (by omega) (by omega) fun h8 o8 l8 _ B8 => ?_
    simp [w1]
    refine next (m - 1) _ _ (by omega) ⟨o6.trans ((o7.mono (by omega)).trans o8), by omega, i + 1, _, by simp, by omega, B8, by simp [hD], fun q hq => ?_⟩
    rw [List.getElem?_set]
    by_cases c : i = q
    · subst c
      rw [if_pos rfl, if_pos (by omega), if_pos (by omega), List.getD_eq_getElem?_getD, List.getElem?_eq_getElem hls]
      rfl
    · rw [if_neg c, hDq q hq]
      by_cases c2 : q < i
      · rw [if_pos c2, if_pos (by omega)]
      · rw [if_neg c2, if_neg (by omega)]
  · have ei : i = (prodI d).toNat := by omega
    try simp
    refine wq_ptrs B6.box (by simp) ?_
    try simp
    refine wq_put r6 (by omega) (vs := [vD, vT]) (fun _ => by rw [cellsK_agg]) (by rfl) (by simp) fun h7 l7 k7 b7 => ?_
    simp at b7
    try simp
    refine wq_ptrs b7 (by simp) ?_
    try simp
    have eD : D = wideL s d := by
      apply List.ext_getElem?
      intro q
      rcases Nat.lt_or_ge q (prodI d).toNat with hq | hq
      · rw [hDq q hq, if_pos (by omega), wideL, List.getElem?_map, List.getElem?_range hq]
        rfl
      · rw [List.getElem?_eq_none (by omega), List.getElem?_eq_none (by simp [wideL]; omega)]
    rw [eD] at B6
    exact wp_some ⟨o06.trans (old_put l7 k7 (by omega) (by omega)), _, rfl, (B6.told l7 k7 (by omega)).mono (by omega)⟩
end
end Go.AM

/- Summed up to lesser dims: the program's. -/
namespace Go.AM
set_option maxRecDepth 20000
set_option maxHeartbeats 1000000
attribute [local simp] layAt
attribute [local irreducible] lenK sliceK idxK fldK cutK storeK appK copyK clearK mapAtK callK loopH readK readK1 guardK grdK fnK nilK fieldK extrK strK nextK joinK iteK intK boolK cellsK castK castL castEnv binK unK intBin layParts execN runOpsN runItemsN denN call loop blockK
/-- Summed up, as far as a place. -/
def sumUp (s : tensor.den) (d : List Int) : Nat → List Int
  | 0 => List.replicate (prodI d).toNat 0
  | i + 1 => (sumUp s d i).set (lowI d s.1 (i : Int)).toNat (w64 ((sumUp s d i).getD (lowI d s.1 (i : Int)).toNat 0 + s.2.getD i 0))
theorem sumUp_len (s : tensor.den) (d : List Int) : ∀ i, (sumUp s d i).length = (prodI d).toNat
  | 0 => by simp [sumUp]
  | i + 1 => by simp [sumUp, sumUp_len s d i]
section
variable {R : Type} {Q : R → Prop} {h : Heap}
theorem turn_Sum {s : tensor.den} {cs : List AV} {vd : AV} {d : List Int} (hs : In h tensor s cs) (hd : In h ints d [vd]) (ks : tenOk s = true) (hok : dimsOk d = true) (hw : wider d s.1 = true) (b : Nat) (hb : b ≤ h.length) :
    WP (call prog b 164 [.agg cs, vd] h) fun r => Old h.length h r.2 ∧ ∃ v, r.1 = .tup [v, .int .i64 0] ∧ TenAt h.length r.2 (d, sumUp s d s.2.length) v := by
  obtain ⟨sd, st, rfl, hsd, hst⟩ := holds_tensor hs
  obtain ⟨s1, s2, s3, s4, s5⟩ := ten_parts ks
  obtain ⟨d1, d2, d3⟩ := dimsOk_prod hok
  have fs := dimsOk_fit s1
  have fd := dimsOk_fit hok
  refine wp_enter (fn := C.turn_Sum) rfl ?_
  dsimp only [bodyN, C.turn_Sum, C.turn_Sum_l0]; simp
  generalize hh : h ++ [AObj.cells 0 1 [sd, st], AObj.cells 0 1 [AV.nil, AV.nil]] = h1
  have o1 : Old h.length h h1 := hh ▸ Old.app
  have l1 : h1.length = h.length + 2 := by rw [← hh]; simp
  have b1 : Box h1 h.length [sd, st] := by rw [← hh]; simp [Box]
  have r1 : Box h1 (h.length + 1) [AV.nil, AV.nil] := by rw [← hh]; simp [Box]
  refine wq_ptrs b1 (by simp) ?_
  try simp
  refine wp_call (shape_Is (In.old o1 hs) b (by omega)) fun v2 h2 ⟨o2, e2⟩ => ?_
  simp only at o2 e2
  rw [ks] at e2
  subst e2
  have l2 := o2.1
  have o02 := o1.trans (o2.mono (by omega))
  have b2 := b1.old o2 b1.lt
  have r2 := r1.old o2 r1.lt
  try simp
  rw [callK_eq (shape_May (In.old o02 hd) _), hok]
  try simp
  refine wq_ptr b2 rfl ?_
  try simp
  rw [callK_eq (shape_Grows (In.old o02 hd) (In.old o02 hsd) _), hw]
  try simp
  refine wp_call (shape_New (In.old o02 hd) hok b (by omega)) fun v4 h4 ⟨o4, T4⟩ => ?_
  simp only at o4 T4
  have l4 := o4.1
  try simp
  refine wp_initT T4 (by omega) fun vD vT k h5 e5 o5 lt5 B5 => ?_
  subst e5
  have l5 := o5.1
  have kl := B5.kl
  have kle := B5.le
  have o25 := o4.trans (o5.mono l4)
  have b5 := b2.old o25 b2.lt
  have r5 := r2.old o25 r2.lt
  have o05 := o02.trans (o25.mono (by omega))
  have lr1 := r1.lt
  have lb2 := b2.lt
  have lr2 := r2.lt
  try simp
  refine wq_ptr b5 rfl ?_
  try simp
  refine wq_len (In.old o05 hst) ?_
  try simp
  refine wp_loop (I := fun m e h' => Old k h5 h' ∧ h5.length ≤ h'.length ∧ ∃ (i : Nat), e = (ea 1 vd <| ea 2 (.ptr h.length 0 0) <| ea 4 (.ptr (h.length + 1) 0 0) <| ea 6 (.ptr h4.length 0 0) <| ea 29 st <| ea 30 (.int .i64 s.2.length) <| ea 31 (.int .i64 (i : Nat)) e0) ∧ i + m = s.2.length ∧ TB h2.length k h4.length d (sumUp s d i) vD vT h') ?_ ⟨Old.refl (by omega), Nat.le_refl _, 0, rfl, Nat.zero_add _, B5⟩
  rintro N m e' h6 ⟨o6, l6, i, rfl, him, B6⟩ next
  have b6 := b5.old o6 (by omega)
  have r6 := r5.old o6 (by omega)
  have o06 := o05.trans (o6.mono (by omega))
  have hst6 := In.old o06 hst
  have hsd6 := In.old o06 hsd
  have hd6 := In.old o06 hd
  dsimp only [C.turn_Sum_b0]; simp
  refine wp_dec (fun hi => ?_) fun hi => ?_
  · have w1 := succ64 (i := i) (n := 64) (by omega) (by omega)
    have lr := lowI_range fd.1 fs.1 hw (n := (i : Int)) (by omega) (by omega)
    have hlD : (lowI d s.1 (i : Int)).toNat < (sumUp s d i).length := by rw [sumUp_len]; omega
    try simp
    refine wq_idx hst6 (by rfl) (by omega) (by omega) ?_
    try simp
    refine wq_int hst6 hi ?_
    try simp
    refine wq_ptr B6.box rfl ?_
    try simp
    refine wq_ptr b6 rfl ?_
    try simp
    refine wp_call (turn_low hd6 hsd6 fd fs hw (n := (i : Int)) ⟨by omega, by omega⟩ _ (Nat.le_refl _)) fun v7 h7 ⟨o7, e7⟩ => ?_
    simp only at o7 e7
    subst e7
    have B7 := B6.old o7
    have l7 := o7.1
    try simp
    refine wq_idx B7.in (by rfl) (by omega) (by omega) ?_
    try simp
    refine wq_int B7.in hlD ?_
    try simp
    refine wq_idx B7.in (by rfl) (by omega) (by omega) ?_
    try simp
    refine wp_putT B7 (wrap_range _) (by omega) (by omega) hlD fun h8 o8 l8 _ B8 => ?_
    simp [w1]
    have e1 : sumUp s d (i + 1) = (sumUp s d i).set (lowI d s.1 (i : Int)).toNat (w64 ((sumUp s d i)[(lowI d s.1 (i : Int)).toNat] + s.2[i])) := by
      rw [sumUp, List.getD_eq_getElem?_getD, List.getD_eq_getElem?_getD, List.getElem?_eq_getElem hlD, List.getElem?_eq_getElem hi]
      rfl
    exact next (m - 1) _ _ (by omega) ⟨o6.trans ((o7.mono (by omega)).trans o8), by omega, i + 1, by simp, by omega, by rw [e1]; exact B8⟩
  · have ei : i = s.2.length := by omega
    try simp
    refine wq_ptrs B6.box (by simp) ?_
    try simp
    refine wq_put r6 (by omega) (vs := [vD, vT]) (fun _ => by rw [cellsK_agg]) (by rfl) (by simp) fun h7 l7 k7 b7 => ?_
    simp at b7
    try simp
    refine wq_ptrs b7 (by simp) ?_
    try simp
    rw [ei] at B6
    exact wp_some ⟨o06.trans (old_put l7 k7 (by omega) (by omega)), _, rfl, (B6.told l7 k7 (by omega)).mono (by omega)⟩
end
end Go.AM

/- Places and numbers: the page's. -/
namespace Go.AM
set_option maxRecDepth 20000
set_option maxHeartbeats 1000000
attribute [local simp] layAt
attribute [local irreducible] lenK sliceK idxK fldK cutK storeK appK copyK clearK mapAtK callK loopH readK readK1 guardK grdK fnK nilK fieldK extrK strK nextK joinK iteK intK boolK cellsK castK castL castEnv binK unK intBin layParts execN runOpsN runItemsN denN call loop blockK
theorem atI_range : ∀ {d p : List Int} {n : Int}, Pos d → Within d p → 0 ≤ n → n ≤ atI d p n := fun {d p n} hp hw hn => by
  rw [atI_eq n hw.len]
  have h1 := (placeI_range hp hw).1
  have h2 := prodI_pos hp
  have : n * 1 ≤ n * prodI d := Int.mul_le_mul_of_nonneg_left h2 hn
  omega
section
variable {R : Type} {Q : R → Prop} {h : Heap}
theorem ref1_At {v w : AV} {d p : List Int} (hd : In h ints d [v]) (hp : In h ints p [w]) (hf : Fit d) (hw : Within d p) (b : Nat) : call prog b 261 [v, w] h = some (.int .i64 (placeI (strides d) p), h) := by
  have hl3 := hf.2.2
  have pl := hw.len
  have pr := placeI_range hf.1 hw
  have fle := hf.le
  have e0' : placeI (strides d) p = atI d p 0 := by rw [atI_eq 0 pl]; omega
  refine wp_iff.1 (wp_enter (fn := C.ref1_At) rfl ?_)
  dsimp only [bodyN, C.ref1_At, C.ref1_At_l0]; simp
  refine wp_loop (I := fun m e h' => h' = h ∧ ∃ (i : Nat) (k : Int), e = (ea 0 v <| ea 1 w <| ea 5 (.int .i64 k) <| ea 6 (.int .i64 (i : Nat)) e0) ∧ i + m = d.length ∧ 0 ≤ k ∧ atI d p 0 = atI (d.drop i) (p.drop i) k) ?_ ⟨rfl, 0, 0, rfl, Nat.zero_add _, Int.le_refl _, rfl⟩
  rintro N m e _ ⟨rfl, i, k, rfl, him, k0, hk⟩ next
  dsimp only [C.ref1_At_b0]; simp
  refine wq_len hd ?_
  try simp
  refine wp_dec (fun hi => ?_) fun hi => ?_
  · have w1 := succ64 (i := i) (n := 3) (by omega) (by omega)
    have hip : i < p.length := by omega
    have wg := hw.get hi hip
    have hdi : 1 ≤ d[i] := hf.1 _ (List.getElem_mem hi)
    rw [List.drop_eq_getElem_cons hi, List.drop_eq_getElem_cons hip, atI] at hk
    have pos : 0 ≤ k * d[i] := Int.mul_nonneg k0 (by omega)
    have up := atI_range (hf.drop (i + 1)).1 (hw.drop (i + 1)) (n := k * d[i] + p[i]) (by omega)
    have w2 : IntKind.i64.wrap (k * d[i]) = k * d[i] := w64_id (by omega) (by omega)
    have w3 : IntKind.i64.wrap (k * d[i] + p[i]) = k * d[i] + p[i] := w64_id (by omega) (by omega)
    try simp
    refine wq_idx hd (by rfl) (by omega) (by omega) ?_
    try simp
    refine wq_int hd hi ?_
    try simp
    refine wq_idx hp (by rfl) (by omega) (by omega) ?_
    try simp
    refine wq_int hp hip ?_
    simp [w1, w2, w3]
    exact next (m - 1) _ _ (by omega) ⟨rfl, i + 1, _, by simp, by omega, by omega, hk⟩
  · try simp
    rw [List.drop_of_length_le (by omega), List.drop_of_length_le (by omega)] at hk
    have e3 : atI [] [] k = k := by simp [atI]
    rw [e3] at hk
    refine wp_some ?_
    rw [e0', hk]
theorem ref1_Where {v : AV} {d : List Int} (hd : In h ints d [v]) (hf : Fit d) {n : Int} (hn : 0 ≤ n ∧ n < prodI d) (b : Nat) (hb : b ≤ h.length) : WP (call prog b 259 [v, .int .i64 n] h) fun r => Old h.length h r.2 ∧ AccP h.length h.length r.2 int r.1 (numbersI (strides d) n) := by
  have hl3 := hf.2.2
  have fle := hf.le
  refine wp_enter (fn := C.ref1_Where) rfl ?_
  dsimp only [bodyN, C.ref1_Where, C.ref1_Where_l0]; simp
  refine wq_len hd ?_
  try simp
  refine wp_guard (by omega) ?_
  have mk := accp_make (h := h) (p := int) (n := d.length) (x := 0) (zs := [.int .i64 0]) (fun _ _ => holds_int (by omega)) (by omega)
  simp [PT.sz] at mk
  have o1 : Old h.length h (h ++ [AObj.cells 0 1 (List.replicate d.length (AV.int IntKind.i64 0))]) := Old.app
  try simp
  generalize h ++ [AObj.cells 0 1 (List.replicate d.length (AV.int IntKind.i64 0))] = h1 at *
  refine wq_len hd ?_
  have w0 : IntKind.i64.wrap ((d.length : Int) - 1) = (d.length : Int) - 1 := w64_id (by omega) (by omega)
  simp [w0]
  refine wp_loop (I := fun m e h' => Old h.length h h' ∧ ∃ (j : Nat) (k : Int) (X : List Int), e = (ea 0 v <| ea 1 (.int .i64 k) <| ea 5 (.ref h.length 0 0 d.length) <| ea 6 (.int .i64 ((j : Int) - 1)) e0) ∧ j = m ∧ j ≤ d.length ∧ 0 ≤ k ∧ k ≤ 1000 ∧ AccP h.length h.length h' int (.ref h.length 0 0 d.length) X ∧ X.length = d.length ∧ k = (whereI (d.drop j) n).2 ∧ X.drop j = (whereI (d.drop j) n).1) ?_ (m := d.length) ⟨o1, d.length, n, _, rfl, rfl, Nat.le_refl _, hn.1, by omega, mk, by simp, by simp [whereI], by simp [whereI]⟩
  rintro N m e h3 ⟨o3, j, k, X, rfl, hjm, hjl, k0, k1, acc, hX, hk, hXd⟩ next
  have hd3 := In.old o3 hd
  have l3 := o3.1
  dsimp only [C.ref1_Where_b0]; simp
  refine wp_dec (fun hj => ?_) fun hj => ?_
  · have hjd : j - 1 < d.length := by omega
    have ej : (j : Int) - 1 = ((j - 1 : Nat) : Int) := by omega
    have w1 : IntKind.i64.wrap ((j : Int) - 1 - 1) = ((j - 1 : Nat) : Int) - 1 := by rw [w64_id (by omega) (by omega)]; omega
    have dp : 1 ≤ d[j - 1] := hf.1 _ (List.getElem_mem hjd)
    have q1 : k.tdiv d[j - 1] = k / d[j - 1] := Int.tdiv_eq_ediv_of_nonneg k0
    have q2 : k.tmod d[j - 1] = k % d[j - 1] := Int.tmod_eq_emod_of_nonneg k0
    have r1 : 0 ≤ k / d[j - 1] := Int.ediv_nonneg k0 (by omega)
    have r2 : k / d[j - 1] ≤ k := Int.ediv_le_self _ k0
    have r3 : 0 ≤ k % d[j - 1] := Int.emod_nonneg _ (by omega)
    have r4 : k % d[j - 1] < d[j - 1] := Int.emod_lt_of_pos _ (by omega)
    have d8 := hf.2.1 _ (List.getElem_mem hjd)
    have nz : ¬ d[j - 1] = 0 := by omega
    have w2 : IntKind.i64.wrap (k / d[j - 1]) = k / d[j - 1] := w64_id (by omega) (by omega)
    try simp
    refine wq_idx hd3 (by rfl) (by omega) (by omega) ?_
    try simp
    refine wq_int hd3 hjd ?_
    try simp
    refine wp_guard nz ?_
    try simp
    refine wq_idx (acc.in (Nat.le_refl _)) (by rfl) (by omega) (by omega) ?_
    simp [q2]
    refine wp_putI acc (by omega) hb l3 (by omega) fun h4 _ l4 o4 a4 => ?_
    have hd4 := In.old (o3.trans o4) hd
    try simp
    refine wq_idx hd4 (by rfl) (by omega) (by omega) ?_
    try simp
    refine wq_int hd4 hjd ?_
    try simp
    refine wp_guard nz ?_
    simp [q1, w1, w2]
    have ed : d.drop (j - 1) = d[j - 1] :: d.drop j := by
      rw [List.drop_eq_getElem_cons hjd]
      congr 2
      omega
    refine next (m - 1) _ _ (by omega) ⟨o3.trans o4, j - 1, _, _, rfl, by omega, by omega, r1, by omega, a4, by simp [hX], by rw [ed, whereI, ← hk], ?_⟩
    have ex : (X.set (j - 1) (k % d[j - 1])).drop j = X.drop j := by
      apply List.ext_getElem?
      intro q
      rw [List.getElem?_drop, List.getElem?_drop, List.getElem?_set, if_neg (by omega)]
    rw [ed, whereI, ← hk, ← hXd, List.drop_eq_getElem_cons (by simp; omega), show j - 1 + 1 = j by omega, ex]
    simp
  · have ej : j = 0 := by omega
    subst ej
    try simp
    have hp := prodI_pos hf.1
    rw [List.drop_zero, List.drop_zero, whereI_eq hf.1, Int.emod_eq_of_lt hn.1 hn.2] at hXd
    simp only at hXd
    rw [hXd] at acc
    exact wp_some ⟨o3, acc⟩
end
end Go.AM

/- Laid out over greater dims: the page's. -/
namespace Go.AM
set_option maxRecDepth 20000
set_option maxHeartbeats 1000000
attribute [local simp] layAt
attribute [local irreducible] lenK sliceK idxK fldK cutK storeK appK copyK clearK mapAtK callK loopH readK readK1 guardK grdK fnK nilK fieldK extrK strK nextK joinK iteK intK boolK cellsK castK castL castEnv binK unK intBin layParts execN runOpsN runItemsN denN call loop blockK
section
variable {R : Type} {Q : R → Prop} {h : Heap}
theorem ref1_Wide {s : tensor.den} {cs : List AV} {vd : AV} {d : List Int} (hs : In h tensor s cs) (hd : In h ints d [vd]) (ks : tenOk s = true) (hok : dimsOk d = true) (hw : wider s.1 d = true) (b : Nat) (hb : b ≤ h.length) :
    WP (call prog b 257 [.agg cs, vd] h) fun r => Old h.length h r.2 ∧ TenAt h.length r.2 (d, wideL s d) r.1 := by
  obtain ⟨sd, st, rfl, hsd, hst⟩ := holds_tensor hs
  obtain ⟨s1, s2, s3, s4, s5⟩ := ten_parts ks
  obtain ⟨d1, d2, d3⟩ := dimsOk_prod hok
  have fs := dimsOk_fit s1
  have fd := dimsOk_fit hok
  refine wp_enter (fn := C.ref1_Wide) rfl ?_
  dsimp only [bodyN, C.ref1_Wide, C.ref1_Wide_l0]; simp
  generalize hh : h ++ [AObj.cells 0 1 [sd, st], AObj.cells 0 1 [AV.nil, AV.nil]] = h1
  have o1 : Old h.length h h1 := hh ▸ Old.app
  have l1 : h1.length = h.length + 2 := by rw [← hh]; simp
  have b1 : Box h1 h.length [sd, st] := by rw [← hh]; simp [Box]
  have r1 : Box h1 (h.length + 1) [AV.nil, AV.nil] := by rw [← hh]; simp [Box]
  refine wp_call (ref1_Fill (In.old o1 hd) hok (n := 0) (by omega) b (by omega)) fun v4 h4 ⟨o4, T4⟩ => ?_
  simp only at o4 T4
  have l4 := o4.1
  try simp
  refine wp_initT T4 (by omega) fun vD vT k h5 e5 o5 lt5 B5 => ?_
  subst e5
  have l5 := o5.1
  have kl := B5.kl
  have kle := B5.le
  have o15 := o4.trans (o5.mono l4)
  have b5 := b1.old o15 b1.lt
  have r5 := r1.old o15 r1.lt
  have o05 := o1.trans (o15.mono (by omega))
  have lb2 := b1.lt
  have lr2 := r1.lt
  try simp
  refine wp_loop (I := fun m e h' => Old k h5 h' ∧ h5.length ≤ h'.length ∧ ∃ (i : Nat) (D : List Int), e = (ea 1 vd <| ea 2 (.ptr h.length 0 0) <| ea 4 (.ptr (h.length + 1) 0 0) <| ea 5 (.ptr h4.length 0 0) <| ea 6 (.int .i64 (i : Nat)) e0) ∧ i + m = (prodI d).toNat ∧ TB h1.length k h4.length d D vD vT h' ∧ D.length = (prodI d).toNat ∧ ∀ q, q < (prodI d).toNat → D[q]? = some (if q < i then s.2.getD (lowI s.1 d (q : Int)).toNat 0 else 0)) ?_ ⟨Old.refl (by omega), Nat.le_refl _, 0, _, rfl, Nat.zero_add _, B5, by simp, fun q hq => by rw [if_neg (by omega), List.getElem?_replicate, if_pos hq]⟩
  rintro N m e' h6 ⟨o6, l6, i, D, rfl, him, B6, hD, hDq⟩ next
  have b6 := b5.old o6 (by omega)
  have r6 := r5.old o6 (by omega)
  have o06 := o05.trans (o6.mono (by omega))
  have hst6 := In.old o06 hst
  have hsd6 := In.old o06 hsd
  have hd6 := In.old o06 hd
  dsimp only [C.ref1_Wide_b0]; simp
  refine wq_ptr B6.box rfl ?_
  try simp
  refine wq_len B6.in ?_
  simp [hD]
  refine wp_dec (fun hi => ?_) fun hi => ?_
  · have hi : i < (prodI d).toNat := by omega
    have w1 := succ64 (i := i) (n := 64) (by omega) (by omega)
    have lr := lowI_range fs.1 fd.1 hw (n := (i : Int)) (by omega) (by omega)
    have hls : (lowI s.1 d (i : Int)).toNat < s.2.length := by omega
    try simp
    refine wq_ptr B6.box rfl ?_
    try simp
    refine wq_ptr b6 rfl ?_
    try simp
    refine wq_ptr b6 rfl ?_
    try simp
    refine wq_ptr b6 rfl ?_
    try simp
    have hlw : d.length = s.1.length := by
      by_cases hq : s.1.length = d.length
      · exact hq.symm
      · rw [wider_ne hq] at hw; cases hw
    have hwi := numbersI_within fd.1 (n := (i : Int)) (by omega) (by omega)
    have hwn := narrowI_within fs.1 hw hwi
    refine wp_call (ref1_Where hd6 fd (n := (i : Int)) ⟨by omega, by omega⟩ _ (Nat.le_refl _)) fun va ha ⟨oa, aa⟩ => ?_
    simp only at oa aa
    try simp
    refine wp_call (ref1_narrow (In.old oa hsd6) (aa.in (Nat.le_refl _)) (by rw [numbersI_len, strides_len, hlw]) fs.2.2 _ (Nat.le_refl _)) fun vb h7 ⟨ob, ab⟩ => ?_
    simp only at ob ab
    have o7 : Old h6.length h6 h7 := oa.trans (ob.mono oa.1)
    try simp
    rw [callK_eq (ref1_At (In.old o7 hsd6) (ab.in (Nat.le_refl _)) fs hwn _)]
    have B7 := B6.old o7
    have hst7 := In.old o7 hst6
    have l7 := o7.1
    try simp
    refine wq_idx (i := lowI s.1 d (i : Int)) hst7 (by rfl) (by omega) (by omega) ?_
    try simp
    refine wq_int hst7 hls ?_
    have rr := holds_range hst7 hls
    try simp
    refine wq_idx B7.in (by rfl) (by omega) (by omega) ?_
    try simp
    refine wp_putT B7 rr (by omega) (by omega) (by omega) fun h8 o8 l8 _ B8 => ?_
    simp [w1]
    refine next (m - 1) _ _ (by omega) ⟨o6.trans ((o7.mono (by omega)).trans o8), by omega, i + 1, _, by simp, by omega, B8, by simp [hD], fun q hq => ?_⟩
    rw [List.getElem?_set]
    by_cases c : i = q
    · subst c
      rw [if_pos rfl, if_pos (by omega), if_pos (by omega), List.getD_eq_getElem?_getD, List.getElem?_eq_getElem hls]
      rfl
    · rw [if_neg c, hDq q hq]
      by_cases c2 : q < i
      · rw [if_pos c2, if_pos (by omega)]
      · rw [if_neg c2, if_neg (by omega)]
  · have ei : i = (prodI d).toNat := by omega
    try simp
    refine wq_ptrs B6.box (by simp) ?_
    try simp
    refine wq_put r6 (by omega) (vs := [vD, vT]) (fun _ => by rw [cellsK_agg]) (by rfl) (by simp) fun h7 l7 k7 b7 => ?_
    simp at b7
    try simp
    refine wq_ptrs b7 (by simp) ?_
    try simp
    have eD : D = wideL s d := by
      apply List.ext_getElem?
      intro q
      rcases Nat.lt_or_ge q (prodI d).toNat with hq | hq
      · rw [hDq q hq, if_pos (by omega), wideL, List.getElem?_map, List.getElem?_range hq]
        rfl
      · rw [List.getElem?_eq_none (by omega), List.getElem?_eq_none (by simp [wideL]; omega)]
    rw [eD] at B6
    exact wp_some ⟨o06.trans (old_put l7 k7 (by omega) (by omega)), (B6.told l7 k7 (by omega)).mono (by omega)⟩
end
end Go.AM

/- Summed up to lesser dims: the page's. -/
namespace Go.AM
set_option maxRecDepth 20000
set_option maxHeartbeats 1000000
attribute [local simp] layAt
attribute [local irreducible] lenK sliceK idxK fldK cutK storeK appK copyK clearK mapAtK callK loopH readK readK1 guardK grdK fnK nilK fieldK extrK strK nextK joinK iteK intK boolK cellsK castK castL castEnv binK unK intBin layParts execN runOpsN runItemsN denN call loop blockK
section
variable {R : Type} {Q : R → Prop} {h : Heap}
theorem ref1_Sum {s : tensor.den} {cs : List AV} {vd : AV} {d : List Int} (hs : In h tensor s cs) (hd : In h ints d [vd]) (ks : tenOk s = true) (hok : dimsOk d = true) (hw : wider d s.1 = true) (b : Nat) (hb : b ≤ h.length) :
    WP (call prog b 258 [.agg cs, vd] h) fun r => Old h.length h r.2 ∧ TenAt h.length r.2 (d, sumUp s d s.2.length) r.1 := by
  obtain ⟨sd, st, rfl, hsd, hst⟩ := holds_tensor hs
  obtain ⟨s1, s2, s3, s4, s5⟩ := ten_parts ks
  obtain ⟨d1, d2, d3⟩ := dimsOk_prod hok
  have fs := dimsOk_fit s1
  have fd := dimsOk_fit hok
  refine wp_enter (fn := C.ref1_Sum) rfl ?_
  dsimp only [bodyN, C.ref1_Sum, C.ref1_Sum_l0]; simp
  generalize hh : h ++ [AObj.cells 0 1 [sd, st], AObj.cells 0 1 [AV.nil, AV.nil]] = h1
  have o1 : Old h.length h h1 := hh ▸ Old.app
  have l1 : h1.length = h.length + 2 := by rw [← hh]; simp
  have b1 : Box h1 h.length [sd, st] := by rw [← hh]; simp [Box]
  have r1 : Box h1 (h.length + 1) [AV.nil, AV.nil] := by rw [← hh]; simp [Box]
  refine wp_call (ref1_Fill (In.old o1 hd) hok (n := 0) (by omega) b (by omega)) fun v4 h4 ⟨o4, T4⟩ => ?_
  simp only at o4 T4
  have l4 := o4.1
  try simp
  refine wp_initT T4 (by omega) fun vD vT k h5 e5 o5 lt5 B5 => ?_
  subst e5
  have l5 := o5.1
  have kl := B5.kl
  have kle := B5.le
  have o15 := o4.trans (o5.mono l4)
  have b5 := b1.old o15 b1.lt
  have r5 := r1.old o15 r1.lt
  have o05 := o1.trans (o15.mono (by omega))
  have lb2 := b1.lt
  have lr2 := r1.lt
  try simp
  refine wp_loop (I := fun m e h' => Old k h5 h' ∧ h5.length ≤ h'.length ∧ ∃ (i : Nat), e = (ea 1 vd <| ea 2 (.ptr h.length 0 0) <| ea 4 (.ptr (h.length + 1) 0 0) <| ea 5 (.ptr h4.length 0 0) <| ea 6 (.int .i64 (i : Nat)) e0) ∧ i + m = s.2.length ∧ TB h1.length k h4.length d (sumUp s d i) vD vT h') ?_ ⟨Old.refl (by omega), Nat.le_refl _, 0, rfl, Nat.zero_add _, B5⟩
  rintro N m e' h6 ⟨o6, l6, i, rfl, him, B6⟩ next
  have b6 := b5.old o6 (by omega)
  have r6 := r5.old o6 (by omega)
  have o06 := o05.trans (o6.mono (by omega))
  have hst6 := In.old o06 hst
  have hsd6 := In.old o06 hsd
  have hd6 := In.old o06 hd
  dsimp only [C.ref1_Sum_b0]; simp
  refine wq_ptr b6 rfl ?_
  try simp
  refine wq_len hst6 ?_
  try simp
  refine wp_dec (fun hi => ?_) fun hi => ?_
  · have w1 := succ64 (i := i) (n := 64) (by omega) (by omega)
    have lr := lowI_range fd.1 fs.1 hw (n := (i : Int)) (by omega) (by omega)
    have hlD : (lowI d s.1 (i : Int)).toNat < (sumUp s d i).length := by rw [sumUp_len]; omega
    have hlw : s.1.length = d.length := by
      by_cases hq : d.length = s.1.length
      · exact hq.symm
      · rw [wider_ne hq] at hw; cases hw
    have hwi := numbersI_within fs.1 (n := (i : Int)) (by omega) (by omega)
    have hwn := narrowI_within fd.1 hw hwi
    try simp
    refine wq_ptr b6 rfl ?_
    try simp
    refine wp_call (ref1_Where hsd6 fs (n := (i : Int)) ⟨by omega, by omega⟩ b (by omega)) fun va ha ⟨oa, aa⟩ => ?_
    simp only at oa aa
    have la := oa.1
    try simp
    refine wp_call (ref1_narrow (In.old oa hd6) (aa.in (Nat.le_refl _)) (by rw [numbersI_len, strides_len, hlw]) fd.2.2 b (by omega)) fun vb h7 ⟨ob, ab⟩ => ?_
    simp only at ob ab
    have o7 : Old h6.length h6 h7 := oa.trans (ob.mono oa.1)
    have B7 := B6.old o7
    have b7 := b6.old o7 (by omega)
    have hst7 := In.old o7 hst6
    have l7 := o7.1
    try simp
    rw [callK_eq (ref1_At (In.old o7 hd6) (ab.in (Nat.le_refl _)) fd hwn _)]
    try simp
    refine wq_ptr B7.box rfl ?_
    try simp
    refine wq_ptr B7.box rfl ?_
    try simp
    refine wq_idx (i := lowI d s.1 (i : Int)) B7.in (by rfl) (by omega) (by omega) ?_
    try simp
    refine wq_int B7.in hlD ?_
    try simp
    refine wq_ptr b7 rfl ?_
    try simp
    refine wq_idx hst7 (by rfl) (by omega) (by omega) ?_
    try simp
    refine wq_int hst7 hi ?_
    try simp
    refine wq_idx (i := lowI d s.1 (i : Int)) B7.in (by rfl) (by omega) (by omega) ?_
    try simp
    refine wp_putT B7 (wrap_range _) (by omega) (by omega) hlD fun h8 o8 l8 _ B8 => ?_
    simp [w1]
    have e1 : sumUp s d (i + 1) = (sumUp s d i).set (lowI d s.1 (i : Int)).toNat (w64 ((sumUp s d i)[(lowI d s.1 (i : Int)).toNat] + s.2[i])) := by
      rw [sumUp, List.getD_eq_getElem?_getD, List.getD_eq_getElem?_getD, List.getElem?_eq_getElem hlD, List.getElem?_eq_getElem hi]
      rfl
    exact next (m - 1) _ _ (by omega) ⟨o6.trans ((o7.mono (by omega)).trans o8), by omega, i + 1, by simp, by omega, by rw [e1]; exact B8⟩
  · have ei : i = s.2.length := by omega
    try simp
    refine wq_ptrs B6.box (by simp) ?_
    try simp
    refine wq_put r6 (by omega) (vs := [vD, vT]) (fun _ => by rw [cellsK_agg]) (by rfl) (by simp) fun h7 l7 k7 b7 => ?_
    simp at b7
    try simp
    refine wq_ptrs b7 (by simp) ?_
    try simp
    rw [ei] at B6
    exact wp_some ⟨o06.trans (old_put l7 k7 (by omega) (by omega)), (B6.told l7 k7 (by omega)).mono (by omega)⟩
end
end Go.AM

/- Matrices, the greatest of so many: plainly. -/
namespace Go.AM
set_option maxRecDepth 20000
set_option maxHeartbeats 1000000
attribute [local simp] layAt
attribute [local irreducible] lenK sliceK idxK fldK cutK storeK appK copyK clearK mapAtK callK loopH readK readK1 guardK grdK fnK nilK fieldK extrK strK nextK joinK iteK intK boolK cellsK castK castL castEnv binK unK intBin layParts execN runOpsN runItemsN denN call loop blockK
/-- Filled as far as a place. -/
def upTo (N : Nat) (f : Nat → Int) (q : Nat) : List Int := (List.range q).map f ++ List.replicate (N - q) 0
theorem upTo_len {N q : Nat} {f : Nat → Int} (h : q ≤ N) : (upTo N f q).length = N := by
  simp [upTo]
  omega
theorem upTo_zero {N : Nat} {f : Nat → Int} : upTo N f 0 = List.replicate N 0 := by simp [upTo]
theorem upTo_full {N : Nat} {f : Nat → Int} : upTo N f N = (List.range N).map f := by simp [upTo]
theorem upTo_set {N q : Nat} {f : Nat → Int} (h : q < N) : (upTo N f q).set q (f q) = upTo N f (q + 1) := by
  have e : N - q = (N - (q + 1)) + 1 := by omega
  rw [upTo, upTo, List.set_append, if_neg (by simp), e, List.replicate_succ]
  simp [List.range_succ]
theorem upTo_set0 {N q : Nat} {f : Nat → Int} (h : q < N) : (upTo N f q).set q 0 = upTo N f q := by
  have e : N - q = (N - (q + 1)) + 1 := by omega
  rw [upTo, List.set_append, if_neg (by simp), e, List.replicate_succ]
  simp
theorem divmod {i k c : Nat} (hk : k < c) : (i * c + k) % c = k ∧ (i * c + k) / c = i := by
  constructor
  · rw [Nat.mul_comm, Nat.mul_add_mod, Nat.mod_eq_of_lt hk]
  · rw [Nat.mul_comm, Nat.mul_add_div (by omega), Nat.div_eq_of_lt hk, Nat.add_zero]
theorem pair_lt {i k r c : Nat} (hi : i < r) (hk : k < c) : i * c + k < r * c := by
  have : (i + 1) * c ≤ r * c := Nat.mul_le_mul_right c hi
  rw [Nat.add_mul, Nat.one_mul] at this
  omega
theorem mul_64 {a b : Nat} (ha : a ≤ 8) (hb : b ≤ 8) : a * b ≤ 64 := Nat.mul_le_mul ha hb
/-- Rows become columns, as far as a place. -/
def turnTo (r c : Nat) (l : List Int) : Nat → List Int
  | 0 => List.replicate (r * c) 0
  | q + 1 => (turnTo r c l q).set (q % c * r + q / c) (l.getD q 0)
theorem turnTo_len (r c : Nat) (l : List Int) : ∀ q, (turnTo r c l q).length = r * c
  | 0 => by simp [turnTo]
  | q + 1 => by simp [turnTo, turnTo_len r c l q]
theorem turnTo_next {r c i k : Nat} {l : List Int} (hk : k < c) : turnTo r c l (i * c + k + 1) = (turnTo r c l (i * c + k)).set (k * r + i) (l.getD (i * c + k) 0) := by
  rw [turnTo, (divmod hk).1, (divmod hk).2]
def rowsT (s : tensor.den) : Nat := (s.1.getD 0 0).toNat
def colsT (s : tensor.den) : Nat := (s.1.getD 1 0).toNat
def turnT (s : tensor.den) : tensor.den := ([s.1.getD 1 0, s.1.getD 0 0], turnTo (rowsT s) (colsT s) s.2 (rowsT s * colsT s))
/-- A row by a column. -/
def dotTo (a b : List Int) (mid c q : Nat) : Nat → Int
  | 0 => 0
  | m + 1 => w64 (dotTo a b mid c q m + w64 (a.getD (q / c * mid + m) 0 * b.getD (m * c + q % c) 0))
theorem dotTo_range (a b : List Int) (mid c q : Nat) : ∀ m, -9223372036854775808 ≤ dotTo a b mid c q m ∧ dotTo a b mid c q m ≤ 9223372036854775807
  | 0 => by simp [dotTo]
  | m + 1 => wrap_range _
def matT (s t : tensor.den) : tensor.den := ([s.1.getD 0 0, t.1.getD 1 0], (List.range (rowsT s * colsT t)).map fun q => dotTo s.2 t.2 (colsT s) (colsT t) q (colsT s))
/-- Where the first greatest stands. -/
def firstTo (l : List Int) : Nat → Nat
  | 0 => 0
  | i + 1 => if l.getD (firstTo l i) 0 < l.getD i 0 then i else firstTo l i
def firstL (l : List Int) : Nat := firstTo l l.length
def partL (l : List Int) (n i : Nat) : List Int := (l.drop (i * n)).take n
def maxT (s : tensor.den) (n : Int) : tensor.den := (lessD s.1 n, (List.range (prodI (lessD s.1 n)).toNat).map fun i => maxL (partL s.2 n.toNat i))
def pickTo (a : List Int) (n : Nat) (l : List Int) : Nat → List Int
  | 0 => List.replicate a.length 0
  | q + 1 => (pickTo a n l q).set (q * n + firstL (partL a n q)) (l.getD q 0)
theorem pickTo_len (a : List Int) (n : Nat) (l : List Int) : ∀ q, (pickTo a n l q).length = a.length
  | 0 => by simp [pickTo]
  | q + 1 => by simp [pickTo, pickTo_len a n l q]
def pickT (s t : tensor.den) (n : Int) : tensor.den := (s.1, pickTo s.2 n.toNat t.2 t.2.length)
/-- A node's value, of those that it is made of. -/
def doT (k n : Int) (d : List Int) (ls : List tensor.den) : tensor.den :=
  let a := ls.getD 0 ([], [])
  let c := ls.getD 1 ([], [])
  if k = 3 then (d, List.replicate (prodI d).toNat n)
  else if k = 4 then (a.1, List.zipWith (fun x y => w64 (x + y)) a.2 c.2)
  else if k = 5 then (a.1, List.zipWith (fun x y => w64 (x - y)) a.2 c.2)
  else if k = 6 then (a.1, List.zipWith (fun x y => w64 (x * y)) a.2 c.2)
  else if k = 7 then (a.1, scaleL a.2 (-1))
  else if k = 8 then (a.1, scaleL a.2 n)
  else if k = 9 then matT a c
  else if k = 10 then turnT a
  else if k = 11 then (d, a.2)
  else if k = 12 then (d, wideL a d)
  else if k = 13 then (d, sumUp a d a.2.length)
  else if k = 14 then (a.1, stepL a.2 a.2)
  else if k = 15 then maxT a n
  else if k = 16 then (a.1, stepL a.2 c.2)
  else pickT a c n
/-- A matrix's parts. -/
theorem mat_parts {d : List Int} (h : dimsOk d = true) (h2 : d.length = 2) : ∃ r c : Nat, d = [(r : Int), (c : Int)] ∧ 1 ≤ r ∧ r ≤ 8 ∧ 1 ≤ c ∧ c ≤ 8 ∧ prodI d = ((r * c : Nat) : Int) ∧ r * c ≤ 64 := by
  obtain ⟨x, y, rfl⟩ := len2 h2
  have hx := dimsOk_mem h (x := x) (by simp)
  have hy := dimsOk_mem h (x := y) (by simp)
  refine ⟨x.toNat, y.toNat, by rw [Int.toNat_of_nonneg (by omega), Int.toNat_of_nonneg (by omega)], by omega, by omega, by omega, by omega, ?_, mul_64 (by omega) (by omega)⟩
  simp only [prodI, Int.mul_one]
  rw [Int.natCast_mul, Int.toNat_of_nonneg (by omega), Int.toNat_of_nonneg (by omega)]
end Go.AM

/- Rows become columns: the page's. -/
namespace Go.AM
set_option maxRecDepth 20000
set_option maxHeartbeats 1000000
attribute [local simp] layAt
attribute [local irreducible] lenK sliceK idxK fldK cutK storeK appK copyK clearK mapAtK callK loopH readK readK1 guardK grdK fnK nilK fieldK extrK strK nextK joinK iteK intK boolK cellsK castK castL castEnv binK unK intBin layParts execN runOpsN runItemsN denN call loop blockK
section
variable {R : Type} {Q : R → Prop} {h : Heap}
theorem ref1_Turn {s : tensor.den} {cs : List AV} (hs : In h tensor s cs) (ks : tenOk s = true) (h2 : s.1.length = 2) (b : Nat) (hb : b ≤ h.length) :
    WP (call prog b 256 [.agg cs] h) fun r => Old h.length h r.2 ∧ TenAt h.length r.2 (turnT s) r.1 := by
  obtain ⟨sd, st, rfl, hsd, hst⟩ := holds_tensor hs
  obtain ⟨s1, s2, s3, s4, s5⟩ := ten_parts ks
  obtain ⟨r, c, es, r1, r8, c1, c8, ep, e64⟩ := mat_parts s1 h2
  have eN : s.2.length = r * c := by omega
  have eT : turnT s = ([(c : Int), (r : Int)], turnTo r c s.2 (r * c)) := by simp [turnT, rowsT, colsT, es]
  have hok : dimsOk [(c : Int), (r : Int)] = true := dimsOk_two (by omega) (by omega)
  have eP : (prodI [(c : Int), (r : Int)]).toNat = r * c := by
    simp only [prodI, Int.mul_one]
    rw [Int.mul_comm, ← Int.natCast_mul, Int.toNat_natCast]
  rw [es] at hsd
  refine wp_enter (fn := C.ref1_Turn) rfl ?_
  dsimp only [bodyN, C.ref1_Turn, C.ref1_Turn_l1]; simp
  generalize hh : h ++ [AObj.cells 0 1 [sd, st], AObj.cells 0 1 [AV.nil, AV.nil]] = h1
  have o1 : Old h.length h h1 := hh ▸ Old.app
  have l1 : h1.length = h.length + 2 := by rw [← hh]; simp
  have b1 : Box h1 h.length [sd, st] := by rw [← hh]; simp [Box]
  have r1' : Box h1 (h.length + 1) [AV.nil, AV.nil] := by rw [← hh]; simp [Box]
  have hsd1 := In.old o1 hsd
  refine wq_ptr b1 rfl ?_
  try simp
  refine wq_idx hsd1 (by rfl) (by omega) (by simp) ?_
  try simp
  refine wq_int hsd1 (by simp) ?_
  try simp
  refine wq_ptr b1 rfl ?_
  try simp
  refine wq_idx hsd1 (by rfl) (by omega) (by simp) ?_
  try simp
  refine wq_int hsd1 (by simp) ?_
  try simp
  have H3 := in_ints (h := h1) (l := [(c : Int), (r : Int)]) (by simp) (by simp; omega)
  simp at H3
  have o3 : Old h1.length h1 (h1 ++ [AObj.cells 0 1 [AV.int IntKind.i64 ↑c, AV.int IntKind.i64 ↑r]]) := Old.app
  have l3 : (h1 ++ [AObj.cells 0 1 [AV.int IntKind.i64 ↑c, AV.int IntKind.i64 ↑r]]).length = h1.length + 1 := by simp
  generalize h1 ++ [AObj.cells 0 1 [AV.int IntKind.i64 ↑c, AV.int IntKind.i64 ↑r]] = h3 at *
  refine wp_call (ref1_Fill H3 hok (n := 0) (by omega) _ (by omega)) fun v4 h4 ⟨o4, T4⟩ => ?_
  simp only at o4 T4
  rw [eP] at T4
  have l4 := o4.1
  try simp
  refine wp_initT T4 (by omega) fun vD vT k h5 e5 o5 lt5 B5 => ?_
  subst e5
  have l5 := o5.1
  have kl := B5.kl
  have kle := B5.le
  have o25 := o3.trans ((o4.trans (o5.mono l4)).mono o3.1)
  have b5 := b1.old o25 b1.lt
  have r5 := r1'.old o25 r1'.lt
  have o05 := o1.trans (o25.mono (by omega))
  have lr1 := r1'.lt
  have lb1 := b1.lt
  try simp
  refine wp_loop (I := fun m e h' => Old k h5 h' ∧ h'.length = h5.length ∧ ∃ (i : Nat), e = (ea 1 (.ptr h.length 0 0) <| ea 2 (.ptr (h.length + 1) 0 0) <| ea 3 (.ptr h4.length 0 0) <| ea 4 (.int .i64 (i : Nat)) e0) ∧ i + m = r ∧ TB h3.length k h4.length [(c : Int), (r : Int)] (turnTo r c s.2 (i * c)) vD vT h') ?_ ⟨Old.refl (by omega), rfl, 0, rfl, Nat.zero_add _, by rw [Nat.zero_mul]; exact B5⟩
  rintro N m e' h6 ⟨o6, l6, i, rfl, him, B6⟩ next
  have b6 := b5.old o6 (by omega)
  have o06 := o05.trans (o6.mono (by omega))
  have hsd6 := In.old o06 hsd
  dsimp only [C.ref1_Turn_b1, C.ref1_Turn_l0]; simp
  refine wq_ptr b6 rfl ?_
  try simp
  refine wq_idx hsd6 (by rfl) (by omega) (by simp) ?_
  try simp
  refine wq_int hsd6 (by simp) ?_
  try simp
  refine wp_dec (fun hi => ?_) fun hi => ?_
  · have hi : i < r := by omega
    have wi := succ64 (i := i) (n := 64) (by omega) (by omega)
    try simp
    refine wp_loop (I := fun m e h' => Old k h5 h' ∧ h'.length = h5.length ∧ ∃ (j : Nat), e = (ea 1 (.ptr h.length 0 0) <| ea 2 (.ptr (h.length + 1) 0 0) <| ea 3 (.ptr h4.length 0 0) <| ea 4 (.int .i64 (i : Nat)) <| ea 5 (.int .i64 (j : Nat)) e0) ∧ j + m = c ∧ TB h3.length k h4.length [(c : Int), (r : Int)] (turnTo r c s.2 (i * c + j)) vD vT h') ?_ (m := c) ⟨o6, l6, 0, rfl, Nat.zero_add _, B6⟩
    rintro N2 m2 e2 h7 ⟨o7, l7, j, rfl, hjm, B7⟩ next2
    have b7 := b5.old o7 (by omega)
    have o07 := o05.trans (o7.mono (by omega))
    have hst7 := In.old o07 hst
    have hsd7 := In.old o07 hsd
    dsimp only [C.ref1_Turn_b0]; simp
    refine wq_ptr b7 rfl ?_
    try simp
    refine wq_idx hsd7 (by rfl) (by omega) (by simp) ?_
    try simp
    refine wq_int hsd7 (by simp) ?_
    try simp
    refine wp_dec (fun hj => ?_) fun hj => ?_
    · have hj : j < c := by omega
      have wj := succ64 (i := j) (n := 64) (by omega) (by omega)
      have q1 := pair_lt hj hi
      have q2 := pair_lt hi hj
      rw [Nat.mul_comm c r] at q1
      have hD : j * r + i < (turnTo r c s.2 (i * c + j)).length := by rw [turnTo_len]; exact q1
      have hS : i * c + j < s.2.length := by omega
      have w1 : IntKind.i64.wrap ((j : Int) * (r : Int)) = (j : Int) * (r : Int) := by rw [← Int.natCast_mul]; exact w64_id (by omega) (by omega)
      have w2 : IntKind.i64.wrap ((j : Int) * (r : Int) + (i : Int)) = (j : Int) * (r : Int) + (i : Int) := by rw [← Int.natCast_mul]; exact w64_id (by omega) (by omega)
      have w3 : IntKind.i64.wrap ((i : Int) * (c : Int)) = (i : Int) * (c : Int) := by rw [← Int.natCast_mul]; exact w64_id (by omega) (by omega)
      have w4 : IntKind.i64.wrap ((i : Int) * (c : Int) + (j : Int)) = (i : Int) * (c : Int) + (j : Int) := by rw [← Int.natCast_mul]; exact w64_id (by omega) (by omega)
      have t1 : ((j : Int) * (r : Int) + (i : Int)).toNat = j * r + i := by rw [← Int.natCast_mul, ← Int.natCast_add, Int.toNat_natCast]
      have t2 : ((i : Int) * (c : Int) + (j : Int)).toNat = i * c + j := by rw [← Int.natCast_mul, ← Int.natCast_add, Int.toNat_natCast]
      try simp
      refine wq_ptr B7.box rfl ?_
      try simp
      refine wq_ptr b7 rfl ?_
      try simp
      refine wq_idx hsd7 (by rfl) (by omega) (by simp) ?_
      try simp
      refine wq_int hsd7 (by simp) ?_
      simp [w1, w2]
      refine wq_ptr b7 rfl ?_
      try simp
      refine wq_ptr b7 rfl ?_
      try simp
      refine wq_idx hsd7 (by rfl) (by omega) (by simp) ?_
      try simp
      refine wq_int hsd7 (by simp) ?_
      simp [w3, w4]
      refine wq_idx hst7 (by rfl) (by rw [← Int.natCast_mul]; omega) (by rw [← Int.natCast_mul]; omega) ?_
      simp [t2]
      refine wq_int hst7 hS ?_
      try simp
      refine wq_idx B7.in (by rfl) (by rw [← Int.natCast_mul]; omega) (by rw [← Int.natCast_mul]; omega) ?_
      simp [t1]
      refine wp_putT B7 (holds_range hst7 hS) (by omega) (by omega) hD fun h8 o8 l8 _ B8 => ?_
      simp [wj]
      have e1 : turnTo r c s.2 (i * c + (j + 1)) = (turnTo r c s.2 (i * c + j)).set (j * r + i) s.2[i * c + j] := by
        rw [← Nat.add_assoc, turnTo_next hj, List.getD_eq_getElem?_getD, List.getElem?_eq_getElem hS]
        rfl
      exact next2 (m2 - 1) _ _ (by omega) ⟨o7.trans o8, by omega, j + 1, by simp, by omega, by rw [e1]; exact B8⟩
    · have ej : j = c := by omega
      subst ej
      simp [wi]
      exact next (m - 1) _ _ (by omega) ⟨o7, l7, i + 1, by simp, by omega, by rw [Nat.add_mul, Nat.one_mul]; exact B7⟩
  · have ei : i = r := by omega
    subst ei
    have r6 := r5.old o6 (by omega)
    try simp
    refine wq_ptrs B6.box (by simp) ?_
    try simp
    refine wq_put r6 (by omega) (vs := [vD, vT]) (fun _ => by rw [cellsK_agg]) (by rfl) (by simp) fun h7 l7 k7 b7 => ?_
    simp at b7
    try simp
    refine wq_ptrs b7 (by simp) ?_
    try simp
    exact wp_some ⟨o06.trans (old_put l7 k7 (by omega) (by omega)), by rw [eT]; exact (B6.told l7 k7 (by omega)).mono (by omega)⟩
end
end Go.AM

/- Matrices multiplied: the page's. -/
namespace Go.AM
set_option maxRecDepth 20000
set_option maxHeartbeats 1000000
attribute [local simp] layAt
attribute [local irreducible] lenK sliceK idxK fldK cutK storeK appK copyK clearK mapAtK callK loopH readK readK1 guardK grdK fnK nilK fieldK extrK strK nextK joinK iteK intK boolK cellsK castK castL castEnv binK unK intBin layParts execN runOpsN runItemsN denN call loop blockK
section
variable {R : Type} {Q : R → Prop} {h : Heap}
theorem ref1_Mat {s t : tensor.den} {cs ct : List AV} (hs : In h tensor s cs) (ht : In h tensor t ct) (ks : tenOk s = true) (kt : tenOk t = true) (h2 : s.1.length = 2) (h2t : t.1.length = 2) (he : s.1.getD 1 0 = t.1.getD 0 0) (b : Nat) (hb : b ≤ h.length) :
    WP (call prog b 255 [.agg cs, .agg ct] h) fun r => Old h.length h r.2 ∧ TenAt h.length r.2 (matT s t) r.1 := by
  obtain ⟨sd, st, rfl, hsd, hst⟩ := holds_tensor hs
  obtain ⟨td, tt, rfl, htd, htt⟩ := holds_tensor ht
  obtain ⟨s1, s2, s3, s4, s5⟩ := ten_parts ks
  obtain ⟨t1, t2, t3, t4, t5⟩ := ten_parts kt
  obtain ⟨r, d, es, r1, r8, d1, d8, ep, e64⟩ := mat_parts s1 h2
  obtain ⟨d', c, et, _, _, c1, c8, ep', e64'⟩ := mat_parts t1 h2t
  obtain rfl : d = d' := by
    rw [es, et] at he
    change (d : Int) = (d' : Int) at he
    omega
  have rc64 := mul_64 r8 c8
  have eN : s.2.length = r * d := by omega
  have eM : t.2.length = d * c := by omega
  have eT : matT s t = ([(r : Int), (c : Int)], (List.range (r * c)).map fun q => dotTo s.2 t.2 d c q d) := by simp [matT, rowsT, colsT, es, et]
  have hok : dimsOk [(r : Int), (c : Int)] = true := dimsOk_two (by omega) (by omega)
  have eP : (prodI [(r : Int), (c : Int)]).toNat = r * c := by
    simp only [prodI, Int.mul_one]
    rw [← Int.natCast_mul, Int.toNat_natCast]
  rw [es] at hsd
  rw [et] at htd
  refine wp_enter (fn := C.ref1_Mat) rfl ?_
  dsimp only [bodyN, C.ref1_Mat, C.ref1_Mat_l2]; simp
  generalize hh : h ++ [AObj.cells 0 1 [sd, st], AObj.cells 0 1 [td, tt], AObj.cells 0 1 [AV.nil, AV.nil]] = h1
  have o1 : Old h.length h h1 := hh ▸ Old.app
  have l1 : h1.length = h.length + 3 := by rw [← hh]; simp
  have b1 : Box h1 h.length [sd, st] := by rw [← hh]; simp [Box]
  have c1' : Box h1 (h.length + 1) [td, tt] := by rw [← hh]; simp [Box]
  have r1' : Box h1 (h.length + 2) [AV.nil, AV.nil] := by rw [← hh]; simp [Box]
  have hsd1 := In.old o1 hsd
  have htd1 := In.old o1 htd
  refine wq_ptr b1 rfl ?_
  (try simp)
  refine wq_idx hsd1 (by rfl) (by omega) (by simp) ?_
  (try simp)
  refine wq_int hsd1 (by simp) ?_
  try simp
  refine wq_ptr c1' rfl ?_
  (try simp)
  refine wq_idx htd1 (by rfl) (by omega) (by simp) ?_
  (try simp)
  refine wq_int htd1 (by simp) ?_
  try simp
  have H4 := in_ints (h := h1) (l := [(r : Int), (c : Int)]) (by simp) (by simp; omega)
  simp at H4
  have o4 : Old h1.length h1 (h1 ++ [AObj.cells 0 1 [AV.int IntKind.i64 ↑r, AV.int IntKind.i64 ↑c]]) := Old.app
  have l4 : (h1 ++ [AObj.cells 0 1 [AV.int IntKind.i64 ↑r, AV.int IntKind.i64 ↑c]]).length = h1.length + 1 := by simp
  generalize h1 ++ [AObj.cells 0 1 [AV.int IntKind.i64 ↑r, AV.int IntKind.i64 ↑c]] = h4 at *
  refine wp_call (ref1_Fill H4 hok (n := 0) (by omega) _ (by omega)) fun v5 h5 ⟨o5, T5⟩ => ?_
  simp only at o5 T5
  rw [eP] at T5
  have l5 := o5.1
  try simp
  refine wp_initT T5 (by omega) fun vD vT k h6 e6 o6 lt6 B6 => ?_
  subst e6
  have l6 := o6.1
  have kl := B6.kl
  have kle := B6.le
  have o16 := o4.trans ((o5.trans (o6.mono l5)).mono o4.1)
  have b6 := b1.old o16 b1.lt
  have c6 := c1'.old o16 c1'.lt
  have r6 := r1'.old o16 r1'.lt
  have o06 := o1.trans (o16.mono (by omega))
  have lr3 := r1'.lt
  have lb3 := b1.lt
  have lc3 := c1'.lt
  try simp
  refine wp_loop (I := fun m e h' => Old k h6 h' ∧ h'.length = h6.length ∧ ∃ (i : Nat), e = (ea 2 (.ptr h.length 0 0) <| ea 3 (.ptr (h.length + 1) 0 0) <| ea 4 (.ptr (h.length + 2) 0 0) <| ea 5 (.ptr h5.length 0 0) <| ea 6 (.int .i64 (i : Nat)) e0) ∧ i + m = r ∧ TB h4.length k h5.length [(r : Int), (c : Int)] (upTo (r * c) (fun q => dotTo s.2 t.2 d c q d) (i * c)) vD vT h') ?_ ⟨Old.refl (by omega), rfl, 0, rfl, Nat.zero_add _, by rw [Nat.zero_mul, upTo_zero]; exact B6⟩
  rintro N m e' h7 ⟨o7, l7, i, rfl, him, B7⟩ next
  have b7 := b6.old o7 (by omega)
  have c7 := c6.old o7 (by omega)
  have o07 := o06.trans (o7.mono (by omega))
  have hst7 := In.old o07 hst
  have htt7 := In.old o07 htt
  have hsd7 := In.old o07 hsd
  have htd7 := In.old o07 htd
  dsimp only [C.ref1_Mat_b2, C.ref1_Mat_l1]; simp
  refine wq_ptr b7 rfl ?_
  (try simp)
  refine wq_idx hsd7 (by rfl) (by omega) (by simp) ?_
  (try simp)
  refine wq_int hsd7 (by simp) ?_
  try simp
  refine wp_dec (fun hi => ?_) fun hi => ?_
  · have hi : i < r := by omega
    have wi := succ64 (i := i) (n := 64) (by omega) (by omega)
    try simp
    refine wp_loop (I := fun m e h' => Old k h6 h' ∧ h'.length = h6.length ∧ ∃ (j : Nat), e = (ea 2 (.ptr h.length 0 0) <| ea 3 (.ptr (h.length + 1) 0 0) <| ea 4 (.ptr (h.length + 2) 0 0) <| ea 5 (.ptr h5.length 0 0) <| ea 6 (.int .i64 (i : Nat)) <| ea 7 (.int .i64 (j : Nat)) e0) ∧ j + m = c ∧ TB h4.length k h5.length [(r : Int), (c : Int)] (upTo (r * c) (fun q => dotTo s.2 t.2 d c q d) (i * c + j)) vD vT h') ?_ (m := c) ⟨o7, l7, 0, rfl, Nat.zero_add _, B7⟩
    rintro N2 m2 e2 h8 ⟨o8, l8, j, rfl, hjm, B8⟩ next2
    have b8 := b6.old o8 (by omega)
    have c8 := c6.old o8 (by omega)
    have o08 := o06.trans (o8.mono (by omega))
    have hst8 := In.old o08 hst
    have htt8 := In.old o08 htt
    have hsd8 := In.old o08 hsd
    have htd8 := In.old o08 htd
    dsimp only [C.ref1_Mat_b1, C.ref1_Mat_l0]; simp
    refine wq_ptr c8 rfl ?_
    (try simp)
    refine wq_idx htd8 (by rfl) (by omega) (by simp) ?_
    (try simp)
    refine wq_int htd8 (by simp) ?_
    try simp
    refine wp_dec (fun hj => ?_) fun hj => ?_
    · have hj : j < c := by omega
      have wj := succ64 (i := j) (n := 64) (by omega) (by omega)
      have q2 := pair_lt hi hj
      try simp
      refine wp_loop (I := fun m e h' => Old k h6 h' ∧ h'.length = h6.length ∧ ∃ (p : Nat), e = (ea 2 (.ptr h.length 0 0) <| ea 3 (.ptr (h.length + 1) 0 0) <| ea 4 (.ptr (h.length + 2) 0 0) <| ea 5 (.ptr h5.length 0 0) <| ea 6 (.int .i64 (i : Nat)) <| ea 7 (.int .i64 (j : Nat)) <| ea 8 (.int .i64 (dotTo s.2 t.2 d c (i * c + j) p)) <| ea 9 (.int .i64 (p : Nat)) e0) ∧ p + m = d ∧ TB h4.length k h5.length [(r : Int), (c : Int)] (upTo (r * c) (fun q => dotTo s.2 t.2 d c q d) (i * c + j)) vD vT h') ?_ (m := d) ⟨o8, l8, 0, rfl, Nat.zero_add _, B8⟩
      rintro N3 m3 e3 h9 ⟨o9, l9, p, rfl, hpm, B9⟩ next3
      have b9 := b6.old o9 (by omega)
      have c9 := c6.old o9 (by omega)
      have o09 := o06.trans (o9.mono (by omega))
      have hst9 := In.old o09 hst
      have htt9 := In.old o09 htt
      have hsd9 := In.old o09 hsd
      have htd9 := In.old o09 htd
      dsimp only [C.ref1_Mat_b0]; simp
      refine wq_ptr b9 rfl ?_
      (try simp)
      refine wq_idx hsd9 (by rfl) (by omega) (by simp) ?_
      (try simp)
      refine wq_int hsd9 (by simp) ?_
      try simp
      refine wp_dec (fun hp => ?_) fun hp => ?_
      · have hp : p < d := by omega
        have wp := succ64 (i := p) (n := 64) (by omega) (by omega)
        have q1 := pair_lt hi hp
        have q3 := pair_lt hp hj
        have hS : i * d + p < s.2.length := by omega
        have hT : p * c + j < t.2.length := by omega
        have w3 : IntKind.i64.wrap ((i : Int) * (d : Int)) = (i : Int) * (d : Int) := by rw [← Int.natCast_mul]; exact w64_id (by omega) (by omega)
        have w4 : IntKind.i64.wrap ((i : Int) * (d : Int) + (p : Int)) = (i : Int) * (d : Int) + (p : Int) := by rw [← Int.natCast_mul]; exact w64_id (by omega) (by omega)
        have w5 : IntKind.i64.wrap ((p : Int) * (c : Int)) = (p : Int) * (c : Int) := by rw [← Int.natCast_mul]; exact w64_id (by omega) (by omega)
        have w6 : IntKind.i64.wrap ((p : Int) * (c : Int) + (j : Int)) = (p : Int) * (c : Int) + (j : Int) := by rw [← Int.natCast_mul]; exact w64_id (by omega) (by omega)
        have n2 : ((i : Int) * (d : Int) + (p : Int)).toNat = i * d + p := by rw [← Int.natCast_mul, ← Int.natCast_add, Int.toNat_natCast]
        have n3 : ((p : Int) * (c : Int) + (j : Int)).toNat = p * c + j := by rw [← Int.natCast_mul, ← Int.natCast_add, Int.toNat_natCast]
        try simp
        refine wq_ptr b9 rfl ?_
        try simp
        refine wq_ptr b9 rfl ?_
        (try simp)
        refine wq_idx hsd9 (by rfl) (by omega) (by simp) ?_
        (try simp)
        refine wq_int hsd9 (by simp) ?_
        simp [w3, w4]
        refine wq_idx hst9 (by rfl) (by rw [← Int.natCast_mul]; omega) (by rw [← Int.natCast_mul]; omega) ?_
        simp [n2]
        refine wq_int hst9 hS ?_
        try simp
        refine wq_ptr c9 rfl ?_
        try simp
        refine wq_ptr c9 rfl ?_
        (try simp)
        refine wq_idx htd9 (by rfl) (by omega) (by simp) ?_
        (try simp)
        refine wq_int htd9 (by simp) ?_
        simp [w5, w6]
        refine wq_idx htt9 (by rfl) (by rw [← Int.natCast_mul]; omega) (by rw [← Int.natCast_mul]; omega) ?_
        simp [n3]
        refine wq_int htt9 hT ?_
        simp [wp]
        have e1 : dotTo s.2 t.2 d c (i * c + j) (p + 1) = w64 (dotTo s.2 t.2 d c (i * c + j) p + w64 (s.2[i * d + p] * t.2[p * c + j])) := by
          rw [dotTo, (divmod hj).1, (divmod hj).2, List.getD_eq_getElem?_getD, List.getD_eq_getElem?_getD, List.getElem?_eq_getElem hS, List.getElem?_eq_getElem hT]
          rfl
        exact next3 (m3 - 1) _ _ (by omega) ⟨o9, l9, p + 1, by rw [e1]; simp, by omega, B9⟩
      · have ep : p = d := by omega
        have w1 : IntKind.i64.wrap ((i : Int) * (c : Int)) = (i : Int) * (c : Int) := by rw [← Int.natCast_mul]; exact w64_id (by omega) (by omega)
        have w2 : IntKind.i64.wrap ((i : Int) * (c : Int) + (j : Int)) = (i : Int) * (c : Int) + (j : Int) := by rw [← Int.natCast_mul]; exact w64_id (by omega) (by omega)
        have n1 : ((i : Int) * (c : Int) + (j : Int)).toNat = i * c + j := by rw [← Int.natCast_mul, ← Int.natCast_add, Int.toNat_natCast]
        have hlen : (upTo (r * c) (fun q => dotTo s.2 t.2 d c q d) (i * c + j)).length = r * c := upTo_len (by omega)
        try simp
        refine wq_ptr B9.box rfl ?_
        try simp
        refine wq_ptr c9 rfl ?_
        (try simp)
        refine wq_idx htd9 (by rfl) (by omega) (by simp) ?_
        (try simp)
        refine wq_int htd9 (by simp) ?_
        simp [w1, w2]
        refine wq_idx B9.in (by rfl) (by rw [← Int.natCast_mul]; omega) (by rw [hlen, ← Int.natCast_mul]; omega) ?_
        simp [n1]
        refine wp_putT B9 (dotTo_range _ _ _ _ _ _) (by omega) (by omega) (by rw [hlen]; omega) fun h10 o10 l10 _ B10 => ?_
        rw [ep, upTo_set (f := (fun q => dotTo s.2 t.2 d c q d)) q2] at B10
        simp [wj]
        exact next2 (m2 - 1) _ _ (by omega) ⟨o9.trans o10, by omega, j + 1, by simp, by omega, B10⟩
    · have ej : j = c := by omega
      subst ej
      simp [wi]
      exact next (m - 1) _ _ (by omega) ⟨o8, l8, i + 1, by simp, by omega, by rw [Nat.add_mul, Nat.one_mul]; exact B8⟩
  · have ei : i = r := by omega
    subst ei
    have r7 := r6.old o7 (by omega)
    rw [upTo_full] at B7
    try simp
    refine wq_ptrs B7.box (by simp) ?_
    try simp
    refine wq_put r7 (by omega) (vs := [vD, vT]) (fun _ => by rw [cellsK_agg]) (by rfl) (by simp) fun h8 l8 k8 b8 => ?_
    simp at b8
    try simp
    refine wq_ptrs b8 (by simp) ?_
    try simp
    exact wp_some ⟨o07.trans (old_put l8 k8 (by omega) (by omega)), by rw [eT]; exact (B7.told l8 k8 (by omega)).mono (by omega)⟩
end
end Go.AM
