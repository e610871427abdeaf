import Derived.Test.YtfdbegdgedhhcaaGreatAmAuto
set_option linter.all false
/- Number by number. -/
namespace Go.AM
set_option maxRecDepth 20000
set_option maxHeartbeats 1000000
attribute [local simp] layAt
attribute [local irreducible] lenK sliceK idxK fldK cutK storeK appK copyK clearK mapAtK callK loopH readK readK1 guardK grdK fnK nilK fieldK extrK strK nextK joinK iteK intK boolK cellsK castK castL castEnv binK unK intBin layParts execN runOpsN runItemsN denN call loop blockK
section
variable {h : Heap}
/-- A tensor of one's own stands while elsewhere is written. -/
theorem TenAt.at {n0 : Nat} {t : tensor.den} {v : AV} (H : TenAt n0 h t v) : True := trivial
theorem ring_two {s t : tensor.den} {cs ct : List AV} (hs : In h tensor s cs) (ht : In h tensor t ct) (ks : tenOk s = true) (kt : tenOk t = true) (e : s.1 = t.1) {g : Nat} {cap : List AV} (op : Int → Int → Int) (hr : ∀ x y, -9223372036854775808 ≤ op x y ∧ op x y ≤ 9223372036854775807)
    (hop : ∀ h' b x y, Old h.length h h' → call prog b g (.int .i64 x :: .int .i64 y :: cap) h' = some (.int .i64 (op x y), h')) (b : Nat) (hb : b ≤ h.length) :
    WP (call prog b 180 [.agg cs, .agg ct, .fn g cap] h) fun r => Old h.length h r.2 ∧ ∃ v, r.1 = .tup [v, .int .i64 0] ∧ TenAt h.length r.2 (s.1, List.zipWith op s.2 t.2) v := by
  obtain ⟨sd, st, rfl, hsd, hst⟩ := holds_tensor hs
  obtain ⟨td, tt, rfl, htd, htt⟩ := holds_tensor ht
  obtain ⟨s1, s2, s3, s4, s5⟩ := ten_parts ks
  obtain ⟨t1, t2, t3, t4, t5⟩ := ten_parts kt
  refine wp_enter (fn := C.ring_two) rfl ?_
  dsimp only [bodyN, C.ring_two, C.ring_two_l0]; simp
  generalize hh : h ++ [AObj.cells 0 1 [sd, st], AObj.cells 0 1 [td, tt], AObj.cells 0 1 [AV.nil, AV.nil]] = h1
  have o1 : Old h.length h h1 := hh ▸ Old.app
  have l1 : h1.length = h.length + 3 := by rw [← hh]; simp
  have b1 : Box h1 h.length [sd, st] := by rw [← hh]; simp [Box]
  have c1 : Box h1 (h.length + 1) [td, tt] := by rw [← hh]; simp [Box]
  have r1 : Box h1 (h.length + 2) [AV.nil, AV.nil] := by rw [← hh]; simp [Box]
  refine wq_ptrs b1 (by simp) ?_
  try simp
  refine wq_ptrs c1 (by simp) ?_
  try simp
  refine wp_call (ring_pair (In.old o1 hs) (In.old o1 ht) ks kt e b (by omega)) fun v2 h2 ⟨o12, e2⟩ => ?_
  simp only at o12 e2
  subst e2
  have o2 := o1.trans (o12.mono (by omega))
  have l2 := o12.1
  have b2 := b1.old o12 b1.lt
  have c2 := c1.old o12 c1.lt
  have r2 := r1.old o12 r1.lt
  try simp
  refine wq_ptr b2 rfl ?_
  try simp
  refine wp_call (shape_New (In.old o2 hsd) s1 b (by omega)) fun v3 h3 ⟨o23, T3⟩ => ?_
  simp only at o23 T3
  have l3 := o23.1
  have o3 := o2.trans (o23.mono (by omega))
  obtain ⟨vd, vt, k, rfl, ad, hk, hnk, hkl, at3⟩ := T3
  have b3 := b2.old o23 b2.lt
  have c3 := c2.old o23 c2.lt
  have r3 := r2.old o23 r2.lt
  try simp
  refine wq_init (by omega) (by rfl) (by rfl) fun h4 o34 b4 lt4 => ?_
  have l4 := o34.1
  have o4 := o3.trans (o34.mono (by omega))
  have at4 := at3.keep o34
  have ad4 := ad.keep o34
  have b34 := b3.old o34 b3.lt
  have c34 := c3.old o34 c3.lt
  have r34 := r3.old o34 r3.lt
  try simp
  refine wq_ptr b4 rfl ?_
  try simp
  refine wq_len (at4.in (Nat.le_refl _)) ?_
  have en : (prodI s.1).toNat = s.2.length := by omega
  rw [en] at at4
  simp [en]
  have vtb : ∀ j, vt.blk = some j → k ≤ j ∧ j < h3.length := fun j hj => by
    obtain ⟨_, ac, _⟩ := at3
    exact ac.lt hj
  refine wp_loop (I := fun m e h' => Old k h4 h' ∧ h4.length ≤ h'.length ∧ Box h' h3.length [vd, vt] ∧ ∃ (i : Nat) (D : List Int), e = (ea 2 (.fn g cap) <| ea 3 (.ptr h.length 0 0) <| ea 4 (.ptr (h.length + 1) 0 0) <| ea 6 (.ptr (h.length + 2) 0 0) <| ea 9 (.ptr h3.length 0 0) <| ea 23 (.int .i64 s.2.length) <| ea 24 (.int .i64 (i : Nat)) e0) ∧ i + m = s.2.length ∧ AccP k k h' int vt D ∧ D.length = s.2.length ∧ ∀ q, q < s.2.length → D[q]? = some (if q < i then op (s.2.getD q 0) (t.2.getD q 0) else 0)) ?_ ⟨Old.refl (by omega), Nat.le_refl _, b4, 0, _, rfl, Nat.zero_add _, at4, by simp, fun q hq => by rw [List.getElem?_replicate, if_pos hq, if_neg (by omega)]⟩
  rintro N m e' h5 ⟨o45, l5, b5, i, D, rfl, him, at5, hD, hDq⟩ next
  have o5 := o4.trans (o45.mono (by omega))
  have b35 := b34.old o45 (by have := b2.lt; omega)
  have c35 := c34.old o45 (by have := c2.lt; omega)
  have r35 := r34.old o45 (by have := r2.lt; omega)
  have hst5 := In.old o5 hst
  have htt5 := In.old o5 htt
  dsimp only [C.ring_two_b0]; simp
  refine wp_dec (fun hi => ?_) fun hi => ?_
  · have w1 := succ64 (i := i) (n := 64) (by omega) (by omega)
    have hit : i < t.2.length := by rw [e] at s2; omega
    try simp
    refine wq_ptr b5 rfl ?_
    try simp
    refine wq_ptr b35 rfl ?_
    try simp
    refine wq_idx hst5 (by rfl) (by omega) (by omega) ?_
    try simp
    refine wq_int hst5 hi ?_
    try simp
    refine wq_ptr c35 rfl ?_
    try simp
    refine wq_idx htt5 (by rfl) (by omega) (by omega) ?_
    try simp
    refine wq_int htt5 hit ?_
    try simp
    rw [callK_eq (hop _ _ _ _ o5)]
    try simp
    refine wq_idx (at5.in (Nat.le_refl _)) (by rfl) (by omega) (by omega) ?_
    try simp
    refine wp_putI at5 (hr _ _) (by omega) (by omega) (by omega) fun h6 but6 l6 o56 at6 => ?_
    simp [w1]
    have b6 : Box h6 h3.length _ := (but6.2 _ b5.lt (fun e => by have := (vtb _ e).2; omega)).trans b5
    refine next (m - 1) _ _ (by omega) ⟨o45.trans o56, by omega, b6, i + 1, _, rfl, by omega, at6, by simp [hD], fun q hq => ?_⟩
    rw [List.getElem?_set]
    by_cases c : i = q
    · subst c
      rw [if_pos rfl, if_pos (by omega), if_pos (by omega), List.getD_eq_getElem?_getD, List.getD_eq_getElem?_getD, List.getElem?_eq_getElem hi, List.getElem?_eq_getElem hit]
      rfl
    · rw [if_neg c, hDq q hq]
      by_cases c2 : q < i
      · rw [if_pos c2, if_pos (by omega)]
      · rw [if_neg c2, if_neg (by omega)]
  · have ei : i = s.2.length := by omega
    subst ei
    try simp
    refine wq_ptrs b5 (by simp) ?_
    try simp
    refine wq_put r35 (by omega) (vs := [vd, vt]) (fun _ => by rw [cellsK_agg]) (by rfl) (by simp) fun h6 l6 k6 b6 => ?_
    simp at b6
    try simp
    refine wq_ptrs b6 (by simp) ?_
    try simp
    have r2lt := r2.lt
    have ad5 := ad4.flatO o45 hk
    have ad6 := ad5.but l6 k6 (by omega) (by omega)
    have at6 := at5.but l6 k6 (by omega) (by omega)
    have eD : D = List.zipWith op s.2 t.2 := by
      apply List.ext_getElem?
      intro q
      have htl : t.2.length = s.2.length := by rw [e] at s2; omega
      rcases Nat.lt_or_ge q s.2.length with hq | hq
      · rw [hDq q hq, if_pos hq, List.getElem?_zipWith, List.getElem?_eq_getElem hq, List.getElem?_eq_getElem (by omega), List.getD_eq_getElem?_getD, List.getD_eq_getElem?_getD, List.getElem?_eq_getElem hq, List.getElem?_eq_getElem (by omega)]
        rfl
      · rw [List.getElem?_eq_none (by omega), List.getElem?_eq_none (by simp; omega)]
    refine wp_some ⟨o5.trans (old_put l6 k6 (by omega) (by omega)), _, rfl, vd, vt, k, rfl, ad6.mono (by omega) (by omega), hk, by omega, by simp only; omega, by rw [← eD]; exact at6⟩
end
end Go.AM

/- Number by number: the program's. -/
namespace Go.AM
set_option maxRecDepth 20000
set_option maxHeartbeats 1000000
attribute [local simp] layAt
attribute [local irreducible] lenK sliceK idxK fldK cutK storeK appK copyK clearK mapAtK callK loopH readK readK1 guardK grdK fnK nilK fieldK extrK strK nextK joinK iteK intK boolK cellsK castK castL castEnv binK unK intBin layParts execN runOpsN runItemsN denN call loop blockK
def scaleL (l : List Int) (n : Int) : List Int := l.map fun x => w64 (x * n)
section
variable {h : Heap}
theorem ring_Add_1 (x y : Int) (b : Nat) : call prog b 181 [.int .i64 x, .int .i64 y] h = some (.int .i64 (w64 (x + y)), h) := by
  refine enter (fn := C.ring_Add_1) rfl ?_
  dsimp only [bodyN, C.ring_Add_1]; simp
theorem ring_Add {s t : tensor.den} {cs ct : List AV} (hs : In h tensor s cs) (ht : In h tensor t ct) (ks : tenOk s = true) (kt : tenOk t = true) (e : s.1 = t.1) (b : Nat) (hb : b ≤ h.length) :
    WP (call prog b 153 [.agg cs, .agg ct] h) fun r => Old h.length h r.2 ∧ ∃ v, r.1 = .tup [v, .int .i64 0] ∧ TenAt h.length r.2 (s.1, List.zipWith (fun x y => w64 (x + y)) s.2 t.2) v := by
  obtain ⟨sd, st, rfl, hsd, hst⟩ := holds_tensor hs
  obtain ⟨td, tt, rfl, htd, htt⟩ := holds_tensor ht
  refine wp_enter (fn := C.ring_Add) rfl ?_
  dsimp only [bodyN, C.ring_Add]; simp
  generalize hh : h ++ [AObj.cells 0 1 [sd, st], AObj.cells 0 1 [td, tt], AObj.cells 0 1 [AV.nil, AV.nil]] = h1
  have o1 : Old h.length h h1 := hh ▸ Old.app
  have l1 : h1.length = h.length + 3 := by rw [← hh]; simp
  have b1 : Box h1 h.length [sd, st] := by rw [← hh]; simp [Box]
  have c1 : Box h1 (h.length + 1) [td, tt] := by rw [← hh]; simp [Box]
  have r1 : Box h1 (h.length + 2) [AV.nil, AV.nil] := by rw [← hh]; simp [Box]
  refine wq_ptrs b1 (by simp) ?_
  try simp
  refine wq_ptrs c1 (by simp) ?_
  try simp
  refine wp_call (ring_two (In.old o1 hs) (In.old o1 ht) ks kt e (g := 181) (cap := []) (fun x y => w64 (x + y)) (fun x y => wrap_range _) (fun h' b x y _ => ring_Add_1 x y b) b (by omega)) fun v2 h2 ⟨o2, v3, e2, T2⟩ => ?_
  simp only at o2 e2 T2
  subst e2
  obtain ⟨vd, vt, k, rfl, ad, hk, hnk, hkl, at3⟩ := T2
  have l2 := o2.1
  have r2 := r1.old o2 r1.lt
  have r1lt := r1.lt
  try simp
  refine wq_put r2 (by omega) (vs := [vd, vt]) (fun _ => by rw [cellsK_agg]) (by rfl) (by simp) fun h6 l6 k6 b6 => ?_
  simp at b6
  try simp
  refine wq_ptrs b6 (by simp) ?_
  try simp
  exact wp_some ⟨(o1.trans (o2.mono (by omega))).trans (old_put l6 k6 (by omega) (by omega)), _, rfl, vd, vt, k, rfl, (ad.but l6 k6 (by omega) (by omega)).mono (by omega) (by omega), hk, by omega, by simp only; omega, at3.but l6 k6 (by omega) (by omega)⟩
theorem ring_Sub_1 (x y : Int) (b : Nat) : call prog b 182 [.int .i64 x, .int .i64 y] h = some (.int .i64 (w64 (x - y)), h) := by
  refine enter (fn := C.ring_Sub_1) rfl ?_
  dsimp only [bodyN, C.ring_Sub_1]; simp
theorem ring_Sub {s t : tensor.den} {cs ct : List AV} (hs : In h tensor s cs) (ht : In h tensor t ct) (ks : tenOk s = true) (kt : tenOk t = true) (e : s.1 = t.1) (b : Nat) (hb : b ≤ h.length) :
    WP (call prog b 154 [.agg cs, .agg ct] h) fun r => Old h.length h r.2 ∧ ∃ v, r.1 = .tup [v, .int .i64 0] ∧ TenAt h.length r.2 (s.1, List.zipWith (fun x y => w64 (x - y)) s.2 t.2) v := by
  obtain ⟨sd, st, rfl, hsd, hst⟩ := holds_tensor hs
  obtain ⟨td, tt, rfl, htd, htt⟩ := holds_tensor ht
  refine wp_enter (fn := C.ring_Sub) rfl ?_
  dsimp only [bodyN, C.ring_Sub]; simp
  generalize hh : h ++ [AObj.cells 0 1 [sd, st], AObj.cells 0 1 [td, tt], AObj.cells 0 1 [AV.nil, AV.nil]] = h1
  have o1 : Old h.length h h1 := hh ▸ Old.app
  have l1 : h1.length = h.length + 3 := by rw [← hh]; simp
  have b1 : Box h1 h.length [sd, st] := by rw [← hh]; simp [Box]
  have c1 : Box h1 (h.length + 1) [td, tt] := by rw [← hh]; simp [Box]
  have r1 : Box h1 (h.length + 2) [AV.nil, AV.nil] := by rw [← hh]; simp [Box]
  refine wq_ptrs b1 (by simp) ?_
  try simp
  refine wq_ptrs c1 (by simp) ?_
  try simp
  refine wp_call (ring_two (In.old o1 hs) (In.old o1 ht) ks kt e (g := 182) (cap := []) (fun x y => w64 (x - y)) (fun x y => wrap_range _) (fun h' b x y _ => ring_Sub_1 x y b) b (by omega)) fun v2 h2 ⟨o2, v3, e2, T2⟩ => ?_
  simp only at o2 e2 T2
  subst e2
  obtain ⟨vd, vt, k, rfl, ad, hk, hnk, hkl, at3⟩ := T2
  have l2 := o2.1
  have r2 := r1.old o2 r1.lt
  have r1lt := r1.lt
  try simp
  refine wq_put r2 (by omega) (vs := [vd, vt]) (fun _ => by rw [cellsK_agg]) (by rfl) (by simp) fun h6 l6 k6 b6 => ?_
  simp at b6
  try simp
  refine wq_ptrs b6 (by simp) ?_
  try simp
  exact wp_some ⟨(o1.trans (o2.mono (by omega))).trans (old_put l6 k6 (by omega) (by omega)), _, rfl, vd, vt, k, rfl, (ad.but l6 k6 (by omega) (by omega)).mono (by omega) (by omega), hk, by omega, by simp only; omega, at3.but l6 k6 (by omega) (by omega)⟩
theorem ring_Mul_1 (x y : Int) (b : Nat) : call prog b 183 [.int .i64 x, .int .i64 y] h = some (.int .i64 (w64 (x * y)), h) := by
  refine enter (fn := C.ring_Mul_1) rfl ?_
  dsimp only [bodyN, C.ring_Mul_1]; simp
theorem ring_Mul {s t : tensor.den} {cs ct : List AV} (hs : In h tensor s cs) (ht : In h tensor t ct) (ks : tenOk s = true) (kt : tenOk t = true) (e : s.1 = t.1) (b : Nat) (hb : b ≤ h.length) :
    WP (call prog b 155 [.agg cs, .agg ct] h) fun r => Old h.length h r.2 ∧ ∃ v, r.1 = .tup [v, .int .i64 0] ∧ TenAt h.length r.2 (s.1, List.zipWith (fun x y => w64 (x * y)) s.2 t.2) v := by
  obtain ⟨sd, st, rfl, hsd, hst⟩ := holds_tensor hs
  obtain ⟨td, tt, rfl, htd, htt⟩ := holds_tensor ht
  refine wp_enter (fn := C.ring_Mul) rfl ?_
  dsimp only [bodyN, C.ring_Mul]; simp
  generalize hh : h ++ [AObj.cells 0 1 [sd, st], AObj.cells 0 1 [td, tt], AObj.cells 0 1 [AV.nil, AV.nil]] = h1
  have o1 : Old h.length h h1 := hh ▸ Old.app
  have l1 : h1.length = h.length + 3 := by rw [← hh]; simp
  have b1 : Box h1 h.length [sd, st] := by rw [← hh]; simp [Box]
  have c1 : Box h1 (h.length + 1) [td, tt] := by rw [← hh]; simp [Box]
  have r1 : Box h1 (h.length + 2) [AV.nil, AV.nil] := by rw [← hh]; simp [Box]
  refine wq_ptrs b1 (by simp) ?_
  try simp
  refine wq_ptrs c1 (by simp) ?_
  try simp
  refine wp_call (ring_two (In.old o1 hs) (In.old o1 ht) ks kt e (g := 183) (cap := []) (fun x y => w64 (x * y)) (fun x y => wrap_range _) (fun h' b x y _ => ring_Mul_1 x y b) b (by omega)) fun v2 h2 ⟨o2, v3, e2, T2⟩ => ?_
  simp only at o2 e2 T2
  subst e2
  obtain ⟨vd, vt, k, rfl, ad, hk, hnk, hkl, at3⟩ := T2
  have l2 := o2.1
  have r2 := r1.old o2 r1.lt
  have r1lt := r1.lt
  try simp
  refine wq_put r2 (by omega) (vs := [vd, vt]) (fun _ => by rw [cellsK_agg]) (by rfl) (by simp) fun h6 l6 k6 b6 => ?_
  simp at b6
  try simp
  refine wq_ptrs b6 (by simp) ?_
  try simp
  exact wp_some ⟨(o1.trans (o2.mono (by omega))).trans (old_put l6 k6 (by omega) (by omega)), _, rfl, vd, vt, k, rfl, (ad.but l6 k6 (by omega) (by omega)).mono (by omega) (by omega), hk, by omega, by simp only; omega, at3.but l6 k6 (by omega) (by omega)⟩
theorem ring_Scale {s : tensor.den} {cs : List AV} (hs : In h tensor s cs) (ks : tenOk s = true) {n : Int} (b : Nat) (hb : b ≤ h.length) :
    WP (call prog b 160 [.agg cs, .int .i64 n] h) fun r => Old h.length h r.2 ∧ ∃ v, r.1 = .tup [v, .int .i64 0] ∧ TenAt h.length r.2 (s.1, scaleL s.2 n) v := by
  obtain ⟨sd, st, rfl, hsd, hst⟩ := holds_tensor hs
  refine wp_enter (fn := C.ring_Scale) rfl ?_
  dsimp only [bodyN, C.ring_Scale]; simp
  generalize hh : h ++ [AObj.cells 0 1 [sd, st], AObj.cells 0 1 [AV.int IntKind.i64 n], AObj.cells 0 1 [AV.nil, AV.nil]] = h1
  have o1 : Old h.length h h1 := hh ▸ Old.app
  have l1 : h1.length = h.length + 3 := by rw [← hh]; simp
  have b1 : Box h1 h.length [sd, st] := by rw [← hh]; simp [Box]
  have c1 : Box h1 (h.length + 1) [AV.int IntKind.i64 n] := by rw [← hh]; simp [Box]
  have r1 : Box h1 (h.length + 2) [AV.nil, AV.nil] := by rw [← hh]; simp [Box]
  refine wq_ptrs b1 (by simp) ?_
  try simp
  refine wq_ptrs b1 (by simp) ?_
  try simp
  refine wp_call (ring_two (In.old o1 hs) (In.old o1 hs) ks ks rfl (g := 186) (cap := [.ptr (h.length + 1) 0 0]) (fun x _ => w64 (x * n)) (fun x y => wrap_range _) (fun h' b x y o => by
    have c' := c1.old o c1.lt
    refine wp_iff.1 (wp_enter (fn := C.ring_Scale_1) rfl ?_)
    dsimp only [bodyN, C.ring_Scale_1]; simp
    refine wq_ptr c' rfl ?_
    try simp
    exact wp_some rfl) b (by omega)) fun v2 h2 ⟨o2, v3, e2, T2⟩ => ?_
  simp only at o2 e2 T2
  subst e2
  have ez : List.zipWith (fun x (_ : Int) => w64 (x * n)) s.2 s.2 = scaleL s.2 n := by
    unfold scaleL
    generalize s.2 = l
    induction l with
    | nil => rfl
    | cons a l ih => simp only [List.zipWith_cons_cons, List.map_cons, ih]
  rw [ez] at T2
  obtain ⟨vd, vt, k, rfl, ad, hk, hnk, hkl, at3⟩ := T2
  have l2 := o2.1
  have r2 := r1.old o2 r1.lt
  have r1lt := r1.lt
  try simp
  refine wq_put r2 (by omega) (vs := [vd, vt]) (fun _ => by rw [cellsK_agg]) (by rfl) (by simp) fun h6 l6 k6 b6 => ?_
  simp at b6
  try simp
  refine wq_ptrs b6 (by simp) ?_
  try simp
  exact wp_some ⟨(o1.trans (o2.mono (by omega))).trans (old_put l6 k6 (by omega) (by omega)), _, rfl, vd, vt, k, rfl, (ad.but l6 k6 (by omega) (by omega)).mono (by omega) (by omega), hk, by omega, by simp only; omega, at3.but l6 k6 (by omega) (by omega)⟩
theorem ring_Neg {s : tensor.den} {cs : List AV} (hs : In h tensor s cs) (ks : tenOk s = true) (b : Nat) (hb : b ≤ h.length) :
    WP (call prog b 159 [.agg cs] h) fun r => Old h.length h r.2 ∧ ∃ v, r.1 = .tup [v, .int .i64 0] ∧ TenAt h.length r.2 (s.1, scaleL s.2 (-1)) v := by
  obtain ⟨sd, st, rfl, hsd, hst⟩ := holds_tensor hs
  refine wp_enter (fn := C.ring_Neg) rfl ?_
  dsimp only [bodyN, C.ring_Neg]; simp
  generalize hh : h ++ [AObj.cells 0 1 [sd, st], AObj.cells 0 1 [AV.nil, AV.nil]] = h1
  have o1 : Old h.length h h1 := hh ▸ Old.app
  have l1 : h1.length = h.length + 2 := by rw [← hh]; simp
  have b1 : Box h1 h.length [sd, st] := by rw [← hh]; simp [Box]
  have r1 : Box h1 (h.length + 1) [AV.nil, AV.nil] := by rw [← hh]; simp [Box]
  refine wq_ptrs b1 (by simp) ?_
  try simp
  refine wp_call (ring_Scale (In.old o1 hs) ks b (by omega)) fun v2 h2 ⟨o2, v3, e2, T2⟩ => ?_
  simp only at o2 e2 T2
  subst e2
  obtain ⟨vd, vt, k, rfl, ad, hk, hnk, hkl, at3⟩ := T2
  have l2 := o2.1
  have r2 := r1.old o2 r1.lt
  have r1lt := r1.lt
  try simp
  refine wq_put r2 (by omega) (vs := [vd, vt]) (fun _ => by rw [cellsK_agg]) (by rfl) (by simp) fun h6 l6 k6 b6 => ?_
  simp at b6
  try simp
  refine wq_ptrs b6 (by simp) ?_
  try simp
  exact wp_some ⟨(o1.trans (o2.mono (by omega))).trans (old_put l6 k6 (by omega) (by omega)), _, rfl, vd, vt, k, rfl, (ad.but l6 k6 (by omega) (by omega)).mono (by omega) (by omega), hk, by omega, by simp only; omega, at3.but l6 k6 (by omega) (by omega)⟩
end
end Go.AM

/- A tensor in a box, while it is written. -/
namespace Go.AM
set_option maxRecDepth 20000
set_option maxHeartbeats 1000000
attribute [local simp] layAt
attribute [local irreducible] lenK sliceK idxK fldK cutK storeK appK copyK clearK mapAtK callK loopH readK readK1 guardK grdK fnK nilK fieldK extrK strK nextK joinK iteK intK boolK cellsK castK castL castEnv binK unK intBin layParts execN runOpsN runItemsN denN call loop blockK
/-- A tensor of one's own in a box, with its data so far. -/
structure TB (n0 k lt : Nat) (d D : List Int) (vd vt : AV) (h : Heap) : Prop where
  box : Box h lt [vd, vt]
  dims : AccP n0 n0 h int vd d
  low : ∀ j, vd.blk = some j → j < k
  le : n0 ≤ k
  data : AccP k k h int vt D
  hi : ∀ j, vt.blk = some j → j < lt
  kl : k ≤ lt
section
variable {R : Type} {Q : R → Prop} {h : Heap}
theorem TB.lt {n0 k lt : Nat} {d D : List Int} {vd vt : AV} (H : TB n0 k lt d D vd vt h) : lt < h.length := H.box.lt
theorem TB.old {h' : Heap} {n0 k lt : Nat} {d D : List Int} {vd vt : AV} (H : TB n0 k lt d D vd vt h) (o : Old h.length h h') : TB n0 k lt d D vd vt h' :=
  ⟨H.box.old o H.box.lt, H.dims.keep o, H.low, H.le, H.data.keep o, H.hi, H.kl⟩
theorem TB.in {n0 k lt : Nat} {d D : List Int} {vd vt : AV} (H : TB n0 k lt d D vd vt h) : In h ints D [vt] := H.data.in (Nat.le_refl _)
/-- Laid into a new box. -/
theorem wp_initT {b n0 : Nat} {t : tensor.den} {v : AV} (H : TenAt n0 h t v) (hb : b ≤ h.length) {K : Heap → Option R}
    (k : ∀ vd vt k' h', v = .agg [vd, vt] → Old h.length h h' → h.length < h'.length → TB n0 k' h.length t.1 t.2 vd vt h' → WP (K h') Q) : WP (storeK b 2 (h ++ [.cells 0 1 [.nil, .nil]]) (.ptr h.length 0 0) v K) Q := by
  obtain ⟨vd, vt, k', rfl, a1, a2, a3, a4, a5⟩ := H
  refine wq_init hb (by rfl) (by rfl) fun h' o b' lt' => k vd vt k' h' rfl o lt' ⟨b', a1.keep o, a2, a3, a5.keep o, fun j hj => ?_, a4⟩
  obtain ⟨_, ac, _⟩ := a5
  exact (ac.lt hj).2
/-- A number of its data is written. -/
theorem wp_putT {base n0 k lt : Nat} {d D : List Int} {vd vt : AV} (H : TB n0 k lt d D vd vt h) {x : Int} (hx : -9223372036854775808 ≤ x ∧ x ≤ 9223372036854775807) (hb : base ≤ k) (hk : k ≤ h.length) {i : Nat} (hi : i < D.length) {K : Heap → Option R}
    (kk : ∀ h', Old k h h' → h'.length = h.length → (∀ j, lt ≤ j → j < h.length → h'[j]? = h[j]?) → TB n0 k lt d (D.set i x) vd vt h' → WP (K h') Q) : WP (storeK base 1 h (addrOf vt 1 i 0) (.int .i64 x) K) Q := by
  refine wp_putI H.data hx hb hk hi fun h' but l o a => kk h' o l (fun j hj hl => but.2 j hl fun e => by have := H.hi j e; omega) ⟨(but.2 _ H.lt fun e => by have := H.hi _ e; omega).trans H.box, H.dims.flatO o H.low, H.low, H.le, a, H.hi, H.kl⟩
/-- Handed on, by a cell of results that was there ahead. -/
theorem TB.told {h' : Heap} {n0 k lt r : Nat} {d D : List Int} {vd vt : AV} (H : TB n0 k lt d D vd vt h) (hl : h'.length = h.length) (hk : ∀ j, j ≠ r → h'[j]? = h[j]?) (hr : r < n0) : TenAt n0 h' (d, D) (.agg [vd, vt]) := by
  have := H.le
  have := H.lt
  have := H.kl
  exact ⟨vd, vt, k, rfl, H.dims.but hl hk (by omega) (by omega), H.low, H.le, by omega, H.data.but hl hk (by omega) (by omega)⟩
theorem shape_Fill {vd : AV} {d : List Int} (hd : In h ints d [vd]) (hok : dimsOk d = true) {n : Int} (hn : -9223372036854775808 ≤ n ∧ n ≤ 9223372036854775807) (b : Nat) (hb : b ≤ h.length) :
    WP (call prog b 136 [vd, .int .i64 n] h) fun r => Old h.length h r.2 ∧ ∃ v, r.1 = .tup [v, .int .i64 0] ∧ TenAt h.length r.2 (d, List.replicate (prodI d).toNat n) v := by
  obtain ⟨p1, p2, p3⟩ := dimsOk_prod hok
  refine wp_enter (fn := C.shape_Fill) rfl ?_
  dsimp only [bodyN, C.shape_Fill, C.shape_Fill_l0]; simp
  generalize hh : h ++ [AObj.cells 0 1 [AV.nil, AV.nil]] = h1
  have o1 : Old h.length h h1 := hh ▸ Old.app
  have l1 : h1.length = h.length + 1 := by rw [← hh]; simp
  have r1 : Box h1 h.length [AV.nil, AV.nil] := by rw [← hh]; simp [Box]
  rw [callK_eq (shape_May (In.old o1 hd) _), hok]
  try simp
  refine wp_call (shape_New (In.old o1 hd) hok b (by omega)) fun v2 h2 ⟨o2, T2⟩ => ?_
  simp only at o2 T2
  have l2 := o2.1
  try simp
  refine wp_initT T2 (by omega) fun vD vT k h3 e3 o3 lt3 B3 => ?_
  subst e3
  have l3 := o3.1
  have kl := B3.kl
  have kle := B3.le
  have r3 := (r1.old o2 r1.lt).old o3 (by have := r1.lt; omega)
  try simp
  refine wq_ptr B3.box rfl ?_
  try simp
  refine wq_len B3.in ?_
  try simp
  refine wp_loop (I := fun m e h' => Old k h3 h' ∧ h'.length = h3.length ∧ ∃ (i : Nat) (D : List Int), e = (ea 1 (.int .i64 n) <| ea 4 (.ptr h.length 0 0) <| ea 6 (.ptr h2.length 0 0) <| ea 16 (.int .i64 ((prodI d).toNat : Nat)) <| ea 17 (.int .i64 (i : Nat)) e0) ∧ i + m = (prodI d).toNat ∧ TB h1.length k h2.length d D vD vT h' ∧ D.length = (prodI d).toNat ∧ ∀ q, q < (prodI d).toNat → D[q]? = some (if q < i then n else 0)) ?_ ⟨Old.refl (by omega), rfl, 0, _, by simp, Nat.zero_add _, B3, by simp, fun q hq => by simp [List.getElem?_replicate, hq]⟩
  rintro N m e h4 ⟨o4, l4, i, D, rfl, him, B4, hD, hDq⟩ next
  have r4 := r3.old o4 (by have := r1.lt; omega)
  dsimp only [C.shape_Fill_b0]; simp
  refine wp_dec (fun hi => ?_) fun hi => ?_
  · have hi : i < (prodI d).toNat := by omega
    have w1 := succ64 (i := i) (n := 64) (by omega) (by omega)
    try simp
    refine wq_ptr B4.box rfl ?_
    try simp
    refine wq_idx B4.in (by rfl) (by omega) (by omega) ?_
    try simp
    refine wp_putT B4 hn (by omega) (by omega) (by omega) fun h5 o5 l5 _ B5 => ?_
    simp [w1]
    refine next (m - 1) _ _ (by omega) ⟨o4.trans o5, by omega, i + 1, _, by simp, by omega, B5, by simp [hD], fun q hq => ?_⟩
    rw [List.getElem?_set]
    by_cases c : i = q
    · subst c
      rw [if_pos rfl, if_pos (by omega), if_pos (by omega)]
    · rw [if_neg c, hDq q hq]
      by_cases c2 : q < i
      · rw [if_pos c2, if_pos (by omega)]
      · rw [if_neg c2, if_neg (by omega)]
  · have ei : i = (prodI d).toNat := by omega
    try simp
    refine wq_ptrs B4.box (by simp) ?_
    try simp
    refine wq_put r4 (by omega) (vs := [vD, vT]) (fun _ => by rw [cellsK_agg]) (by rfl) (by simp) fun h6 l6 k6 b6 => ?_
    simp at b6
    try simp
    refine wq_ptrs b6 (by simp) ?_
    try simp
    have eD : D = List.replicate (prodI d).toNat n := by
      apply List.ext_getElem?
      intro q
      rcases Nat.lt_or_ge q (prodI d).toNat with hq | hq
      · rw [hDq q hq, if_pos (by omega), List.getElem?_replicate, if_pos hq]
      · rw [List.getElem?_eq_none (by omega), List.getElem?_eq_none (by simp; omega)]
    rw [eD] at B4
    exact wp_some ⟨(o1.trans ((o2.trans ((o3.mono (by omega)).trans (o4.mono (by omega)))).mono (by omega))).trans (old_put l6 k6 (by omega) (by omega)), _, rfl, (B4.told l6 k6 (by omega)).mono (by omega)⟩
end
end Go.AM

/- The page's tensors: copies, fills, number by number. -/
namespace Go.AM
set_option maxRecDepth 20000
set_option maxHeartbeats 1000000
attribute [local simp] layAt
attribute [local irreducible] lenK sliceK idxK fldK cutK storeK appK copyK clearK mapAtK callK loopH readK readK1 guardK grdK fnK nilK fieldK extrK strK nextK joinK iteK intK boolK cellsK castK castL castEnv binK unK intBin layParts execN runOpsN runItemsN denN call loop blockK
section
variable {R : Type} {Q : R → Prop} {h : Heap}
theorem ref0_CopyTensor {t : tensor.den} {cs : List AV} (ht : In h tensor t cs) (hd : t.1.length ≤ 1000000) (hl : t.2.length ≤ 1000000) (b : Nat) (hb : b ≤ h.length) : WP (call prog b 235 [.agg cs] h) fun r => Old h.length h r.2 ∧ TenAt h.length r.2 t r.1 := by
  obtain ⟨vd, vt, rfl, hvd, hvt⟩ := holds_tensor ht
  refine wp_enter (fn := C.ref0_CopyTensor) rfl ?_
  dsimp only [bodyN, C.ref0_CopyTensor]; simp
  generalize hh : h ++ [AObj.cells 0 1 [vd, vt], AObj.cells 0 1 [AV.nil, AV.nil]] = h1
  have o1 : Old h.length h h1 := hh ▸ Old.app
  have l1 : h1.length = h.length + 2 := by rw [← hh]; simp
  have b1 : Box h1 h.length [vd, vt] := by rw [← hh]; simp [Box]
  have r1 : Box h1 (h.length + 1) [AV.nil, AV.nil] := by rw [← hh]; simp [Box]
  refine wq_ptrs b1 (by simp) ?_
  try simp
  refine wq_init (by omega) (by rfl) (by rfl) fun h2 o12 c2 lt2 => ?_
  have l2 := o12.1
  have b2 := b1.old o12 b1.lt
  have r2 := r1.old o12 r1.lt
  have o2 := o1.trans (o12.mono (by omega))
  try simp
  refine wq_ptr b2 rfl ?_
  try simp
  refine wp_call (ref0_CopyNumbers (In.old o2 hvd) (by omega) b (by omega)) fun v3 h3 ⟨o23, a3⟩ => ?_
  simp only at o23 a3
  have l3 := o23.1
  have c3 := c2.old o23 lt2
  have b3 := b2.old o23 b2.lt
  have r3 := r2.old o23 r2.lt
  have lb2 := b2.lt
  have lr2 := r2.lt
  have o3 := o2.trans (o23.mono (by omega))
  try simp
  refine wq_put c3 (by omega) (vs := [v3]) (fun K => cells_one a3.one K) rfl (by simp) fun h4 l4 k4 c4 => ?_
  simp at c4
  have b4 : Box h4 h.length _ := (k4 _ (by omega)).trans b3
  have r4 : Box h4 (h.length + 1) _ := (k4 _ (by omega)).trans r3
  have o4 := o3.trans (old_put l4 k4 (by omega) (by omega))
  have a4 := a3.but l4 k4 (by omega) (by omega)
  try simp
  refine wq_ptr b4 rfl ?_
  try simp
  refine wp_call (ref0_CopyNumbers (In.old o4 hvt) (by omega) b (by omega)) fun v5 h5 ⟨o45, a5⟩ => ?_
  simp only at o45 a5
  have l5 := o45.1
  have c5 := c4.old o45 c4.lt
  have r5 := r4.old o45 r4.lt
  have a45 := a4.keep o45
  try simp
  refine wq_put c5 (by omega) (vs := [v5]) (fun K => cells_one a5.one K) rfl (by simp) fun h6 l6 k6 c6 => ?_
  simp at c6
  have r6 : Box h6 (h.length + 1) _ := (k6 _ (by omega)).trans r5
  have a46 := a45.but l6 k6 (by omega) (by omega)
  have a56 := a5.but l6 k6 (by omega) (by omega)
  try simp
  refine wq_ptrs c6 (by simp) ?_
  try simp
  refine wq_put r6 (by omega) (vs := [v3, v5]) (fun _ => by rw [cellsK_agg]) (by rfl) (by simp) fun h7 l7 k7 c7 => ?_
  simp at c7
  try simp
  refine wq_ptrs c7 (by simp) ?_
  try simp
  refine wp_some ⟨(o4.trans (o45.mono (by omega))).trans ((old_put l6 k6 (by omega) (by omega)).trans (old_put l7 k7 (by omega) (by omega))), v3, v5, h4.length, rfl, (a46.but l7 k7 (by omega) (by omega)).mono (by omega) (by omega), fun j hj => ?_, by omega, by simp only; omega, a56.but l7 k7 (by omega) (by omega)⟩
  obtain ⟨_, ac, _⟩ := a3
  have := (ac.lt hj).2
  omega
theorem ref1_Fill {vd : AV} {d : List Int} (hd : In h ints d [vd]) (hok : dimsOk d = true) {n : Int} (hn : -9223372036854775808 ≤ n ∧ n ≤ 9223372036854775807) (b : Nat) (hb : b ≤ h.length) :
    WP (call prog b 240 [vd, .int .i64 n] h) fun r => Old h.length h r.2 ∧ TenAt h.length r.2 (d, List.replicate (prodI d).toNat n) r.1 := by
  obtain ⟨p1, p2, p3⟩ := dimsOk_prod hok
  have dl := dimsOk_len hok
  refine wp_enter (fn := C.ref1_Fill) rfl ?_
  dsimp only [bodyN, C.ref1_Fill, C.ref1_Fill_l0]; simp
  generalize hh : h ++ [AObj.cells 0 1 [AV.nil, AV.nil]] = h1
  have o1 : Old h.length h h1 := hh ▸ Old.app
  have l1 : h1.length = h.length + 1 := by rw [← hh]; simp
  have r1 : Box h1 h.length [AV.nil, AV.nil] := by rw [← hh]; simp [Box]
  refine wp_call (ref0_CopyNumbers (In.old o1 hd) (by omega) b (by omega)) fun v2 h2 ⟨o2, a2⟩ => ?_
  simp only at o2 a2
  have l2 := o2.1
  have r2 := r1.old o2 r1.lt
  have lr2 := r2.lt
  try simp
  refine wp_cells a2.one ?_
  try simp
  refine wq_init (by omega) (by rfl) (by rfl) fun h3 o3 b3 lt3 => ?_
  have l3 := o3.1
  have r3 := r2.old o3 r2.lt
  have a3 := a2.keep o3
  have v2b : ∀ j, v2.blk = some j → j < h2.length := fun j hj => by
    obtain ⟨_, ac, _⟩ := a2
    exact (ac.lt hj).2
  have o13 := o1.trans ((o2.trans (o3.mono l2)).mono (by omega))
  have hd3 := Holds.old o13 (Nat.le_refl _) hd
  try simp
  refine wp_loop (I := fun m e h' => Old h2.length h3 h' ∧ h2.length + 1 ≤ h'.length ∧ ∃ (i : Nat) (va : AV), e = (ea 0 vd <| ea 1 (.int .i64 n) <| ea 4 (.ptr h.length 0 0) <| ea 5 (.ptr h2.length 0 0) <| ea 6 (.int .i64 (i : Nat)) e0) ∧ i + m = (prodI d).toNat ∧ Box h' h2.length [v2, va] ∧ AccP (h2.length + 1) (h2.length + 1) h' int va (List.replicate i n)) ?_ ⟨Old.refl (by omega), by omega, 0, .nil, rfl, Nat.zero_add _, by simpa using b3, AccP.nil⟩
  rintro N m e h4 ⟨o4, l4, i, va, rfl, him, b4, acc⟩ next
  have r4 := r3.old o4 (by omega)
  have hd4 := Holds.old o4 (by omega) hd3
  dsimp only [C.ref1_Fill_b0]; simp
  rw [callK_eq (ref1_Cells hd4 _), p1]
  try simp
  refine wp_dec (fun hi => ?_) fun hi => ?_
  · have w1 := succ64 (i := i) (n := 64) (by omega) (by omega)
    try simp
    refine wq_ptr b4 rfl ?_
    try simp
    refine wp_pushI acc hn (by omega) l4 (by simp; omega) fun v5 h5 o5 a5 => ?_
    have l5 := o5.1
    have b5 := b4.old o5 (by omega)
    try simp
    refine wq_put b5 (by omega) (vs := [v5]) (fun K => cells_one a5.one K) rfl (by simp) fun h6 l6 k6 b6 => ?_
    simp at b6
    simp [w1]
    exact next (m - 1) _ _ (by omega) ⟨o4.trans ((o5.mono (by omega)).trans (old_put l6 k6 (by omega) (by omega))), by omega, i + 1, v5, by simp, by omega, b6, by rw [List.replicate_succ']; exact a5.but l6 k6 (by omega) (by omega)⟩
  · have ei : i = (prodI d).toNat := by omega
    subst ei
    try simp
    refine wq_ptrs b4 (by simp) ?_
    try simp
    refine wq_put r4 (by omega) (vs := [v2, va]) (fun _ => by rw [cellsK_agg]) (by rfl) (by simp) fun h6 l6 k6 b6 => ?_
    simp at b6
    try simp
    refine wq_ptrs b6 (by simp) ?_
    try simp
    have a4 := a3.flatO o4 v2b
    refine wp_some ⟨(o13.trans (o4.mono (by omega))).trans (old_put l6 k6 (by omega) (by omega)), v2, va, h2.length + 1, rfl, (a4.but l6 k6 (by omega) (by omega)).mono (by omega) (by omega), fun j hj => Nat.lt_succ_of_lt (v2b j hj), by omega, by simp only; omega, acc.but l6 k6 (by omega) (by omega)⟩
end
end Go.AM

/- The page's tensors: number by number; what goes through. -/
namespace Go.AM
set_option maxRecDepth 20000
set_option maxHeartbeats 1000000
attribute [local simp] layAt
attribute [local irreducible] lenK sliceK idxK fldK cutK storeK appK copyK clearK mapAtK callK loopH readK readK1 guardK grdK fnK nilK fieldK extrK strK nextK joinK iteK intK boolK cellsK castK castL castEnv binK unK intBin layParts execN runOpsN runItemsN denN call loop blockK
/-- What goes through where the first one's are above 0. -/
def stepV (x y : Int) : Int := if 0 < x then y else 0
def stepL (a b : List Int) : List Int := List.zipWith stepV a b
section
variable {R : Type} {Q : R → Prop} {h : Heap}
theorem ref1_Each0 {s t : tensor.den} {cs ct : List AV} (hs : In h tensor s cs) (ht : In h tensor t ct) (ks : tenOk s = true) (hl : t.2.length = s.2.length) (b : Nat) (hb : b ≤ h.length) :
    WP (call prog b 246 [.agg cs, .agg ct, .int .i64 0] h) fun r => Old h.length h r.2 ∧ TenAt h.length r.2 (s.1, List.zipWith (fun x y => w64 (x + y)) s.2 t.2) r.1 := by
  obtain ⟨sd, st, rfl, hsd, hst⟩ := holds_tensor hs
  obtain ⟨td, tt, rfl, htd, htt⟩ := holds_tensor ht
  obtain ⟨s1, s2, s3, s4, s5⟩ := ten_parts ks
  refine wp_enter (fn := C.ref1_Each) rfl ?_
  dsimp only [bodyN, C.ref1_Each, C.ref1_Each_l0]; simp
  generalize hh : h ++ [AObj.cells 0 1 [sd, st], AObj.cells 0 1 [td, tt], AObj.cells 0 1 [AV.nil, AV.nil]] = h1
  have o1 : Old h.length h h1 := hh ▸ Old.app
  have l1 : h1.length = h.length + 3 := by rw [← hh]; simp
  have b1 : Box h1 h.length [sd, st] := by rw [← hh]; simp [Box]
  have c1 : Box h1 (h.length + 1) [td, tt] := by rw [← hh]; simp [Box]
  have r1 : Box h1 (h.length + 2) [AV.nil, AV.nil] := by rw [← hh]; simp [Box]
  refine wq_ptrs b1 (by simp) ?_
  try simp
  refine wp_call (ref0_CopyTensor (In.old o1 hs) (by omega) (by omega) b (by omega)) fun v2 h2 ⟨o12, T2⟩ => ?_
  simp only at o12 T2
  have l2 := o12.1
  try simp
  refine wp_initT T2 (by omega) fun vD vT k h3 e3 o23 lt3 B3 => ?_
  subst e3
  have l3 := o23.1
  have kl := B3.kl
  have kle := B3.le
  have o13 := o12.trans (o23.mono l2)
  have b3 := b1.old o13 b1.lt
  have c3 := c1.old o13 c1.lt
  have r3 := r1.old o13 r1.lt
  have o3 := o1.trans (o13.mono (by omega))
  have lr1 := r1.lt
  try simp
  refine wp_loop (I := fun m e h' => Old k h3 h' ∧ h'.length = h3.length ∧ ∃ (i : Nat) (D : List Int), e = (ea 2 (.int .i64 0) <| ea 3 (.ptr h.length 0 0) <| ea 4 (.ptr (h.length + 1) 0 0) <| ea 6 (.ptr (h.length + 2) 0 0) <| ea 7 (.ptr h2.length 0 0) <| ea 8 (.int .i64 (i : Nat)) e0) ∧ i + m = s.2.length ∧ TB h1.length k h2.length s.1 D vD vT h' ∧ D.length = s.2.length ∧ ∀ q, q < s.2.length → D[q]? = some (if q < i then w64 (s.2.getD q 0 + t.2.getD q 0) else s.2.getD q 0)) ?_ ⟨Old.refl (by omega), rfl, 0, _, rfl, Nat.zero_add _, B3, rfl, fun q hq => by rw [if_neg (by omega), List.getElem?_eq_getElem hq, List.getD_eq_getElem?_getD, List.getElem?_eq_getElem hq]; rfl⟩
  rintro N m e h4 ⟨o4, l4, i, D, rfl, him, B4, hD, hDq⟩ next
  have b4 := b3.old o4 (by have := b1.lt; omega)
  have c4 := c3.old o4 (by have := c1.lt; omega)
  have r4 := r3.old o4 (by omega)
  have o5 := o3.trans (o4.mono (by omega))
  have hst4 := In.old o5 hst
  have htt4 := In.old o5 htt
  dsimp only [C.ref1_Each_b0]; simp
  refine wq_ptr B4.box rfl ?_
  try simp
  refine wq_len B4.in ?_
  simp [hD]
  refine wp_dec (fun hi => ?_) fun hi => ?_
  · have w1 := succ64 (i := i) (n := 64) (by omega) (by omega)
    have hit : i < t.2.length := by omega
    try simp
    refine wq_ptr B4.box rfl ?_
    try simp
    refine wq_ptr b4 rfl ?_
    try simp
    refine wq_idx hst4 (by rfl) (by omega) (by omega) ?_
    try simp
    refine wq_int hst4 hi ?_
    try simp
    refine wq_ptr c4 rfl ?_
    try simp
    refine wq_idx htt4 (by rfl) (by omega) (by omega) ?_
    try simp
    refine wq_int htt4 hit ?_
    try simp
    refine wq_idx B4.in (by rfl) (by omega) (by omega) ?_
    try simp
    refine wp_putT B4 (wrap_range _) (by omega) (by omega) (by omega) fun h5 o45 l5 _ B5 => ?_
    simp [w1]
    refine next (m - 1) _ _ (by omega) ⟨o4.trans o45, by omega, i + 1, _, by simp, by omega, B5, by simp [hD], fun q hq => ?_⟩
    rw [List.getElem?_set]
    by_cases c : i = q
    · subst c
      rw [if_pos rfl, if_pos (by omega), if_pos (by omega), List.getD_eq_getElem?_getD, List.getD_eq_getElem?_getD, List.getElem?_eq_getElem hi, List.getElem?_eq_getElem hit]
      rfl
    · rw [if_neg c, hDq q hq]
      by_cases c2 : q < i
      · rw [if_pos c2, if_pos (by omega)]
      · rw [if_neg c2, if_neg (by omega)]
  · have ei : i = s.2.length := by omega
    try simp
    refine wq_ptrs B4.box (by simp) ?_
    try simp
    refine wq_put r4 (by omega) (vs := [vD, vT]) (fun _ => by rw [cellsK_agg]) (by rfl) (by simp) fun h6 l6 k6 b6 => ?_
    simp at b6
    try simp
    refine wq_ptrs b6 (by simp) ?_
    try simp
    have eD : D = List.zipWith (fun x y => w64 (x + y)) s.2 t.2 := by
      apply List.ext_getElem?
      intro q
      rcases Nat.lt_or_ge q s.2.length with hq | hq
      · rw [hDq q hq, if_pos (by omega), List.getElem?_zipWith, List.getElem?_eq_getElem hq, List.getElem?_eq_getElem (by omega), List.getD_eq_getElem?_getD, List.getD_eq_getElem?_getD, List.getElem?_eq_getElem hq, List.getElem?_eq_getElem (by omega)]
        rfl
      · rw [List.getElem?_eq_none (by omega), List.getElem?_eq_none (by simp; omega)]
    rw [eD] at B4
    exact wp_some ⟨o5.trans (old_put l6 k6 (by omega) (by omega)), (B4.told l6 k6 (by omega)).mono (by omega)⟩
theorem ref1_Each1 {s t : tensor.den} {cs ct : List AV} (hs : In h tensor s cs) (ht : In h tensor t ct) (ks : tenOk s = true) (hl : t.2.length = s.2.length) (b : Nat) (hb : b ≤ h.length) :
    WP (call prog b 246 [.agg cs, .agg ct, .int .i64 1] h) fun r => Old h.length h r.2 ∧ TenAt h.length r.2 (s.1, List.zipWith (fun x y => w64 (x - y)) s.2 t.2) r.1 := by
  obtain ⟨sd, st, rfl, hsd, hst⟩ := holds_tensor hs
  obtain ⟨td, tt, rfl, htd, htt⟩ := holds_tensor ht
  obtain ⟨s1, s2, s3, s4, s5⟩ := ten_parts ks
  refine wp_enter (fn := C.ref1_Each) rfl ?_
  dsimp only [bodyN, C.ref1_Each, C.ref1_Each_l0]; simp
  generalize hh : h ++ [AObj.cells 0 1 [sd, st], AObj.cells 0 1 [td, tt], AObj.cells 0 1 [AV.nil, AV.nil]] = h1
  have o1 : Old h.length h h1 := hh ▸ Old.app
  have l1 : h1.length = h.length + 3 := by rw [← hh]; simp
  have b1 : Box h1 h.length [sd, st] := by rw [← hh]; simp [Box]
  have c1 : Box h1 (h.length + 1) [td, tt] := by rw [← hh]; simp [Box]
  have r1 : Box h1 (h.length + 2) [AV.nil, AV.nil] := by rw [← hh]; simp [Box]
  refine wq_ptrs b1 (by simp) ?_
  try simp
  refine wp_call (ref0_CopyTensor (In.old o1 hs) (by omega) (by omega) b (by omega)) fun v2 h2 ⟨o12, T2⟩ => ?_
  simp only at o12 T2
  have l2 := o12.1
  try simp
  refine wp_initT T2 (by omega) fun vD vT k h3 e3 o23 lt3 B3 => ?_
  subst e3
  have l3 := o23.1
  have kl := B3.kl
  have kle := B3.le
  have o13 := o12.trans (o23.mono l2)
  have b3 := b1.old o13 b1.lt
  have c3 := c1.old o13 c1.lt
  have r3 := r1.old o13 r1.lt
  have o3 := o1.trans (o13.mono (by omega))
  have lr1 := r1.lt
  try simp
  refine wp_loop (I := fun m e h' => Old k h3 h' ∧ h'.length = h3.length ∧ ∃ (i : Nat) (D : List Int), e = (ea 2 (.int .i64 1) <| ea 3 (.ptr h.length 0 0) <| ea 4 (.ptr (h.length + 1) 0 0) <| ea 6 (.ptr (h.length + 2) 0 0) <| ea 7 (.ptr h2.length 0 0) <| ea 8 (.int .i64 (i : Nat)) e0) ∧ i + m = s.2.length ∧ TB h1.length k h2.length s.1 D vD vT h' ∧ D.length = s.2.length ∧ ∀ q, q < s.2.length → D[q]? = some (if q < i then w64 (s.2.getD q 0 - t.2.getD q 0) else s.2.getD q 0)) ?_ ⟨Old.refl (by omega), rfl, 0, _, rfl, Nat.zero_add _, B3, rfl, fun q hq => by rw [if_neg (by omega), List.getElem?_eq_getElem hq, List.getD_eq_getElem?_getD, List.getElem?_eq_getElem hq]; rfl⟩
  rintro N m e h4 ⟨o4, l4, i, D, rfl, him, B4, hD, hDq⟩ next
  have b4 := b3.old o4 (by have := b1.lt; omega)
  have c4 := c3.old o4 (by have := c1.lt; omega)
  have r4 := r3.old o4 (by omega)
  have o5 := o3.trans (o4.mono (by omega))
  have hst4 := In.old o5 hst
  have htt4 := In.old o5 htt
  dsimp only [C.ref1_Each_b0]; simp
  refine wq_ptr B4.box rfl ?_
  try simp
  refine wq_len B4.in ?_
  simp [hD]
  refine wp_dec (fun hi => ?_) fun hi => ?_
  · have w1 := succ64 (i := i) (n := 64) (by omega) (by omega)
    have hit : i < t.2.length := by omega
    try simp
    refine wq_ptr B4.box rfl ?_
    try simp
    refine wq_ptr b4 rfl ?_
    try simp
    refine wq_idx hst4 (by rfl) (by omega) (by omega) ?_
    try simp
    refine wq_int hst4 hi ?_
    try simp
    refine wq_ptr c4 rfl ?_
    try simp
    refine wq_idx htt4 (by rfl) (by omega) (by omega) ?_
    try simp
    refine wq_int htt4 hit ?_
    try simp
    refine wq_idx B4.in (by rfl) (by omega) (by omega) ?_
    try simp
    refine wp_putT B4 (wrap_range _) (by omega) (by omega) (by omega) fun h5 o45 l5 _ B5 => ?_
    simp [w1]
    refine next (m - 1) _ _ (by omega) ⟨o4.trans o45, by omega, i + 1, _, by simp, by omega, B5, by simp [hD], fun q hq => ?_⟩
    rw [List.getElem?_set]
    by_cases c : i = q
    · subst c
      rw [if_pos rfl, if_pos (by omega), if_pos (by omega), List.getD_eq_getElem?_getD, List.getD_eq_getElem?_getD, List.getElem?_eq_getElem hi, List.getElem?_eq_getElem hit]
      rfl
    · rw [if_neg c, hDq q hq]
      by_cases c2 : q < i
      · rw [if_pos c2, if_pos (by omega)]
      · rw [if_neg c2, if_neg (by omega)]
  · have ei : i = s.2.length := by omega
    try simp
    refine wq_ptrs B4.box (by simp) ?_
    try simp
    refine wq_put r4 (by omega) (vs := [vD, vT]) (fun _ => by rw [cellsK_agg]) (by rfl) (by simp) fun h6 l6 k6 b6 => ?_
    simp at b6
    try simp
    refine wq_ptrs b6 (by simp) ?_
    try simp
    have eD : D = List.zipWith (fun x y => w64 (x - y)) s.2 t.2 := by
      apply List.ext_getElem?
      intro q
      rcases Nat.lt_or_ge q s.2.length with hq | hq
      · rw [hDq q hq, if_pos (by omega), List.getElem?_zipWith, List.getElem?_eq_getElem hq, List.getElem?_eq_getElem (by omega), List.getD_eq_getElem?_getD, List.getD_eq_getElem?_getD, List.getElem?_eq_getElem hq, List.getElem?_eq_getElem (by omega)]
        rfl
      · rw [List.getElem?_eq_none (by omega), List.getElem?_eq_none (by simp; omega)]
    rw [eD] at B4
    exact wp_some ⟨o5.trans (old_put l6 k6 (by omega) (by omega)), (B4.told l6 k6 (by omega)).mono (by omega)⟩
theorem ref1_Each2 {s t : tensor.den} {cs ct : List AV} (hs : In h tensor s cs) (ht : In h tensor t ct) (ks : tenOk s = true) (hl : t.2.length = s.2.length) (b : Nat) (hb : b ≤ h.length) :
    WP (call prog b 246 [.agg cs, .agg ct, .int .i64 2] h) fun r => Old h.length h r.2 ∧ TenAt h.length r.2 (s.1, List.zipWith (fun x y => w64 (x * y)) s.2 t.2) r.1 := by
  obtain ⟨sd, st, rfl, hsd, hst⟩ := holds_tensor hs
  obtain ⟨td, tt, rfl, htd, htt⟩ := holds_tensor ht
  obtain ⟨s1, s2, s3, s4, s5⟩ := ten_parts ks
  refine wp_enter (fn := C.ref1_Each) rfl ?_
  dsimp only [bodyN, C.ref1_Each, C.ref1_Each_l0]; simp
  generalize hh : h ++ [AObj.cells 0 1 [sd, st], AObj.cells 0 1 [td, tt], AObj.cells 0 1 [AV.nil, AV.nil]] = h1
  have o1 : Old h.length h h1 := hh ▸ Old.app
  have l1 : h1.length = h.length + 3 := by rw [← hh]; simp
  have b1 : Box h1 h.length [sd, st] := by rw [← hh]; simp [Box]
  have c1 : Box h1 (h.length + 1) [td, tt] := by rw [← hh]; simp [Box]
  have r1 : Box h1 (h.length + 2) [AV.nil, AV.nil] := by rw [← hh]; simp [Box]
  refine wq_ptrs b1 (by simp) ?_
  try simp
  refine wp_call (ref0_CopyTensor (In.old o1 hs) (by omega) (by omega) b (by omega)) fun v2 h2 ⟨o12, T2⟩ => ?_
  simp only at o12 T2
  have l2 := o12.1
  try simp
  refine wp_initT T2 (by omega) fun vD vT k h3 e3 o23 lt3 B3 => ?_
  subst e3
  have l3 := o23.1
  have kl := B3.kl
  have kle := B3.le
  have o13 := o12.trans (o23.mono l2)
  have b3 := b1.old o13 b1.lt
  have c3 := c1.old o13 c1.lt
  have r3 := r1.old o13 r1.lt
  have o3 := o1.trans (o13.mono (by omega))
  have lr1 := r1.lt
  try simp
  refine wp_loop (I := fun m e h' => Old k h3 h' ∧ h'.length = h3.length ∧ ∃ (i : Nat) (D : List Int), e = (ea 2 (.int .i64 2) <| ea 3 (.ptr h.length 0 0) <| ea 4 (.ptr (h.length + 1) 0 0) <| ea 6 (.ptr (h.length + 2) 0 0) <| ea 7 (.ptr h2.length 0 0) <| ea 8 (.int .i64 (i : Nat)) e0) ∧ i + m = s.2.length ∧ TB h1.length k h2.length s.1 D vD vT h' ∧ D.length = s.2.length ∧ ∀ q, q < s.2.length → D[q]? = some (if q < i then w64 (s.2.getD q 0 * t.2.getD q 0) else s.2.getD q 0)) ?_ ⟨Old.refl (by omega), rfl, 0, _, rfl, Nat.zero_add _, B3, rfl, fun q hq => by rw [if_neg (by omega), List.getElem?_eq_getElem hq, List.getD_eq_getElem?_getD, List.getElem?_eq_getElem hq]; rfl⟩
  rintro N m e h4 ⟨o4, l4, i, D, rfl, him, B4, hD, hDq⟩ next
  have b4 := b3.old o4 (by have := b1.lt; omega)
  have c4 := c3.old o4 (by have := c1.lt; omega)
  have r4 := r3.old o4 (by omega)
  have o5 := o3.trans (o4.mono (by omega))
  have hst4 := In.old o5 hst
  have htt4 := In.old o5 htt
  dsimp only [C.ref1_Each_b0]; simp
  refine wq_ptr B4.box rfl ?_
  try simp
  refine wq_len B4.in ?_
  simp [hD]
  refine wp_dec (fun hi => ?_) fun hi => ?_
  · have w1 := succ64 (i := i) (n := 64) (by omega) (by omega)
    have hit : i < t.2.length := by omega
    try simp
    refine wq_ptr B4.box rfl ?_
    try simp
    refine wq_ptr b4 rfl ?_
    try simp
    refine wq_idx hst4 (by rfl) (by omega) (by omega) ?_
    try simp
    refine wq_int hst4 hi ?_
    try simp
    refine wq_ptr c4 rfl ?_
    try simp
    refine wq_idx htt4 (by rfl) (by omega) (by omega) ?_
    try simp
    refine wq_int htt4 hit ?_
    try simp
    refine wq_idx B4.in (by rfl) (by omega) (by omega) ?_
    try simp
    refine wp_putT B4 (wrap_range _) (by omega) (by omega) (by omega) fun h5 o45 l5 _ B5 => ?_
    simp [w1]
    refine next (m - 1) _ _ (by omega) ⟨o4.trans o45, by omega, i + 1, _, by simp, by omega, B5, by simp [hD], fun q hq => ?_⟩
    rw [List.getElem?_set]
    by_cases c : i = q
    · subst c
      rw [if_pos rfl, if_pos (by omega), if_pos (by omega), List.getD_eq_getElem?_getD, List.getD_eq_getElem?_getD, List.getElem?_eq_getElem hi, List.getElem?_eq_getElem hit]
      rfl
    · rw [if_neg c, hDq q hq]
      by_cases c2 : q < i
      · rw [if_pos c2, if_pos (by omega)]
      · rw [if_neg c2, if_neg (by omega)]
  · have ei : i = s.2.length := by omega
    try simp
    refine wq_ptrs B4.box (by simp) ?_
    try simp
    refine wq_put r4 (by omega) (vs := [vD, vT]) (fun _ => by rw [cellsK_agg]) (by rfl) (by simp) fun h6 l6 k6 b6 => ?_
    simp at b6
    try simp
    refine wq_ptrs b6 (by simp) ?_
    try simp
    have eD : D = List.zipWith (fun x y => w64 (x * y)) s.2 t.2 := by
      apply List.ext_getElem?
      intro q
      rcases Nat.lt_or_ge q s.2.length with hq | hq
      · rw [hDq q hq, if_pos (by omega), List.getElem?_zipWith, List.getElem?_eq_getElem hq, List.getElem?_eq_getElem (by omega), List.getD_eq_getElem?_getD, List.getD_eq_getElem?_getD, List.getElem?_eq_getElem hq, List.getElem?_eq_getElem (by omega)]
        rfl
      · rw [List.getElem?_eq_none (by omega), List.getElem?_eq_none (by simp; omega)]
    rw [eD] at B4
    exact wp_some ⟨o5.trans (old_put l6 k6 (by omega) (by omega)), (B4.told l6 k6 (by omega)).mono (by omega)⟩
end
end Go.AM

/- What goes through; scaled. -/
namespace Go.AM
set_option maxRecDepth 20000
set_option maxHeartbeats 1000000
attribute [local simp] layAt
attribute [local irreducible] lenK sliceK idxK fldK cutK storeK appK copyK clearK mapAtK callK loopH readK readK1 guardK grdK fnK nilK fieldK extrK strK nextK joinK iteK intK boolK cellsK castK castL castEnv binK unK intBin layParts execN runOpsN runItemsN denN call loop blockK
section
variable {R : Type} {Q : R → Prop} {h : Heap}
theorem ref1_Scale {s : tensor.den} {cs : List AV} (hs : In h tensor s cs) (ks : tenOk s = true) (n : Int) (b : Nat) (hb : b ≤ h.length) :
    WP (call prog b 254 [.agg cs, .int .i64 n] h) fun r => Old h.length h r.2 ∧ TenAt h.length r.2 (s.1, scaleL s.2 n) r.1 := by
  obtain ⟨sd, st, rfl, hsd, hst⟩ := holds_tensor hs
  obtain ⟨s1, s2, s3, s4, s5⟩ := ten_parts ks
  refine wp_enter (fn := C.ref1_Scale) rfl ?_
  dsimp only [bodyN, C.ref1_Scale, C.ref1_Scale_l0]; simp
  generalize hh : h ++ [AObj.cells 0 1 [sd, st], AObj.cells 0 1 [AV.nil, AV.nil]] = h1
  have o1 : Old h.length h h1 := hh ▸ Old.app
  have l1 : h1.length = h.length + 2 := by rw [← hh]; simp
  have b1 : Box h1 h.length [sd, st] := by rw [← hh]; simp [Box]
  have r1 : Box h1 (h.length + 1) [AV.nil, AV.nil] := by rw [← hh]; simp [Box]
  refine wq_ptrs b1 (by simp) ?_
  try simp
  refine wp_call (ref0_CopyTensor (In.old o1 hs) (by omega) (by omega) b (by omega)) fun v2 h2 ⟨o12, T2⟩ => ?_
  simp only at o12 T2
  have l2 := o12.1
  try simp
  refine wp_initT T2 (by omega) fun vD vT k h3 e3 o23 lt3 B3 => ?_
  subst e3
  have l3 := o23.1
  have kl := B3.kl
  have kle := B3.le
  have o13 := o12.trans (o23.mono l2)
  have r3 := r1.old o13 r1.lt
  have o3 := o1.trans (o13.mono (by omega))
  have lr1 := r1.lt
  try simp
  refine wp_loop (I := fun m e h' => Old k h3 h' ∧ h'.length = h3.length ∧ ∃ (i : Nat) (D : List Int), e = (ea 1 (.int .i64 n) <| ea 4 (.ptr (h.length + 1) 0 0) <| ea 5 (.ptr h2.length 0 0) <| ea 6 (.int .i64 (i : Nat)) e0) ∧ i + m = s.2.length ∧ TB h1.length k h2.length s.1 D vD vT h' ∧ D.length = s.2.length ∧ ∀ q, q < s.2.length → D[q]? = some (if q < i then w64 (s.2.getD q 0 * n) else s.2.getD q 0)) ?_ ⟨Old.refl (by omega), rfl, 0, _, rfl, Nat.zero_add _, B3, rfl, fun q hq => by rw [if_neg (by omega), List.getElem?_eq_getElem hq, List.getD_eq_getElem?_getD, List.getElem?_eq_getElem hq]; rfl⟩
  rintro N m e h4 ⟨o4, l4, i, D, rfl, him, B4, hD, hDq⟩ next
  have r4 := r3.old o4 (by omega)
  have o5 := o3.trans (o4.mono (by omega))
  dsimp only [C.ref1_Scale_b0]; simp
  refine wq_ptr B4.box rfl ?_
  try simp
  refine wq_len B4.in ?_
  simp [hD]
  refine wp_dec (fun hi => ?_) fun hi => ?_
  · have w1 := succ64 (i := i) (n := 64) (by omega) (by omega)
    have hiD : i < D.length := by omega
    have eq := hDq i (by omega)
    rw [List.getElem?_eq_getElem hiD, if_neg (by omega)] at eq
    have eq := Option.some.inj eq
    try simp
    refine wq_ptr B4.box rfl ?_
    try simp
    refine wq_ptr B4.box rfl ?_
    try simp
    refine wq_idx B4.in (by rfl) (by omega) (by omega) ?_
    try simp
    refine wq_int B4.in hiD ?_
    try simp
    refine wq_idx B4.in (by rfl) (by omega) (by omega) ?_
    try simp
    refine wp_putT B4 (wrap_range _) (by omega) (by omega) (by omega) fun h5 o45 l5 _ B5 => ?_
    simp [w1]
    refine next (m - 1) _ _ (by omega) ⟨o4.trans o45, by omega, i + 1, _, by simp, by omega, B5, by simp [hD], fun q hq => ?_⟩
    rw [List.getElem?_set]
    by_cases c : i = q
    · subst c
      rw [if_pos rfl, if_pos (by omega), if_pos (by omega), eq]
    · rw [if_neg c, hDq q hq]
      by_cases c2 : q < i
      · rw [if_pos c2, if_pos (by omega)]
      · rw [if_neg c2, if_neg (by omega)]
  · have ei : i = s.2.length := by omega
    try simp
    refine wq_ptrs B4.box (by simp) ?_
    try simp
    refine wq_put r4 (by omega) (vs := [vD, vT]) (fun _ => by rw [cellsK_agg]) (by rfl) (by simp) fun h6 l6 k6 b6 => ?_
    simp at b6
    try simp
    refine wq_ptrs b6 (by simp) ?_
    try simp
    have eD : D = scaleL s.2 n := by
      apply List.ext_getElem?
      intro q
      rcases Nat.lt_or_ge q s.2.length with hq | hq
      · rw [hDq q hq, if_pos (by omega), scaleL, List.getElem?_map, List.getElem?_eq_getElem hq, List.getD_eq_getElem?_getD, List.getElem?_eq_getElem hq]
        rfl
      · rw [List.getElem?_eq_none (by omega), List.getElem?_eq_none (by simp [scaleL]; omega)]
    rw [eD] at B4
    exact wp_some ⟨o5.trans (old_put l6 k6 (by omega) (by omega)), (B4.told l6 k6 (by omega)).mono (by omega)⟩
theorem ref1_Gate {s t : tensor.den} {cs ct : List AV} (hs : In h tensor s cs) (ht : In h tensor t ct) (kt : tenOk t = true) (hl : s.2.length = t.2.length) (b : Nat) (hb : b ≤ h.length) :
    WP (call prog b 247 [.agg cs, .agg ct] h) fun r => Old h.length h r.2 ∧ TenAt h.length r.2 (t.1, stepL s.2 t.2) r.1 := by
  obtain ⟨sd, st, rfl, hsd, hst⟩ := holds_tensor hs
  obtain ⟨td, tt, rfl, htd, htt⟩ := holds_tensor ht
  obtain ⟨s1, s2, s3, s4, s5⟩ := ten_parts kt
  refine wp_enter (fn := C.ref1_Gate) rfl ?_
  dsimp only [bodyN, C.ref1_Gate, C.ref1_Gate_l0]; simp
  generalize hh : h ++ [AObj.cells 0 1 [sd, st], AObj.cells 0 1 [td, tt], AObj.cells 0 1 [AV.nil, AV.nil]] = h1
  have o1 : Old h.length h h1 := hh ▸ Old.app
  have l1 : h1.length = h.length + 3 := by rw [← hh]; simp
  have b1 : Box h1 h.length [sd, st] := by rw [← hh]; simp [Box]
  have c1 : Box h1 (h.length + 1) [td, tt] := by rw [← hh]; simp [Box]
  have r1 : Box h1 (h.length + 2) [AV.nil, AV.nil] := by rw [← hh]; simp [Box]
  refine wq_ptrs c1 (by simp) ?_
  try simp
  refine wp_call (ref0_CopyTensor (In.old o1 ht) (by omega) (by omega) b (by omega)) fun v2 h2 ⟨o12, T2⟩ => ?_
  simp only at o12 T2
  have l2 := o12.1
  try simp
  refine wp_initT T2 (by omega) fun vD vT k h3 e3 o23 lt3 B3 => ?_
  subst e3
  have l3 := o23.1
  have kl := B3.kl
  have kle := B3.le
  have o13 := o12.trans (o23.mono l2)
  have b3 := b1.old o13 b1.lt
  have c3 := c1.old o13 c1.lt
  have r3 := r1.old o13 r1.lt
  have o3 := o1.trans (o13.mono (by omega))
  have lr1 := r1.lt
  try simp
  refine wp_loop (I := fun m e h' => Old k h3 h' ∧ h'.length = h3.length ∧ ∃ (i : Nat) (D : List Int), e = (ea 2 (.ptr h.length 0 0) <| ea 4 (.ptr (h.length + 2) 0 0) <| ea 5 (.ptr h2.length 0 0) <| ea 6 (.int .i64 (i : Nat)) e0) ∧ i + m = t.2.length ∧ TB h1.length k h2.length t.1 D vD vT h' ∧ D.length = t.2.length ∧ ∀ q, q < t.2.length → D[q]? = some (if q < i then stepV (s.2.getD q 0) (t.2.getD q 0) else t.2.getD q 0)) ?_ ⟨Old.refl (by omega), rfl, 0, _, rfl, Nat.zero_add _, B3, rfl, fun q hq => by rw [if_neg (by omega), List.getElem?_eq_getElem hq, List.getD_eq_getElem?_getD, List.getElem?_eq_getElem hq]; rfl⟩
  rintro N m e h4 ⟨o4, l4, i, D, rfl, him, B4, hD, hDq⟩ next
  have b4 := b3.old o4 (by have := b1.lt; omega)
  have r4 := r3.old o4 (by omega)
  have o5 := o3.trans (o4.mono (by omega))
  have hst4 := In.old o5 hst
  dsimp only [C.ref1_Gate_b0]; simp
  refine wq_ptr B4.box rfl ?_
  try simp
  refine wq_len B4.in ?_
  simp [hD]
  refine wp_dec (fun hi => ?_) fun hi => ?_
  · have w1 := succ64 (i := i) (n := 64) (by omega) (by omega)
    have his : i < s.2.length := by omega
    have gs : s.2.getD i 0 = s.2[i] := by rw [List.getD_eq_getElem?_getD, List.getElem?_eq_getElem his]; rfl
    try simp
    refine wq_ptr b4 rfl ?_
    try simp
    refine wq_idx hst4 (by rfl) (by omega) (by omega) ?_
    try simp
    refine wq_int hst4 his ?_
    try simp
    refine wp_dec (fun hz => ?_) fun hz => ?_
    · try simp
      refine wq_ptr B4.box rfl ?_
      try simp
      refine wq_idx B4.in (by rfl) (by omega) (by omega) ?_
      try simp
      refine wp_putT B4 (x := 0) (by omega) (by omega) (by omega) (by omega) fun h5 o45 l5 _ B5 => ?_
      simp [w1]
      refine next (m - 1) _ _ (by omega) ⟨o4.trans o45, by omega, i + 1, _, by simp, by omega, B5, by simp [hD], fun q hq => ?_⟩
      rw [List.getElem?_set]
      by_cases c : i = q
      · subst c
        rw [if_pos rfl, if_pos (by omega), if_pos (by omega), gs, stepV, if_neg (by omega)]
      · rw [if_neg c, hDq q hq]
        by_cases c2 : q < i
        · rw [if_pos c2, if_pos (by omega)]
        · rw [if_neg c2, if_neg (by omega)]
    · simp [w1]
      refine next (m - 1) _ _ (by omega) ⟨o4, by omega, i + 1, D, by simp, by omega, B4, hD, fun q hq => ?_⟩
      rw [hDq q hq]
      by_cases c : i = q
      · subst c
        rw [if_neg (by omega), if_pos (by omega), gs, stepV, if_pos (by omega)]
      · by_cases c2 : q < i
        · rw [if_pos c2, if_pos (by omega)]
        · rw [if_neg c2, if_neg (by omega)]
  · have ei : i = t.2.length := by omega
    try simp
    refine wq_ptrs B4.box (by simp) ?_
    try simp
    refine wq_put r4 (by omega) (vs := [vD, vT]) (fun _ => by rw [cellsK_agg]) (by rfl) (by simp) fun h6 l6 k6 b6 => ?_
    simp at b6
    try simp
    refine wq_ptrs b6 (by simp) ?_
    try simp
    have eD : D = stepL s.2 t.2 := by
      apply List.ext_getElem?
      intro q
      rcases Nat.lt_or_ge q t.2.length with hq | hq
      · rw [hDq q hq, if_pos (by omega), stepL, List.getElem?_zipWith, List.getElem?_eq_getElem hq, List.getElem?_eq_getElem (by omega), List.getD_eq_getElem?_getD, List.getD_eq_getElem?_getD, List.getElem?_eq_getElem hq, List.getElem?_eq_getElem (by omega)]
        rfl
      · rw [List.getElem?_eq_none (by omega), List.getElem?_eq_none (by simp [stepL]; omega)]
    rw [eD] at B4
    exact wp_some ⟨o5.trans (old_put l6 k6 (by omega) (by omega)), (B4.told l6 k6 (by omega)).mono (by omega)⟩
end
end Go.AM

/- What goes through: the program's. -/
namespace Go.AM
set_option maxRecDepth 20000
set_option maxHeartbeats 1000000
attribute [local simp] layAt
attribute [local irreducible] lenK sliceK idxK fldK cutK storeK appK copyK clearK mapAtK callK loopH readK readK1 guardK grdK fnK nilK fieldK extrK strK nextK joinK iteK intK boolK cellsK castK castL castEnv binK unK intBin layParts execN runOpsN runItemsN denN call loop blockK
section
variable {R : Type} {Q : R → Prop} {h : Heap}
theorem stepV_range {x y : Int} (hy : -9223372036854775808 ≤ y ∧ y ≤ 9223372036854775807) : -9223372036854775808 ≤ stepV x y ∧ stepV x y ≤ 9223372036854775807 := by
  unfold stepV
  split <;> omega
theorem gate_Step {s t : tensor.den} {cs ct : List AV} (hs : In h tensor s cs) (ht : In h tensor t ct) (ks : tenOk s = true) (kt : tenOk t = true) (e : s.1 = t.1) (b : Nat) (hb : b ≤ h.length) :
    WP (call prog b 157 [.agg cs, .agg ct] h) fun r => Old h.length h r.2 ∧ ∃ v, r.1 = .tup [v, .int .i64 0] ∧ TenAt h.length r.2 (s.1, stepL s.2 t.2) v := by
  obtain ⟨sd, st, rfl, hsd, hst⟩ := holds_tensor hs
  obtain ⟨td, tt, rfl, htd, htt⟩ := holds_tensor ht
  obtain ⟨s1, s2, s3, s4, s5⟩ := ten_parts ks
  obtain ⟨t1, t2, t3, t4, t5⟩ := ten_parts kt
  have hl : t.2.length = s.2.length := by rw [e] at s2; omega
  refine wp_enter (fn := C.gate_Step) rfl ?_
  dsimp only [bodyN, C.gate_Step, C.gate_Step_l0]; simp
  generalize hh : h ++ [AObj.cells 0 1 [sd, st], AObj.cells 0 1 [td, tt], AObj.cells 0 1 [AV.nil, AV.nil]] = h1
  have o1 : Old h.length h h1 := hh ▸ Old.app
  have l1 : h1.length = h.length + 3 := by rw [← hh]; simp
  have b1 : Box h1 h.length [sd, st] := by rw [← hh]; simp [Box]
  have c1 : Box h1 (h.length + 1) [td, tt] := by rw [← hh]; simp [Box]
  have r1 : Box h1 (h.length + 2) [AV.nil, AV.nil] := by rw [← hh]; simp [Box]
  refine wq_ptrs b1 (by simp) ?_
  try simp
  refine wq_ptrs c1 (by simp) ?_
  try simp
  have H2 := in_new (h := h1) (s := 2) (n := 2) (l := [s, t]) (p := tensor) ⟨_, _, rfl, In.old o1 hs, _, [], (List.append_nil _).symm, In.old o1 ht, rfl⟩ (by simp) (by rfl) (by simp)
  simp at H2
  have o2 : Old h1.length h1 (h1 ++ [AObj.cells 0 2 [sd, st, td, tt]]) := Old.app
  generalize h1 ++ [AObj.cells 0 2 [sd, st, td, tt]] = h2 at *
  have l2 := o2.1
  refine wp_call (shape_All H2 b (by omega)) fun v3 h3 ⟨o3, e3⟩ => ?_
  simp only at o3 e3
  simp [ks, kt] at e3
  subst e3
  have o13 := o2.trans (o3.mono l2)
  have l3 := o3.1
  have o03 := o1.trans (o13.mono (by omega))
  have b3 := b1.old o13 b1.lt
  have c3 := c1.old o13 c1.lt
  have r3 := r1.old o13 r1.lt
  try simp
  refine wq_ptr b3 rfl ?_
  try simp
  refine wq_ptr c3 rfl ?_
  try simp
  rw [callK_eq (slices_Equal_int (In.old o03 hsd) (In.old o03 htd) _)]
  simp [e]
  refine wq_ptr b3 rfl ?_
  try simp
  refine wp_call (shape_New (In.old o03 hsd) s1 b (by omega)) fun v4 h4 ⟨o4, T4⟩ => ?_
  simp only at o4 T4
  have l4 := o4.1
  try simp
  refine wp_initT T4 (by omega) fun vD vT k h5 e5 o5 lt5 B5 => ?_
  subst e5
  have l5 := o5.1
  have kl := B5.kl
  have kle := B5.le
  have o35 := o4.trans (o5.mono l4)
  have o15 := o13.trans (o35.mono (by omega))
  have b5 := b1.old o15 b1.lt
  have c5 := c1.old o15 c1.lt
  have r5 := r1.old o15 r1.lt
  have o05 := o1.trans (o15.mono (by omega))
  have lr1 := r1.lt
  have hst5 := In.old o05 hst
  try simp
  refine wq_ptr b5 rfl ?_
  try simp
  refine wq_len hst5 ?_
  have en : (prodI s.1).toNat = s.2.length := by omega
  rw [en] at B5
  try simp
  refine wp_loop (I := fun m e h' => Old k h5 h' ∧ h'.length = h5.length ∧ ∃ (i : Nat) (D : List Int), e = (ea 3 (.ptr (h.length + 1) 0 0) <| ea 4 (.ptr (h.length + 2) 0 0) <| ea 6 (.ptr h4.length 0 0) <| ea 28 st <| ea 29 (.int .i64 s.2.length) <| ea 30 (.int .i64 (i : Nat)) e0) ∧ i + m = s.2.length ∧ TB h3.length k h4.length s.1 D vD vT h' ∧ D.length = s.2.length ∧ ∀ q, q < s.2.length → D[q]? = some (if q < i then stepV (s.2.getD q 0) (t.2.getD q 0) else 0)) ?_ ⟨Old.refl (by omega), rfl, 0, _, rfl, Nat.zero_add _, B5, by simp, fun q hq => by rw [if_neg (by omega), List.getElem?_replicate, if_pos hq]⟩
  rintro N m e' h6 ⟨o6, l6, i, D, rfl, him, B6, hD, hDq⟩ next
  have c6 := c5.old o6 (by have := c1.lt; omega)
  have r6 := r5.old o6 (by omega)
  have o06 := o05.trans (o6.mono (by omega))
  have hst6 := In.old o06 hst
  have htt6 := In.old o06 htt
  dsimp only [C.gate_Step_b0]; simp
  refine wp_dec (fun hi => ?_) fun hi => ?_
  · have w1 := succ64 (i := i) (n := 64) (by omega) (by omega)
    have hit : i < t.2.length := by omega
    have gs : s.2.getD i 0 = s.2[i] := by rw [List.getD_eq_getElem?_getD, List.getElem?_eq_getElem hi]; rfl
    have gt : t.2.getD i 0 = t.2[i] := by rw [List.getD_eq_getElem?_getD, List.getElem?_eq_getElem hit]; rfl
    have ht6 := holds_range htt6 hit
    try simp
    refine wq_idx hst6 (by rfl) (by omega) (by omega) ?_
    try simp
    refine wq_int hst6 hi ?_
    try simp
    refine wp_dec (fun hz => ?_) fun hz => ?_
    · try simp
      refine wq_ptr B6.box rfl ?_
      try simp
      refine wq_ptr c6 rfl ?_
      try simp
      refine wq_idx htt6 (by rfl) (by omega) (by omega) ?_
      try simp
      refine wq_int htt6 hit ?_
      try simp
      refine wq_idx B6.in (by rfl) (by omega) (by omega) ?_
      try simp
      refine wp_putT B6 ht6 (by omega) (by omega) (by omega) fun h7 o7 l7 _ B7 => ?_
      simp [w1]
      refine next (m - 1) _ _ (by omega) ⟨o6.trans o7, by omega, i + 1, _, by simp, by omega, B7, by simp [hD], fun q hq => ?_⟩
      rw [List.getElem?_set]
      by_cases c : i = q
      · subst c
        rw [if_pos rfl, if_pos (by omega), if_pos (by omega), gs, gt, stepV, if_pos (by omega)]
      · rw [if_neg c, hDq q hq]
        by_cases c2 : q < i
        · rw [if_pos c2, if_pos (by omega)]
        · rw [if_neg c2, if_neg (by omega)]
    · simp [w1]
      refine next (m - 1) _ _ (by omega) ⟨o6, by omega, i + 1, D, by simp, by omega, B6, hD, fun q hq => ?_⟩
      rw [hDq q hq]
      by_cases c : i = q
      · subst c
        rw [if_neg (by omega), if_pos (by omega), gs, stepV, if_neg (by omega)]
      · by_cases c2 : q < i
        · rw [if_pos c2, if_pos (by omega)]
        · rw [if_neg c2, if_neg (by omega)]
  · have ei : i = s.2.length := by omega
    try simp
    refine wq_ptrs B6.box (by simp) ?_
    try simp
    refine wq_put r6 (by omega) (vs := [vD, vT]) (fun _ => by rw [cellsK_agg]) (by rfl) (by simp) fun h7 l7 k7 b7 => ?_
    simp at b7
    try simp
    refine wq_ptrs b7 (by simp) ?_
    try simp
    have eD : D = stepL s.2 t.2 := by
      apply List.ext_getElem?
      intro q
      rcases Nat.lt_or_ge q s.2.length with hq | hq
      · rw [hDq q hq, if_pos (by omega), stepL, List.getElem?_zipWith, List.getElem?_eq_getElem hq, List.getElem?_eq_getElem (by omega), List.getD_eq_getElem?_getD, List.getD_eq_getElem?_getD, List.getElem?_eq_getElem hq, List.getElem?_eq_getElem (by omega)]
        rfl
      · rw [List.getElem?_eq_none (by omega), List.getElem?_eq_none (by simp [stepL]; omega)]
    rw [eD, e] at B6
    exact wp_some ⟨o06.trans (old_put l7 k7 (by omega) (by omega)), _, rfl, (B6.told l7 k7 (by omega)).mono (by omega)⟩
theorem gate_Relu {s : tensor.den} {cs : List AV} (hs : In h tensor s cs) (ks : tenOk s = true) (b : Nat) (hb : b ≤ h.length) :
    WP (call prog b 165 [.agg cs] h) fun r => Old h.length h r.2 ∧ ∃ v, r.1 = .tup [v, .int .i64 0] ∧ TenAt h.length r.2 (s.1, stepL s.2 s.2) v := by
  obtain ⟨sd, st, rfl, hsd, hst⟩ := holds_tensor hs
  refine wp_enter (fn := C.gate_Relu) rfl ?_
  dsimp only [bodyN, C.gate_Relu]; simp
  generalize hh : h ++ [AObj.cells 0 1 [sd, st], AObj.cells 0 1 [AV.nil, AV.nil]] = h1
  have o1 : Old h.length h h1 := hh ▸ Old.app
  have l1 : h1.length = h.length + 2 := by rw [← hh]; simp
  have b1 : Box h1 h.length [sd, st] := by rw [← hh]; simp [Box]
  have r1 : Box h1 (h.length + 1) [AV.nil, AV.nil] := by rw [← hh]; simp [Box]
  refine wq_ptrs b1 (by simp) ?_
  try simp
  refine wq_ptrs b1 (by simp) ?_
  try simp
  refine wp_call (gate_Step (In.old o1 hs) (In.old o1 hs) ks ks rfl b (by omega)) fun v2 h2 ⟨o2, v3, e2, T2⟩ => ?_
  simp only at o2 e2 T2
  subst e2
  obtain ⟨vd, vt, k, rfl, ad, hk, hnk, hkl, at3⟩ := T2
  have l2 := o2.1
  have r2 := r1.old o2 r1.lt
  have r1lt := r1.lt
  try simp
  refine wq_put r2 (by omega) (vs := [vd, vt]) (fun _ => by rw [cellsK_agg]) (by rfl) (by simp) fun h6 l6 k6 b6 => ?_
  simp at b6
  try simp
  refine wq_ptrs b6 (by simp) ?_
  try simp
  exact wp_some ⟨(o1.trans (o2.mono (by omega))).trans (old_put l6 k6 (by omega) (by omega)), _, rfl, vd, vt, k, rfl, (ad.but l6 k6 (by omega) (by omega)).mono (by omega) (by omega), hk, by omega, by simp only; omega, at3.but l6 k6 (by omega) (by omega)⟩
end
end Go.AM

/- Strides, places, numbers: the program's. -/
namespace Go.AM
set_option maxRecDepth 20000
set_option maxHeartbeats 1000000
attribute [local simp] layAt
attribute [local irreducible] lenK sliceK idxK fldK cutK storeK appK copyK clearK mapAtK callK loopH readK readK1 guardK grdK fnK nilK fieldK extrK strK nextK joinK iteK intK boolK cellsK castK castL castEnv binK unK intBin layParts execN runOpsN runItemsN denN call loop blockK
/-- Dims that are few and small. -/
def Fit (d : List Int) : Prop := Pos d ∧ (∀ x ∈ d, x ≤ 8) ∧ d.length ≤ 3
theorem Fit.drop {d : List Int} (h : Fit d) (i : Nat) : Fit (d.drop i) :=
  ⟨fun x hx => h.1 x (List.mem_of_mem_drop hx), fun x hx => h.2.1 x (List.mem_of_mem_drop hx), by simp; have := h.2.2; omega⟩
theorem Fit.prod {d : List Int} (h : Fit d) : prodW d = prodI d := prodW_eq h.1 h.2.1 h.2.2
theorem dimsOk_fit {d : List Int} (h : dimsOk d = true) : Fit d := ⟨dimsOk_pos h, fun x hx => (dimsOk_mem h hx).2, (dimsOk_len h).2⟩
theorem Fit.le {d : List Int} (h : Fit d) : 1 ≤ prodI d ∧ prodI d ≤ 512 := by
  refine ⟨prodI_pos h.1, ?_⟩
  have key : ∀ d : List Int, Pos d → (∀ x ∈ d, x ≤ 8) → prodI d ≤ 8 ^ d.length := fun d => by
    induction d with
    | nil => intro _ _; simp [prodI]
    | cons x d ih =>
      intro hp h8
      have h1 := ih hp.tail (fun y hy => h8 y (List.mem_cons_of_mem _ hy))
      have h2 := h8 x List.mem_cons_self
      have h3 := prodI_pos hp.tail
      simp only [prodI, List.length_cons, Int.pow_succ]
      rw [Int.mul_comm (8 ^ d.length)]
      exact Int.mul_le_mul h2 h1 (by omega) (by omega)
  have h1 := key d h.1 h.2.1
  have h2 : (8 : Int) ^ d.length ≤ 8 ^ 3 := by
    have : (8 : Nat) ^ d.length ≤ 8 ^ 3 := Nat.pow_le_pow_right (by omega) h.2.2
    exact_mod_cast this
  have h3 : (8 : Int) ^ 3 = 512 := by decide
  omega
theorem strides_len : ∀ d : List Int, (strides d).length = d.length
  | [] => rfl
  | _ :: d => by simp [strides, strides_len d]
theorem strides_get : ∀ (d : List Int) (i : Nat), i < d.length → (strides d)[i]? = some (prodI (d.drop (i + 1)))
  | [], i, h => by simp at h
  | x :: d, 0, _ => by simp [strides]
  | x :: d, i + 1, h => by
      rw [strides, List.getElem?_cons_succ, strides_get d i (by simpa using h)]
      rfl
section
variable {R : Type} {Q : R → Prop} {h : Heap}
theorem shape_Strides {v : AV} {d : List Int} (hd : In h ints d [v]) (hf : Fit d) (b : Nat) (hb : b ≤ h.length) : WP (call prog b 198 [v] h) fun r => Old h.length h r.2 ∧ AccP h.length h.length r.2 int r.1 (strides d) := by
  have hl3 := hf.2.2
  refine wp_enter (fn := C.shape_Strides) rfl ?_
  dsimp only [bodyN, C.shape_Strides, C.shape_Strides_l0]; simp
  refine wq_len hd ?_
  try simp
  refine wp_guard (by omega) ?_
  have mk := accp_make (h := h) (p := int) (n := d.length) (x := 0) (zs := [.int .i64 0]) (fun _ _ => holds_int (by omega)) (by omega)
  simp [PT.sz] at mk
  have o1 : Old h.length h (h ++ [AObj.cells 0 1 (List.replicate d.length (AV.int IntKind.i64 0))]) := Old.app
  try simp
  generalize h ++ [AObj.cells 0 1 (List.replicate d.length (AV.int IntKind.i64 0))] = h1 at *
  refine wq_len hd ?_
  try simp
  refine wp_loop (I := fun m e h' => Old h.length h h' ∧ ∃ (i : Nat) (D : List Int), e = (ea 0 v <| ea 3 (.ref h.length 0 0 d.length) <| ea 9 (.int .i64 d.length) <| ea 10 (.int .i64 (i : Nat)) e0) ∧ i + m = d.length ∧ AccP h.length h.length h' int (.ref h.length 0 0 d.length) D ∧ D.length = d.length ∧ ∀ q, q < d.length → D[q]? = some (if q < i then prodI (d.drop (q + 1)) else 0)) ?_ ⟨o1, 0, _, rfl, Nat.zero_add _, mk, by simp, fun q hq => by rw [if_neg (by omega), List.getElem?_replicate, if_pos hq]⟩
  rintro N m e h2 ⟨o2, i, D, rfl, him, acc, hD, hDq⟩ next
  have hd2 := In.old o2 hd
  have l2 := o2.1
  dsimp only [C.shape_Strides_b0]; simp
  refine wp_dec (fun hi => ?_) fun hi => ?_
  · have w1 := succ64 (i := i) (n := 3) (by omega) (by omega)
    try simp
    refine wq_len hd2 ?_
    simp [w1]
    refine wp_guard (by omega) ?_
    refine wp_cut (p := int) hd2 rfl (a := i + 1) (b := d.length) (by omega) (Nat.le_refl _) (by simp) (by rfl) fun v3 hv3 => ?_
    have e3 : (d.drop (i + 1)).take (d.length - (i + 1)) = d.drop (i + 1) := List.take_of_length_le (by simp)
    rw [e3] at hv3
    try simp
    rw [callK_eq (shape_Product hv3 _), (hf.drop (i + 1)).prod]
    have fr := (hf.drop (i + 1)).le
    try simp
    refine wq_idx (acc.in (Nat.le_refl _)) (by rfl) (by omega) (by omega) ?_
    try simp
    refine wp_putI acc (by omega) hb l2 (by omega) fun h3 _ l3 o3 a3 => ?_
    simp [w1]
    refine next (m - 1) _ _ (by omega) ⟨o2.trans o3, i + 1, _, by simp, by omega, a3, by simp [hD], fun q hq => ?_⟩
    rw [List.getElem?_set]
    by_cases c : i = q
    · subst c
      rw [if_pos rfl, if_pos (by omega), if_pos (by omega)]
    · rw [if_neg c, hDq q hq]
      by_cases c2 : q < i
      · rw [if_pos c2, if_pos (by omega)]
      · rw [if_neg c2, if_neg (by omega)]
  · have ei : i = d.length := by omega
    try simp
    have eD : D = strides d := by
      apply List.ext_getElem?
      intro q
      rcases Nat.lt_or_ge q d.length with hq | hq
      · rw [hDq q hq, if_pos (by omega), strides_get d q hq]
      · rw [List.getElem?_eq_none (by omega), List.getElem?_eq_none (by rw [strides_len]; omega)]
    refine wp_some ⟨o2, ?_⟩
    rw [← eD]
    exact acc
end
end Go.AM

/- Numbers of a place, place of numbers: the program's. -/
namespace Go.AM
set_option maxRecDepth 20000
set_option maxHeartbeats 1000000
attribute [local simp] layAt
attribute [local irreducible] lenK sliceK idxK fldK cutK storeK appK copyK clearK mapAtK callK loopH readK readK1 guardK grdK fnK nilK fieldK extrK strK nextK joinK iteK intK boolK cellsK castK castL castEnv binK unK intBin layParts execN runOpsN runItemsN denN call loop blockK
theorem numbersI_len : ∀ (l : List Int) (n : Int), (numbersI l n).length = l.length
  | [], _ => rfl
  | _ :: l, n => by simp [numbersI, numbersI_len l]
theorem strides_drop : ∀ (d : List Int) (i : Nat), (strides d).drop i = strides (d.drop i)
  | _, 0 => rfl
  | [], i + 1 => by simp [strides]
  | x :: d, i + 1 => by simp [strides, strides_drop d i]
theorem Within.drop : ∀ {d p : List Int} (_ : Within d p) (i : Nat), Within (d.drop i) (p.drop i)
  | _, _, h, 0 => h
  | [], [], _, i + 1 => trivial
  | _ :: _, _ :: _, h, i + 1 => Within.drop h.2.2 i
  | [], _ :: _, h, _ + 1 => h.elim
  | _ :: _, [], h, _ + 1 => h.elim
theorem Within.get {d p : List Int} (h : Within d p) {i : Nat} (hi : i < d.length) (hp : i < p.length) : 0 ≤ p[i] ∧ p[i] < d[i] := by
  have := h.drop i
  rw [List.drop_eq_getElem_cons hi, List.drop_eq_getElem_cons hp] at this
  exact ⟨this.1, this.2.1⟩
section
variable {R : Type} {Q : R → Prop} {h : Heap}
theorem shape_Numbers {v : AV} {d : List Int} (hd : In h ints d [v]) (hf : Fit d) {n : Int} (hn : 0 ≤ n ∧ n ≤ 1000) (b : Nat) (hb : b ≤ h.length) : WP (call prog b 195 [v, .int .i64 n] h) fun r => Old h.length h r.2 ∧ AccP h.length h.length r.2 int r.1 (numbersI (strides d) n) := by
  have hl3 := hf.2.2
  refine wp_enter (fn := C.shape_Numbers) rfl ?_
  dsimp only [bodyN, C.shape_Numbers, C.shape_Numbers_l0]; simp
  refine wq_len hd ?_
  try simp
  refine wp_guard (by omega) ?_
  have mk := accp_make (h := h) (p := int) (n := d.length) (x := 0) (zs := [.int .i64 0]) (fun _ _ => holds_int (by omega)) (by omega)
  simp [PT.sz] at mk
  have o1 : Old h.length h (h ++ [AObj.cells 0 1 (List.replicate d.length (AV.int IntKind.i64 0))]) := Old.app
  have l1 : (h ++ [AObj.cells 0 1 (List.replicate d.length (AV.int IntKind.i64 0))]).length = h.length + 1 := by simp
  try simp
  generalize h ++ [AObj.cells 0 1 (List.replicate d.length (AV.int IntKind.i64 0))] = h1 at *
  refine wp_call (shape_Strides (In.old o1 hd) hf b (by omega)) fun v2 h2 ⟨o2, a2⟩ => ?_
  simp only at o2 a2
  have l2 := o2.1
  have mk2 := mk.flatO o2 (fun j hj => by cases hj; omega)
  have sl := strides_len d
  try simp
  refine wq_len (a2.in (Nat.le_refl _)) ?_
  rw [sl]
  try simp
  refine wp_loop (I := fun m e h' => Old h.length h h' ∧ h2.length ≤ h'.length ∧ AccP (h.length + 1) (h.length + 1) h' int v2 (strides d) ∧ ∃ (i : Nat) (k : Int) (P : List Int), e = (ea 1 (.int .i64 k) <| ea 5 (.ref h.length 0 0 d.length) <| ea 12 v2 <| ea 13 (.int .i64 d.length) <| ea 14 (.int .i64 (i : Nat)) e0) ∧ i + m = d.length ∧ 0 ≤ k ∧ k ≤ 1000 ∧ AccP h.length h.length h' int (.ref h.length 0 0 d.length) P ∧ P.length = d.length ∧ numbersI (strides d) n = P.take i ++ numbersI ((strides d).drop i) k) ?_ ⟨o1.trans (o2.mono (by omega)), Nat.le_refl _, a2.mono (by omega) (by omega), 0, n, _, rfl, Nat.zero_add _, hn.1, hn.2, mk2, by simp, by simp⟩
  rintro N m e h3 ⟨o3, l3, a3, i, k, P, rfl, him, k0, k1, acc, hP, hnum⟩ next
  have i3 := a3.in (Nat.le_refl _)
  dsimp only [C.shape_Numbers_b0]; simp
  refine wp_dec (fun hi => ?_) fun hi => ?_
  · have w1 := succ64 (i := i) (n := 3) (by omega) (by omega)
    have hil : i < (strides d).length := by omega
    have eg := strides_get d i (by omega)
    rw [List.getElem?_eq_getElem hil] at eg
    have eg := Option.some.inj eg
    have fr := (hf.drop (i + 1)).le
    rw [← eg] at fr
    have q1 : k.tdiv (strides d)[i] = k / (strides d)[i] := Int.tdiv_eq_ediv_of_nonneg k0
    have q2 : k.tmod (strides d)[i] = k % (strides d)[i] := Int.tmod_eq_emod_of_nonneg k0
    have r1 : 0 ≤ k / (strides d)[i] := Int.ediv_nonneg k0 (by omega)
    have r2 : k / (strides d)[i] ≤ k := Int.ediv_le_self _ k0
    have r3 : 0 ≤ k % (strides d)[i] := Int.emod_nonneg _ (by omega)
    have r4 : k % (strides d)[i] < (strides d)[i] := Int.emod_lt_of_pos _ (by omega)
    have nz : ¬ (strides d)[i] = 0 := by omega
    have w2 : IntKind.i64.wrap (k / (strides d)[i]) = k / (strides d)[i] := w64_id (by omega) (by omega)
    try simp
    refine wq_idx i3 (by rfl) (by omega) (by omega) ?_
    try simp
    refine wq_int i3 hil ?_
    try simp
    refine wp_guard nz ?_
    try simp
    refine wq_idx (acc.in (Nat.le_refl _)) (by rfl) (by omega) (by omega) ?_
    simp [q1, w2]
    refine wp_putI acc (by omega) hb o3.1 (by omega) fun h4 but4 l4 o4 a4 => ?_
    try simp
    refine wp_guard nz ?_
    simp [q2, w1]
    refine next (m - 1) _ _ (by omega) ⟨o3.trans o4, by omega, a3.flatI but4 (fun j hj => by cases hj; omega), i + 1, _, _, rfl, by omega, r3, by omega, a4, by simp [hP], ?_⟩
    rw [hnum, List.drop_eq_getElem_cons hil, numbersI, take_succ_app (by simp; omega)]
    simp [List.take_set_of_le]
  · have ei : i = d.length := by omega
    try simp
    rw [List.take_of_length_le (by omega), List.drop_of_length_le (by omega), numbersI, List.append_nil] at hnum
    rw [hnum]
    exact wp_some ⟨o3, acc⟩
theorem shape_Place {v w : AV} {d p : List Int} (hd : In h ints d [v]) (hp : In h ints p [w]) (hf : Fit d) (hw : Within d p) (b : Nat) (hb : b ≤ h.length) : WP (call prog b 196 [v, w] h) fun r => Old h.length h r.2 ∧ r.1 = .int .i64 (placeI (strides d) p) := by
  have hl3 := hf.2.2
  have pl := hw.len
  refine wp_enter (fn := C.shape_Place) rfl ?_
  dsimp only [bodyN, C.shape_Place, C.shape_Place_l0]; simp
  refine wp_call (shape_Strides hd hf b hb) fun v2 h2 ⟨o2, a2⟩ => ?_
  simp only at o2 a2
  have i2 := a2.in (Nat.le_refl _)
  have hp2 := In.old o2 hp
  have sl := strides_len d
  have pr := placeI_range hf.1 hw
  have fle := hf.le
  try simp
  refine wq_len i2 ?_
  rw [sl]
  try simp
  refine wp_loop (I := fun m e h' => h' = h2 ∧ ∃ (i : Nat) (k : Int), e = (ea 1 w <| ea 5 (.int .i64 k) <| ea 9 v2 <| ea 10 (.int .i64 d.length) <| ea 11 (.int .i64 (i : Nat)) e0) ∧ i + m = d.length ∧ 0 ≤ k ∧ placeI (strides d) p = k + placeI ((strides d).drop i) (p.drop i) ∧ 0 ≤ placeI ((strides d).drop i) (p.drop i)) ?_ ⟨rfl, 0, 0, rfl, Nat.zero_add _, Int.le_refl _, by simp, by simpa using pr.1⟩
  rintro N m e _ ⟨rfl, i, k, rfl, him, k0, hk, hk0⟩ next
  dsimp only [C.shape_Place_b0]; simp
  refine wp_dec (fun hi => ?_) fun hi => ?_
  · have w1 := succ64 (i := i) (n := 3) (by omega) (by omega)
    have hil : i < (strides d).length := by omega
    have hip : i < p.length := by omega
    have hid : i < d.length := by omega
    have wg := hw.get hid hip
    have rest := (placeI_range (hf.drop (i + 1)).1 (hw.drop (i + 1))).1
    rw [← strides_drop] at rest
    have sg : 1 ≤ (strides d)[i] := by
      have eg := strides_get d i hid
      rw [List.getElem?_eq_getElem hil] at eg
      have eg := Option.some.inj eg
      rw [eg]
      exact (hf.drop (i + 1)).le.1
    have pos : 0 ≤ (strides d)[i] * p[i] := Int.mul_nonneg (by omega) wg.1
    have hstep : placeI (strides d) p = k + (strides d)[i] * p[i] + placeI ((strides d).drop (i + 1)) (p.drop (i + 1)) := by
      rw [hk, List.drop_eq_getElem_cons hil, List.drop_eq_getElem_cons hip, placeI]
      omega
    have w2 : IntKind.i64.wrap ((strides d)[i] * p[i]) = (strides d)[i] * p[i] := w64_id (by omega) (by omega)
    have w3 : IntKind.i64.wrap (k + (strides d)[i] * p[i]) = k + (strides d)[i] * p[i] := w64_id (by omega) (by omega)
    try simp
    refine wq_idx i2 (by rfl) (by omega) (by omega) ?_
    try simp
    refine wq_int i2 hil ?_
    try simp
    refine wq_idx hp2 (by rfl) (by omega) (by omega) ?_
    try simp
    refine wq_int hp2 hip ?_
    simp [w1, w2, w3]
    exact next (m - 1) _ _ (by omega) ⟨rfl, i + 1, _, by simp, by omega, by omega, hstep, rest⟩
  · have ei : i = d.length := by omega
    try simp
    rw [List.drop_of_length_le (by omega), List.drop_of_length_le (by omega)] at hk
    refine wp_some ⟨o2, ?_⟩
    rw [hk]
    simp [placeI]
end
end Go.AM
