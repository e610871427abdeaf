import Derived.Test.YtfdbegdgedhhcaaGreatAmS57
import Derived.Test.YtfdbegdgedhhcaaGreatAmS47
set_option linter.all false
/- The slope where the greatest stand: plainly. -/
namespace Go.AM
set_option maxRecDepth 20000
set_option maxHeartbeats 1000000
attribute [local simp] layAt
attribute [local irreducible] lenK sliceK idxK fldK cutK storeK appK copyK clearK mapAtK callK loopH readK readK1 guardK grdK fnK nilK fieldK extrK strK nextK joinK iteK intK boolK cellsK castK castL castEnv binK unK intBin layParts execN runOpsN runItemsN denN call loop blockK
/-- Of each n side by side the second one's number where the first one's first greatest is. -/
def peaksT (a s : tensor.den) (n : Int) : tensor.den := (lessD a.1 n, (List.range (prodI (lessD a.1 n)).toNat).map fun i => s.2.getD (i * n.toNat + firstL (partL a.2 n.toNat i)) 0)
theorem partL_ne {a : List Int} {n i : Nat} (hn : 0 < n) (h : i * n + n ≤ a.length) : partL a n i ≠ [] := by
  intro e
  have := partL_len h
  rw [e] at this
  simp at this
  omega
theorem firstL_part {a : List Int} {n i : Nat} (hn : 0 < n) (h : i * n + n ≤ a.length) : firstL (partL a n i) < n := by
  have := firstL_lt (partL_ne hn h)
  rwa [partL_len h] at this
theorem pair_up {i m N : Nat} (h : i < N) (n : Nat) (e : N * n = m) : i * n + n ≤ m := by
  have := Nat.mul_le_mul_right n (show i + 1 ≤ N from h)
  rw [Nat.add_mul, Nat.one_mul] at this
  omega
theorem getD_set {l : List Int} {i j : Nat} {x : Int} (h : i < l.length) : (l.set i x).getD j 0 = if i = j then x else l.getD j 0 := by
  by_cases c : i = j
  · subst c
    simp [h]
  · simp [c]
/-- What lies where. -/
theorem pickTo_at {a l : List Int} {n N : Nat} (hn : 0 < n) (e : N * n = a.length) : ∀ {q}, q ≤ N → ∀ j, j < a.length → (pickTo a n l q).getD j 0 = if j / n < q ∧ j % n = firstL (partL a n (j / n)) then l.getD (j / n) 0 else 0
  | 0, _, j, hj => by
      rw [if_neg (fun h => absurd h.1 (Nat.not_lt_zero _)), pickTo, List.getD_eq_getElem?_getD, List.getElem?_replicate]
      split <;> rfl
  | q + 1, hq, j, hj => by
      have ih := pickTo_at (l := l) hn e (q := q) (by omega) j hj
      have hp := pair_up (show q < N by omega) n e
      have hf := firstL_part hn hp
      rw [pickTo, getD_set (by rw [pickTo_len]; omega), ih]
      have dm := Nat.div_add_mod j n
      have dl := Nat.mod_lt j hn
      by_cases c : q * n + firstL (partL a n q) = j
      · have h1 := divmod (i := q) hf
        rw [c] at h1
        rw [if_pos c, if_pos ⟨by omega, by rw [h1.1, h1.2]⟩, h1.2]
      · rw [if_neg c]
        by_cases c2 : j / n = q
        · have c3 : ¬ j % n = firstL (partL a n (j / n)) := by
            intro h
            rw [c2] at h
            apply c
            rw [← h, ← c2, Nat.mul_comm]
            exact dm
          rw [if_neg (fun h => c3 h.2), if_neg (fun h => c3 h.2)]
        · by_cases c3 : j / n < q ∧ j % n = firstL (partL a n (j / n))
          · rw [if_pos c3, if_pos ⟨by omega, c3.2⟩]
          · rw [if_neg c3, if_neg (fun h => c3 ⟨by omega, h.2⟩)]
/-- How far a block's greatest lies. -/
def peakAt (a : List Int) (n p : Nat) : Nat := p * n + firstL (partL a n p)
/-- A mask's products. -/
theorem mask_at {a s : List Int} {n N j : Nat} (hn : 0 < n) (e : N * n = a.length) (hs : s.length = a.length) (hj : j < a.length) (hr : -9223372036854775808 ≤ s.getD j 0 ∧ s.getD j 0 ≤ 9223372036854775807) :
    (List.zipWith (fun x y => w64 (x * y)) (pickTo a n (List.replicate N 1) N) s).getD j 0 = if peakAt a n (j / n) = j then s.getD j 0 else 0 := by
  have hjN : j / n < N := (Nat.div_lt_iff_lt_mul hn).2 (by omega)
  have hm := pickTo_at (l := List.replicate N 1) hn e (Nat.le_refl N) j hj
  have hpl : j < (pickTo a n (List.replicate N 1) N).length := by rw [pickTo_len]; exact hj
  have hsl : j < s.length := by omega
  have h1 : (List.replicate N (1 : Int)).getD (j / n) 0 = 1 := by rw [List.getD_eq_getElem?_getD, List.getElem?_replicate, if_pos hjN]; rfl
  have dm := Nat.div_add_mod j n
  rw [Nat.mul_comm] at dm
  rw [List.getD_eq_getElem?_getD, List.getElem?_eq_getElem hpl] at hm
  have hm : (pickTo a n (List.replicate N 1) N)[j] = _ := hm
  have hsj : s.getD j 0 = s[j] := by
    rw [List.getD_eq_getElem?_getD, List.getElem?_eq_getElem hsl]
    rfl
  rw [hsj] at hr ⊢
  rw [List.getD_eq_getElem?_getD, List.getElem?_zipWith, List.getElem?_eq_getElem hpl, List.getElem?_eq_getElem hsl]
  show w64 ((pickTo a n (List.replicate N 1) N)[j] * s[j]) = if peakAt a n (j / n) = j then s[j] else 0
  rw [hm, h1]
  by_cases c : j % n = firstL (partL a n (j / n))
  · rw [if_pos ⟨hjN, c⟩, if_pos (by rw [peakAt, ← c]; exact dm), Int.one_mul]
    exact w64_id hr.1 hr.2
  · rw [if_neg (fun h => c h.2), if_neg (fun h => c (by rw [peakAt] at h; omega)), Int.zero_mul]
    exact w64_id (by omega) (by omega)
end Go.AM

/- The slope where the greatest stand: the program's. -/
namespace Go.AM
set_option maxRecDepth 20000
set_option maxHeartbeats 1000000
attribute [local simp] layAt
attribute [local irreducible] lenK sliceK idxK fldK cutK storeK appK copyK clearK mapAtK callK loopH readK readK1 guardK grdK fnK nilK fieldK extrK strK nextK joinK iteK intK boolK cellsK castK castL castEnv binK unK intBin layParts execN runOpsN runItemsN denN call loop blockK
section
variable {R : Type} {Q : R → Prop} {h : Heap}
theorem TB.tin {n0 k lt : Nat} {d D : List Int} {vd vt : AV} (H : TB n0 k lt d D vd vt h) : In h tensor (d, D) [vd, vt] := holds_ten (H.dims.in (Nat.le_refl _)) (H.data.in (Nat.le_refl _))
theorem slope_peaks {s t : tensor.den} {cs ct : List AV} (hs : In h tensor s cs) (ht : In h tensor t ct) (ks : tenOk s = true) (kt : tenOk t = true) (hst : s.1 = t.1) {n : Int} (hn : 1 ≤ n ∧ n ≤ 8) (hm : (lastD s.1).tmod n = 0) (b : Nat) (hb : b ≤ h.length) :
    WP (call prog b 251 [.agg cs, .agg ct, .int .i64 n] h) fun r => Old h.length h r.2 ∧ TenAt h.length r.2 (peaksT s t n) r.1 := by
  obtain ⟨sd, st, rfl, hsd, hsT⟩ := holds_tensor hs
  obtain ⟨td, tt, rfl, htd, htT⟩ := holds_tensor ht
  obtain ⟨s1, s2, s3, s4, s5⟩ := ten_parts ks
  obtain ⟨t1, t2, t3, t4, t5⟩ := ten_parts kt
  obtain ⟨k1, k2⟩ := less_parts s1 hn.1 hm
  obtain ⟨p1, p2, p3⟩ := dimsOk_prod k1
  obtain ⟨nn, rfl⟩ := Int.eq_ofNat_of_zero_le (show 0 ≤ n by omega)
  obtain ⟨N, eN⟩ := Int.eq_ofNat_of_zero_le (show 0 ≤ prodI (lessD s.1 nn) by omega)
  have eL : N * nn = s.2.length := by
    rw [eN, ← Int.natCast_mul] at k2
    omega
  have eTl : t.2.length = s.2.length := by rw [← hst] at t2; omega
  have hnn : 0 < nn := by omega
  have eT : peaksT s t nn = (lessD s.1 nn, (List.range N).map fun i => t.2.getD (peakAt s.2 nn i) 0) := by simp [peaksT, eN, peakAt]
  have eM : (maxT s nn).1 = lessD s.1 nn ∧ (maxT s nn).2.length = N := by simp [maxT, eN]
  rw [eN] at p2 p3
  have hp3 : ∀ p, p < N → -9223372036854775808 ≤ t.2.getD (peakAt s.2 nn p) 0 ∧ t.2.getD (peakAt s.2 nn p) 0 ≤ 9223372036854775807 := fun p hp => by
    have hf := firstL_part hnn (pair_up hp nn eL)
    have hp' := pair_up hp nn eL
    have hq : peakAt s.2 nn p < t.2.length := by rw [peakAt]; omega
    rw [List.getD_eq_getElem?_getD, List.getElem?_eq_getElem hq]
    exact holds_range htT hq
  refine wp_enter (fn := C.slope_peaks) rfl ?_
  dsimp only [bodyN, C.slope_peaks, C.slope_peaks_l0, C.slope_peaks_l1]; simp
  generalize hh : h ++ [AObj.cells 0 1 [sd, st], AObj.cells 0 1 [td, tt], AObj.cells 0 1 [AV.nil, AV.nil]] = h1
  have o1 : Old h.length h h1 := hh ▸ Old.app
  have l1 : h1.length = h.length + 3 := by rw [← hh]; simp
  have b1 : Box h1 h.length [sd, st] := by rw [← hh]; simp [Box]
  have c1 : Box h1 (h.length + 1) [td, tt] := by rw [← hh]; simp [Box]
  have r1 : Box h1 (h.length + 2) [AV.nil, AV.nil] := by rw [← hh]; simp [Box]
  have hs1 := In.old o1 hs
  have ht1 := In.old o1 ht
  refine wq_ptrs b1 (by simp) ?_
  try simp
  refine wp_call (gate_Max hs1 ks hn hm b (by omega)) fun v2 h2 ⟨o2, v2', e2, T2⟩ => ?_
  simp only at o2 e2 T2
  subst e2
  have l2 := o2.1
  try simp
  refine wp_initT T2 (by omega) fun vD vT k h3 e3 o3 lt3 B3 => ?_
  subst e3
  rw [eM.1] at B3
  have l3 := o3.1
  have kl := B3.kl
  have kle := B3.le
  have o13 := o2.trans (o3.mono l2)
  have b3 := b1.old o13 b1.lt
  have c3 := c1.old o13 c1.lt
  have r3 := r1.old o13 r1.lt
  have lb1 := b1.lt
  have lc1 := c1.lt
  have lr1 := r1.lt
  try simp
  refine wq_ptr B3.box rfl ?_
  try simp
  refine wq_len B3.in ?_
  try simp
  refine wp_loop (I := fun m e h' => Old k h3 h' ∧ h'.length = h3.length ∧ ∃ (i : Nat) (D : List Int), e = (ea 2 (.int .i64 (nn : Nat)) <| ea 3 (.ptr h.length 0 0) <| ea 4 (.ptr (h.length + 1) 0 0) <| ea 6 (.ptr (h.length + 2) 0 0) <| ea 7 (.ptr h2.length 0 0) <| ea 25 (.int .i64 ((maxT s nn).2.length : Nat)) <| ea 26 (.int .i64 (i : Nat)) e0) ∧ i + m = N ∧ D.length = N ∧ (∀ q, q < i → D[q]? = some 1) ∧ TB h1.length k h2.length (lessD s.1 nn) D vD vT h') ?_ (m := N) ⟨Old.refl (by omega), rfl, 0, _, rfl, Nat.zero_add _, eM.2, fun q hq => absurd hq (Nat.not_lt_zero _), B3⟩
  rintro M m e' h4 ⟨o4, l4, i, D, rfl, him, hD, hDq, B4⟩ next
  dsimp only [C.slope_peaks_b0]; simp [eM.2]
  refine wp_dec (fun hi => ?_) fun hi => ?_
  · have wi := succ64 (i := i) (n := 64) (by omega) (by omega)
    try simp
    refine wq_ptr B4.box rfl ?_
    try simp
    refine wq_idx B4.in (by rfl) (by omega) (by omega) ?_
    try simp
    refine wp_putT B4 (x := 1) (by omega) (by omega) (by omega) (by omega) fun h5 o5 l5 _ B5 => ?_
    simp [wi]
    refine next (m - 1) _ _ (by omega) ⟨o4.trans o5, by omega, i + 1, _, by simp [eM.2], by omega, by simpa using hD, fun q hq => ?_, B5⟩
    rw [List.getElem?_set]
    by_cases c : i = q
    · rw [if_pos c, if_pos (by omega)]
    · rw [if_neg c]
      exact hDq q (by omega)
  have eD : D = List.replicate N 1 := by
    apply List.ext_getElem?
    intro q
    rcases Nat.lt_or_ge q N with hq | hq
    · rw [hDq q (by omega), List.getElem?_replicate, if_pos hq]
    · rw [List.getElem?_eq_none (by omega), List.getElem?_eq_none (by simp; omega)]
  rw [eD] at B4
  have kO : tenOk (lessD s.1 nn, List.replicate N (1 : Int)) = true := tenOk_of k1 (by simp [eN])
  have b4 := b3.old o4 (by omega)
  have c4 := c3.old o4 (by omega)
  have r4 := r3.old o4 (by omega)
  have o04 := o1.trans ((o13.trans (o4.mono (by omega))).mono (by omega))
  try simp
  refine wq_ptrs b4 (by simp) ?_
  try simp
  refine wq_ptrs B4.box (by simp) ?_
  try simp
  refine wp_call (gate_Pick (In.old o04 hs) B4.tin ks kO hn hm rfl b (by omega)) fun v5 h5 ⟨o5, v5', e5, T5⟩ => ?_
  simp only at o5 e5 T5
  subst e5
  have l5 := o5.1
  try simp
  refine wp_initT T5 (by omega) fun wD wT k6 h6 e6 o6 lt6 B6 => ?_
  subst e6
  have l6 := o6.1
  have eP : pickT s (lessD s.1 nn, List.replicate N (1 : Int)) nn = (s.1, pickTo s.2 nn (List.replicate N 1) N) := by simp [pickT]
  rw [eP] at B6
  have kP : tenOk (s.1, pickTo s.2 nn (List.replicate N (1 : Int)) N) = true := tenOk_of s1 (by simp [pickTo_len]; omega)
  have o46 := o5.trans (o6.mono l5)
  have c6 := c4.old o46 (by omega)
  have r6 := r4.old o46 (by omega)
  have B46 := B4.old o46
  have o06 := o04.trans (o46.mono (by omega))
  try simp
  refine wq_ptrs B6.box (by simp) ?_
  try simp
  refine wq_ptrs c6 (by simp) ?_
  try simp
  refine wp_call (ring_Mul B6.tin (In.old o06 ht) kP kt hst b (by omega)) fun v7 h7 ⟨o7, v7', e7, T7⟩ => ?_
  simp only at o7 e7 T7
  subst e7
  have l7 := o7.1
  try simp
  refine wp_initT T7 (by omega) fun xD xT k8 h8 e8 o8 lt8 B8 => ?_
  subst e8
  have l8 := o8.1
  have o68 := o7.trans (o8.mono l7)
  have B48 := B46.old o68
  have r8 := r6.old o68 (by omega)
  have lB := B48.lt
  try simp
  refine wq_ptr B48.box rfl ?_
  try simp
  refine wp_call (shape_New (B48.dims.in (Nat.le_refl _)) k1 b (by omega)) fun v9 h9 ⟨o9, T9⟩ => ?_
  simp only at o9 T9
  rw [eN, Int.toNat_natCast] at T9
  have l9 := o9.1
  try simp
  refine wp_initT T9 (by omega) fun yD yT k10 h10 e10 o10 lt10 B10 => ?_
  subst e10
  have l10 := o10.1
  have kl10 := B10.kl
  have kle10 := B10.le
  have o810 := o9.trans (o10.mono l9)
  have B810 := B8.old o810
  have r10 := r8.old o810 (by omega)
  have o010 := o06.trans ((o68.trans (o810.mono (by omega))).mono (by omega))
  generalize hZ : List.zipWith (fun x y => w64 (x * y)) (pickTo s.2 nn (List.replicate N 1) N) t.2 = Z at *
  have hZl : Z.length = s.2.length := by rw [← hZ]; simp [pickTo_len]; omega
  try simp
  refine wq_ptr B810.box rfl ?_
  try simp
  refine wq_len B810.in ?_
  try simp
  refine wp_loop (I := fun m e h' => Old k10 h10 h' ∧ h'.length = h10.length ∧ ∃ (j : Nat) (D : List Int), e = (ea 2 (.int .i64 (nn : Nat)) <| ea 6 (.ptr (h.length + 2) 0 0) <| ea 14 (.ptr h9.length 0 0) <| ea 51 xT <| ea 52 (.int .i64 (Z.length : Nat)) <| ea 53 (.int .i64 (j : Nat)) e0) ∧ j + m = Z.length ∧ D.length = N ∧ (∀ p, p < N → D[p]? = some (if peakAt s.2 nn p < j then t.2.getD (peakAt s.2 nn p) 0 else 0)) ∧ TB h8.length k10 h9.length (lessD s.1 nn) D yD yT h') ?_ ⟨Old.refl (by omega), rfl, 0, _, rfl, Nat.zero_add _, by simp, fun p hp => by rw [if_neg (Nat.not_lt_zero _), List.getElem?_replicate, if_pos hp], B10⟩
  rintro M m e' h11 ⟨o11, l11, j, D, rfl, hjm, hD, hDp, B11⟩ next
  have hZ11 : In h11 ints Z [xT] := In.old (o810.trans (o11.mono kle10)) B8.in
  dsimp only [C.slope_peaks_b1]; simp
  refine wp_dec (fun hj => ?_) fun hj => ?_
  · have wj := succ64 (i := j) (n := 64) (by omega) (by omega)
    have hja : j < s.2.length := by omega
    have hjN : j / nn < N := (Nat.div_lt_iff_lt_mul hnn).2 (by omega)
    have htj : j < t.2.length := by omega
    have etj : t.2.getD j 0 = t.2[j] := by rw [List.getD_eq_getElem?_getD, List.getElem?_eq_getElem htj]; rfl
    have htr := holds_range (In.old o04 htT) htj
    have hx := mask_at hnn eL eTl hja (by rw [etj]; exact htr)
    rw [hZ, List.getD_eq_getElem?_getD, List.getElem?_eq_getElem hj] at hx
    have hx : Z[j] = if peakAt s.2 nn (j / nn) = j then t.2.getD j 0 else 0 := hx
    have d0 : 0 ≤ (j : Int) / (nn : Int) := Int.ediv_nonneg (by omega) (by omega)
    have d1 : (j : Int) / (nn : Int) ≤ (j : Int) := Int.ediv_le_self _ (by omega)
    have w1 : IntKind.i64.wrap ((j : Int) / (nn : Int)) = (j : Int) / (nn : Int) := w64_id (by omega) (by omega)
    have n1 : ((j : Int) / (nn : Int)).toNat = j / nn := by rw [← Int.natCast_ediv, Int.toNat_natCast]
    have n2 : (j : Int) / (nn : Int) < (D.length : Int) := by rw [← Int.natCast_ediv]; omega
    have hD0 := hDp (j / nn) hjN
    have hjD : j / nn < D.length := by omega
    rw [List.getElem?_eq_getElem hjD] at hD0
    have hD0 := Option.some.inj hD0
    try simp
    refine wq_idx hZ11 (by rfl) (by omega) (by omega) ?_
    try simp
    refine wq_int hZ11 hj ?_
    try simp
    refine wq_ptr B11.box rfl ?_
    try simp
    refine wp_guard (by omega) ?_
    simp [w1]
    refine wq_idx B11.in (by rfl) d0 n2 ?_
    simp [n1]
    refine wq_int B11.in hjD ?_
    try simp [w1]
    refine wq_idx B11.in (by rfl) d0 n2 ?_
    simp [n1]
    refine wp_putT B11 (wrap_range _) (by omega) (by omega) hjD fun h12 o12 l12 _ B12 => ?_
    simp [wj]
    refine next (m - 1) _ _ (by omega) ⟨o11.trans o12, by omega, j + 1, _, by simp, by omega, by simpa using hD, fun p hp => ?_, B12⟩
    rw [List.getElem?_set]
    by_cases c : j / nn = p
    · subst c
      rw [if_pos rfl, if_pos hjD, hD0, hx]
      by_cases c2 : peakAt s.2 nn (j / nn) = j
      · rw [if_neg (by omega), if_pos c2, if_pos (by omega), Int.zero_add, c2, etj]
        exact congrArg some (w64_id htr.1 htr.2)
      · rw [if_neg c2, Int.add_zero]
        by_cases c3 : peakAt s.2 nn (j / nn) < j
        · rw [if_pos c3, if_pos (by omega)]
          have hpr := hp3 (j / nn) hjN
          exact congrArg some (w64_id hpr.1 hpr.2)
        · rw [if_neg c3, if_neg (by omega)]
          exact congrArg some (w64_id (by omega) (by omega))
    · rw [if_neg c, hDp p hp]
      have c4 : peakAt s.2 nn p ≠ j := by
        intro e
        apply c
        have hf := firstL_part hnn (pair_up hp nn eL)
        rw [← e, peakAt, (divmod hf).2]
      by_cases c5 : peakAt s.2 nn p < j
      · rw [if_pos c5, if_pos (by omega)]
      · rw [if_neg c5, if_neg (by omega)]
  · have ej : j = Z.length := by omega
    have eF : D = (List.range N).map fun i => t.2.getD (peakAt s.2 nn i) 0 := by
      apply List.ext_getElem?
      intro q
      rcases Nat.lt_or_ge q N with hq | hq
      · have hf := firstL_part hnn (pair_up hq nn eL)
        have hp := pair_up hq nn eL
        rw [hDp q hq, if_pos (by rw [peakAt]; omega), List.getElem?_map, List.getElem?_range hq]
        rfl
      · rw [List.getElem?_eq_none (by omega), List.getElem?_eq_none (by simp; omega)]
    rw [eF] at B11
    have r11 := r10.old o11 (by omega)
    try simp
    refine wq_ptrs B11.box (by simp) ?_
    try simp
    refine wq_put r11 (by omega) (vs := [yD, yT]) (fun _ => by rw [cellsK_agg]) (by rfl) (by simp) fun h12 l12 k12 b12 => ?_
    simp at b12
    try simp
    refine wq_ptrs b12 (by simp) ?_
    try simp
    exact wp_some ⟨(o010.trans (o11.mono (by omega))).trans (old_put l12 k12 (by omega) (by omega)), by rw [eT]; exact (B11.told l12 k12 (by omega)).mono (by omega)⟩
end
end Go.AM

/- The slope where the greatest stand: the page's. -/
namespace Go.AM
set_option maxRecDepth 20000
set_option maxHeartbeats 1000000
attribute [local simp] layAt
attribute [local irreducible] lenK sliceK idxK fldK cutK storeK appK copyK clearK mapAtK callK loopH readK readK1 guardK grdK fnK nilK fieldK extrK strK nextK joinK iteK intK boolK cellsK castK castL castEnv binK unK intBin layParts execN runOpsN runItemsN denN call loop blockK
theorem partL_get {l : List Int} {n i m : Nat} (hm : m < n) : (partL l n i).getD m 0 = l.getD (i * n + m) 0 := by
  rw [partL, List.getD_eq_getElem?_getD, List.getD_eq_getElem?_getD, List.getElem?_take, if_pos hm, List.getElem?_drop]
section
variable {R : Type} {Q : R → Prop} {h : Heap}
theorem ref10_peaks {s t : tensor.den} {cs ct : List AV} (hs : In h tensor s cs) (ht : In h tensor t ct) (ks : tenOk s = true) (kt : tenOk t = true) (hst : s.1 = t.1) {n : Int} (hn : 1 ≤ n ∧ n ≤ 8) (hm : (lastD s.1).tmod n = 0) (b : Nat) (hb : b ≤ h.length) :
    WP (call prog b 248 [.agg cs, .agg ct, .int .i64 n] h) fun r => Old h.length h r.2 ∧ TenAt h.length r.2 (peaksT s t n) r.1 := by
  obtain ⟨sd, st, rfl, hsd, hsT⟩ := holds_tensor hs
  obtain ⟨td, tt, rfl, htd, htT⟩ := holds_tensor ht
  obtain ⟨s1, s2, s3, s4, s5⟩ := ten_parts ks
  obtain ⟨t1, t2, t3, t4, t5⟩ := ten_parts kt
  obtain ⟨k1, k2⟩ := less_parts s1 hn.1 hm
  obtain ⟨p1, p2, p3⟩ := dimsOk_prod k1
  obtain ⟨nn, rfl⟩ := Int.eq_ofNat_of_zero_le (show 0 ≤ n by omega)
  obtain ⟨N, eN⟩ := Int.eq_ofNat_of_zero_le (show 0 ≤ prodI (lessD s.1 nn) by omega)
  have eL : N * nn = s.2.length := by
    rw [eN, ← Int.natCast_mul] at k2
    omega
  have eTl : t.2.length = s.2.length := by rw [← hst] at t2; omega
  have hnn : 0 < nn := by omega
  have eT : peaksT s t nn = (lessD s.1 nn, (List.range N).map fun i => t.2.getD (peakAt s.2 nn i) 0) := by simp [peaksT, eN, peakAt]
  have eM : (maxT s nn).1 = lessD s.1 nn ∧ (maxT s nn).2.length = N := by simp [maxT, eN]
  rw [eN] at p2 p3
  refine wp_enter (fn := C.ref10_peaks) rfl ?_
  dsimp only [bodyN, C.ref10_peaks, C.ref10_peaks_l1]; simp
  generalize hh : h ++ [AObj.cells 0 1 [sd, st], AObj.cells 0 1 [td, tt], AObj.cells 0 1 [AV.nil, AV.nil]] = h1
  have o1 : Old h.length h h1 := hh ▸ Old.app
  have l1 : h1.length = h.length + 3 := by rw [← hh]; simp
  have b1 : Box h1 h.length [sd, st] := by rw [← hh]; simp [Box]
  have c1 : Box h1 (h.length + 1) [td, tt] := by rw [← hh]; simp [Box]
  have r1 : Box h1 (h.length + 2) [AV.nil, AV.nil] := by rw [← hh]; simp [Box]
  have hs1 := In.old o1 hs
  refine wq_ptrs b1 (by simp) ?_
  try simp
  refine wp_call (ref1_Max hs1 ks hn hm b (by omega)) fun v2 h2 ⟨o2, T2⟩ => ?_
  simp only at o2 T2
  have l2 := o2.1
  try simp
  refine wp_initT T2 (by omega) fun vD vT k h3 e3 o3 lt3 B3 => ?_
  subst e3
  rw [eM.1] at B3
  have l3 := o3.1
  have kl := B3.kl
  have kle := B3.le
  have o13 := o2.trans (o3.mono l2)
  have b3 := b1.old o13 b1.lt
  have c3 := c1.old o13 c1.lt
  have r3 := r1.old o13 r1.lt
  have lb1 := b1.lt
  have lc1 := c1.lt
  have lr1 := r1.lt
  try simp
  refine wp_loop (I := fun m e h' => Old k h3 h' ∧ h'.length = h3.length ∧ ∃ (i : Nat) (D : List Int), e = (ea 2 (.int .i64 (nn : Nat)) <| ea 3 (.ptr h.length 0 0) <| ea 4 (.ptr (h.length + 1) 0 0) <| ea 6 (.ptr (h.length + 2) 0 0) <| ea 7 (.ptr h2.length 0 0) <| ea 8 (.int .i64 (i : Nat)) e0) ∧ i + m = N ∧ D.length = N ∧ (∀ q, q < i → D[q]? = some (t.2.getD (peakAt s.2 nn q) 0)) ∧ TB h1.length k h2.length (lessD s.1 nn) D vD vT h') ?_ (m := N) ⟨Old.refl (by omega), rfl, 0, _, rfl, Nat.zero_add _, eM.2, fun q hq => absurd hq (Nat.not_lt_zero _), B3⟩
  rintro M m e' h4 ⟨o4, l4, i, D, rfl, him, hD, hDq, B4⟩ next
  have b4 := b3.old o4 (by omega)
  have c4 := c3.old o4 (by omega)
  have r4 := r3.old o4 (by omega)
  have o04 := o1.trans ((o13.trans (o4.mono (by omega))).mono (by omega))
  have hsT4 := In.old o04 hsT
  have htT4 := In.old o04 htT
  dsimp only [C.ref10_peaks_b1, C.ref10_peaks_l0]; simp
  refine wq_ptr B4.box rfl ?_
  try simp
  refine wq_len B4.in ?_
  simp [hD]
  refine wp_dec (fun hi => ?_) fun hi => ?_
  · have hi : i < N := by omega
    have wi := succ64 (i := i) (n := 64) (by omega) (by omega)
    have hpu := pair_up hi nn eL
    have hlen := partL_len (l := s.2) (n := nn) (i := i) hpu
    have w1 : IntKind.i64.wrap ((i : Int) * (nn : Int)) = (i : Int) * (nn : Int) := by rw [← Int.natCast_mul]; exact w64_id (by omega) (by omega)
    try simp
    refine wp_loop (I := fun m e h' => h' = h4 ∧ ∃ (j : Nat), e = (ea 2 (.int .i64 (nn : Nat)) <| ea 3 (.ptr h.length 0 0) <| ea 4 (.ptr (h.length + 1) 0 0) <| ea 6 (.ptr (h.length + 2) 0 0) <| ea 7 (.ptr h2.length 0 0) <| ea 8 (.int .i64 (i : Nat)) <| ea 9 (.int .i64 (firstTo (partL s.2 nn i) j : Nat)) <| ea 10 (.int .i64 (j : Nat)) e0) ∧ j + m = nn) ?_ (m := nn) ⟨rfl, 0, rfl, Nat.zero_add _⟩
    rintro M2 m2 e2 _ ⟨rfl, j, rfl, hjm⟩ next2
    dsimp only [C.ref10_peaks_b0]; simp
    have hk : firstTo (partL s.2 nn i) j < nn := by
      rcases Nat.eq_zero_or_pos j with e | e
      · rw [e]; simp only [firstTo]; exact hnn
      · have := (firstTo_facts (partL s.2 nn i) j e).1; omega
    refine wp_dec (fun hj => ?_) fun hj => ?_
    · have hj : j < nn := by omega
      have wj := succ64 (i := j) (n := 8) (by omega) (by omega)
      have w2 : IntKind.i64.wrap ((i : Int) * (nn : Int) + (j : Int)) = (i : Int) * (nn : Int) + (j : Int) := by rw [← Int.natCast_mul]; exact w64_id (by omega) (by omega)
      have w3 : IntKind.i64.wrap ((i : Int) * (nn : Int) + (firstTo (partL s.2 nn i) j : Nat)) = (i : Int) * (nn : Int) + (firstTo (partL s.2 nn i) j : Nat) := by rw [← Int.natCast_mul]; exact w64_id (by omega) (by omega)
      have n2 : ((i : Int) * (nn : Int) + (j : Int)).toNat = i * nn + j := by rw [← Int.natCast_mul, ← Int.natCast_add, Int.toNat_natCast]
      have n3 : ((i : Int) * (nn : Int) + (firstTo (partL s.2 nn i) j : Nat)).toNat = i * nn + firstTo (partL s.2 nn i) j := by rw [← Int.natCast_mul, ← Int.natCast_add, Int.toNat_natCast]
      have a1 : i * nn + j < s.2.length := by omega
      have a2 : i * nn + firstTo (partL s.2 nn i) j < s.2.length := by omega
      have e1 : (partL s.2 nn i).getD j 0 = s.2[i * nn + j] := by rw [partL_get hj, List.getD_eq_getElem?_getD, List.getElem?_eq_getElem a1]; rfl
      have e2 : (partL s.2 nn i).getD (firstTo (partL s.2 nn i) j) 0 = s.2[i * nn + firstTo (partL s.2 nn i) j] := by rw [partL_get hk, List.getD_eq_getElem?_getD, List.getElem?_eq_getElem a2]; rfl
      try simp
      refine wq_ptr b4 rfl ?_
      simp [w1, w2]
      refine wq_idx hsT4 (by rfl) (by rw [← Int.natCast_mul]; omega) (by rw [← Int.natCast_mul]; omega) ?_
      simp [n2]
      refine wq_int hsT4 a1 ?_
      try simp
      refine wq_ptr b4 rfl ?_
      simp [w1, w3]
      refine wq_idx hsT4 (by rfl) (by rw [← Int.natCast_mul]; omega) (by rw [← Int.natCast_mul]; omega) ?_
      simp [n3]
      refine wq_int hsT4 a2 ?_
      try simp
      refine wp_dec (fun hc => ?_) fun hc => ?_
      · simp [wj]
        exact next2 (m2 - 1) _ _ (by omega) ⟨rfl, j + 1, by rw [firstTo, if_pos (by omega)]; simp, by omega⟩
      · simp [wj]
        exact next2 (m2 - 1) _ _ (by omega) ⟨rfl, j + 1, by rw [firstTo, if_neg (by omega)]; simp, by omega⟩
    · have ej : j = nn := by omega
      have eF : firstTo (partL s.2 nn i) j = firstL (partL s.2 nn i) := by rw [firstL, hlen, ej]
      rw [eF] at hk
      have w3 : IntKind.i64.wrap ((i : Int) * (nn : Int) + (firstL (partL s.2 nn i) : Nat)) = (i : Int) * (nn : Int) + (firstL (partL s.2 nn i) : Nat) := by rw [← Int.natCast_mul]; exact w64_id (by omega) (by omega)
      have n3 : ((i : Int) * (nn : Int) + (firstL (partL s.2 nn i) : Nat)).toNat = i * nn + firstL (partL s.2 nn i) := by rw [← Int.natCast_mul, ← Int.natCast_add, Int.toNat_natCast]
      have a2 : i * nn + firstL (partL s.2 nn i) < t.2.length := by omega
      try simp [eF]
      refine wq_ptr B4.box rfl ?_
      try simp
      refine wq_ptr c4 rfl ?_
      simp [w1, eF, w3]
      refine wq_idx htT4 (by rfl) (by rw [← Int.natCast_mul]; omega) (by rw [← Int.natCast_mul]; omega) ?_
      simp [n3]
      refine wq_int htT4 a2 ?_
      try simp
      refine wq_idx B4.in (by rfl) (by omega) (by omega) ?_
      try simp
      refine wp_putT B4 (holds_range htT4 a2) (by omega) (by omega) (by omega) fun h5 o5 l5 _ B5 => ?_
      simp [wi]
      refine next (m - 1) _ _ (by omega) ⟨o4.trans o5, by omega, i + 1, _, by simp, by omega, by simpa using hD, fun q hq => ?_, B5⟩
      rw [List.getElem?_set]
      by_cases c : i = q
      · subst c
        rw [if_pos rfl, if_pos (by omega), peakAt, List.getD_eq_getElem?_getD, List.getElem?_eq_getElem a2]
        rfl
      · rw [if_neg c]
        exact hDq q (by omega)
  · have eF : D = (List.range N).map fun i => t.2.getD (peakAt s.2 nn i) 0 := by
      apply List.ext_getElem?
      intro q
      rcases Nat.lt_or_ge q N with hq | hq
      · rw [hDq q (by omega), List.getElem?_map, List.getElem?_range hq]
        rfl
      · rw [List.getElem?_eq_none (by omega), List.getElem?_eq_none (by simp; omega)]
    rw [eF] at B4
    try simp
    refine wq_ptrs B4.box (by simp) ?_
    try simp
    refine wq_put r4 (by omega) (vs := [vD, vT]) (fun _ => by rw [cellsK_agg]) (by rfl) (by simp) fun h12 l12 k12 b12 => ?_
    simp at b12
    try simp
    refine wq_ptrs b12 (by simp) ?_
    try simp
    exact wp_some ⟨o04.trans (old_put l12 k12 (by omega) (by omega)), by rw [eT]; exact (B4.told l12 k12 (by omega)).mono (by omega)⟩
end
end Go.AM

/- One node's slope: the program's. -/
namespace Go.AM
set_option maxRecDepth 20000
set_option maxHeartbeats 1000000
attribute [local simp] layAt
attribute [local irreducible] lenK sliceK idxK fldK cutK storeK appK copyK clearK mapAtK callK loopH readK readK1 guardK grdK fnK nilK fieldK extrK strK nextK joinK iteK intK boolK cellsK castK castL castEnv binK unK intBin layParts execN runOpsN runItemsN denN call loop blockK
/-- A node's slope, by the values and the slopes of what it is made of. -/
def slopeAt (n : node.den) (v s : List tensor.den) : tensor.den :=
  let a := v.getD 0 noT
  let c := v.getD 1 noT
  let p := s.getD 0 noT
  let q := s.getD 1 noT
  if n.2.1 = 3 then (n.2.2.2.1, List.replicate (prodI n.2.2.2.1).toNat 0)
  else if n.2.1 = 6 ∨ n.2.1 = 9 then ((doT n.2.1 0 [] [p, c]).1, List.zipWith (fun x y => w64 (x + y)) (doT n.2.1 0 [] [p, c]).2 (doT n.2.1 0 [] [a, q]).2)
  else if n.2.1 = 14 then (a.1, stepL a.2 p.2)
  else if n.2.1 = 15 then peaksT a p n.2.2.2.2
  else if n.2.1 = 16 then (a.1, stepL a.2 q.2)
  else if n.2.1 = 17 then pickT a q n.2.2.2.2
  else doT n.2.1 n.2.2.2.2 (askD n) s
/-- Slopes as values are: of the same dims. -/
structure Alike (v s : List tensor.den) : Prop where
  dims : s.map (·.1) = v.map (·.1)
  ok : ∀ t ∈ s, tenOk t = true
theorem Alike.good {v s : List tensor.den} {k n : Int} {d x : List Int} (A : Alike v s) (G : Good k n d v x) : Good k n d s x :=
  ⟨by rw [A.dims]; exact G.form, by rw [A.dims]; exact G.dims, A.ok, G.leaf⟩
theorem Alike.len {v s : List tensor.den} (A : Alike v s) : s.length = v.length := by
  have := congrArg List.length A.dims
  simpa using this
theorem good_mix {a c p q : tensor.den} {k n : Int} {d x : List Int} (G : Good k n d [a, c] x) (A : Alike [a, c] [p, q]) (hk : k = 6 ∨ k = 9) : Good k 0 [] [p, c] x ∧ Good k 0 [] [a, q] x := by
  have hd := A.dims
  simp at hd
  have hn : n = 0 ∧ d = [] := by
    have h1 := G.form
    simp only [formOk, Bool.and_eq_true, decide_eq_true_eq] at h1
    rcases hk with rfl | rfl <;> simpa [numberOk, asked] using And.intro h1.1.2 h1.2
  obtain ⟨rfl, rfl⟩ := hn
  refine ⟨⟨?_, ?_, ?_, G.leaf⟩, ⟨?_, ?_, ?_, G.leaf⟩⟩
  · have := G.form
    simpa [hd] using this
  · have := G.dims
    simpa [hd] using this
  · intro t ht
    simp at ht
    rcases ht with rfl | rfl
    · exact A.ok _ (by simp)
    · exact G.ok _ (by simp)
  · have := G.form
    simpa [hd] using this
  · have := G.dims
    simpa [hd] using this
  · intro t ht
    simp at ht
    rcases ht with rfl | rfl
    · exact G.ok _ (by simp)
    · exact A.ok _ (by simp)
section
variable {R : Type} {Q : R → Prop} {h : Heap}
theorem slope_one {nm : ByteArray} {k n : Int} {args dims : List Int} {cs : List AV} {vv vs : AV} {v s : List tensor.den} {x : List Int} (hn : In h node (nm, k, args, dims, n) cs) (hv : In h tensors v [vv]) (hs : In h tensors s [vs]) (G : Good k n (askD (nm, k, args, dims, n)) v x) (A : Alike v s) (b : Nat) (hb : b ≤ h.length) :
    WP (call prog b 245 [.agg cs, vv, vs] h) fun r => Old h.length h r.2 ∧ TenAt h.length r.2 (slopeAt (nm, k, args, dims, n) v s) r.1 := by
  obtain ⟨vA, vD, rfl, hA, hD, _, hnum, _⟩ := hn.node
  simp only at hA hD hnum
  have hm := formOk_many G.form
  have hk : 1 ≤ k ∧ k ≤ 17 := formOk_kind G.form
  have hlf : k ≠ 1 ∧ k ≠ 2 := G.leaf
  have hsl := A.len
  rw [List.length_map] at hm
  refine wp_enter (fn := C.slope_one) rfl ?_
  dsimp only [bodyN, C.slope_one]
  generalize hh : h ++ [AObj.cells 0 1 [AV.str nm, AV.int IntKind.i64 k, vA, vD, AV.int IntKind.i64 n], AObj.cells 0 1 [AV.nil, AV.nil]] = h1
  have o1 : Old h.length h h1 := hh ▸ Old.app
  have l1 : h1.length = h.length + 2 := by rw [← hh]; simp
  have b1 : Box h1 h.length [AV.str nm, AV.int IntKind.i64 k, vA, vD, AV.int IntKind.i64 n] := by rw [← hh]; simp [Box]
  have r1 : Box h1 (h.length + 1) [AV.nil, AV.nil] := by rw [← hh]; simp [Box]
  have lr1 := r1.lt
  have hn1 := In.old o1 hn
  have hv1 := In.old o1 hv
  have hs1 := In.old o1 hs
  have hD1 := In.old o1 hD
  simp [hh]
  refine wq_ptr b1 rfl ?_
  have hk : k = 3 ∨ k = 4 ∨ k = 5 ∨ k = 6 ∨ k = 7 ∨ k = 8 ∨ k = 9 ∨ k = 10 ∨ k = 11 ∨ k = 12 ∨ k = 13 ∨ k = 14 ∨ k = 15 ∨ k = 16 ∨ k = 17 := by omega
  rcases hk with rfl | rfl | rfl | rfl | rfl | rfl | rfl | rfl | rfl | rfl | rfl | rfl | rfl | rfl | rfl
  all_goals simp [many] at hm
  all_goals simp
  · refine wq_ptr b1 rfl ?_
    try simp
    refine wp_call (shape_New hD1 (good_d G rfl) _ (by omega)) fun v2 h2 ⟨o2, T2⟩ => ?_
    simp only at o2 T2
    obtain ⟨vd', vt', rfl⟩ := T2.agg; have l2 := o2.1; have r2 := r1.old o2 (by omega); (try simp); refine wq_put r2 (by omega) (vs := [vd', vt']) (fun _ => by rw [cellsK_agg]) (by rfl) (by simp) fun h6 l6 k6 b6 => ?_; simp at b6; (try simp); refine wq_ptrs b6 (by simp) ?_; (try simp); refine wq_put b6 (by omega) (vs := [vd', vt']) (fun _ => by rw [cellsK_agg]) (by rfl) (by simp) fun h7 l7 k7 b7 => ?_; simp at b7; (try simp); refine wq_ptrs b7 (by simp) ?_; (try simp); exact wp_some ⟨((o1.trans (o2.mono (by omega))).trans (old_put l6 k6 (by omega) (by omega))).trans (old_put l7 k7 (by omega) (by omega)), ((T2.but l6 k6 (by omega)).but l7 k7 (by omega)).mono (by omega)⟩
  · refine wq_ptr b1 rfl ?_
    try simp
    refine wq_ptr b1 rfl ?_
    try simp
    refine wq_ptrs b1 (by simp) ?_
    try simp
    refine wp_call (graph_Asked hn1 _ (Nat.le_refl _)) fun vq h2 ⟨o1q, hq⟩ => ?_
    simp only at o1q hq
    have lq := o1q.1
    try simp
    refine wp_call (kernel_Do (d := askD (nm, 4, args, dims, n)) (In.old o1q hq) (In.old o1q hs1) hnum (A.good G) _ (by omega)) fun v2 h3 ⟨o23, v3, e3, T3⟩ => ?_
    simp only at o23 e3 T3
    subst e3
    have o2 := o1q.trans (o23.mono lq)
    have T2 : TenAt h1.length h3 (slopeAt (nm, 4, args, dims, n) v s) v3 := T3.mono lq
    obtain ⟨vd', vt', rfl⟩ := T2.agg; have l2 := o2.1; have r2 := r1.old o2 (by omega); (try simp); refine wq_put r2 (by omega) (vs := [vd', vt']) (fun _ => by rw [cellsK_agg]) (by rfl) (by simp) fun h6 l6 k6 b6 => ?_; simp at b6; (try simp); refine wq_ptrs b6 (by simp) ?_; (try simp); refine wq_put b6 (by omega) (vs := [vd', vt']) (fun _ => by rw [cellsK_agg]) (by rfl) (by simp) fun h7 l7 k7 b7 => ?_; simp at b7; (try simp); refine wq_ptrs b7 (by simp) ?_; (try simp); exact wp_some ⟨((o1.trans (o2.mono (by omega))).trans (old_put l6 k6 (by omega) (by omega))).trans (old_put l7 k7 (by omega) (by omega)), ((T2.but l6 k6 (by omega)).but l7 k7 (by omega)).mono (by omega)⟩
  · refine wq_ptr b1 rfl ?_
    try simp
    refine wq_ptr b1 rfl ?_
    try simp
    refine wq_ptrs b1 (by simp) ?_
    try simp
    refine wp_call (graph_Asked hn1 _ (Nat.le_refl _)) fun vq h2 ⟨o1q, hq⟩ => ?_
    simp only at o1q hq
    have lq := o1q.1
    try simp
    refine wp_call (kernel_Do (d := askD (nm, 5, args, dims, n)) (In.old o1q hq) (In.old o1q hs1) hnum (A.good G) _ (by omega)) fun v2 h3 ⟨o23, v3, e3, T3⟩ => ?_
    simp only at o23 e3 T3
    subst e3
    have o2 := o1q.trans (o23.mono lq)
    have T2 : TenAt h1.length h3 (slopeAt (nm, 5, args, dims, n) v s) v3 := T3.mono lq
    obtain ⟨vd', vt', rfl⟩ := T2.agg; have l2 := o2.1; have r2 := r1.old o2 (by omega); (try simp); refine wq_put r2 (by omega) (vs := [vd', vt']) (fun _ => by rw [cellsK_agg]) (by rfl) (by simp) fun h6 l6 k6 b6 => ?_; simp at b6; (try simp); refine wq_ptrs b6 (by simp) ?_; (try simp); refine wq_put b6 (by omega) (vs := [vd', vt']) (fun _ => by rw [cellsK_agg]) (by rfl) (by simp) fun h7 l7 k7 b7 => ?_; simp at b7; (try simp); refine wq_ptrs b7 (by simp) ?_; (try simp); exact wp_some ⟨((o1.trans (o2.mono (by omega))).trans (old_put l6 k6 (by omega) (by omega))).trans (old_put l7 k7 (by omega) (by omega)), ((T2.but l6 k6 (by omega)).but l7 k7 (by omega)).mono (by omega)⟩
  · obtain ⟨a, c, rfl⟩ := len2 (l := v) (by omega); obtain ⟨p, q, rfl⟩ := len2 (l := s) (by omega)
    obtain ⟨G1, G2⟩ := good_mix G A (by simp)
    refine wq_ptr b1 rfl ?_
    try simp
    refine wq_idx hs1 (by rfl) (by omega) (by simp) ?_
    try simp
    refine wq_tensor hs1 (by simp) fun dp tp hdp htp => ?_
    try simp
    refine wq_idx hv1 (by rfl) (by omega) (by simp) ?_
    try simp
    refine wq_tensor hv1 (by simp) fun dc tc hdc htc => ?_
    try simp
    have Ha := in_new (h := h1) (s := 2) (n := 2) (l := [p, c]) (p := tensor) ⟨_, _, rfl, holds_ten hdp htp, _, [], (List.append_nil _).symm, holds_ten hdc htc, rfl⟩ (by simp) (by rfl) (by simp)
    simp at Ha
    have oa : Old h1.length h1 (h1 ++ [AObj.cells 0 2 [dp, tp, dc, tc]]) := Old.app
    have la : (h1 ++ [AObj.cells 0 2 [dp, tp, dc, tc]]).length = h1.length + 1 := by simp
    generalize h1 ++ [AObj.cells 0 2 [dp, tp, dc, tc]] = g1 at *
    refine wp_call (kernel_Do (d := []) in_nil Ha (by omega) G1 _ (by omega)) fun v2 g2 ⟨oa2, v3, e3, T3⟩ => ?_
    simp only at oa2 e3 T3
    subst e3
    have la2 := oa2.1
    have og2 := oa.trans (oa2.mono (by omega))
    try simp
    refine wp_initT T3 (by omega) fun xD xT kx g3 ex ox ltx BX => ?_
    subst ex
    have lx := ox.1
    have og3 := og2.trans (ox.mono (by omega))
    have b3 := b1.old og3 (by omega)
    have r3 := r1.old og3 (by omega)
    have hs3 := In.old og3 hs1
    have hv3 := In.old og3 hv1
    have lbx := BX.lt
    try simp
    refine wq_ptr b3 rfl ?_
    try simp
    refine wq_idx hv3 (by rfl) (by omega) (by simp) ?_
    try simp
    refine wq_tensor hv3 (by simp) fun da ta hda hta => ?_
    try simp
    refine wq_idx hs3 (by rfl) (by omega) (by simp) ?_
    try simp
    refine wq_tensor hs3 (by simp) fun dq tq hdq htq => ?_
    try simp
    have Hb := in_new (h := g3) (s := 2) (n := 2) (l := [a, q]) (p := tensor) ⟨_, _, rfl, holds_ten hda hta, _, [], (List.append_nil _).symm, holds_ten hdq htq, rfl⟩ (by simp) (by rfl) (by simp)
    simp at Hb
    have ob : Old g3.length g3 (g3 ++ [AObj.cells 0 2 [da, ta, dq, tq]]) := Old.app
    have lb : (g3 ++ [AObj.cells 0 2 [da, ta, dq, tq]]).length = g3.length + 1 := by simp
    generalize g3 ++ [AObj.cells 0 2 [da, ta, dq, tq]] = g4 at *
    refine wp_call (kernel_Do (d := []) in_nil Hb (by omega) G2 _ (by omega)) fun v5 g5 ⟨ob5, v6, e6, T6⟩ => ?_
    simp only at ob5 e6 T6
    subst e6
    have lb5 := ob5.1
    try simp
    refine wp_initT T6 (by omega) fun yD yT ky g6 ey oy lty BY => ?_
    subst ey
    have ly := oy.1
    have o36 := ob.trans ((ob5.trans (oy.mono lb5)).mono (by omega))
    have BX6 := BX.old o36
    have r6' := r3.old o36 (by omega)
    have og6 := og3.trans (o36.mono (by omega))
    try simp
    refine wq_ptrs BX6.box (by simp) ?_
    try simp
    refine wq_ptrs BY.box (by simp) ?_
    try simp
    have X1 := doT_ok G1
    have X2 := doT_ok G2
    refine wp_call (ring_Add BX6.tin BY.tin X1.2 X2.2 (by rw [X1.1, X2.1]) _ (by omega)) fun v7 g7 ⟨o7, v8, e8, T8⟩ => ?_
    simp only at o7 e8 T8
    subst e8
    have o2 := og6.trans (o7.mono (by omega))
    have T2 : TenAt h1.length g7 (slopeAt (nm, 6, args, dims, n) [a, c] [p, q]) v8 := T8.mono (by omega)
    obtain ⟨vd', vt', rfl⟩ := T2.agg; have l2 := o2.1; have r2 := r1.old o2 (by omega); (try simp); refine wq_put r2 (by omega) (vs := [vd', vt']) (fun _ => by rw [cellsK_agg]) (by rfl) (by simp) fun h6 l6 k6 b6 => ?_; simp at b6; (try simp); refine wq_ptrs b6 (by simp) ?_; (try simp); refine wq_put b6 (by omega) (vs := [vd', vt']) (fun _ => by rw [cellsK_agg]) (by rfl) (by simp) fun h7 l7 k7 b7 => ?_; simp at b7; (try simp); refine wq_ptrs b7 (by simp) ?_; (try simp); exact wp_some ⟨((o1.trans (o2.mono (by omega))).trans (old_put l6 k6 (by omega) (by omega))).trans (old_put l7 k7 (by omega) (by omega)), ((T2.but l6 k6 (by omega)).but l7 k7 (by omega)).mono (by omega)⟩
  · refine wq_ptr b1 rfl ?_
    try simp
    refine wq_ptr b1 rfl ?_
    try simp
    refine wq_ptrs b1 (by simp) ?_
    try simp
    refine wp_call (graph_Asked hn1 _ (Nat.le_refl _)) fun vq h2 ⟨o1q, hq⟩ => ?_
    simp only at o1q hq
    have lq := o1q.1
    try simp
    refine wp_call (kernel_Do (d := askD (nm, 7, args, dims, n)) (In.old o1q hq) (In.old o1q hs1) hnum (A.good G) _ (by omega)) fun v2 h3 ⟨o23, v3, e3, T3⟩ => ?_
    simp only at o23 e3 T3
    subst e3
    have o2 := o1q.trans (o23.mono lq)
    have T2 : TenAt h1.length h3 (slopeAt (nm, 7, args, dims, n) v s) v3 := T3.mono lq
    obtain ⟨vd', vt', rfl⟩ := T2.agg; have l2 := o2.1; have r2 := r1.old o2 (by omega); (try simp); refine wq_put r2 (by omega) (vs := [vd', vt']) (fun _ => by rw [cellsK_agg]) (by rfl) (by simp) fun h6 l6 k6 b6 => ?_; simp at b6; (try simp); refine wq_ptrs b6 (by simp) ?_; (try simp); refine wq_put b6 (by omega) (vs := [vd', vt']) (fun _ => by rw [cellsK_agg]) (by rfl) (by simp) fun h7 l7 k7 b7 => ?_; simp at b7; (try simp); refine wq_ptrs b7 (by simp) ?_; (try simp); exact wp_some ⟨((o1.trans (o2.mono (by omega))).trans (old_put l6 k6 (by omega) (by omega))).trans (old_put l7 k7 (by omega) (by omega)), ((T2.but l6 k6 (by omega)).but l7 k7 (by omega)).mono (by omega)⟩
  · refine wq_ptr b1 rfl ?_
    try simp
    refine wq_ptr b1 rfl ?_
    try simp
    refine wq_ptrs b1 (by simp) ?_
    try simp
    refine wp_call (graph_Asked hn1 _ (Nat.le_refl _)) fun vq h2 ⟨o1q, hq⟩ => ?_
    simp only at o1q hq
    have lq := o1q.1
    try simp
    refine wp_call (kernel_Do (d := askD (nm, 8, args, dims, n)) (In.old o1q hq) (In.old o1q hs1) hnum (A.good G) _ (by omega)) fun v2 h3 ⟨o23, v3, e3, T3⟩ => ?_
    simp only at o23 e3 T3
    subst e3
    have o2 := o1q.trans (o23.mono lq)
    have T2 : TenAt h1.length h3 (slopeAt (nm, 8, args, dims, n) v s) v3 := T3.mono lq
    obtain ⟨vd', vt', rfl⟩ := T2.agg; have l2 := o2.1; have r2 := r1.old o2 (by omega); (try simp); refine wq_put r2 (by omega) (vs := [vd', vt']) (fun _ => by rw [cellsK_agg]) (by rfl) (by simp) fun h6 l6 k6 b6 => ?_; simp at b6; (try simp); refine wq_ptrs b6 (by simp) ?_; (try simp); refine wq_put b6 (by omega) (vs := [vd', vt']) (fun _ => by rw [cellsK_agg]) (by rfl) (by simp) fun h7 l7 k7 b7 => ?_; simp at b7; (try simp); refine wq_ptrs b7 (by simp) ?_; (try simp); exact wp_some ⟨((o1.trans (o2.mono (by omega))).trans (old_put l6 k6 (by omega) (by omega))).trans (old_put l7 k7 (by omega) (by omega)), ((T2.but l6 k6 (by omega)).but l7 k7 (by omega)).mono (by omega)⟩
  · obtain ⟨a, c, rfl⟩ := len2 (l := v) (by omega); obtain ⟨p, q, rfl⟩ := len2 (l := s) (by omega)
    obtain ⟨G1, G2⟩ := good_mix G A (by simp)
    refine wq_ptr b1 rfl ?_
    try simp
    refine wq_idx hs1 (by rfl) (by omega) (by simp) ?_
    try simp
    refine wq_tensor hs1 (by simp) fun dp tp hdp htp => ?_
    try simp
    refine wq_idx hv1 (by rfl) (by omega) (by simp) ?_
    try simp
    refine wq_tensor hv1 (by simp) fun dc tc hdc htc => ?_
    try simp
    have Ha := in_new (h := h1) (s := 2) (n := 2) (l := [p, c]) (p := tensor) ⟨_, _, rfl, holds_ten hdp htp, _, [], (List.append_nil _).symm, holds_ten hdc htc, rfl⟩ (by simp) (by rfl) (by simp)
    simp at Ha
    have oa : Old h1.length h1 (h1 ++ [AObj.cells 0 2 [dp, tp, dc, tc]]) := Old.app
    have la : (h1 ++ [AObj.cells 0 2 [dp, tp, dc, tc]]).length = h1.length + 1 := by simp
    generalize h1 ++ [AObj.cells 0 2 [dp, tp, dc, tc]] = g1 at *
    refine wp_call (kernel_Do (d := []) in_nil Ha (by omega) G1 _ (by omega)) fun v2 g2 ⟨oa2, v3, e3, T3⟩ => ?_
    simp only at oa2 e3 T3
    subst e3
    have la2 := oa2.1
    have og2 := oa.trans (oa2.mono (by omega))
    try simp
    refine wp_initT T3 (by omega) fun xD xT kx g3 ex ox ltx BX => ?_
    subst ex
    have lx := ox.1
    have og3 := og2.trans (ox.mono (by omega))
    have b3 := b1.old og3 (by omega)
    have r3 := r1.old og3 (by omega)
    have hs3 := In.old og3 hs1
    have hv3 := In.old og3 hv1
    have lbx := BX.lt
    try simp
    refine wq_ptr b3 rfl ?_
    try simp
    refine wq_idx hv3 (by rfl) (by omega) (by simp) ?_
    try simp
    refine wq_tensor hv3 (by simp) fun da ta hda hta => ?_
    try simp
    refine wq_idx hs3 (by rfl) (by omega) (by simp) ?_
    try simp
    refine wq_tensor hs3 (by simp) fun dq tq hdq htq => ?_
    try simp
    have Hb := in_new (h := g3) (s := 2) (n := 2) (l := [a, q]) (p := tensor) ⟨_, _, rfl, holds_ten hda hta, _, [], (List.append_nil _).symm, holds_ten hdq htq, rfl⟩ (by simp) (by rfl) (by simp)
    simp at Hb
    have ob : Old g3.length g3 (g3 ++ [AObj.cells 0 2 [da, ta, dq, tq]]) := Old.app
    have lb : (g3 ++ [AObj.cells 0 2 [da, ta, dq, tq]]).length = g3.length + 1 := by simp
    generalize g3 ++ [AObj.cells 0 2 [da, ta, dq, tq]] = g4 at *
    refine wp_call (kernel_Do (d := []) in_nil Hb (by omega) G2 _ (by omega)) fun v5 g5 ⟨ob5, v6, e6, T6⟩ => ?_
    simp only at ob5 e6 T6
    subst e6
    have lb5 := ob5.1
    try simp
    refine wp_initT T6 (by omega) fun yD yT ky g6 ey oy lty BY => ?_
    subst ey
    have ly := oy.1
    have o36 := ob.trans ((ob5.trans (oy.mono lb5)).mono (by omega))
    have BX6 := BX.old o36
    have r6' := r3.old o36 (by omega)
    have og6 := og3.trans (o36.mono (by omega))
    try simp
    refine wq_ptrs BX6.box (by simp) ?_
    try simp
    refine wq_ptrs BY.box (by simp) ?_
    try simp
    have X1 := doT_ok G1
    have X2 := doT_ok G2
    refine wp_call (ring_Add BX6.tin BY.tin X1.2 X2.2 (by rw [X1.1, X2.1]) _ (by omega)) fun v7 g7 ⟨o7, v8, e8, T8⟩ => ?_
    simp only at o7 e8 T8
    subst e8
    have o2 := og6.trans (o7.mono (by omega))
    have T2 : TenAt h1.length g7 (slopeAt (nm, 9, args, dims, n) [a, c] [p, q]) v8 := T8.mono (by omega)
    obtain ⟨vd', vt', rfl⟩ := T2.agg; have l2 := o2.1; have r2 := r1.old o2 (by omega); (try simp); refine wq_put r2 (by omega) (vs := [vd', vt']) (fun _ => by rw [cellsK_agg]) (by rfl) (by simp) fun h6 l6 k6 b6 => ?_; simp at b6; (try simp); refine wq_ptrs b6 (by simp) ?_; (try simp); refine wq_put b6 (by omega) (vs := [vd', vt']) (fun _ => by rw [cellsK_agg]) (by rfl) (by simp) fun h7 l7 k7 b7 => ?_; simp at b7; (try simp); refine wq_ptrs b7 (by simp) ?_; (try simp); exact wp_some ⟨((o1.trans (o2.mono (by omega))).trans (old_put l6 k6 (by omega) (by omega))).trans (old_put l7 k7 (by omega) (by omega)), ((T2.but l6 k6 (by omega)).but l7 k7 (by omega)).mono (by omega)⟩
  · refine wq_ptr b1 rfl ?_
    try simp
    refine wq_ptr b1 rfl ?_
    try simp
    refine wq_ptrs b1 (by simp) ?_
    try simp
    refine wp_call (graph_Asked hn1 _ (Nat.le_refl _)) fun vq h2 ⟨o1q, hq⟩ => ?_
    simp only at o1q hq
    have lq := o1q.1
    try simp
    refine wp_call (kernel_Do (d := askD (nm, 10, args, dims, n)) (In.old o1q hq) (In.old o1q hs1) hnum (A.good G) _ (by omega)) fun v2 h3 ⟨o23, v3, e3, T3⟩ => ?_
    simp only at o23 e3 T3
    subst e3
    have o2 := o1q.trans (o23.mono lq)
    have T2 : TenAt h1.length h3 (slopeAt (nm, 10, args, dims, n) v s) v3 := T3.mono lq
    obtain ⟨vd', vt', rfl⟩ := T2.agg; have l2 := o2.1; have r2 := r1.old o2 (by omega); (try simp); refine wq_put r2 (by omega) (vs := [vd', vt']) (fun _ => by rw [cellsK_agg]) (by rfl) (by simp) fun h6 l6 k6 b6 => ?_; simp at b6; (try simp); refine wq_ptrs b6 (by simp) ?_; (try simp); refine wq_put b6 (by omega) (vs := [vd', vt']) (fun _ => by rw [cellsK_agg]) (by rfl) (by simp) fun h7 l7 k7 b7 => ?_; simp at b7; (try simp); refine wq_ptrs b7 (by simp) ?_; (try simp); exact wp_some ⟨((o1.trans (o2.mono (by omega))).trans (old_put l6 k6 (by omega) (by omega))).trans (old_put l7 k7 (by omega) (by omega)), ((T2.but l6 k6 (by omega)).but l7 k7 (by omega)).mono (by omega)⟩
  · refine wq_ptr b1 rfl ?_
    try simp
    refine wq_ptr b1 rfl ?_
    try simp
    refine wq_ptrs b1 (by simp) ?_
    try simp
    refine wp_call (graph_Asked hn1 _ (Nat.le_refl _)) fun vq h2 ⟨o1q, hq⟩ => ?_
    simp only at o1q hq
    have lq := o1q.1
    try simp
    refine wp_call (kernel_Do (d := askD (nm, 11, args, dims, n)) (In.old o1q hq) (In.old o1q hs1) hnum (A.good G) _ (by omega)) fun v2 h3 ⟨o23, v3, e3, T3⟩ => ?_
    simp only at o23 e3 T3
    subst e3
    have o2 := o1q.trans (o23.mono lq)
    have T2 : TenAt h1.length h3 (slopeAt (nm, 11, args, dims, n) v s) v3 := T3.mono lq
    obtain ⟨vd', vt', rfl⟩ := T2.agg; have l2 := o2.1; have r2 := r1.old o2 (by omega); (try simp); refine wq_put r2 (by omega) (vs := [vd', vt']) (fun _ => by rw [cellsK_agg]) (by rfl) (by simp) fun h6 l6 k6 b6 => ?_; simp at b6; (try simp); refine wq_ptrs b6 (by simp) ?_; (try simp); refine wq_put b6 (by omega) (vs := [vd', vt']) (fun _ => by rw [cellsK_agg]) (by rfl) (by simp) fun h7 l7 k7 b7 => ?_; simp at b7; (try simp); refine wq_ptrs b7 (by simp) ?_; (try simp); exact wp_some ⟨((o1.trans (o2.mono (by omega))).trans (old_put l6 k6 (by omega) (by omega))).trans (old_put l7 k7 (by omega) (by omega)), ((T2.but l6 k6 (by omega)).but l7 k7 (by omega)).mono (by omega)⟩
  · refine wq_ptr b1 rfl ?_
    try simp
    refine wq_ptr b1 rfl ?_
    try simp
    refine wq_ptrs b1 (by simp) ?_
    try simp
    refine wp_call (graph_Asked hn1 _ (Nat.le_refl _)) fun vq h2 ⟨o1q, hq⟩ => ?_
    simp only at o1q hq
    have lq := o1q.1
    try simp
    refine wp_call (kernel_Do (d := askD (nm, 12, args, dims, n)) (In.old o1q hq) (In.old o1q hs1) hnum (A.good G) _ (by omega)) fun v2 h3 ⟨o23, v3, e3, T3⟩ => ?_
    simp only at o23 e3 T3
    subst e3
    have o2 := o1q.trans (o23.mono lq)
    have T2 : TenAt h1.length h3 (slopeAt (nm, 12, args, dims, n) v s) v3 := T3.mono lq
    obtain ⟨vd', vt', rfl⟩ := T2.agg; have l2 := o2.1; have r2 := r1.old o2 (by omega); (try simp); refine wq_put r2 (by omega) (vs := [vd', vt']) (fun _ => by rw [cellsK_agg]) (by rfl) (by simp) fun h6 l6 k6 b6 => ?_; simp at b6; (try simp); refine wq_ptrs b6 (by simp) ?_; (try simp); refine wq_put b6 (by omega) (vs := [vd', vt']) (fun _ => by rw [cellsK_agg]) (by rfl) (by simp) fun h7 l7 k7 b7 => ?_; simp at b7; (try simp); refine wq_ptrs b7 (by simp) ?_; (try simp); exact wp_some ⟨((o1.trans (o2.mono (by omega))).trans (old_put l6 k6 (by omega) (by omega))).trans (old_put l7 k7 (by omega) (by omega)), ((T2.but l6 k6 (by omega)).but l7 k7 (by omega)).mono (by omega)⟩
  · refine wq_ptr b1 rfl ?_
    try simp
    refine wq_ptr b1 rfl ?_
    try simp
    refine wq_ptrs b1 (by simp) ?_
    try simp
    refine wp_call (graph_Asked hn1 _ (Nat.le_refl _)) fun vq h2 ⟨o1q, hq⟩ => ?_
    simp only at o1q hq
    have lq := o1q.1
    try simp
    refine wp_call (kernel_Do (d := askD (nm, 13, args, dims, n)) (In.old o1q hq) (In.old o1q hs1) hnum (A.good G) _ (by omega)) fun v2 h3 ⟨o23, v3, e3, T3⟩ => ?_
    simp only at o23 e3 T3
    subst e3
    have o2 := o1q.trans (o23.mono lq)
    have T2 : TenAt h1.length h3 (slopeAt (nm, 13, args, dims, n) v s) v3 := T3.mono lq
    obtain ⟨vd', vt', rfl⟩ := T2.agg; have l2 := o2.1; have r2 := r1.old o2 (by omega); (try simp); refine wq_put r2 (by omega) (vs := [vd', vt']) (fun _ => by rw [cellsK_agg]) (by rfl) (by simp) fun h6 l6 k6 b6 => ?_; simp at b6; (try simp); refine wq_ptrs b6 (by simp) ?_; (try simp); refine wq_put b6 (by omega) (vs := [vd', vt']) (fun _ => by rw [cellsK_agg]) (by rfl) (by simp) fun h7 l7 k7 b7 => ?_; simp at b7; (try simp); refine wq_ptrs b7 (by simp) ?_; (try simp); exact wp_some ⟨((o1.trans (o2.mono (by omega))).trans (old_put l6 k6 (by omega) (by omega))).trans (old_put l7 k7 (by omega) (by omega)), ((T2.but l6 k6 (by omega)).but l7 k7 (by omega)).mono (by omega)⟩
  · obtain ⟨a, rfl⟩ := len1 (l := v) (by omega); obtain ⟨p, rfl⟩ := len1 (l := s) (by omega)
    refine wq_idx hv1 (by rfl) (by omega) (by simp) ?_
    try simp
    refine wq_tensor hv1 (by simp) fun da ta hda hta => ?_
    try simp
    refine wq_idx hs1 (by rfl) (by omega) (by simp) ?_
    try simp
    refine wq_tensor hs1 (by simp) fun dp tp hdp htp => ?_
    try simp
    refine wp_call (gate_Step (s := a) (t := p) (holds_ten hda hta) (holds_ten hdp htp) (G.ok a (by simp)) (A.ok p (by simp)) (by have := A.dims; simp at this; exact this.symm) _ (by omega)) fun v2 h2 ⟨o2, v3, e3, T2⟩ => ?_
    simp only at o2 e3 T2
    subst e3
    obtain ⟨vd', vt', rfl⟩ := T2.agg; have l2 := o2.1; have r2 := r1.old o2 (by omega); (try simp); refine wq_put r2 (by omega) (vs := [vd', vt']) (fun _ => by rw [cellsK_agg]) (by rfl) (by simp) fun h6 l6 k6 b6 => ?_; simp at b6; (try simp); refine wq_ptrs b6 (by simp) ?_; (try simp); refine wq_put b6 (by omega) (vs := [vd', vt']) (fun _ => by rw [cellsK_agg]) (by rfl) (by simp) fun h7 l7 k7 b7 => ?_; simp at b7; (try simp); refine wq_ptrs b7 (by simp) ?_; (try simp); exact wp_some ⟨((o1.trans (o2.mono (by omega))).trans (old_put l6 k6 (by omega) (by omega))).trans (old_put l7 k7 (by omega) (by omega)), ((T2.but l6 k6 (by omega)).but l7 k7 (by omega)).mono (by omega)⟩
  · obtain ⟨a, rfl⟩ := len1 (l := v) (by omega); obtain ⟨p, rfl⟩ := len1 (l := s) (by omega)
    refine wq_idx hv1 (by rfl) (by omega) (by simp) ?_
    try simp
    refine wq_tensor hv1 (by simp) fun da ta hda hta => ?_
    try simp
    refine wq_idx hs1 (by rfl) (by omega) (by simp) ?_
    try simp
    refine wq_tensor hs1 (by simp) fun dp tp hdp htp => ?_
    try simp
    refine wq_ptr b1 rfl ?_
    try simp
    refine wp_call (slope_peaks (s := a) (t := p) (holds_ten hda hta) (holds_ten hdp htp) (G.ok a (by simp)) (A.ok p (by simp)) (by have := A.dims; simp at this; exact this.symm) (good_num G (.inl rfl)) (by have := G.dims; simp [inferD] at this; exact this.1) _ (by omega)) fun v2 h2 ⟨o2, T2⟩ => ?_
    simp only at o2 T2
    obtain ⟨vd', vt', rfl⟩ := T2.agg; have l2 := o2.1; have r2 := r1.old o2 (by omega); (try simp); refine wq_put r2 (by omega) (vs := [vd', vt']) (fun _ => by rw [cellsK_agg]) (by rfl) (by simp) fun h6 l6 k6 b6 => ?_; simp at b6; (try simp); refine wq_ptrs b6 (by simp) ?_; (try simp); refine wq_put b6 (by omega) (vs := [vd', vt']) (fun _ => by rw [cellsK_agg]) (by rfl) (by simp) fun h7 l7 k7 b7 => ?_; simp at b7; (try simp); refine wq_ptrs b7 (by simp) ?_; (try simp); exact wp_some ⟨((o1.trans (o2.mono (by omega))).trans (old_put l6 k6 (by omega) (by omega))).trans (old_put l7 k7 (by omega) (by omega)), ((T2.but l6 k6 (by omega)).but l7 k7 (by omega)).mono (by omega)⟩
  · obtain ⟨a, c, rfl⟩ := len2 (l := v) (by omega); obtain ⟨p, q, rfl⟩ := len2 (l := s) (by omega)
    refine wq_idx hv1 (by rfl) (by omega) (by simp) ?_
    try simp
    refine wq_tensor hv1 (by simp) fun da ta hda hta => ?_
    try simp
    refine wq_idx hs1 (by rfl) (by omega) (by simp) ?_
    try simp
    refine wq_tensor hs1 (by simp) fun dq tq hdq htq => ?_
    try simp
    refine wp_call (gate_Step (s := a) (t := q) (holds_ten hda hta) (holds_ten hdq htq) (G.ok a (by simp)) (A.ok q (by simp)) (by have := A.dims; have g := G.dims; simp [inferD] at this g; rw [this.2]; exact g.1) _ (by omega)) fun v2 h2 ⟨o2, v3, e3, T2⟩ => ?_
    simp only at o2 e3 T2
    subst e3
    obtain ⟨vd', vt', rfl⟩ := T2.agg; have l2 := o2.1; have r2 := r1.old o2 (by omega); (try simp); refine wq_put r2 (by omega) (vs := [vd', vt']) (fun _ => by rw [cellsK_agg]) (by rfl) (by simp) fun h6 l6 k6 b6 => ?_; simp at b6; (try simp); refine wq_ptrs b6 (by simp) ?_; (try simp); refine wq_put b6 (by omega) (vs := [vd', vt']) (fun _ => by rw [cellsK_agg]) (by rfl) (by simp) fun h7 l7 k7 b7 => ?_; simp at b7; (try simp); refine wq_ptrs b7 (by simp) ?_; (try simp); exact wp_some ⟨((o1.trans (o2.mono (by omega))).trans (old_put l6 k6 (by omega) (by omega))).trans (old_put l7 k7 (by omega) (by omega)), ((T2.but l6 k6 (by omega)).but l7 k7 (by omega)).mono (by omega)⟩
  · obtain ⟨a, c, rfl⟩ := len2 (l := v) (by omega); obtain ⟨p, q, rfl⟩ := len2 (l := s) (by omega)
    refine wq_idx hv1 (by rfl) (by omega) (by simp) ?_
    try simp
    refine wq_tensor hv1 (by simp) fun da ta hda hta => ?_
    try simp
    refine wq_idx hs1 (by rfl) (by omega) (by simp) ?_
    try simp
    refine wq_tensor hs1 (by simp) fun dq tq hdq htq => ?_
    try simp
    refine wq_ptr b1 rfl ?_
    try simp
    refine wp_call (gate_Pick (s := a) (t := q) (holds_ten hda hta) (holds_ten hdq htq) (G.ok a (by simp)) (A.ok q (by simp)) (good_num G (.inr rfl)) (by have g := G.dims; simp [inferD] at g; exact g.1.1) (by have := A.dims; have g := G.dims; simp [inferD] at this g; rw [this.2]; exact g.1.2) _ (by omega)) fun v2 h2 ⟨o2, v3, e3, T2⟩ => ?_
    simp only at o2 e3 T2
    subst e3
    obtain ⟨vd', vt', rfl⟩ := T2.agg; have l2 := o2.1; have r2 := r1.old o2 (by omega); (try simp); refine wq_put r2 (by omega) (vs := [vd', vt']) (fun _ => by rw [cellsK_agg]) (by rfl) (by simp) fun h6 l6 k6 b6 => ?_; simp at b6; (try simp); refine wq_ptrs b6 (by simp) ?_; (try simp); refine wq_put b6 (by omega) (vs := [vd', vt']) (fun _ => by rw [cellsK_agg]) (by rfl) (by simp) fun h7 l7 k7 b7 => ?_; simp at b7; (try simp); refine wq_ptrs b7 (by simp) ?_; (try simp); exact wp_some ⟨((o1.trans (o2.mono (by omega))).trans (old_put l6 k6 (by omega) (by omega))).trans (old_put l7 k7 (by omega) (by omega)), ((T2.but l6 k6 (by omega)).but l7 k7 (by omega)).mono (by omega)⟩
end
end Go.AM

/- All slopes, plainly. -/
namespace Go.AM
set_option maxRecDepth 20000
set_option maxHeartbeats 1000000
attribute [local simp] layAt
attribute [local irreducible] lenK sliceK idxK fldK cutK storeK appK copyK clearK mapAtK callK loopH readK readK1 guardK grdK fnK nilK fieldK extrK strK nextK joinK iteK intK boolK cellsK castK castL castEnv binK unK intBin layParts execN runOpsN runItemsN denN call loop blockK
theorem slopeAt_ok {nm : ByteArray} {k n : Int} {args dims : List Int} {v s : List tensor.den} (G : Good k n (askD (nm, k, args, dims, n)) v dims) (A : Alike v s) : (slopeAt (nm, k, args, dims, n) v s).1 = dims ∧ tenOk (slopeAt (nm, k, args, dims, n) v s) = true := by
  have hm := formOk_many G.form
  have hk : 1 ≤ k ∧ k ≤ 17 := formOk_kind G.form
  have hlf : k ≠ 1 ∧ k ≠ 2 := G.leaf
  have hsl := A.len
  have hd := doT_ok G
  have hs := doT_ok (A.good G)
  rw [List.length_map] at hm
  have hk : k = 3 ∨ k = 4 ∨ k = 5 ∨ k = 6 ∨ k = 7 ∨ k = 8 ∨ k = 9 ∨ k = 10 ∨ k = 11 ∨ k = 12 ∨ k = 13 ∨ k = 14 ∨ k = 15 ∨ k = 16 ∨ k = 17 := by omega
  have mul : ∀ a c p q : tensor.den, v = [a, c] → s = [p, q] → (k = 6 ∨ k = 9) → ((doT k 0 [] [p, c]).1, List.zipWith (fun x y => w64 (x + y)) (doT k 0 [] [p, c]).2 (doT k 0 [] [a, q]).2).1 = dims ∧ tenOk ((doT k 0 [] [p, c]).1, List.zipWith (fun x y => w64 (x + y)) (doT k 0 [] [p, c]).2 (doT k 0 [] [a, q]).2) = true := fun a c p q e1 e2 hk => by
    subst e1 e2
    obtain ⟨G1, G2⟩ := good_mix G A hk
    have X1 := doT_ok G1
    have X2 := doT_ok G2
    obtain ⟨u1, u2, u3, u4, u5⟩ := ten_parts X1.2
    obtain ⟨w1, w2, w3, w4, w5⟩ := ten_parts X2.2
    refine ⟨X1.1, tenOk_of u1 ?_⟩
    rw [X2.1, ← X1.1] at w2
    simp only [List.length_zipWith]
    omega
  rcases hk with rfl | rfl | rfl | rfl | rfl | rfl | rfl | rfl | rfl | rfl | rfl | rfl | rfl | rfl | rfl
  all_goals simp [many] at hm
  · have h3 := good_d G rfl
    have e : askD (nm, 3, args, dims, n) = dims := by simp [askD, asked]
    rw [e] at h3
    obtain ⟨p1, p2, p3⟩ := dimsOk_prod h3
    refine ⟨by simp [slopeAt], tenOk_of (by simpa [slopeAt] using h3) ?_⟩
    simp [slopeAt]
    omega
  · simpa [slopeAt] using hs
  · simpa [slopeAt] using hs
  · obtain ⟨a, c, e1⟩ := len2 (l := v) (by omega)
    obtain ⟨p, q, e2⟩ := len2 (l := s) (by omega)
    have := mul a c p q e1 e2 (by simp)
    subst e1 e2
    simpa [slopeAt] using this
  · simpa [slopeAt] using hs
  · simpa [slopeAt] using hs
  · obtain ⟨a, c, e1⟩ := len2 (l := v) (by omega)
    obtain ⟨p, q, e2⟩ := len2 (l := s) (by omega)
    have := mul a c p q e1 e2 (by simp)
    subst e1 e2
    simpa [slopeAt] using this
  · simpa [slopeAt] using hs
  · simpa [slopeAt] using hs
  · simpa [slopeAt] using hs
  · simpa [slopeAt] using hs
  · obtain ⟨a, rfl⟩ := len1 (l := v) (by omega)
    obtain ⟨p, rfl⟩ := len1 (l := s) (by omega)
    have da := A.dims
    simp at da
    simp [doT] at hd
    obtain ⟨a1, a2, _⟩ := ten_parts (G.ok a (by simp))
    obtain ⟨p1, p2, _⟩ := ten_parts (A.ok p (by simp))
    refine ⟨by simpa [slopeAt] using hd.1, tenOk_of (by simpa [slopeAt] using a1) ?_⟩
    rw [da] at p2
    simp [slopeAt, stepL]
    omega
  · obtain ⟨a, rfl⟩ := len1 (l := v) (by omega)
    obtain ⟨p, rfl⟩ := len1 (l := s) (by omega)
    simp [doT] at hd
    obtain ⟨a1, a2, _⟩ := ten_parts hd.2
    refine ⟨by simpa [slopeAt, peaksT, maxT] using hd.1, tenOk_of (by simpa [slopeAt, peaksT, maxT] using a1) ?_⟩
    simpa [slopeAt, peaksT, maxT] using a2
  · obtain ⟨a, c, rfl⟩ := len2 (l := v) (by omega)
    obtain ⟨p, q, rfl⟩ := len2 (l := s) (by omega)
    have da := A.dims
    simp at da
    simp [doT] at hd
    obtain ⟨a1, a2, _⟩ := ten_parts hd.2
    obtain ⟨q1, q2, _⟩ := ten_parts (A.ok q (by simp))
    obtain ⟨b1, b2, _⟩ := ten_parts (G.ok a (by simp))
    have g := G.dims
    simp [inferD] at g
    refine ⟨by simpa [slopeAt] using hd.1, tenOk_of (by simpa [slopeAt] using b1) ?_⟩
    rw [da.2, ← g.1] at q2
    simp [slopeAt, stepL]
    omega
  · obtain ⟨a, c, rfl⟩ := len2 (l := v) (by omega)
    obtain ⟨p, q, rfl⟩ := len2 (l := s) (by omega)
    simp [doT] at hd
    obtain ⟨b1, b2, _⟩ := ten_parts (G.ok a (by simp))
    refine ⟨by simpa [slopeAt, pickT] using hd.1, tenOk_of (by simpa [slopeAt, pickT] using b1) ?_⟩
    simp [slopeAt, pickT, pickTo_len]
    omega
/-- A node's slope. -/
def slopeOf (l : List node.den) (v d s : List tensor.den) (i : Nat) : tensor.den :=
  if leafK (nodeAt l i).2.1 = true then leafAt l d i else slopeAt (nodeAt l i) (partsOf v (nodeAt l i).2.2.1) (partsOf s (nodeAt l i).2.2.1)
def slopesTo (l : List node.den) (v d : List tensor.den) : Nat → List tensor.den
  | 0 => []
  | i + 1 => slopesTo l v d i ++ [slopeOf l v d (slopesTo l v d i) i]
def slopesL (l : List node.den) (x d : List tensor.den) : List tensor.den := slopesTo l (valuesL l x) d l.length
theorem slopesTo_len (l : List node.den) (v d : List tensor.den) : ∀ i, (slopesTo l v d i).length = i
  | 0 => rfl
  | i + 1 => by simp [slopesTo, slopesTo_len l v d i]
theorem parts_alike {l : List node.den} (hm : mayL l = true) {v s : List tensor.den} {i : Nat} (hi : i < l.length) (hv : ValsOk l v i) (hs : ValsOk l s i) : Alike (partsOf v l[i].2.2.1) (partsOf s l[i].2.2.1) := by
  obtain ⟨p1, _, _⟩ := nodeOk_parts (mayL_at hm hi)
  have at_ : ∀ a ∈ l[i].2.2.1, a.toNat < i ∧ a.toNat < l.length := fun a ha => by
    obtain ⟨h0, h1⟩ := argsOk_at p1 ha
    simp at h1
    omega
  refine ⟨?_, fun t ht => ?_⟩
  · rw [partsOf, partsOf, List.map_map, List.map_map]
    apply List.map_congr_left
    intro a ha
    obtain ⟨h1, h2⟩ := at_ a ha
    simp only [Function.comp]
    rw [(hs.at_ _ h1 h2).1, (hv.at_ _ h1 h2).1]
  · obtain ⟨a, ha, rfl⟩ := List.mem_map.1 ht
    obtain ⟨h1, h2⟩ := at_ a ha
    exact (hs.at_ _ h1 h2).2
theorem ValsOk.mono {l : List node.den} {v : List tensor.den} {i j : Nat} (H : ValsOk l v j) (hij : i ≤ j) : ValsOk l v i := ⟨Nat.le_trans hij H.len, fun q hq hl => H.at_ q (by omega) hl⟩
theorem slopeOf_ok {l : List node.den} {v d : List tensor.den} (hm : mayL l = true) (hf : fitsL l d = true) (hd : d.all tenOk = true) {s : List tensor.den} {i : Nat} (hi : i < l.length) (hv : ValsOk l v i) (hs : ValsOk l s i) : (slopeOf l v d s i).1 = l[i].2.2.2.1 ∧ tenOk (slopeOf l v d s i) = true := by
  rw [slopeOf, nodeAt_at hi]
  by_cases hk : leafK l[i].2.1 = true
  · rw [if_pos hk]
    exact leafAt_ok hf hd hi hk
  · rw [if_neg hk]
    exact slopeAt_ok (nm := l[i].1) (k := l[i].2.1) (args := l[i].2.2.1) (dims := l[i].2.2.2.1) (n := l[i].2.2.2.2) (parts_good hm hi hv (by simpa using hk)) (parts_alike hm hi hv hs)
theorem slopesTo_ok {l : List node.den} {v d : List tensor.den} (hm : mayL l = true) (hf : fitsL l d = true) (hd : d.all tenOk = true) (hv : ValsOk l v l.length) : ∀ {i}, i ≤ l.length → ValsOk l (slopesTo l v d i) i
  | 0, _ => ⟨Nat.zero_le _, fun q hq => absurd hq (Nat.not_lt_zero _)⟩
  | i + 1, hi => by
      have ih := slopesTo_ok hm hf hd hv (i := i) (by omega)
      have hl := slopesTo_len l v d i
      refine ⟨by rw [slopesTo_len]; omega, fun q hq hql => ?_⟩
      rw [slopesTo]
      rcases Nat.lt_or_ge q i with h | h
      · rw [getD_app_left (by omega)]
        exact ih.at_ q h hql
      · obtain rfl : q = i := by omega
        rw [getD_app_right hl.symm]
        exact slopeOf_ok hm hf hd hi (hv.mono (by omega)) ih
end Go.AM

/- All slopes: the program's. -/
namespace Go.AM
set_option maxRecDepth 20000
set_option maxHeartbeats 1000000
attribute [local simp] layAt
attribute [local irreducible] lenK sliceK idxK fldK cutK storeK appK copyK clearK mapAtK callK loopH readK readK1 guardK grdK fnK nilK fieldK extrK strK nextK joinK iteK intK boolK cellsK castK castL castEnv binK unK intBin layParts execN runOpsN runItemsN denN call loop blockK
/-- Slopes as far as a node, behind them what is given. -/
def slopeFar (l : List node.den) (v d : List tensor.den) (i : Nat) : List tensor.den := slopesTo l v d i ++ (givenL l d).drop i
theorem slopeFar_len {l : List node.den} {v d : List tensor.den} {i : Nat} (hi : i ≤ l.length) : (slopeFar l v d i).length = l.length := by
  rw [slopeFar, List.length_append, slopesTo_len, List.length_drop, givenL_len]
  omega
theorem slopeFar_parts {l : List node.den} {v d : List tensor.den} {i : Nat} {args : List Int} (ha : argsOk i args = true) : partsOf (slopeFar l v d i) args = partsOf (slopesTo l v d i) args := by
  apply List.map_congr_left
  intro a h
  obtain ⟨h0, h1⟩ := argsOk_at ha h
  rw [slopeFar, getD_app_left (by rw [slopesTo_len]; omega)]
theorem slopeFar_next {l : List node.den} {v d : List tensor.den} {i : Nat} (hi : i < l.length) : (slopeFar l v d i).set i (slopeOf l v d (slopesTo l v d i) i) = slopeFar l v d (i + 1) := by
  have hl := slopesTo_len l v d i
  rw [slopeFar, List.set_append, if_neg (by omega), hl, Nat.sub_self, List.drop_eq_getElem_cons (by rw [givenL_len]; exact hi), List.set_cons_zero, slopeFar, slopesTo, List.append_assoc]
  rfl
theorem slopeFar_leaf {l : List node.den} {v d : List tensor.den} {i : Nat} (hi : i < l.length) (hk : leafK l[i].2.1 = true) : slopeFar l v d i = slopeFar l v d (i + 1) := by
  have hg := givenL_at (x := d) hi hk
  have hl : i < (givenL l d).length := by rw [givenL_len]; exact hi
  rw [List.getD_eq_getElem?_getD, List.getElem?_eq_getElem hl] at hg
  have hg : (givenL l d)[i] = leafAt l d i := hg
  rw [slopeFar, slopeFar, slopesTo, List.drop_eq_getElem_cons hl, hg, slopeOf, nodeAt_at hi, if_pos hk]
  simp
theorem slopeOf_do {l : List node.den} {v d s : List tensor.den} {i : Nat} (hi : i < l.length) (hk : leafK l[i].2.1 = false) : slopeOf l v d s i = slopeAt l[i] (partsOf v l[i].2.2.1) (partsOf s l[i].2.2.1) := by
  rw [slopeOf, nodeAt_at hi, if_neg (by simp [hk])]
def askedE (l : List node.den) (x d : List tensor.den) : Int := if checkL l x = 1 ∨ checkL l d = 0 then checkL l x else checkL l d
theorem askedE_parts {l : List node.den} {x d : List tensor.den} (h : askedE l x d = 0) : checkL l x = 0 ∧ checkL l d = 0 := by
  unfold askedE at h
  split at h
  · rename_i h1
    omega
  · rename_i h1
    omega
section
variable {R : Type} {Q : R → Prop} {h : Heap}
theorem args_small {l : List node.den} (hm : mayL l = true) {i : Nat} (hi : i < l.length) : argsOk i l[i].2.2.1 = true ∧ l[i].2.2.1.length ≤ 1000000 := by
  obtain ⟨p1, p2, p3⟩ := nodeOk_parts (mayL_at hm hi)
  refine ⟨by rwa [List.length_take, Nat.min_eq_left (by omega)] at p1, ?_⟩
  have := formOk_many p2
  rw [List.length_map] at this
  simp [many] at this
  split at this
  · omega
  · split at this <;> omega
theorem slope_slopes {vl vx vd : AV} {l : List node.den} {x d : List tensor.den} (hl : In h nodes l [vl]) (hx : In h tensors x [vx]) (hd : In h tensors d [vd]) (hsm : Small l) (c1 : checkL l x = 0) (c2 : checkL l d = 0) (b : Nat) (hb : b ≤ h.length) :
    WP (call prog b 237 [vl, vx, vd] h) fun r => Old h.length h r.2 ∧ AccP h.length h.length r.2 tensor r.1 (slopesL l x d) := by
  obtain ⟨hm, xok, xf⟩ := checkL_parts c1
  obtain ⟨_, dok, df⟩ := checkL_parts c2
  have hlen := mayL_len hm
  have hdl : d.length = (ends l).length := (fits_len df).symm
  have hvo : ValsOk l (valuesL l x) l.length := valsTo_ok hm xf xok (Nat.le_refl _)
  have hvl := valuesL_len l x
  refine wp_enter (fn := C.slope_slopes) rfl ?_
  dsimp only [bodyN, C.slope_slopes, C.slope_slopes_l0]; simp
  refine wp_call (eval_Values hl hx hsm hm xf xok b hb) fun vv h1 ⟨o1, a1⟩ => ?_
  simp only at o1 a1
  have l1 := o1.1
  have hV := a1.in (Nat.le_refl _)
  try simp
  refine wp_call (eval_Given (In.old o1 hl) (In.old o1 hd) (by omega) hdl (List.all_eq_true.1 dok) b (by omega)) fun v h2 ⟨o2, a2, v2⟩ => ?_
  simp only at o2 a2 v2
  have l2 := o2.1
  have o02 := o1.trans (o2.mono l1)
  have hV2 := In.old o2 hV
  try simp
  refine wq_len (In.old o02 hl) ?_
  try simp
  refine wp_loop (I := fun m e h' => Old h1.length h1 h' ∧ h1.length ≤ h'.length ∧ ∃ (i : Nat), e = (ea 7 vv <| ea 8 v <| ea 17 vl <| ea 18 (.int .i64 l.length) <| ea 19 (.int .i64 (i : Nat)) e0) ∧ i + m = l.length ∧ AccP h1.length h1.length h' tensor v (slopeFar l (valuesL l x) d i)) ?_ ⟨o2, l2, 0, rfl, Nat.zero_add _, a2⟩
  rintro N m e' h3 ⟨o3, l3, i, rfl, him, acc⟩ next
  have o03 := o1.trans (o3.mono l1)
  have hl3 := In.old o03 hl
  have hV3 := In.old o3 hV
  dsimp only [C.slope_slopes_b0]; simp
  refine wp_dec (fun hi => ?_) fun hi => ?_
  · have wi := succ64 (i := i) (n := 240) (by omega) (by omega)
    try simp
    refine wq_idx hl3 (by rfl) (by omega) (by omega) ?_
    try simp
    refine wq_node hl3 hi fun va vd hva hvd hnode => ?_
    try simp
    refine wq_init (by omega) (by rfl) (by rfl) fun h4 o4 b4 lt4 => ?_
    have l4 := o4.1
    have acc4 := acc.keep o4
    have o14 := o3.trans (o4.mono l3)
    try simp
    refine wq_ptr b4 rfl ?_
    try simp
    refine wp_iteK (fun hk => ?_) fun hk => ?_
    · have hk : leafK l[i].2.1 = false := by simpa using hk
      obtain ⟨p1, hi2⟩ := args_small hm hi
      have pl := slopeFar_len (v := valuesL l x) (d := d) (i := i) (l := l) (by omega)
      have hso : ValsOk l (slopesTo l (valuesL l x) d i) i := slopesTo_ok hm df dok hvo (by omega)
      have G := parts_good hm hi (hvo.mono (by omega)) hk
      have A := parts_alike hm hi (hvo.mono (by omega)) hso
      have hn4 := In.old o4 hnode
      have hV4 := In.old o4 hV3
      try simp
      refine wq_ptrs b4 (by simp) ?_
      try simp
      refine wq_ptrs b4 (by simp) ?_
      try simp
      refine wp_call (eval_Of hV4 hn4 (argsOk_mono (by omega) p1) hi2 _ (Nat.le_refl _)) fun vo h5 ⟨o5, ho5⟩ => ?_
      simp only at o5 ho5
      have l5 := o5.1
      have b5 := b4.old o5 b4.lt
      have acc5 := acc4.keep o5
      try simp
      refine wq_ptrs b5 (by simp) ?_
      try simp
      refine wp_call (eval_Of (acc5.in (Nat.le_refl _)) (In.old o5 hn4) (argsOk_mono (by omega) p1) hi2 _ (by omega)) fun vp h6 ⟨o6, hp6⟩ => ?_
      simp only at o6 hp6
      rw [slopeFar_parts p1] at hp6
      have l6 := o6.1
      have acc6 := acc5.keep o6
      try simp
      refine wp_call (slope_one (nm := l[i].1) (k := l[i].2.1) (args := l[i].2.2.1) (dims := l[i].2.2.2.1) (n := l[i].2.2.2.2) (In.old o6 (In.old o5 hn4)) (In.old o6 ho5) hp6 G A _ (by omega)) fun v7 h7 ⟨o7, T7⟩ => ?_
      simp only at o7 T7
      have l7 := o7.1
      have acc7 := acc6.keep o7
      have T7' : TenAt h6.length h7 (slopeOf l (valuesL l x) d (slopesTo l (valuesL l x) d i) i) v7 := by rw [slopeOf_do hi hk]; exact T7
      try simp
      refine wq_idx (acc7.in (Nat.le_refl _)) (by rfl) (by omega) (by omega) ?_
      try simp
      refine wp_putTen acc7 T7' (by omega) (fun j hj => by have := v2 j hj; omega) (by omega) (by omega) (by rw [pl]; exact hi) fun h8 _ l8 o8 acc8 => ?_
      simp [wi]
      rw [slopeFar_next hi] at acc8
      exact next (m - 1) _ _ (by omega) ⟨(o14.trans ((o5.trans ((o6.trans (o7.mono l6)).mono l5)).mono (by omega))).trans o8, by omega, i + 1, by simp, by omega, acc8⟩
    · have hk : leafK l[i].2.1 = true := by simpa using hk
      simp [wi]
      rw [slopeFar_leaf hi hk] at acc4
      exact next (m - 1) _ _ (by omega) ⟨o14, by omega, i + 1, by simp, by omega, acc4⟩
  · have ei : i = l.length := by omega
    have e1 : slopeFar l (valuesL l x) d l.length = slopesL l x d := by rw [slopeFar, List.drop_of_length_le (by rw [givenL_len]; exact Nat.le_refl _), List.append_nil, slopesL]
    rw [ei, e1] at acc
    try simp
    exact wp_some ⟨o03, acc.mono l1 l1⟩
theorem slope_asked {vl vx vd : AV} {l : List node.den} {x d : List tensor.den} (hl : In h nodes l [vl]) (hx : In h tensors x [vx]) (hd : In h tensors d [vd]) (hsm : Small l) (b : Nat) (hb : b ≤ h.length) :
    WP (call prog b 236 [vl, vx, vd] h) fun r => Old h.length h r.2 ∧ r.1 = .int .i64 (askedE l x d) := by
  refine wp_enter (fn := C.slope_asked) rfl ?_
  dsimp only [bodyN, C.slope_asked]; simp
  refine wp_call (eval_Check hl hx hsm b hb) fun v1 h1 ⟨o1, e1⟩ => ?_
  simp only at o1 e1
  subst e1
  have l1 := o1.1
  try simp
  refine wp_call (eval_Check (In.old o1 hl) (In.old o1 hd) hsm b (by omega)) fun v2 h2 ⟨o2, e2⟩ => ?_
  simp only at o2 e2
  subst e2
  have o02 := o1.trans (o2.mono l1)
  try simp
  refine wp_dec (fun h1 => ?_) fun h1 => ?_
  · try simp
    exact wp_some ⟨o02, by rw [askedE, if_pos (.inl h1)]⟩
  · try simp
    refine wp_dec (fun h2 => ?_) fun h2 => ?_
    · try simp
      exact wp_some ⟨o02, by rw [askedE, if_pos (.inr h2)]⟩
    · try simp
      exact wp_some ⟨o02, by rw [askedE, if_neg (by omega)]⟩
theorem slope_All {vl vx vd : AV} {l : List node.den} {x d : List tensor.den} (hl : In h nodes l [vl]) (hx : In h tensors x [vx]) (hd : In h tensors d [vd]) (hsm : Small l) (b : Nat) (hb : b ≤ h.length) :
    WP (call prog b 214 [vl, vx, vd] h) fun r => Old h.length h r.2 ∧ ∃ v, r.1 = .tup [v, .int .i64 (askedE l x d)] ∧ (askedE l x d = 0 → AccP h.length h.length r.2 tensor v (slopesL l x d)) := by
  refine wp_enter (fn := C.slope_All) rfl ?_
  dsimp only [bodyN, C.slope_All]; simp
  refine wp_call (slope_asked hl hx hd hsm b hb) fun v2 h2 ⟨o2, e2⟩ => ?_
  simp only at o2 e2
  subst e2
  have l2 := o2.1
  try simp
  refine wp_ndec (fun h0 => ?_) fun h0 => ?_
  · try simp
    exact wp_some ⟨o2, _, rfl, fun e => absurd e h0⟩
  · obtain ⟨c1, c2⟩ := askedE_parts h0
    try simp
    refine wp_call (slope_slopes (In.old o2 hl) (In.old o2 hx) (In.old o2 hd) hsm c1 c2 b (by omega)) fun v3 h3 ⟨o3, a3⟩ => ?_
    simp only at o3 a3
    try simp
    exact wp_some ⟨o2.trans (o3.mono l2), v3, by rw [h0], fun _ => a3.mono l2 l2⟩
def slopeE (l : List node.den) (x d : List tensor.den) : Int := if isL l = true then askedE l x d else 1
def slopeN (l : List node.den) (x d : List tensor.den) : Int := if isL l = true ∧ askedE l x d = 0 then ((slopesL l x d).getD (l.length - 1) noT).2.getD 0 0 else 0
theorem slopesL_len (l : List node.den) (x d : List tensor.den) : (slopesL l x d).length = l.length := slopesTo_len l _ d _
theorem slopesL_ok {l : List node.den} {x d : List tensor.den} (h0 : askedE l x d = 0) {i : Nat} (hi : i < l.length) : ((slopesL l x d).getD i noT).1 = l[i].2.2.2.1 ∧ tenOk ((slopesL l x d).getD i noT) = true := by
  obtain ⟨c1, c2⟩ := askedE_parts h0
  obtain ⟨hm, xok, xf⟩ := checkL_parts c1
  obtain ⟨_, dok, df⟩ := checkL_parts c2
  exact (slopesTo_ok hm df dok (valsTo_ok hm xf xok (Nat.le_refl _)) (Nat.le_refl _)).at_ i hi hi
theorem slopeN_at {l : List node.den} {x d : List tensor.den} (hk : isL l = true) (h0 : askedE l x d = 0) : ∃ (hq : l.length - 1 < (slopesL l x d).length) (h3 : 0 < ((slopesL l x d)[l.length - 1]).2.length), slopeN l x d = ((slopesL l x d)[l.length - 1]).2[0] := by
  have hne := isL_ne hk
  have hv := slopesL_ok h0 (i := l.length - 1) (by omega)
  have hvl := slopesL_len l x d
  have hq : l.length - 1 < (slopesL l x d).length := by omega
  rw [List.getD_eq_getElem?_getD, List.getElem?_eq_getElem hq] at hv
  obtain ⟨_, _, t3, t4, _⟩ := ten_parts hv.2
  have t3 : 0 < ((slopesL l x d)[l.length - 1]).2.length := t3
  refine ⟨hq, t3, ?_⟩
  rw [slopeN, if_pos ⟨hk, h0⟩, List.getD_eq_getElem?_getD, List.getD_eq_getElem?_getD, List.getElem?_eq_getElem hq, Option.getD_some, List.getElem?_eq_getElem t3, Option.getD_some]
theorem slope_Loss {vl vx vd : AV} {l : List node.den} {x d : List tensor.den} (hl : In h nodes l [vl]) (hx : In h tensors x [vx]) (hd : In h tensors d [vd]) (hsm : Small l) (b : Nat) (hb : b ≤ h.length) :
    WP (call prog b 238 [vl, vx, vd] h) fun r => Old h.length h r.2 ∧ r.1 = .tup [.int .i64 (slopeN l x d), .int .i64 (slopeE l x d)] := by
  refine wp_enter (fn := C.slope_Loss) rfl ?_
  dsimp only [bodyN, C.slope_Loss]; simp
  refine wp_call (graph_Is hl hsm b hb) fun v1 h1 ⟨o1, e1⟩ => ?_
  simp only at o1 e1
  subst e1
  have l1 := o1.1
  try simp
  refine wp_iteK (fun hk => ?_) fun hk => ?_
  · have hk : isL l = false := by simpa using hk
    try simp
    exact wp_some ⟨o1, by simp [slopeN, slopeE, hk]⟩
  have hk : isL l = true := by simpa using hk
  try simp
  refine wp_call (slope_asked (In.old o1 hl) (In.old o1 hx) (In.old o1 hd) hsm b (by omega)) fun v2 h2 ⟨o2, e2⟩ => ?_
  simp only at o2 e2
  subst e2
  have l2 := o2.1
  have o02 := o1.trans (o2.mono l1)
  try simp
  refine wp_ndec (fun h0 => ?_) fun h0 => ?_
  · try simp
    exact wp_some ⟨o02, by simp [slopeN, slopeE, hk, h0]⟩
  · obtain ⟨c1, c2⟩ := askedE_parts h0
    obtain ⟨hq, t3, e1⟩ := slopeN_at hk h0
    have hlen := mayL_len (checkL_parts c1).1
    have hne := isL_ne hk
    have hvl := slopesL_len l x d
    have hl2 := In.old o02 hl
    have w1 : IntKind.i64.wrap ((l.length : Int) - 1) = (l.length : Int) - 1 := w64_id (by omega) (by omega)
    have n1 : ((l.length : Int) - 1).toNat = l.length - 1 := by omega
    try simp
    refine wp_call (slope_slopes hl2 (In.old o02 hx) (In.old o02 hd) hsm c1 c2 b (by omega)) fun v3 h3 ⟨o3, a3⟩ => ?_
    simp only at o3 a3
    have a3 := a3.in (Nat.le_refl _)
    try simp
    refine wq_len (In.old o3 hl2) ?_
    simp [w1]
    refine wq_idx a3 (by rfl) (by omega) (by omega) ?_
    simp [n1]
    refine wq_tdata a3 hq fun u hu => ?_
    try simp
    refine wq_idx hu (by rfl) (by omega) (by omega) ?_
    try simp
    refine wq_int hu t3 ?_
    try simp
    refine wp_some ⟨o02.trans (o3.mono (by omega)), ?_⟩
    rw [e1, slopeE, if_pos hk, h0]
end
end Go.AM
