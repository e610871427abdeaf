import Derived.Test.YtfdbegdgedhhcaaGreatAmS73
import Derived.Test.YtfdbegdgedhhcaaGreatAmS68
import Derived.Test.YtfdbegdgedhhcaaGreatAmS57
set_option linter.all false
/- All slopes: the page's. -/
namespace Go.AM
set_option maxRecDepth 20000
set_option maxHeartbeats 2000000
attribute [local simp] layAt
attribute [local irreducible] lenK sliceK idxK fldK cutK storeK appK copyK clearK mapAtK callK loopH readK readK1 guardK grdK fnK nilK fieldK extrK strK nextK joinK iteK intK boolK cellsK castK castL castEnv binK unK intBin layParts execN runOpsN runItemsN denN call loop blockK
theorem good_zero {k n : Int} {d : List Int} {ls : List tensor.den} {x : List Int} (G : Good k n d ls x) (hk : k = 6 ∨ k = 9) : n = 0 ∧ d = [] := by
  have h1 := G.form
  simp only [formOk, Bool.and_eq_true, decide_eq_true_eq] at h1
  rcases hk with rfl | rfl <;> simpa [numberOk, asked] using And.intro h1.1.2 h1.2
theorem good_len {k n : Int} {d : List Int} {ls : List tensor.den} {x : List Int} (G : Good k n d ls x) : (ls.length : Int) = many k := by
  have := formOk_many G.form
  rwa [List.length_map] at this
theorem list1 {α : Type} {l : List α} (h : l.length = 1) : ∃ h0 : 0 < l.length, l = [l[0]] := by
  obtain ⟨a, rfl⟩ := len1 h
  exact ⟨by simp, rfl⟩
theorem list2 {α : Type} {l : List α} (h : l.length = 2) : ∃ (h0 : 0 < l.length) (h1 : 1 < l.length), l = [l[0], l[1]] := by
  obtain ⟨a, b, rfl⟩ := len2 h
  exact ⟨by simp, by simp, rfl⟩
theorem slopeAt_mul {nd : node.den} {a c p q : tensor.den} (hk : nd.2.1 = 6 ∨ nd.2.1 = 9) : slopeAt nd [a, c] [p, q] = ((doT nd.2.1 0 [] [p, c]).1, List.zipWith (fun x y => w64 (x + y)) (doT nd.2.1 0 [] [p, c]).2 (doT nd.2.1 0 [] [a, q]).2) := by
  rcases hk with h | h <;> simp [slopeAt, h]
theorem slopeAt_else {nd : node.den} {v s : List tensor.den} (h3 : nd.2.1 ≠ 3) (h6 : nd.2.1 ≠ 6) (h9 : nd.2.1 ≠ 9) (h14 : nd.2.1 ≠ 14) (h15 : nd.2.1 ≠ 15) (h16 : nd.2.1 ≠ 16) (h17 : nd.2.1 ≠ 17) : slopeAt nd v s = doT nd.2.1 nd.2.2.2.2 (askD nd) s := by
  simp [slopeAt, h3, h6, h9, h14, h15, h16, h17]
section
variable {R : Type} {Q : R → Prop} {h : Heap}
theorem ref10_Slopes {vl vx vd : AV} {l : List node.den} {x d : List tensor.den} (hl : In h nodes l [vl]) (hx : In h tensors x [vx]) (hd : In h tensors d [vd]) (c1 : checkL l x = 0) (c2 : checkL l d = 0) (b : Nat) (hb : b ≤ h.length) :
    WP (call prog b 239 [vl, vx, vd] h) fun r => Old h.length h r.2 ∧ AccP h.length h.length r.2 tensor r.1 (slopesL l x d) := by
  obtain ⟨hm, xok, xf⟩ := checkL_parts c1
  obtain ⟨_, dok, df⟩ := checkL_parts c2
  have hlen := mayL_len hm
  have hvo : ValsOk l (valuesL l x) l.length := valsTo_ok hm xf xok (Nat.le_refl _)
  have hvl := valuesL_len l x
  refine wp_enter (fn := C.ref10_Slopes) rfl ?_
  dsimp only [bodyN, C.ref10_Slopes, C.ref10_Slopes_l0]; simp
  refine wp_call (ref10_All hl hx hm xf xok b hb) fun vv h1 ⟨o1, a1⟩ => ?_
  simp only at o1 a1
  have l1 := o1.1
  have hV := a1.in (Nat.le_refl _)
  try simp
  refine wp_loop (I := fun m e h' => Old h1.length h1 h' ∧ h1.length ≤ h'.length ∧ ∃ (i : Nat) (v : AV), e = (ea 0 vl <| ea 2 vd <| ea 7 vv <| ea 8 v <| ea 9 (.int .i64 (i : Nat)) e0) ∧ i + m = l.length ∧ AccP h1.length h1.length h' tensor v (slopesTo l (valuesL l x) d i)) ?_ ⟨Old.refl (Nat.le_refl _), Nat.le_refl _, 0, .nil, rfl, Nat.zero_add _, AccP.nil⟩
  rintro N m e' h3 ⟨o03, l3, i, v, rfl, him, acc⟩ next
  have o003 := o1.trans (o03.mono l1)
  have hl3 := In.old o003 hl
  have hV3 := In.old o03 hV
  have slen := slopesTo_len l (valuesL l x) d i
  dsimp only [C.ref10_Slopes_b0]; simp
  refine wq_len hl3 ?_
  try simp
  refine wp_dec (fun hi => ?_) fun hi => ?_
  · have wi := succ64 (i := i) (n := 240) (by omega) (by omega)
    obtain ⟨p1, hi2⟩ := args_small hm hi
    have hso : ValsOk l (slopesTo l (valuesL l x) d i) i := slopesTo_ok hm df dok hvo (by omega)
    try simp
    refine wq_idx hl3 (by rfl) (by omega) (by omega) ?_
    try simp
    refine wq_node hl3 hi fun vA vD hvA hvD hnode => ?_
    try simp
    refine wq_init (by omega) (by rfl) (by rfl) fun h4 o4 b4 lt4 => ?_
    have l4 := o4.1
    have acc4 := acc.keep o4
    try simp
    refine wq_ptr b4 rfl ?_
    try simp
    refine wp_call (ref10_of (In.old o4 hV3) (In.old o4 hvA) (argsOk_mono (by omega) p1) hi2 _ (by omega)) fun vo h5 ⟨o5, ho5⟩ => ?_
    simp only at o5 ho5
    have l5 := o5.1
    have b5 := b4.old o5 b4.lt
    have acc5 := acc4.keep o5
    try simp
    refine wq_ptr b5 rfl ?_
    try simp
    refine wp_call (ref10_of (acc5.in (Nat.le_refl _)) (In.old o5 (In.old o4 hvA)) (by rw [slen]; exact p1) hi2 _ (by omega)) fun vp h6 ⟨o6, hp6⟩ => ?_
    simp only at o6 hp6
    have l6 := o6.1
    have b6 := b5.old o6 (by omega)
    have acc6 := acc5.keep o6
    have ho6 := In.old o6 ho5
    have o36 := o4.trans ((o5.trans (o6.mono l5)).mono l4)
    have hn6 := In.old o36 hnode
    have l6 : h3.length ≤ h6.length := o36.1
    try simp
    refine wq_ptr b6 rfl ?_
    try simp
    have leaf : ∀ (bb : Nat) (K : AV → Heap → Option (AV × Heap)), bb ≤ h6.length → leafK l[i].2.1 = true → (∀ v7 h7, Old h6.length h6 h7 → TenAt h6.length h7 (slopeOf l (valuesL l x) d (slopesTo l (valuesL l x) d i) i) v7 → WP (K v7 h7) fun r => Old h.length h r.2 ∧ AccP h.length h.length r.2 tensor r.1 (slopesL l x d)) → WP (callK (call prog) bb 241 [vl, vd, .int .i64 (i : Nat)] h6 K) fun r => Old h.length h r.2 ∧ AccP h.length h.length r.2 tensor r.1 (slopesL l x d) := fun bb K hbb hk hK =>
      wp_call (ref10_Leaf (In.old o36 hl3) (In.old (o003.trans (o36.mono (by omega))) hd) hlen df dok hi hk bb hbb) fun v7 h7 ⟨o7, T7⟩ => hK v7 h7 o7 (by rw [slopeOf, nodeAt_at hi, if_pos hk]; exact T7)
    refine wp_dec (fun k1 => ?_) fun k1 => ?_
    · have hk : leafK l[i].2.1 = true := by simp [leafK, k1]
      simp [k1]
      refine leaf _ _ (by omega) hk fun v7 h7 oT T => ?_
      obtain ⟨vd', vt', rfl⟩ := T.agg; have lT := oT.1; have accT := acc6.keep oT; (try simp [layAt]); refine wp_pushTen accT T (by omega) (fun j hj => by have := (acc.low hj).2; omega) (by omega) (by omega) (by omega) fun v9 h9 o9 acc9 => ?_; simp [wi]; exact next (m - 1) _ _ (by omega) ⟨(o03.trans ((o36.trans (oT.mono l6)).mono (by omega))).trans o9, o9.1, i + 1, v9, by simp, by omega, by rw [slopesTo]; exact acc9⟩
    try simp
    refine wp_dec (fun k2 => ?_) fun k2 => ?_
    · have hk : leafK l[i].2.1 = true := by simp [leafK, k2]
      try simp
      refine leaf _ _ (by omega) hk fun v7 h7 oT T => ?_
      obtain ⟨vd', vt', rfl⟩ := T.agg; have lT := oT.1; have accT := acc6.keep oT; (try simp [layAt]); refine wp_pushTen accT T (by omega) (fun j hj => by have := (acc.low hj).2; omega) (by omega) (by omega) (by omega) fun v9 h9 o9 acc9 => ?_; simp [wi]; exact next (m - 1) _ _ (by omega) ⟨(o03.trans ((o36.trans (oT.mono l6)).mono (by omega))).trans o9, o9.1, i + 1, v9, by simp, by omega, by rw [slopesTo]; exact acc9⟩
    have hk : leafK l[i].2.1 = false := by simp [leafK, k1, k2]
    have G := parts_good hm hi (hvo.mono (by omega)) hk
    have A := parts_alike hm hi (hvo.mono (by omega)) hso
    have eS : slopeOf l (valuesL l x) d (slopesTo l (valuesL l x) d i) i = slopeAt l[i] (partsOf (valuesL l x) l[i].2.2.1) (partsOf (slopesTo l (valuesL l x) d i) l[i].2.2.1) := slopeOf_do hi hk
    have gl := good_len G
    have al := A.len
    generalize partsOf (valuesL l x) l[i].2.2.1 = V at *
    generalize partsOf (slopesTo l (valuesL l x) d i) l[i].2.2.1 = W at *
    try simp
    refine wp_dec (fun k3 => ?_) fun k3 => ?_
    · have h3 := good_d G (by rw [k3]; rfl)
      have eA : askD l[i] = l[i].2.2.2.1 := by simp [askD, k3, asked]
      rw [eA] at h3
      have eM : slopeAt l[i] V W = (l[i].2.2.2.1, List.replicate (prodI l[i].2.2.2.1).toNat 0) := by simp [slopeAt, k3]
      try simp
      refine wq_ptr b6 rfl ?_
      try simp
      refine wp_call (ref1_Fill (In.old o36 hvD) h3 (n := 0) (by omega) _ (by omega)) fun v7 h7 ⟨oT, T7⟩ => ?_
      simp only at oT T7
      have T : TenAt h6.length h7 (slopeOf l (valuesL l x) d (slopesTo l (valuesL l x) d i) i) v7 := by rw [eS, eM]; exact T7
      obtain ⟨vd', vt', rfl⟩ := T.agg; have lT := oT.1; have accT := acc6.keep oT; (try simp [layAt]); refine wp_pushTen accT T (by omega) (fun j hj => by have := (acc.low hj).2; omega) (by omega) (by omega) (by omega) fun v9 h9 o9 acc9 => ?_; simp [wi]; exact next (m - 1) _ _ (by omega) ⟨(o03.trans ((o36.trans (oT.mono l6)).mono (by omega))).trans o9, o9.1, i + 1, v9, by simp, by omega, by rw [slopesTo]; exact acc9⟩
    try simp
    refine wp_dec (fun k6 => ?_) fun k6 => ?_
    · simp [k6]
      have hl2 : V.length = 2 := by rw [k6] at gl; simp [many] at gl; omega
      have hw2 : W.length = 2 := by omega
      obtain ⟨v0, v1, eV⟩ := list2 hl2
      obtain ⟨q0, q1, eW⟩ := list2 hw2
      obtain ⟨G1, G2⟩ := good_mix (a := V[0]) (c := V[1]) (p := W[0]) (q := W[1]) (eV ▸ G) (eV ▸ eW ▸ A) (by omega)
      obtain ⟨z1, z2⟩ := good_zero G (by omega)
      have X1 := doT_ok G1
      have X2 := doT_ok G2
      have eM : slopeAt l[i] V W = ((doT l[i].2.1 0 [] [W[0], V[1]]).1, List.zipWith (fun x y => w64 (x + y)) (doT l[i].2.1 0 [] [W[0], V[1]]).2 (doT l[i].2.1 0 [] [V[0], W[1]]).2) := by
        have e0 : slopeAt l[i] [V[0], V[1]] [W[0], W[1]] = _ := slopeAt_mul (.inl k6)
        rw [← eV, ← eW] at e0
        exact e0
      refine wq_ptrs b6 (by simp) ?_
      try simp
      refine wq_idx hp6 (by rfl) (by omega) (by omega) ?_
      try simp
      refine wq_tensor hp6 (j := 0) (by omega) fun dp tp hdp htp => ?_
      try simp
      refine wq_idx ho6 (by rfl) (by omega) (by omega) ?_
      try simp
      refine wq_tensor ho6 (j := 1) (by omega) fun dc tc hdc htc => ?_
      try simp
      have Ha := in_new (h := h6) (s := 2) (n := 2) (l := [W[0], V[1]]) (p := tensor) ⟨_, _, rfl, holds_ten hdp htp, _, [], (List.append_nil _).symm, holds_ten hdc htc, rfl⟩ (by simp) (by rfl) (by simp)
      simp at Ha
      have oa : Old h6.length h6 (h6 ++ [AObj.cells 0 2 [dp, tp, dc, tc]]) := Old.app
      have la : (h6 ++ [AObj.cells 0 2 [dp, tp, dc, tc]]).length = h6.length + 1 := by simp
      generalize h6 ++ [AObj.cells 0 2 [dp, tp, dc, tc]] = g1 at *
      refine wp_call (ref10_Made (ls := [W[0], V[1]]) (In.old oa hn6) Ha (by rw [z1, z2]; exact G1) _ (by omega)) fun v2 g2 ⟨oa2, T2⟩ => ?_
      simp only at oa2 T2
      rw [z1, z2] at T2
      have la2 := oa2.1
      have og2 := oa.trans (oa2.mono (by omega))
      have b2 := b6.old og2 (by omega)
      have ho2 := In.old og2 ho6
      have hp2 := In.old og2 hp6
      try simp
      refine wq_ptrs b2 (by simp) ?_
      try simp
      refine wq_idx ho2 (by rfl) (by omega) (by omega) ?_
      try simp
      refine wq_tensor ho2 (j := 0) (by omega) fun da ta hda hta => ?_
      try simp
      refine wq_idx hp2 (by rfl) (by omega) (by omega) ?_
      try simp
      refine wq_tensor hp2 (j := 1) (by omega) fun dq tq hdq htq => ?_
      try simp
      have Hb := in_new (h := g2) (s := 2) (n := 2) (l := [V[0], W[1]]) (p := tensor) ⟨_, _, rfl, holds_ten hda hta, _, [], (List.append_nil _).symm, holds_ten hdq htq, rfl⟩ (by simp) (by rfl) (by simp)
      simp at Hb
      have ob : Old g2.length g2 (g2 ++ [AObj.cells 0 2 [da, ta, dq, tq]]) := Old.app
      have lb : (g2 ++ [AObj.cells 0 2 [da, ta, dq, tq]]).length = g2.length + 1 := by simp
      generalize g2 ++ [AObj.cells 0 2 [da, ta, dq, tq]] = g3 at *
      refine wp_call (ref10_Made (ls := [V[0], W[1]]) (In.old ob (In.old og2 hn6)) Hb (by rw [z1, z2]; exact G2) _ (by omega)) fun v4 g4 ⟨ob4, T4⟩ => ?_
      simp only at ob4 T4
      rw [z1, z2] at T4
      have lb4 := ob4.1
      have og4 := og2.trans ((ob.trans (ob4.mono (by omega))).mono (by omega))
      obtain ⟨w1, w2, rfl, N2⟩ := (T2.keep (ob.trans (ob4.mono (by omega)))).own
      obtain ⟨w3, w4, rfl, N4⟩ := T4.own
      have M2 := N2.mono (T := fun j => j < g4.length) fun j hj => hj.2
      have M4 := N4.mono (T := fun j => j < g4.length) fun j hj => hj.2
      obtain ⟨u1, u2, _⟩ := ten_parts X1.2
      obtain ⟨y1, y2, _⟩ := ten_parts X2.2
      try simp
      refine wp_call (ref1_Each0 (s := doT l[i].2.1 0 [] [W[0], V[1]]) (t := doT l[i].2.1 0 [] [V[0], W[1]]) M2 M4 X1.2 (by rw [X2.1, ← X1.1] at y2; omega) _ (by omega)) fun v7 h7 ⟨o7, T7⟩ => ?_
      simp only at o7 T7
      have oT := og4.trans (o7.mono (by omega))
      have T : TenAt h6.length h7 (slopeOf l (valuesL l x) d (slopesTo l (valuesL l x) d i) i) v7 := by rw [eS, eM]; exact T7.mono (by omega)
      obtain ⟨vd', vt', rfl⟩ := T.agg; have lT := oT.1; have accT := acc6.keep oT; (try simp [layAt]); refine wp_pushTen accT T (by omega) (fun j hj => by have := (acc.low hj).2; omega) (by omega) (by omega) (by omega) fun v9 h9 o9 acc9 => ?_; simp [wi]; exact next (m - 1) _ _ (by omega) ⟨(o03.trans ((o36.trans (oT.mono l6)).mono (by omega))).trans o9, o9.1, i + 1, v9, by simp, by omega, by rw [slopesTo]; exact acc9⟩
    try simp
    refine wp_dec (fun k9 => ?_) fun k9 => ?_
    · try simp
      have hl2 : V.length = 2 := by rw [k9] at gl; simp [many] at gl; omega
      have hw2 : W.length = 2 := by omega
      obtain ⟨v0, v1, eV⟩ := list2 hl2
      obtain ⟨q0, q1, eW⟩ := list2 hw2
      obtain ⟨G1, G2⟩ := good_mix (a := V[0]) (c := V[1]) (p := W[0]) (q := W[1]) (eV ▸ G) (eV ▸ eW ▸ A) (by omega)
      obtain ⟨z1, z2⟩ := good_zero G (by omega)
      have X1 := doT_ok G1
      have X2 := doT_ok G2
      have eM : slopeAt l[i] V W = ((doT l[i].2.1 0 [] [W[0], V[1]]).1, List.zipWith (fun x y => w64 (x + y)) (doT l[i].2.1 0 [] [W[0], V[1]]).2 (doT l[i].2.1 0 [] [V[0], W[1]]).2) := by
        have e0 : slopeAt l[i] [V[0], V[1]] [W[0], W[1]] = _ := slopeAt_mul (.inr k9)
        rw [← eV, ← eW] at e0
        exact e0
      refine wq_ptrs b6 (by simp) ?_
      try simp
      refine wq_idx hp6 (by rfl) (by omega) (by omega) ?_
      try simp
      refine wq_tensor hp6 (j := 0) (by omega) fun dp tp hdp htp => ?_
      try simp
      refine wq_idx ho6 (by rfl) (by omega) (by omega) ?_
      try simp
      refine wq_tensor ho6 (j := 1) (by omega) fun dc tc hdc htc => ?_
      try simp
      have Ha := in_new (h := h6) (s := 2) (n := 2) (l := [W[0], V[1]]) (p := tensor) ⟨_, _, rfl, holds_ten hdp htp, _, [], (List.append_nil _).symm, holds_ten hdc htc, rfl⟩ (by simp) (by rfl) (by simp)
      simp at Ha
      have oa : Old h6.length h6 (h6 ++ [AObj.cells 0 2 [dp, tp, dc, tc]]) := Old.app
      have la : (h6 ++ [AObj.cells 0 2 [dp, tp, dc, tc]]).length = h6.length + 1 := by simp
      generalize h6 ++ [AObj.cells 0 2 [dp, tp, dc, tc]] = g1 at *
      refine wp_call (ref10_Made (ls := [W[0], V[1]]) (In.old oa hn6) Ha (by rw [z1, z2]; exact G1) _ (by omega)) fun v2 g2 ⟨oa2, T2⟩ => ?_
      simp only at oa2 T2
      rw [z1, z2] at T2
      have la2 := oa2.1
      have og2 := oa.trans (oa2.mono (by omega))
      have b2 := b6.old og2 (by omega)
      have ho2 := In.old og2 ho6
      have hp2 := In.old og2 hp6
      try simp
      refine wq_ptrs b2 (by simp) ?_
      try simp
      refine wq_idx ho2 (by rfl) (by omega) (by omega) ?_
      try simp
      refine wq_tensor ho2 (j := 0) (by omega) fun da ta hda hta => ?_
      try simp
      refine wq_idx hp2 (by rfl) (by omega) (by omega) ?_
      try simp
      refine wq_tensor hp2 (j := 1) (by omega) fun dq tq hdq htq => ?_
      try simp
      have Hb := in_new (h := g2) (s := 2) (n := 2) (l := [V[0], W[1]]) (p := tensor) ⟨_, _, rfl, holds_ten hda hta, _, [], (List.append_nil _).symm, holds_ten hdq htq, rfl⟩ (by simp) (by rfl) (by simp)
      simp at Hb
      have ob : Old g2.length g2 (g2 ++ [AObj.cells 0 2 [da, ta, dq, tq]]) := Old.app
      have lb : (g2 ++ [AObj.cells 0 2 [da, ta, dq, tq]]).length = g2.length + 1 := by simp
      generalize g2 ++ [AObj.cells 0 2 [da, ta, dq, tq]] = g3 at *
      refine wp_call (ref10_Made (ls := [V[0], W[1]]) (In.old ob (In.old og2 hn6)) Hb (by rw [z1, z2]; exact G2) _ (by omega)) fun v4 g4 ⟨ob4, T4⟩ => ?_
      simp only at ob4 T4
      rw [z1, z2] at T4
      have lb4 := ob4.1
      have og4 := og2.trans ((ob.trans (ob4.mono (by omega))).mono (by omega))
      obtain ⟨w1, w2, rfl, N2⟩ := (T2.keep (ob.trans (ob4.mono (by omega)))).own
      obtain ⟨w3, w4, rfl, N4⟩ := T4.own
      have M2 := N2.mono (T := fun j => j < g4.length) fun j hj => hj.2
      have M4 := N4.mono (T := fun j => j < g4.length) fun j hj => hj.2
      obtain ⟨u1, u2, _⟩ := ten_parts X1.2
      obtain ⟨y1, y2, _⟩ := ten_parts X2.2
      try simp
      refine wp_call (ref1_Each0 (s := doT l[i].2.1 0 [] [W[0], V[1]]) (t := doT l[i].2.1 0 [] [V[0], W[1]]) M2 M4 X1.2 (by rw [X2.1, ← X1.1] at y2; omega) _ (by omega)) fun v7 h7 ⟨o7, T7⟩ => ?_
      simp only at o7 T7
      have oT := og4.trans (o7.mono (by omega))
      have T : TenAt h6.length h7 (slopeOf l (valuesL l x) d (slopesTo l (valuesL l x) d i) i) v7 := by rw [eS, eM]; exact T7.mono (by omega)
      obtain ⟨vd', vt', rfl⟩ := T.agg; have lT := oT.1; have accT := acc6.keep oT; (try simp [layAt]); refine wp_pushTen accT T (by omega) (fun j hj => by have := (acc.low hj).2; omega) (by omega) (by omega) (by omega) fun v9 h9 o9 acc9 => ?_; simp [wi]; exact next (m - 1) _ _ (by omega) ⟨(o03.trans ((o36.trans (oT.mono l6)).mono (by omega))).trans o9, o9.1, i + 1, v9, by simp, by omega, by rw [slopesTo]; exact acc9⟩
    try simp
    refine wp_dec (fun k14 => ?_) fun k14 => ?_
    · simp [k14]
      have hl1 : V.length = 1 := by rw [k14] at gl; simp [many] at gl; omega
      have hw1 : W.length = 1 := by omega
      obtain ⟨v0, eV⟩ := list1 hl1
      obtain ⟨q0, eW⟩ := list1 hw1
      have kV : tenOk V[0] = true := G.ok _ (List.getElem_mem v0)
      have kW : tenOk W[0] = true := A.ok _ (List.getElem_mem q0)
      have dd : W[0].1 = V[0].1 := by have := A.dims; rw [eV, eW] at this; simpa using this
      have g0 : V.getD 0 noT = V[0] := by rw [List.getD_eq_getElem?_getD, List.getElem?_eq_getElem v0]; rfl
      have g1 : W.getD 0 noT = W[0] := by rw [List.getD_eq_getElem?_getD, List.getElem?_eq_getElem q0]; rfl
      refine wq_idx ho6 (by rfl) (by omega) (by omega) ?_
      try simp
      refine wq_tensor ho6 (j := 0) (by omega) fun da ta hda hta => ?_
      try simp
      have wl : IntKind.i64.wrap ((W.length : Int) - 1) = 0 := by rw [hw1]; rfl
      refine wq_len hp6 ?_
      simp [wl]
      refine wq_idx hp6 (by rfl) (by omega) (by omega) ?_
      try simp
      refine wq_tensor hp6 (j := 0) (by omega) fun dp tp hdp htp => ?_
      try simp
      have eM : slopeAt l[i] V W = (W[0].1, stepL V[0].2 W[0].2) := by rw [dd]; simp only [slopeAt, g0, g1]; simp [k14]
      obtain ⟨_, y2, _⟩ := ten_parts kV
      obtain ⟨_, y3, _⟩ := ten_parts kW
      refine wp_call (ref1_Gate (s := V[0]) (t := W[0]) (holds_ten hda hta) (holds_ten hdp htp) kW (by rw [dd] at y3; omega) _ (by omega)) fun v7 h7 ⟨oT, T7⟩ => ?_
      simp only at oT T7
      have T : TenAt h6.length h7 (slopeOf l (valuesL l x) d (slopesTo l (valuesL l x) d i) i) v7 := by rw [eS, eM]; exact T7
      obtain ⟨vd', vt', rfl⟩ := T.agg; have lT := oT.1; have accT := acc6.keep oT; (try simp [layAt]); refine wp_pushTen accT T (by omega) (fun j hj => by have := (acc.low hj).2; omega) (by omega) (by omega) (by omega) fun v9 h9 o9 acc9 => ?_; simp [wi]; exact next (m - 1) _ _ (by omega) ⟨(o03.trans ((o36.trans (oT.mono l6)).mono (by omega))).trans o9, o9.1, i + 1, v9, by simp, by omega, by rw [slopesTo]; exact acc9⟩
    try simp
    refine wp_dec (fun k16 => ?_) fun k16 => ?_
    · try simp
      have hl2 : V.length = 2 := by rw [k16] at gl; simp [many] at gl; omega
      have hw2 : W.length = 2 := by omega
      obtain ⟨v0, v1, eV⟩ := list2 hl2
      obtain ⟨q0, q1, eW⟩ := list2 hw2
      have kV : tenOk V[0] = true := G.ok _ (List.getElem_mem v0)
      have kW : tenOk W[1] = true := A.ok _ (List.getElem_mem q1)
      have dd : W[1].1 = V[1].1 := by have := A.dims; rw [eV, eW] at this; simp at this; exact this.2
      have g0 : V.getD 0 noT = V[0] := by rw [List.getD_eq_getElem?_getD, List.getElem?_eq_getElem v0]; rfl
      have g1 : W.getD 1 noT = W[1] := by rw [List.getD_eq_getElem?_getD, List.getElem?_eq_getElem q1]; rfl
      refine wq_idx ho6 (by rfl) (by omega) (by omega) ?_
      try simp
      refine wq_tensor ho6 (j := 0) (by omega) fun da ta hda hta => ?_
      try simp
      have wl : IntKind.i64.wrap ((W.length : Int) - 1) = 1 := by rw [hw2]; rfl
      refine wq_len hp6 ?_
      simp [wl]
      refine wq_idx hp6 (by rfl) (by omega) (by omega) ?_
      try simp
      refine wq_tensor hp6 (j := 1) (by omega) fun dq tq hdq htq => ?_
      try simp
      have g := G.dims
      rw [eV, k16] at g
      simp [inferD] at g
      have eM : slopeAt l[i] V W = (W[1].1, stepL V[0].2 W[1].2) := by rw [dd, ← g.1]; simp only [slopeAt, g0, g1]; simp [k16]
      obtain ⟨_, y2, _⟩ := ten_parts kV
      obtain ⟨_, y3, _⟩ := ten_parts kW
      refine wp_call (ref1_Gate (s := V[0]) (t := W[1]) (holds_ten hda hta) (holds_ten hdq htq) kW (by rw [dd, ← g.1] at y3; omega) _ (by omega)) fun v7 h7 ⟨oT, T7⟩ => ?_
      simp only at oT T7
      have T : TenAt h6.length h7 (slopeOf l (valuesL l x) d (slopesTo l (valuesL l x) d i) i) v7 := by rw [eS, eM]; exact T7
      obtain ⟨vd', vt', rfl⟩ := T.agg; have lT := oT.1; have accT := acc6.keep oT; (try simp [layAt]); refine wp_pushTen accT T (by omega) (fun j hj => by have := (acc.low hj).2; omega) (by omega) (by omega) (by omega) fun v9 h9 o9 acc9 => ?_; simp [wi]; exact next (m - 1) _ _ (by omega) ⟨(o03.trans ((o36.trans (oT.mono l6)).mono (by omega))).trans o9, o9.1, i + 1, v9, by simp, by omega, by rw [slopesTo]; exact acc9⟩
    try simp
    refine wp_dec (fun k15 => ?_) fun k15 => ?_
    · try simp
      have hl1 : V.length = 1 := by rw [k15] at gl; simp [many] at gl; omega
      have hw1 : W.length = 1 := by omega
      obtain ⟨v0, eV⟩ := list1 hl1
      obtain ⟨q0, eW⟩ := list1 hw1
      have kV : tenOk V[0] = true := G.ok _ (List.getElem_mem v0)
      have kW : tenOk W[0] = true := A.ok _ (List.getElem_mem q0)
      have dd : W[0].1 = V[0].1 := by have := A.dims; rw [eV, eW] at this; simpa using this
      have g0 : V.getD 0 noT = V[0] := by rw [List.getD_eq_getElem?_getD, List.getElem?_eq_getElem v0]; rfl
      have g1 : W.getD 0 noT = W[0] := by rw [List.getD_eq_getElem?_getD, List.getElem?_eq_getElem q0]; rfl
      refine wq_idx ho6 (by rfl) (by omega) (by omega) ?_
      try simp
      refine wq_tensor ho6 (j := 0) (by omega) fun da ta hda hta => ?_
      try simp
      refine wq_idx hp6 (by rfl) (by omega) (by omega) ?_
      try simp
      refine wq_tensor hp6 (j := 0) (by omega) fun dp tp hdp htp => ?_
      try simp
      have g := G.dims
      rw [eV, k15] at g
      simp [inferD] at g
      have eM : slopeAt l[i] V W = peaksT V[0] W[0] l[i].2.2.2.2 := by simp only [slopeAt, g0, g1]; simp [k15]
      refine wq_ptr b6 rfl ?_
      try simp
      refine wp_call (ref10_peaks (s := V[0]) (t := W[0]) (holds_ten hda hta) (holds_ten hdp htp) kV kW dd.symm (good_num G (.inl k15)) g.1 _ (by omega)) fun v7 h7 ⟨oT, T7⟩ => ?_
      simp only at oT T7
      have T : TenAt h6.length h7 (slopeOf l (valuesL l x) d (slopesTo l (valuesL l x) d i) i) v7 := by rw [eS, eM]; exact T7
      obtain ⟨vd', vt', rfl⟩ := T.agg; have lT := oT.1; have accT := acc6.keep oT; (try simp [layAt]); refine wp_pushTen accT T (by omega) (fun j hj => by have := (acc.low hj).2; omega) (by omega) (by omega) (by omega) fun v9 h9 o9 acc9 => ?_; simp [wi]; exact next (m - 1) _ _ (by omega) ⟨(o03.trans ((o36.trans (oT.mono l6)).mono (by omega))).trans o9, o9.1, i + 1, v9, by simp, by omega, by rw [slopesTo]; exact acc9⟩
    try simp
    refine wp_dec (fun k17 => ?_) fun k17 => ?_
    · try simp
      have hl2 : V.length = 2 := by rw [k17] at gl; simp [many] at gl; omega
      have hw2 : W.length = 2 := by omega
      obtain ⟨v0, v1, eV⟩ := list2 hl2
      obtain ⟨q0, q1, eW⟩ := list2 hw2
      have kV : tenOk V[0] = true := G.ok _ (List.getElem_mem v0)
      have kW : tenOk W[1] = true := A.ok _ (List.getElem_mem q1)
      have dd : W[1].1 = V[1].1 := by have := A.dims; rw [eV, eW] at this; simp at this; exact this.2
      have g0 : V.getD 0 noT = V[0] := by rw [List.getD_eq_getElem?_getD, List.getElem?_eq_getElem v0]; rfl
      have g1 : W.getD 1 noT = W[1] := by rw [List.getD_eq_getElem?_getD, List.getElem?_eq_getElem q1]; rfl
      refine wq_idx ho6 (by rfl) (by omega) (by omega) ?_
      try simp
      refine wq_tensor ho6 (j := 0) (by omega) fun da ta hda hta => ?_
      try simp
      refine wq_idx hp6 (by rfl) (by omega) (by omega) ?_
      try simp
      refine wq_tensor hp6 (j := 1) (by omega) fun dq tq hdq htq => ?_
      try simp
      have g := G.dims
      rw [eV, k17] at g
      simp [inferD] at g
      have eM : slopeAt l[i] V W = pickT V[0] W[1] l[i].2.2.2.2 := by simp only [slopeAt, g0, g1]; simp [k17]
      refine wq_ptr b6 rfl ?_
      try simp
      refine wp_call (ref1_Pick (s := V[0]) (t := W[1]) (holds_ten hda hta) (holds_ten hdq htq) kV kW (good_num G (.inr k17)) g.1.1 (by rw [dd]; exact g.1.2) _ (by omega)) fun v7 h7 ⟨oT, T7⟩ => ?_
      simp only at oT T7
      have T : TenAt h6.length h7 (slopeOf l (valuesL l x) d (slopesTo l (valuesL l x) d i) i) v7 := by rw [eS, eM]; exact T7
      obtain ⟨vd', vt', rfl⟩ := T.agg; have lT := oT.1; have accT := acc6.keep oT; (try simp [layAt]); refine wp_pushTen accT T (by omega) (fun j hj => by have := (acc.low hj).2; omega) (by omega) (by omega) (by omega) fun v9 h9 o9 acc9 => ?_; simp [wi]; exact next (m - 1) _ _ (by omega) ⟨(o03.trans ((o36.trans (oT.mono l6)).mono (by omega))).trans o9, o9.1, i + 1, v9, by simp, by omega, by rw [slopesTo]; exact acc9⟩
    try simp
    refine wq_ptrs b6 (by simp) ?_
    try simp
    refine wp_call (ref10_Made hn6 hp6 (A.good G) _ (by omega)) fun v7 h7 ⟨oT, T7⟩ => ?_
    simp only at oT T7
    have T : TenAt h6.length h7 (slopeOf l (valuesL l x) d (slopesTo l (valuesL l x) d i) i) v7 := by rw [eS, slopeAt_else k3 k6 k9 k14 k15 k16 k17]; exact T7
    obtain ⟨vd', vt', rfl⟩ := T.agg; have lT := oT.1; have accT := acc6.keep oT; (try simp [layAt]); refine wp_pushTen accT T (by omega) (fun j hj => by have := (acc.low hj).2; omega) (by omega) (by omega) (by omega) fun v9 h9 o9 acc9 => ?_; simp [wi]; exact next (m - 1) _ _ (by omega) ⟨(o03.trans ((o36.trans (oT.mono l6)).mono (by omega))).trans o9, o9.1, i + 1, v9, by simp, by omega, by rw [slopesTo]; exact acc9⟩
  · have ei : i = l.length := by omega
    rw [ei] at acc
    try simp
    exact wp_some ⟨o003, acc.mono l1 l1⟩
end
end Go.AM

/- Tensors of one's own, each in blocks of its own: written number by number. -/
namespace Go.AM
set_option maxRecDepth 20000
set_option maxHeartbeats 1000000
attribute [local simp] layAt
attribute [local irreducible] lenK sliceK idxK fldK cutK storeK appK copyK clearK mapAtK callK loopH readK readK1 guardK grdK fnK nilK fieldK extrK strK nextK joinK iteK intK boolK cellsK castK castL castEnv binK unK intBin layParts execN runOpsN runItemsN denN call loop blockK
/-- A slice of tensors of one's own; no two data, and no data and dims, share a block. -/
def TOwn (n0 : Nat) (h : Heap) (v : AV) (D : List tensor.den) : Prop :=
  ∃ (cs : List AV) (vd vt : Nat → AV), Acc n0 h 2 v cs D.length ∧
    (∀ i (hi : i < D.length), (cs.drop (i * 2)).take 2 = [vd i, vt i] ∧ AccP n0 n0 h int (vd i) D[i].1 ∧ AccP n0 n0 h int (vt i) D[i].2) ∧
    (∀ i j, i < D.length → (vt i).blk = some j → v.blk ≠ some j ∧ ∀ i', i' < D.length → (vd i').blk ≠ some j ∧ (i' ≠ i → (vt i').blk ≠ some j)) ∧
    ∀ i j, i < D.length → (vd i).blk = some j → v.blk ≠ some j
section
variable {R : Type} {Q : R → Prop} {h : Heap}
theorem TOwn.nil {n0 : Nat} : TOwn n0 h .nil [] := ⟨[], fun _ => .nil, fun _ => .nil, Acc.nil, fun i hi => by simp at hi, fun i j hi => by simp at hi, fun i j hi => by simp at hi⟩
theorem TOwn.in {n0 : Nat} {v : AV} {D : List tensor.den} (H : TOwn n0 h v D) : In h tensors D [v] := by
  obtain ⟨cs, vd, vt, a, e, _⟩ := H
  refine ⟨v, cs, rfl, a.slice fun l hl => (a.lt hl).2, fun i x hi => ?_⟩
  obtain ⟨hil, rfl⟩ := List.getElem?_eq_some_iff.1 hi
  obtain ⟨e1, e2, e3⟩ := e i hil
  simp only [PT.sz]
  rw [show (1 + 1 : Nat) = 2 from rfl, e1]
  exact holds_ten (e2.in (Nat.le_refl _)) (e3.in (Nat.le_refl _))
theorem TOwn.one {n0 : Nat} {v : AV} {D : List tensor.den} (H : TOwn n0 h v D) : v.one = true := by
  obtain ⟨cs, vd, vt, a, _⟩ := H
  exact a.one
theorem TOwn.keep {n0 : Nat} {h' : Heap} {v : AV} {D : List tensor.den} (H : TOwn n0 h v D) (o : Old h.length h h') : TOwn n0 h' v D := by
  obtain ⟨cs, vd, vt, a, e, s, t⟩ := H
  exact ⟨cs, vd, vt, a.keep fun l hl => o.2 l (a.lt hl).2, fun i hi => ⟨(e i hi).1, (e i hi).2.1.keep o, (e i hi).2.2.keep o⟩, s, t⟩
theorem int_flat {h h' : Heap} : ∀ (S S' : Nat → Prop) (x : int.den) (cs : List AV), Holds S h int x cs → Holds S' h' int x cs := fun _ _ _ _ h => h
/-- A tensor's data, to be written. -/
theorem TOwn.data {n0 : Nat} {v : AV} {D : List tensor.den} (H : TOwn n0 h v D) {i : Nat} (hi : i < D.length) {K : AV → Option R}
    (k : ∀ u, AccP n0 n0 h int u D[i].2 → (∀ h' x, But u h h' → AccP n0 n0 h' int u x → TOwn n0 h' v (D.set i (D[i].1, x))) → WP (K u) Q) : WP (readK1 h (addrOf v 2 i 1) 1 K) Q := by
  have hin := H
  obtain ⟨cs, vd, vt, a, e, s, t⟩ := hin
  have hs := a.slice (S := fun l => l < h.length) fun l hl => (a.lt hl).2
  refine wp_cell hs hi (e i hi).1 rfl (k (vt i) (e i hi).2.2 fun h' x but ax => ?_)
  have far : ∀ w : AV, (∀ j, (vt i).blk = some j → w.blk ≠ some j) → (∀ j, w.blk = some j → j < h.length) → ∀ j, w.blk = some j → h'[j]? = h[j]? := fun w h1 h2 j hj => but.2 j (h2 j hj) fun e => h1 j e hj
  refine ⟨cs, vd, vt, by rw [List.length_set]; exact a.keep (far v (fun j hj => (s i j hi hj).1) fun j hj => (a.lt hj).2), fun q hq => ?_, by rw [List.length_set]; exact s, by rw [List.length_set]; exact t⟩
  rw [List.length_set] at hq
  have kd := (e q hq).2.1.flat int_flat (far (vd q) (fun j hj => ((s i j hi hj).2 q hq).1) fun j hj => ((e q hq).2.1.low hj).2)
  by_cases c : i = q
  · subst c
    simp only [List.getElem_set_self]
    exact ⟨(e i hi).1, kd, ax⟩
  · simp only [List.getElem_set_ne c]
    exact ⟨(e q hq).1, kd, (e q hq).2.2.flat int_flat (far (vt q) (fun j hj => ((s i j hi hj).2 q hq).2 fun e => c e.symm) fun j hj => ((e q hq).2.2.low hj).2)⟩
/-- One tensor more. -/
theorem wp_pushOwn {base n0 : Nat} {h0 : Heap} {ob : AObj} {v a1 a2 : AV} {D : List tensor.den} {t : tensor.den} (H : TOwn n0 h0 v D) (o : Old h0.length h0 h) (T : TenAt h0.length h t (.agg [a1, a2])) (hb : base ≤ n0) (hn : n0 ≤ h0.length) (hl : D.length ≤ 1000000) {K : AV → Heap → Option R}
    (kk : ∀ v' h', Old n0 h h' → TOwn n0 h' v' (D ++ [t]) → WP (K v' h') Q) : WP (appK base 2 48 (h ++ [ob]) v [a1, a2] 1 K) Q := by
  obtain ⟨cs, vd, vt, a, e, s, tt⟩ := H
  obtain ⟨b1, b2, k, eq, T1, T2, T3, T4, T5⟩ := T
  cases eq
  have o' : Old h0.length h0 (h ++ [ob]) := o.trans (Old.app.mono o.1)
  have a' := a.keep (h' := h ++ [ob]) fun l hl => o'.2 l (a.lt hl).2
  have hln : n0 ≤ (h ++ [ob]).length := Nat.le_trans hn o'.1
  refine wp_app a' hb hln (by rfl) (by omega) (by omega) fun v' h' but vb acc => kk v' h' ?_ ?_
  · exact ((Old.app (t := [ob])).mono (Nat.le_trans hn o.1)).trans (but.old a' hln)
  have hlt : ∀ j, v.blk = some j → j < h0.length := fun j hj => (a.lt hj).2
  have olen := o.1
  have vlt : ∀ j, v'.blk = some j → j < h0.length ∨ h.length ≤ j := fun j hj => by
    rcases vb j hj with h1 | h1
    · exact .inl (hlt j h1)
    · right
      rw [h1]
      simp
  -- what lies elsewhere than the slice's own block stays
  have stay : ∀ j, j < h.length → v.blk ≠ some j → h'[j]? = h[j]? := fun j hj hv => by
    rw [but.2 j (by simp; omega) hv, List.getElem?_append_left hj]
  have old1 : ∀ (w : AV) (L : List Int), AccP n0 n0 h0 int w L → (∀ j, w.blk = some j → v.blk ≠ some j) → AccP n0 n0 h' int w L := fun w L hw hv =>
    (hw.keep o).flat int_flat fun j hj => stay j (Nat.lt_of_lt_of_le (hw.low hj).2 olen) (hv j hj)
  have new1 : ∀ (w : AV) (L : List Int) (m : Nat), h0.length ≤ m → AccP m m h int w L → AccP n0 n0 h' int w L := fun w L m hm hw =>
    ((hw.flat int_flat fun j hj => stay j (hw.low hj).2 fun e => by have := hlt j e; have := (hw.low hj).1; omega).mono (by omega) (by omega))
  have cl : cs.length = D.length * 2 := a.len
  refine ⟨cs ++ [a1, a2], fun i => if i < D.length then vd i else a1, fun i => if i < D.length then vt i else a2, by simpa using acc, fun i hi => ?_, fun i j hi hj => ?_, fun i j hi hj => ?_⟩
  · simp at hi
    by_cases c : i < D.length
    · obtain ⟨e1, e2, e3⟩ := e i c
      simp only [c, if_true, List.getElem_append_left c]
      refine ⟨?_, old1 _ _ e2 fun j hj => tt i j c hj, old1 _ _ e3 fun j hj => (s i j c hj).1⟩
      rw [List.drop_append_of_le_length (by omega), List.take_append_of_le_length (by rw [List.length_drop]; omega), e1]
    · have ei : i = D.length := by omega
      subst ei
      simp only [c, if_false]
      refine ⟨?_, ?_, ?_⟩
      · rw [← cl, List.drop_left]
        rfl
      · simp only [List.getElem_concat_length]
        exact new1 _ _ _ (Nat.le_refl _) T1
      · simp only [List.getElem_concat_length]
        exact new1 _ _ _ T3 T5
  · simp at hi
    by_cases c : i < D.length
    · simp only [c, if_true] at hj
      have hjl := ((e i c).2.2.low hj).2
      refine ⟨fun ev => ?_, fun i' hi' => ?_⟩
      · rcases vb j ev with h1 | h1
        · exact (s i j c hj).1 h1
        · simp at h1
          omega
      · simp at hi'
        by_cases c' : i' < D.length
        · simp only [c', if_true]
          exact (s i j c hj).2 i' c'
        · simp only [c', if_false]
          exact ⟨fun e2 => by have := (T1.low e2).1; omega, fun _ e2 => by have := (T5.low e2).1; omega⟩
    · simp only [c, if_false] at hj
      have hjk := (T5.low hj)
      refine ⟨fun ev => by rcases vlt j ev with h1 | h1 <;> omega, fun i' hi' => ?_⟩
      simp at hi'
      by_cases c' : i' < D.length
      · simp only [c', if_true]
        exact ⟨fun e2 => by have := ((e i' c').2.1.low e2).2; omega, fun _ e2 => by have := ((e i' c').2.2.low e2).2; omega⟩
      · simp only [c', if_false]
        exact ⟨fun e2 => by have := T2 j e2; omega, fun hne => absurd (show i' = i by omega) hne⟩
  · simp at hi
    intro ev
    by_cases c : i < D.length
    · simp only [c, if_true] at hj
      have hjl := ((e i c).2.1.low hj).2
      rcases vb j ev with h1 | h1
      · exact tt i j c hj h1
      · simp at h1
        omega
    · simp only [c, if_false] at hj
      have h1 := T1.low hj
      rcases vlt j ev with h2 | h2 <;> omega
theorem ref0_CopyTensors {v : AV} {X : List tensor.den} (hx : In h tensors X [v]) (hok : X.all tenOk = true) (hlen : X.length ≤ 1000000) (b : Nat) (hb : b ≤ h.length) : WP (call prog b 213 [v] h) fun r => Old h.length h r.2 ∧ TOwn h.length r.2 r.1 X := by
  refine wp_enter (fn := C.ref0_CopyTensors) rfl ?_
  dsimp only [bodyN, C.ref0_CopyTensors, C.ref0_CopyTensors_l0]; simp
  refine wp_loop (I := fun m e h' => Old h.length h h' ∧ ∃ (i : Nat) (w : AV), e = (ea 0 v <| ea 3 w <| ea 4 (.int .i64 (i : Nat)) e0) ∧ i + m = X.length ∧ TOwn h.length h' w (X.take i)) ?_ ⟨Old.refl (Nat.le_refl _), 0, .nil, rfl, Nat.zero_add _, TOwn.nil⟩
  rintro N m e h2 ⟨o2, i, w, rfl, him, own⟩ next
  have l2 := o2.1
  have hx2 := In.old o2 hx
  dsimp only [C.ref0_CopyTensors_b0]; simp
  refine wq_len hx2 ?_
  try simp
  refine wp_dec (fun hi => ?_) fun hi => ?_
  · have wi := succ64 (i := i) (n := 1000000) (by omega) (by omega)
    obtain ⟨s1, s2, s3, s4, s5⟩ := ten_parts (List.all_eq_true.1 hok _ (List.getElem_mem hi))
    try simp
    refine wq_idx hx2 (by rfl) (by omega) (by omega) ?_
    try simp
    refine wq_tensor hx2 hi fun dd tt hdd htt => ?_
    try simp
    refine wp_call (ref0_CopyTensor (t := X[i]) (holds_ten hdd htt) (by omega) (by omega) b (by omega)) fun v3 h3 ⟨o3, T3⟩ => ?_
    simp only at o3 T3
    have l3 := o3.1
    obtain ⟨vd', vt', rfl⟩ := T3.agg
    try simp [layAt]
    refine wp_pushOwn own o3 T3 (by omega) l2 (by simp; omega) fun v4 h4 o4 own4 => ?_
    simp [wi]
    exact next (m - 1) _ _ (by omega) ⟨(o2.trans (o3.mono l2)).trans o4, i + 1, v4, by simp, by omega, by rw [take_succ_app hi]; exact own4⟩
  · have ei : i = X.length := by omega
    rw [ei, List.take_length] at own
    try simp
    exact wp_some ⟨o2, own⟩
end
end Go.AM

/- Are the slopes of a graph made so the page's? -/
namespace Go.AM
set_option maxRecDepth 20000
set_option maxHeartbeats 2000000
attribute [local simp] layAt
attribute [local irreducible] lenK sliceK idxK fldK cutK storeK appK copyK clearK mapAtK callK loopH readK readK1 guardK grdK fnK nilK fieldK extrK strK nextK joinK iteK intK boolK cellsK castK castL castEnv binK unK intBin layParts execN runOpsN runItemsN denN call loop blockK
/-- Tensors of the same dims, as long. -/
def Same (D X : List tensor.den) : Prop := D.map (fun t => (t.1, t.2.length)) = X.map (fun t => (t.1, t.2.length))
theorem Same.len {D X : List tensor.den} (H : Same D X) : D.length = X.length := by
  have := congrArg List.length H
  simpa using this
theorem Same.set {D X : List tensor.den} (H : Same D X) {i : Nat} (hi : i < D.length) {y : List Int} (hy : y.length = D[i].2.length) : Same (D.set i (D[i].1, y)) X := by
  rw [Same, ← show D.map (fun t => (t.1, t.2.length)) = _ from H, List.map_set]
  have e : ((D[i].1, y).1, (D[i].1, y).2.length) = (D.map fun t : tensor.den => (t.1, t.2.length))[i]'(by simpa using hi) := by simp [hy]
  rw [e, List.set_getElem_self]
theorem Same.ok {D X : List tensor.den} (H : Same D X) {l : List node.den} (h0 : checkL l X = 0) : checkL l D = 0 := by
  obtain ⟨c1, c2, c3⟩ := checkL_parts h0
  have e1 : D.map (·.1) = X.map (·.1) := by
    have := congrArg (List.map Prod.fst) (show D.map (fun t : tensor.den => (t.1, t.2.length)) = X.map (fun t : tensor.den => (t.1, t.2.length)) from H)
    simpa [List.map_map, Function.comp_def] using this
  have e2 : D.all tenOk = X.all tenOk := by
    have key : ∀ L : List tensor.den, L.all tenOk = (L.map (fun t : tensor.den => ((t.1, t.2.length) : List Int × Nat))).all fun q : List Int × Nat => dimsOk q.1 && decide ((q.2 : Int) = prodW q.1) := fun L => by
      rw [List.all_map]
      rfl
    rw [key, key, show D.map (fun t : tensor.den => (t.1, t.2.length)) = X.map (fun t : tensor.den => (t.1, t.2.length)) from H]
  have e3 : fitsL l D = true := by
    rw [fitsL, decide_eq_true_eq, e1]
    exact of_decide_eq_true c3
  rw [checkL, c1, e2, c2, e3]
  rfl
section
variable {R : Type} {Q : R → Prop} {h : Heap}
theorem in_block {p : PT} {l : List p.den} {cs : List AV} {k s n : Nat} (hb : h[k]? = some (.cells 0 s cs)) (H : InAll h p l cs) (hl : l.length ≤ 140737488355328) (hs : s = p.sz) (hn : n = l.length) : In h (.slice p) l [.ref k 0 0 n] := by
  subst hs hn
  exact ⟨_, cs, rfl, ⟨hl, (List.getElem?_eq_some_iff.1 hb).1, rfl, H.len, cs, hb, by rw [H.len]; omega, by rw [List.drop_zero, List.take_of_length_le (Nat.le_of_eq H.len)]⟩, fun i x hi => H.get i x hi⟩
@[simp] theorem law11_num (b : Nat) (n : Int) (K : AV → Heap → Option R) : callK (call prog) b 215 [.int .i64 n] h K = K (.int .i64 n) h :=
  callK_eq (wp_iff.1 (wp_enter (fn := C.law11_num) rfl (by
    dsimp only [bodyN, C.law11_num]; simp
    exact wp_some rfl))) _
def wake11 : List node.den := [(bs [97], 2, [], [1], 0), (bs [98], 6, [0, 0], [1], 0)]
theorem wake11_is : slopeE wake11 [([1], [3])] [([1], [1])] = 0 ∧ slopeN wake11 [([1], [3])] [([1], [1])] = 6 := by decide +kernel
theorem law11_wakes (b : Nat) (hb : b ≤ h.length) : WP (call prog b 216 [] h) fun r => Old h.length h r.2 ∧ r.1 = .bool true := by
  refine wp_enter (fn := C.law11_wakes) rfl ?_
  dsimp only [bodyN, C.law11_wakes]; simp [layAt]
  generalize hh : h ++ [AObj.cells 0 1 [AV.int IntKind.i64 1], AObj.cells 0 1 [AV.int IntKind.i64 0, AV.int IntKind.i64 0], AObj.cells 0 1 [AV.int IntKind.i64 1], AObj.cells 0 5 [AV.str (bs [97]), AV.int IntKind.i64 2, AV.nil, AV.ref (List.length h) 0 0 1, AV.int IntKind.i64 0, AV.str (bs [98]), AV.int IntKind.i64 6, AV.ref (List.length h + 1) 0 0 2, AV.ref (List.length h + 2) 0 0 1, AV.int IntKind.i64 0], AObj.cells 0 1 [AV.int IntKind.i64 1], AObj.cells 0 1 [AV.int IntKind.i64 3], AObj.cells 0 2 [AV.ref (List.length h + 4) 0 0 1, AV.ref (List.length h + 5) 0 0 1], AObj.cells 0 1 [AV.int IntKind.i64 1], AObj.cells 0 1 [AV.int IntKind.i64 1], AObj.cells 0 2 [AV.ref (List.length h + 7) 0 0 1, AV.ref (List.length h + 8) 0 0 1]] = h1
  have o1 : Old h.length h h1 := hh ▸ Old.app
  have l1 : h1.length = h.length + 10 := by rw [← hh]; simp
  have d0 : In h1 ints [1] [.ref h.length 0 0 1] := holds_ref (k := h.length) (l := [1]) (by rw [← hh]; simp) (by omega) rfl (by simp) (by simp)
  have a1 : In h1 ints [0, 0] [.ref (h.length + 1) 0 0 2] := holds_ref (k := h.length + 1) (l := [0, 0]) (by rw [← hh]; simp) (by omega) rfl (by simp) (by simp)
  have d2 : In h1 ints [1] [.ref (h.length + 2) 0 0 1] := holds_ref (k := h.length + 2) (l := [1]) (by rw [← hh]; simp) (by omega) rfl (by simp) (by simp)
  have x4 : In h1 ints [1] [.ref (h.length + 4) 0 0 1] := holds_ref (k := h.length + 4) (l := [1]) (by rw [← hh]; simp) (by omega) rfl (by simp) (by simp)
  have x5 : In h1 ints [3] [.ref (h.length + 5) 0 0 1] := holds_ref (k := h.length + 5) (l := [3]) (by rw [← hh]; simp) (by omega) rfl (by simp) (by simp)
  have x7 : In h1 ints [1] [.ref (h.length + 7) 0 0 1] := holds_ref (k := h.length + 7) (l := [1]) (by rw [← hh]; simp) (by omega) rfl (by simp) (by simp)
  have x8 : In h1 ints [1] [.ref (h.length + 8) 0 0 1] := holds_ref (k := h.length + 8) (l := [1]) (by rw [← hh]; simp) (by omega) rfl (by simp) (by simp)
  have HL : In h1 nodes wake11 [.ref (h.length + 3) 0 0 2] := in_block (s := 5) (n := 2) (l := wake11) (p := node) (by rw [← hh]; simp) ⟨_, _, rfl, in_node (x := (bs [97], 2, [], [1], 0)) in_nil d0 (by simp) (by simp) (by decide), _, [], (List.append_nil _).symm, in_node (x := (bs [98], 6, [0, 0], [1], 0)) a1 d2 (by simp) (by simp) (by decide), rfl⟩ (by simp [wake11]) (by rfl) (by simp [wake11])
  have HX : In h1 tensors [([1], [3])] [.ref (h.length + 6) 0 0 1] := in_block (s := 2) (n := 1) (p := tensor) (by rw [← hh]; simp) ⟨_, [], (List.append_nil _).symm, holds_ten x4 x5, rfl⟩ (by simp) (by rfl) (by simp)
  have HD : In h1 tensors [([1], [1])] [.ref (h.length + 9) 0 0 1] := in_block (s := 2) (n := 1) (p := tensor) (by rw [← hh]; simp) ⟨_, [], (List.append_nil _).symm, holds_ten x7 x8, rfl⟩ (by simp) (by rfl) (by simp)
  have hsm : Small wake11 := fun x hx => by
    simp [wake11] at hx
    rcases hx with rfl | rfl <;> simp
  refine wp_call (slope_Loss HL HX HD hsm b (by omega)) fun v3 h3 ⟨o3, e3⟩ => ?_
  simp only [wake11_is.1, wake11_is.2] at o3 e3
  subst e3
  try simp
  exact wp_some ⟨o1.trans (o3.mono (by omega)), rfl⟩
theorem law11_of {k : Int} {y : ask10.den} {as : List AV} (hM : ∀ {h : Heap}, In h ask10 y as → ∀ b, b ≤ h.length → WP (call prog b 231 [.agg as, .int .i64 k] h) (MadeOk h)) (H : In h ask10 y as) (b : Nat) (hb : b ≤ h.length) :
    WP (call prog b 218 [.agg as, .int .i64 k] h) fun r => r.1 = .bool true := by
  obtain ⟨_, vl, vn, vd, vx, vv, rfl, rfl, h8, hl, hx, hv⟩ := holds_ask10 H
  refine wp_enter (fn := C.law11_of) rfl ?_
  dsimp only [bodyN, C.law11_of, C.law11_of_l1]; simp
  generalize hh : h ++ [AObj.cells 0 1 [vl, vn, vd, vx, vv]] = h1
  have o1 : Old h.length h h1 := hh ▸ Old.app
  have b1 : Box h1 h.length [vl, vn, vd, vx, vv] := by rw [← hh]; simp [Box]
  have l1 : h1.length = h.length + 1 := by rw [← hh]; simp
  refine wq_ptrs b1 (by simp) ?_
  try simp
  refine wp_call (law10_Heavy (In.old o1 H) b (by omega)) fun v2 h2 ⟨o2, q, e2, _⟩ => ?_
  simp only at o2 e2
  subst e2
  have l2 := o2.1
  have b2 := b1.old o2 b1.lt
  have o02 := o1.trans (o2.mono (by omega))
  try simp
  refine wp_iteK (fun hq => by (try simp); exact wp_some rfl) fun hq => ?_
  try simp
  refine wq_ptrs b2 (by simp) ?_
  try simp
  refine wp_call (hM (In.old o02 H) b (by omega)) fun v3 h3 ⟨o3, l, X, wl, wx, e3, hL, hX, kL, kC, hsm⟩ => ?_
  simp only at o3 e3 hL hX
  subst e3
  have l3 := o3.1
  obtain ⟨c1, c2, c3⟩ := checkL_parts kC
  have hlen := mayL_len c1
  have hXl : X.length ≤ 480 := by
    have h1 := fits_len c3
    have h2 := ends_len l
    omega
  try simp
  refine wp_call (ref0_CopyTensors hX c2 (by omega) b (by omega)) fun vD h4 ⟨o4, own4⟩ => ?_
  simp only at o4 own4
  have l4 := o4.1
  try simp
  refine wp_loop (I := fun m e h' => Old h3.length h4 h' ∧ h4.length ≤ h'.length ∧ ∃ (i : Nat) (D : List tensor.den), e = (ea 5 wl <| ea 6 wx <| ea 7 vD <| ea 8 (.int .i64 (i : Nat)) e0) ∧ i + m = X.length ∧ Same D X ∧ TOwn h3.length h' vD D) ?_ (m := X.length) ⟨Old.refl l4, Nat.le_refl _, 0, X, rfl, Nat.zero_add _, rfl, own4⟩
  rintro N m e h5 ⟨o5, l5, i, D, rfl, him, hS, own5⟩ next
  have dl := hS.len
  dsimp only [C.law11_of_b1, C.law11_of_l0]; simp
  refine wq_len own5.in ?_
  try simp
  refine wp_dec (fun hi => ?_) fun hi => ?_
  · have wi := succ64 (i := i) (n := 480) (by omega) (by omega)
    have hn : D[i].2.length ≤ 64 := (ten_parts (List.all_eq_true.1 (checkL_parts (hS.ok kC)).2.1 _ (List.getElem_mem hi))).2.2.2.1
    try simp
    refine wp_loop (I := fun m e h' => Old h3.length h4 h' ∧ h4.length ≤ h'.length ∧ ∃ (j : Nat) (E : List tensor.den), e = (ea 5 wl <| ea 6 wx <| ea 7 vD <| ea 8 (.int .i64 (i : Nat)) <| ea 9 (.int .i64 (j : Nat)) e0) ∧ j + m = D[i].2.length ∧ Same E X ∧ Same E D ∧ TOwn h3.length h' vD E) ?_ (m := D[i].2.length) ⟨o5, l5, 0, D, rfl, Nat.zero_add _, hS, rfl, own5⟩
    rintro N2 m2 e2 h6 ⟨o6, l6, j, E, rfl, hjm, hE, hED, own6⟩ next2
    have el := hED.len
    have hiE : i < E.length := by omega
    have hel : E[i].2.length = D[i].2.length := by
      have := congrArg (fun L => L[i]?) (show E.map (fun t : tensor.den => ((t.1, t.2.length) : List Int × Nat)) = D.map (fun t : tensor.den => ((t.1, t.2.length) : List Int × Nat)) from hED)
      simp only [List.getElem?_map, List.getElem?_eq_getElem hiE, List.getElem?_eq_getElem hi, Option.map_some, Option.some.injEq, Prod.mk.injEq] at this
      exact this.2
    dsimp only [C.law11_of_b0]; simp
    refine wq_idx own6.in (by rfl) (by omega) (by omega) ?_
    try simp
    refine own6.data hiE fun u au back => ?_
    try simp
    refine wq_len (au.in (Nat.le_refl _)) ?_
    try simp
    refine wp_dec (fun hj => ?_) fun hj => ?_
    · have wj := succ64 (i := j) (n := 64) (by omega) (by omega)
      try simp
      refine wq_idx own6.in (by rfl) (by omega) (by omega) ?_
      try simp
      refine own6.data hiE fun u2 au2 back2 => ?_
      try simp
      refine wq_idx (au2.in (Nat.le_refl _)) (by rfl) (by omega) (by omega) ?_
      try simp
      refine wp_putI au2 (wrap_range _) (by omega) (by omega) hj fun h7 but7 l7 o7 a7 => ?_
      simp [wj]
      refine next2 (m2 - 1) _ _ (by omega) ⟨o6.trans o7, by omega, j + 1, _, by simp, by omega, hE.set hiE (by simp), hED.set hiE (by simp), back2 h7 _ but7 a7⟩
    · simp [wi]
      exact next (m - 1) _ _ (by omega) ⟨o6, l6, i + 1, E, by simp, by omega, hE, own6⟩
  have o35 := o4.trans (o5.mono (by omega))
  have kD := hS.ok kC
  have l35 := o35.1
  have hL5 := In.old o35 hL
  have hX5 := In.old o35 hX
  have hD5 := own5.in
  have hA : askedE l X D = 0 := by rw [askedE, if_pos (.inr kD), kC]
  try simp
  refine wp_call (slope_All hL5 hX5 hD5 hsm b (by omega)) fun v6 h6 ⟨o6, v6', e6, a6⟩ => ?_
  simp only at o6 e6 a6
  rw [hA] at e6
  subst e6
  have a6 := (a6 hA).in (Nat.le_refl _)
  have l6 := o6.1
  try simp
  refine wp_call (slope_Loss (In.old o6 hL5) (In.old o6 hX5) (In.old o6 hD5) hsm b (by omega)) fun v7 h7 ⟨o7, e7⟩ => ?_
  simp only at o7 e7
  rw [slopeE, if_pos kL, hA] at e7
  subst e7
  have l7 := o7.1
  have o57 := o6.trans (o7.mono l6)
  try simp
  refine wp_call (ref10_Slopes (In.old o57 hL5) (In.old o57 hX5) (In.old o57 hD5) kC kD b (by omega)) fun v8 h8 ⟨o8, a8⟩ => ?_
  simp only at o8 a8
  have l8 := o8.1
  have a8 := a8.in (Nat.le_refl _)
  have a68 := In.old (o7.trans (o8.mono l7)) a6
  try simp
  refine wp_call (ref0_EqTensors a68 a8 _ (by omega)) fun v9 h9 ⟨o9, e9⟩ => ?_
  simp only at o9 e9
  simp at e9
  subst e9
  have l9 := o9.1
  have a9 := In.old o9 a8
  obtain ⟨hq, t3, eN⟩ := slopeN_at kL hA
  have hne := isL_ne kL
  have hvl := slopesL_len l X D
  have w1 : IntKind.i64.wrap ((l.length : Int) - 1) = (l.length : Int) - 1 := w64_id (by omega) (by omega)
  have n1 : ((l.length : Int) - 1).toNat = l.length - 1 := by omega
  try simp
  refine wq_len a9 ?_
  simp [hvl, w1]
  refine wq_idx a9 (by rfl) (by omega) (by omega) ?_
  simp [n1]
  refine wq_tdata a9 hq fun u hu => ?_
  try simp
  refine wq_idx hu (by rfl) (by omega) (by omega) ?_
  try simp
  refine wq_int hu t3 ?_
  simp [eN]
  refine wp_call (law11_wakes _ (by omega)) fun v10 h10 ⟨_, e10⟩ => ?_
  simp only at e10
  subst e10
  try simp
  exact wp_some rfl
end
end Go.AM
