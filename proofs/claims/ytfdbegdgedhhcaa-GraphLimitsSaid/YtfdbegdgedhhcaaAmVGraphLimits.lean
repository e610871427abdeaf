/- The law GraphLimits: as many nodes as may be are a graph, one more is none but may be nodes; two of one name, or one ahead of what it is made of, are none. No condition. -/
import Derived.Test.YtfdbegdgedhhcaaAmS15
set_option linter.all false
namespace Go.AM
set_option maxRecDepth 20000
set_option maxHeartbeats 1000000
attribute [local simp] layAt
attribute [local irreducible] lenK sliceK idxK fldK cutK storeK appK copyK clearK mapAtK callK loopH readK readK1 guardK grdK fnK nilK fieldK extrK strK nextK joinK iteK intK boolK cellsK castK castL castEnv binK unK intBin layParts execN runOpsN runItemsN denN call loop blockK
/-- The i-th node made here. -/
def limN (i : Nat) : node.den := (bs [110] ++ ⟨#[UInt8.ofNat (97 + i)]⟩, 3, [], [1], 0)
def limL (n : Nat) : List node.den := (List.range n).map limN
def limMore : List node.den := limL 24 ++ [(bs [122], 7, [0], [1], 0)]
theorem limL_len (n : Nat) : (limL n).length = n := by simp [limL]
def limTwice : List node.den := (limL 24).set 1 (((limL 24)[0]'(by rw [limL_len]; omega)).1, ((limL 24)[1]'(by rw [limL_len]; omega)).2)
def limAhead : List node.den := (limL 24).set 0 (bs [110, 97], 7, [0], [1], 0)
def limWide : List node.den := limL 3 ++ [(bs [122], 3, [], [2], 0)]
theorem lim1 : isL (limL 24) = true := by decide +kernel
theorem lim2 : isL limMore = false := by decide +kernel
theorem lim3 : mayL limMore = true := by decide +kernel
theorem lim4 : isL limTwice = false := by decide +kernel
theorem lim5 : mayL limTwice = true := by decide +kernel
theorem lim6 : mayL limAhead = false := by decide +kernel
theorem lim7 : isL limWide = false := by decide +kernel
theorem lim8 : mayL [] = true := by decide +kernel
def smallB (l : List node.den) : Bool := l.all fun x => decide (x.2.2.1.length ≤ 8) && decide (x.2.2.2.1.length ≤ 8) && decide (x.1.size ≤ 8)
theorem small_b {l : List node.den} (h : smallB l = true) : Small l := fun x hx => by
  have := List.all_eq_true.1 h x hx
  simp at this
  omega
theorem lim9 : smallB (limL 24) = true ∧ smallB limMore = true ∧ smallB limTwice = true ∧ smallB limAhead = true ∧ smallB limWide = true := by decide +kernel
theorem wp_stradd {R : Type} {Q : R → Prop} {a b : ByteArray} (h : a.size + b.size ≤ 4611686018427387904) {q : Nat} {K : AV → Option R} (k : WP (K (.str (a ++ b))) Q) : WP (binK .add q (.str a) (.str b) K) Q := by
  simp only [binK]
  rw [if_pos h]
  exact k
theorem Laws.GraphLimits (y : ask8.den) (as : List AV) (H : Holds (fun _ => False) [] ask8 y as) : WP (call prog 0 12 [.agg as] []) fun r => r.1 = .bool true := by
  have H0 : In [] ask8 y as := H.mono fun _ h => h.elim
  obtain ⟨vl, vn, vd, rfl, hl, hn, hd⟩ := holds_ask8 H0
  refine wp_enter (fn := C.law8_GraphLimits) rfl ?_
  dsimp only [bodyN, C.law8_GraphLimits, C.law8_GraphLimits_l0]; simp
  generalize hh : [AObj.cells 0 1 [vl, vn, vd]] = h1
  have b1 : Box h1 0 [vl, vn, vd] := by subst hh; simp [Box]
  have o1 : Old ([] : Heap).length [] h1 := ⟨Nat.zero_le _, fun l hl => by simp at hl⟩
  have lt1 := b1.lt
  refine wp_loop (I := fun m e h' => Old h1.length h1 h' ∧ ∃ i v, e = (ea 1 (.ptr 0 0 0) <| ea 3 v <| ea 4 (.int .i64 (i : Nat)) e0) ∧ i + m = 24 ∧ AccP 0 h1.length h' node v (limL i)) ?_ ⟨Old.refl (Nat.le_refl _), 0, .nil, rfl, Nat.zero_add _, AccP.nil⟩
  rintro N m e h2 ⟨o2, i, v, rfl, him, acc⟩ next
  dsimp only [C.law8_GraphLimits_b0]; simp
  refine wp_dec (fun hi => ?_) fun hi => ?_
  · have w1 : IntKind.i64.wrap (97 + (i : Int)) = 97 + (i : Int) := w64_id (by omega) (by omega)
    have w2 : IntKind.u8.wrap (97 + (i : Int)) = 97 + (i : Int) := by simp [IntKind.wrap, IntKind.bits, IntKind.signed]; omega
    have w3 := succ64 (i := i) (n := 24) (by omega) (by omega)
    simp [w1, w2, bytesOf]
    refine wp_stradd (by simp [bs, ByteArray.size]) ?_
    simp
    generalize hh3 : h2 ++ [AObj.cells 0 1 [AV.int IntKind.u8 (IntKind.u8.wrap (IntKind.i64.wrap (97 + (i : Int))))], AObj.cells 0 1 [AV.int IntKind.i64 1], AObj.cells 0 5 [AV.str (bs [110] ++ { data := #[UInt8.ofNat (97 + (i : Int)).toNat] }), AV.int IntKind.i64 3, AV.nil, AV.ref (List.length h2 + 1) 0 0 1, AV.int IntKind.i64 0]] = h3
    have o23 : Old h2.length h2 h3 := hh3 ▸ Old.app
    have l3 : h3.length = h2.length + 3 := by rw [← hh3]; simp
    have bx : h3[h2.length + 1]? = some (.cells 0 1 ([1].map (.int .i64))) := by rw [← hh3]; simp
    have e1 : (97 + (i : Int)).toNat = 97 + i := by omega
    have hx : Holds (fun j => 0 ≤ j ∧ j < h3.length ∧ v.blk ≠ some j) h3 node (limN i) [AV.str (bs [110] ++ { data := #[UInt8.ofNat (97 + (i : Int)).toNat] }), AV.int IntKind.i64 3, AV.nil, AV.ref (List.length h2 + 1) 0 0 1, AV.int IntKind.i64 0] := by
      rw [e1]
      refine holds_node (x := limN i) (in_nil) (holds_ref (l := [1]) bx ⟨by omega, by omega, fun e => ?_⟩ rfl (by simp) (by simp)) (by simp [limN]) (by simp [limN]) (by simp [limN, bs, ByteArray.size])
      obtain ⟨_, ac, _⟩ := acc
      have := (ac.lt e).2
      omega
    refine wp_push (p := node) (bytes := 80) (acc.keep o23) hx rfl (Nat.zero_le _) (by have := o2.1; omega) (by simp [limL]; omega) (by simp [limL]; omega) fun v4 h4 _ o4 a4 => ?_
    simp [w3]
    exact next (m - 1) _ _ (by omega) ⟨(o2.trans (o23.mono o2.1)).trans o4, i + 1, _, rfl, by omega, by rw [limL, List.range_succ, List.map_append]; exact a4⟩
  have e : i = 24 := by omega
  subst e
  have hv := acc.in (Nat.zero_le _)
  obtain ⟨s1, s2, s3, s4, s5⟩ := lim9
  refine wp_call (ref0_CopyNodes hv (small_b s1) (by simp [limL]) 0 (Nat.zero_le _)) fun v3 h3 ⟨o3, a3⟩ => ?_
  simp only at o3 a3
  have hv3 := In.old o3 hv
  try simp
  -- more
  have lt3 := o3.1
  have hv3 := In.old o3 hv
  generalize hh4 : h3 ++ [AObj.cells 0 1 [AV.int IntKind.i64 0], AObj.cells 0 1 [AV.int IntKind.i64 1], AObj.cells 0 5 [AV.str (bs [122]), AV.int IntKind.i64 7, AV.ref (List.length h3) 0 0 1, AV.ref (List.length h3 + 1) 0 0 1, AV.int IntKind.i64 0]] = h4
  have o34 : Old h3.length h3 h4 := hh4 ▸ Old.app
  have l4 : h4.length = h3.length + 3 := by rw [← hh4]; simp
  have bx0 : h4[h3.length]? = some (.cells 0 1 ([0].map (.int .i64))) := by rw [← hh4]; simp
  have bx1 : h4[h3.length + 1]? = some (.cells 0 1 ([1].map (.int .i64))) := by rw [← hh4]; simp
  have apart3 : ∀ j, h3.length ≤ j → v3.blk ≠ some j := fun j hj e => by
    obtain ⟨_, ac, _⟩ := a3
    have := (ac.lt e).2
    omega
  have hx4 : Holds (fun j => h2.length ≤ j ∧ j < h4.length ∧ v3.blk ≠ some j) h4 node (bs [122], 7, [0], [1], 0) [AV.str (bs [122]), AV.int IntKind.i64 7, AV.ref (List.length h3) 0 0 1, AV.ref (List.length h3 + 1) 0 0 1, AV.int IntKind.i64 0] :=
    holds_node (x := (bs [122], 7, [0], [1], 0)) (holds_ref (l := [0]) bx0 ⟨by omega, by omega, apart3 _ (by omega)⟩ rfl (by simp) (by simp)) (holds_ref (l := [1]) bx1 ⟨by omega, by omega, apart3 _ (by omega)⟩ rfl (by simp) (by simp)) (by simp) (by simp) (by simp [bs, ByteArray.size])
  refine wp_push (p := node) (bytes := 80) (a3.keep o34) hx4 rfl (Nat.zero_le _) (by omega) (by simp [limL]) (by simp [limL]) fun v5 h5 _ o5 a5 => ?_
  try simp
  have o25 : Old h2.length h2 h5 := (o3.trans (o34.mono lt3)).trans o5
  have hmore : In h5 nodes limMore [v5] := a5.in (Nat.le_refl _)
  -- twice
  refine wp_call (ref0_CopyNodes (In.old o25 hv) (small_b s1) (by simp [limL]) 0 (Nat.zero_le _)) fun v6 h6 ⟨o6, a6⟩ => ?_
  simp only at o6 a6
  try simp
  have hmore6 := In.old o6 hmore
  have h0 : 0 < (limL 24).length := by simp [limL]
  have h1' : 1 < (limL 24).length := by simp [limL]
  have in6 := a6.in (Nat.le_refl _)
  refine wq_idx in6 (by rfl) (by omega) (by omega) ?_
  try simp
  refine wq_name in6 h0 ?_
  try simp
  refine wq_idx in6 (by rfl) (by omega) (by omega) ?_
  try simp
  have sz0 : (limL 24)[0].1.size ≤ 140737488355328 := by
    have := List.all_eq_true.1 s1 _ (List.getElem_mem h0)
    simp at this
    omega
  refine wp_putf (p := node) (o := 0) (m := 1) (x := ((limL 24)[0].1, (limL 24)[1].2)) (X := AV.str (limL 24)[0].fst) (vs := [AV.str (limL 24)[0].fst]) a6 (fun _ => by rw [cellsK_str]) rfl rfl (by decide) (Nat.zero_le _) o6.1 h1' (fun ys _ hy => by
    obtain ⟨a, d, rfl, ha, hd, hk, hn, _⟩ := hy.node
    exact holds_node (x := ((limL 24)[0].1, (limL 24)[1].2)) ha hd hk hn sz0) fun h7 _ l7 o7 a7 => ?_
  have o67 : Old h5.length h5 h7 := o6.trans o7
  have htw : In h7 nodes limTwice [v6] := a7.in (Nat.le_refl _)
  have hmore7 := In.old o67 hmore
  have hv7 := In.old o67 (In.old o25 hv)
  clear a6 in6 hmore6
  try simp
  -- ahead
  refine wp_call (ref0_CopyNodes hv7 (small_b s1) (by simp [limL]) 0 (Nat.zero_le _)) fun v8 h8 ⟨o8, a8⟩ => ?_
  simp only at o8 a8
  try simp
  have in8 := a8.in (Nat.le_refl _)
  have htw8 := In.old o8 htw
  have hmore8 := In.old o8 hmore7
  have hv8 := In.old o8 hv7
  have lt8 := o8.1
  generalize hh9 : h8 ++ [AObj.cells 0 1 [AV.int IntKind.i64 0], AObj.cells 0 1 [AV.int IntKind.i64 1]] = h9
  have o89 : Old h8.length h8 h9 := hh9 ▸ Old.app
  have l9 : h9.length = h8.length + 2 := by rw [← hh9]; simp
  have by0 : h9[h8.length]? = some (.cells 0 1 ([0].map (.int .i64))) := by rw [← hh9]; simp
  have by1 : h9[h8.length + 1]? = some (.cells 0 1 ([1].map (.int .i64))) := by rw [← hh9]; simp
  have apart8 : ∀ j, h8.length ≤ j → v8.blk ≠ some j := fun j hj e => by
    obtain ⟨_, ac, _⟩ := a8
    have := (ac.lt e).2
    omega
  have hx9 : Holds (fun j => h7.length ≤ j ∧ j < h9.length ∧ v8.blk ≠ some j) h9 node (bs [110, 97], 7, [0], [1], 0) [AV.str (bs [110, 97]), AV.int IntKind.i64 7, AV.ref (List.length h8) 0 0 1, AV.ref (List.length h8 + 1) 0 0 1, AV.int IntKind.i64 0] :=
    holds_node (x := (bs [110, 97], 7, [0], [1], 0)) (holds_ref (l := [0]) by0 ⟨by omega, by omega, apart8 _ (by omega)⟩ rfl (by simp) (by simp)) (holds_ref (l := [1]) by1 ⟨by omega, by omega, apart8 _ (by omega)⟩ rfl (by simp) (by simp)) (by simp) (by simp) (by simp [bs, ByteArray.size])
  have a9 := a8.keep o89
  have in9 := a9.in (Nat.le_refl _)
  refine wq_idx in9 (by rfl) (by omega) (by omega) ?_
  try simp
  refine wp_put (p := node) (x := (bs [110, 97], 7, [0], [1], 0)) a9 hx9 (fun _ => by rw [cellsK_agg]) rfl (Nat.zero_le _) (by omega) h0 fun h10 _ l10 o10 a10 => ?_
  try simp
  have hah : In h10 nodes limAhead [v8] := a10.in (Nat.le_refl _)
  have o710 : Old h7.length h7 h10 := (o8.trans (o89.mono lt8)).trans o10
  have htw10 := In.old o710 htw
  have hmore10 := In.old o710 hmore7
  have hv10 := In.old o710 hv7
  -- wide
  refine wq_len hv10 ?_
  try simp
  refine wp_guard (by rw [limL_len]; omega) ?_
  try simp
  refine wp_cut (p := node) hv10 rfl (a := 0) (b := 3) (by omega) (by rw [limL_len]; omega) (by rfl) (by rfl) fun v11 hv11 => ?_
  have e3 : ((limL 24).drop 0).take (3 - 0) = limL 3 := rfl
  rw [e3] at hv11
  try simp
  have s3' : smallB (limL 3) = true := by decide +kernel
  refine wp_call (ref0_CopyNodes hv11 (small_b s3') (by simp [limL]) 0 (Nat.zero_le _)) fun v12 h12 ⟨o12, a12⟩ => ?_
  simp only at o12 a12
  try simp
  have lt12 := o12.1
  generalize hh13 : h12 ++ [AObj.cells 0 1 [AV.int IntKind.i64 2], AObj.cells 0 5 [AV.str (bs [122]), AV.int IntKind.i64 3, AV.nil, AV.ref (List.length h12) 0 0 1, AV.int IntKind.i64 0]] = h13
  have o123 : Old h12.length h12 h13 := hh13 ▸ Old.app
  have l13 : h13.length = h12.length + 2 := by rw [← hh13]; simp
  have bz : h13[h12.length]? = some (.cells 0 1 ([2].map (.int .i64))) := by rw [← hh13]; simp
  have hx13 : Holds (fun j => h10.length ≤ j ∧ j < h13.length ∧ v12.blk ≠ some j) h13 node (bs [122], 3, [], [2], 0) [AV.str (bs [122]), AV.int IntKind.i64 3, AV.nil, AV.ref (List.length h12) 0 0 1, AV.int IntKind.i64 0] :=
    holds_node (x := (bs [122], 3, [], [2], 0)) in_nil (holds_ref (l := [2]) bz ⟨by omega, by omega, fun e => by
      obtain ⟨_, ac, _⟩ := a12
      have := (ac.lt e).2
      omega⟩ rfl (by simp) (by simp)) (by simp) (by simp) (by simp [bs, ByteArray.size])
  refine wp_push (p := node) (bytes := 80) (a12.keep o123) hx13 rfl (Nat.zero_le _) (by omega) (by simp [limL]) (by simp [limL]) fun v14 h14 _ o14 a14 => ?_
  have o1014 : Old h10.length h10 h14 := (o12.trans (o123.mono lt12)).trans o14
  have hwi : In h14 nodes limWide [v14] := a14.in (Nat.le_refl _)
  have htw14 := In.old o1014 htw10
  have hmore14 := In.old o1014 hmore10
  have hv14 := In.old o1014 hv10
  have hah14 := In.old o1014 hah
  clear a14 a12 a10 a9 a8 a7 a5 a3 acc hx13 hx9 hx4
  try simp
  refine wp_call (graph_Check hv14 (small_b s1) 0 (Nat.zero_le _)) fun v15 h15 ⟨o15, e15⟩ => ?_
  simp only [lim1, if_true] at o15 e15
  subst e15
  try simp
  refine wp_call (graph_Check (In.old o15 hmore14) (small_b s2) 0 (Nat.zero_le _)) fun v16 h16 ⟨o16, e16⟩ => ?_
  simp [lim2] at o16 e16
  subst e16
  try simp
  have o1416 := o15.trans (o16.mono o15.1)
  refine wp_call (graph_Nodes (In.old o1416 hmore14) (small_b s2) 0 (Nat.zero_le _)) fun v17 h17 ⟨o17, e17⟩ => ?_
  simp [lim3] at o17 e17
  subst e17
  try simp
  have o1417 := o1416.trans (o17.mono o1416.1)
  refine wp_call (graph_Check (In.old o1417 htw14) (small_b s3) 0 (Nat.zero_le _)) fun v18 h18 ⟨o18, e18⟩ => ?_
  simp [lim4] at o18 e18
  subst e18
  try simp
  have o1418 := o1417.trans (o18.mono o1417.1)
  refine wp_call (graph_Nodes (In.old o1418 htw14) (small_b s3) 0 (Nat.zero_le _)) fun v19 h19 ⟨o19, e19⟩ => ?_
  simp [lim5] at o19 e19
  subst e19
  try simp
  have o1419 := o1418.trans (o19.mono o1418.1)
  refine wp_call (graph_Nodes (In.old o1419 hah14) (small_b s4) 0 (Nat.zero_le _)) fun v20 h20 ⟨o20, e20⟩ => ?_
  simp [lim6] at o20 e20
  subst e20
  try simp
  have o1420 := o1419.trans (o20.mono o1419.1)
  refine wp_call (graph_Check (In.old o1420 hwi) (small_b s5) 0 (Nat.zero_le _)) fun v21 h21 ⟨o21, e21⟩ => ?_
  simp [lim7] at o21 e21
  subst e21
  try simp
  have o1421 := o1420.trans (o21.mono o1420.1)
  refine wp_call (graph_Nodes (l := []) in_nil (fun x hx => by simp at hx) 0 (Nat.zero_le _)) fun v22 h22 ⟨o22, e22⟩ => ?_
  simp [lim8] at o22 e22
  subst e22
  try simp
  refine wp_iteK (fun _ => ?_) fun hf => absurd (lim8.symm.trans hf) (by simp)
  have q1 := o2.trans (o25.mono o2.1)
  have q2 := q1.trans (o67.mono q1.1)
  have q3 := q2.trans (o710.mono q2.1)
  have q4 := q3.trans (o1014.mono q3.1)
  have q5 := q4.trans (o1421.mono q4.1)
  have q6 := q5.trans (o22.mono q5.1)
  have b22 := b1.old q6 lt1
  refine wq_ptr b22 rfl ?_
  try simp
  refine wq_len hl ?_
  have bl := holds_le hl
  simp
  refine wp_call (law8_wakes 0 (Nat.zero_le _)) fun v23 h23 ⟨_, e23⟩ => ?_
  simp only at e23
  subst e23
  try simp
  exact wp_some rfl
end Go.AM
