import Derived.Test.YtfdbegdgedhhcaaGreatAmS68
set_option linter.all false
/- A graph made for a kind: scale. -/
namespace Go.AM
set_option maxRecDepth 20000
set_option maxHeartbeats 2000000
attribute [local simp] layAt
attribute [local irreducible] lenK sliceK idxK fldK cutK storeK appK copyK clearK mapAtK callK loopH readK readK1 guardK grdK fnK nilK fieldK extrK strK nextK joinK iteK intK boolK cellsK castK castL castEnv binK unK intBin layParts execN runOpsN runItemsN denN call loop blockK
theorem made8 {r c : Nat} (hr : 1 ≤ r ∧ r ≤ 3) (hc : 1 ≤ c ∧ c ≤ 3) : formOk 8 (-3) [] [[(r : Int), (c : Int)]] = true ∧ inferD 8 (-3) [] [[(r : Int), (c : Int)]] = some [(r : Int), (c : Int)] := by
  have h1 : r = 1 ∨ r = 2 ∨ r = 3 := by omega
  have h2 : c = 1 ∨ c = 2 ∨ c = 3 := by omega
  rcases h1 with rfl | rfl | rfl <;> rcases h2 with rfl | rfl | rfl <;> decide +kernel
def madeL8 (r c : Nat) : List node.den := madeEnd (made3 r c) (bs [107], 8, [2], [(r : Int), (c : Int)], -3)
def madeC8 (r c : Nat) : Prop := True
theorem ends_made {r c : Nat} {s : ByteArray} {a d : List Int} {n : Int} : ends (madeEnd (made3 r c) (s, 8, a, d, n)) = [0, 1] := by simp [ends, ofKind, madeEnd, made3]
section
variable {R : Type} {Q : R → Prop} {h : Heap}
theorem madeAs8 {y : ask10.den} {as : List AV} (H : In h ask10 y as) (b : Nat) (hb : b ≤ h.length) :
    WP (call prog b 231 [.agg as, .int .i64 8] h) (MadeAs h madeL8 madeC8) := by
  obtain ⟨_, vl, vn, vd, vx, vv, rfl, rfl, h8, hl, hx, hv⟩ := holds_ask10 H
  have bl := holds_le hl
  have bx := holds_le hx
  have bv := holds_le hv
  obtain ⟨r, er⟩ : ∃ r : Nat, r = 1 + y.1.1.length % 3 := ⟨_, rfl⟩
  obtain ⟨c, ec⟩ : ∃ c : Nat, c = 1 + (y.2.1.length + y.2.2.length) % 3 := ⟨_, rfl⟩
  have w1 : IntKind.i64.wrap (1 + (y.1.1.length : Int).tmod 3) = (r : Int) := by
    rw [Int.tmod_eq_emod_of_nonneg (by omega), w64_id (by omega) (by omega)]
    omega
  have w2 : IntKind.i64.wrap ((y.2.1.length : Int) + (y.2.2.length : Int)) = (y.2.1.length : Int) + (y.2.2.length : Int) := w64_id (by omega) (by omega)
  have w3 : IntKind.i64.wrap (1 + ((y.2.1.length : Int) + (y.2.2.length : Int)).tmod 3) = (c : Int) := by
    rw [Int.tmod_eq_emod_of_nonneg (by omega), w64_id (by omega) (by omega)]
    omega
  have hr : 1 ≤ r ∧ r ≤ 3 := by omega
  have hc : 1 ≤ c ∧ c ≤ 3 := by omega
  clear er ec
  refine wp_enter (fn := C.law10_Made) rfl ?_
  dsimp only [bodyN, C.law10_Made, C.law10_Made_l0, C.law10_Made_l2]; simp
  generalize hh : h ++ [AObj.cells 0 1 [vl, vn, vd, vx, vv]] = h1
  have o1 : Old h.length h h1 := hh ▸ Old.app
  have b1 : Box h1 h.length [vl, vn, vd, vx, vv] := by rw [← hh]; simp [Box]
  have l1 : h1.length = h.length + 1 := by rw [← hh]; simp
  have hl1 := In.old o1 hl
  have hx1 := In.old o1 hx
  have hv1 := In.old o1 hv
  refine wq_ptr b1 rfl ?_
  try simp
  refine wq_len hl1 ?_
  try simp
  refine wq_ptr b1 rfl ?_
  try simp
  refine wq_len hx1 ?_
  try simp
  refine wq_ptr b1 rfl ?_
  try simp
  refine wq_len hv1 ?_
  simp [w1, w2, w3]
  -- d, [0, 1], the three nodes
  have D0 := in_ints (h := h1) (l := [(r : Int), (c : Int)]) (by simp) (by simp; omega)
  have D1 := In.old (Old.app (t := [AObj.cells 0 1 [.int .i64 0, .int .i64 1]])) D0
  have A1 := in_ints (h := h1 ++ [AObj.cells 0 1 [.int .i64 r, .int .i64 c]]) (l := [0, 1]) (by simp) (by simp)
  simp at D1 A1
  have acc0 := accp_new (h := h1 ++ [AObj.cells 0 1 [.int .i64 r, .int .i64 c], AObj.cells 0 1 [.int .i64 0, .int .i64 1]]) (p := node) (s := 5) (n := 3) (l := made3 r c) ⟨_, _, rfl, in_node (x := (bs [120], 1, [], [(r : Int), (c : Int)], 0)) in_nil D1 (by simp) (by simp) (by show (bs [120]).size ≤ 140737488355328; decide), _, _, rfl, in_node (x := (bs [119], 2, [], [(r : Int), (c : Int)], 0)) in_nil D1 (by simp) (by simp) (by show (bs [119]).size ≤ 140737488355328; decide), _, [], (List.append_nil _).symm, in_node (x := (bs [118], 6, [0, 1], [(r : Int), (c : Int)], 0)) A1 D1 (by simp) (by simp) (by show (bs [118]).size ≤ 140737488355328; decide), rfl⟩ (by simp [made3]) (by rfl) (by simp [made3])
  have acc1 := (AccF.ofP (F := fun j => j < h1.length + 3) acc0 (fun j _ hj => by simpa using hj)).keep (Old.app (t := [AObj.cells 0 1 [.int .i64 2], AObj.cells 0 1 [.str (bs []), .int .i64 0, .nil, .nil, .int .i64 0]]))
  have acc2 := acc1.mono (G := fun j => j ≠ h1.length + 4) (fun j hj _ => by omega)
  simp at acc2
  clear acc0 acc1 D0 D1 A1
  generalize hh2 : h1 ++ [AObj.cells 0 1 [AV.int IntKind.i64 ↑r, AV.int IntKind.i64 ↑c], AObj.cells 0 1 [AV.int IntKind.i64 0, AV.int IntKind.i64 1], AObj.cells 0 5 [AV.str (bs [120]), AV.int IntKind.i64 1, AV.nil, AV.ref (List.length h1) 0 0 2, AV.int IntKind.i64 0, AV.str (bs [119]), AV.int IntKind.i64 2, AV.nil, AV.ref (List.length h1) 0 0 2, AV.int IntKind.i64 0, AV.str (bs [118]), AV.int IntKind.i64 6, AV.ref (List.length h1 + 1) 0 0 2, AV.ref (List.length h1) 0 0 2, AV.int IntKind.i64 0], AObj.cells 0 1 [AV.int IntKind.i64 2], AObj.cells 0 1 [AV.str (bs []), AV.int IntKind.i64 0, AV.nil, AV.nil, AV.int IntKind.i64 0]] = h2 at *
  have o2 : Old h1.length h1 h2 := hh2 ▸ Old.app
  have l2 : h2.length = h1.length + 5 := by rw [← hh2]; simp
  have k2 : Box h2 (h1.length + 4) [AV.str (bs []), AV.int IntKind.i64 0, AV.nil, AV.nil, AV.int IntKind.i64 0] := by rw [← hh2]; simp [Box]
  have d2 : Box h2 h1.length ([(r : Int), (c : Int)].map (AV.int .i64)) := by rw [← hh2]; simp [Box]
  have a2 : Box h2 (h1.length + 3) ([(2 : Int)].map (AV.int .i64)) := by rw [← hh2]; simp [Box]
  clear hh2
  refine wq_put k2 (by omega) (off := 0) (fun _ => by rw [cellsK_agg]) (by rfl) (by simp) fun h3 l3 n3 k3 => ?_
  simp at k3
  have acc3 := acc2.but (Nat.le_of_eq l3.symm) (fun j _ hj => n3 j hj) (by simp) (by simp [AV.blk])
  have d3 : Box h3 h1.length _ := (n3 _ (by omega)).trans d2
  have a3 : Box h3 (h1.length + 3) _ := (n3 _ (by omega)).trans a2
  have o13 := o2.trans (old_put l3 n3 (by omega) (by omega))
  clear acc2 k2 d2 a2
  simp [manyR, asked]
  refine wq_put k3 (by omega) (off := 4) (vs := [.int .i64 (-3)]) (fun K => cells_one rfl K) rfl (by simp) fun h5 l5 n5 k5 => ?_
  simp at k5
  have acc5 := acc3.but (Nat.le_of_eq l5.symm) (fun j _ hj => n5 j hj) (by simp) (by simp [AV.blk])
  have d5 : Box h5 h1.length _ := (n5 _ (by omega)).trans d3
  have a5 : Box h5 (h1.length + 3) _ := (n5 _ (by omega)).trans a3
  have o15 := o13.trans (old_put l5 n5 (by omega) (by omega))
  try simp
  try simp [asked]
  -- its dims
  have ha5 : In h5 ints [2] [.ref (h1.length + 3) 0 0 1] := holds_ref a5 (by omega) rfl (by simp) (by simp)
  refine wq_ptr k5 rfl ?_
  try simp
  refine wq_ptr k5 rfl ?_
  try simp
  refine wp_call (ref7_DimsOf acc5.in ha5 (by show argsOk 3 [2] = true; decide) (by simp) _ (Nat.le_refl _)) fun v6 h6 ⟨o6, a6⟩ => ?_
  simp only at o6 a6
  rw [show [2].map (dimsAt (made3 r c)) = [[(r : Int), (c : Int)]] by simp [dimsAt, made3]] at a6
  have l6 := o6.1
  try simp
  refine wp_call (ref1_Infer (d := []) in_nil (a6.in (Nat.zero_le _)) (made8 hr hc).1 _ (Nat.le_refl _)) fun v7 h7 ⟨o7, v8, e7, a7⟩ => ?_
  rw [(made8 hr hc).2] at e7 a7
  simp at e7 a7 o7
  subst e7
  have l7 := o7.1
  have o57 := o6.trans (o7.mono l6)
  have k7 := k5.old o57 (by omega)
  have d7 := d5.old o57 (by omega)
  have a7' := a5.old o57 (by omega)
  have acc7 := acc5.keep o57
  try simp
  refine wq_put k7 (by omega) (off := 3) (vs := [v8]) (fun K => cells_one a7.one K) rfl (by simp) fun h8 l8 n8 k8 => ?_
  simp at k8
  have acc8 := acc7.but (Nat.le_of_eq l8.symm) (fun j _ hj => n8 j hj) (by simp) (by simp [AV.blk])
  have d8 : Box h8 h1.length _ := (n8 _ (by omega)).trans d7
  have a8 : Box h8 (h1.length + 3) _ := (n8 _ (by omega)).trans a7'
  have v88 := a7.but l8 n8 (by omega) (by omega)
  have o18 := o15.trans ((o57.mono (by omega)).trans (old_put l8 n8 (by omega) (by omega)))
  try simp
  refine wq_ptrs k8 (by simp) ?_
  simp [layAt]
  -- one node more
  have o89 : Old h8.length h8 (h8 ++ [AObj.cells 0 5 [AV.str (bs [107]), AV.int IntKind.i64 8, AV.ref (h1.length + 3) 0 0 1, v8, AV.int IntKind.i64 (-3)]]) := Old.app
  generalize h8 ++ [AObj.cells 0 5 [AV.str (bs [107]), AV.int IntKind.i64 8, AV.ref (h1.length + 3) 0 0 1, v8, AV.int IntKind.i64 (-3)]] = h9 at *
  have l9 := o89.1
  have acc9 := acc8.keep o89
  have v89 := v88.keep o89
  have a9 := a8.old o89 (by omega)
  have hn9 : Holds (fun j => j ≠ h1.length + 4 ∧ j < h9.length ∧ (AV.ref (h1.length + 2) 0 0 3).blk ≠ some j) h9 node (bs [107], 8, [2], [(r : Int), (c : Int)], -3) [.str (bs [107]), .int .i64 8, .ref (h1.length + 3) 0 0 1, v8, .int .i64 (-3)] :=
    holds_node (x := (bs [107], 8, [2], [(r : Int), (c : Int)], -3)) (holds_ref a9 ⟨by omega, by omega, by simp [AV.blk] <;> omega⟩ rfl (by simp) (by simp)) ((v89.holds (Nat.le_refl _)).mono fun j hj => ⟨by have := hj.1; omega, hj.2, by have := hj.1; simp [AV.blk]; omega⟩) (by simp) (by simp) (by show (bs [107]).size ≤ 140737488355328; decide)
  refine wp_pushF (p := node) (bytes := 80) acc9 hn9 rfl (by omega) (by omega) (by simp [made3]) (by simp [made3]) fun v10 h10 but10 o10 vb10 acc10 => ?_
  have l10 := but10.1
  have k9 := k8.old o89 (by omega)
  have k10 : Box h10 (h1.length + 4) _ := (but10.2 _ (by omega) (by simp [AV.blk])).trans k9
  have v810 := v89.flatI but10 (fun j hj => by simp [AV.blk] at hj; omega)
  have d9 := d8.old o89 (by omega)
  have d10 : Box h10 h1.length _ := (but10.2 _ (by omega) (by simp [AV.blk])).trans d9
  have o19 : Old h1.length h1 h10 := o18.trans ((o89.mono (by omega)).trans ⟨by omega, fun j hj => but10.2 j (by omega) (by simp [AV.blk] <;> omega)⟩)
  clear acc9 hn9 acc8 acc7 acc5
  try simp
  refine wq_ptr k10 rfl ?_
  try simp
  refine wp_call (ref0_CopyNumbers (v810.in (Nat.le_refl _)) (by simp) _ (by omega)) fun v11 h11 ⟨o11, a11⟩ => ?_
  simp only at o11 a11
  have l11 := o11.1
  have k11 := k10.old o11 (by omega)
  have d11 := d10.old o11 (by omega)
  have acc11 := acc10.keep o11
  have v811 := v810.keep o11
  have o1b := o19.trans (o11.mono (by omega))
  try simp
  refine wp_loop (I := fun m e h' => Old h10.length h11 h' ∧ h'.length = h11.length ∧ ∃ (i : Nat) (O : List Int), e = (ea 2 (.ptr h.length 0 0) <| ea 8 (.ref h1.length 0 0 2) <| ea 9 v10 <| ea 10 (.ptr (h1.length + 4) 0 0) <| ea 12 v11 <| ea 13 (.int .i64 (i : Nat)) e0) ∧ i + m = [(r : Int), (c : Int)].length ∧ AccP h10.length h10.length h' int v11 O ∧ O.length = [(r : Int), (c : Int)].length ∧ ∀ q, q < i → O[q]? = some 1) ?_ ⟨Old.refl (by omega), rfl, 0, _, rfl, Nat.zero_add _, a11, rfl, fun q hq => absurd hq (Nat.not_lt_zero _)⟩
  rintro N m e h12 ⟨o12, l12, i, O, rfl, him, a12, hO, hOq⟩ next
  dsimp only [C.law10_Made_b0]; simp
  refine wq_len (a12.in (Nat.le_refl _)) ?_
  try simp
  refine wp_dec (fun hi => ?_) fun hi => ?_
  · have wi := succ64 (i := i) (n := 2) (by simp at hO; omega) (by omega)
    try simp
    refine wq_idx (a12.in (Nat.le_refl _)) (by rfl) (by omega) (by omega) ?_
    try simp
    refine wp_putI a12 (x := 1) (by omega) (by omega) (by omega) hi fun h13 _ l13 o13' a13 => ?_
    simp [wi]
    refine next (m - 1) _ _ (by omega) ⟨o12.trans o13', by omega, i + 1, _, by simp, by omega, a13, by simpa using hO, fun q hq => ?_⟩
    rw [List.getElem?_set]
    by_cases cq : i = q
    · rw [if_pos cq, if_pos (by omega)]
    · rw [if_neg cq]
      exact hOq q (by omega)
  have eO : O = List.replicate 2 1 := by
    apply List.ext_getElem?
    intro q
    rcases Nat.lt_or_ge q 2 with hq | hq
    · rw [hOq q (by simp at hO; omega), List.getElem?_replicate, if_pos hq]
    · rw [List.getElem?_eq_none (by simp at hO; omega), List.getElem?_eq_none (by simp; omega)]
  rw [eO] at a12
  clear hO hOq eO next
  have k12 := k11.old o12 (by omega)
  have d12 := d11.old o12 (by omega)
  have o1c := o19.trans ((o11.mono (by omega)).trans (o12.mono (by omega)))
  have nb : ∀ j, v10.blk = some j → j < h10.length := fun j hj => (acc10.lt hj).2
  have acc12 := acc10.keep (o11.trans o12)
  have v812 := v810.keep (o11.trans o12)
  clear acc10 acc11 v810 v811 k10 k11 d10 d11
  try simp
  -- its square, summed up
  have o13b : Old h12.length h12 (h12 ++ [AObj.cells 0 1 [AV.int IntKind.i64 3, AV.int IntKind.i64 3]]) := Old.app
  have l13 : (h12 ++ [AObj.cells 0 1 [AV.int IntKind.i64 3, AV.int IntKind.i64 3]]).length = h12.length + 1 := by simp
  have q13 : Box (h12 ++ [AObj.cells 0 1 [AV.int IntKind.i64 3, AV.int IntKind.i64 3]]) h12.length ([(3 : Int), 3].map (AV.int .i64)) := by simp [Box]
  generalize h12 ++ [AObj.cells 0 1 [AV.int IntKind.i64 3, AV.int IntKind.i64 3]] = h13 at *
  have k13 := k12.old o13b (by omega)
  refine wq_ptr k13 rfl ?_
  try simp
  refine wp_call (ref0_CopyNumbers ((v812.keep o13b).in (Nat.le_refl _)) (by simp) _ (by omega)) fun v14 h14 ⟨o14, a14⟩ => ?_
  simp only at o14 a14
  have l14 := o14.1
  try simp
  refine wp_cells a14.one ?_
  try simp
  refine wp_cells a12.one ?_
  simp [layAt]
  have o15b : Old h14.length h14 (h14 ++ [AObj.cells 0 1 [AV.int IntKind.i64 4], AObj.cells 0 5 [AV.str (bs [113]), AV.int IntKind.i64 6, AV.ref h12.length 0 0 2, v14, AV.int IntKind.i64 0, AV.str (bs [115]), AV.int IntKind.i64 13, AV.ref h14.length 0 0 1, v11, AV.int IntKind.i64 0]]) := Old.app
  have q15 : Box (h14 ++ [AObj.cells 0 1 [AV.int IntKind.i64 4], AObj.cells 0 5 [AV.str (bs [113]), AV.int IntKind.i64 6, AV.ref h12.length 0 0 2, v14, AV.int IntKind.i64 0, AV.str (bs [115]), AV.int IntKind.i64 13, AV.ref h14.length 0 0 1, v11, AV.int IntKind.i64 0]]) h14.length ([(4 : Int)].map (AV.int .i64)) := by simp [Box]
  generalize h14 ++ [AObj.cells 0 1 [AV.int IntKind.i64 4], AObj.cells 0 5 [AV.str (bs [113]), AV.int IntKind.i64 6, AV.ref h12.length 0 0 2, v14, AV.int IntKind.i64 0, AV.str (bs [115]), AV.int IntKind.i64 13, AV.ref h14.length 0 0 1, v11, AV.int IntKind.i64 0]] = h15 at *
  have l15 := o15b.1
  have lq15 := q15.lt
  have o1215 := o13b.trans ((o14.trans (o15b.mono l14)).mono (by omega))
  have acc15 := acc12.toP.keep o1215
  have q13' := q13.old (o14.trans (o15b.mono l14)) (by omega)
  have a12' := a12.keep o1215
  have a14' := a14.keep o15b
  refine wp_pushAll (p := node) (l2 := [(bs [113], 6, [3, 3], [(r : Int), (c : Int)], 0), (bs [115], 13, [4], List.replicate 2 1, 0)]) acc15 (by rfl) (fun i x hi => ?_) rfl rfl (by omega) (by omega) (by simp [made3]) (by simp [made3]) fun v16 h16 but16 o16 acc16 => ?_
  · have hS : ∀ j, h10.length ≤ j → j < h15.length → 0 ≤ j ∧ j < h15.length ∧ v10.blk ≠ some j := fun j h1 h2 => ⟨Nat.zero_le _, h2, fun e => by have := nb j e; omega⟩
    match i, hi with
    | 0, hi =>
      cases hi
      exact holds_node (x := (bs [113], 6, [3, 3], [(r : Int), (c : Int)], 0)) (holds_ref q13' (hS _ (by omega) (by omega)) rfl (by simp) (by simp)) ((a14'.holds (Nat.le_refl _)).mono fun j hj => hS j (by have := hj.1; omega) hj.2) (by simp) (by simp) (by show (bs [113]).size ≤ 140737488355328; decide)
    | 1, hi =>
      cases hi
      exact holds_node (x := (bs [115], 13, [4], List.replicate 2 1, 0)) (holds_ref q15 (hS _ (by omega) (by omega)) rfl (by simp) (by simp)) ((a12'.holds (Nat.le_refl _)).mono fun j hj => hS j (by have := hj.1; omega) hj.2) (by simp) (by simp) (by show (bs [115]).size ≤ 140737488355328; decide)
    | i + 2, hi => cases hi
  have l16 := but16.1
  have HL : In h16 nodes (madeL8 r c) [v16] := acc16.in (Nat.zero_le _)
  have d15 := d12.old o1215 (by omega)
  have d16 : Box h16 h1.length _ := (but16.2 _ (by omega) (fun e => by
    rcases vb10 _ e with h | h
    · simp [AV.blk] at h
    · omega)).trans d15
  have o1d : Old h1.length h1 h16 := o1c.trans ((o1215.mono (by omega)).trans ⟨by omega, fun j hj => but16.2 j (by omega) (fun e => by
    rcases vb10 _ e with h | h
    · simp [AV.blk] at h
      omega
    · omega)⟩)
  clear acc12 acc15 a12 a12' a14 a14' q13 q13' q15 k12 k13 d12 d15
  try simp
  refine wp_call (ref7_Leaves HL (by simp [madeL8, madeEnd, made3]) _ (by omega)) fun v17 h17 ⟨o17, a17⟩ => ?_
  simp only at o17 a17
  rw [show ends (madeL8 r c) = [0, 1] from ends_made] at a17
  have l17 := o17.1
  have E17 := a17.in (Nat.zero_le _)
  have D17 : In h17 ints [(r : Int), (c : Int)] [.ref h1.length 0 0 2] := holds_ref (d16.old o17 (by omega)) (by omega) rfl (by simp) (by simp; omega)
  have HL17 := In.old o17 HL
  have b17 : Box h17 h.length _ := b1.old (o1d.trans (o17.mono (by omega))) b1.lt
  have x17 := In.old (o1d.trans (o17.mono (by omega))) hx1
  have o0z := o1.trans ((o1d.trans (o17.mono (by omega))).mono (by omega))
  have hok : dimsOk [(r : Int), (c : Int)] = true := dimsOk_two (by omega) (by omega)
  have hN := (dimsOk_prod hok).2
  have lb1 := b1.lt
  try simp
  refine wp_loop (I := fun m e h' => Old h17.length h17 h' ∧ ∃ (i : Nat) (v : AV) (X : List tensor.den), e = (ea 2 (.ptr h.length 0 0) <| ea 8 (.ref h1.length 0 0 2) <| ea 9 v16 <| ea 14 v17 <| ea 15 v <| ea 16 (.int .i64 (i : Nat)) e0) ∧ i + m = 2 ∧ AccP h17.length h17.length h' tensor v X ∧ X.length = i ∧ X.all tenOk = true ∧ X.map (·.1) = List.replicate i [(r : Int), (c : Int)]) ?_ (m := 2) ⟨Old.refl (Nat.le_refl _), 0, .nil, [], rfl, rfl, AccP.nil, rfl, rfl, rfl⟩
  rintro N m e h18 ⟨o18, i, v, X, rfl, him, accX, hXl, hXo, hXd⟩ next
  have l18 := o18.1
  have E18 := In.old o18 E17
  have D18 := In.old o18 D17
  dsimp only [C.law10_Made_b2, C.law10_Made_l1]; simp
  refine wq_len E18 ?_
  try simp
  refine wp_dec (fun hi => ?_) fun hi => ?_
  · have wi := succ64 (i := i) (n := 2) (by omega) (by omega)
    try simp
    refine wp_call (ref1_Fill D18 hok (n := 0) (by omega) b (by omega)) fun v19 h19 ⟨o19, T19⟩ => ?_
    simp only at o19 T19
    have l19 := o19.1
    try simp
    refine wp_initT T19 (by omega) fun vD vT k h20 e20 o20 lt20 B20 => ?_
    subst e20
    have l20 := o20.1
    have kl := B20.kl
    have kle := B20.le
    have accX20 := accX.keep (o19.trans (o20.mono l19))
    have vlow : ∀ j, v.blk = some j → j < h18.length := fun j hj => (accX.low hj).2
    have b20 := b17.old (o18.trans ((o19.trans (o20.mono l19)).mono (by omega))) (by omega)
    have x20 := In.old (o18.trans ((o19.trans (o20.mono l19)).mono (by omega))) x17
    simp only at B20
    try simp
    refine wp_loop (I := fun m e h' => Old k h20 h' ∧ h'.length = h20.length ∧ ∃ (j : Nat) (D : List Int), e = (ea 2 (.ptr h.length 0 0) <| ea 8 (.ref h1.length 0 0 2) <| ea 9 v16 <| ea 14 v17 <| ea 15 v <| ea 16 (.int .i64 (i : Nat)) <| ea 17 (.ptr h19.length 0 0) <| ea 18 (.int .i64 (j : Nat)) e0) ∧ j + m = (prodI [(r : Int), (c : Int)]).toNat ∧ D.length = (prodI [(r : Int), (c : Int)]).toNat ∧ TB h18.length k h19.length [(r : Int), (c : Int)] D vD vT h') ?_ ⟨Old.refl (by omega), rfl, 0, _, rfl, Nat.zero_add _, by simp, B20⟩
    rintro N2 m2 e2 h21 ⟨o21, l21, j, D, rfl, hjm, hD, B21⟩ next2
    have b21 := b20.old (o21.mono (m := h17.length) (by omega)) (by omega)
    have x21 := In.old (o18.trans ((o19.trans ((o20.mono l19).trans (o21.mono (by omega)))).mono (by omega))) x17
    dsimp only [C.law10_Made_b1]; simp
    refine wq_ptr B21.box rfl ?_
    try simp
    refine wq_len B21.in ?_
    try simp
    refine wp_dec (fun hj => ?_) fun hj => ?_
    · have wj := succ64 (i := j) (n := 64) (by omega) (by omega)
      have nx : ∀ h' D', Old k h20 h' → h'.length = h20.length → D'.length = (prodI [(r : Int), (c : Int)]).toNat → TB h18.length k h19.length [(r : Int), (c : Int)] D' vD vT h' → WP (N2 (ea 2 (.ptr h.length 0 0) <| ea 8 (.ref h1.length 0 0 2) <| ea 9 v16 <| ea 14 v17 <| ea 15 v <| ea 16 (.int .i64 (i : Nat)) <| ea 17 (.ptr h19.length 0 0) <| ea 18 (.int .i64 ((j + 1 : Nat) : Int)) e0) h') (MadeAs h madeL8 madeC8) := fun h' D' p1 p2 p3 p4 => next2 (m2 - 1) _ _ (by omega) ⟨p1, p2, j + 1, D', rfl, by omega, p3, p4⟩
      try simp
      refine wq_ptr B21.box rfl ?_
      try simp
      refine wq_ptr b21 rfl ?_
      try simp
      refine wq_len x21 ?_
      try simp
      refine wq_idx B21.in (by rfl) (by omega) (by omega) ?_
      try simp
      refine wp_putT B21 (wrap_range _) (by omega) (by omega) hj fun h22 o22 l22 _ B22 => ?_
      have o2122 := o21.trans o22
      have b22 := b20.old (o2122.mono (m := h17.length) (by omega)) (by omega)
      have x22 := In.old (o18.trans ((o19.trans ((o20.mono l19).trans (o2122.mono (by omega)))).mono (by omega))) x17
      try simp
      refine wq_ptr b22 rfl ?_
      try simp
      refine wq_len x22 ?_
      try simp
      refine wp_dec (fun c1 => ?_) fun c1 => by simp [wj]; exact nx h22 _ o2122 (by omega) (by simpa using hD) B22
      try simp
      refine wq_ptr b22 rfl ?_
      try simp
      refine wq_idx x22 (by rfl) (by omega) (by omega) ?_
      try simp
      refine wq_sub x22 c1 fun u1 hu1 => ?_
      try simp
      refine wq_len hu1 ?_
      try simp
      refine wp_dec (fun c2 => ?_) fun c2 => by simp [wj]; exact nx h22 _ o2122 (by omega) (by simpa using hD) B22
      try simp
      refine wq_ptr b22 rfl ?_
      try simp
      refine wq_idx x22 (by rfl) (by omega) (by omega) ?_
      try simp
      refine wq_sub x22 c1 fun u2 hu2 => ?_
      try simp
      refine wq_idx hu2 (by rfl) (by omega) (by have := hu2; omega) ?_
      try simp
      refine wq_tdata hu2 c2 fun w2 hw2 => ?_
      try simp
      refine wq_len hw2 ?_
      try simp
      refine wp_dec (fun c3 => ?_) fun c3 => by simp [wj]; exact nx h22 _ o2122 (by omega) (by simpa using hD) B22
      have bw := holds_le hw2
      try simp
      refine wq_ptr B22.box rfl ?_
      try simp
      refine wq_ptr B22.box rfl ?_
      try simp
      refine wq_idx B22.in (by rfl) (by omega) (by rw [List.length_set]; omega) ?_
      try simp
      refine wq_int B22.in (by rw [List.length_set]; omega) ?_
      try simp
      refine wq_ptr b22 rfl ?_
      try simp
      refine wq_idx x22 (by rfl) (by omega) (by omega) ?_
      try simp
      refine wq_sub x22 c1 fun u3 hu3 => ?_
      try simp
      refine wq_idx hu3 (by rfl) (by omega) (by have := hu3; omega) ?_
      try simp
      refine wq_tdata hu3 c2 fun w3 hw3 => ?_
      try simp
      refine wq_ptr b22 rfl ?_
      try simp
      refine wq_idx x22 (by rfl) (by omega) (by omega) ?_
      try simp
      refine wq_sub x22 c1 fun u4 hu4 => ?_
      try simp
      refine wq_idx hu4 (by rfl) (by omega) (by have := hu4; omega) ?_
      try simp
      refine wq_tdata hu4 c2 fun w4 hw4 => ?_
      try simp
      refine wq_len hw4 ?_
      have m1 : (j : Int).tmod (y.2.1[0][0].2.length : Int) = (j : Int) % (y.2.1[0][0].2.length : Int) := Int.tmod_eq_emod_of_nonneg (by omega)
      have m2 : ((j : Int) % (y.2.1[0][0].2.length : Int)).toNat = j % y.2.1[0][0].2.length := by rw [← Int.natCast_emod, Int.toNat_natCast]
      have m3 : 0 ≤ (j : Int) % (y.2.1[0][0].2.length : Int) := Int.emod_nonneg _ (by omega)
      have m4 : (j : Int) % (y.2.1[0][0].2.length : Int) < (y.2.1[0][0].2.length : Int) := Int.emod_lt_of_pos _ (by omega)
      try simp
      refine wp_guard (by intro e; rw [e] at c3; simp at c3) ?_
      simp [m1]
      refine wq_idx hw3 (by rfl) m3 m4 ?_
      simp [m2]
      refine wq_int hw3 (Nat.mod_lt _ c3) ?_
      try simp
      refine wq_idx B22.in (by rfl) (by omega) (by rw [List.length_set]; omega) ?_
      try simp
      refine wp_putT B22 (wrap_range _) (by omega) (by omega) (by rw [List.length_set]; omega) fun h23 o23 l23 _ B23 => ?_
      simp [wj]
      exact nx h23 _ (o2122.trans o23) (by omega) (by simpa using hD) B23
    · try simp
      refine wq_ptrs B21.box (by simp) ?_
      try simp
      have accX21 := accX.keep (o19.trans ((o20.mono l19).trans (o21.mono (by omega))))
      have T21 : TenAt h18.length h21 ([(r : Int), (c : Int)], D) (.agg [vD, vT]) := ⟨vD, vT, k, rfl, B21.dims, B21.low, B21.le, by omega, B21.data⟩
      refine wp_pushTen accX21 T21 (by omega) (fun j hj => vlow j hj) (by omega) (by omega) (by omega) fun v23 h23 o23 acc23 => ?_
      simp [wi]
      have kD : tenOk ([(r : Int), (c : Int)], D) = true := tenOk_of hok (by simp only; omega)
      refine next (m - 1) _ _ (by omega) ⟨(o18.trans ((o19.trans ((o20.mono l19).trans (o21.mono (by omega)))).mono (by omega))).trans o23, i + 1, v23, _, by simp, by omega, acc23, by simp [hXl], by rw [List.all_append, hXo]; simp [kD], by rw [List.map_append, hXd, List.replicate_succ']; rfl⟩
  · have ei : i = 2 := by omega
    subst ei
    try simp
    exact wp_some ⟨o0z.trans (o18.mono (by omega)), r, c, hr, hc, trivial, v16, v, X, rfl, In.old o18 HL17, accX.in (Nat.le_refl _), hXo, hXd⟩
end
theorem madeIs8 (r c : Nat) (hr : 1 ≤ r ∧ r ≤ 3) (hc : 1 ≤ c ∧ c ≤ 3) (hC : madeC8 r c) : isL (madeL8 r c) = true ∧ (ends (madeL8 r c)).map (dimsAt (madeL8 r c)) = [[(r : Int), (c : Int)], [(r : Int), (c : Int)]] ∧ Small (madeL8 r c) := by
  have h1 : r = 1 ∨ r = 2 ∨ r = 3 := by omega
  have h2 : c = 1 ∨ c = 2 ∨ c = 3 := by omega
  refine ⟨?_, ?_, fun x hx => ?_⟩
  · rcases h1 with rfl | rfl | rfl <;> rcases h2 with rfl | rfl | rfl <;> first | (exact absurd hC (by unfold madeC8; decide)) | decide +kernel
  · rcases h1 with rfl | rfl | rfl <;> rcases h2 with rfl | rfl | rfl <;> first | (exact absurd hC (by unfold madeC8; decide)) | decide +kernel
  · simp [madeL8, madeEnd, made3] at hx
    rcases hx with rfl | rfl | rfl | rfl | rfl | rfl <;> simp
theorem madeOk8 {h : Heap} {y : ask10.den} {as : List AV} (H : In h ask10 y as) (b : Nat) (hb : b ≤ h.length) : WP (call prog b 231 [.agg as, .int .i64 8] h) (MadeOk h) :=
  wp_mono (madeAs8 H b hb) fun _ hr => hr.ok madeIs8
end Go.AM
