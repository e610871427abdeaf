/- The law LiveCones: which nodes must be made to have any one again, with any kept, and what that costs, is the page's, or the error is. No condition. -/
import Derived.Test.YtfdbegdgedhhcaaAmS25
set_option linter.all false
namespace Go.AM
set_option maxRecDepth 20000
set_option maxHeartbeats 1000000
attribute [local simp] layAt
attribute [local irreducible] lenK sliceK idxK fldK cutK storeK appK copyK clearK mapAtK callK loopH readK readK1 guardK grdK fnK nilK fieldK extrK strK nextK joinK iteK intK boolK cellsK castK castL castEnv binK unK intBin layParts execN runOpsN runItemsN denN call loop blockK
theorem Laws.LiveCones (y : ask13.den) (as : List AV) (H : Holds (fun _ => False) [] ask13 y as) : WP (call prog 0 30 [.agg as] []) fun r => r.1 = .bool true := by
  have H0 : In [] ask13 y as := H.mono fun _ h => h.elim
  obtain ⟨vj, vn, rfl, hj, hn⟩ := holds_ask13 H0
  refine wp_enter (fn := C.law13_LiveCones) rfl ?_
  dsimp only [bodyN, C.law13_LiveCones, C.law13_LiveCones_l3]; simp
  generalize hh : [AObj.cells 0 1 [vj, vn]] = h1
  have b1 : Box h1 0 [vj, vn] := by subst hh; simp [Box]
  have o1 : Old ([] : Heap).length [] h1 := ⟨Nat.zero_le _, fun l hl => by simp at hl⟩
  refine wq_ptrs b1 (by simp) ?_
  try simp
  refine wp_call (law13_Heavy (In.old o1 H0) 0 (Nat.zero_le _)) fun v2 h2 ⟨o2, q, e2, light⟩ => ?_
  simp only at o2 e2
  subst e2
  try simp
  refine wp_iteK (fun hq => by (try simp); exact wp_some rfl) fun hq => ?_
  have light := light hq
  have b2 := b1.old o2 b1.lt
  have hj2 := In.old o2 (In.old o1 hj)
  have hn2 := In.old o2 (In.old o1 hn)
  have lt1 := b2.lt
  have bn : y.2.length ≤ 2500 := by
    rw [light13] at light
    omega
  have bl := holds_le hj
  try simp
  refine wp_loop (I := fun m e h' => Old h2.length h2 h' ∧ ∃ i, e = (ea 1 (.ptr 0 0 0) <| ea 3 (.int .i64 (i : Nat)) e0) ∧ i + m = y.1.length) ?_ ⟨Old.refl (Nat.le_refl _), 0, rfl, Nat.zero_add _⟩
  rintro N m e h3 ⟨o3, i, rfl, him⟩ next
  have b3 := b2.old o3 lt1
  have hj3 := In.old o3 hj2
  have hn3 := In.old o3 hn2
  have fin : ∀ h' (K : AV → Heap → Option (AV × Heap)), (∀ v h, K v h = some (v, h)) → WP (callK (call prog) 0 21 [] h' K) fun r => r.fst = AV.bool true := fun h' K hK => by
    refine wp_call (law13_wakes 0 (Nat.zero_le _)) fun v5 h5 ⟨_, e5⟩ => ?_
    rw [hK]
    exact wp_some e5
  dsimp only [C.law13_LiveCones_b3, C.law13_LiveCones_l2]; simp
  repeat ((first | refine wq_len (by assumption) ?_ | refine wq_idx (by assumption) (by rfl) (by omega) (by omega) ?_ | refine wq_int (by assumption) (by omega) ?_ | refine wq_kind (by assumption) (by omega) ?_ | refine wq_num (by assumption) (by omega) ?_ | refine wq_name (by assumption) (by omega) ?_ | refine wq_ptr (by assumption) rfl ?_ | refine wp_new1 rfl ?_ | refine wq_from (by assumption) (by omega) ?_ | refine wq_to (by assumption) (by omega) ?_ | refine wq_size (by assumption) (by omega) ?_ | refine wq_life (by assumption) (by omega) ?_ | refine wp_guard (by omega) ?_ | refine wq_cells (by assumption) ?_); (try simp))
  refine wp_dec (fun hi => ?_) fun hi => by (try simp); exact fin h3 _ fun _ _ => by simp
  try simp
  refine wp_dec (fun h5 => ?_) fun h5 => by (try simp); exact fin h3 _ fun _ _ => by simp
  try simp
  repeat ((first | refine wq_len (by assumption) ?_ | refine wq_idx (by assumption) (by rfl) (by omega) (by omega) ?_ | refine wq_int (by assumption) (by omega) ?_ | refine wq_kind (by assumption) (by omega) ?_ | refine wq_num (by assumption) (by omega) ?_ | refine wq_name (by assumption) (by omega) ?_ | refine wq_ptr (by assumption) rfl ?_ | refine wp_new1 rfl ?_ | refine wq_from (by assumption) (by omega) ?_ | refine wq_to (by assumption) (by omega) ?_ | refine wq_size (by assumption) (by omega) ?_ | refine wq_life (by assumption) (by omega) ?_ | refine wp_guard (by omega) ?_ | refine wq_cells (by assumption) ?_); (try simp))
  obtain ⟨hsm, hlen, hgl⟩ := light13_small light (List.getElem_mem hi)
  refine wq_joint hj3 hi fun vN vG hN hG hJ hL => ?_
  try simp
  refine wq_init (by omega) (by rfl) (by rfl) fun h4 o34 b4 lt4 => ?_
  try simp
  have hJ4 := In.old o34 hJ
  have hN4 := In.old o34 hN
  have hn4 := In.old o34 hn3
  have b34 := b3.old o34 b3.lt
  generalize y.1[i] = x at *
  refine wq_ptrs b4 (by simp) ?_
  try simp
  refine wp_call (ref12_May hJ4 hsm 0 (Nat.zero_le _)) fun v5 h5 ⟨o45, e5⟩ => ?_
  simp only at o45 e5
  subst e5
  have b45 := b4.old o45 lt4
  have b35 := b34.old o45 b34.lt
  have hJ5 := In.old o45 hJ4
  have hN5 := In.old o45 hN4
  have hn5 := In.old o45 hn4
  have o35 := o34.trans (o45.mono o34.1)
  try simp
  have w1 : IntKind.i64.wrap ((x.1.length : Int) - 1) = (x.1.length : Int) - 1 := w64_id (by omega) (by omega)
  refine wq_ptr b45 rfl ?_
  try simp
  refine wq_len hN5 ?_
  try simp
  refine wq_ptr b45 rfl ?_
  try simp
  refine wq_len hN5 ?_
  simp [w1]
  have an := (AccP.newInts (h := h5) (l := [(x.1.length : Int) - 1, 0, (x.1.length : Int), -1]) (by simp) (by intro z hz; simp at hz; omega)).floor (Nat.zero_le _)
  simp at an
  have o56 : Old h5.length h5 (h5 ++ [AObj.cells 0 1 [AV.int IntKind.i64 ((x.1.length : Int) - 1), AV.int IntKind.i64 0, AV.int IntKind.i64 (x.1.length : Int), AV.int IntKind.i64 (-1)]]) := Old.app
  generalize h5 ++ [AObj.cells 0 1 [AV.int IntKind.i64 ((x.1.length : Int) - 1), AV.int IntKind.i64 0, AV.int IntKind.i64 (x.1.length : Int), AV.int IntKind.i64 (-1)]] = h6 at *
  have b36 := b35.old o56 b35.lt
  refine wq_ptr b36 rfl ?_
  try simp
  obtain ⟨dn, sn, cn⟩ := (Holds.old o56 (Nat.le_refl _) hn5).elem
  have lenn := sn.len
  simp only [PT.sz] at lenn sn
  refine wp_slice sn ?_
  try simp
  refine wp_len sn ?_
  try simp
  refine wp_guard (by omega) ?_
  refine wp_pushS (p := int) (l2 := y.2) an sn cn (fun _ h => h) rfl (Nat.zero_le _) o56.1 (by simp only [List.length_cons, List.length_nil]; omega) (by simp only [List.length_cons, List.length_nil]; omega) fun v7 h7 _ o7 a7 => ?_
  have o57 := o56.trans o7
  have ins := a7.in (Nat.zero_le _)
  generalize hns : ([(x.1.length : Int) - 1, 0, (x.1.length : Int), -1] : List Int) ++ y.2 = ns at *
  have nsl : ns.length ≤ 3000 := by rw [← hns]; simp; omega
  have b47 := b45.old o57 b45.lt
  have b37 := b35.old o57 b35.lt
  have hJ7 := In.old o57 hJ5
  have hN7 := In.old o57 hN5
  have hn7 := In.old o57 hn5
  have o37 := o35.trans (o57.mono o35.1)
  have lt47 := b47.lt
  have lt37 := b37.lt
  try simp
  refine wp_loop (I := fun m2 e h' => Old h7.length h7 h' ∧ ∃ k, e = (ea 1 (.ptr 0 0 0) <| ea 3 (.int .i64 (i : Nat)) <| ea 4 (.ptr h3.length 0 0) <| ea 5 (.bool (mayJ x)) <| ea 6 v7 <| ea 7 (.int .i64 (k : Nat)) e0) ∧ k + m2 = ns.length) ?_ ⟨Old.refl (Nat.le_refl _), 0, rfl, Nat.zero_add _⟩
  rintro N2 m2 e h8 ⟨o8, k, rfl, hkm⟩ next2
  have ins8 := In.old o8 ins
  have o38 := o37.trans (o8.mono o37.1)
  have stop : WP (N (ea 1 (.ptr 0 0 0) <| ea 3 (.int .i64 ((i : Int) + 1)) e0) h8) fun r => r.fst = AV.bool true := next (m - 1) _ _ (by omega) ⟨o3.trans (o38.mono o3.1), i + 1, rfl, by omega⟩
  have wi := succ64 (i := i) (n := y.1.length) (by omega) bl
  dsimp only [C.law13_LiveCones_b2, C.law13_LiveCones_l1]; simp
  refine wq_len ins8 ?_
  try simp
  refine wp_dec (fun hk => ?_) fun hk => by simp [wi]; exact stop
  try simp
  refine wp_dec (fun hk8 => ?_) fun hk8 => by simp [wi]; exact stop
  have wk := succ64 (i := k) (n := 3000) (by omega) (by omega)
  try simp
  refine wp_loop (I := fun m3 e h' => Old h8.length h8 h' ∧ ∃ n, e = (ea 1 (.ptr 0 0 0) <| ea 3 (.int .i64 (i : Nat)) <| ea 4 (.ptr h3.length 0 0) <| ea 5 (.bool (mayJ x)) <| ea 6 v7 <| ea 7 (.int .i64 (k : Nat)) <| ea 8 (.int .i64 (n : Nat)) e0) ∧ n + m3 = 6) ?_ ⟨Old.refl (Nat.le_refl _), 0, rfl, Nat.zero_add _⟩
  rintro N3 m3 e h9 ⟨o9, n, rfl, hnm⟩ next3
  have o79 := o8.trans (o9.mono o8.1)
  have b39 := b37.old o79 lt37
  have b49 := b47.old o79 lt47
  have hn9 := In.old o79 hn7
  have hJ9 := In.old o79 hJ7
  have ins9 := In.old o79 ins
  have stop2 : ∀ h', Old h9.length h9 h' → WP (N2 (ea 1 (.ptr 0 0 0) <| ea 3 (.int .i64 (i : Nat)) <| ea 4 (.ptr h3.length 0 0) <| ea 5 (.bool (mayJ x)) <| ea 6 v7 <| ea 7 (.int .i64 ((k : Int) + 1)) e0) h') fun r => r.fst = AV.bool true := fun h' o => next2 (m2 - 1) _ _ (by omega) ⟨o79.trans (o.mono o79.1), k + 1, rfl, by omega⟩
  dsimp only [C.law13_LiveCones_b1, C.law13_LiveCones_l0]; simp
  refine wq_ptr b39 rfl ?_
  try simp
  refine wq_len hn9 ?_
  try simp
  refine wp_dec (fun hnl => ?_) fun hnl => by simp [wk]; exact stop2 h9 (Old.refl (Nat.le_refl _))
  try simp
  refine wp_dec (fun hn5 => ?_) fun hn5 => by simp [wk]; exact stop2 h9 (Old.refl (Nat.le_refl _))
  have wn := succ64 (i := n) (n := 6) (by omega) (by omega)
  have next3' : ∀ h', Old h9.length h9 h' → WP (N3 (ea 1 (.ptr 0 0 0) <| ea 3 (.int .i64 (i : Nat)) <| ea 4 (.ptr h3.length 0 0) <| ea 5 (.bool (mayJ x)) <| ea 6 v7 <| ea 7 (.int .i64 (k : Nat)) <| ea 8 (.int .i64 ((n : Int) + 1)) e0) h') fun r => r.fst = AV.bool true := fun h' o => next3 (m3 - 1) _ _ (by omega) ⟨o9.trans (o.mono o9.1), n + 1, rfl, by omega⟩
  try simp
  refine wq_ptr b39 rfl ?_
  try simp
  refine wq_len hn9 ?_
  try simp
  refine wp_guard (by omega) ?_
  refine wp_cut (p := int) hn9 rfl (a := 0) (b := n) (by omega) (by omega) (by rfl) (by rfl) fun vc hc => ?_
  have ec : (y.2.drop 0).take (n - 0) = y.2.take n := by simp
  rw [ec] at hc
  try simp
  refine wp_call (ref0_CopyNumbers hc (by simp; omega) 0 (Nat.zero_le _)) fun v10 h10 ⟨o10, a10⟩ => ?_
  simp only at o10 a10
  have hkp := a10.in (Nat.le_refl _)
  have kl : (y.2.take n).length ≤ 2500 := by simp; omega
  have b410 := b49.old o10 b49.lt
  have b310 := b39.old o10 b39.lt
  have hJ10 := In.old o10 hJ9
  have ins10 := In.old o10 ins9
  have lt410 := b410.lt
  try simp
  refine wq_ptrs b410 (by simp) ?_
  try simp
  refine wq_idx ins10 (by rfl) (by omega) (by omega) ?_
  try simp
  refine wq_int ins10 hk ?_
  try simp
  refine wp_call (live_Cone hJ10 hsm hkp ns[k] _ (Nat.le_refl _)) fun v11 h11 ⟨o11, vx, e11, a11⟩ => ?_
  simp only at o11 e11 a11
  subst e11
  have b411 := b410.old o11 lt410
  have hJ11 := In.old o11 hJ10
  have ins11 := In.old o11 ins10
  have hkp11 := In.old o11 hkp
  try simp
  refine wq_ptrs b411 (by simp) ?_
  try simp
  refine wq_idx ins11 (by rfl) (by omega) (by omega) ?_
  try simp
  refine wq_int ins11 hk ?_
  try simp
  refine wp_call (live_Cost hJ11 hsm hkp11 ns[k] _ (Nat.le_refl _)) fun v12 h12 ⟨o12, e12⟩ => ?_
  simp only at o12 e12
  subst e12
  have o1012 := o11.trans (o12.mono o11.1)
  have o912 := o10.trans (o1012.mono o10.1)
  have b412 := b411.old o12 b411.lt
  have b312 := b310.old o1012 b310.lt
  have hJ12 := In.old o12 hJ11
  have ins12 := In.old o12 ins11
  have hkp12 := In.old o12 hkp11
  have hx12 := In.old o12 (a11.in (Nat.le_refl _))
  have hn12 := In.old o912 hn9
  try simp
  have ec2 : (y.2.drop 0).take (n - 0) = y.2.take n := by simp
  by_cases hm : mayJ x = true
  · have hN12 := In.old o912 (In.old o79 hN7)
    have wl : IntKind.i64.wrap ((x.1.length : Int) - 1) = (x.1.length : Int) - 1 := w1
    simp [hm]
    refine wq_idx ins12 (by rfl) (by omega) (by omega) ?_
    try simp
    refine wq_int ins12 hk ?_
    try simp
    refine wq_ptr b412 rfl ?_
    try simp
    refine wq_len hN12 ?_
    simp [wl, there_num]
    by_cases ht : there x.1.length ns[k] = true
    · simp [ht]
      refine wq_ptr b412 rfl ?_
      try simp
      refine wq_len hN12 ?_
      try simp
      have ar : ∀ b, call prog b 27 [v10, .int .i64 (x.1.length : Int)] h12 = some (.bool (keepOk x.1.length (y.2.take n)), h12) := fun b => ref7_Args hkp12 (x.1.length : Int) (by omega) b
      rw [callK_eq (ar _)]
      by_cases ha : keepOk x.1.length (y.2.take n) = true
      · have e1 : coneE x ns[k] (y.2.take n) = 0 := by simp [coneE, hm, ht, ha]
        have e2 : coneR x ns[k] (y.2.take n) = coneL x.1 ns[k].toNat (y.2.take n) := by simp [coneR, hm, ht, ha]
        simp [ha]
        refine wq_ptrs b412 (by simp) ?_
        try simp
        refine wq_idx ins12 (by rfl) (by omega) (by omega) ?_
        try simp
        refine wq_int ins12 hk ?_
        try simp
        refine wp_call (ref12_Cone hJ12 hkp12 hm ht _ (Nat.le_refl _)) fun v13 h13 ⟨o13, a13⟩ => ?_
        simp only at o13 a13
        rw [← e2] at a13
        have o913 := o912.trans (o13.mono o912.1)
        have b413 := b412.old o13 b412.lt
        have b313 := b312.old o13 b312.lt
        have hJ13 := In.old o13 hJ12
        have hw13 := a13.in (Nat.le_refl _)
        have bw := holds_le hw13
        have hkp13 := In.old o13 hkp12
        have hx13 := In.old o13 hx12
        have hn13 := In.old o13 hn12
        try simp
        have hle : ∀ a ∈ coneR x ns[k] (y.2.take n), there x.1.length a = true := coneR_there
        refine wp_loop (I := fun m4 e h' => Old h13.length h13 h' ∧ ∃ (q : Nat) (cost : Int), e = (ea 1 (.ptr 0 0 0) <| ea 3 (.int .i64 (i : Nat)) <| ea 4 (.ptr h3.length 0 0) <| ea 5 (.bool (mayJ x)) <| ea 6 v7 <| ea 7 (.int .i64 (k : Nat)) <| ea 8 (.int .i64 (n : Nat)) <| ea 9 v10 <| ea 10 vx <| ea 11 (.int .i64 (coneE x ns[k] (y.2.take n))) <| ea 12 (.int .i64 (sumL x.1 (coneR x ns[k] (y.2.take n)))) <| ea 13 (.int .i64 (coneE x ns[k] (y.2.take n))) <| ea 14 (.int .i64 0) <| ea 15 (.int .i64 cost) <| ea 16 v13 <| ea 17 (.int .i64 (q : Nat)) e0) ∧ q + m4 = (coneR x ns[k] (y.2.take n)).length ∧ cost = sumL x.1 ((coneR x ns[k] (y.2.take n)).take q)) ?_ ⟨Old.refl (Nat.le_refl _), 0, 0, rfl, Nat.zero_add _, rfl⟩
        rintro N4 m4 e h14 ⟨o14, q, cost, rfl, hqm, hcost⟩ next4
        have o914 := o913.trans (o14.mono o913.1)
        have b414 := b413.old o14 b413.lt
        have b314 := b313.old o14 b313.lt
        have hJ14 := In.old o14 hJ13
        have hw14 := In.old o14 hw13
        have hkp14 := In.old o14 hkp13
        have hx14 := In.old o14 hx13
        have hn14 := In.old o14 hn13
        dsimp only [C.law13_LiveCones_b0]; simp
        refine wq_len hw14 ?_
        try simp
        refine wp_dec (fun hq => ?_) fun hq => ?_
        · have wq := succ64 hq bw
          try simp
          refine wq_ptrs b414 (by simp) ?_
          try simp
          refine wq_idx hw14 (by rfl) (by omega) (by omega) ?_
          try simp
          refine wq_int hw14 hq ?_
          try simp
          refine wp_call (ref12_Size hJ14 (hle _ (List.getElem_mem hq)) _) fun v15 h15 ⟨o15, e15⟩ => ?_
          simp only at o15 e15
          subst e15
          simp [wq]
          exact next4 (m4 - 1) _ _ (by omega) ⟨o14.trans (o15.mono o14.1), q + 1, _, rfl, by omega, by rw [sumL, foldl_take_succ _ _ hq, hcost]; rfl⟩
        · have eq : q = (coneR x ns[k] (y.2.take n)).length := by omega
          rw [eq, List.take_length] at hcost
          simp [e1]
          rw [callK_eq (ref0_EqNumbers hx14 hw14 0)]
          simp [e1, hcost]
          refine wq_ptr b314 rfl ?_
          try simp
          refine wq_len hn14 ?_
          try simp
          refine wp_guard (by omega) ?_
          refine wp_cut (p := int) hn14 rfl (a := 0) (b := n) (by omega) (by omega) (by rfl) (by rfl) fun vc2 hc2 => ?_
          rw [ec2] at hc2
          try simp
          rw [callK_eq (ref0_EqNumbers hkp14 hc2 0)]
          simp [wn]
          exact next3' h14 o914
      · have ha' : keepOk x.1.length (y.2.take n) = false := by simpa using ha
        have e1 : coneE x ns[k] (y.2.take n) = 3 := by simp [coneE, hm, ht, ha']
        have e2 : coneR x ns[k] (y.2.take n) = [] := by simp [coneR, hm, ht, ha']
        rw [e2] at hx12
        have e3 : sumL x.1 [] = 0 := rfl
        simp [ha', e1, e2, e3]
        rw [callK_eq (ref0_EqNumbers hx12 (in_nil (h := h12) (S := fun _ => False)) 0)]
        simp [e1, e2, e3]
        refine wq_ptr b312 rfl ?_
        try simp
        refine wq_len hn12 ?_
        try simp
        refine wp_guard (by omega) ?_
        refine wp_cut (p := int) hn12 rfl (a := 0) (b := n) (by omega) (by omega) (by rfl) (by rfl) fun vc2 hc2 => ?_
        rw [ec2] at hc2
        try simp
        rw [callK_eq (ref0_EqNumbers hkp12 hc2 0)]
        simp [wn]
        exact next3' h12 o912
    · have ht' : there x.1.length ns[k] = false := by simpa using ht
      have e1 : coneE x ns[k] (y.2.take n) = 3 := by simp [coneE, hm, ht']
      have e2 : coneR x ns[k] (y.2.take n) = [] := by simp [coneR, hm, ht']
      rw [e2] at hx12
      have e3 : sumL x.1 [] = 0 := rfl
      simp [ht', e1, e2, e3]
      rw [callK_eq (ref0_EqNumbers hx12 (in_nil (h := h12) (S := fun _ => False)) 0)]
      simp [e1, e2, e3]
      refine wq_ptr b312 rfl ?_
      try simp
      refine wq_len hn12 ?_
      try simp
      refine wp_guard (by omega) ?_
      refine wp_cut (p := int) hn12 rfl (a := 0) (b := n) (by omega) (by omega) (by rfl) (by rfl) fun vc2 hc2 => ?_
      rw [ec2] at hc2
      try simp
      rw [callK_eq (ref0_EqNumbers hkp12 hc2 0)]
      simp [wn]
      exact next3' h12 o912
  · have hm' : mayJ x = false := by simpa using hm
    have e1 : coneE x ns[k] (y.2.take n) = 1 := by simp [coneE, hm']
    have e2 : coneR x ns[k] (y.2.take n) = [] := by simp [coneR, hm']
    rw [e2] at hx12
    have e3 : sumL x.1 [] = 0 := rfl
    simp [hm', e1, e2, e3]
    rw [callK_eq (ref0_EqNumbers hx12 (in_nil (h := h12) (S := fun _ => False)) 0)]
    simp [e1, e2, e3]
    refine wq_ptr b312 rfl ?_
    try simp
    refine wq_len hn12 ?_
    try simp
    refine wp_guard (by omega) ?_
    refine wp_cut (p := int) hn12 rfl (a := 0) (b := n) (by omega) (by omega) (by rfl) (by rfl) fun vc2 hc2 => ?_
    rw [ec2] at hc2
    try simp
    rw [callK_eq (ref0_EqNumbers hkp12 hc2 0)]
    simp [wn]
    exact next3' h12 o912
end Go.AM
