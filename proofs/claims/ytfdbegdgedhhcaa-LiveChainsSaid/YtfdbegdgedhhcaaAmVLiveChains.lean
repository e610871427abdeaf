/- The law LiveChains: of a row of nodes each made of the one ahead, lives, peak and cones are as they should be. No condition. -/
import Derived.Test.YtfdbegdgedhhcaaAmS26
set_option linter.all false
namespace Go.AM
set_option maxRecDepth 20000
set_option maxHeartbeats 1000000
attribute [local simp] layAt
attribute [local irreducible] lenK sliceK idxK fldK cutK storeK appK copyK clearK mapAtK callK loopH readK readK1 guardK grdK fnK nilK fieldK extrK strK nextK joinK iteK intK boolK cellsK castK castL castEnv binK unK intBin layParts execN runOpsN runItemsN denN call loop blockK
/-- A row of nodes, each made of the one ahead. -/
def chN (i : Nat) : node.den := if i = 0 then (bs [], 3, [], [1], 0) else (bs [], 7, [(i : Int) - 1], [1], 0)
def chL (n : Nat) : List node.den := (List.range n).map chN
def chJ (n : Nat) : joint.den := (chL n, (n : Int) - 1, [])
def chB (n : Nat) : Bool := mayJ (chJ n) && decide (maxL (profileL (chJ n)) = 2) && (List.range n).all fun i =>
  decide ((livesL (chJ n))[i]? = some ((i : Int), (if i + 1 = n then (n : Int) else (i : Int) + 2), 1)) &&
  decide ((coneL (chL n) (n - 1) [(i : Int)]).length = n - 1 - i) && decide ((coneL (chL n) i []).length = i + 1)
theorem chAll : ((List.range 20).all fun d => chB (d + 2)) = true := by decide +kernel
theorem chL_len (n : Nat) : (chL n).length = n := by simp [chL]
theorem ch_small (n : Nat) : Small (chL n) := fun x hx => by
  simp only [chL, List.mem_map] at hx
  obtain ⟨i, _, rfl⟩ := hx
  unfold chN
  split <;> simp
theorem chL_succ (n : Nat) : chL (n + 1) = chL n ++ [chN n] := by simp [chL, List.range_succ]
theorem life_neq {R : Type} (a b c a' b' c' : Int) (K : AV → Option R) : binK .neq 6 (.agg [.int .i64 a, .int .i64 b, .int .i64 c]) (.agg [.int .i64 a', .int .i64 b', .int .i64 c']) K = K (.bool (!(decide (a = a') && (decide (b = b') && decide (c = c'))))) := by
  simp [binK, intsEq]
theorem Laws.LiveChains (y : ask13.den) (as : List AV) (H : Holds (fun _ => False) [] ask13 y as) : WP (call prog 0 22 [.agg as] []) fun r => r.1 = .bool true := by
  have H0 : In [] ask13 y as := H.mono fun _ h => h.elim
  obtain ⟨vj, vn, rfl, hj, hn⟩ := holds_ask13 H0
  have bn := holds_le hn
  have hd : y.2.length % 20 < 20 := Nat.mod_lt _ (by omega)
  have hch : chB (y.2.length % 20 + 2) = true := by
    have := List.all_eq_true.1 chAll (y.2.length % 20) (by simp; omega)
    exact this
  have t1 : (y.2.length : Int).tmod 20 = ((y.2.length % 20 : Nat) : Int) := by rw [Int.tmod_eq_emod_of_nonneg (by omega)]; rfl
  generalize y.2.length % 20 = d at *
  have t2 : IntKind.i64.wrap (2 + (d : Int)) = (d : Int) + 2 := by rw [w64_id (by omega) (by omega)]; omega
  have t3 : IntKind.i64.wrap ((d : Int) + 2 - 1) = (d : Int) + 1 := by rw [w64_id (by omega) (by omega)]; omega
  refine wp_enter (fn := C.law13_LiveChains) rfl ?_
  dsimp only [bodyN, C.law13_LiveChains, C.law13_LiveChains_l0, C.law13_LiveChains_l1]; simp
  generalize hh : [AObj.cells 0 1 [vj, vn]] = h1
  have b1 : Box h1 0 [vj, vn] := by subst hh; simp [Box]
  refine wq_ptr b1 rfl ?_
  try simp
  refine wq_len hn ?_
  simp [t1, t2, t3]
  have H1 := in_ints (h := h1) (l := [1]) (by simp) (by simp)
  have A2 := accp_new (s := 5) (n := 1) (l := chL 1) (p := node) ⟨_, [], (List.append_nil _).symm, in_node (x := (bs [], 3, [], [1], 0)) in_nil H1 (by simp) (by simp) (by decide), rfl⟩ (by simp [chL]) (by rfl) (by simp [chL])
  simp at A2
  generalize hh2 : h1 ++ [AObj.cells 0 1 [AV.int IntKind.i64 1], AObj.cells 0 5 [AV.str (bs []), AV.int IntKind.i64 3, AV.nil, AV.ref h1.length 0 0 1, AV.int IntKind.i64 0], AObj.cells 0 1 [AV.nil, AV.int IntKind.i64 0, AV.nil]] = h2
  have o12 : Old h1.length h1 h2 := hh2 ▸ Old.app
  have l2 : h2.length = h1.length + 3 := by rw [← hh2]; simp
  have b2 : Box h2 (h1.length + 2) [AV.nil, AV.int IntKind.i64 0, AV.nil] := by rw [← hh2]; simp [Box]
  have F2 : AccF (fun j => j ≠ h1.length + 2) (h1.length + 1) h2 node (.ref (h1.length + 1) 0 0 1) (chL 1) := by
    have := (AccF.ofP (F := fun j => j ≠ h1.length + 2) A2 (fun j _ hj => by simp at hj; omega)).keep (h' := h2) (by
      rw [← hh2]
      have := Old.app (h := h1 ++ [AObj.cells 0 1 [AV.int IntKind.i64 1], AObj.cells 0 5 [AV.str (bs []), AV.int IntKind.i64 3, AV.nil, AV.ref h1.length 0 0 1, AV.int IntKind.i64 0]]) (t := [AObj.cells 0 1 [AV.nil, AV.int IntKind.i64 0, AV.nil]])
      simpa using this)
    exact this
  refine wq_put b2 (by omega) (vs := [AV.ref (h1.length + 1) 0 0 1, AV.int IntKind.i64 ((d : Int) + 1), AV.nil]) (fun _ => by rw [cellsK_agg]) (by rfl) (by simp) fun h3 l3 k3 b3 => ?_
  simp at b3
  have F3 := F2.but (h' := h3) (l0 := h1.length + 2) (by omega) (fun j _ hj => k3 j hj) (by simp) (by intro e; have := Option.some.inj e; omega)
  try simp
  refine wp_loop (I := fun m e h' => h1.length + 3 ≤ h'.length ∧ ∃ (i : Nat) (va : AV), e = (ea 3 (.int .i64 ((d : Int) + 2)) <| ea 4 (.ptr (h1.length + 2) 0 0) <| ea 5 (.int .i64 (i : Nat)) e0) ∧ i + m = d + 2 ∧ 1 ≤ i ∧ Box h' (h1.length + 2) [va, .int .i64 ((d : Int) + 1), .nil] ∧ va.blk ≠ some (h1.length + 2) ∧ AccF (fun j => j ≠ h1.length + 2) (h1.length + 1) h' node va (chL i)) ?_ (m := d + 1) ⟨by omega, 1, _, rfl, by omega, Nat.le_refl _, b3, by intro e; have := Option.some.inj e; omega, F3⟩
  rintro N m e h4 ⟨l4, i, va, rfl, him, hi1, b4, hva, F4⟩ next
  dsimp only [C.law13_LiveChains_b0]; simp
  refine wp_dec (fun hi => ?_) fun hi => ?_
  · have w1 : IntKind.i64.wrap ((i : Int) - 1) = (i : Int) - 1 := w64_id (by omega) (by omega)
    have w2 := succ64 (i := i) (n := 100) (by omega) (by omega)
    try simp
    refine wq_ptr b4 rfl ?_
    simp [w1]
    generalize hh5 : h4 ++ [AObj.cells 0 1 [AV.int IntKind.i64 ((i : Int) - 1)], AObj.cells 0 1 [AV.int IntKind.i64 1], AObj.cells 0 5 [AV.str (bs []), AV.int IntKind.i64 7, AV.ref (List.length h4) 0 0 1, AV.ref (List.length h4 + 1) 0 0 1, AV.int IntKind.i64 0]] = h5
    have o45 : Old h4.length h4 h5 := hh5 ▸ Old.app
    have l5 : h5.length = h4.length + 3 := by rw [← hh5]; simp
    have bx0 : h5[h4.length]? = some (.cells 0 1 ([(i : Int) - 1].map (.int .i64))) := by rw [← hh5]; simp
    have bx1 : h5[h4.length + 1]? = some (.cells 0 1 ([1].map (.int .i64))) := by rw [← hh5]; simp
    have b5 := b4.old o45 b4.lt
    have F5 := F4.keep o45
    have apart : ∀ j, h4.length ≤ j → va.blk ≠ some j := fun j hj e => by
      have := (F4.lt e).2
      omega
    have en : chN i = (bs [], 7, [(i : Int) - 1], [1], 0) := by rw [chN, if_neg (by omega)]
    have hx5 : Holds (fun j => j ≠ h1.length + 2 ∧ j < h5.length ∧ va.blk ≠ some j) h5 node (chN i) [AV.str (bs []), AV.int IntKind.i64 7, AV.ref (List.length h4) 0 0 1, AV.ref (List.length h4 + 1) 0 0 1, AV.int IntKind.i64 0] := by
      rw [en]
      exact holds_node (x := (bs [], 7, [(i : Int) - 1], [1], 0)) (holds_ref (l := [(i : Int) - 1]) bx0 ⟨by omega, by omega, apart _ (by omega)⟩ rfl (by simp) (by simp; omega)) (holds_ref (l := [1]) bx1 ⟨by omega, by omega, apart _ (by omega)⟩ rfl (by simp) (by simp)) (by simp) (by simp) (by simp [bs, ByteArray.size])
    refine wp_pushF (p := node) (bytes := 80) F5 hx5 rfl (Nat.zero_le _) (by omega) (by rw [chL_len]; omega) (by rw [chL_len]; omega) fun v6 h6 but6 o56 hv6 F6 => ?_
    have b6 : Box h6 (h1.length + 2) _ := (but6.2 _ b5.lt hva).trans b5
    have hv6' : v6.blk ≠ some (h1.length + 2) := fun e => by
      rcases hv6 _ e with h | h
      · exact hva h
      · omega
    have l56 := but6.1
    try simp
    refine wq_put b6 (Nat.zero_le _) (vs := [v6]) (fun K => cells_one F6.one K) rfl (by simp) fun h7 l7 k7 b7 => ?_
    simp at b7
    simp [w2]
    exact next (m - 1) _ _ (by omega) ⟨by omega, i + 1, v6, by simp, by omega, by omega, b7, hv6', by rw [chL_succ]; exact F6.but (by omega) (fun j _ hj => k7 j hj) (by simp) hv6'⟩
  have ei : i = d + 2 := by omega
  subst ei
  simp only [chB, Bool.and_eq_true, decide_eq_true_eq, List.all_eq_true, List.mem_range] at hch
  obtain ⟨⟨hm, hpk⟩, hall⟩ := hch
  have hJ : In h4 joint (chJ (d + 2)) [va, .int .i64 ((d : Int) + 1), .nil] := by
    refine ⟨[va], _, rfl, F4.in, [.int .i64 ((d : Int) + 1)], [.nil], rfl, ?_, in_nil⟩
    have : (chJ (d + 2)).2.1 = (d : Int) + 1 := by
      show ((d + 2 : Nat) : Int) - 1 = (d : Int) + 1
      omega
    rw [this]
    exact holds_int (by omega)
  have hsm : Small (chJ (d + 2)).1 := ch_small _
  have lt4 := b4.lt
  refine wq_ptrs b4 (by simp) ?_
  try simp
  refine wp_call (live_Lives hJ hsm 0 (Nat.zero_le _)) fun v5 h5 ⟨o5, vL, e5, a5⟩ => ?_
  simp only [hm, if_true] at o5 e5 a5
  subst e5
  have b5 := b4.old o5 lt4
  try simp
  refine wq_ptrs b5 (by simp) ?_
  try simp
  refine wp_call (live_Peak (In.old o5 hJ) hsm 0 (Nat.zero_le _)) fun v6 h6 ⟨o6, e6⟩ => ?_
  simp only [hm, hpk, if_true] at o6 e6
  subst e6
  have o46 := o5.trans (o6.mono o5.1)
  have hL6 := In.old o6 (a5.in (Nat.le_refl _))
  have ll : (livesL (chJ (d + 2))).length = d + 2 := by rw [livesL_len]; exact chL_len _
  try simp
  refine wq_len hL6 ?_
  rw [ll]
  try simp
  refine wp_loop (I := fun m e h' => Old h4.length h4 h' ∧ In h' lives (livesL (chJ (d + 2))) [vL] ∧ ∃ (i : Nat), e = (ea 3 (.int .i64 ((d : Int) + 2)) <| ea 4 (.ptr (h1.length + 2) 0 0) <| ea 6 vL <| ea 10 (.int .i64 (i : Nat)) e0) ∧ i + m = d + 2) ?_ ⟨o46, hL6, 0, rfl, Nat.zero_add _⟩
  rintro N2 m2 e h7 ⟨o47, hL7, i, rfl, him2⟩ next2
  have b7 := b4.old o47 lt4
  have hJ7 := In.old o47 hJ
  dsimp only [C.law13_LiveChains_b1]; simp
  refine wp_dec (fun hi => ?_) fun hi => ?_
  · have w1 : IntKind.i64.wrap ((i : Int) + 2) = (i : Int) + 2 := w64_id (by omega) (by omega)
    have w2 := succ64 (i := i) (n := 100) (by omega) (by omega)
    obtain ⟨⟨q1, q2⟩, q3⟩ := hall i (by omega)
    have hil : i < (livesL (chJ (d + 2))).length := by rw [ll]; omega
    rw [List.getElem?_eq_getElem hil] at q1
    have q1 := Option.some.inj q1
    by_cases hc : (i : Int) = (d : Int) + 1
    · have ei : i = d + 1 := by omega
      subst ei
      simp [t3]
      refine wq_ptrs b7 (by simp) ?_
      simp [t3]
      have K1 := in_ints (h := h7) (l := [((d : Int) + 1)]) (by simp) (by simp; omega)
      simp at K1
      generalize hh8 : h7 ++ [AObj.cells 0 1 [AV.int IntKind.i64 ((d : Int) + 1)]] = h8 at *
      have o78 : Old h7.length h7 h8 := hh8 ▸ Old.app
      have b8 := b7.old o78 b7.lt
      have t4 : there (chJ (d + 2)).1.length ((d : Int) + 1) = true := by
        show there (chL (d + 2)).length ((d : Int) + 1) = true
        rw [chL_len]
        simp [there]
        omega
      have t5 : there (chJ (d + 2)).1.length ((d : Int) + 1) = true := by
        show there (chL (d + 2)).length ((d : Int) + 1) = true
        rw [chL_len]
        simp [there]
        omega
      refine wp_call (live_Cone (In.old o78 hJ7) hsm K1 ((d : Int) + 1) 0 (Nat.zero_le _)) fun v9 h9 ⟨o9, vX, e9, a9⟩ => ?_
      simp only at o9 e9 a9
      have z1 : coneE (chJ (d + 2)) ((d : Int) + 1) [((d : Int) + 1)] = 0 := by simp [coneE, hm, t4, keepOk, t5]
      have z2 : coneR (chJ (d + 2)) ((d : Int) + 1) [((d : Int) + 1)] = coneL (chL (d + 2)) (d + 1) [((d : Int) + 1)] := by
        rw [coneR, if_pos ⟨hm, t4, by simp [keepOk, t5]⟩]
        rfl
      rw [z1] at e9
      rw [z2] at a9
      subst e9
      have b9 := b8.old o9 b8.lt
      have o79 := o78.trans (o9.mono o78.1)
      try simp
      refine wq_ptrs b9 (by simp) ?_
      try simp
      refine wp_call (live_Cone (In.old o79 hJ7) hsm (in_nil (p := .int .i64)) ((d : Int) + 1) 0 (Nat.zero_le _)) fun v10 h10 ⟨o10, vY, e10, a10⟩ => ?_
      simp only at o10 e10 a10
      have z3 : coneE (chJ (d + 2)) ((d : Int) + 1) [] = 0 := by simp [coneE, hm, t5, keepOk]
      have z4 : coneR (chJ (d + 2)) ((d : Int) + 1) [] = coneL (chL (d + 2)) (d + 1) [] := by
        rw [coneR, if_pos ⟨hm, t5, rfl⟩]
        rfl
      rw [z3] at e10
      rw [z4] at a10
      subst e10
      have o710 := o79.trans (o10.mono o79.1)
      have hL10 := In.old o710 hL7
      have hX10 := In.old o10 (a9.in (Nat.le_refl _))
      have hY10 := a10.in (Nat.le_refl _)
      have w3 : IntKind.i64.wrap ((d : Int) + 1 - ((d : Int) + 1)) = (d : Int) + 1 - ((d : Int) + 1) := w64_id (by omega) (by omega)
      try simp
      refine wq_idx hL10 (by rfl) (by omega) (by rw [ll]; omega) ?_
      try simp
      refine wq_life hL10 hil ?_
      rw [q1]
      try simp
      have w4 : IntKind.i64.wrap ((d : Int) + 2 - 1) = (d : Int) + 1 := t3
      have e2 : (((coneL (chL (d + 2)) (d + 1) [((d : Int) + 1)]).length : Nat) : Int) = 0 := by
        have : (coneL (chL (d + 2)) (d + 1) [((d : Int) + 1)]).length = d + 2 - 1 - (d + 1) := q2
        rw [this]
        omega
      have e3 : (((coneL (chL (d + 2)) (d + 1) []).length : Nat) : Int) = (d : Int) + 1 + 1 := by rw [q3]; omega
      have w5 : IntKind.i64.wrap ((d : Int) + 1 + 1) = (d : Int) + 1 + 1 := w64_id (by omega) (by omega)
      have w6 : IntKind.i64.wrap ((d : Int) + 1 - ((d : Int) + 1)) = 0 := by rw [w64_id (by omega) (by omega)]; omega
      have w7 : IntKind.i64.wrap 0 = 0 := w64_id (by omega) (by omega)
      simp [life_neq]
      refine wq_len hX10 ?_
      simp [e2, w4, w6, w7]
      refine wq_len hY10 ?_
      simp [e3, w5]
      exact next2 (m2 - 1) _ _ (by omega) ⟨o47.trans (o710.mono o47.1), hL10, d + 1 + 1, by simp, by omega⟩
    · simp [t3, hc, w1]
      refine wq_ptrs b7 (by simp) ?_
      simp [t3]
      have K1 := in_ints (h := h7) (l := [(i : Int)]) (by simp) (by simp; omega)
      simp at K1
      generalize hh8 : h7 ++ [AObj.cells 0 1 [AV.int IntKind.i64 (i : Int)]] = h8 at *
      have o78 : Old h7.length h7 h8 := hh8 ▸ Old.app
      have b8 := b7.old o78 b7.lt
      have t4 : there (chJ (d + 2)).1.length ((d : Int) + 1) = true := by
        show there (chL (d + 2)).length ((d : Int) + 1) = true
        rw [chL_len]
        simp [there]
        omega
      have t5 : there (chJ (d + 2)).1.length (i : Int) = true := by
        show there (chL (d + 2)).length (i : Int) = true
        rw [chL_len]
        simp [there]
        omega
      refine wp_call (live_Cone (In.old o78 hJ7) hsm K1 ((d : Int) + 1) 0 (Nat.zero_le _)) fun v9 h9 ⟨o9, vX, e9, a9⟩ => ?_
      simp only at o9 e9 a9
      have z1 : coneE (chJ (d + 2)) ((d : Int) + 1) [(i : Int)] = 0 := by simp [coneE, hm, t4, keepOk, t5]
      have z2 : coneR (chJ (d + 2)) ((d : Int) + 1) [(i : Int)] = coneL (chL (d + 2)) (d + 1) [(i : Int)] := by
        rw [coneR, if_pos ⟨hm, t4, by simp [keepOk, t5]⟩]
        rfl
      rw [z1] at e9
      rw [z2] at a9
      subst e9
      have b9 := b8.old o9 b8.lt
      have o79 := o78.trans (o9.mono o78.1)
      try simp
      refine wq_ptrs b9 (by simp) ?_
      try simp
      refine wp_call (live_Cone (In.old o79 hJ7) hsm (in_nil (p := .int .i64)) (i : Int) 0 (Nat.zero_le _)) fun v10 h10 ⟨o10, vY, e10, a10⟩ => ?_
      simp only at o10 e10 a10
      have z3 : coneE (chJ (d + 2)) (i : Int) [] = 0 := by simp [coneE, hm, t5, keepOk]
      have z4 : coneR (chJ (d + 2)) (i : Int) [] = coneL (chL (d + 2)) i [] := by
        rw [coneR, if_pos ⟨hm, t5, rfl⟩]
        rfl
      rw [z3] at e10
      rw [z4] at a10
      subst e10
      have o710 := o79.trans (o10.mono o79.1)
      have hL10 := In.old o710 hL7
      have hX10 := In.old o10 (a9.in (Nat.le_refl _))
      have hY10 := a10.in (Nat.le_refl _)
      have w3 : IntKind.i64.wrap ((d : Int) + 1 - (i : Int)) = (d : Int) + 1 - (i : Int) := w64_id (by omega) (by omega)
      try simp
      refine wq_idx hL10 (by rfl) (by omega) (by rw [ll]; omega) ?_
      try simp
      refine wq_life hL10 hil ?_
      rw [q1]
      try simp
      have hc2 : ¬ i = d + 1 := by omega
      have w4 : IntKind.i64.wrap ((d : Int) + 2 - 1) = (d : Int) + 1 := t3
      have e2 : (((coneL (chL (d + 2)) (d + 1) [(i : Int)]).length : Nat) : Int) = (d : Int) + 1 - (i : Int) := by
        have : (coneL (chL (d + 2)) (d + 1) [(i : Int)]).length = d + 2 - 1 - i := q2
        rw [this]
        omega
      have e3 : (((coneL (chL (d + 2)) i []).length : Nat) : Int) = (i : Int) + 1 := by rw [q3]; omega
      have w5 : IntKind.i64.wrap ((i : Int) + 1) = (i : Int) + 1 := w64_id (by omega) (by omega)
      simp [life_neq, hc2]
      refine wq_len hX10 ?_
      simp [w4, w3, e2]
      refine wq_len hY10 ?_
      simp [w5, e3]
      exact next2 (m2 - 1) _ _ (by omega) ⟨o47.trans (o710.mono o47.1), hL10, i + 1, by simp, by omega⟩
  · try simp
    refine wp_call (law13_wakes 0 (Nat.zero_le _)) fun v5 h5 ⟨_, e5⟩ => ?_
    simp only at e5
    subst e5
    try simp
    exact wp_some rfl
end Go.AM
