/- All lives. -/
import Derived.Test.YtfdbegdgedhhcaaAmS22
set_option linter.all false
namespace Go.AM
set_option maxRecDepth 20000
set_option maxHeartbeats 1000000
attribute [local simp] layAt
attribute [local irreducible] lenK sliceK idxK fldK cutK storeK appK copyK clearK mapAtK callK loopH readK readK1 guardK grdK fnK nilK fieldK extrK strK nextK joinK iteK intK boolK cellsK castK castL castEnv binK unK intBin layParts execN runOpsN runItemsN denN call loop blockK
section
variable {h : Heap}
theorem holds_life3 {S : Nat → Prop} {a b c : Int} (ha : -9223372036854775808 ≤ a ∧ a ≤ 9223372036854775807) (hb : -9223372036854775808 ≤ b ∧ b ≤ 9223372036854775807) (hc : -9223372036854775808 ≤ c ∧ c ≤ 9223372036854775807) : Holds S h life (a, b, c) [.int .i64 a, .int .i64 b, .int .i64 c] :=
  ⟨[.int .i64 a], _, rfl, ⟨rfl, ha⟩, [.int .i64 b], _, rfl, ⟨rfl, hb⟩, rfl, hc⟩
/-- A life's end is written. -/
theorem wp_putTo {R : Type} {Q : R → Prop} {base f n0 : Nat} {v : AV} {l : List life.den} {t : Int} (H : AccP f n0 h life v l) (ht : -9223372036854775808 ≤ t ∧ t ≤ 9223372036854775807) (hb : base ≤ n0) (hn : n0 ≤ h.length) {i : Nat} (hi : i < l.length) {K : Heap → Option R}
    (k : ∀ h', But v h h' → h'.length = h.length → Old n0 h h' → AccP f n0 h' life v (l.set i (l[i].1, t, l[i].2.2)) → WP (K h') Q) : WP (storeK base 1 h (addrOf v 3 i 1) (.int .i64 t) K) Q :=
  wp_putf (p := life) (o := 1) (m := 1) (x := (l[i].1, t, l[i].2.2)) (vs := [.int .i64 t]) H (fun _ => by rw [cellsK_int]) rfl rfl (by decide) hb hn hi (fun ys _ hy => by
    obtain ⟨c1, c2, rfl, ⟨rfl, h1⟩, c3, c4, rfl, ⟨rfl, h2⟩, ⟨rfl, h3⟩⟩ := hy
    exact holds_life3 h1 ht h3) k
theorem AccP.flatL {h' : Heap} {f n0 k : Nat} {v : AV} {l : List life.den} (H : AccP f n0 h life v l) (o : Old k h h') (hv : ∀ j, v.blk = some j → j < k) : AccP f n0 h' life v l :=
  H.flat (fun _ _ x cs hh => by
    obtain ⟨c1, c2, rfl, ⟨rfl, h1⟩, c3, c4, rfl, ⟨rfl, h2⟩, ⟨rfl, h3⟩⟩ := hh
    exact ⟨_, _, rfl, ⟨rfl, h1⟩, _, _, rfl, ⟨rfl, h2⟩, ⟨rfl, h3⟩⟩) fun j hj => o.2 j (hv j hj)
theorem live_All {x : joint.den} {cs : List AV} (hx : In h joint x cs) (hm : mayJ x = true) (b : Nat) (hb : b ≤ h.length) : WP (call prog b 72 [.agg cs] h) fun r => Old h.length h r.2 ∧ AccP h.length h.length r.2 life r.1 (livesL x) := by
  obtain ⟨vn, vg, rfl, hn, hg, hl⟩ := holds_joint hx
  obtain ⟨hmay, hlen, hloss, _, _, hglen, hgt⟩ := mayJ_parts hm
  refine wp_enter (fn := C.live_All) rfl ?_
  dsimp only [bodyN, C.live_All, C.live_All_l1, C.live_All_l2]; simp
  generalize hh : h ++ [AObj.cells 0 1 [vn, AV.int IntKind.i64 x.snd.fst, vg]] = h2
  have o12 : Old h.length h h2 := hh ▸ Old.app
  have b2 : Box h2 h.length [vn, AV.int IntKind.i64 x.snd.fst, vg] := by rw [← hh]; simp [Box]
  have lt2 := b2.lt
  have hn2 := In.old o12 hn
  have hx2 := In.old o12 hx
  have l12 := o12.1
  repeat ((first | refine wq_len (by assumption) ?_ | refine wq_idx (by assumption) (by rfl) (by omega) (by omega) ?_ | refine wq_int (by assumption) (by omega) ?_ | refine wq_kind (by assumption) (by omega) ?_ | refine wq_num (by assumption) (by omega) ?_ | refine wq_name (by assumption) (by omega) ?_ | refine wq_ptr (by assumption) rfl ?_ | refine wp_new1 rfl ?_ | refine wq_from (by assumption) (by omega) ?_ | refine wq_to (by assumption) (by omega) ?_ | refine wq_size (by assumption) (by omega) ?_ | refine wq_life (by assumption) (by omega) ?_ | refine wp_guard (by omega) ?_ | refine wq_cells (by assumption) ?_); (try simp))
  have mk := accp_make (h := h2) (p := life) (n := x.1.length) (x := (0, 0, 0)) (zs := [.int .i64 0, .int .i64 0, .int .i64 0]) (fun _ _ => holds_life3 (by omega) (by omega) (by omega)) (by omega)
  simp [PT.sz] at mk
  have o23 : Old h2.length h2 (h2 ++ [AObj.cells 0 3 (List.replicate (List.length x.fst) [AV.int IntKind.i64 0, AV.int IntKind.i64 0, AV.int IntKind.i64 0]).flatten]) := Old.app
  have l3 : (h2 ++ [AObj.cells 0 3 (List.replicate (List.length x.fst) [AV.int IntKind.i64 0, AV.int IntKind.i64 0, AV.int IntKind.i64 0]).flatten]).length = h2.length + 1 := by simp
  generalize h2 ++ [AObj.cells 0 3 (List.replicate (List.length x.fst) [AV.int IntKind.i64 0, AV.int IntKind.i64 0, AV.int IntKind.i64 0]).flatten] = h3 at *
  have b3 := b2.old o23 lt2
  refine wq_ptr b3 rfl ?_
  try simp
  repeat ((first | refine wq_len (by assumption) ?_ | refine wq_idx (by assumption) (by rfl) (by omega) (by omega) ?_ | refine wq_int (by assumption) (by omega) ?_ | refine wq_kind (by assumption) (by omega) ?_ | refine wq_num (by assumption) (by omega) ?_ | refine wq_name (by assumption) (by omega) ?_ | refine wq_ptr (by assumption) rfl ?_ | refine wp_new1 rfl ?_ | refine wq_from (by assumption) (by omega) ?_ | refine wq_to (by assumption) (by omega) ?_ | refine wq_size (by assumption) (by omega) ?_ | refine wq_life (by assumption) (by omega) ?_ | refine wp_guard (by omega) ?_ | refine wq_cells (by assumption) ?_); (try simp))
  refine wp_loop (I := fun m e h' => Old h2.length h2 h' ∧ h2.length + 1 ≤ h'.length ∧ ∃ (i : Nat) (L : List life.den), e = (ea 1 (.ptr h.length 0 0) <| ea 3 (.ref h2.length 0 0 x.1.length) <| ea 15 vn <| ea 16 (.int .i64 x.1.length) <| ea 17 (.int .i64 (i : Nat)) e0) ∧ i + m = x.1.length ∧ AccP h2.length h2.length h' life (.ref h2.length 0 0 x.1.length) L ∧ L.length = x.1.length ∧ ∀ k, k < x.1.length → L[k]? = some (if k < i then ((k : Int), toUp x.1 k i, sizeAt x.1 k) else (0, 0, 0))) ?_ ⟨o23, by omega, 0, _, rfl, Nat.zero_add _, mk, by simp, fun k hk => by rw [List.getElem?_replicate, if_pos hk, if_neg (by omega)]⟩
  rintro N m e h4 ⟨o24, l4, i, L, rfl, him, acc, hL, hLk⟩ next
  have hn4 := Holds.old o24 (Nat.le_refl _) hn2
  have hx4 := In.old o24 hx2
  have b4 := b2.old o24 lt2
  have hn4' := In.old o24 hn2
  dsimp only [C.live_All_b1, C.live_All_l0]; simp
  refine wp_dec (fun hi => ?_) fun hi => ?_
  · have w1 := succ64 (i := i) (n := 240) (by omega) (by omega)
    try simp
    refine wq_idx hn4 (by rfl) (by omega) (by omega) ?_
    try simp
    refine wq_node hn4 (by omega) fun va vd ha hd hnn => ?_
    try simp
    refine wq_init (by omega) (by rfl) (by rfl) fun h5 o45 b5 lt5 => ?_
    have acc5 := acc.flatL o45 (fun j hj => by cases hj; omega)
    have b45 := b4.old o45 b4.lt
    simp [w1]
    refine wq_ptrs b45 (by simp) ?_
    try simp
    have hti : there x.1.length (i : Int) = true := by simp [there]; omega
    refine wp_call (live_size (In.old o45 hx4) hti _) fun v6 h6 ⟨o56, e6⟩ => ?_
    simp only at o56 e6
    subst e6
    have o25 := o24.trans (o45.mono (by omega))
    have l5 := o45.1
    have l6 := o56.1
    have o26 := o25.trans (o56.mono (by omega))
    have acc6 := acc5.flatL o56 (fun j hj => by cases hj; omega)
    have b56 := b5.old o56 lt5
    have ha6 := Holds.old (o45.trans (o56.mono l5)) (by omega) ha
    simp [w1]
    refine wq_idx (acc6.in (Nat.le_refl _)) (by rfl) (by omega) (by omega) ?_
    try simp
    refine wp_put (p := life) (x := ((i : Int), (i : Int) + 1, sizeAt x.1 i)) (ys := [.int .i64 (i : Int), .int .i64 ((i : Int) + 1), .int .i64 (sizeAt x.1 i)]) acc6 (holds_life3 (by omega) (by omega) (prodW_range _)) (fun _ => by rw [cellsK_agg]; rfl) rfl (by omega) o26.1 (by omega) fun h7 but7 l7 o67 acc7 => ?_
    have o27 := o26.trans o67
    have b7 : Box h7 h4.length _ := (but7.2 _ b56.lt (fun e => by have := Option.some.inj e; omega)).trans b56
    have ha7 := Holds.old o67 (Nat.le_refl _) ha6
    have b1 := b2.old o27 lt2
    simp [w1]
    refine wq_ptr b7 rfl ?_
    try simp
    refine wq_len ha7 ?_
    try simp
    have aok := (nodeOk_parts (mayL_at hmay hi)).1
    have args := argsAt_at (l := x.1) hi
    have bua := holds_le ha
    refine wp_loop (I := fun m2 e h' => Old h2.length h2 h' ∧ h2.length + 1 ≤ h'.length ∧ ∃ (c : Nat) (L' : List life.den), e = (ea 1 (.ptr h.length 0 0) <| ea 3 (.ref h2.length 0 0 x.1.length) <| ea 4 (.int .i64 (i : Nat)) <| ea 15 vn <| ea 16 (.int .i64 x.1.length) <| ea 17 (.int .i64 (i : Nat)) <| ea 33 va <| ea 34 (.int .i64 x.1[i].2.2.1.length) <| ea 35 (.int .i64 (c : Nat)) e0) ∧ c + m2 = x.1[i].2.2.1.length ∧ Holds (fun j => j < h2.length) h' ints x.1[i].2.2.1 [va] ∧ AccP h2.length h2.length h' life (.ref h2.length 0 0 x.1.length) L' ∧ L'.length = x.1.length ∧ ∀ k, k < x.1.length → L'[k]? = some (if k < i then ((k : Int), (if (k : Int) ∈ x.1[i].2.2.1.take c then (i : Int) + 1 else toUp x.1 k i), sizeAt x.1 k) else if k = i then ((i : Int), (i : Int) + 1, sizeAt x.1 i) else (0, 0, 0))) ?_ ⟨o27, by omega, 0, _, rfl, Nat.zero_add _, ha7, acc7, by simp [hL], fun k hk => ?_⟩
    · rintro N2 m2 e h8 ⟨o28, l8, c, L', rfl, hcm, ha8, acc8, hL', hLk'⟩ next2
      dsimp only [C.live_All_b0]; simp
      refine wp_dec (fun hc => ?_) fun hc => ?_
      · have w2 := succ64 hc bua
        obtain ⟨a0, a1⟩ := argsOk_at aok (List.getElem_mem hc)
        rw [List.length_take] at a1
        try simp
        refine wq_idx ha8 (by rfl) (by omega) (by omega) ?_
        try simp
        refine wq_int ha8 hc ?_
        simp [w1]
        refine wq_idx (acc8.in (Nat.le_refl _)) (by rfl) (by omega) (by omega) ?_
        try simp
        have hin : x.1[i].2.2.1[c].toNat < L'.length := by omega
        refine wp_putTo acc8 (by omega) (by omega) o28.1 hin fun h9 _ l9 o89 acc9 => ?_
        simp [w2]
        refine next2 (m2 - 1) _ _ (by omega) ⟨o28.trans o89, by omega, c + 1, _, rfl, by omega, Holds.old o89 (Nat.le_refl _) ha8, acc9, by simp [hL'], fun k hk => ?_⟩
        have hLc := hLk' (x.1[i].2.2.1[c].toNat) (by omega)
        rw [List.getElem?_eq_getElem hin] at hLc
        have hLc := Option.some.inj hLc
        rw [if_pos (by omega)] at hLc
        rw [List.getElem?_set]
        by_cases c1 : x.1[i].2.2.1[c].toNat = k
        · have e1 : x.1[i].2.2.1[c] = (k : Int) := by rw [← c1]; exact (Int.toNat_of_nonneg a0).symm
          have hki : k < i := by omega
          have e3 : (k : Int) ∈ x.1[i].2.2.1.take (c + 1) := by rw [take_succ_app hc, e1]; simp
          rw [if_pos c1, if_pos (by rw [c1]; omega), hLc]
          simp only [c1, if_pos hki, if_pos e3]
        · have e1 : ¬ (k : Int) = x.1[i].2.2.1[c] := fun e => c1 (by rw [← e]; exact Int.toNat_natCast k)
          have e2 : (k : Int) ∈ x.1[i].2.2.1.take (c + 1) ↔ (k : Int) ∈ x.1[i].2.2.1.take c := by
            rw [take_succ_app hc, List.mem_append]
            simp [e1]
          rw [if_neg c1, hLk' k hk]
          simp only [e2]
      · try simp
        have ec : c = x.1[i].2.2.1.length := by omega
        subst ec
        simp [w1]
        refine next (m - 1) _ _ (by omega) ⟨o28, l8, i + 1, L', rfl, by omega, acc8, hL', fun k hk => ?_⟩
        rw [hLk' k hk, List.take_length]
        by_cases c1 : k < i
        · simp only [if_pos c1, if_pos (show k < i + 1 by omega), toUp, args]
        · by_cases c2 : k = i
          · subst c2
            rw [if_neg c1, if_pos rfl, if_pos (by omega), toUp_self hmay (by omega)]
          · rw [if_neg c1, if_neg c2, if_neg (by omega)]
    · rw [List.getElem?_set]
      by_cases c2 : i = k
      · subst c2
        rw [if_pos rfl, if_pos (by omega), if_neg (by omega), if_pos rfl]
      · rw [if_neg c2, hLk k hk]
        by_cases c1 : k < i
        · rw [if_pos c1, if_pos c1]
          simp
        · rw [if_neg c1, if_neg c1, if_neg (fun e => c2 e.symm)]
  · have ei : i = x.1.length := by omega
    subst ei
    try simp
    refine wq_ptrs b4 (by simp) ?_
    try simp
    refine wp_call (live_Told hx4 (by omega) b (by omega)) fun v5 h5 ⟨o45, a5⟩ => ?_
    simp only at o45 a5
    have o25 := o24.trans (o45.mono (by omega))
    have acc5 := acc.flatL o45 (fun j hj => by cases hj; omega)
    have ht := a5.in (Nat.le_refl _)
    have htl := toldL_len [x.2.1] x.2.2
    have htd : (toldOf x).length ≤ 241 := by rw [toldOf]; simp at htl; omega
    try simp
    repeat ((first | refine wq_len (by assumption) ?_ | refine wq_idx (by assumption) (by rfl) (by omega) (by omega) ?_ | refine wq_int (by assumption) (by omega) ?_ | refine wq_kind (by assumption) (by omega) ?_ | refine wq_num (by assumption) (by omega) ?_ | refine wq_name (by assumption) (by omega) ?_ | refine wq_ptr (by assumption) rfl ?_ | refine wp_new1 rfl ?_ | refine wq_from (by assumption) (by omega) ?_ | refine wq_to (by assumption) (by omega) ?_ | refine wq_size (by assumption) (by omega) ?_ | refine wq_life (by assumption) (by omega) ?_ | refine wp_guard (by omega) ?_ | refine wq_cells (by assumption) ?_); (try simp))
    refine wp_loop (I := fun m e h' => Old h2.length h2 h' ∧ AccP (h2.length + 1) (h2.length + 1) h' int v5 (toldOf x) ∧ ∃ (c : Nat) (L' : List life.den), e = (ea 3 (.ref h2.length 0 0 x.1.length) <| ea 48 v5 <| ea 49 (.int .i64 (toldOf x).length) <| ea 50 (.int .i64 (c : Nat)) e0) ∧ c + m = (toldOf x).length ∧ AccP h2.length h2.length h' life (.ref h2.length 0 0 x.1.length) L' ∧ L'.length = x.1.length ∧ ∀ k, k < x.1.length → L'[k]? = some ((k : Int), (if (k : Int) ∈ (toldOf x).take c then (x.1.length : Int) else toUp x.1 k x.1.length), sizeAt x.1 k)) ?_ ⟨o25, a5.mono l4 l4, 0, L, rfl, Nat.zero_add _, acc5, hL, fun k hk => by rw [hLk k hk, if_pos hk]; simp⟩
    rintro N2 m2 e h8 ⟨o28, at8, c, L', rfl, hcm, acc8, hL', hLk'⟩ next2
    have ht8 := at8.in (Nat.le_refl _)
    dsimp only [C.live_All_b2]; simp
    refine wp_dec (fun hc => ?_) fun hc => ?_
    · have w2 := succ64 hc (n := (toldOf x).length) (by omega)
      obtain ⟨a0, a1⟩ := there_nat (told_there hm _ (List.getElem_mem hc))
      try simp
      refine wq_idx ht8 (by rfl) (by omega) (by omega) ?_
      try simp
      refine wq_int ht8 hc ?_
      try simp
      refine wq_idx (acc8.in (Nat.le_refl _)) (by rfl) (by omega) (by omega) ?_
      try simp
      have hin : (toldOf x)[c].toNat < L'.length := by omega
      refine wp_putTo acc8 (by omega) (by omega) o28.1 hin fun h9 but9 l9 o89 acc9 => ?_
      simp [w2]
      refine next2 (m2 - 1) _ _ (by omega) ⟨o28.trans o89, at8.flatI but9 (fun j hj => by cases hj; omega), c + 1, _, rfl, by omega, acc9, by simp [hL'], fun k hk => ?_⟩
      have hLc := hLk' ((toldOf x)[c].toNat) (by omega)
      rw [List.getElem?_eq_getElem hin] at hLc
      have hLc := Option.some.inj hLc
      rw [List.getElem?_set]
      by_cases c1 : (toldOf x)[c].toNat = k
      · have e1 : (toldOf x)[c] = (k : Int) := by rw [← c1]; exact (Int.toNat_of_nonneg a0).symm
        have e3 : (k : Int) ∈ (toldOf x).take (c + 1) := by rw [take_succ_app hc, e1]; simp
        rw [if_pos c1, if_pos (by rw [c1]; omega), hLc]
        simp only [c1, if_pos e3]
      · have e1 : ¬ (k : Int) = (toldOf x)[c] := fun e => c1 (by rw [← e]; exact Int.toNat_natCast k)
        have e2 : (k : Int) ∈ (toldOf x).take (c + 1) ↔ (k : Int) ∈ (toldOf x).take c := by
          rw [take_succ_app hc, List.mem_append]
          simp [e1]
        rw [if_neg c1, hLk' k hk]
        simp only [e2]
    · try simp
      have ec : c = (toldOf x).length := by omega
      subst ec
      refine wp_some ⟨o12.trans (o28.mono l12), ?_⟩
      have e : L' = livesL x := by
        apply List.ext_getElem?
        intro k
        rcases Nat.lt_or_ge k x.1.length with hk | hk
        · rw [hLk' k hk, List.take_length, livesL, List.getElem?_map, List.getElem?_range hk]
          rfl
        · rw [List.getElem?_eq_none (by omega), List.getElem?_eq_none (by rw [livesL_len]; omega)]
      rw [← e]
      exact acc8.mono l12 l12
end
end Go.AM
