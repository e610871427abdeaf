/- Numbers, in order, each once. -/
import Derived.Test.YtfdbegdgedhhcaaAmS18
set_option linter.all false
namespace Go.AM
set_option maxRecDepth 20000
set_option maxHeartbeats 1000000
attribute [local simp] layAt
attribute [local irreducible] lenK sliceK idxK fldK cutK storeK appK copyK clearK mapAtK callK loopH readK readK1 guardK grdK fnK nilK fieldK extrK strK nextK joinK iteK intK boolK cellsK castK castL castEnv binK unK intBin layParts execN runOpsN runItemsN denN call loop blockK
/-- How many ahead are less. -/
def posU (n : Int) : List Int → Nat
  | [] => 0
  | x :: r => if x < n then posU n r + 1 else 0
theorem posU_le (n : Int) : ∀ l : List Int, posU n l ≤ l.length
  | [] => Nat.le_refl _
  | x :: r => by
      have := posU_le n r
      rw [posU]
      split <;> simp <;> omega
/-- One more number, in order. -/
def insU (l : List Int) (n : Int) : List Int := if l[posU n l]? = some n then l else l.take (posU n l) ++ n :: l.drop (posU n l)
theorem insU_len (l : List Int) (n : Int) : (insU l n).length ≤ l.length + 1 := by
  have := posU_le n l
  rw [insU]
  split
  · omega
  · simp; omega
def risingL (l : List Int) : List Int := l.foldl insU []
theorem rising_len : ∀ (l a : List Int), (l.foldl insU a).length ≤ a.length + l.length
  | [], a => by simp
  | x :: l, a => by
      have h1 := rising_len l (insU a x)
      have h2 := insU_len a x
      simp only [List.foldl_cons, List.length_cons]
      omega
theorem posU_drop {n : Int} {l : List Int} {k : Nat} (hk : k < l.length) : posU n (l.drop k) = if l[k] < n then posU n (l.drop (k + 1)) + 1 else 0 := by
  rw [List.drop_eq_getElem_cons hk, posU]
section
variable {h : Heap}
theorem ref0_Rising {v : AV} {l : List Int} (hl : In h ints l [v]) (hlen : l.length ≤ 1000000) (b : Nat) (hb : b ≤ h.length) : WP (call prog b 81 [v] h) fun r => Old h.length h r.2 ∧ AccP h.length h.length r.2 int r.1 (risingL l) := by
  refine wp_enter (fn := C.ref0_Rising) rfl ?_
  dsimp only [bodyN, C.ref0_Rising, C.ref0_Rising_l2]; simp
  refine wp_loop (I := fun m e h' => Old h.length h h' ∧ ∃ i x, e = (ea 0 v <| ea 3 x <| ea 4 (.int .i64 (i : Nat)) e0) ∧ i + m = l.length ∧ AccP h.length h.length h' int x (risingL (l.take i))) ?_ ⟨Old.refl (Nat.le_refl _), 0, .nil, rfl, Nat.zero_add _, AccP.nil⟩
  rintro N m e h' ⟨old, i, x, rfl, him, acc⟩ next
  have hl' := In.old old hl
  have hxl := rising_len (l.take i) []
  have ax := acc.in (Nat.le_refl _)
  dsimp only [C.ref0_Rising_b2, C.ref0_Rising_l0, C.ref0_Rising_l1]; simp
  repeat ((first | refine wq_len (by assumption) ?_ | refine wq_idx (by assumption) (by rfl) (by omega) (by omega) ?_ | refine wq_int (by assumption) (by omega) ?_ | refine wq_kind (by assumption) (by omega) ?_ | refine wq_num (by assumption) (by omega) ?_ | refine wq_name (by assumption) (by omega) ?_ | refine wq_ptr (by assumption) rfl ?_ | refine wp_new1 rfl ?_ | refine wq_from (by assumption) (by omega) ?_ | refine wq_to (by assumption) (by omega) ?_ | refine wq_size (by assumption) (by omega) ?_ | refine wq_life (by assumption) (by omega) ?_ | refine wp_guard (by omega) ?_ | refine wq_cells (by assumption) ?_); (try simp))
  refine wp_dec (fun hi => ?_) fun hi => ?_
  · try simp
    have w1 := succ64 (i := i) (n := 1000000) (by omega) (by omega)
    have hstep : risingL (l.take (i + 1)) = insU (risingL (l.take i)) l[i] := by rw [risingL, foldl_take_succ _ _ hi]; rfl
    generalize hX : risingL (l.take i) = X at *
    have hXl : X.length ≤ i := by rw [← hX, risingL]; simp at hxl; omega
    have hp := posU_le l[i] X
    refine wp_loop (I := fun m e h2 => h2 = h' ∧ ∃ k : Nat, e = (ea 0 v <| ea 3 x <| ea 4 (.int .i64 (i : Nat)) <| ea 5 (.int .i64 (k : Nat)) e0) ∧ k + m = X.length ∧ posU l[i] X = k + posU l[i] (X.drop k)) ?_ ⟨rfl, 0, rfl, Nat.zero_add _, by simp⟩
    rintro N2 m2 e _ ⟨rfl, k, rfl, hkm, hpk⟩ next2
    have w2 := succ64 (i := k) (n := 1000000) (by omega) (by omega)
    by_cases hc : ∃ hk : k < X.length, X[k] < l[i]
    · obtain ⟨hk, hlt⟩ := hc
      dsimp only [C.ref0_Rising_b0]; simp
      refine wq_len ax ?_
      simp [hk]
      repeat ((first | refine wq_len (by assumption) ?_ | refine wq_idx (by assumption) (by rfl) (by omega) (by omega) ?_ | refine wq_int (by assumption) (by omega) ?_ | refine wq_kind (by assumption) (by omega) ?_ | refine wq_num (by assumption) (by omega) ?_ | refine wq_name (by assumption) (by omega) ?_ | refine wq_ptr (by assumption) rfl ?_ | refine wp_new1 rfl ?_ | refine wq_from (by assumption) (by omega) ?_ | refine wq_to (by assumption) (by omega) ?_ | refine wq_size (by assumption) (by omega) ?_ | refine wq_life (by assumption) (by omega) ?_ | refine wp_guard (by omega) ?_ | refine wq_cells (by assumption) ?_); (try simp))
      simp [hlt, w2]
      exact next2 (m2 - 1) _ _ (by omega) ⟨rfl, k + 1, rfl, by omega, by rw [hpk, posU_drop hk, if_pos hlt]; omega⟩
    have hpos : posU l[i] X = k := by
      rw [hpk]
      by_cases hk : k < X.length
      · rw [posU_drop hk, if_neg (fun h => hc ⟨hk, h⟩)]
        rfl
      · rw [List.drop_of_length_le (by omega)]
        rfl
    clear hpk
    have hins : insU X l[i] = if X[k]? = some l[i] then X else X.take k ++ l[i] :: X.drop k := by rw [insU, hpos]
    have hr := holds_range hl hi
    dsimp only [C.ref0_Rising_b0]; simp
    refine wq_len ax ?_
    try simp
    refine wp_dec (fun hk => ?_) fun hk => ?_
    all_goals try simp
    all_goals try (refine wq_idx ax (by rfl) (by omega) (by omega) ?_; try simp; refine wq_int ax hk ?_; try simp; refine wq_idx hl' (by rfl) (by omega) (by omega) ?_; try simp; refine wq_int hl' hi ?_; try simp; refine wp_dec (fun hlt => absurd ⟨hk, hlt⟩ hc) fun _ => ?_; try simp)
    all_goals refine wq_len ax ?_
    all_goals try simp
    all_goals first | (refine wp_dec (fun hk => ?_) fun hk => ?_) | skip
    all_goals try (
      refine wq_idx ax (by rfl) (by omega) (by omega) ?_
      try simp
      refine wq_int ax (by omega) ?_
      try simp
      refine wq_idx hl' (by rfl) (by omega) (by omega) ?_
      try simp
      refine wq_int hl' hi ?_
      try simp
      refine wp_dec (fun heq => by
        simp [w1]
        exact next (m - 1) _ _ (by omega) ⟨old, i + 1, x, rfl, by omega, by rw [hstep, hins, if_pos (by rw [List.getElem?_eq_getElem (by omega), heq])]; exact acc⟩) fun hne => ?_
      try simp)
    all_goals
      have hne' : insU X l[i] = X.take k ++ l[i] :: X.drop k := by
        rw [hins, if_neg]
        intro h
        obtain ⟨hk', e⟩ := List.getElem?_eq_some_iff.1 h
        first | exact hne e | omega
      refine wp_pushI acc (by omega) hb old.1 (by omega) fun y h3 o3 a3 => ?_
      try simp
      have w3 : IntKind.i64.wrap (X.length : Int) = (X.length : Int) := w64_id (by omega) (by omega)
      refine wq_len (a3.in (Nat.le_refl _)) ?_
      simp [w3]
      refine wp_loop (I := fun m e h' => Old h.length h h' ∧ ∃ (j : Nat) (Y : List Int), e = (ea 0 v <| ea 3 y <| ea 4 (.int .i64 (i : Nat)) <| ea 5 (.int .i64 (k : Nat)) <| ea 6 (.int .i64 (j : Nat)) e0) ∧ j = k + m ∧ j ≤ X.length ∧ AccP h.length h.length h' int y Y ∧ Y.length = X.length + 1 ∧ ∀ q, q < X.length + 1 → q ≠ j → Y[q]? = if q < j then X[q]? else X[q - 1]?) ?_ (m := X.length - k) ⟨old.trans o3, X.length, X ++ [0], rfl, by omega, Nat.le_refl _, a3, by simp, fun q hq hqj => by rw [if_pos (by omega), List.getElem?_append_left (by omega)]⟩
      rintro N3 m3 e h4 ⟨old4, j, Y, rfl, hjk, hjX, a4, hY, hq⟩ next3
      have a4' := a4.in (Nat.le_refl _)
      dsimp only [C.ref0_Rising_b1]; simp
      refine wp_dec (fun hj => ?_) fun hj => ?_
      · have w4 : IntKind.i64.wrap ((j : Int) - 1) = ((j - 1 : Nat) : Int) := by rw [w64_id (by omega) (by omega)]; omega
        simp [w4]
        refine wq_idx a4' (by rfl) (by omega) (by omega) ?_
        have e4 : ((j - 1 : Nat) : Int).toNat = j - 1 := by omega
        try simp
        have hj1 : j - 1 < Y.length := by omega
        refine wq_int a4' hj1 ?_
        have r4 := holds_range a4' hj1
        try simp
        refine wq_idx a4' (by rfl) (by omega) (by omega) ?_
        try simp
        refine wp_putI a4 r4 hb old4.1 (by omega) fun h5 _ l5 o5 a5 => ?_
        simp [w4]
        refine next3 (m3 - 1) _ _ (by omega) ⟨old4.trans o5, j - 1, _, rfl, by omega, by omega, a5, by simp [hY], fun q hq1 hq2 => ?_⟩
        have f1 := hq (j - 1) (by omega) (by omega)
        rw [if_pos (by omega), List.getElem?_eq_getElem hj1] at f1
        rw [List.getElem?_set]
        by_cases c1 : j = q
        · subst c1
          rw [if_pos rfl, if_pos (by omega), if_neg (by omega), f1]
        · rw [if_neg c1, hq q hq1 (fun e => c1 e.symm)]
          by_cases c2 : q < j
          · rw [if_pos c2, if_pos (by omega)]
          · rw [if_neg c2, if_neg (by omega)]
      · try simp
        have ejk : j = k := by omega
        subst ejk
        have hl4 := In.old old4 hl
        refine wq_idx hl4 (by rfl) (by omega) (by omega) ?_
        try simp
        refine wq_int hl4 hi ?_
        try simp
        refine wq_idx a4' (by rfl) (by omega) (by omega) ?_
        try simp
        refine wp_putI a4 hr hb old4.1 (by omega) fun h5 _ l5 o5 a5 => ?_
        simp [w1]
        refine next (m - 1) _ _ (by omega) ⟨old4.trans o5, i + 1, y, rfl, by omega, ?_⟩
        have e5 : Y.set j l[i] = X.take j ++ l[i] :: X.drop j := by
          apply List.ext_getElem?
          intro q
          rw [List.getElem?_set]
          have ht : (X.take j).length = j := by simp; omega
          by_cases c1 : j = q
          · subst c1
            rw [if_pos rfl, if_pos (by omega), List.getElem?_append_right (by omega), ht, Nat.sub_self]
            rfl
          · rw [if_neg c1]
            rcases Nat.lt_or_ge q (X.length + 1) with hq1 | hq1
            · rw [hq q hq1 (fun e => c1 e.symm)]
              by_cases c2 : q < j
              · rw [if_pos c2, List.getElem?_append_left (by omega), List.getElem?_take, if_pos c2]
              · rw [if_neg c2, List.getElem?_append_right (by omega), ht]
                obtain ⟨d, hd⟩ : ∃ d, q - j = d + 1 := ⟨q - j - 1, by omega⟩
                rw [hd, List.getElem?_cons_succ, List.getElem?_drop]
                congr 1
                omega
            · rw [List.getElem?_eq_none (by omega), List.getElem?_eq_none (by simp; omega)]
        rw [hstep, hne', ← e5]
        exact a5
  · try simp
    refine wp_some ⟨old, ?_⟩
    rwa [List.take_of_length_le (by omega)] at acc
end
end Go.AM
