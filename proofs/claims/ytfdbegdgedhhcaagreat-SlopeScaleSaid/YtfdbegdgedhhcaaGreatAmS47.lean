import Derived.Test.YtfdbegdgedhhcaaGreatAmS37
set_option linter.all false
/- What a node's value is: its dims. -/
namespace Go.AM
set_option maxRecDepth 20000
set_option maxHeartbeats 1000000
attribute [local simp] layAt
attribute [local irreducible] lenK sliceK idxK fldK cutK storeK appK copyK clearK mapAtK callK loopH readK readK1 guardK grdK fnK nilK fieldK extrK strK nextK joinK iteK intK boolK cellsK castK castL castEnv binK unK intBin layParts execN runOpsN runItemsN denN call loop blockK
theorem tenOk_of {t : tensor.den} (h1 : dimsOk t.1 = true) (h2 : (t.2.length : Int) = prodI t.1) : tenOk t = true := by simp [tenOk, h1, (dimsOk_prod h1).1, h2]
theorem dimsOk_of {d : List Int} (h0 : 1 ≤ d.length) (h1 : d.length ≤ 3) (h2 : ∀ x ∈ d, 1 ≤ x ∧ x ≤ 8) (h3 : prodI d ≤ 64) : dimsOk d = true := by
  have e := prodW_eq (d := d) (fun x hx => (h2 x hx).1) (fun x hx => (h2 x hx).2) h1
  simp only [dimsOk, Bool.and_eq_true, decide_eq_true_eq, List.all_eq_true]
  exact ⟨⟨⟨h0, h1⟩, fun x hx => h2 x hx⟩, by omega⟩
theorem prodI_set_last : ∀ {d : List Int} {q n : Int}, d ≠ [] → d.getD (d.length - 1) 0 = q * n → prodI (d.set (d.length - 1) q) * n = prodI d
  | [], _, _, h, _ => absurd rfl h
  | [z], q, n, _, e => by
      simp at e
      simp [prodI, e]
  | x :: y :: r, q, n, _, e => by
      have ih := prodI_set_last (d := y :: r) (q := q) (n := n) (by simp) (by simpa using e)
      have e1 : (x :: y :: r).set ((x :: y :: r).length - 1) q = x :: (y :: r).set ((y :: r).length - 1) q := by simp
      rw [e1, prodI, prodI, Int.mul_assoc, ih]
theorem lastD_mem {d : List Int} (h : d ≠ []) : lastD d ∈ d := by
  have : d.length - 1 < d.length := by have := List.length_pos_iff.2 h; omega
  rw [lastD, List.getD_eq_getElem?_getD, List.getElem?_eq_getElem this]
  exact List.getElem_mem this
/-- Dims whose last one is so many times less. -/
theorem less_parts {d : List Int} {n : Int} (h : dimsOk d = true) (hn : 1 ≤ n) (hm : (lastD d).tmod n = 0) : dimsOk (lessD d n) = true ∧ prodI (lessD d n) * n = prodI d := by
  have hl := dimsOk_len h
  have h0 : d ≠ [] := by
    intro e
    rw [e] at hl
    simp at hl
  have hz := dimsOk_mem h (lastD_mem h0)
  have hq : lastD d = (lastD d).tdiv n * n := by
    have := Int.tdiv_mul_add_tmod (lastD d) n
    omega
  have hq1 : 1 ≤ (lastD d).tdiv n := by
    by_cases c : 1 ≤ (lastD d).tdiv n
    · exact c
    · have : (lastD d).tdiv n * n ≤ 0 * n := Int.mul_le_mul_of_nonneg_right (by omega) (by omega)
      omega
  have hq2 : (lastD d).tdiv n ≤ 8 := by
    have : (lastD d).tdiv n * 1 ≤ (lastD d).tdiv n * n := Int.mul_le_mul_of_nonneg_left hn (by omega)
    omega
  have hp : prodI (lessD d n) * n = prodI d := prodI_set_last h0 hq
  have hall : ∀ x ∈ lessD d n, 1 ≤ x ∧ x ≤ 8 := by
    intro x hx
    rcases List.mem_or_eq_of_mem_set hx with h1 | h1
    · exact dimsOk_mem h h1
    · rw [h1]
      exact ⟨hq1, hq2⟩
  have hpos := prodI_pos (d := lessD d n) fun x hx => (hall x hx).1
  have h64 := (dimsOk_prod h).2.2
  refine ⟨dimsOk_of (by simp [lessD]; omega) (by simp [lessD]; omega) hall ?_, hp⟩
  have : prodI (lessD d n) * 1 ≤ prodI (lessD d n) * n := Int.mul_le_mul_of_nonneg_left hn (by omega)
  omega
/-- What a node's value may be made of. -/
structure Good (k n : Int) (d : List Int) (ls : List tensor.den) (x : List Int) : Prop where
  form : formOk k n d (ls.map (·.1)) = true
  dims : inferD k n d (ls.map (·.1)) = some x
  ok : ∀ t ∈ ls, tenOk t = true
  leaf : k ≠ 1 ∧ k ≠ 2
theorem doT_ok {k n : Int} {d : List Int} {ls : List tensor.den} {x : List Int} (G : Good k n d ls x) : (doT k n d ls).1 = x ∧ tenOk (doT k n d ls) = true := by
  obtain ⟨hf, hi, ht, hk12⟩ := G
  simp only [formOk, Bool.and_eq_true, decide_eq_true_eq, List.all_eq_true] at hf
  obtain ⟨⟨⟨⟨⟨hk1, hk2⟩, hlen⟩, hall⟩, hn⟩, hdd⟩ := hf
  rw [List.length_map] at hlen
  have hk : k = 3 ∨ k = 4 ∨ k = 5 ∨ k = 6 ∨ k = 7 ∨ k = 8 ∨ k = 9 ∨ k = 10 ∨ k = 11 ∨ k = 12 ∨ k = 13 ∨ k = 14 ∨ k = 15 ∨ k = 16 ∨ k = 17 := by omega
  rcases hk with rfl | rfl | rfl | rfl | rfl | rfl | rfl | rfl | rfl | rfl | rfl | rfl | rfl | rfl | rfl
  all_goals simp [many] at hlen
  all_goals simp [asked] at hdd
  all_goals simp only [inferD] at hi
  all_goals simp at hi
  all_goals simp [numberOk] at hn
  -- 3
  · obtain ⟨p1, p2, p3⟩ := dimsOk_prod hdd
    subst hi
    refine ⟨rfl, tenOk_of hdd ?_⟩
    simp [doT]
    omega
  -- 4, 5, 6
  iterate 3
    · obtain ⟨a, c, rfl⟩ := len2 (l := ls) (by omega); have oka : tenOk a = true := ht a (by simp); have okc : tenOk c = true := ht c (by simp); obtain ⟨a1, a2, a3, a4, a5⟩ := ten_parts oka; obtain ⟨c1, c2, c3, c4, c5⟩ := ten_parts okc
      simp at hi
      obtain ⟨e, rfl⟩ := hi
      refine ⟨rfl, tenOk_of a1 ?_⟩
      rw [← e] at c2
      simp [doT]
      omega
  -- 7, 8
  iterate 2
    · obtain ⟨a, rfl⟩ := len1 (l := ls) (by omega); have oka : tenOk a = true := ht a (by simp); obtain ⟨a1, a2, a3, a4, a5⟩ := ten_parts oka
      simp at hi
      refine ⟨by simpa [doT] using hi, tenOk_of a1 ?_⟩
      simp [doT, scaleL]
      omega
  -- 9
  · obtain ⟨a, c, rfl⟩ := len2 (l := ls) (by omega); have oka : tenOk a = true := ht a (by simp); have okc : tenOk c = true := ht c (by simp); obtain ⟨a1, a2, a3, a4, a5⟩ := ten_parts oka; obtain ⟨c1, c2, c3, c4, c5⟩ := ten_parts okc
    simp at hi
    obtain ⟨⟨e1, e2, e3⟩, rfl⟩ := hi
    obtain ⟨r, m, ea, hr1, hr8, hm1, hm8, _, _⟩ := mat_parts a1 e1
    obtain ⟨m', cc, ec, hm1', hm8', hc1, hc8, _, _⟩ := mat_parts c1 e2
    refine ⟨rfl, tenOk_of (by simp only [doT]; simp [matT, ea, ec]; exact dimsOk_two (by omega) (by omega)) ?_⟩
    simp [doT, matT, rowsT, colsT, ea, ec, prodI]
  -- 10
  · obtain ⟨a, rfl⟩ := len1 (l := ls) (by omega); have oka : tenOk a = true := ht a (by simp); obtain ⟨a1, a2, a3, a4, a5⟩ := ten_parts oka
    simp at hi
    obtain ⟨e1, rfl⟩ := hi
    obtain ⟨r, m, ea, hr1, hr8, hm1, hm8, hp, _⟩ := mat_parts a1 e1
    refine ⟨rfl, tenOk_of (by simp only [doT]; simp [turnT, ea]; exact dimsOk_two (by omega) (by omega)) ?_⟩
    simp [doT, turnT, turnTo_len, rowsT, colsT, ea, prodI, Int.mul_comm]
  -- 11
  · obtain ⟨a, rfl⟩ := len1 (l := ls) (by omega); have oka : tenOk a = true := ht a (by simp); obtain ⟨a1, a2, a3, a4, a5⟩ := ten_parts oka
    simp at hi
    obtain ⟨e1, rfl⟩ := hi
    rw [(dimsOk_prod hdd).1, (dimsOk_prod a1).1] at e1
    refine ⟨rfl, tenOk_of hdd ?_⟩
    simp [doT]
    omega
  -- 12
  · obtain ⟨a, rfl⟩ := len1 (l := ls) (by omega); have oka : tenOk a = true := ht a (by simp); obtain ⟨a1, a2, a3, a4, a5⟩ := ten_parts oka
    simp at hi
    obtain ⟨e1, rfl⟩ := hi
    obtain ⟨p1, p2, p3⟩ := dimsOk_prod hdd
    refine ⟨rfl, tenOk_of hdd ?_⟩
    simp [doT, wideL]
    omega
  -- 13
  · obtain ⟨a, rfl⟩ := len1 (l := ls) (by omega); have oka : tenOk a = true := ht a (by simp); obtain ⟨a1, a2, a3, a4, a5⟩ := ten_parts oka
    simp at hi
    obtain ⟨e1, rfl⟩ := hi
    obtain ⟨p1, p2, p3⟩ := dimsOk_prod hdd
    refine ⟨rfl, tenOk_of hdd ?_⟩
    simp [doT, sumUp_len]
    omega
  -- 14
  · obtain ⟨a, rfl⟩ := len1 (l := ls) (by omega); have oka : tenOk a = true := ht a (by simp); obtain ⟨a1, a2, a3, a4, a5⟩ := ten_parts oka
    simp at hi
    refine ⟨by simpa [doT] using hi, tenOk_of a1 ?_⟩
    simp [doT, stepL]
    omega
  -- 15
  · obtain ⟨a, rfl⟩ := len1 (l := ls) (by omega); have oka : tenOk a = true := ht a (by simp); obtain ⟨a1, a2, a3, a4, a5⟩ := ten_parts oka
    simp at hi
    obtain ⟨e1, rfl⟩ := hi
    obtain ⟨p1, p2⟩ := less_parts a1 hn.1 e1
    obtain ⟨q1, q2, q3⟩ := dimsOk_prod p1
    refine ⟨rfl, tenOk_of p1 ?_⟩
    simp [doT, maxT]
    omega
  -- 16
  · obtain ⟨a, c, rfl⟩ := len2 (l := ls) (by omega); have oka : tenOk a = true := ht a (by simp); have okc : tenOk c = true := ht c (by simp); obtain ⟨a1, a2, a3, a4, a5⟩ := ten_parts oka; obtain ⟨c1, c2, c3, c4, c5⟩ := ten_parts okc
    simp at hi
    obtain ⟨e, rfl⟩ := hi
    refine ⟨rfl, tenOk_of a1 ?_⟩
    rw [← e] at c2
    simp [doT, stepL]
    omega
  -- 17
  · obtain ⟨a, c, rfl⟩ := len2 (l := ls) (by omega); have oka : tenOk a = true := ht a (by simp); have okc : tenOk c = true := ht c (by simp); obtain ⟨a1, a2, a3, a4, a5⟩ := ten_parts oka; obtain ⟨c1, c2, c3, c4, c5⟩ := ten_parts okc
    simp at hi
    obtain ⟨⟨e1, e2⟩, rfl⟩ := hi
    refine ⟨rfl, tenOk_of a1 ?_⟩
    simp [doT, pickT, pickTo_len]
    omega
end Go.AM

/- Where the first greatest stands. -/
namespace Go.AM
set_option maxRecDepth 20000
set_option maxHeartbeats 1000000
attribute [local simp] layAt
attribute [local irreducible] lenK sliceK idxK fldK cutK storeK appK copyK clearK mapAtK callK loopH readK readK1 guardK grdK fnK nilK fieldK extrK strK nextK joinK iteK intK boolK cellsK castK castL castEnv binK unK intBin layParts execN runOpsN runItemsN denN call loop blockK
theorem foldl_maxF : ∀ (l : List Int) (a : Int), (l.foldl maxF a = a ∨ l.foldl maxF a ∈ l) ∧ a ≤ l.foldl maxF a ∧ ∀ x ∈ l, x ≤ l.foldl maxF a
  | [], a => ⟨.inl rfl, Int.le_refl _, by simp⟩
  | y :: l, a => by
      obtain ⟨h1, h2, h3⟩ := foldl_maxF l (maxF a y)
      have hm : (maxF a y = a ∨ maxF a y = y) ∧ a ≤ maxF a y ∧ y ≤ maxF a y := by
        unfold maxF
        split <;> simp <;> omega
      simp only [List.foldl_cons, List.mem_cons]
      refine ⟨?_, by omega, fun x hx => ?_⟩
      · rcases h1 with h1 | h1
        · rcases hm.1 with h | h
          · exact .inl (by rw [h1, h])
          · exact .inr (.inl (by rw [h1, h]))
        · exact .inr (.inr h1)
      · rcases hx with rfl | hx
        · omega
        · exact h3 x hx
theorem maxL_facts {l : List Int} (h : l ≠ []) : maxL l ∈ l ∧ ∀ x ∈ l, x ≤ maxL l := by
  cases l with
  | nil => exact absurd rfl h
  | cons a l =>
    obtain ⟨h1, h2, h3⟩ := foldl_maxF l a
    have e : maxL (a :: l) = l.foldl maxF a := by simp [maxL]
    rw [e]
    refine ⟨?_, fun x hx => ?_⟩
    · rcases h1 with h1 | h1
      · rw [h1]; exact List.mem_cons_self
      · exact List.mem_cons_of_mem _ h1
    · rcases List.mem_cons.1 hx with rfl | hx
      · exact h2
      · exact h3 x hx
theorem firstTo_facts (l : List Int) : ∀ i, 1 ≤ i → firstTo l i < i ∧ (∀ q, q < i → l.getD q 0 ≤ l.getD (firstTo l i) 0) ∧ ∀ q, q < firstTo l i → l.getD q 0 < l.getD (firstTo l i) 0
  | 0, h => absurd h (by omega)
  | 1, _ => by
      have e : firstTo l 1 = 0 := by simp [firstTo]
      rw [e]
      refine ⟨by omega, fun q hq => ?_, fun q hq => absurd hq (Nat.not_lt_zero _)⟩
      obtain rfl : q = 0 := by omega
      exact Int.le_refl _
  | i + 2, _ => by
      obtain ⟨h1, h2, h3⟩ := firstTo_facts l (i + 1) (by omega)
      rw [firstTo]
      split
      · rename_i hc
        refine ⟨by omega, fun q hq => ?_, fun q hq => ?_⟩
        · by_cases c : q = i + 1
          · rw [c]; exact Int.le_refl _
          · have := h2 q (by omega); omega
        · have := h2 q (by omega); omega
      · rename_i hc
        refine ⟨by omega, fun q hq => ?_, h3⟩
        by_cases c : q = i + 1
        · rw [c]; omega
        · exact h2 q (by omega)
theorem firstL_lt {l : List Int} (h : l ≠ []) : firstL l < l.length := (firstTo_facts l l.length (List.length_pos_iff.2 h)).1
theorem firstL_max {l : List Int} (h : l ≠ []) : l.getD (firstL l) 0 = maxL l := by
  obtain ⟨h1, h2, h3⟩ := firstTo_facts l l.length (List.length_pos_iff.2 h)
  obtain ⟨m1, m2⟩ := maxL_facts h
  obtain ⟨q, hq, e⟩ := List.mem_iff_getElem.1 m1
  have a1 := h2 q hq
  have a2 := m2 _ (List.getElem_mem (firstL_lt h))
  have e1 : l.getD q 0 = l[q] := by rw [List.getD_eq_getElem?_getD, List.getElem?_eq_getElem hq]; rfl
  have e2 : l.getD (firstL l) 0 = l[firstL l]'(firstL_lt h) := by rw [List.getD_eq_getElem?_getD, List.getElem?_eq_getElem (firstL_lt h)]; rfl
  change l.getD q 0 ≤ l.getD (firstL l) 0 at a1
  omega
theorem idxFrom_first : ∀ {bs : List Bool} {n k : Nat}, bs[k]? = some true → (∀ q, q < k → bs[q]? = some false) → idxFrom n bs = ((n + k : Nat) : Int)
  | [], _, _, h, _ => by simp at h
  | c :: bs, n, 0, h, _ => by
      simp at h
      subst h
      simp [idxFrom]
  | c :: bs, n, k + 1, h, hq => by
      have h0 := hq 0 (by omega)
      simp at h0
      subst h0
      have ih := idxFrom_first (bs := bs) (n := n + 1) (k := k) (by simpa using h) fun q h => by simpa using hq (q + 1) (by omega)
      simp only [idxFrom]
      simp [ih]
      omega
theorem idx_firstL {l : List Int} (h : l ≠ []) : idxFrom 0 (l.map fun x => decide (maxL l = x)) = (firstL l : Int) := by
  have hl := firstL_lt h
  have hm := firstL_max h
  have e2 : l.getD (firstL l) 0 = l[firstL l]'hl := by rw [List.getD_eq_getElem?_getD, List.getElem?_eq_getElem hl]; rfl
  obtain ⟨h1, h2, h3⟩ := firstTo_facts l l.length (List.length_pos_iff.2 h)
  have := idxFrom_first (bs := l.map fun x => decide (maxL l = x)) (n := 0) (k := firstL l) (by rw [List.getElem?_map, List.getElem?_eq_getElem hl]; simp; omega) fun q hq => by
    have hql : q < l.length := by omega
    have e1 : l.getD q 0 = l[q] := by rw [List.getD_eq_getElem?_getD, List.getElem?_eq_getElem hql]; rfl
    have h4 := h3 q hq
    change l.getD q 0 < l.getD (firstL l) 0 at h4
    rw [List.getElem?_map, List.getElem?_eq_getElem hql]
    simp
    omega
  simpa using this
theorem partL_len {l : List Int} {n i : Nat} (h : i * n + n ≤ l.length) : (partL l n i).length = n := by
  simp [partL]
  omega
section
variable {R : Type} {Q : R → Prop} {h : Heap}
theorem gate_greatest {v : AV} {l : List Int} (hl : In h ints l [v]) (h0 : l ≠ []) (b : Nat) : call prog b 185 [v] h = some (.int .i64 (firstL l : Nat), h) := by
  refine wp_iff.1 (wp_enter (fn := C.gate_greatest) rfl ?_)
  dsimp only [bodyN, C.gate_greatest]; simp
  rw [callK_eq (slices_Max_int hl h0 _)]
  try simp
  rw [callK_eq (slices_Index_int hl _ _), idx_firstL h0]
  try simp
  exact wp_some rfl
theorem ref1_first {v : AV} {l : List Int} (hl : In h ints l [v]) (h0 : l ≠ []) (hm : l.length ≤ 1000000) (b : Nat) : call prog b 253 [v] h = some (.int .i64 (firstL l : Nat), h) := by
  refine wp_iff.1 (wp_enter (fn := C.ref1_first) rfl ?_)
  dsimp only [bodyN, C.ref1_first, C.ref1_first_l0]; simp
  refine wp_loop (I := fun m e h' => h' = h ∧ ∃ (i : Nat), e = (ea 0 v <| ea 3 (.int .i64 (firstTo l i : Nat)) <| ea 4 (.int .i64 (i : Nat)) e0) ∧ i + m = l.length) ?_ ⟨rfl, 0, rfl, Nat.zero_add _⟩
  rintro N m e _ ⟨rfl, i, rfl, him⟩ next
  dsimp only [C.ref1_first_b0]; simp
  refine wq_len hl ?_
  try simp
  refine wp_dec (fun hi => ?_) fun hi => ?_
  · have w1 := succ64 (i := i) (n := 1000000) (by omega) (by omega)
    have hk : firstTo l i < l.length := by
      rcases Nat.eq_zero_or_pos i with e | e
      · rw [e]; simp [firstTo]; exact List.length_pos_iff.2 h0
      · have := (firstTo_facts l i e).1; omega
    have e1 : l.getD i 0 = l[i] := by rw [List.getD_eq_getElem?_getD, List.getElem?_eq_getElem hi]; rfl
    have e2 : l.getD (firstTo l i) 0 = l[firstTo l i] := by rw [List.getD_eq_getElem?_getD, List.getElem?_eq_getElem hk]; rfl
    try simp
    refine wq_idx hl (by rfl) (by omega) (by omega) ?_
    try simp
    refine wq_int hl hi ?_
    try simp
    refine wq_idx hl (by rfl) (by omega) (by omega) ?_
    try simp
    refine wq_int hl hk ?_
    try simp
    refine wp_dec (fun hc => ?_) fun hc => ?_
    · simp [w1]
      exact next (m - 1) _ _ (by omega) ⟨rfl, i + 1, by rw [firstTo, if_pos (by omega)]; simp, by omega⟩
    · simp [w1]
      exact next (m - 1) _ _ (by omega) ⟨rfl, i + 1, by rw [firstTo, if_neg (by omega)]; simp, by omega⟩
  · have ei : i = l.length := by omega
    subst ei
    try simp
    exact wp_some rfl
theorem gate_asked {s : tensor.den} {cs : List AV} (hs : In h tensor s cs) (ks : tenOk s = true) {n : Int} (hn : 1 ≤ n ∧ n ≤ 8) (hm : (lastD s.1).tmod n = 0) (b : Nat) (hb : b ≤ h.length) :
    WP (call prog b 184 [.agg cs, .int .i64 n] h) fun r => Old h.length h r.2 ∧ ∃ v, r.1 = .tup [v, .int .i64 0] ∧ AccP h.length h.length r.2 int v (lessD s.1 n) := by
  obtain ⟨sd, st, rfl, hsd, hst⟩ := holds_tensor hs
  obtain ⟨s1, s2, s3, s4, s5⟩ := ten_parts ks
  have dl := dimsOk_len s1
  refine wp_enter (fn := C.gate_asked) rfl ?_
  dsimp only [bodyN, C.gate_asked]; simp
  generalize hh : h ++ [AObj.cells 0 1 [sd, st]] = h1
  have o1 : Old h.length h h1 := hh ▸ Old.app
  have l1 : h1.length = h.length + 1 := by rw [← hh]; simp
  have b1 : Box h1 h.length [sd, st] := by rw [← hh]; simp [Box]
  refine wq_ptrs b1 (by simp) ?_
  try simp
  refine wp_call (shape_Is (In.old o1 hs) b (by omega)) fun v2 h2 ⟨o2, e2⟩ => ?_
  simp only at o2 e2
  rw [ks] at e2
  subst e2
  have l2 := o2.1
  have o02 := o1.trans (o2.mono (by omega))
  have b2 := b1.old o2 b1.lt
  have n1 : ¬ n < 1 := by omega
  have n2 : ¬ 8 < n := by omega
  simp [n1, n2]
  refine wq_ptr b2 rfl ?_
  try simp
  refine wp_call (gate_Less (In.old o02 hsd) (by omega) (by intro e; rw [e] at dl; simp at dl) hn.1 b (by omega)) fun v3 h3 ⟨o3, v', e3, a3⟩ => ?_
  simp only at o3 e3 a3
  subst e3
  have a3 := a3 hm
  simp [hm]
  have l3 := o3.1
  exact wp_some ⟨o02.trans (o3.mono (by omega)), _, rfl, a3.mono (by omega) (by omega)⟩
end
end Go.AM

/- The greatest of so many; laid where it stands: the page's. -/
namespace Go.AM
set_option maxRecDepth 20000
set_option maxHeartbeats 1000000
attribute [local simp] layAt
attribute [local irreducible] lenK sliceK idxK fldK cutK storeK appK copyK clearK mapAtK callK loopH readK readK1 guardK grdK fnK nilK fieldK extrK strK nextK joinK iteK intK boolK cellsK castK castL castEnv binK unK intBin layParts execN runOpsN runItemsN denN call loop blockK
section
variable {R : Type} {Q : R → Prop} {h : Heap}
theorem ref1_Max {s : tensor.den} {cs : List AV} (hs : In h tensor s cs) (ks : tenOk s = true) {n : Int} (hn : 1 ≤ n ∧ n ≤ 8) (hm : (lastD s.1).tmod n = 0) (b : Nat) (hb : b ≤ h.length) :
    WP (call prog b 252 [.agg cs, .int .i64 n] h) fun r => Old h.length h r.2 ∧ TenAt h.length r.2 (maxT s n) r.1 := by
  obtain ⟨sd, st, rfl, hsd, hst⟩ := holds_tensor hs
  obtain ⟨s1, s2, s3, s4, s5⟩ := ten_parts ks
  have dl := dimsOk_len s1
  obtain ⟨k1, k2⟩ := less_parts s1 hn.1 hm
  obtain ⟨p1, p2, p3⟩ := dimsOk_prod k1
  obtain ⟨nn, rfl⟩ := Int.eq_ofNat_of_zero_le (show 0 ≤ n by omega)
  obtain ⟨N, eN⟩ := Int.eq_ofNat_of_zero_le (show 0 ≤ prodI (lessD s.1 nn) by omega)
  have eT : maxT s nn = (lessD s.1 nn, (List.range N).map fun i => maxL (partL s.2 nn i)) := by simp [maxT, eN]
  have eL : N * nn = s.2.length := by
    rw [eN, ← Int.natCast_mul] at k2
    omega
  rw [eN] at p2 p3
  refine wp_enter (fn := C.ref1_Max) rfl ?_
  dsimp only [bodyN, C.ref1_Max, C.ref1_Max_l0]; simp
  generalize hh : h ++ [AObj.cells 0 1 [sd, st], AObj.cells 0 1 [AV.nil, AV.nil]] = h1
  have o1 : Old h.length h h1 := hh ▸ Old.app
  have l1 : h1.length = h.length + 2 := by rw [← hh]; simp
  have b1 : Box h1 h.length [sd, st] := by rw [← hh]; simp [Box]
  have r1 : Box h1 (h.length + 1) [AV.nil, AV.nil] := by rw [← hh]; simp [Box]
  refine wq_ptr b1 rfl ?_
  try simp
  refine wp_call (ref1_less (In.old o1 hsd) (by omega) (by intro e; rw [e] at dl; simp at dl) hn.1 b (by omega)) fun v2 h2 ⟨o2, a2⟩ => ?_
  simp only at o2 a2
  have l2 := o2.1
  have o02 := o1.trans (o2.mono (by omega))
  have b2 := b1.old o2 b1.lt
  have r2 := r1.old o2 r1.lt
  try simp
  refine wp_call (ref1_Fill (a2.in (Nat.le_refl _)) k1 (n := 0) (by omega) b (by omega)) fun v4 h4 ⟨o4, T4⟩ => ?_
  simp only at o4 T4
  rw [eN, Int.toNat_natCast] at T4
  have l4 := o4.1
  try simp
  refine wp_initT T4 (by omega) fun vD vT k h5 e5 o5 lt5 B5 => ?_
  subst e5
  have l5 := o5.1
  have kl := B5.kl
  have kle := B5.le
  have o25 := o4.trans (o5.mono l4)
  have b5 := b2.old o25 b2.lt
  have r5 := r2.old o25 r2.lt
  have o05 := o02.trans (o25.mono (by omega))
  have lr1 := r1.lt
  have lb2 := b2.lt
  have lr2 := r2.lt
  try simp
  refine wp_loop (I := fun m e h' => Old k h5 h' ∧ h'.length = h5.length ∧ ∃ (i : Nat), e = (ea 1 (.int .i64 (nn : Nat)) <| ea 2 (.ptr h.length 0 0) <| ea 4 (.ptr (h.length + 1) 0 0) <| ea 5 (.ptr h4.length 0 0) <| ea 6 (.int .i64 (i : Nat)) e0) ∧ i + m = N ∧ TB h2.length k h4.length (lessD s.1 nn) (upTo N (fun i => maxL (partL s.2 nn i)) i) vD vT h') ?_ ⟨Old.refl (by omega), rfl, 0, rfl, Nat.zero_add _, by rw [upTo_zero]; exact B5⟩
  rintro M m e' h6 ⟨o6, l6, i, rfl, him, B6⟩ next
  have b6 := b5.old o6 (by omega)
  have r6 := r5.old o6 (by omega)
  have o06 := o05.trans (o6.mono (by omega))
  have hst6 := In.old o06 hst
  have hlen : (upTo N (fun i => maxL (partL s.2 nn i)) i).length = N := upTo_len (by omega)
  dsimp only [C.ref1_Max_b0]; simp
  refine wq_ptr B6.box rfl ?_
  try simp
  refine wq_len B6.in ?_
  simp [hlen]
  refine wp_dec (fun hi => ?_) fun hi => ?_
  · have hi : i < N := by omega
    have wi := succ64 (i := i) (n := 64) (by omega) (by omega)
    have q1 : i * nn + nn ≤ N * nn := by
      have := Nat.mul_le_mul_right nn (show i + 1 ≤ N from hi)
      rwa [Nat.add_mul, Nat.one_mul] at this
    have w1 : IntKind.i64.wrap ((i : Int) * (nn : Int)) = (i : Int) * (nn : Int) := by rw [← Int.natCast_mul]; exact w64_id (by omega) (by omega)
    have w2 : IntKind.i64.wrap ((i : Int) * (nn : Int) + (nn : Int)) = (i : Int) * (nn : Int) + (nn : Int) := by rw [← Int.natCast_mul]; exact w64_id (by omega) (by omega)
    try simp
    refine wq_ptr b6 rfl ?_
    simp [w1, w2]
    refine wq_len hst6 ?_
    try simp
    refine wp_guard (by rw [← Int.natCast_mul]; omega) ?_
    try simp
    refine wp_cut (p := int) (l := s.2) (a := i * nn) (b := i * nn + nn) hst6 rfl (by omega) (by omega) (by rw [Int.natCast_mul]) (by rw [Int.natCast_add, Int.natCast_mul]) fun v7 H7 => ?_
    have e7 : (s.2.drop (i * nn)).take (i * nn + nn - i * nn) = partL s.2 nn i := by rw [partL, Nat.add_sub_cancel_left]
    rw [e7] at H7
    have ne7 : partL s.2 nn i ≠ [] := by
      intro e
      have := partL_len (l := s.2) (n := nn) (i := i) (by omega)
      rw [e] at this
      simp at this
      omega
    have hl7 := partL_len (l := s.2) (n := nn) (i := i) (by omega)
    have hf := firstL_lt ne7
    have hx := firstL_max ne7
    have e8 : (partL s.2 nn i)[firstL (partL s.2 nn i)] = maxL (partL s.2 nn i) := by
      rw [← hx, List.getD_eq_getElem?_getD, List.getElem?_eq_getElem hf]
      rfl
    try simp
    refine wq_ptr B6.box rfl ?_
    try simp
    rw [callK_eq (ref1_first H7 ne7 (by omega) _)]
    try simp
    refine wq_idx H7 (by rfl) (by omega) (by omega) ?_
    try simp
    refine wq_int H7 hf ?_
    try simp
    refine wq_idx B6.in (by rfl) (by omega) (by omega) ?_
    try simp
    refine wp_putT B6 (holds_range H7 hf) (by omega) (by omega) (by omega) fun h8 o8 l8 _ B8 => ?_
    simp [wi]
    rw [e8, upTo_set (f := fun i => maxL (partL s.2 nn i)) hi] at B8
    exact next (m - 1) _ _ (by omega) ⟨o6.trans o8, by omega, i + 1, by simp, by omega, B8⟩
  · have ei : i = N := by omega
    subst ei
    rw [upTo_full] at B6
    try simp
    refine wq_ptrs B6.box (by simp) ?_
    try simp
    refine wq_put r6 (by omega) (vs := [vD, vT]) (fun _ => by rw [cellsK_agg]) (by rfl) (by simp) fun h7 l7 k7 b7 => ?_
    simp at b7
    try simp
    refine wq_ptrs b7 (by simp) ?_
    try simp
    exact wp_some ⟨o06.trans (old_put l7 k7 (by omega) (by omega)), by rw [eT]; exact (B6.told l7 k7 (by omega)).mono (by omega)⟩
theorem ref1_Pick {s t : tensor.den} {cs ct : List AV} (hs : In h tensor s cs) (ht : In h tensor t ct) (ks : tenOk s = true) (kt : tenOk t = true) {n : Int} (hn : 1 ≤ n ∧ n ≤ 8) (hm : (lastD s.1).tmod n = 0) (he : lessD s.1 n = t.1) (b : Nat) (hb : b ≤ h.length) :
    WP (call prog b 249 [.agg cs, .agg ct, .int .i64 n] h) fun r => Old h.length h r.2 ∧ TenAt h.length r.2 (pickT s t n) r.1 := by
  obtain ⟨sd, st, rfl, hsd, hst⟩ := holds_tensor hs
  obtain ⟨td, tt, rfl, htd, htt⟩ := holds_tensor ht
  obtain ⟨s1, s2, s3, s4, s5⟩ := ten_parts ks
  obtain ⟨t1, t2, t3, t4, t5⟩ := ten_parts kt
  obtain ⟨k1, k2⟩ := less_parts s1 hn.1 hm
  obtain ⟨nn, rfl⟩ := Int.eq_ofNat_of_zero_le (show 0 ≤ n by omega)
  have eL : t.2.length * nn = s.2.length := by
    rw [he, ← t2, ← Int.natCast_mul] at k2
    omega
  have eT : pickT s t nn = (s.1, pickTo s.2 nn t.2 t.2.length) := by simp [pickT]
  refine wp_enter (fn := C.ref1_Pick) rfl ?_
  dsimp only [bodyN, C.ref1_Pick, C.ref1_Pick_l0]; simp
  generalize hh : h ++ [AObj.cells 0 1 [sd, st], AObj.cells 0 1 [td, tt], AObj.cells 0 1 [AV.nil, AV.nil]] = h1
  have o1 : Old h.length h h1 := hh ▸ Old.app
  have l1 : h1.length = h.length + 3 := by rw [← hh]; simp
  have b1 : Box h1 h.length [sd, st] := by rw [← hh]; simp [Box]
  have c1 : Box h1 (h.length + 1) [td, tt] := by rw [← hh]; simp [Box]
  have r1 : Box h1 (h.length + 2) [AV.nil, AV.nil] := by rw [← hh]; simp [Box]
  refine wq_ptr b1 rfl ?_
  try simp
  refine wp_call (ref1_Fill (In.old o1 hsd) s1 (n := 0) (by omega) b (by omega)) fun v4 h4 ⟨o4, T4⟩ => ?_
  simp only at o4 T4
  rw [show (prodI s.1).toNat = s.2.length by omega] at T4
  have l4 := o4.1
  try simp
  refine wp_initT T4 (by omega) fun vD vT k h5 e5 o5 lt5 B5 => ?_
  subst e5
  have l5 := o5.1
  have kl := B5.kl
  have kle := B5.le
  have o15 := o4.trans (o5.mono l4)
  have lb1 := b1.lt
  have lc1 := c1.lt
  have lr1 := r1.lt
  have b5 := b1.old o15 (by omega)
  have c5 := c1.old o15 (by omega)
  have r5 := r1.old o15 (by omega)
  have o05 := o1.trans (o15.mono (by omega))
  try simp
  refine wp_loop (I := fun m e h' => Old k h5 h' ∧ h'.length = h5.length ∧ ∃ (i : Nat), e = (ea 2 (.int .i64 (nn : Nat)) <| ea 3 (.ptr h.length 0 0) <| ea 4 (.ptr (h.length + 1) 0 0) <| ea 6 (.ptr (h.length + 2) 0 0) <| ea 7 (.ptr h4.length 0 0) <| ea 8 (.int .i64 (i : Nat)) e0) ∧ i + m = t.2.length ∧ TB h1.length k h4.length s.1 (pickTo s.2 nn t.2 i) vD vT h') ?_ ⟨Old.refl (by omega), rfl, 0, rfl, Nat.zero_add _, B5⟩
  rintro M m e' h6 ⟨o6, l6, i, rfl, him, B6⟩ next
  have b6 := b5.old o6 (by omega)
  have c6 := c5.old o6 (by omega)
  have r6 := r5.old o6 (by omega)
  have o06 := o05.trans (o6.mono (by omega))
  have hst6 := In.old o06 hst
  have htt6 := In.old o06 htt
  dsimp only [C.ref1_Pick_b0]; simp
  refine wq_ptr c6 rfl ?_
  try simp
  refine wq_len htt6 ?_
  try simp
  refine wp_dec (fun hi => ?_) fun hi => ?_
  · have wi := succ64 (i := i) (n := 64) (by omega) (by omega)
    have q1 : i * nn + nn ≤ t.2.length * nn := by
      have := Nat.mul_le_mul_right nn (show i + 1 ≤ t.2.length from hi)
      rwa [Nat.add_mul, Nat.one_mul] at this
    have w1 : IntKind.i64.wrap ((i : Int) * (nn : Int)) = (i : Int) * (nn : Int) := by rw [← Int.natCast_mul]; exact w64_id (by omega) (by omega)
    have w2 : IntKind.i64.wrap ((i : Int) * (nn : Int) + (nn : Int)) = (i : Int) * (nn : Int) + (nn : Int) := by rw [← Int.natCast_mul]; exact w64_id (by omega) (by omega)
    try simp
    refine wq_ptr B6.box rfl ?_
    try simp
    refine wq_ptr b6 rfl ?_
    simp [w1, w2]
    refine wq_len hst6 ?_
    try simp
    refine wp_guard (by rw [← Int.natCast_mul]; omega) ?_
    try simp
    refine wp_cut (p := int) (l := s.2) (a := i * nn) (b := i * nn + nn) hst6 rfl (by omega) (by omega) (by rw [Int.natCast_mul]) (by rw [Int.natCast_add, Int.natCast_mul]) fun v7 H7 => ?_
    have e7 : (s.2.drop (i * nn)).take (i * nn + nn - i * nn) = partL s.2 nn i := by rw [partL, Nat.add_sub_cancel_left]
    rw [e7] at H7
    have l7 := partL_len (l := s.2) (n := nn) (i := i) (by omega)
    have ne7 : partL s.2 nn i ≠ [] := by
      intro e
      rw [e] at l7
      simp at l7
      omega
    have hf := firstL_lt ne7
    have hp : i * nn + firstL (partL s.2 nn i) < (pickTo s.2 nn t.2 i).length := by rw [pickTo_len]; omega
    have w3 : IntKind.i64.wrap ((i : Int) * (nn : Int) + (firstL (partL s.2 nn i) : Nat)) = (i : Int) * (nn : Int) + (firstL (partL s.2 nn i) : Nat) := by rw [← Int.natCast_mul]; exact w64_id (by omega) (by omega)
    have n1 : ((i : Int) * (nn : Int) + (firstL (partL s.2 nn i) : Nat)).toNat = i * nn + firstL (partL s.2 nn i) := by rw [← Int.natCast_mul, ← Int.natCast_add, Int.toNat_natCast]
    try simp
    rw [callK_eq (ref1_first H7 ne7 (by omega) _)]
    simp [w3]
    refine wq_ptr c6 rfl ?_
    try simp
    refine wq_idx htt6 (by rfl) (by omega) (by omega) ?_
    try simp
    refine wq_int htt6 hi ?_
    try simp
    refine wq_idx B6.in (by rfl) (by rw [← Int.natCast_mul]; omega) (by rw [← Int.natCast_mul]; omega) ?_
    simp [n1]
    refine wp_putT B6 (holds_range htt6 hi) (by omega) (by omega) hp fun h8 o8 l8 _ B8 => ?_
    simp [wi]
    have e1 : pickTo s.2 nn t.2 (i + 1) = (pickTo s.2 nn t.2 i).set (i * nn + firstL (partL s.2 nn i)) t.2[i] := by
      rw [pickTo, List.getD_eq_getElem?_getD, List.getElem?_eq_getElem hi]
      rfl
    exact next (m - 1) _ _ (by omega) ⟨o6.trans o8, by omega, i + 1, by simp, by omega, by rw [e1]; exact B8⟩
  · have ei : i = t.2.length := by omega
    subst ei
    try simp
    refine wq_ptrs B6.box (by simp) ?_
    try simp
    refine wq_put r6 (by omega) (vs := [vD, vT]) (fun _ => by rw [cellsK_agg]) (by rfl) (by simp) fun h7 l7 k7 b7 => ?_
    simp at b7
    try simp
    refine wq_ptrs b7 (by simp) ?_
    try simp
    exact wp_some ⟨o06.trans (old_put l7 k7 (by omega) (by omega)), by rw [eT]; exact (B6.told l7 k7 (by omega)).mono (by omega)⟩
end
end Go.AM

/- Rows become columns: the program's. -/
namespace Go.AM
set_option maxRecDepth 20000
set_option maxHeartbeats 1000000
attribute [local simp] layAt
attribute [local irreducible] lenK sliceK idxK fldK cutK storeK appK copyK clearK mapAtK callK loopH readK readK1 guardK grdK fnK nilK fieldK extrK strK nextK joinK iteK intK boolK cellsK castK castL castEnv binK unK intBin layParts execN runOpsN runItemsN denN call loop blockK
section
variable {R : Type} {Q : R → Prop} {h : Heap}
theorem turn_Turn {s : tensor.den} {cs : List AV} (hs : In h tensor s cs) (ks : tenOk s = true) (h2 : s.1.length = 2) (b : Nat) (hb : b ≤ h.length) :
    WP (call prog b 161 [.agg cs] h) fun r => Old h.length h r.2 ∧ ∃ v, r.1 = .tup [v, .int .i64 0] ∧ TenAt h.length r.2 (turnT s) v := by
  obtain ⟨sd, st, rfl, hsd, hst⟩ := holds_tensor hs
  obtain ⟨s1, s2, s3, s4, s5⟩ := ten_parts ks
  obtain ⟨r, c, es, r1, r8, c1, c8, ep, e64⟩ := mat_parts s1 h2
  have eN : s.2.length = r * c := by omega
  have eT : turnT s = ([(c : Int), (r : Int)], turnTo r c s.2 (r * c)) := by simp [turnT, rowsT, colsT, es]
  have hok : dimsOk [(c : Int), (r : Int)] = true := dimsOk_two (by omega) (by omega)
  have eP : (prodI [(c : Int), (r : Int)]).toNat = r * c := by
    simp only [prodI, Int.mul_one]
    rw [Int.mul_comm, ← Int.natCast_mul, Int.toNat_natCast]
  refine wp_enter (fn := C.turn_Turn) rfl ?_
  dsimp only [bodyN, C.turn_Turn, C.turn_Turn_l1]; simp
  generalize hh : h ++ [AObj.cells 0 1 [sd, st], AObj.cells 0 1 [AV.nil, AV.nil]] = h1
  have o1 : Old h.length h h1 := hh ▸ Old.app
  have l1 : h1.length = h.length + 2 := by rw [← hh]; simp
  have b1 : Box h1 h.length [sd, st] := by rw [← hh]; simp [Box]
  have r1' : Box h1 (h.length + 1) [AV.nil, AV.nil] := by rw [← hh]; simp [Box]
  refine wq_ptrs b1 (by simp) ?_
  try simp
  refine wp_call (shape_Is (In.old o1 hs) b (by omega)) fun v2 h2 ⟨o2, e2⟩ => ?_
  simp only at o2 e2
  rw [ks] at e2
  subst e2
  have l2 := o2.1
  have o02 := o1.trans (o2.mono (by omega))
  have b2 := b1.old o2 b1.lt
  have r2 := r1'.old o2 r1'.lt
  have hsd2 := In.old o02 hsd
  rw [es] at hsd2
  try simp
  refine wq_ptr b2 rfl ?_
  try simp
  refine wq_len hsd2 ?_
  try simp
  refine wq_ptr b2 rfl ?_
  try simp
  refine wq_idx hsd2 (by rfl) (by omega) (by simp) ?_
  try simp
  refine wq_int hsd2 (by simp) ?_
  try simp
  refine wq_ptr b2 rfl ?_
  try simp
  refine wq_idx hsd2 (by rfl) (by omega) (by simp) ?_
  try simp
  refine wq_int hsd2 (by simp) ?_
  try simp
  have H3 := in_ints (h := h2) (l := [(c : Int), (r : Int)]) (by simp) (by simp; omega)
  simp at H3
  have o3 : Old h2.length h2 (h2 ++ [AObj.cells 0 1 [AV.int IntKind.i64 ↑c, AV.int IntKind.i64 ↑r]]) := Old.app
  generalize h2 ++ [AObj.cells 0 1 [AV.int IntKind.i64 ↑c, AV.int IntKind.i64 ↑r]] = h3 at *
  have l3 := o3.1
  refine wp_call (shape_New H3 hok b (by omega)) fun v4 h4 ⟨o4, T4⟩ => ?_
  simp only at o4 T4
  rw [eP] at T4
  have l4 := o4.1
  try simp
  refine wp_initT T4 (by omega) fun vD vT k h5 e5 o5 lt5 B5 => ?_
  subst e5
  have l5 := o5.1
  have kl := B5.kl
  have kle := B5.le
  have o25 := o3.trans ((o4.trans (o5.mono l4)).mono l3)
  have b5 := b2.old o25 b2.lt
  have r5 := r2.old o25 r2.lt
  have o05 := o02.trans (o25.mono (by omega))
  have lr1 := r1'.lt
  have lb2 := b2.lt
  have lr2 := r2.lt
  try simp
  refine wp_loop (I := fun m e h' => Old k h5 h' ∧ h'.length = h5.length ∧ ∃ (i : Nat), e = (ea 1 (.ptr h.length 0 0) <| ea 2 (.ptr (h.length + 1) 0 0) <| ea 4 (.int .i64 (r : Nat)) <| ea 5 (.int .i64 (c : Nat)) <| ea 6 (.ptr h4.length 0 0) <| ea 32 (.int .i64 (r : Nat)) <| ea 33 (.int .i64 (i : Nat)) e0) ∧ i + m = r ∧ TB h3.length k h4.length [(c : Int), (r : Int)] (turnTo r c s.2 (i * c)) vD vT h') ?_ ⟨Old.refl (by omega), rfl, 0, rfl, Nat.zero_add _, by rw [Nat.zero_mul]; exact B5⟩
  rintro N m e' h6 ⟨o6, l6, i, rfl, him, B6⟩ next
  dsimp only [C.turn_Turn_b1, C.turn_Turn_l0]; simp
  refine wp_dec (fun hi => ?_) fun hi => ?_
  · have hi : i < r := by omega
    have wi := succ64 (i := i) (n := 64) (by omega) (by omega)
    try simp
    refine wp_loop (I := fun m e h' => Old k h5 h' ∧ h'.length = h5.length ∧ ∃ (j : Nat), e = (ea 1 (.ptr h.length 0 0) <| ea 2 (.ptr (h.length + 1) 0 0) <| ea 4 (.int .i64 (r : Nat)) <| ea 5 (.int .i64 (c : Nat)) <| ea 6 (.ptr h4.length 0 0) <| ea 7 (.int .i64 (i : Nat)) <| ea 32 (.int .i64 (r : Nat)) <| ea 33 (.int .i64 (i : Nat)) <| ea 36 (.int .i64 (c : Nat)) <| ea 37 (.int .i64 (j : Nat)) e0) ∧ j + m = c ∧ TB h3.length k h4.length [(c : Int), (r : Int)] (turnTo r c s.2 (i * c + j)) vD vT h') ?_ (m := c) ⟨o6, l6, 0, rfl, Nat.zero_add _, B6⟩
    rintro N2 m2 e2 h7 ⟨o7, l7, j, rfl, hjm, B7⟩ next2
    have b7 := b5.old o7 (by omega)
    have o07 := o05.trans (o7.mono (by omega))
    have hst7 := In.old o07 hst
    dsimp only [C.turn_Turn_b0]; simp
    refine wp_dec (fun hj => ?_) fun hj => ?_
    · have hj : j < c := by omega
      have wj := succ64 (i := j) (n := 64) (by omega) (by omega)
      have q1 := pair_lt hj hi
      have q2 := pair_lt hi hj
      rw [Nat.mul_comm c r] at q1
      have hD : j * r + i < (turnTo r c s.2 (i * c + j)).length := by rw [turnTo_len]; exact q1
      have hS : i * c + j < s.2.length := by omega
      have w1 : IntKind.i64.wrap ((j : Int) * (r : Int)) = (j : Int) * (r : Int) := by rw [← Int.natCast_mul]; exact w64_id (by omega) (by omega)
      have w2 : IntKind.i64.wrap ((j : Int) * (r : Int) + (i : Int)) = (j : Int) * (r : Int) + (i : Int) := by rw [← Int.natCast_mul]; exact w64_id (by omega) (by omega)
      have w3 : IntKind.i64.wrap ((i : Int) * (c : Int)) = (i : Int) * (c : Int) := by rw [← Int.natCast_mul]; exact w64_id (by omega) (by omega)
      have w4 : IntKind.i64.wrap ((i : Int) * (c : Int) + (j : Int)) = (i : Int) * (c : Int) + (j : Int) := by rw [← Int.natCast_mul]; exact w64_id (by omega) (by omega)
      have t1 : ((j : Int) * (r : Int) + (i : Int)).toNat = j * r + i := by rw [← Int.natCast_mul, ← Int.natCast_add, Int.toNat_natCast]
      have t2 : ((i : Int) * (c : Int) + (j : Int)).toNat = i * c + j := by rw [← Int.natCast_mul, ← Int.natCast_add, Int.toNat_natCast]
      try simp
      refine wq_ptr B7.box rfl ?_
      simp [w1, w2]
      refine wq_ptr b7 rfl ?_
      simp [w3, w4]
      refine wq_idx hst7 (by rfl) (by rw [← Int.natCast_mul]; omega) (by rw [← Int.natCast_mul]; omega) ?_
      simp [t2]
      refine wq_int hst7 hS ?_
      try simp
      refine wq_idx B7.in (by rfl) (by rw [← Int.natCast_mul]; omega) (by rw [← Int.natCast_mul]; omega) ?_
      simp [t1]
      refine wp_putT B7 (holds_range hst7 hS) (by omega) (by omega) hD fun h8 o8 l8 _ B8 => ?_
      simp [wj]
      have e1 : turnTo r c s.2 (i * c + (j + 1)) = (turnTo r c s.2 (i * c + j)).set (j * r + i) s.2[i * c + j] := by
        rw [← Nat.add_assoc, turnTo_next hj, List.getD_eq_getElem?_getD, List.getElem?_eq_getElem hS]
        rfl
      exact next2 (m2 - 1) _ _ (by omega) ⟨o7.trans o8, by omega, j + 1, by simp, by omega, by rw [e1]; exact B8⟩
    · have ej : j = c := by omega
      subst ej
      simp [wi]
      exact next (m - 1) _ _ (by omega) ⟨o7, l7, i + 1, by simp, by omega, by rw [Nat.add_mul, Nat.one_mul]; exact B7⟩
  · have ei : i = r := by omega
    subst ei
    have r6 := r5.old o6 (by omega)
    have o06 := o05.trans (o6.mono (by omega))
    try simp
    refine wq_ptrs B6.box (by simp) ?_
    try simp
    refine wq_put r6 (by omega) (vs := [vD, vT]) (fun _ => by rw [cellsK_agg]) (by rfl) (by simp) fun h7 l7 k7 b7 => ?_
    simp at b7
    try simp
    refine wq_ptrs b7 (by simp) ?_
    try simp
    exact wp_some ⟨o06.trans (old_put l7 k7 (by omega) (by omega)), _, rfl, by rw [eT]; exact (B6.told l7 k7 (by omega)).mono (by omega)⟩
end
end Go.AM

/- Matrices multiplied: the program's. -/
namespace Go.AM
set_option maxRecDepth 20000
set_option maxHeartbeats 1000000
attribute [local simp] layAt
attribute [local irreducible] lenK sliceK idxK fldK cutK storeK appK copyK clearK mapAtK callK loopH readK readK1 guardK grdK fnK nilK fieldK extrK strK nextK joinK iteK intK boolK cellsK castK castL castEnv binK unK intBin layParts execN runOpsN runItemsN denN call loop blockK
section
variable {R : Type} {Q : R → Prop} {h : Heap}
theorem mat_Mul {s t : tensor.den} {cs ct : List AV} (hs : In h tensor s cs) (ht : In h tensor t ct) (ks : tenOk s = true) (kt : tenOk t = true) (h2 : s.1.length = 2) (h2t : t.1.length = 2) (he : s.1.getD 1 0 = t.1.getD 0 0) (b : Nat) (hb : b ≤ h.length) :
    WP (call prog b 156 [.agg cs, .agg ct] h) fun r => Old h.length h r.2 ∧ ∃ v, r.1 = .tup [v, .int .i64 0] ∧ TenAt h.length r.2 (matT s t) v := by
  obtain ⟨sd, st, rfl, hsd, hst⟩ := holds_tensor hs
  obtain ⟨td, tt, rfl, htd, htt⟩ := holds_tensor ht
  obtain ⟨s1, s2, s3, s4, s5⟩ := ten_parts ks
  obtain ⟨t1, t2, t3, t4, t5⟩ := ten_parts kt
  obtain ⟨r, d, es, r1, r8, d1, d8, ep, e64⟩ := mat_parts s1 h2
  obtain ⟨d', c, et, _, _, c1, c8, ep', e64'⟩ := mat_parts t1 h2t
  obtain rfl : d = d' := by
    rw [es, et] at he
    change (d : Int) = (d' : Int) at he
    omega
  have rc64 := mul_64 r8 c8
  have eN : s.2.length = r * d := by omega
  have eM : t.2.length = d * c := by omega
  have eT : matT s t = ([(r : Int), (c : Int)], (List.range (r * c)).map fun q => dotTo s.2 t.2 d c q d) := by simp [matT, rowsT, colsT, es, et]
  have hok : dimsOk [(r : Int), (c : Int)] = true := dimsOk_two (by omega) (by omega)
  have eP : (prodI [(r : Int), (c : Int)]).toNat = r * c := by
    simp only [prodI, Int.mul_one]
    rw [← Int.natCast_mul, Int.toNat_natCast]
  refine wp_enter (fn := C.mat_Mul) rfl ?_
  dsimp only [bodyN, C.mat_Mul, C.mat_Mul_l2]; simp
  generalize hh : h ++ [AObj.cells 0 1 [sd, st], AObj.cells 0 1 [td, tt], AObj.cells 0 1 [AV.nil, AV.nil]] = h1
  have o1 : Old h.length h h1 := hh ▸ Old.app
  have l1 : h1.length = h.length + 3 := by rw [← hh]; simp
  have b1 : Box h1 h.length [sd, st] := by rw [← hh]; simp [Box]
  have c1' : Box h1 (h.length + 1) [td, tt] := by rw [← hh]; simp [Box]
  have r1' : Box h1 (h.length + 2) [AV.nil, AV.nil] := by rw [← hh]; simp [Box]
  refine wq_ptrs b1 (by simp) ?_
  try simp
  refine wq_ptrs c1' (by simp) ?_
  try simp
  have H2 := in_new (h := h1) (s := 2) (n := 2) (l := [s, t]) (p := tensor) ⟨_, _, rfl, In.old o1 hs, _, [], (List.append_nil _).symm, In.old o1 ht, rfl⟩ (by simp) (by rfl) (by simp)
  simp at H2
  have o2 : Old h1.length h1 (h1 ++ [AObj.cells 0 2 [sd, st, td, tt]]) := Old.app
  generalize h1 ++ [AObj.cells 0 2 [sd, st, td, tt]] = h2 at *
  have l2 := o2.1
  refine wp_call (shape_All H2 b (by omega)) fun v3 h3 ⟨o3, e3⟩ => ?_
  simp only at o3 e3
  simp [ks, kt] at e3
  subst e3
  have o13 := o2.trans (o3.mono l2)
  have l3 := o3.1
  have o03 := o1.trans (o13.mono (by omega))
  have b3 := b1.old o13 b1.lt
  have c3 := c1'.old o13 c1'.lt
  have r3 := r1'.old o13 r1'.lt
  have hsd3 := In.old o03 hsd
  have htd3 := In.old o03 htd
  rw [es] at hsd3
  rw [et] at htd3
  try simp
  refine wq_ptr b3 rfl ?_
  try simp
  refine wq_len hsd3 ?_
  try simp
  refine wq_ptr c3 rfl ?_
  try simp
  refine wq_len htd3 ?_
  try simp
  refine wq_ptr b3 rfl ?_
  try simp
  refine wq_idx hsd3 (by rfl) (by omega) (by simp) ?_
  try simp
  refine wq_int hsd3 (by simp) ?_
  try simp
  refine wq_ptr c3 rfl ?_
  try simp
  refine wq_idx htd3 (by rfl) (by omega) (by simp) ?_
  try simp
  refine wq_int htd3 (by simp) ?_
  try simp
  refine wq_ptr b3 rfl ?_
  try simp
  refine wq_idx hsd3 (by rfl) (by omega) (by simp) ?_
  try simp
  refine wq_int hsd3 (by simp) ?_
  try simp
  refine wq_ptr b3 rfl ?_
  try simp
  refine wq_idx hsd3 (by rfl) (by omega) (by simp) ?_
  try simp
  refine wq_int hsd3 (by simp) ?_
  try simp
  refine wq_ptr c3 rfl ?_
  try simp
  refine wq_idx htd3 (by rfl) (by omega) (by simp) ?_
  try simp
  refine wq_int htd3 (by simp) ?_
  try simp
  have H4 := in_ints (h := h3) (l := [(r : Int), (c : Int)]) (by simp) (by simp; omega)
  simp at H4
  have o4 : Old h3.length h3 (h3 ++ [AObj.cells 0 1 [AV.int IntKind.i64 ↑r, AV.int IntKind.i64 ↑c]]) := Old.app
  have l4 : (h3 ++ [AObj.cells 0 1 [AV.int IntKind.i64 ↑r, AV.int IntKind.i64 ↑c]]).length = h3.length + 1 := by simp
  generalize h3 ++ [AObj.cells 0 1 [AV.int IntKind.i64 ↑r, AV.int IntKind.i64 ↑c]] = h4 at *
  rw [callK_eq (shape_May H4 _), hok]
  try simp
  refine wp_call (shape_New H4 hok b (by omega)) fun v5 h5 ⟨o5, T5⟩ => ?_
  simp only at o5 T5
  rw [eP] at T5
  have l5 := o5.1
  try simp
  refine wp_initT T5 (by omega) fun vD vT k h6 e6 o6 lt6 B6 => ?_
  subst e6
  have l6 := o6.1
  have kl := B6.kl
  have kle := B6.le
  have o36 := o4.trans ((o5.trans (o6.mono l5)).mono o4.1)
  have b6 := b3.old o36 b3.lt
  have c6 := c3.old o36 c3.lt
  have r6 := r3.old o36 r3.lt
  have o06 := o03.trans (o36.mono (by omega))
  have lr3 := r3.lt
  have lb3 := b3.lt
  have lc3 := c3.lt
  try simp
  refine wp_loop (I := fun m e h' => Old k h6 h' ∧ h'.length = h6.length ∧ ∃ (i : Nat), e = (ea 2 (.ptr h.length 0 0) <| ea 3 (.ptr (h.length + 1) 0 0) <| ea 4 (.ptr (h.length + 2) 0 0) <| ea 7 (.int .i64 (d : Nat)) <| ea 8 (.int .i64 (c : Nat)) <| ea 10 (.ptr h5.length 0 0) <| ea 65 (.int .i64 (r : Nat)) <| ea 66 (.int .i64 (i : Nat)) e0) ∧ i + m = r ∧ TB h4.length k h5.length [(r : Int), (c : Int)] (upTo (r * c) (fun q => dotTo s.2 t.2 d c q d) (i * c)) vD vT h') ?_ ⟨Old.refl (by omega), rfl, 0, rfl, Nat.zero_add _, by rw [Nat.zero_mul, upTo_zero]; exact B6⟩
  rintro N m e' h7 ⟨o7, l7, i, rfl, him, B7⟩ next
  dsimp only [C.mat_Mul_b2, C.mat_Mul_l1]; simp
  refine wp_dec (fun hi => ?_) fun hi => ?_
  · have hi : i < r := by omega
    have wi := succ64 (i := i) (n := 64) (by omega) (by omega)
    try simp
    refine wp_loop (I := fun m e h' => Old k h6 h' ∧ h'.length = h6.length ∧ ∃ (j : Nat), e = (ea 2 (.ptr h.length 0 0) <| ea 3 (.ptr (h.length + 1) 0 0) <| ea 4 (.ptr (h.length + 2) 0 0) <| ea 7 (.int .i64 (d : Nat)) <| ea 8 (.int .i64 (c : Nat)) <| ea 10 (.ptr h5.length 0 0) <| ea 11 (.int .i64 (i : Nat)) <| ea 65 (.int .i64 (r : Nat)) <| ea 66 (.int .i64 (i : Nat)) <| ea 69 (.int .i64 (c : Nat)) <| ea 70 (.int .i64 (j : Nat)) e0) ∧ j + m = c ∧ TB h4.length k h5.length [(r : Int), (c : Int)] (upTo (r * c) (fun q => dotTo s.2 t.2 d c q d) (i * c + j)) vD vT h') ?_ (m := c) ⟨o7, l7, 0, rfl, Nat.zero_add _, B7⟩
    rintro N2 m2 e2 h8 ⟨o8, l8, j, rfl, hjm, B8⟩ next2
    dsimp only [C.mat_Mul_b1, C.mat_Mul_l0]; simp
    refine wp_dec (fun hj => ?_) fun hj => ?_
    · have hj : j < c := by omega
      have wj := succ64 (i := j) (n := 64) (by omega) (by omega)
      have q2 := pair_lt hi hj
      have B8' := B8
      rw [← upTo_set0 q2] at B8'
      try simp
      refine wp_loop (I := fun m e h' => Old k h6 h' ∧ h'.length = h6.length ∧ ∃ (p : Nat), e = (ea 2 (.ptr h.length 0 0) <| ea 3 (.ptr (h.length + 1) 0 0) <| ea 4 (.ptr (h.length + 2) 0 0) <| ea 7 (.int .i64 (d : Nat)) <| ea 8 (.int .i64 (c : Nat)) <| ea 10 (.ptr h5.length 0 0) <| ea 11 (.int .i64 (i : Nat)) <| ea 12 (.int .i64 (j : Nat)) <| ea 65 (.int .i64 (r : Nat)) <| ea 66 (.int .i64 (i : Nat)) <| ea 69 (.int .i64 (c : Nat)) <| ea 70 (.int .i64 (j : Nat)) <| ea 73 (.int .i64 (d : Nat)) <| ea 74 (.int .i64 (p : Nat)) e0) ∧ p + m = d ∧ TB h4.length k h5.length [(r : Int), (c : Int)] ((upTo (r * c) (fun q => dotTo s.2 t.2 d c q d) (i * c + j)).set (i * c + j) (dotTo s.2 t.2 d c (i * c + j) p)) vD vT h') ?_ (m := d) ⟨o8, l8, 0, rfl, Nat.zero_add _, B8'⟩
      rintro N3 m3 e3 h9 ⟨o9, l9, p, rfl, hpm, B9⟩ next3
      have b9 := b6.old o9 (by omega)
      have c9 := c6.old o9 (by omega)
      have o09 := o06.trans (o9.mono (by omega))
      have hst9 := In.old o09 hst
      have htt9 := In.old o09 htt
      dsimp only [C.mat_Mul_b0]; simp
      refine wp_dec (fun hp => ?_) fun hp => ?_
      · have hp : p < d := by omega
        have wp := succ64 (i := p) (n := 64) (by omega) (by omega)
        have q1 := pair_lt hi hp
        have q3 := pair_lt hp hj
        have hlen : ((upTo (r * c) (fun q => dotTo s.2 t.2 d c q d) (i * c + j)).set (i * c + j) (dotTo s.2 t.2 d c (i * c + j) p)).length = r * c := by rw [List.length_set, upTo_len (by omega)]
        have hS : i * d + p < s.2.length := by omega
        have hT : p * c + j < t.2.length := by omega
        have w1 : IntKind.i64.wrap ((i : Int) * (c : Int)) = (i : Int) * (c : Int) := by rw [← Int.natCast_mul]; exact w64_id (by omega) (by omega)
        have w2 : IntKind.i64.wrap ((i : Int) * (c : Int) + (j : Int)) = (i : Int) * (c : Int) + (j : Int) := by rw [← Int.natCast_mul]; exact w64_id (by omega) (by omega)
        have w3 : IntKind.i64.wrap ((i : Int) * (d : Int)) = (i : Int) * (d : Int) := by rw [← Int.natCast_mul]; exact w64_id (by omega) (by omega)
        have w4 : IntKind.i64.wrap ((i : Int) * (d : Int) + (p : Int)) = (i : Int) * (d : Int) + (p : Int) := by rw [← Int.natCast_mul]; exact w64_id (by omega) (by omega)
        have w5 : IntKind.i64.wrap ((p : Int) * (c : Int)) = (p : Int) * (c : Int) := by rw [← Int.natCast_mul]; exact w64_id (by omega) (by omega)
        have w6 : IntKind.i64.wrap ((p : Int) * (c : Int) + (j : Int)) = (p : Int) * (c : Int) + (j : Int) := by rw [← Int.natCast_mul]; exact w64_id (by omega) (by omega)
        have n1 : ((i : Int) * (c : Int) + (j : Int)).toNat = i * c + j := by rw [← Int.natCast_mul, ← Int.natCast_add, Int.toNat_natCast]
        have n2 : ((i : Int) * (d : Int) + (p : Int)).toNat = i * d + p := by rw [← Int.natCast_mul, ← Int.natCast_add, Int.toNat_natCast]
        have n3 : ((p : Int) * (c : Int) + (j : Int)).toNat = p * c + j := by rw [← Int.natCast_mul, ← Int.natCast_add, Int.toNat_natCast]
        try simp
        refine wq_ptr B9.box rfl ?_
        simp [w1, w2]
        refine wq_idx B9.in (by rfl) (by rw [← Int.natCast_mul]; omega) (by rw [hlen, ← Int.natCast_mul]; omega) ?_
        simp [n1]
        refine wq_int B9.in (by rw [hlen]; omega) ?_
        try simp
        refine wq_ptr b9 rfl ?_
        simp [w3, w4]
        refine wq_idx hst9 (by rfl) (by rw [← Int.natCast_mul]; omega) (by rw [← Int.natCast_mul]; omega) ?_
        simp [n2]
        refine wq_int hst9 hS ?_
        try simp
        refine wq_ptr c9 rfl ?_
        simp [w5, w6]
        refine wq_idx htt9 (by rfl) (by rw [← Int.natCast_mul]; omega) (by rw [← Int.natCast_mul]; omega) ?_
        simp [n3]
        refine wq_int htt9 hT ?_
        try simp
        refine wq_idx B9.in (by rfl) (by rw [← Int.natCast_mul]; omega) (by rw [hlen, ← Int.natCast_mul]; omega) ?_
        simp [n1]
        refine wp_putT B9 (wrap_range _) (by omega) (by omega) (by rw [hlen]; omega) fun h10 o10 l10 _ B10 => ?_
        simp [wp]
        have e1 : dotTo s.2 t.2 d c (i * c + j) (p + 1) = w64 (dotTo s.2 t.2 d c (i * c + j) p + w64 (s.2[i * d + p] * t.2[p * c + j])) := by
          rw [dotTo, (divmod hj).1, (divmod hj).2, List.getD_eq_getElem?_getD, List.getD_eq_getElem?_getD, List.getElem?_eq_getElem hS, List.getElem?_eq_getElem hT]
          rfl
        rw [List.set_set] at B10
        exact next3 (m3 - 1) _ _ (by omega) ⟨o9.trans o10, by omega, p + 1, by simp, by omega, by rw [e1]; exact B10⟩
      · have ep : p = d := by omega
        rw [ep, upTo_set (f := (fun q => dotTo s.2 t.2 d c q d)) q2] at B9
        simp [wj]
        exact next2 (m2 - 1) _ _ (by omega) ⟨o9, l9, j + 1, by simp, by omega, B9⟩
    · have ej : j = c := by omega
      subst ej
      simp [wi]
      exact next (m - 1) _ _ (by omega) ⟨o8, l8, i + 1, by simp, by omega, by rw [Nat.add_mul, Nat.one_mul]; exact B8⟩
  · have ei : i = r := by omega
    subst ei
    have r7 := r6.old o7 (by omega)
    have o07 := o06.trans (o7.mono (by omega))
    rw [upTo_full] at B7
    try simp
    refine wq_ptrs B7.box (by simp) ?_
    try simp
    refine wq_put r7 (by omega) (vs := [vD, vT]) (fun _ => by rw [cellsK_agg]) (by rfl) (by simp) fun h8 l8 k8 b8 => ?_
    simp at b8
    try simp
    refine wq_ptrs b8 (by simp) ?_
    try simp
    exact wp_some ⟨o07.trans (old_put l8 k8 (by omega) (by omega)), _, rfl, by rw [eT]; exact (B7.told l8 k8 (by omega)).mono (by omega)⟩
end
end Go.AM

/- The greatest of so many; laid where it stands: the program's. -/
namespace Go.AM
set_option maxRecDepth 20000
set_option maxHeartbeats 1000000
attribute [local simp] layAt
attribute [local irreducible] lenK sliceK idxK fldK cutK storeK appK copyK clearK mapAtK callK loopH readK readK1 guardK grdK fnK nilK fieldK extrK strK nextK joinK iteK intK boolK cellsK castK castL castEnv binK unK intBin layParts execN runOpsN runItemsN denN call loop blockK
section
variable {R : Type} {Q : R → Prop} {h : Heap}
theorem gate_Max {s : tensor.den} {cs : List AV} (hs : In h tensor s cs) (ks : tenOk s = true) {n : Int} (hn : 1 ≤ n ∧ n ≤ 8) (hm : (lastD s.1).tmod n = 0) (b : Nat) (hb : b ≤ h.length) :
    WP (call prog b 166 [.agg cs, .int .i64 n] h) fun r => Old h.length h r.2 ∧ ∃ v, r.1 = .tup [v, .int .i64 0] ∧ TenAt h.length r.2 (maxT s n) v := by
  obtain ⟨sd, st, rfl, hsd, hst⟩ := holds_tensor hs
  obtain ⟨s1, s2, s3, s4, s5⟩ := ten_parts ks
  obtain ⟨k1, k2⟩ := less_parts s1 hn.1 hm
  obtain ⟨p1, p2, p3⟩ := dimsOk_prod k1
  obtain ⟨nn, rfl⟩ := Int.eq_ofNat_of_zero_le (show 0 ≤ n by omega)
  obtain ⟨N, eN⟩ := Int.eq_ofNat_of_zero_le (show 0 ≤ prodI (lessD s.1 nn) by omega)
  have eT : maxT s nn = (lessD s.1 nn, (List.range N).map fun i => maxL (partL s.2 nn i)) := by simp [maxT, eN]
  have eL : N * nn = s.2.length := by
    rw [eN, ← Int.natCast_mul] at k2
    omega
  rw [eN] at p2 p3
  refine wp_enter (fn := C.gate_Max) rfl ?_
  dsimp only [bodyN, C.gate_Max, C.gate_Max_l0]; simp
  generalize hh : h ++ [AObj.cells 0 1 [sd, st], AObj.cells 0 1 [AV.nil, AV.nil]] = h1
  have o1 : Old h.length h h1 := hh ▸ Old.app
  have l1 : h1.length = h.length + 2 := by rw [← hh]; simp
  have b1 : Box h1 h.length [sd, st] := by rw [← hh]; simp [Box]
  have r1 : Box h1 (h.length + 1) [AV.nil, AV.nil] := by rw [← hh]; simp [Box]
  refine wq_ptrs b1 (by simp) ?_
  try simp
  refine wp_call (gate_asked (In.old o1 hs) ks hn hm b (by omega)) fun v2 h2 ⟨o2, v2', e2, a2⟩ => ?_
  simp only at o2 e2 a2
  subst e2
  have l2 := o2.1
  have o02 := o1.trans (o2.mono (by omega))
  have b2 := b1.old o2 b1.lt
  have r2 := r1.old o2 r1.lt
  try simp
  refine wp_call (shape_New (a2.in (Nat.le_refl _)) k1 b (by omega)) fun v4 h4 ⟨o4, T4⟩ => ?_
  simp only at o4 T4
  rw [eN, Int.toNat_natCast] at T4
  have l4 := o4.1
  try simp
  refine wp_initT T4 (by omega) fun vD vT k h5 e5 o5 lt5 B5 => ?_
  subst e5
  have l5 := o5.1
  have kl := B5.kl
  have kle := B5.le
  have o25 := o4.trans (o5.mono l4)
  have b5 := b2.old o25 b2.lt
  have r5 := r2.old o25 r2.lt
  have o05 := o02.trans (o25.mono (by omega))
  have lr1 := r1.lt
  have lb2 := b2.lt
  have lr2 := r2.lt
  try simp
  refine wq_ptr B5.box rfl ?_
  try simp
  refine wq_len B5.in ?_
  try simp
  refine wp_loop (I := fun m e h' => Old k h5 h' ∧ h'.length = h5.length ∧ ∃ (i : Nat), e = (ea 1 (.int .i64 (nn : Nat)) <| ea 2 (.ptr h.length 0 0) <| ea 4 (.ptr (h.length + 1) 0 0) <| ea 8 (.ptr h4.length 0 0) <| ea 24 (.int .i64 (N : Nat)) <| ea 25 (.int .i64 (i : Nat)) e0) ∧ i + m = N ∧ TB h2.length k h4.length (lessD s.1 nn) (upTo N (fun i => maxL (partL s.2 nn i)) i) vD vT h') ?_ ⟨Old.refl (by omega), rfl, 0, rfl, Nat.zero_add _, by rw [upTo_zero]; exact B5⟩
  rintro M m e' h6 ⟨o6, l6, i, rfl, him, B6⟩ next
  have b6 := b5.old o6 (by omega)
  have r6 := r5.old o6 (by omega)
  have o06 := o05.trans (o6.mono (by omega))
  have hst6 := In.old o06 hst
  dsimp only [C.gate_Max_b0]; simp
  refine wp_dec (fun hi => ?_) fun hi => ?_
  · have hi : i < N := by omega
    have wi := succ64 (i := i) (n := 64) (by omega) (by omega)
    have q1 : i * nn + nn ≤ N * nn := by
      have := Nat.mul_le_mul_right nn (show i + 1 ≤ N from hi)
      rwa [Nat.add_mul, Nat.one_mul] at this
    have w1 : IntKind.i64.wrap ((i : Int) * (nn : Int)) = (i : Int) * (nn : Int) := by rw [← Int.natCast_mul]; exact w64_id (by omega) (by omega)
    have w2 : IntKind.i64.wrap ((i : Int) * (nn : Int) + (nn : Int)) = (i : Int) * (nn : Int) + (nn : Int) := by rw [← Int.natCast_mul]; exact w64_id (by omega) (by omega)
    try simp
    refine wq_ptr B6.box rfl ?_
    try simp
    refine wq_ptr b6 rfl ?_
    simp [w1, w2]
    refine wq_len hst6 ?_
    try simp
    refine wp_guard (by rw [← Int.natCast_mul]; omega) ?_
    try simp
    refine wp_cut (p := int) (l := s.2) (a := i * nn) (b := i * nn + nn) hst6 rfl (by omega) (by omega) (by rw [Int.natCast_mul]) (by rw [Int.natCast_add, Int.natCast_mul]) fun v7 H7 => ?_
    have e7 : (s.2.drop (i * nn)).take (i * nn + nn - i * nn) = partL s.2 nn i := by rw [partL, Nat.add_sub_cancel_left]
    rw [e7] at H7
    have ne7 : partL s.2 nn i ≠ [] := by
      intro e
      have := partL_len (l := s.2) (n := nn) (i := i) (by omega)
      rw [e] at this
      simp at this
      omega
    have hx := maxL_facts ne7
    have hr : -9223372036854775808 ≤ maxL (partL s.2 nn i) ∧ maxL (partL s.2 nn i) ≤ 9223372036854775807 := by
      obtain ⟨q, hq, e⟩ := List.mem_iff_getElem.1 hx.1
      rw [← e]
      exact holds_range H7 hq
    try simp
    rw [callK_eq (slices_Max_int H7 ne7 _)]
    try simp
    have hlen : (upTo N (fun i => maxL (partL s.2 nn i)) i).length = N := upTo_len (by omega)
    refine wq_idx B6.in (by rfl) (by omega) (by omega) ?_
    try simp
    refine wp_putT B6 hr (by omega) (by omega) (by omega) fun h8 o8 l8 _ B8 => ?_
    simp [wi]
    rw [upTo_set (f := fun i => maxL (partL s.2 nn i)) hi] at B8
    exact next (m - 1) _ _ (by omega) ⟨o6.trans o8, by omega, i + 1, by simp, by omega, B8⟩
  · have ei : i = N := by omega
    subst ei
    rw [upTo_full] at B6
    try simp
    refine wq_ptrs B6.box (by simp) ?_
    try simp
    refine wq_put r6 (by omega) (vs := [vD, vT]) (fun _ => by rw [cellsK_agg]) (by rfl) (by simp) fun h7 l7 k7 b7 => ?_
    simp at b7
    try simp
    refine wq_ptrs b7 (by simp) ?_
    try simp
    exact wp_some ⟨o06.trans (old_put l7 k7 (by omega) (by omega)), _, rfl, by rw [eT]; exact (B6.told l7 k7 (by omega)).mono (by omega)⟩
theorem gate_Pick {s t : tensor.den} {cs ct : List AV} (hs : In h tensor s cs) (ht : In h tensor t ct) (ks : tenOk s = true) (kt : tenOk t = true) {n : Int} (hn : 1 ≤ n ∧ n ≤ 8) (hm : (lastD s.1).tmod n = 0) (he : lessD s.1 n = t.1) (b : Nat) (hb : b ≤ h.length) :
    WP (call prog b 158 [.agg cs, .agg ct, .int .i64 n] h) fun r => Old h.length h r.2 ∧ ∃ v, r.1 = .tup [v, .int .i64 0] ∧ TenAt h.length r.2 (pickT s t n) v := by
  obtain ⟨sd, st, rfl, hsd, hst⟩ := holds_tensor hs
  obtain ⟨td, tt, rfl, htd, htt⟩ := holds_tensor ht
  obtain ⟨s1, s2, s3, s4, s5⟩ := ten_parts ks
  obtain ⟨t1, t2, t3, t4, t5⟩ := ten_parts kt
  obtain ⟨k1, k2⟩ := less_parts s1 hn.1 hm
  obtain ⟨nn, rfl⟩ := Int.eq_ofNat_of_zero_le (show 0 ≤ n by omega)
  have eL : t.2.length * nn = s.2.length := by
    rw [he, ← t2, ← Int.natCast_mul] at k2
    omega
  have eT : pickT s t nn = (s.1, pickTo s.2 nn t.2 t.2.length) := by simp [pickT]
  refine wp_enter (fn := C.gate_Pick) rfl ?_
  dsimp only [bodyN, C.gate_Pick, C.gate_Pick_l0]; simp
  generalize hh : h ++ [AObj.cells 0 1 [sd, st], AObj.cells 0 1 [td, tt], AObj.cells 0 1 [AV.nil, AV.nil]] = h1
  have o1 : Old h.length h h1 := hh ▸ Old.app
  have l1 : h1.length = h.length + 3 := by rw [← hh]; simp
  have b1 : Box h1 h.length [sd, st] := by rw [← hh]; simp [Box]
  have c1 : Box h1 (h.length + 1) [td, tt] := by rw [← hh]; simp [Box]
  have r1 : Box h1 (h.length + 2) [AV.nil, AV.nil] := by rw [← hh]; simp [Box]
  refine wq_ptrs c1 (by simp) ?_
  try simp
  refine wp_call (shape_Is (In.old o1 ht) b (by omega)) fun v2 h2 ⟨o2, e2⟩ => ?_
  simp only at o2 e2
  rw [kt] at e2
  subst e2
  have l2 := o2.1
  have o02 := o1.trans (o2.mono (by omega))
  have b2 := b1.old o2 b1.lt
  have c2 := c1.old o2 c1.lt
  have r2 := r1.old o2 r1.lt
  have lr2 := r2.lt
  have lb2 := b2.lt
  have lc2 := c2.lt
  try simp
  refine wq_ptrs b2 (by simp) ?_
  try simp
  refine wp_call (gate_asked (In.old o02 hs) ks hn hm b (by omega)) fun v3 h3 ⟨o3, v3', e3, a3⟩ => ?_
  simp only at o3 e3 a3
  subst e3
  have l3 := o3.1
  have o03 := o02.trans (o3.mono (by omega))
  have b3 := b2.old o3 b2.lt
  have c3 := c2.old o3 c2.lt
  have r3 := r2.old o3 r2.lt
  try simp
  refine wq_ptr c3 rfl ?_
  try simp
  rw [callK_eq (slices_Equal_int (a3.in (Nat.le_refl _)) (In.old o03 htd) _)]
  simp [he]
  refine wq_ptr b3 rfl ?_
  try simp
  refine wp_call (shape_New (In.old o03 hsd) s1 b (by omega)) fun v4 h4 ⟨o4, T4⟩ => ?_
  simp only at o4 T4
  rw [show (prodI s.1).toNat = s.2.length by omega] at T4
  have l4 := o4.1
  try simp
  refine wp_initT T4 (by omega) fun vD vT k h5 e5 o5 lt5 B5 => ?_
  subst e5
  have l5 := o5.1
  have kl := B5.kl
  have kle := B5.le
  have o35 := o4.trans (o5.mono l4)
  have b5 := b3.old o35 (by omega)
  have c5 := c3.old o35 (by omega)
  have r5 := r3.old o35 (by omega)
  have o05 := o03.trans (o35.mono (by omega))
  have htt5 := In.old o05 htt
  try simp
  refine wq_ptr c5 rfl ?_
  try simp
  refine wq_len htt5 ?_
  try simp
  refine wp_loop (I := fun m e h' => Old k h5 h' ∧ h'.length = h5.length ∧ ∃ (i : Nat), e = (ea 2 (.int .i64 (nn : Nat)) <| ea 3 (.ptr h.length 0 0) <| ea 6 (.ptr (h.length + 2) 0 0) <| ea 10 (.ptr h4.length 0 0) <| ea 39 tt <| ea 40 (.int .i64 t.2.length) <| ea 41 (.int .i64 (i : Nat)) e0) ∧ i + m = t.2.length ∧ TB h3.length k h4.length s.1 (pickTo s.2 nn t.2 i) vD vT h') ?_ ⟨Old.refl (by omega), rfl, 0, rfl, Nat.zero_add _, B5⟩
  rintro M m e' h6 ⟨o6, l6, i, rfl, him, B6⟩ next
  have b6 := b5.old o6 (by omega)
  have r6 := r5.old o6 (by omega)
  have o06 := o05.trans (o6.mono (by omega))
  have hst6 := In.old o06 hst
  have htt6 := In.old o06 htt
  dsimp only [C.gate_Pick_b0]; simp
  refine wp_dec (fun hi => ?_) fun hi => ?_
  · have hi : i < t.2.length := by omega
    have wi := succ64 (i := i) (n := 64) (by omega) (by omega)
    have q1 : i * nn + nn ≤ t.2.length * nn := by
      have := Nat.mul_le_mul_right nn (show i + 1 ≤ t.2.length from hi)
      rwa [Nat.add_mul, Nat.one_mul] at this
    have w1 : IntKind.i64.wrap ((i : Int) * (nn : Int)) = (i : Int) * (nn : Int) := by rw [← Int.natCast_mul]; exact w64_id (by omega) (by omega)
    have w2 : IntKind.i64.wrap ((i : Int) * (nn : Int) + (nn : Int)) = (i : Int) * (nn : Int) + (nn : Int) := by rw [← Int.natCast_mul]; exact w64_id (by omega) (by omega)
    try simp
    refine wq_idx htt6 (by rfl) (by omega) (by omega) ?_
    try simp
    refine wq_int htt6 hi ?_
    try simp
    refine wq_ptr B6.box rfl ?_
    try simp
    refine wq_ptr b6 rfl ?_
    simp [w1, w2]
    refine wq_len hst6 ?_
    try simp
    refine wp_guard (by rw [← Int.natCast_mul]; omega) ?_
    try simp
    refine wp_cut (p := int) (l := s.2) (a := i * nn) (b := i * nn + nn) hst6 rfl (by omega) (by omega) (by rw [Int.natCast_mul]) (by rw [Int.natCast_add, Int.natCast_mul]) fun v7 H7 => ?_
    have e7 : (s.2.drop (i * nn)).take (i * nn + nn - i * nn) = partL s.2 nn i := by rw [partL, Nat.add_sub_cancel_left]
    rw [e7] at H7
    have l7 := partL_len (l := s.2) (n := nn) (i := i) (by omega)
    have ne7 : partL s.2 nn i ≠ [] := by
      intro e
      rw [e] at l7
      simp at l7
      omega
    have hf := firstL_lt ne7
    have hp : i * nn + firstL (partL s.2 nn i) < (pickTo s.2 nn t.2 i).length := by rw [pickTo_len]; omega
    have w3 : IntKind.i64.wrap ((i : Int) * (nn : Int) + (firstL (partL s.2 nn i) : Nat)) = (i : Int) * (nn : Int) + (firstL (partL s.2 nn i) : Nat) := by rw [← Int.natCast_mul]; exact w64_id (by omega) (by omega)
    have n1 : ((i : Int) * (nn : Int) + (firstL (partL s.2 nn i) : Nat)).toNat = i * nn + firstL (partL s.2 nn i) := by rw [← Int.natCast_mul, ← Int.natCast_add, Int.toNat_natCast]
    try simp
    rw [callK_eq (gate_greatest H7 ne7 _)]
    simp [w3]
    refine wq_idx B6.in (by rfl) (by rw [← Int.natCast_mul]; omega) (by rw [← Int.natCast_mul]; omega) ?_
    simp [n1]
    refine wp_putT B6 (holds_range htt6 hi) (by omega) (by omega) hp fun h8 o8 l8 _ B8 => ?_
    simp [wi]
    have e1 : pickTo s.2 nn t.2 (i + 1) = (pickTo s.2 nn t.2 i).set (i * nn + firstL (partL s.2 nn i)) t.2[i] := by
      rw [pickTo, List.getD_eq_getElem?_getD, List.getElem?_eq_getElem hi]
      rfl
    exact next (m - 1) _ _ (by omega) ⟨o6.trans o8, by omega, i + 1, by simp, by omega, by rw [e1]; exact B8⟩
  · have ei : i = t.2.length := by omega
    subst ei
    try simp
    refine wq_ptrs B6.box (by simp) ?_
    try simp
    refine wq_put r6 (by omega) (vs := [vD, vT]) (fun _ => by rw [cellsK_agg]) (by rfl) (by simp) fun h7 l7 k7 b7 => ?_
    simp at b7
    try simp
    refine wq_ptrs b7 (by simp) ?_
    try simp
    exact wp_some ⟨o06.trans (old_put l7 k7 (by omega) (by omega)), _, rfl, by rw [eT]; exact (B6.told l7 k7 (by omega)).mono (by omega)⟩
end
end Go.AM

/- A node's value, of two, of one: the program's. -/
namespace Go.AM
set_option maxRecDepth 20000
set_option maxHeartbeats 1000000
attribute [local simp] layAt
attribute [local irreducible] lenK sliceK idxK fldK cutK storeK appK copyK clearK mapAtK callK loopH readK readK1 guardK grdK fnK nilK fieldK extrK strK nextK joinK iteK intK boolK cellsK castK castL castEnv binK unK intBin layParts execN runOpsN runItemsN denN call loop blockK
section
variable {R : Type} {Q : R → Prop} {h : Heap}
theorem TenAt.agg {n0 : Nat} {t : tensor.den} {v : AV} (H : TenAt n0 h t v) : ∃ vd vt, v = .agg [vd, vt] := by
  obtain ⟨vd, vt, k, e, _⟩ := H
  exact ⟨vd, vt, e⟩
theorem TenAt.but {h' : Heap} {n0 r : Nat} {t : tensor.den} {v : AV} (H : TenAt n0 h t v) (hl : h'.length = h.length) (hk : ∀ j, j ≠ r → h'[j]? = h[j]?) (hr : r < n0) : TenAt n0 h' t v := by
  obtain ⟨vd, vt, k, e, a1, a2, a3, a4, a5⟩ := H
  exact ⟨vd, vt, k, e, a1.but hl hk (by omega) (by omega), a2, a3, by omega, a5.but hl hk (by omega) (by omega)⟩
theorem good_two {k n : Int} {d : List Int} {s t : tensor.den} {x : List Int} (G : Good k n d [s, t] x) : k = 4 ∨ k = 5 ∨ k = 6 ∨ k = 9 ∨ k = 16 ∨ k = 17 := by
  have h1 := formOk_many G.form
  have h2 := formOk_kind G.form
  simp [many] at h1
  split at h1
  · cases h1
  · split at h1
    · omega
    · cases h1
theorem good_one {k n : Int} {d : List Int} {s : tensor.den} {x : List Int} (G : Good k n d [s] x) : k = 7 ∨ k = 8 ∨ k = 10 ∨ k = 11 ∨ k = 12 ∨ k = 13 ∨ k = 14 ∨ k = 15 := by
  have h1 := formOk_many G.form
  have h2 := formOk_kind G.form
  simp [many] at h1
  split at h1
  · cases h1
  · split at h1
    · cases h1
    · omega
theorem good_num {k n : Int} {d : List Int} {ls : List tensor.den} {x : List Int} (G : Good k n d ls x) (hk : k = 15 ∨ k = 17) : 1 ≤ n ∧ n ≤ 8 := by
  have h1 := G.form
  simp only [formOk, Bool.and_eq_true, decide_eq_true_eq] at h1
  have h2 := h1.1.2
  rcases hk with rfl | rfl <;> simpa [numberOk] using h2
theorem good_d {k n : Int} {d : List Int} {ls : List tensor.den} {x : List Int} (G : Good k n d ls x) (hk : asked k = true) : dimsOk d = true := by
  have h1 := G.form
  simp only [formOk, Bool.and_eq_true, decide_eq_true_eq] at h1
  simpa [hk] using h1.2
theorem kernel_double {k n : Int} {d : List Int} {s t : tensor.den} {cs ct : List AV} {x : List Int} (hs : In h tensor s cs) (ht : In h tensor t ct) (G : Good k n d [s, t] x) (b : Nat) (hb : b ≤ h.length) :
    WP (call prog b 137 [.int .i64 k, .int .i64 n, .agg cs, .agg ct] h) fun r => Old h.length h r.2 ∧ ∃ v, r.1 = .tup [v, .int .i64 0] ∧ TenAt h.length r.2 (doT k n d [s, t]) v := by
  obtain ⟨sd, st, rfl, hsd, hst⟩ := holds_tensor hs
  obtain ⟨td, tt, rfl, htd, htt⟩ := holds_tensor ht
  have ks := G.ok s (by simp)
  have kt := G.ok t (by simp)
  have hi := G.dims
  simp only [inferD] at hi
  refine wp_enter (fn := C.kernel_double) rfl ?_
  dsimp only [bodyN, C.kernel_double]
  generalize hh : h ++ [AObj.cells 0 1 [sd, st], AObj.cells 0 1 [td, tt], AObj.cells 0 1 [AV.nil, AV.nil]] = h1
  have o1 : Old h.length h h1 := hh ▸ Old.app
  have l1 : h1.length = h.length + 3 := by rw [← hh]; simp
  have b1 : Box h1 h.length [sd, st] := by rw [← hh]; simp [Box]
  have c1 : Box h1 (h.length + 1) [td, tt] := by rw [← hh]; simp [Box]
  have r1 : Box h1 (h.length + 2) [AV.nil, AV.nil] := by rw [← hh]; simp [Box]
  have hs1 := In.old o1 hs
  have ht1 := In.old o1 ht
  rcases good_two G with rfl | rfl | rfl | rfl | rfl | rfl
  all_goals simp at hi
  all_goals simp [hh]
  · refine wq_ptrs b1 (by simp) ?_; (try simp); refine wq_ptrs c1 (by simp) ?_; (try simp)
    refine wp_call (ring_Add hs1 ht1 ks kt hi.1 b (by omega)) fun v2 h2 ⟨o2, v3, e2, T2⟩ => ?_
    simp only at o2 e2 T2; subst e2; obtain ⟨vd', vt', rfl⟩ := T2.agg; have l2 := o2.1; have r2 := r1.old o2 r1.lt; have r1lt := r1.lt; (try simp); refine wq_put r2 (by omega) (vs := [vd', vt']) (fun _ => by rw [cellsK_agg]) (by rfl) (by simp) fun h6 l6 k6 b6 => ?_; simp at b6; (try simp); refine wq_ptrs b6 (by simp) ?_; (try simp); exact wp_some ⟨(o1.trans (o2.mono (by omega))).trans (old_put l6 k6 (by omega) (by omega)), _, rfl, (T2.but l6 k6 (by omega)).mono (by omega)⟩
  · refine wq_ptrs b1 (by simp) ?_; (try simp); refine wq_ptrs c1 (by simp) ?_; (try simp)
    refine wp_call (ring_Sub hs1 ht1 ks kt hi.1 b (by omega)) fun v2 h2 ⟨o2, v3, e2, T2⟩ => ?_
    simp only at o2 e2 T2; subst e2; obtain ⟨vd', vt', rfl⟩ := T2.agg; have l2 := o2.1; have r2 := r1.old o2 r1.lt; have r1lt := r1.lt; (try simp); refine wq_put r2 (by omega) (vs := [vd', vt']) (fun _ => by rw [cellsK_agg]) (by rfl) (by simp) fun h6 l6 k6 b6 => ?_; simp at b6; (try simp); refine wq_ptrs b6 (by simp) ?_; (try simp); exact wp_some ⟨(o1.trans (o2.mono (by omega))).trans (old_put l6 k6 (by omega) (by omega)), _, rfl, (T2.but l6 k6 (by omega)).mono (by omega)⟩
  · refine wq_ptrs b1 (by simp) ?_; (try simp); refine wq_ptrs c1 (by simp) ?_; (try simp)
    refine wp_call (ring_Mul hs1 ht1 ks kt hi.1 b (by omega)) fun v2 h2 ⟨o2, v3, e2, T2⟩ => ?_
    simp only at o2 e2 T2; subst e2; obtain ⟨vd', vt', rfl⟩ := T2.agg; have l2 := o2.1; have r2 := r1.old o2 r1.lt; have r1lt := r1.lt; (try simp); refine wq_put r2 (by omega) (vs := [vd', vt']) (fun _ => by rw [cellsK_agg]) (by rfl) (by simp) fun h6 l6 k6 b6 => ?_; simp at b6; (try simp); refine wq_ptrs b6 (by simp) ?_; (try simp); exact wp_some ⟨(o1.trans (o2.mono (by omega))).trans (old_put l6 k6 (by omega) (by omega)), _, rfl, (T2.but l6 k6 (by omega)).mono (by omega)⟩
  · refine wq_ptrs b1 (by simp) ?_; (try simp); refine wq_ptrs c1 (by simp) ?_; (try simp)
    refine wp_call (mat_Mul hs1 ht1 ks kt hi.1.1 hi.1.2.1 hi.1.2.2 b (by omega)) fun v2 h2 ⟨o2, v3, e2, T2⟩ => ?_
    simp only at o2 e2 T2; subst e2; obtain ⟨vd', vt', rfl⟩ := T2.agg; have l2 := o2.1; have r2 := r1.old o2 r1.lt; have r1lt := r1.lt; (try simp); refine wq_put r2 (by omega) (vs := [vd', vt']) (fun _ => by rw [cellsK_agg]) (by rfl) (by simp) fun h6 l6 k6 b6 => ?_; simp at b6; (try simp); refine wq_ptrs b6 (by simp) ?_; (try simp); exact wp_some ⟨(o1.trans (o2.mono (by omega))).trans (old_put l6 k6 (by omega) (by omega)), _, rfl, (T2.but l6 k6 (by omega)).mono (by omega)⟩
  · refine wq_ptrs b1 (by simp) ?_; (try simp); refine wq_ptrs c1 (by simp) ?_; (try simp)
    refine wp_call (gate_Step hs1 ht1 ks kt hi.1 b (by omega)) fun v2 h2 ⟨o2, v3, e2, T2⟩ => ?_
    simp only at o2 e2 T2; subst e2; obtain ⟨vd', vt', rfl⟩ := T2.agg; have l2 := o2.1; have r2 := r1.old o2 r1.lt; have r1lt := r1.lt; (try simp); refine wq_put r2 (by omega) (vs := [vd', vt']) (fun _ => by rw [cellsK_agg]) (by rfl) (by simp) fun h6 l6 k6 b6 => ?_; simp at b6; (try simp); refine wq_ptrs b6 (by simp) ?_; (try simp); exact wp_some ⟨(o1.trans (o2.mono (by omega))).trans (old_put l6 k6 (by omega) (by omega)), _, rfl, (T2.but l6 k6 (by omega)).mono (by omega)⟩
  · refine wq_ptrs b1 (by simp) ?_; (try simp); refine wq_ptrs c1 (by simp) ?_; (try simp)
    refine wp_call (gate_Pick hs1 ht1 ks kt (good_num G (.inr rfl)) hi.1.1 hi.1.2 b (by omega)) fun v2 h2 ⟨o2, v3, e2, T2⟩ => ?_
    simp only at o2 e2 T2; subst e2; obtain ⟨vd', vt', rfl⟩ := T2.agg; have l2 := o2.1; have r2 := r1.old o2 r1.lt; have r1lt := r1.lt; (try simp); refine wq_put r2 (by omega) (vs := [vd', vt']) (fun _ => by rw [cellsK_agg]) (by rfl) (by simp) fun h6 l6 k6 b6 => ?_; simp at b6; (try simp); refine wq_ptrs b6 (by simp) ?_; (try simp); exact wp_some ⟨(o1.trans (o2.mono (by omega))).trans (old_put l6 k6 (by omega) (by omega)), _, rfl, (T2.but l6 k6 (by omega)).mono (by omega)⟩
theorem kernel_single {k n : Int} {d : List Int} {vd : AV} {s : tensor.den} {cs : List AV} {x : List Int} (hd : In h ints d [vd]) (hs : In h tensor s cs) (G : Good k n d [s] x) (b : Nat) (hb : b ≤ h.length) :
    WP (call prog b 138 [.int .i64 k, .int .i64 n, vd, .agg cs] h) fun r => Old h.length h r.2 ∧ ∃ v, r.1 = .tup [v, .int .i64 0] ∧ TenAt h.length r.2 (doT k n d [s]) v := by
  obtain ⟨sd, st, rfl, hsd, hst⟩ := holds_tensor hs
  have ks := G.ok s (by simp)
  have hi := G.dims
  simp only [inferD] at hi
  refine wp_enter (fn := C.kernel_single) rfl ?_
  dsimp only [bodyN, C.kernel_single]
  generalize hh : h ++ [AObj.cells 0 1 [sd, st], AObj.cells 0 1 [AV.nil, AV.nil]] = h1
  have o1 : Old h.length h h1 := hh ▸ Old.app
  have l1 : h1.length = h.length + 2 := by rw [← hh]; simp
  have b1 : Box h1 h.length [sd, st] := by rw [← hh]; simp [Box]
  have r1 : Box h1 (h.length + 1) [AV.nil, AV.nil] := by rw [← hh]; simp [Box]
  have hs1 := In.old o1 hs
  have hd1 := In.old o1 hd
  rcases good_one G with rfl | rfl | rfl | rfl | rfl | rfl | rfl | rfl
  all_goals simp at hi
  all_goals simp [hh]
  · refine wq_ptrs b1 (by simp) ?_; (try simp)
    refine wp_call (ring_Neg hs1 ks b (by omega)) fun v2 h2 ⟨o2, v3, e2, T2⟩ => ?_
    simp only at o2 e2 T2; subst e2; obtain ⟨vd', vt', rfl⟩ := T2.agg; have l2 := o2.1; have r2 := r1.old o2 r1.lt; have r1lt := r1.lt; (try simp); refine wq_put r2 (by omega) (vs := [vd', vt']) (fun _ => by rw [cellsK_agg]) (by rfl) (by simp) fun h6 l6 k6 b6 => ?_; simp at b6; (try simp); refine wq_ptrs b6 (by simp) ?_; (try simp); exact wp_some ⟨(o1.trans (o2.mono (by omega))).trans (old_put l6 k6 (by omega) (by omega)), _, rfl, (T2.but l6 k6 (by omega)).mono (by omega)⟩
  · refine wq_ptrs b1 (by simp) ?_; (try simp)
    refine wp_call (ring_Scale hs1 ks b (by omega)) fun v2 h2 ⟨o2, v3, e2, T2⟩ => ?_
    simp only at o2 e2 T2; subst e2; obtain ⟨vd', vt', rfl⟩ := T2.agg; have l2 := o2.1; have r2 := r1.old o2 r1.lt; have r1lt := r1.lt; (try simp); refine wq_put r2 (by omega) (vs := [vd', vt']) (fun _ => by rw [cellsK_agg]) (by rfl) (by simp) fun h6 l6 k6 b6 => ?_; simp at b6; (try simp); refine wq_ptrs b6 (by simp) ?_; (try simp); exact wp_some ⟨(o1.trans (o2.mono (by omega))).trans (old_put l6 k6 (by omega) (by omega)), _, rfl, (T2.but l6 k6 (by omega)).mono (by omega)⟩
  · refine wq_ptrs b1 (by simp) ?_; (try simp)
    refine wp_call (turn_Turn hs1 ks hi.1 b (by omega)) fun v2 h2 ⟨o2, v3, e2, T2⟩ => ?_
    simp only at o2 e2 T2; subst e2; obtain ⟨vd', vt', rfl⟩ := T2.agg; have l2 := o2.1; have r2 := r1.old o2 r1.lt; have r1lt := r1.lt; (try simp); refine wq_put r2 (by omega) (vs := [vd', vt']) (fun _ => by rw [cellsK_agg]) (by rfl) (by simp) fun h6 l6 k6 b6 => ?_; simp at b6; (try simp); refine wq_ptrs b6 (by simp) ?_; (try simp); exact wp_some ⟨(o1.trans (o2.mono (by omega))).trans (old_put l6 k6 (by omega) (by omega)), _, rfl, (T2.but l6 k6 (by omega)).mono (by omega)⟩
  · refine wq_ptrs b1 (by simp) ?_; (try simp)
    refine wp_call (turn_Shape hs1 hd1 ks (good_d G rfl) hi.1 b (by omega)) fun v2 h2 ⟨o2, v3, e2, T2⟩ => ?_
    simp only at o2 e2 T2; subst e2; obtain ⟨vd', vt', rfl⟩ := T2.agg; have l2 := o2.1; have r2 := r1.old o2 r1.lt; have r1lt := r1.lt; (try simp); refine wq_put r2 (by omega) (vs := [vd', vt']) (fun _ => by rw [cellsK_agg]) (by rfl) (by simp) fun h6 l6 k6 b6 => ?_; simp at b6; (try simp); refine wq_ptrs b6 (by simp) ?_; (try simp); exact wp_some ⟨(o1.trans (o2.mono (by omega))).trans (old_put l6 k6 (by omega) (by omega)), _, rfl, (T2.but l6 k6 (by omega)).mono (by omega)⟩
  · refine wq_ptrs b1 (by simp) ?_; (try simp)
    refine wp_call (turn_Wide hs1 hd1 ks (good_d G rfl) hi.1 b (by omega)) fun v2 h2 ⟨o2, v3, e2, T2⟩ => ?_
    simp only at o2 e2 T2; subst e2; obtain ⟨vd', vt', rfl⟩ := T2.agg; have l2 := o2.1; have r2 := r1.old o2 r1.lt; have r1lt := r1.lt; (try simp); refine wq_put r2 (by omega) (vs := [vd', vt']) (fun _ => by rw [cellsK_agg]) (by rfl) (by simp) fun h6 l6 k6 b6 => ?_; simp at b6; (try simp); refine wq_ptrs b6 (by simp) ?_; (try simp); exact wp_some ⟨(o1.trans (o2.mono (by omega))).trans (old_put l6 k6 (by omega) (by omega)), _, rfl, (T2.but l6 k6 (by omega)).mono (by omega)⟩
  · refine wq_ptrs b1 (by simp) ?_; (try simp)
    refine wp_call (turn_Sum hs1 hd1 ks (good_d G rfl) hi.1 b (by omega)) fun v2 h2 ⟨o2, v3, e2, T2⟩ => ?_
    simp only at o2 e2 T2; subst e2; obtain ⟨vd', vt', rfl⟩ := T2.agg; have l2 := o2.1; have r2 := r1.old o2 r1.lt; have r1lt := r1.lt; (try simp); refine wq_put r2 (by omega) (vs := [vd', vt']) (fun _ => by rw [cellsK_agg]) (by rfl) (by simp) fun h6 l6 k6 b6 => ?_; simp at b6; (try simp); refine wq_ptrs b6 (by simp) ?_; (try simp); exact wp_some ⟨(o1.trans (o2.mono (by omega))).trans (old_put l6 k6 (by omega) (by omega)), _, rfl, (T2.but l6 k6 (by omega)).mono (by omega)⟩
  · refine wq_ptrs b1 (by simp) ?_; (try simp)
    refine wp_call (gate_Relu hs1 ks b (by omega)) fun v2 h2 ⟨o2, v3, e2, T2⟩ => ?_
    simp only at o2 e2 T2; subst e2; obtain ⟨vd', vt', rfl⟩ := T2.agg; have l2 := o2.1; have r2 := r1.old o2 r1.lt; have r1lt := r1.lt; (try simp); refine wq_put r2 (by omega) (vs := [vd', vt']) (fun _ => by rw [cellsK_agg]) (by rfl) (by simp) fun h6 l6 k6 b6 => ?_; simp at b6; (try simp); refine wq_ptrs b6 (by simp) ?_; (try simp); exact wp_some ⟨(o1.trans (o2.mono (by omega))).trans (old_put l6 k6 (by omega) (by omega)), _, rfl, (T2.but l6 k6 (by omega)).mono (by omega)⟩
  · refine wq_ptrs b1 (by simp) ?_; (try simp)
    refine wp_call (gate_Max hs1 ks (good_num G (.inl rfl)) hi.1 b (by omega)) fun v2 h2 ⟨o2, v3, e2, T2⟩ => ?_
    simp only at o2 e2 T2; subst e2; obtain ⟨vd', vt', rfl⟩ := T2.agg; have l2 := o2.1; have r2 := r1.old o2 r1.lt; have r1lt := r1.lt; (try simp); refine wq_put r2 (by omega) (vs := [vd', vt']) (fun _ => by rw [cellsK_agg]) (by rfl) (by simp) fun h6 l6 k6 b6 => ?_; simp at b6; (try simp); refine wq_ptrs b6 (by simp) ?_; (try simp); exact wp_some ⟨(o1.trans (o2.mono (by omega))).trans (old_put l6 k6 (by omega) (by omega)), _, rfl, (T2.but l6 k6 (by omega)).mono (by omega)⟩
end
end Go.AM
