/- What would a node's dims be: the program's way, and the page's. -/
import Derived.Test.YtfdbegdgedhhcaaAmS3
set_option linter.all false
namespace Go.AM
set_option maxRecDepth 20000
/-- The dims of what is of its form; none: they do not go together. -/
def inferD (k n : Int) (d : List Int) (ls : List (List Int)) : Option (List Int) :=
  let a := ls.getD 0 []
  let c := ls.getD 1 []
  if k = 1 ∨ k = 2 ∨ k = 3 then some d
  else if k = 4 ∨ k = 5 ∨ k = 6 ∨ k = 16 then (if a = c then some a else none)
  else if k = 9 then (if a.length = 2 ∧ c.length = 2 ∧ a.getD 1 0 = c.getD 0 0 then some [a.getD 0 0, c.getD 1 0] else none)
  else if k = 10 then (if a.length = 2 then some [a.getD 1 0, a.getD 0 0] else none)
  else if k = 11 then (if prodW d = prodW a then some d else none)
  else if k = 12 then (if wider a d = true then some d else none)
  else if k = 13 then (if wider d a = true then some d else none)
  else if k = 15 then (if (lastD a).tmod n = 0 then some (lessD a n) else none)
  else if k = 17 then (if (lastD a).tmod n = 0 ∧ lessD a n = c then some a else none)
  else some a
theorem dimsOk_len {d : List Int} (h : dimsOk d = true) : 1 ≤ d.length ∧ d.length ≤ 3 := by
  simp [dimsOk] at h
  omega
theorem dimsOk_mem {d : List Int} (h : dimsOk d = true) {x : Int} (hx : x ∈ d) : 1 ≤ x ∧ x ≤ 8 := by
  simp [dimsOk] at h
  exact h.1.2 x hx
theorem len1 {α : Type} {l : List α} (h : l.length = 1) : ∃ a, l = [a] := by
  cases l with
  | nil => simp at h
  | cons a l => cases l with | nil => exact ⟨a, rfl⟩ | cons _ _ => simp at h
theorem len2 {α : Type} {l : List α} (h : l.length = 2) : ∃ a c, l = [a, c] := by
  cases l with
  | nil => simp at h
  | cons a l => cases l with
    | nil => simp at h
    | cons c l => cases l with | nil => exact ⟨a, c, rfl⟩ | cons _ _ => simp at h
theorem dimsOk_two {x y : Int} (hx : 1 ≤ x ∧ x ≤ 8) (hy : 1 ≤ y ∧ y ≤ 8) : dimsOk [x, y] = true := by
  have h1 : x * y ≤ 8 * 8 := Int.mul_le_mul hx.2 hy.2 (by omega) (by omega)
  have h2 : 1 * 1 ≤ x * y := Int.mul_le_mul hx.1 hy.1 (by omega) (by omega)
  have e : prodW [x, y] = x * y := by
    simp only [prodW, List.foldl_cons, List.foldl_nil, w64, Int.one_mul]
    rw [w64_id (n := x) (by omega) (by omega), w64_id (by omega) (by omega)]
  simp only [dimsOk, e]
  simp
  omega
/-- A new slice of numbers. -/
theorem AccP.newInts {h : Heap} {l : List Int} (hl : l.length ≤ 140737488355328) (hr : ∀ x ∈ l, -9223372036854775808 ≤ x ∧ x ≤ 9223372036854775807) : AccP h.length h.length (h ++ [.cells 0 1 (l.map (.int .i64))]) (.int .i64) (.ref h.length 0 0 l.length) l := by
  refine ⟨l.map (.int .i64), Acc.new (Nat.le_refl _) (by simp) hl, fun i x hi => ?_⟩
  obtain ⟨hil, rfl⟩ := List.getElem?_eq_some_iff.1 hi
  simp only [PT.sz]
  rw [take1_drop (by simpa using hil)]
  exact ⟨by simp, hr _ (List.getElem_mem hil)⟩
section
variable {h : Heap}
theorem kernel_dims {vd vl : AV} {k n : Int} {d : List Int} {ls : List (List Int)} (hd : In h ints d [vd]) (hl : In h (.slice ints) ls [vl]) (hf : formOk k n d ls = true) (b : Nat) (hb : b ≤ h.length) :
    WP (call prog b 128 [.int .i64 k, .int .i64 n, vd, vl] h) fun r => Old h.length h r.2 ∧ AccP h.length h.length r.2 int r.1 ((inferD k n d ls).getD []) := by
  obtain ⟨ds, el, hs, hc, he, hbl⟩ := hl.lists
  simp only [formOk, Bool.and_eq_true, decide_eq_true_eq, List.all_eq_true] at hf
  obtain ⟨⟨⟨⟨⟨hk1, hk2⟩, hlen⟩, hall⟩, hn⟩, hdd⟩ := hf
  have hdl : d.length * 8 ≤ 140737488355328 := by
    split at hdd
    · have := dimsOk_len hdd
      omega
    · simp at hdd
      subst hdd
      simp
  have hok : ∀ i (hi : i < ls.length), dimsOk ls[i] = true := fun i hi => hall _ (List.getElem_mem hi)
  refine wp_enter (fn := C.kernel_dims) rfl ?_
  dsimp only [bodyN, C.kernel_dims]
  have hk : k = 1 ∨ k = 2 ∨ k = 3 ∨ k = 4 ∨ k = 5 ∨ k = 6 ∨ k = 7 ∨ k = 8 ∨ k = 9 ∨ k = 10 ∨ k = 11 ∨ k = 12 ∨ k = 13 ∨ k = 14 ∨ k = 15 ∨ k = 16 ∨ k = 17 := by omega
  rcases hk with rfl | rfl | rfl | rfl | rfl | rfl | rfl | rfl | rfl | rfl | rfl | rfl | rfl | rfl | rfl | rfl | rfl
  all_goals simp [many] at hlen
  all_goals simp
  -- 1, 2, 3
  iterate 3
    · refine wp_call (slices_Clone_int hd hdl b hb) fun v' h' ⟨o, a⟩ => ?_
      try simp
      exact wp_some ⟨o, a⟩
  -- 4, 5, 6
  · obtain ⟨a, c, rfl⟩ := len2 (l := ls) (by omega); have ha : In h ints a [el 0] := he 0 (by simp); have hcc : In h ints c [el 1] := he 1 (by simp); have oka : dimsOk a = true := hok 0 (by simp); have okc : dimsOk c = true := hok 1 (by simp); have la := dimsOk_len oka; have lc := dimsOk_len okc; have sa : a.length * 8 ≤ 140737488355328 := by omega
    refine wp_idx hs rfl (by simp) ?_; (try simp); refine wp_cell hs (by simp) (hc 0 (by simp)) rfl ?_; (try simp)
    refine wp_idx hs rfl (by simp) ?_; (try simp); refine wp_cell hs (by simp) (hc 0 (by simp)) rfl ?_; (try simp)
    refine wp_idx hs rfl (by simp) ?_; (try simp); refine wp_cell hs (by simp) (hc 1 (by simp)) rfl ?_; (try simp)
    rw [callK_eq (slices_Equal_int ha hcc _)]
    try simp
    refine wp_ndec (fun hne => wp_some ⟨Old.refl (Nat.le_refl _), by first | exact AccP.nil | (simp [inferD, *]; exact AccP.nil)⟩) fun heq => ?_
    try simp
    refine wp_call (slices_Clone_int ha sa b hb) fun v' h' ⟨o, a'⟩ => ?_
    try simp
    exact wp_some ⟨o, by simpa [inferD, heq] using a'⟩
  · obtain ⟨a, c, rfl⟩ := len2 (l := ls) (by omega); have ha : In h ints a [el 0] := he 0 (by simp); have hcc : In h ints c [el 1] := he 1 (by simp); have oka : dimsOk a = true := hok 0 (by simp); have okc : dimsOk c = true := hok 1 (by simp); have la := dimsOk_len oka; have lc := dimsOk_len okc; have sa : a.length * 8 ≤ 140737488355328 := by omega
    refine wp_idx hs rfl (by simp) ?_; (try simp); refine wp_cell hs (by simp) (hc 0 (by simp)) rfl ?_; (try simp)
    refine wp_idx hs rfl (by simp) ?_; (try simp); refine wp_cell hs (by simp) (hc 0 (by simp)) rfl ?_; (try simp)
    refine wp_idx hs rfl (by simp) ?_; (try simp); refine wp_cell hs (by simp) (hc 1 (by simp)) rfl ?_; (try simp)
    rw [callK_eq (slices_Equal_int ha hcc _)]
    try simp
    refine wp_ndec (fun hne => wp_some ⟨Old.refl (Nat.le_refl _), by first | exact AccP.nil | (simp [inferD, *]; exact AccP.nil)⟩) fun heq => ?_
    try simp
    refine wp_call (slices_Clone_int ha sa b hb) fun v' h' ⟨o, a'⟩ => ?_
    try simp
    exact wp_some ⟨o, by simpa [inferD, heq] using a'⟩
  · obtain ⟨a, c, rfl⟩ := len2 (l := ls) (by omega); have ha : In h ints a [el 0] := he 0 (by simp); have hcc : In h ints c [el 1] := he 1 (by simp); have oka : dimsOk a = true := hok 0 (by simp); have okc : dimsOk c = true := hok 1 (by simp); have la := dimsOk_len oka; have lc := dimsOk_len okc; have sa : a.length * 8 ≤ 140737488355328 := by omega
    refine wp_idx hs rfl (by simp) ?_; (try simp); refine wp_cell hs (by simp) (hc 0 (by simp)) rfl ?_; (try simp)
    refine wp_idx hs rfl (by simp) ?_; (try simp); refine wp_cell hs (by simp) (hc 0 (by simp)) rfl ?_; (try simp)
    refine wp_idx hs rfl (by simp) ?_; (try simp); refine wp_cell hs (by simp) (hc 1 (by simp)) rfl ?_; (try simp)
    rw [callK_eq (slices_Equal_int ha hcc _)]
    try simp
    refine wp_ndec (fun hne => wp_some ⟨Old.refl (Nat.le_refl _), by first | exact AccP.nil | (simp [inferD, *]; exact AccP.nil)⟩) fun heq => ?_
    try simp
    refine wp_call (slices_Clone_int ha sa b hb) fun v' h' ⟨o, a'⟩ => ?_
    try simp
    exact wp_some ⟨o, by simpa [inferD, heq] using a'⟩
  -- 7, 8
  · obtain ⟨a, rfl⟩ := len1 (l := ls) (by omega); have ha : In h ints a [el 0] := he 0 (by simp); have oka : dimsOk a = true := hok 0 (by simp); have la := dimsOk_len oka; have sa : a.length * 8 ≤ 140737488355328 := by omega
    refine wp_idx hs rfl (by simp) ?_; (try simp); refine wp_cell hs (by simp) (hc 0 (by simp)) rfl ?_; (try simp)
    refine wp_call (slices_Clone_int ha sa b hb) fun v' h' ⟨o, a'⟩ => ?_
    try simp
    exact wp_some ⟨o, by simpa [inferD] using a'⟩
  · obtain ⟨a, rfl⟩ := len1 (l := ls) (by omega); have ha : In h ints a [el 0] := he 0 (by simp); have oka : dimsOk a = true := hok 0 (by simp); have la := dimsOk_len oka; have sa : a.length * 8 ≤ 140737488355328 := by omega
    refine wp_idx hs rfl (by simp) ?_; (try simp); refine wp_cell hs (by simp) (hc 0 (by simp)) rfl ?_; (try simp)
    refine wp_call (slices_Clone_int ha sa b hb) fun v' h' ⟨o, a'⟩ => ?_
    try simp
    exact wp_some ⟨o, by simpa [inferD] using a'⟩
  -- 9
  · obtain ⟨a, c, rfl⟩ := len2 (l := ls) (by omega); have ha : In h ints a [el 0] := he 0 (by simp); have hcc : In h ints c [el 1] := he 1 (by simp); have oka : dimsOk a = true := hok 0 (by simp); have okc : dimsOk c = true := hok 1 (by simp); have la := dimsOk_len oka; have lc := dimsOk_len okc; have sa : a.length * 8 ≤ 140737488355328 := by omega
    obtain ⟨da, sa1, ca, ra, _⟩ := ha.ints
    obtain ⟨dc, sc1, cc, rc, _⟩ := hcc.ints
    by_cases h2 : a.length = 2
    · obtain ⟨p, q, rfl⟩ := len2 h2
      refine wp_idx hs rfl (by simp) ?_; (try simp); refine wp_cell hs (by simp) (hc 0 (by simp)) rfl ?_; (try simp)
      refine wp_len sa1 ?_
      try simp
      refine wp_idx hs rfl (by simp) ?_; (try simp); refine wp_cell hs (by simp) (hc 1 (by simp)) rfl ?_; (try simp)
      refine wp_len sc1 ?_
      try simp
      by_cases h3 : c.length = 2
      · obtain ⟨r, t, rfl⟩ := len2 h3
        try simp
        refine wp_idx hs rfl (by simp) ?_; (try simp); refine wp_cell hs (by simp) (hc 0 (by simp)) rfl ?_; (try simp)
        refine wp_idx sa1 rfl (by simp) ?_; (try simp); refine wp_cell sa1 (by simp) (ca 1 (by simp)) rfl ?_; (try simp)
        refine wp_idx hs rfl (by simp) ?_; (try simp); refine wp_cell hs (by simp) (hc 1 (by simp)) rfl ?_; (try simp)
        refine wp_idx sc1 rfl (by simp) ?_; (try simp); refine wp_cell sc1 (by simp) (cc 0 (by simp)) rfl ?_; (try simp)
        refine wp_dec (fun h4 => ?_) fun h4 => ?_
        · try simp
          refine wp_idx hs rfl (by simp) ?_; (try simp); refine wp_cell hs (by simp) (hc 0 (by simp)) rfl ?_; (try simp)
          refine wp_idx sa1 rfl (by simp) ?_; (try simp); refine wp_cell sa1 (by simp) (ca 0 (by simp)) rfl ?_; (try simp)
          refine wp_idx hs rfl (by simp) ?_; (try simp); refine wp_cell hs (by simp) (hc 1 (by simp)) rfl ?_; (try simp)
          refine wp_idx sc1 rfl (by simp) ?_; (try simp); refine wp_cell sc1 (by simp) (cc 1 (by simp)) rfl ?_; (try simp)
          have hp := dimsOk_mem oka (x := p) (by simp)
          have ht := dimsOk_mem okc (x := t) (by simp)
          have hnew := AccP.newInts (h := h) (l := [p, t]) (by simp) (by intro x hx; simp at hx; omega)
          have hi : In (h ++ [AObj.cells 0 1 [AV.int IntKind.i64 p, AV.int IntKind.i64 t]]) ints [p, t] [.ref h.length 0 0 2] := (hnew.holds (Nat.le_refl _)).mono fun j hj => hj.2
          simp [layAt, h4]
          rw [callK_eq (shape_May hi _), dimsOk_two hp ht]
          try simp
          refine wp_call (slices_Clone_int hi (by simp) b (by simp; omega)) fun v' h' ⟨o, a'⟩ => ?_
          simp only at o a'
          try simp
          refine wp_some ⟨Old.app.trans (o.mono (by simp)), ?_⟩
          simp [inferD, h4]
          exact a'.mono (by simp) (by simp)
        · simp [h4]
          refine wp_some ⟨Old.refl (Nat.le_refl _), ?_⟩
          simp [inferD, h4]
          exact AccP.nil
      · have h3' : ¬ ((c.length : Int) = 2) := by omega
        simp [h3']
        exact wp_some ⟨Old.refl (Nat.le_refl _), by simp [inferD, h3]; exact AccP.nil⟩
    · have h2' : ¬ ((a.length : Int) = 2) := by omega
      refine wp_idx hs rfl (by simp) ?_; (try simp); refine wp_cell hs (by simp) (hc 0 (by simp)) rfl ?_; (try simp)
      refine wp_len sa1 ?_
      simp [h2']
      exact wp_some ⟨Old.refl (Nat.le_refl _), by simp [inferD, h2]; exact AccP.nil⟩
  -- 10
  · obtain ⟨a, rfl⟩ := len1 (l := ls) (by omega); have ha : In h ints a [el 0] := he 0 (by simp); have oka : dimsOk a = true := hok 0 (by simp); have la := dimsOk_len oka; have sa : a.length * 8 ≤ 140737488355328 := by omega
    obtain ⟨da, sa1, ca, ra, _⟩ := ha.ints
    by_cases h2 : a.length = 2
    · obtain ⟨p, q, rfl⟩ := len2 h2
      refine wp_idx hs rfl (by simp) ?_; (try simp); refine wp_cell hs (by simp) (hc 0 (by simp)) rfl ?_; (try simp)
      refine wp_len sa1 ?_
      try simp
      refine wp_idx hs rfl (by simp) ?_; (try simp); refine wp_cell hs (by simp) (hc 0 (by simp)) rfl ?_; (try simp)
      refine wp_idx sa1 rfl (by simp) ?_; (try simp); refine wp_cell sa1 (by simp) (ca 1 (by simp)) rfl ?_; (try simp)
      refine wp_idx hs rfl (by simp) ?_; (try simp); refine wp_cell hs (by simp) (hc 0 (by simp)) rfl ?_; (try simp)
      refine wp_idx sa1 rfl (by simp) ?_; (try simp); refine wp_cell sa1 (by simp) (ca 0 (by simp)) rfl ?_; (try simp)
      have hp := dimsOk_mem oka (x := p) (by simp)
      have ht := dimsOk_mem oka (x := q) (by simp)
      have hnew := AccP.newInts (h := h) (l := [q, p]) (by simp) (by intro x hx; simp at hx; omega)
      have hi : In (h ++ [AObj.cells 0 1 [AV.int IntKind.i64 q, AV.int IntKind.i64 p]]) ints [q, p] [.ref h.length 0 0 2] := (hnew.holds (Nat.le_refl _)).mono fun j hj => hj.2
      simp [layAt]
      refine wp_call (slices_Clone_int hi (by simp) b (by simp; omega)) fun v' h' ⟨o, a'⟩ => ?_
      simp only at o a'
      try simp
      refine wp_some ⟨Old.app.trans (o.mono (by simp)), ?_⟩
      simp [inferD]
      exact a'.mono (by simp) (by simp)
    · have h2' : ¬ ((a.length : Int) = 2) := by omega
      refine wp_idx hs rfl (by simp) ?_; (try simp); refine wp_cell hs (by simp) (hc 0 (by simp)) rfl ?_; (try simp)
      refine wp_len sa1 ?_
      simp [h2']
      exact wp_some ⟨Old.refl (Nat.le_refl _), by simp [inferD, h2]; exact AccP.nil⟩
  -- 11
  · obtain ⟨a, rfl⟩ := len1 (l := ls) (by omega); have ha : In h ints a [el 0] := he 0 (by simp); have oka : dimsOk a = true := hok 0 (by simp); have la := dimsOk_len oka; have sa : a.length * 8 ≤ 140737488355328 := by omega
    rw [callK_eq (shape_Product hd _)]
    try simp
    refine wp_idx hs rfl (by simp) ?_; (try simp); refine wp_cell hs (by simp) (hc 0 (by simp)) rfl ?_; (try simp)
    rw [callK_eq (shape_Product ha _)]
    try simp
    refine wp_ndec (fun hne => wp_some ⟨Old.refl (Nat.le_refl _), by first | exact AccP.nil | (simp [inferD, *]; exact AccP.nil)⟩) fun heq => ?_
    try simp
    refine wp_call (slices_Clone_int hd hdl b hb) fun v' h' ⟨o, a'⟩ => ?_
    try simp
    exact wp_some ⟨o, by simpa [inferD, heq] using a'⟩
  -- 12
  · obtain ⟨a, rfl⟩ := len1 (l := ls) (by omega); have ha : In h ints a [el 0] := he 0 (by simp); have oka : dimsOk a = true := hok 0 (by simp); have la := dimsOk_len oka; have sa : a.length * 8 ≤ 140737488355328 := by omega
    refine wp_idx hs rfl (by simp) ?_; (try simp); refine wp_cell hs (by simp) (hc 0 (by simp)) rfl ?_; (try simp)
    rw [callK_eq (shape_Grows ha hd _)]
    try simp
    refine wp_iteK (fun hne => wp_some ⟨Old.refl (Nat.le_refl _), by simp at hne; simp [inferD, hne]; exact AccP.nil⟩) fun heq => ?_
    try simp
    refine wp_call (slices_Clone_int hd hdl b hb) fun v' h' ⟨o, a'⟩ => ?_
    try simp
    simp at heq
    exact wp_some ⟨o, by simpa [inferD, heq] using a'⟩
  -- 13
  · obtain ⟨a, rfl⟩ := len1 (l := ls) (by omega); have ha : In h ints a [el 0] := he 0 (by simp); have oka : dimsOk a = true := hok 0 (by simp); have la := dimsOk_len oka; have sa : a.length * 8 ≤ 140737488355328 := by omega
    refine wp_idx hs rfl (by simp) ?_; (try simp); refine wp_cell hs (by simp) (hc 0 (by simp)) rfl ?_; (try simp)
    rw [callK_eq (shape_Grows hd ha _)]
    try simp
    refine wp_iteK (fun hne => wp_some ⟨Old.refl (Nat.le_refl _), by simp at hne; simp [inferD, hne]; exact AccP.nil⟩) fun heq => ?_
    try simp
    refine wp_call (slices_Clone_int hd hdl b hb) fun v' h' ⟨o, a'⟩ => ?_
    try simp
    simp at heq
    exact wp_some ⟨o, by simpa [inferD, heq] using a'⟩
  -- 14
  · obtain ⟨a, rfl⟩ := len1 (l := ls) (by omega); have ha : In h ints a [el 0] := he 0 (by simp); have oka : dimsOk a = true := hok 0 (by simp); have la := dimsOk_len oka; have sa : a.length * 8 ≤ 140737488355328 := by omega
    refine wp_idx hs rfl (by simp) ?_; (try simp); refine wp_cell hs (by simp) (hc 0 (by simp)) rfl ?_; (try simp)
    refine wp_call (slices_Clone_int ha sa b hb) fun v' h' ⟨o, a'⟩ => ?_
    try simp
    exact wp_some ⟨o, by simpa [inferD] using a'⟩
  -- 15
  · obtain ⟨a, rfl⟩ := len1 (l := ls) (by omega); have ha : In h ints a [el 0] := he 0 (by simp); have oka : dimsOk a = true := hok 0 (by simp); have la := dimsOk_len oka; have sa : a.length * 8 ≤ 140737488355328 := by omega
    refine wp_idx hs rfl (by simp) ?_; (try simp); refine wp_cell hs (by simp) (hc 0 (by simp)) rfl ?_; (try simp)
    have hn1 : 1 ≤ n := by simp [numberOk] at hn; omega
    refine wp_call (gate_Less ha sa (by intro e; simp [e] at la) hn1 b hb) fun v' h' ⟨o, v1, hv, hl⟩ => ?_
    simp only at o hv hl
    subst hv
    try simp
    refine wp_ndec (fun hne => wp_some ⟨o, by simp [inferD, hne]; exact AccP.nil⟩) fun heq => ?_
    try simp
    have hm := hl heq
    have hi : In h' ints (lessD a n) [v1] := (hm.holds (Nat.le_refl _)).mono fun j hj => hj.2
    refine wp_call (slices_Clone_int hi (by rw [lessD, List.length_set]; omega) b (Nat.le_trans hb o.1)) fun v'' h'' ⟨o', a'⟩ => ?_
    simp only at o' a'
    try simp
    refine wp_some ⟨o.trans (o'.mono o.1), ?_⟩
    simp [inferD, heq]
    exact a'.mono o.1 o.1
  -- 16
  · obtain ⟨a, c, rfl⟩ := len2 (l := ls) (by omega); have ha : In h ints a [el 0] := he 0 (by simp); have hcc : In h ints c [el 1] := he 1 (by simp); have oka : dimsOk a = true := hok 0 (by simp); have okc : dimsOk c = true := hok 1 (by simp); have la := dimsOk_len oka; have lc := dimsOk_len okc; have sa : a.length * 8 ≤ 140737488355328 := by omega
    refine wp_idx hs rfl (by simp) ?_; (try simp); refine wp_cell hs (by simp) (hc 0 (by simp)) rfl ?_; (try simp)
    refine wp_idx hs rfl (by simp) ?_; (try simp); refine wp_cell hs (by simp) (hc 0 (by simp)) rfl ?_; (try simp)
    refine wp_idx hs rfl (by simp) ?_; (try simp); refine wp_cell hs (by simp) (hc 1 (by simp)) rfl ?_; (try simp)
    rw [callK_eq (slices_Equal_int ha hcc _)]
    try simp
    refine wp_ndec (fun hne => wp_some ⟨Old.refl (Nat.le_refl _), by first | exact AccP.nil | (simp [inferD, *]; exact AccP.nil)⟩) fun heq => ?_
    try simp
    refine wp_call (slices_Clone_int ha sa b hb) fun v' h' ⟨o, a'⟩ => ?_
    try simp
    exact wp_some ⟨o, by simpa [inferD, heq] using a'⟩
  -- 17
  · obtain ⟨a, c, rfl⟩ := len2 (l := ls) (by omega); have ha : In h ints a [el 0] := he 0 (by simp); have hcc : In h ints c [el 1] := he 1 (by simp); have oka : dimsOk a = true := hok 0 (by simp); have okc : dimsOk c = true := hok 1 (by simp); have la := dimsOk_len oka; have lc := dimsOk_len okc; have sa : a.length * 8 ≤ 140737488355328 := by omega
    refine wp_idx hs rfl (by simp) ?_; (try simp); refine wp_cell hs (by simp) (hc 0 (by simp)) rfl ?_; (try simp)
    have hn1 : 1 ≤ n := by simp [numberOk] at hn; omega
    refine wp_call (gate_Less ha sa (by intro e; simp [e] at la) hn1 b hb) fun v' h' ⟨o, v1, hv, hl⟩ => ?_
    simp only at o hv hl
    subst hv
    try simp
    refine wp_dec (fun heq => ?_) fun hne => ?_
    · try simp
      have hm := hl heq
      have hi : In h' ints (lessD a n) [v1] := (hm.holds (Nat.le_refl _)).mono fun j hj => hj.2
      have hs' := hs.old o (Nat.le_refl _)
      refine wp_idx hs' rfl (by simp) ?_; (try simp); refine wp_cell hs' (by simp) (hc 1 (by simp)) rfl ?_; (try simp)
      rw [callK_eq (slices_Equal_int hi (In.old o hcc) _)]
      try simp
      refine wp_idx hs' rfl (by simp) ?_; (try simp); refine wp_cell hs' (by simp) (hc 0 (by simp)) rfl ?_; (try simp)
      refine wp_ndec (fun hne => ?_) fun he2 => ?_
      · refine wp_some ⟨o, ?_⟩
        simp [inferD, heq, hne]
        exact AccP.nil
      · try simp
        refine wp_call (slices_Clone_int (In.old o ha) sa b (Nat.le_trans hb o.1)) fun v'' h'' ⟨o', a'⟩ => ?_
        simp only at o' a'
        try simp
        refine wp_some ⟨o.trans (o'.mono o.1), ?_⟩
        simp [inferD, heq, he2]
        exact a'.mono o.1 o.1
    · try simp
      have hs' := hs.old o (Nat.le_refl _)
      refine wp_idx hs' rfl (by simp) ?_; (try simp); refine wp_cell hs' (by simp) (hc 0 (by simp)) rfl ?_; (try simp)
      exact wp_some ⟨o, by simp [inferD, hne]; exact AccP.nil⟩
end
end Go.AM
