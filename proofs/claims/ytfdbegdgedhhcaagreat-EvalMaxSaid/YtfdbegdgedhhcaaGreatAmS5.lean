import Derived.Test.YtfdbegdgedhhcaaGreatAmS1
set_option linter.all false
/- What would a node's dims be: the page's way. -/
namespace Go.AM
set_option maxRecDepth 20000
section
variable {h : Heap}
/-- What is told with a fresh slice, if so. -/
def Told (h : Heap) (x : Option (List Int)) (r : AV × Heap) : Prop := Old h.length h r.2 ∧ ∃ v', r.1 = .tup [v', .bool x.isSome] ∧ (x.isSome = true → AccP h.length h.length r.2 int v' (x.getD []))
theorem Told.no {h h' : Heap} {x : Option (List Int)} (hx : x = none) (o : Old h.length h h') {v : AV} : Told h x (.tup [v, .bool false], h') := by
  subst hx
  exact ⟨o, v, rfl, fun e => by cases e⟩
theorem Told.yes {h h' : Heap} {x : Option (List Int)} {l : List Int} (hx : x = some l) (o : Old h.length h h') {v : AV} (a : AccP h.length h.length h' int v l) : Told h x (.tup [v, .bool true], h') := by
  subst hx
  exact ⟨o, v, rfl, fun _ => a⟩
theorem Told.if {h h' : Heap} {x : Option (List Int)} {l : List Int} {c : Bool} (hx : x = if c = true then some l else none) (o : Old h.length h h') {v : AV} (a : AccP h.length h.length h' int v l) : Told h x (.tup [v, .bool c], h') := by
  subst hx
  cases c
  · exact .no rfl o
  · exact .yes rfl o a
theorem ref1_Infer {vd vl : AV} {k n : Int} {d : List Int} {ls : List (List Int)} (hd : In h ints d [vd]) (hl : In h (.slice ints) ls [vl]) (hf : formOk k n d ls = true) (b : Nat) (hb : b ≤ h.length) :
    WP (call prog b 65 [.int .i64 k, .int .i64 n, vd, vl] h) (Told h (inferD k n d ls)) := by
  obtain ⟨ds, el, hs, hc, he, hbl⟩ := hl.lists
  simp only [formOk, Bool.and_eq_true, decide_eq_true_eq, List.all_eq_true] at hf
  obtain ⟨⟨⟨⟨⟨hk1, hk2⟩, hlen⟩, hall⟩, hn⟩, hdd⟩ := hf
  have hdl : d.length * 8 ≤ 140737488355328 := by
    split at hdd
    · have := dimsOk_len hdd
      omega
    · simp at hdd
      subst hdd
      simp
  have hok : ∀ i (hi : i < ls.length), dimsOk ls[i] = true := fun i hi => hall _ (List.getElem_mem hi)
  refine wp_enter (fn := C.ref1_Infer) rfl ?_
  dsimp only [bodyN, C.ref1_Infer]
  have hk : k = 1 ∨ k = 2 ∨ k = 3 ∨ k = 4 ∨ k = 5 ∨ k = 6 ∨ k = 7 ∨ k = 8 ∨ k = 9 ∨ k = 10 ∨ k = 11 ∨ k = 12 ∨ k = 13 ∨ k = 14 ∨ k = 15 ∨ k = 16 ∨ k = 17 := by omega
  rcases hk with rfl | rfl | rfl | rfl | rfl | rfl | rfl | rfl | rfl | rfl | rfl | rfl | rfl | rfl | rfl | rfl | rfl
  all_goals simp [many] at hlen
  all_goals simp
  · refine wp_call (ref0_CopyNumbers hd hdl b hb) fun v' h' ⟨o, a⟩ => ?_
    try simp
    exact wp_some (.yes rfl o a)
  · refine wp_call (ref0_CopyNumbers hd hdl b hb) fun v' h' ⟨o, a⟩ => ?_
    try simp
    exact wp_some (.yes rfl o a)
  · refine wp_call (ref0_CopyNumbers hd hdl b hb) fun v' h' ⟨o, a⟩ => ?_
    try simp
    exact wp_some (.yes rfl o a)
  · obtain ⟨a, c, rfl⟩ := len2 (l := ls) (by omega); have ha : In h ints a [el 0] := he 0 (by simp); have hcc : In h ints c [el 1] := he 1 (by simp); have oka : dimsOk a = true := hok 0 (by simp); have okc : dimsOk c = true := hok 1 (by simp); have la := dimsOk_len oka; have lc := dimsOk_len okc; have sa : a.length * 8 ≤ 140737488355328 := by omega
    refine wp_idx hs rfl (by simp) ?_; (try simp); refine wp_cell hs (by simp) (hc 0 (by simp)) rfl ?_; (try simp)
    refine wp_call (ref0_CopyNumbers ha sa _ (Nat.le_refl _)) fun v' h' ⟨o, a'⟩ => ?_
    simp only at o a'
    have hs' := hs.old o (Nat.le_refl _)
    try simp
    refine wp_idx hs' rfl (by simp) ?_; (try simp); refine wp_cell hs' (by simp) (hc 0 (by simp)) rfl ?_; (try simp)
    refine wp_idx hs' rfl (by simp) ?_; (try simp); refine wp_cell hs' (by simp) (hc 1 (by simp)) rfl ?_; (try simp)
    rw [callK_eq (ref0_EqNumbers (In.old o ha) (In.old o hcc) _)]
    try simp
    exact wp_some (.if (by simp [inferD]) o a')
  · obtain ⟨a, c, rfl⟩ := len2 (l := ls) (by omega); have ha : In h ints a [el 0] := he 0 (by simp); have hcc : In h ints c [el 1] := he 1 (by simp); have oka : dimsOk a = true := hok 0 (by simp); have okc : dimsOk c = true := hok 1 (by simp); have la := dimsOk_len oka; have lc := dimsOk_len okc; have sa : a.length * 8 ≤ 140737488355328 := by omega
    refine wp_idx hs rfl (by simp) ?_; (try simp); refine wp_cell hs (by simp) (hc 0 (by simp)) rfl ?_; (try simp)
    refine wp_call (ref0_CopyNumbers ha sa _ (Nat.le_refl _)) fun v' h' ⟨o, a'⟩ => ?_
    simp only at o a'
    have hs' := hs.old o (Nat.le_refl _)
    try simp
    refine wp_idx hs' rfl (by simp) ?_; (try simp); refine wp_cell hs' (by simp) (hc 0 (by simp)) rfl ?_; (try simp)
    refine wp_idx hs' rfl (by simp) ?_; (try simp); refine wp_cell hs' (by simp) (hc 1 (by simp)) rfl ?_; (try simp)
    rw [callK_eq (ref0_EqNumbers (In.old o ha) (In.old o hcc) _)]
    try simp
    exact wp_some (.if (by simp [inferD]) o a')
  · obtain ⟨a, c, rfl⟩ := len2 (l := ls) (by omega); have ha : In h ints a [el 0] := he 0 (by simp); have hcc : In h ints c [el 1] := he 1 (by simp); have oka : dimsOk a = true := hok 0 (by simp); have okc : dimsOk c = true := hok 1 (by simp); have la := dimsOk_len oka; have lc := dimsOk_len okc; have sa : a.length * 8 ≤ 140737488355328 := by omega
    refine wp_idx hs rfl (by simp) ?_; (try simp); refine wp_cell hs (by simp) (hc 0 (by simp)) rfl ?_; (try simp)
    refine wp_call (ref0_CopyNumbers ha sa _ (Nat.le_refl _)) fun v' h' ⟨o, a'⟩ => ?_
    simp only at o a'
    have hs' := hs.old o (Nat.le_refl _)
    try simp
    refine wp_idx hs' rfl (by simp) ?_; (try simp); refine wp_cell hs' (by simp) (hc 0 (by simp)) rfl ?_; (try simp)
    refine wp_idx hs' rfl (by simp) ?_; (try simp); refine wp_cell hs' (by simp) (hc 1 (by simp)) rfl ?_; (try simp)
    rw [callK_eq (ref0_EqNumbers (In.old o ha) (In.old o hcc) _)]
    try simp
    exact wp_some (.if (by simp [inferD]) o a')
  · obtain ⟨a, rfl⟩ := len1 (l := ls) (by omega); have ha : In h ints a [el 0] := he 0 (by simp); have oka : dimsOk a = true := hok 0 (by simp); have la := dimsOk_len oka; have sa : a.length * 8 ≤ 140737488355328 := by omega
    refine wp_idx hs rfl (by simp) ?_; (try simp); refine wp_cell hs (by simp) (hc 0 (by simp)) rfl ?_; (try simp)
    refine wp_call (ref0_CopyNumbers ha sa b hb) fun v' h' ⟨o, a'⟩ => ?_
    try simp
    exact wp_some (.yes (by simp [inferD]) o a')
  · obtain ⟨a, rfl⟩ := len1 (l := ls) (by omega); have ha : In h ints a [el 0] := he 0 (by simp); have oka : dimsOk a = true := hok 0 (by simp); have la := dimsOk_len oka; have sa : a.length * 8 ≤ 140737488355328 := by omega
    refine wp_idx hs rfl (by simp) ?_; (try simp); refine wp_cell hs (by simp) (hc 0 (by simp)) rfl ?_; (try simp)
    refine wp_call (ref0_CopyNumbers ha sa b hb) fun v' h' ⟨o, a'⟩ => ?_
    try simp
    exact wp_some (.yes (by simp [inferD]) o a')
  · obtain ⟨a, c, rfl⟩ := len2 (l := ls) (by omega); have ha : In h ints a [el 0] := he 0 (by simp); have hcc : In h ints c [el 1] := he 1 (by simp); have oka : dimsOk a = true := hok 0 (by simp); have okc : dimsOk c = true := hok 1 (by simp); have la := dimsOk_len oka; have lc := dimsOk_len okc; have sa : a.length * 8 ≤ 140737488355328 := by omega
    obtain ⟨da, sa1, ca, ra, _⟩ := ha.ints
    obtain ⟨dc, sc1, cc, rc, _⟩ := hcc.ints
    by_cases h2 : a.length = 2
    · obtain ⟨p, q, rfl⟩ := len2 h2
      refine wp_idx hs rfl (by simp) ?_; (try simp); refine wp_cell hs (by simp) (hc 0 (by simp)) rfl ?_; (try simp)
      refine wp_len sa1 ?_
      try simp
      refine wp_idx hs rfl (by simp) ?_; (try simp); refine wp_cell hs (by simp) (hc 1 (by simp)) rfl ?_; (try simp)
      refine wp_len sc1 ?_
      try simp
      by_cases h3 : c.length = 2
      · obtain ⟨r, t, rfl⟩ := len2 h3
        try simp
        refine wp_idx hs rfl (by simp) ?_; (try simp); refine wp_cell hs (by simp) (hc 0 (by simp)) rfl ?_; (try simp)
        refine wp_idx sa1 rfl (by simp) ?_; (try simp); refine wp_cell sa1 (by simp) (ca 1 (by simp)) rfl ?_; (try simp)
        refine wp_idx hs rfl (by simp) ?_; (try simp); refine wp_cell hs (by simp) (hc 1 (by simp)) rfl ?_; (try simp)
        refine wp_idx sc1 rfl (by simp) ?_; (try simp); refine wp_cell sc1 (by simp) (cc 0 (by simp)) rfl ?_; (try simp)
        by_cases h4 : q = r
        · simp [h4]
          refine wp_idx hs rfl (by simp) ?_; (try simp); refine wp_cell hs (by simp) (hc 0 (by simp)) rfl ?_; (try simp)
          refine wp_idx sa1 rfl (by simp) ?_; (try simp); refine wp_cell sa1 (by simp) (ca 0 (by simp)) rfl ?_; (try simp)
          refine wp_idx hs rfl (by simp) ?_; (try simp); refine wp_cell hs (by simp) (hc 1 (by simp)) rfl ?_; (try simp)
          refine wp_idx sc1 rfl (by simp) ?_; (try simp); refine wp_cell sc1 (by simp) (cc 1 (by simp)) rfl ?_; (try simp)
          have hp := dimsOk_mem oka (x := p) (by simp)
          have ht := dimsOk_mem okc (x := t) (by simp)
          simp [layAt]
          exact wp_some (.yes (by simp [inferD, h4]) Old.app (AccP.newInts (h := h) (l := [p, t]) (by simp) (by intro x hx; simp at hx; omega)))
        · simp [h4]
          exact wp_some (.no (by simp [inferD, h4]) (Old.refl (Nat.le_refl _)))
      · have h3' : ¬ ((c.length : Int) = 2) := by omega
        simp [h3']
        exact wp_some (.no (by simp [inferD, h3]) (Old.refl (Nat.le_refl _)))
    · have h2' : ¬ ((a.length : Int) = 2) := by omega
      refine wp_idx hs rfl (by simp) ?_; (try simp); refine wp_cell hs (by simp) (hc 0 (by simp)) rfl ?_; (try simp)
      refine wp_len sa1 ?_
      simp [h2']
      exact wp_some (.no (by simp [inferD, h2]) (Old.refl (Nat.le_refl _)))
  · obtain ⟨a, rfl⟩ := len1 (l := ls) (by omega); have ha : In h ints a [el 0] := he 0 (by simp); have oka : dimsOk a = true := hok 0 (by simp); have la := dimsOk_len oka; have sa : a.length * 8 ≤ 140737488355328 := by omega
    obtain ⟨da, sa1, ca, ra, _⟩ := ha.ints
    by_cases h2 : a.length = 2
    · obtain ⟨p, q, rfl⟩ := len2 h2
      refine wp_idx hs rfl (by simp) ?_; (try simp); refine wp_cell hs (by simp) (hc 0 (by simp)) rfl ?_; (try simp)
      refine wp_len sa1 ?_
      try simp
      refine wp_idx hs rfl (by simp) ?_; (try simp); refine wp_cell hs (by simp) (hc 0 (by simp)) rfl ?_; (try simp)
      refine wp_idx sa1 rfl (by simp) ?_; (try simp); refine wp_cell sa1 (by simp) (ca 1 (by simp)) rfl ?_; (try simp)
      refine wp_idx hs rfl (by simp) ?_; (try simp); refine wp_cell hs (by simp) (hc 0 (by simp)) rfl ?_; (try simp)
      refine wp_idx sa1 rfl (by simp) ?_; (try simp); refine wp_cell sa1 (by simp) (ca 0 (by simp)) rfl ?_; (try simp)
      have hp := dimsOk_mem oka (x := p) (by simp)
      have ht := dimsOk_mem oka (x := q) (by simp)
      simp [layAt]
      exact wp_some (.yes (by simp [inferD]) Old.app (AccP.newInts (h := h) (l := [q, p]) (by simp) (by intro x hx; simp at hx; omega)))
    · have h2' : ¬ ((a.length : Int) = 2) := by omega
      refine wp_idx hs rfl (by simp) ?_; (try simp); refine wp_cell hs (by simp) (hc 0 (by simp)) rfl ?_; (try simp)
      refine wp_len sa1 ?_
      simp [h2']
      exact wp_some (.no (by simp [inferD, h2]) (Old.refl (Nat.le_refl _)))
  · obtain ⟨a, rfl⟩ := len1 (l := ls) (by omega); have ha : In h ints a [el 0] := he 0 (by simp); have oka : dimsOk a = true := hok 0 (by simp); have la := dimsOk_len oka; have sa : a.length * 8 ≤ 140737488355328 := by omega
    refine wp_call (ref0_CopyNumbers hd hdl _ (Nat.le_refl _)) fun v' h' ⟨o, a'⟩ => ?_
    simp only at o a'
    have hs' := hs.old o (Nat.le_refl _)
    try simp
    rw [callK_eq (ref1_Cells (In.old o hd) _)]
    try simp
    refine wp_idx hs' rfl (by simp) ?_; (try simp); refine wp_cell hs' (by simp) (hc 0 (by simp)) rfl ?_; (try simp)
    rw [callK_eq (ref1_Cells (In.old o ha) _)]
    try simp
    exact wp_some (.if (by simp [inferD]) o a')
  · obtain ⟨a, rfl⟩ := len1 (l := ls) (by omega); have ha : In h ints a [el 0] := he 0 (by simp); have oka : dimsOk a = true := hok 0 (by simp); have la := dimsOk_len oka; have sa : a.length * 8 ≤ 140737488355328 := by omega
    refine wp_call (ref0_CopyNumbers hd hdl _ (Nat.le_refl _)) fun v' h' ⟨o, a'⟩ => ?_
    simp only at o a'
    have hs' := hs.old o (Nat.le_refl _)
    try simp
    refine wp_idx hs' rfl (by simp) ?_; (try simp); refine wp_cell hs' (by simp) (hc 0 (by simp)) rfl ?_; (try simp)
    rw [callK_eq (ref1_Wider (In.old o ha) (In.old o hd) _)]
    try simp
    exact wp_some (.if (by simp [inferD]) o a')
  · obtain ⟨a, rfl⟩ := len1 (l := ls) (by omega); have ha : In h ints a [el 0] := he 0 (by simp); have oka : dimsOk a = true := hok 0 (by simp); have la := dimsOk_len oka; have sa : a.length * 8 ≤ 140737488355328 := by omega
    refine wp_call (ref0_CopyNumbers hd hdl _ (Nat.le_refl _)) fun v' h' ⟨o, a'⟩ => ?_
    simp only at o a'
    have hs' := hs.old o (Nat.le_refl _)
    try simp
    refine wp_idx hs' rfl (by simp) ?_; (try simp); refine wp_cell hs' (by simp) (hc 0 (by simp)) rfl ?_; (try simp)
    rw [callK_eq (ref1_Wider (In.old o hd) (In.old o ha) _)]
    try simp
    exact wp_some (.if (by simp [inferD]) o a')
  · obtain ⟨a, rfl⟩ := len1 (l := ls) (by omega); have ha : In h ints a [el 0] := he 0 (by simp); have oka : dimsOk a = true := hok 0 (by simp); have la := dimsOk_len oka; have sa : a.length * 8 ≤ 140737488355328 := by omega
    refine wp_idx hs rfl (by simp) ?_; (try simp); refine wp_cell hs (by simp) (hc 0 (by simp)) rfl ?_; (try simp)
    refine wp_call (ref0_CopyNumbers ha sa b hb) fun v' h' ⟨o, a'⟩ => ?_
    try simp
    exact wp_some (.yes (by simp [inferD]) o a')
  · obtain ⟨a, rfl⟩ := len1 (l := ls) (by omega); have ha : In h ints a [el 0] := he 0 (by simp); have oka : dimsOk a = true := hok 0 (by simp); have la := dimsOk_len oka; have sa : a.length * 8 ≤ 140737488355328 := by omega
    obtain ⟨da, sa1, ca, ra, _⟩ := ha.ints
    have hn1 : 1 ≤ n := by simp [numberOk] at hn; omega
    have hw : IntKind.i64.wrap ((a.length : Int) - 1) = ((a.length - 1 : Nat) : Int) := by rw [w64_id (by omega) (by omega)]; omega
    have hlast : lastD a = a[a.length - 1] := by rw [lastD, List.getD_eq_getElem?_getD, List.getElem?_eq_getElem (by omega)]; rfl
    refine wp_idx hs rfl (by simp) ?_; (try simp); refine wp_cell hs (by simp) (hc 0 (by simp)) rfl ?_; (try simp)
    refine wp_idx hs rfl (by simp) ?_; (try simp); refine wp_cell hs (by simp) (hc 0 (by simp)) rfl ?_; (try simp)
    refine wp_len sa1 ?_
    try simp
    rw [hw]
    refine wp_idx sa1 rfl (by omega) ?_
    try simp
    refine wp_cell sa1 (by omega) (ca (a.length - 1) (by omega)) rfl ?_
    try simp
    refine wp_guard (by omega) ?_
    try simp
    rw [← hlast]
    refine wp_ndec (fun hne => wp_some (.no (by simp [inferD, hne]) (Old.refl (Nat.le_refl _)))) fun heq => ?_
    try simp
    refine wp_idx hs rfl (by simp) ?_; (try simp); refine wp_cell hs (by simp) (hc 0 (by simp)) rfl ?_; (try simp)
    refine wp_call (ref1_less ha sa (by intro e; simp [e] at la) hn1 b hb) fun v' h' ⟨o, a'⟩ => ?_
    simp only at o a'
    try simp
    exact wp_some (.yes (by simp [inferD, heq]) o a')
  · obtain ⟨a, c, rfl⟩ := len2 (l := ls) (by omega); have ha : In h ints a [el 0] := he 0 (by simp); have hcc : In h ints c [el 1] := he 1 (by simp); have oka : dimsOk a = true := hok 0 (by simp); have okc : dimsOk c = true := hok 1 (by simp); have la := dimsOk_len oka; have lc := dimsOk_len okc; have sa : a.length * 8 ≤ 140737488355328 := by omega
    refine wp_idx hs rfl (by simp) ?_; (try simp); refine wp_cell hs (by simp) (hc 0 (by simp)) rfl ?_; (try simp)
    refine wp_call (ref0_CopyNumbers ha sa _ (Nat.le_refl _)) fun v' h' ⟨o, a'⟩ => ?_
    simp only at o a'
    have hs' := hs.old o (Nat.le_refl _)
    try simp
    refine wp_idx hs' rfl (by simp) ?_; (try simp); refine wp_cell hs' (by simp) (hc 0 (by simp)) rfl ?_; (try simp)
    refine wp_idx hs' rfl (by simp) ?_; (try simp); refine wp_cell hs' (by simp) (hc 1 (by simp)) rfl ?_; (try simp)
    rw [callK_eq (ref0_EqNumbers (In.old o ha) (In.old o hcc) _)]
    try simp
    exact wp_some (.if (by simp [inferD]) o a')
  · obtain ⟨a, c, rfl⟩ := len2 (l := ls) (by omega); have ha : In h ints a [el 0] := he 0 (by simp); have hcc : In h ints c [el 1] := he 1 (by simp); have oka : dimsOk a = true := hok 0 (by simp); have okc : dimsOk c = true := hok 1 (by simp); have la := dimsOk_len oka; have lc := dimsOk_len okc; have sa : a.length * 8 ≤ 140737488355328 := by omega
    obtain ⟨da, sa1, ca, ra, _⟩ := ha.ints
    have hn1 : 1 ≤ n := by simp [numberOk] at hn; omega
    have hw : IntKind.i64.wrap ((a.length : Int) - 1) = ((a.length - 1 : Nat) : Int) := by rw [w64_id (by omega) (by omega)]; omega
    have hlast : lastD a = a[a.length - 1] := by rw [lastD, List.getD_eq_getElem?_getD, List.getElem?_eq_getElem (by omega)]; rfl
    refine wp_idx hs rfl (by simp) ?_; (try simp); refine wp_cell hs (by simp) (hc 0 (by simp)) rfl ?_; (try simp)
    refine wp_idx hs rfl (by simp) ?_; (try simp); refine wp_cell hs (by simp) (hc 0 (by simp)) rfl ?_; (try simp)
    refine wp_len sa1 ?_
    try simp
    rw [hw]
    refine wp_idx sa1 rfl (by omega) ?_
    try simp
    refine wp_cell sa1 (by omega) (ca (a.length - 1) (by omega)) rfl ?_
    try simp
    refine wp_guard (by omega) ?_
    try simp
    rw [← hlast]
    refine wp_ndec (fun hne => wp_some (.no (by simp [inferD, hne]) (Old.refl (Nat.le_refl _)))) fun heq => ?_
    try simp
    refine wp_idx hs rfl (by simp) ?_; (try simp); refine wp_cell hs (by simp) (hc 0 (by simp)) rfl ?_; (try simp)
    refine wp_call (ref1_less ha sa (by intro e; simp [e] at la) hn1 b hb) fun v' h' ⟨o, a'⟩ => ?_
    simp only at o a'
    try simp
    have hs' := hs.old o (Nat.le_refl _)
    refine wp_idx hs' rfl (by simp) ?_; (try simp); refine wp_cell hs' (by simp) (hc 0 (by simp)) rfl ?_; (try simp)
    have hi : In h' ints (lessD a n) [v'] := (a'.holds (Nat.le_refl _)).mono fun j hj => hj.2
    refine wp_call (ref0_CopyNumbers (In.old o ha) sa _ (Nat.le_refl _)) fun v'' h'' ⟨o', a''⟩ => ?_
    simp only at o' a''
    have o2 := o.trans (o'.mono o.1)
    have hs'' := hs.old o2 (Nat.le_refl _)
    try simp
    refine wp_idx hs'' rfl (by simp) ?_; (try simp); refine wp_cell hs'' (by simp) (hc 1 (by simp)) rfl ?_; (try simp)
    rw [callK_eq (ref0_EqNumbers (In.old o' hi) (In.old o2 hcc) _)]
    try simp
    exact wp_some (.if (by simp [inferD, heq]) o2 (a''.mono o.1 o.1))
end
end Go.AM

/- Nodes: their form, their dims. -/
namespace Go.AM
set_option maxRecDepth 20000
section
variable {h : Heap}
/-- One more node's dims, or the error. -/
def inferE (k n : Int) (d : List Int) (ls : List (List Int)) : List Int × Int :=
  if formOk k n d ls = true then (match inferD k n d ls with | some x => (x, 0) | none => ([], 4)) else ([], 1)
theorem inferD_ne {k n : Int} {d : List Int} {ls : List (List Int)} (hf : formOk k n d ls = true) {x : List Int} (hx : inferD k n d ls = some x) : x ≠ [] := by
  simp only [formOk, Bool.and_eq_true, decide_eq_true_eq, List.all_eq_true] at hf
  obtain ⟨⟨⟨⟨⟨hk1, hk2⟩, hlen⟩, hall⟩, hn⟩, hdd⟩ := hf
  have hd : asked k = true → d ≠ [] := fun h e => by
    rw [if_pos h] at hdd
    have := dimsOk_len hdd
    simp [e] at this
  have ha : 1 ≤ ls.length → ls.getD 0 [] ≠ [] := fun h e => by
    have h0 : ls.getD 0 [] ∈ ls := by
      rw [List.getD_eq_getElem?_getD, List.getElem?_eq_getElem (by omega)]
      exact List.getElem_mem _
    have := dimsOk_len (hall _ h0)
    rw [e] at this
    simp at this
  have ha' : ¬ (k = 1 ∨ k = 2 ∨ k = 3) → ls.getD 0 [] ≠ [] := fun h => ha (by
    unfold many at hlen
    split at hlen
    · omega
    · split at hlen <;> omega)
  have ln : ∀ a : List Int, lessD a n = [] → a = [] := fun a h => List.length_eq_zero_iff.1 (by
    have := congrArg List.length h
    simpa [lessD] using this)
  intro e
  subst e
  unfold inferD at hx
  simp only at hx
  repeat' (split at hx)
  all_goals first
    | exact absurd (Option.some.inj hx) (hd (by simp [asked]; omega))
    | exact absurd (Option.some.inj hx) (ha' (by omega))
    | exact absurd (ln _ (Option.some.inj hx)) (ha' (by omega))
    | cases hx
theorem kernel_Dims {vd vl : AV} {k n : Int} {d : List Int} {ls : List (List Int)} (hd : In h ints d [vd]) (hl : In h (.slice ints) ls [vl]) (b : Nat) (hb : b ≤ h.length) :
    WP (call prog b 99 [.int .i64 k, .int .i64 n, vd, vl] h) fun r => Old h.length h r.2 ∧ ∃ v', r.1 = .tup [v', .int .i64 (inferE k n d ls).2] ∧ AccP h.length h.length r.2 int v' (inferE k n d ls).1 := by
  refine wp_enter (fn := C.kernel_Dims) rfl ?_
  dsimp only [bodyN, C.kernel_Dims]; simp
  rw [callK_eq (kernel_form hd hl k n b)]
  try simp
  refine wp_iteK (fun hf => ?_) fun hf => ?_
  · try simp
    simp only [Bool.not_eq_true'] at hf
    exact wp_some ⟨Old.refl (Nat.le_refl _), .nil, by simp [inferE, hf], by simp [inferE, hf]; exact AccP.nil⟩
  · try simp
    simp only [Bool.not_eq_false'] at hf
    refine wp_call (kernel_dims hd hl hf b hb) fun v' h' ⟨o, a⟩ => ?_
    simp only at o a
    obtain ⟨da, sa, _, _, _⟩ := a.ints
    try simp
    refine wp_len sa ?_
    try simp
    cases hx : inferD k n d ls with
    | none =>
      simp [hx]
      refine wp_some ⟨o, .nil, by simp [inferE, hf, hx], by simp [inferE, hf, hx]; exact AccP.nil⟩
    | some x =>
      have hne := inferD_ne hf hx
      rw [hx] at a
      have hl : ¬ ((x.length : Int) = 0) := fun e => hne (List.length_eq_zero_iff.1 (by omega))
      simp [hx, hne]
      exact wp_some ⟨o, v', by simp [inferE, hf, hx], by simpa [inferE, hf, hx] using a⟩
/-- Are kind, number, dims, arguments' dims of their form? -/
theorem ref1_May {vd vl : AV} {k n : Int} {d : List Int} {ls : List (List Int)} (hd : In h ints d [vd]) (hl : In h (.slice ints) ls [vl]) (b : Nat) :
    call prog b 64 [.int .i64 k, .int .i64 n, vd, vl] h = some (.bool (formOk k n d ls), h) := by
  obtain ⟨ds, el, hs, hc, he, hbl⟩ := hl.lists
  obtain ⟨ds', hs', hc', _, _⟩ := hd.ints
  refine wp_iff.1 (wp_enter (fn := C.ref1_May) rfl ?_)
  dsimp only [bodyN, C.ref1_May, C.ref1_May_l0]; simp
  refine wp_dec (fun h1 => wp_some ?_) fun h1 => ?_
  · have : (decide (1 ≤ k) && decide (k ≤ 17)) = false := by
      unfold manyR at h1
      simp
      (repeat' split at h1) <;> omega
    simp [formOk, this]
  have hk : 1 ≤ k ∧ k ≤ 17 := by
    unfold manyR at h1
    (repeat' split at h1) <;> omega
  have hm : manyR k = many k := by
    unfold manyR many
    (repeat' split) <;> omega
  try simp
  refine wp_len hs ?_
  rw [hm]
  try simp
  refine wp_ndec (fun h2 => wp_some ?_) fun h2 => ?_
  · rw [hm] at h2
    simp [formOk, h2]
  rw [hm] at h2
  refine wp_loop (I := fun m e h' => h' = h ∧ ∃ i, e = (ea 0 (.int .i64 k) <| ea 1 (.int .i64 n) <| ea 2 vd <| ea 3 vl <| ea 9 (.int .i64 (i : Nat)) e0) ∧ i + m = ls.length ∧ (ls.take i).all dimsOk = true) ?_ ⟨rfl, 0, rfl, Nat.zero_add _, rfl⟩
  rintro N m e _ ⟨rfl, i, rfl, him, hall⟩ next
  dsimp only [C.ref1_May_b0]; simp
  refine wp_len hs ?_
  try simp
  refine wp_dec (fun hi => ?_) fun hi => ?_
  · try simp
    refine wp_idx hs rfl hi ?_
    try simp
    refine wp_cell hs hi (hc i hi) rfl ?_
    try simp
    rw [callK_eq (ref1_Dims (he i hi) b)]
    try simp
    refine wp_iteK (fun hn => ?_) fun hn => ?_
    · refine wp_some ?_
      have : ls.all dimsOk = false := by
        rw [List.all_eq_false]
        exact ⟨ls[i], List.getElem_mem hi, by simpa using hn⟩
      simp [formOk, this]
    · try simp
      rw [succ64 hi hbl]
      exact next (m - 1) _ _ (by omega) ⟨rfl, i + 1, rfl, by omega, by
        rw [take_succ_app hi, List.all_append, hall]
        simpa using hn⟩
  · rw [List.take_of_length_le (by omega)] at hall
    have hf : formOk k n d ls = (numberOk k n && (if asked k = true then dimsOk d else decide (d = []))) := by
      simp [formOk, hk, h2, hall]
    cases ha : asked k with
    | true =>
      simp [ha]
      rw [callK_eq (ref1_Dims hd b)]
      try simp
      cases hdd : dimsOk d with
      | false =>
        simp [hdd]
        exact wp_some (by simp [hf, ha, hdd])
      | true =>
        have k8 : ¬ k = 8 := fun e => by subst e; simp [asked] at ha
        have k15 : ¬ k = 15 := fun e => by subst e; simp [asked] at ha
        have k17 : ¬ k = 17 := fun e => by subst e; simp [asked] at ha
        by_cases k3 : k = 3
        · simp [hdd, ha, k3]
          exact wp_some (by rw [k3] at ha hf; simp [hf, ha, hdd, numberOk])
        · simp [hdd, ha, k3, k8, k15, k17]
          exact wp_some (by simp [hf, ha, hdd, numberOk, k3, k8, k15, k17])
    | false =>
      simp [ha]
      refine wp_len hs' ?_
      try simp
      by_cases hdn : d = []
      · subst hdn
        have k3 : ¬ k = 3 := fun e => by subst e; simp [asked] at ha
        by_cases k8 : k = 8
        · simp [ha, k3, k8]
          exact wp_some (by rw [k8] at hf ha; simp [hf, ha, numberOk, k8])
        by_cases k15 : k = 15
        · simp [ha, k3, k8, k15]
          exact wp_some (by rw [k15] at hf ha; simp [hf, ha, numberOk, k15])
        by_cases k17 : k = 17
        · simp [ha, k3, k8, k15, k17]
          exact wp_some (by rw [k17] at hf ha; simp [hf, ha, numberOk, k17])
        simp [ha, k3, k8, k15, k17]
        exact wp_some (by simp [hf, ha, numberOk, k3, k8, k15, k17])
      · have : 0 < d.length := List.length_pos_iff.2 hdn
        simp [this]
        exact wp_some (by simp [hf, ha, hdn])
theorem graph_Asked {x : node.den} {cs : List AV} (hx : In h node x cs) (b : Nat) (hb : b ≤ h.length) :
    WP (call prog b 97 [.agg cs] h) fun r => Old h.length h r.2 ∧ In h ints (if asked x.2.1 = true then x.2.2.2.1 else []) [r.1] := by
  obtain ⟨a, d, rfl, ha, hd, _⟩ := hx.node
  refine wp_enter (fn := C.graph_Asked) rfl ?_
  dsimp only [bodyN, C.graph_Asked]; simp
  refine wp_new1 rfl ?_
  try simp
  refine wp_iteK (fun hk => ?_) fun hk => ?_
  · try simp
    refine wp_new1 rfl ?_
    try simp
    exact wp_some ⟨Old.app, by simpa [hk] using hd⟩
  · try simp
    exact wp_some ⟨Old.app, by simp [hk]; exact ⟨.nil, [], rfl, ⟨Nat.zero_le _, rfl, rfl⟩, fun i x hi => by simp at hi⟩⟩
theorem ref7_Args {v : AV} {l : List Int} (hl : In h ints l [v]) (n : Int) (hn : -9223372036854775807 ≤ n ∧ n ≤ 9223372036854775807) (b : Nat) : call prog b 27 [v, .int .i64 n] h = some (.bool (l.all fun a => decide (0 ≤ a) && decide (a < n)), h) := by
  obtain ⟨ds, hs, hc, _, hb⟩ := hl.ints
  refine wp_iff.1 (wp_enter (fn := C.ref7_Args) rfl ?_)
  dsimp only [bodyN, C.ref7_Args, C.ref7_Args_l0]; simp
  refine wp_loop (I := fun m e h' => h' = h ∧ ∃ i, e = (ea 0 v <| ea 1 (.int .i64 n) <| ea 5 (.int .i64 (i : Nat)) e0) ∧ i + m = l.length ∧ (l.take i).all (fun a => decide (0 ≤ a) && decide (a < n)) = true) ?_ ⟨rfl, 0, rfl, Nat.zero_add _, rfl⟩
  rintro N m e _ ⟨rfl, i, rfl, him, hall⟩ next
  dsimp only [C.ref7_Args_b0]; simp
  refine wp_len hs ?_
  try simp
  refine wp_dec (fun hi => ?_) fun hi => ?_
  · try simp
    refine wp_idx hs rfl hi ?_
    try simp
    refine wp_cell hs hi (hc i hi) rfl ?_
    try simp
    rw [w64_id (n := n - 1) (by omega) (by omega)]
    refine wp_iteK (fun hn => ?_) fun hn => ?_
    · refine wp_some ?_
      have : (l.all fun a => decide (0 ≤ a) && decide (a < n)) = false := by
        rw [List.all_eq_false]
        refine ⟨l[i], List.getElem_mem hi, ?_⟩
        simp at hn ⊢
        omega
      rw [this]
    · try simp
      rw [succ64 hi hb]
      exact next (m - 1) _ _ (by omega) ⟨rfl, i + 1, rfl, by omega, by
        rw [take_succ_app hi, List.all_append, hall]
        simp at hn ⊢
        omega⟩
  · refine wp_some ?_
    rw [List.take_of_length_le (by omega)] at hall
    rw [hall]
end
end Go.AM

/- Lists of nodes: what would be one more's dims; which may be. -/
namespace Go.AM
set_option maxRecDepth 20000
/-- The dims of a node's. -/
def dimsAt (l : List node.den) (a : Int) : List Int := ((l[a.toNat]?).map (·.2.2.2.1)).getD []
def argsOk (n : Nat) (args : List Int) : Bool := args.all fun a => decide (0 ≤ a) && decide (a < (n : Int))
/-- One more node's dims behind these, or the error. -/
def inferL (l : List node.den) (k n : Int) (d : List Int) (args : List Int) : List Int × Int :=
  if argsOk l.length args = true then inferE k n d (args.map (dimsAt l)) else ([], 1)
section
variable {h : Heap}
theorem ref7_DimsOf {vl va : AV} {l : List node.den} {args : List Int} (hl : In h nodes l [vl]) (ha : In h ints args [va]) (hok : argsOk l.length args = true) (hsz : args.length * 24 ≤ 140737488355328) (b : Nat) (hb : b ≤ h.length) :
    WP (call prog b 63 [vl, va] h) fun r => Old h.length h r.2 ∧ AccP 0 h.length r.2 ints r.1 (args.map (dimsAt l)) := by
  obtain ⟨dl, sl, cl, bl⟩ := hl.nodes
  obtain ⟨da, sa, ca, ra, ba⟩ := ha.ints
  refine wp_enter (fn := C.ref7_DimsOf) rfl ?_
  dsimp only [bodyN, C.ref7_DimsOf, C.ref7_DimsOf_l0]; simp
  refine wp_loop (I := fun m e h' => Old h.length h h' ∧ ∃ i v, e = (ea 0 vl <| ea 1 va <| ea 5 v <| ea 6 (.int .i64 (i : Nat)) e0) ∧ i + m = args.length ∧ AccP 0 h.length h' ints v ((args.take i).map (dimsAt l))) ?_ ⟨Old.refl (Nat.le_refl _), 0, .nil, rfl, Nat.zero_add _, AccP.nil⟩
  rintro N m e h' ⟨old, i, v, rfl, him, acc⟩ next
  have sa' := sa.old old (Nat.le_refl _)
  have sl' := sl.old old (Nat.le_refl _)
  have ho := old.1
  dsimp only [C.ref7_DimsOf_b0]; simp [layAt]
  refine wp_len sa' ?_
  try simp
  refine wp_dec (fun hi => ?_) fun hi => ?_
  · try simp
    refine wp_idx sa' rfl hi ?_
    try simp
    refine wp_cell sa' hi (ca i hi) rfl ?_
    try simp
    have hr : 0 ≤ args[i] ∧ args[i] < l.length := by
      have := List.all_eq_true.1 hok args[i] (List.getElem_mem hi)
      simpa using this
    obtain ⟨j, hj⟩ : ∃ j : Nat, args[i] = (j : Int) := ⟨args[i].toNat, by omega⟩
    have hjl : j < l.length := by omega
    obtain ⟨a, d, e, _, hd, _⟩ := cl j hjl
    refine wp_idx sl' hj hjl ?_
    try simp
    refine wp_cell sl' hjl e rfl ?_
    try simp
    refine wp_cells hd.one1 ?_
    simp [layAt]
    have acc2 := acc.keep (h' := h' ++ [AObj.cells 0 1 [d]]) Old.app
    have o2 : Old h.length h (h' ++ [AObj.cells 0 1 [d]]) := old.trans (Old.app.mono ho)
    refine wp_push (x := dimsAt l args[i]) (bytes := 24) acc2 (Holds.beside (by rw [hj]; simpa [dimsAt, List.getElem?_eq_getElem hjl] using hd) acc2 o2) rfl hb (by simp; omega) (by simp; omega) (by simp; omega) fun a' h2 _ o3 acc' => ?_
    try simp
    rw [succ64 hi ba]
    exact next (m - 1) _ _ (by omega) ⟨o2.trans o3, i + 1, _, rfl, by omega, by rw [map_take_succ _ hi]; exact acc'⟩
  · refine wp_some ⟨old, ?_⟩
    rwa [List.take_of_length_le (by omega)] at acc
theorem graph_infer {vd vl va : AV} {k n : Int} {d : List Int} {l : List node.den} {args : List Int} (hd : In h ints d [vd]) (hl : In h nodes l [vl]) (ha : In h ints args [va]) (hsz : args.length * 24 ≤ 140737488355328) (b : Nat) (hb : b ≤ h.length) :
    WP (call prog b 62 [.int .i64 k, .int .i64 n, vd, vl, va] h) fun r => Old h.length h r.2 ∧ ∃ v', r.1 = .tup [v', .int .i64 (inferL l k n d args).2] ∧ AccP h.length h.length r.2 int v' (inferL l k n d args).1 := by
  obtain ⟨dl, sl, cl, bl⟩ := hl.nodes
  obtain ⟨da, sa, ca, ra, ba⟩ := ha.ints
  refine wp_enter (fn := C.graph_infer) rfl ?_
  dsimp only [bodyN, C.graph_infer, C.graph_infer_l0]; simp
  refine wp_len sa ?_
  try simp
  refine wp_loop (I := fun m e h' => Old h.length h h' ∧ ∃ i v, e = (ea 0 (.int .i64 k) <| ea 1 (.int .i64 n) <| ea 2 vd <| ea 3 vl <| ea 12 v <| ea 15 va <| ea 16 (.int .i64 args.length) <| ea 17 (.int .i64 (i : Nat)) e0) ∧ i + m = args.length ∧ argsOk l.length (args.take i) = true ∧ AccP 0 h.length h' ints v ((args.take i).map (dimsAt l))) ?_ ⟨Old.refl (Nat.le_refl _), 0, .nil, rfl, Nat.zero_add _, rfl, AccP.nil⟩
  rintro N m e h' ⟨old, i, v, rfl, him, hok, acc⟩ next
  have sa' := sa.old old (Nat.le_refl _)
  have sl' := sl.old old (Nat.le_refl _)
  have ho := old.1
  dsimp only [C.graph_infer_b0]; simp [layAt]
  refine wp_dec (fun hi => ?_) fun hi => ?_
  · try simp
    refine wp_idx sa' rfl hi ?_
    try simp
    refine wp_cell sa' hi (ca i hi) rfl ?_
    try simp
    have bad : ¬ (0 ≤ args[i] ∧ args[i] < (l.length : Int)) → inferL l k n d args = ([], 1) := fun hn => by
      have : argsOk l.length args = false := by
        rw [argsOk, List.all_eq_false]
        refine ⟨args[i], List.getElem_mem hi, ?_⟩
        simp at hn ⊢
        omega
      simp [inferL, this]
    refine wp_dec (fun h1 => wp_some ⟨old, .nil, by rw [bad (by omega)], by rw [bad (by omega)]; exact AccP.nil⟩) fun h1 => ?_
    refine wp_len sl' ?_
    try simp
    refine wp_dec (fun h2 => wp_some ⟨old, .nil, by rw [bad (by omega)], by rw [bad (by omega)]; exact AccP.nil⟩) fun h2 => ?_
    try simp
    obtain ⟨j, hj⟩ : ∃ j : Nat, args[i] = (j : Int) := ⟨args[i].toNat, by omega⟩
    have hjl : j < l.length := by omega
    obtain ⟨a, dd, e, _, hdd, _⟩ := cl j hjl
    refine wp_idx sl' hj hjl ?_
    try simp
    refine wp_cell sl' hjl e rfl ?_
    try simp
    refine wp_cells hdd.one1 ?_
    simp [layAt]
    have acc2 := acc.keep (h' := h' ++ [AObj.cells 0 1 [dd]]) Old.app
    have o2 : Old h.length h (h' ++ [AObj.cells 0 1 [dd]]) := old.trans (Old.app.mono ho)
    refine wp_push (x := dimsAt l args[i]) (bytes := 24) acc2 (Holds.beside (by rw [hj]; simpa [dimsAt, List.getElem?_eq_getElem hjl] using hdd) acc2 o2) rfl hb (by simp; omega) (by simp; omega) (by simp; omega) fun a' h2 _ o3 acc' => ?_
    try simp
    rw [succ64 hi ba]
    exact next (m - 1) _ _ (by omega) ⟨o2.trans o3, i + 1, _, rfl, by omega, by
      rw [take_succ_app hi, argsOk, List.all_append]
      rw [argsOk] at hok
      rw [hok]
      simp
      omega, by rw [map_take_succ _ hi]; exact acc'⟩
  · rw [List.take_of_length_le (by omega)] at acc hok
    try simp
    have hli : In h' (.slice ints) (args.map (dimsAt l)) [v] := (acc.holds (Nat.zero_le _)).mono fun j hj => hj.2
    refine wp_call (kernel_Dims (In.old old hd) hli b (Nat.le_trans hb ho)) fun v1 h1 ⟨o1, v', e1, a1⟩ => ?_
    simp only at o1 e1 a1
    subst e1
    try simp
    refine wp_some ⟨old.trans (o1.mono ho), v', by simp [inferL, hok], ?_⟩
    rw [inferL, if_pos hok]
    exact a1.mono ho ho
/-- May a node be behind these? -/
def nodeOk (l : List node.den) (x : node.den) : Bool := decide (inferL l x.2.1 x.2.2.2.2 (if asked x.2.1 = true then x.2.2.2.1 else []) x.2.2.1 = (x.2.2.2.1, 0))
/-- May these be, up to one? -/
def allOk (l : List node.den) : Nat → Bool
  | 0 => true
  | i + 1 => allOk l i && (match l[i]? with | some x => nodeOk (l.take i) x | none => true)
theorem allOk_false {l : List node.den} {i : Nat} (h : allOk l i = false) : ∀ {j : Nat}, i ≤ j → allOk l j = false := fun {j} hj => by
  induction j with
  | zero => exact (Nat.le_zero.1 hj) ▸ h
  | succ j ih =>
    rcases Nat.eq_or_lt_of_le hj with e | e
    · exact e ▸ h
    · rw [allOk, ih (by omega)]; rfl
/-- May these be nodes? -/
def mayL (l : List node.den) : Bool := decide (l.length ≤ 240) && allOk l l.length
/-- Nothing is too long. -/
def Small (l : List node.den) : Prop := ∀ x ∈ l, x.2.2.1.length * 24 ≤ 140737488355328 ∧ x.2.2.2.1.length * 24 ≤ 140737488355328
theorem graph_May {vl : AV} {l : List node.den} (hl : In h nodes l [vl]) (hs : Small l) (b : Nat) (hb : b ≤ h.length) :
    WP (call prog b 61 [vl] h) fun r => Old h.length h r.2 ∧ r.1 = .bool (mayL l) := by
  obtain ⟨dl, sl, cl, bl⟩ := hl.nodes
  refine wp_enter (fn := C.graph_May) rfl ?_
  dsimp only [bodyN, C.graph_May, C.graph_May_l0]; simp
  refine wp_len sl ?_
  try simp
  refine wp_dec (fun h1 => wp_some ⟨Old.refl (Nat.le_refl _), ?_⟩) fun h1 => ?_
  · have : ¬ l.length ≤ 240 := by omega
    simp [mayL, this]
  refine wp_len sl ?_
  try simp
  have hm : mayL l = allOk l l.length := by
    have : l.length ≤ 240 := by omega
    simp [mayL, this]
  refine wp_loop (I := fun m e h' => Old h.length h h' ∧ ∃ i, e = (ea 0 vl <| ea 10 vl <| ea 11 (.int .i64 l.length) <| ea 12 (.int .i64 (i : Nat)) e0) ∧ i + m = l.length ∧ allOk l i = true) ?_ ⟨Old.refl (Nat.le_refl _), 0, rfl, Nat.zero_add _, rfl⟩
  rintro N m e h' ⟨old, i, rfl, him, hok⟩ next
  have sl' := sl.old old (Nat.le_refl _)
  have ho := old.1
  dsimp only [C.graph_May_b0]; simp
  refine wp_dec (fun hi => ?_) fun hi => ?_
  · try simp
    obtain ⟨a, d, e, ha, hd, hn⟩ := cl i hi
    refine wp_idx sl' rfl hi ?_
    try simp
    refine wp_elem sl' hi e ?_
    try simp
    refine wp_init (Nat.le_trans hb ho) (by rfl) (by rfl) ?_
    try simp
    generalize hh : h' ++ [AObj.cells 0 1 [AV.str l[i].fst, AV.int IntKind.i64 l[i].snd.fst, a, d, AV.int IntKind.i64 l[i].snd.snd.snd.snd]] = h1
    have o1 : Old h.length h h1 := hh ▸ old.trans (Old.app.mono ho)
    have hbx : h1[h'.length]? = some (.cells 0 1 [AV.str l[i].fst, AV.int IntKind.i64 l[i].snd.fst, a, d, AV.int IntKind.i64 l[i].snd.snd.snd.snd]) := by rw [← hh]; simp
    refine wp_ptr1 hbx rfl ?_
    try simp
    refine wp_ptr1 hbx rfl ?_
    try simp
    refine wp_ptrs hbx (by simp) ?_
    try simp
    refine wp_call (graph_Asked (x := l[i]) (In.old o1 hn) _ (Nat.le_refl _)) fun v2 h2 ⟨o2, d2⟩ => ?_
    simp only at o2 d2
    try simp
    have o12 := o1.trans (o2.mono o1.1)
    have sl2 := sl.old o12 (Nat.le_refl _)
    refine wp_len sl2 ?_
    try simp
    refine wp_guard (by omega) ?_
    try simp
    refine wp_cut (p := node) (l := l) (In.old o12 hl) rfl (Nat.zero_le i) (by omega) rfl rfl fun v3 h3 => ?_
    try simp
    have hlt : h'.length < h1.length := (List.getElem?_eq_some_iff.1 hbx).1
    have hbx2 := (o2.2 _ hlt).trans hbx
    refine wp_ptr1 hbx2 rfl ?_
    try simp
    have hsz := (hs l[i] (List.getElem_mem hi)).1
    refine wp_call (graph_infer (l := (l.drop 0).take (i - 0)) (args := l[i].2.2.1) (In.old o2 d2) h3 (In.old o12 ha) hsz _ (Nat.le_refl _)) fun v4 h4 ⟨o4, v5, e4, a4⟩ => ?_
    simp only [List.drop_zero, Nat.sub_zero] at o4 e4 a4
    subst e4
    try simp
    have o124 := o12.trans (o4.mono o12.1)
    have hkey : allOk l (i + 1) = nodeOk (l.take i) l[i] := by
      rw [allOk, hok, List.getElem?_eq_getElem hi]
      rfl
    have bad : nodeOk (l.take i) l[i] = false → mayL l = false := fun hn => by
      rw [hm]
      exact allOk_false (hkey.trans hn) hi
    refine wp_ndec (fun hne => wp_some ⟨o124, ?_⟩) fun heq => ?_
    · have : nodeOk (l.take i) l[i] = false := by
        rw [nodeOk, decide_eq_false_iff_not]
        intro e
        rw [e] at hne
        exact hne rfl
      rw [bad this]
    · have hbx4 := (o4.2 _ (Nat.lt_of_lt_of_le hlt o2.1)).trans hbx2
      try simp
      refine wp_ptr1 hbx4 rfl ?_
      try simp
      have hi5 := (a4.holds (Nat.le_refl _)).mono (T := fun j => j < h4.length) fun j hj => hj.2
      rw [callK_eq (slices_Equal_int hi5 (In.old o124 hd) b)]
      try simp
      refine wp_ndec (fun hne => wp_some ⟨o124, ?_⟩) fun hed => ?_
      · have : nodeOk (l.take i) l[i] = false := by
          rw [nodeOk, decide_eq_false_iff_not]
          intro e
          rw [e] at hne
          exact hne rfl
        rw [bad this]
      · try simp
        rw [succ64 hi bl]
        exact next (m - 1) _ _ (by omega) ⟨o124, i + 1, rfl, by omega, by
          rw [hkey, nodeOk, decide_eq_true_eq]
          exact Prod.ext hed heq⟩
  · try simp
    have : i = l.length := by omega
    subst this
    exact wp_some ⟨old, by rw [hm, hok]⟩
theorem graph_Infer {vd vl va : AV} {k n : Int} {d : List Int} {l : List node.den} {args : List Int} (hd : In h ints d [vd]) (hl : In h nodes l [vl]) (ha : In h ints args [va]) (hs : Small l) (hsz : args.length * 24 ≤ 140737488355328) (b : Nat) (hb : b ≤ h.length) :
    WP (call prog b 2 [.int .i64 k, .int .i64 n, vd, vl, va] h) fun r => Old h.length h r.2 ∧ ∃ v', r.1 = .tup [v', .int .i64 (if mayL l = true then (inferL l k n d args).2 else 1)] ∧ AccP h.length h.length r.2 int v' (if mayL l = true then (inferL l k n d args).1 else []) := by
  refine wp_enter (fn := C.graph_Infer) rfl ?_
  dsimp only [bodyN, C.graph_Infer]; simp
  refine wp_call (graph_May hl hs b hb) fun v1 h1 ⟨o1, e1⟩ => ?_
  simp only at o1 e1
  subst e1
  try simp
  refine wp_iteK (fun hm => ?_) fun hm => ?_
  · try simp
    simp only [Bool.not_eq_true'] at hm
    exact wp_some ⟨o1, .nil, by simp [hm], by simp [hm]; exact AccP.nil⟩
  · try simp
    simp only [Bool.not_eq_false'] at hm
    refine wp_call (graph_infer (In.old o1 hd) (In.old o1 hl) (In.old o1 ha) hsz b (Nat.le_trans hb o1.1)) fun v2 h2 ⟨o2, v', e2, a2⟩ => ?_
    simp only at o2 e2 a2
    subst e2
    try simp
    refine wp_some ⟨o1.trans (o2.mono o1.1), v', by simp [hm], ?_⟩
    rw [if_pos hm]
    exact a2.mono o1.1 o1.1
end
end Go.AM

/- The page's own: which nodes may be. -/
namespace Go.AM
set_option maxRecDepth 20000
section
variable {h : Heap}
theorem ref7_Infer {vd vl va : AV} {k n : Int} {d : List Int} {l : List node.den} {args : List Int} (hd : In h ints d [vd]) (hl : In h nodes l [vl]) (ha : In h ints args [va]) (hsz : args.length * 24 ≤ 140737488355328) (b : Nat) (hb : b ≤ h.length) :
    WP (call prog b 3 [.int .i64 k, .int .i64 n, vd, vl, va] h) fun r => Old h.length h r.2 ∧ ∃ v', r.1 = .tup [v', .int .i64 (inferL l k n d args).2] ∧ ((inferL l k n d args).2 = 0 → AccP h.length h.length r.2 int v' (inferL l k n d args).1) := by
  obtain ⟨dl, sl, cl, bl⟩ := hl.nodes
  refine wp_enter (fn := C.ref7_Infer) rfl ?_
  dsimp only [bodyN, C.ref7_Infer]; simp
  refine wp_len sl ?_
  try simp
  rw [callK_eq (ref7_Args ha (l.length : Int) (by omega) b)]
  try simp
  refine wp_iteK (fun hn => ?_) fun hn => ?_
  · have : argsOk l.length args = false := by rw [Bool.not_eq_true'] at hn; exact hn
    exact wp_some ⟨Old.refl (Nat.le_refl _), .nil, by simp [inferL, this], fun _ => by simp [inferL, this]; exact AccP.nil⟩
  have hok : argsOk l.length args = true := by rw [Bool.not_eq_false'] at hn; exact hn
  have hin : inferL l k n d args = inferE k n d (args.map (dimsAt l)) := by simp [inferL, hok]
  rw [hin]
  try simp
  refine wp_call (ref7_DimsOf hl ha hok hsz b hb) fun v1 h1 ⟨o1, a1⟩ => ?_
  simp only at o1 a1
  have hli : In h1 (.slice ints) (args.map (dimsAt l)) [v1] := (a1.holds (Nat.zero_le _)).mono fun j hj => hj.2
  try simp
  rw [callK_eq (ref1_May (In.old o1 hd) hli b)]
  try simp
  refine wp_iteK (fun hf => ?_) fun hf => ?_
  · try simp
    simp only [Bool.not_eq_true'] at hf
    exact wp_some ⟨o1, .nil, by simp [inferE, hf], fun _ => by simp [inferE, hf]; exact AccP.nil⟩
  simp only [Bool.not_eq_false'] at hf
  try simp
  refine wp_call (ref7_DimsOf (In.old o1 hl) (In.old o1 ha) hok hsz b (Nat.le_trans hb o1.1)) fun v2 h2 ⟨o2, a2⟩ => ?_
  simp only at o2 a2
  have o12 := o1.trans (o2.mono o1.1)
  have hli2 : In h2 (.slice ints) (args.map (dimsAt l)) [v2] := (a2.holds (Nat.zero_le _)).mono fun j hj => hj.2
  try simp
  refine wp_call (ref1_Infer (In.old o12 hd) hli2 hf b (Nat.le_trans hb o12.1)) fun v3 h3 ⟨o3, v4, e4, a4⟩ => ?_
  simp only at o3 e4 a4
  subst e4
  have o123 := o12.trans (o3.mono o12.1)
  try simp
  cases hx : inferD k n d (args.map (dimsAt l)) with
  | none =>
    simp
    exact wp_some ⟨o123, .nil, by simp [inferE, hf, hx], fun e => by simp [inferE, hf, hx] at e⟩
  | some x =>
    rw [hx] at a4
    simp
    exact wp_some ⟨o123, v4, by simp [inferE, hf, hx], fun _ => by simpa [inferE, hf, hx] using (a4 rfl).mono o12.1 o12.1⟩
theorem argsOk_mono {n m : Nat} (h : n ≤ m) {args : List Int} (k : argsOk n args = true) : argsOk m args = true := by
  rw [argsOk, List.all_eq_true] at k ⊢
  intro a ha
  have := k a ha
  simp at this ⊢
  omega
theorem map_dimsAt_take {l : List node.den} {i : Nat} {args : List Int} (k : argsOk i args = true) : args.map (dimsAt (l.take i)) = args.map (dimsAt l) := by
  apply List.map_congr_left
  intro a ha
  rw [argsOk, List.all_eq_true] at k
  have := k a ha
  simp at this
  rw [dimsAt, dimsAt, List.getElem?_take, if_pos (by omega)]
theorem ref7_node {vl : AV} {l : List node.den} (hl : In h nodes l [vl]) (hs : Small l) {i : Nat} (hi : i < l.length) (b : Nat) (hb : b ≤ h.length) :
    WP (call prog b 60 [vl, .int .i64 (i : Nat)] h) fun r => Old h.length h r.2 ∧ r.1 = .bool (nodeOk (l.take i) l[i]) := by
  obtain ⟨dl, sl, cl, bl⟩ := hl.nodes
  obtain ⟨a, d, e, ha, hd, hn⟩ := cl i hi
  refine wp_enter (fn := C.ref7_node) rfl ?_
  dsimp only [bodyN, C.ref7_node]; simp
  refine wp_idx sl rfl hi ?_
  try simp
  refine wp_elem sl hi e ?_
  try simp
  refine wp_init hb (by rfl) (by rfl) ?_
  try simp
  generalize hh : h ++ [AObj.cells 0 1 [AV.str l[i].fst, AV.int IntKind.i64 l[i].snd.fst, a, d, AV.int IntKind.i64 l[i].snd.snd.snd.snd]] = h1
  have o1 : Old h.length h h1 := hh ▸ Old.app
  have hbx : h1[h.length]? = some (.cells 0 1 [AV.str l[i].fst, AV.int IntKind.i64 l[i].snd.fst, a, d, AV.int IntKind.i64 l[i].snd.snd.snd.snd]) := by rw [← hh]; simp
  refine wp_ptr1 hbx rfl ?_
  try simp
  rw [callK_eq (ref7_Args (In.old o1 ha) (i : Int) (by omega) _)]
  try simp
  have hlen : (l.take i).length = i := by simp; omega
  refine wp_iteK (fun hn => wp_some ⟨o1, ?_⟩) fun hn => ?_
  · have : argsOk i l[i].2.2.1 = false := by rw [Bool.not_eq_true'] at hn; exact hn
    simp [nodeOk, inferL, hlen, this]
  have hok : argsOk i l[i].2.2.1 = true := by rw [Bool.not_eq_false'] at hn; exact hn
  have hokl := argsOk_mono (m := l.length) (by omega) hok
  have hkey : nodeOk (l.take i) l[i] = decide (inferE l[i].2.1 l[i].2.2.2.2 (if asked l[i].2.1 = true then l[i].2.2.2.1 else []) (l[i].2.2.1.map (dimsAt l)) = (l[i].2.2.2.1, 0)) := by
    rw [nodeOk, inferL, hlen, if_pos hok, map_dimsAt_take hok]
  rw [hkey]
  have hsz := (hs l[i] (List.getElem_mem hi)).1
  refine wp_ptr1 hbx rfl ?_
  try simp
  refine wp_iteK (fun hk => ?_) fun hk => ?_
  · rw [if_pos hk]
    refine wp_ptr1 hbx rfl ?_
    try simp
    have hdd := In.old o1 hd
    refine wp_ptr1 hbx rfl ?_
    try simp
    refine wp_call (ref7_DimsOf (In.old o1 hl) (In.old o1 ha) hokl hsz b (Nat.le_trans hb o1.1)) fun v2 h2 ⟨o2, a2⟩ => ?_
    simp only at o2 a2
    have o12 := o1.trans (o2.mono o1.1)
    have hli : In h2 (.slice ints) (l[i].2.2.1.map (dimsAt l)) [v2] := (a2.holds (Nat.zero_le _)).mono fun j hj => hj.2
    have hlt : h.length < h1.length := (List.getElem?_eq_some_iff.1 hbx).1
    have hbx2 := (o2.2 _ hlt).trans hbx
    try simp
    refine wp_ptr1 hbx2 rfl ?_
    try simp
    refine wp_ptr1 hbx2 rfl ?_
    try simp
    rw [callK_eq (ref1_May (In.old o2 hdd) hli _)]
    try simp
    refine wp_iteK (fun hf => wp_some ⟨o12, ?_⟩) fun hf => ?_
    · rw [Bool.not_eq_true'] at hf
      simp [inferE, hf]
    rw [Bool.not_eq_false'] at hf
    try simp
    refine wp_ptr1 hbx2 rfl ?_
    try simp
    refine wp_ptr1 hbx2 rfl ?_
    try simp
    refine wp_call (ref1_Infer (In.old o2 hdd) hli hf b (Nat.le_trans hb o12.1)) fun v3 h3 ⟨o3, v4, e4, a4⟩ => ?_
    simp only at o3 e4 a4
    subst e4
    have o123 := o12.trans (o3.mono o12.1)
    have hbx3 := (o3.2 _ (Nat.lt_of_lt_of_le hlt o2.1)).trans hbx2
    try simp
    cases hx : inferD l[i].2.1 l[i].2.2.2.2 l[i].2.2.2.1 (l[i].2.2.1.map (dimsAt l)) with
    | none =>
      simp
      exact wp_some ⟨o123, by simp [inferE, hf, hx]⟩
    | some x =>
      rw [hx] at a4
      have hx4 := (((a4 rfl).holds (Nat.le_refl _)).mono (T := fun j => j < h3.length) fun j hj => hj.2)
      simp
      refine wp_ptr1 hbx3 rfl ?_
      try simp
      rw [callK_eq (ref0_EqNumbers (In.old o123 hd) hx4 _)]
      try simp
      refine wp_some ⟨o123, ?_⟩
      simp [inferE, hf, hx, eq_comm]
  · rw [if_neg (by simp [hk])]
    have hdd : In h1 ints [] [.nil] := ⟨.nil, [], rfl, ⟨Nat.zero_le _, rfl, rfl⟩, fun i x hi => by simp at hi⟩
    refine wp_ptr1 hbx rfl ?_
    try simp
    refine wp_call (ref7_DimsOf (In.old o1 hl) (In.old o1 ha) hokl hsz b (Nat.le_trans hb o1.1)) fun v2 h2 ⟨o2, a2⟩ => ?_
    simp only at o2 a2
    have o12 := o1.trans (o2.mono o1.1)
    have hli : In h2 (.slice ints) (l[i].2.2.1.map (dimsAt l)) [v2] := (a2.holds (Nat.zero_le _)).mono fun j hj => hj.2
    have hlt : h.length < h1.length := (List.getElem?_eq_some_iff.1 hbx).1
    have hbx2 := (o2.2 _ hlt).trans hbx
    try simp
    refine wp_ptr1 hbx2 rfl ?_
    try simp
    refine wp_ptr1 hbx2 rfl ?_
    try simp
    rw [callK_eq (ref1_May (In.old o2 hdd) hli _)]
    try simp
    refine wp_iteK (fun hf => wp_some ⟨o12, ?_⟩) fun hf => ?_
    · rw [Bool.not_eq_true'] at hf
      simp [inferE, hf]
    rw [Bool.not_eq_false'] at hf
    try simp
    refine wp_ptr1 hbx2 rfl ?_
    try simp
    refine wp_ptr1 hbx2 rfl ?_
    try simp
    refine wp_call (ref1_Infer (In.old o2 hdd) hli hf b (Nat.le_trans hb o12.1)) fun v3 h3 ⟨o3, v4, e4, a4⟩ => ?_
    simp only at o3 e4 a4
    subst e4
    have o123 := o12.trans (o3.mono o12.1)
    have hbx3 := (o3.2 _ (Nat.lt_of_lt_of_le hlt o2.1)).trans hbx2
    try simp
    cases hx : inferD l[i].2.1 l[i].2.2.2.2 [] (l[i].2.2.1.map (dimsAt l)) with
    | none =>
      simp
      exact wp_some ⟨o123, by simp [inferE, hf, hx]⟩
    | some x =>
      rw [hx] at a4
      have hx4 := (((a4 rfl).holds (Nat.le_refl _)).mono (T := fun j => j < h3.length) fun j hj => hj.2)
      simp
      refine wp_ptr1 hbx3 rfl ?_
      try simp
      rw [callK_eq (ref0_EqNumbers (In.old o123 hd) hx4 _)]
      try simp
      refine wp_some ⟨o123, ?_⟩
      simp [inferE, hf, hx, eq_comm]
theorem ref7_Nodes {vl : AV} {l : List node.den} (hl : In h nodes l [vl]) (hs : Small l) (b : Nat) (hb : b ≤ h.length) :
    WP (call prog b 1 [vl] h) fun r => Old h.length h r.2 ∧ r.1 = .bool (mayL l) := by
  obtain ⟨dl, sl, cl, bl⟩ := hl.nodes
  refine wp_enter (fn := C.ref7_Nodes) rfl ?_
  dsimp only [bodyN, C.ref7_Nodes, C.ref7_Nodes_l0]; simp
  refine wp_len sl ?_
  try simp
  refine wp_dec (fun h1 => wp_some ⟨Old.refl (Nat.le_refl _), ?_⟩) fun h1 => ?_
  · have : ¬ l.length ≤ 240 := by omega
    simp [mayL, this]
  have hm : mayL l = allOk l l.length := by
    have : l.length ≤ 240 := by omega
    simp [mayL, this]
  refine wp_loop (I := fun m e h' => Old h.length h h' ∧ ∃ i, e = (ea 0 vl <| ea 3 (.int .i64 (i : Nat)) e0) ∧ i + m = l.length ∧ allOk l i = true) ?_ ⟨Old.refl (Nat.le_refl _), 0, rfl, Nat.zero_add _, rfl⟩
  rintro N m e h' ⟨old, i, rfl, him, hok⟩ next
  have sl' := sl.old old (Nat.le_refl _)
  have ho := old.1
  dsimp only [C.ref7_Nodes_b0]; simp
  refine wp_len sl' ?_
  try simp
  refine wp_dec (fun hi => ?_) fun hi => ?_
  · try simp
    refine wp_call (ref7_node (In.old old hl) hs hi b (Nat.le_trans hb ho)) fun v1 h1 ⟨o1, e1⟩ => ?_
    simp only at o1 e1
    subst e1
    have o01 := old.trans (o1.mono ho)
    have hkey : allOk l (i + 1) = nodeOk (l.take i) l[i] := by
      rw [allOk, hok, List.getElem?_eq_getElem hi]
      rfl
    try simp
    refine wp_iteK (fun hn => wp_some ⟨o01, ?_⟩) fun hn => ?_
    · rw [Bool.not_eq_true'] at hn
      rw [hm, allOk_false (hkey.trans hn) hi]
    · rw [Bool.not_eq_false'] at hn
      try simp
      rw [succ64 hi bl]
      exact next (m - 1) _ _ (by omega) ⟨o01, i + 1, rfl, by omega, hkey.trans hn⟩
  · try simp
    have : i = l.length := by omega
    subst this
    exact wp_some ⟨old, by rw [hm, hok]⟩
end
end Go.AM

/- How much is handed in. -/
namespace Go.AM
set_option maxRecDepth 20000
section
variable {S : Nat → Prop} {h : Heap}
/-- Lists' weight: as many, and all their numbers. -/
def wLists (l : List (List Int)) : Nat := l.length + (l.map List.length).sum
theorem sum_take_succ (f : List Int → Nat) {l : List (List Int)} {i : Nat} (hi : i < l.length) : ((l.take (i + 1)).map f).sum = ((l.take i).map f).sum + f l[i] := by
  rw [map_take_succ f hi, List.sum_append]
  simp
theorem law0_Lists {v : AV} {l : List (List Int)} (hl : Holds S h (.slice ints) l [v]) (b : Nat) :
    WP (call prog b 58 [v] h) fun r => r.2 = h ∧ ∃ n : Nat, r.1 = .int .i64 n ∧ n ≤ 281474976710656 ∧ (n < 1048576 → n = wLists l) := by
  obtain ⟨ds, el, hs, hc, he, hb⟩ := hl.lists
  refine wp_enter (fn := C.law0_Lists) rfl ?_
  dsimp only [bodyN, C.law0_Lists, C.law0_Lists_l0]; simp
  refine wp_len hs ?_
  try simp
  refine wp_loop (I := fun m e h' => h' = h ∧ ∃ i n : Nat, e = (ea 0 v <| ea 3 (.int .i64 (n : Nat)) <| ea 4 (.int .i64 (i : Nat)) e0) ∧ i + m = l.length ∧ n ≤ 281474976710656 ∧ n = l.length + ((l.take i).map List.length).sum) ?_ ⟨rfl, 0, l.length, rfl, Nat.zero_add _, by omega, by simp⟩
  rintro N m e _ ⟨rfl, i, n, rfl, him, hn, hsum⟩ next
  dsimp only [C.law0_Lists_b0]; simp
  refine wp_len hs ?_
  try simp
  refine wp_dec (fun hi => ?_) fun hi => ?_
  · try simp
    refine wp_dec (fun h2 => ?_) fun h2 => wp_some ⟨rfl, n, rfl, hn, fun h3 => absurd (by omega) h2⟩
    try simp
    refine wp_idx hs rfl hi ?_
    try simp
    refine wp_cell hs hi (hc i hi) rfl ?_
    try simp
    obtain ⟨de, se, _, _, be⟩ := (he i hi).ints
    refine wp_len se ?_
    try simp
    rw [succ64 hi hb, show ((n : Int) + (l[i].length : Int)) = ((n + l[i].length : Nat) : Int) by omega, w64_id (by omega) (by omega)]
    exact next (m - 1) _ _ (by omega) ⟨rfl, i + 1, _, rfl, by omega, by omega, by rw [sum_take_succ _ hi]; omega⟩
  · try simp
    refine wp_some ⟨rfl, n, rfl, hn, fun _ => ?_⟩
    rw [List.take_of_length_le (by omega)] at hsum
    exact hsum
/-- A node's weight. -/
def wNode (x : node.den) : Nat := x.2.2.1.length + x.2.2.2.1.length + x.1.size / 8
def wNodes (l : List node.den) : Nat := l.length + (l.map wNode).sum
theorem law0_NodesWeight {v : AV} {l : List node.den} (hl : Holds S h nodes l [v]) (b : Nat) :
    WP (call prog b 59 [v] h) fun r => r.2 = h ∧ ∃ n : Nat, r.1 = .int .i64 n ∧ n ≤ 1125899906842624 ∧ (n < 1048576 → n = wNodes l) := by
  obtain ⟨ds, hs, hc, hb⟩ := hl.nodes
  refine wp_enter (fn := C.law0_NodesWeight) rfl ?_
  dsimp only [bodyN, C.law0_NodesWeight, C.law0_NodesWeight_l0]; simp
  refine wp_len hs ?_
  try simp
  refine wp_loop (I := fun m e h' => h' = h ∧ ∃ i n : Nat, e = (ea 0 v <| ea 3 (.int .i64 (n : Nat)) <| ea 4 (.int .i64 (i : Nat)) e0) ∧ i + m = l.length ∧ n ≤ 1125899906842624 ∧ n = l.length + ((l.take i).map wNode).sum) ?_ ⟨rfl, 0, l.length, rfl, Nat.zero_add _, by omega, by simp⟩
  rintro N m e _ ⟨rfl, i, n, rfl, him, hn, hsum⟩ next
  dsimp only [C.law0_NodesWeight_b0]; simp
  refine wp_len hs ?_
  try simp
  refine wp_dec (fun hi => ?_) fun hi => ?_
  · try simp
    refine wp_dec (fun h2 => ?_) fun h2 => wp_some ⟨rfl, n, rfl, hn, fun h3 => absurd (by omega) h2⟩
    try simp
    obtain ⟨a, d, e, ha, hd, hx⟩ := hc i hi
    refine wp_idx hs rfl hi ?_
    try simp
    refine wp_cell hs hi e rfl ?_
    try simp
    obtain ⟨da, sa, _, _, ba⟩ := ha.ints
    obtain ⟨dd, sd, _, _, bd⟩ := hd.ints
    obtain ⟨_, _, _, _, _, _, _, bn⟩ := hx.node
    refine wp_len sa ?_
    try simp
    refine wp_idx hs rfl hi ?_
    try simp
    refine wp_cell hs hi e rfl ?_
    try simp
    refine wp_len sd ?_
    try simp
    refine wp_idx hs rfl hi ?_
    try simp
    refine wp_cell hs hi e rfl ?_
    try simp
    have hw : wNode l[i] = l[i].2.2.1.length + l[i].2.2.2.1.length + l[i].1.size / 8 := rfl
    have hstep : n + wNode l[i] = l.length + ((l.take (i + 1)).map wNode).sum := by
      rw [map_take_succ wNode hi, List.sum_append]
      simp only [List.sum_cons, List.sum_nil]
      omega
    rw [succ64 hi hb, w64_id (n := (n : Int) + (l[i].2.2.1.length : Int)) (by omega) (by omega), w64_id (n := (n : Int) + (l[i].2.2.1.length : Int) + (l[i].2.2.2.1.length : Int)) (by omega) (by omega), w64_id (n := (l[i].1.size : Int) / 8) (by omega) (by omega), w64_id (by omega) (by omega),
      show ((n : Int) + (l[i].2.2.1.length : Int) + (l[i].2.2.2.1.length : Int) + (l[i].1.size : Int) / 8) = ((n + wNode l[i] : Nat) : Int) by omega]
    exact next (m - 1) _ _ (by omega) ⟨rfl, i + 1, _, rfl, by omega, by omega, hstep⟩
  · try simp
    refine wp_some ⟨rfl, n, rfl, hn, fun _ => ?_⟩
    rw [List.take_of_length_le (by omega)] at hsum
    exact hsum
/-- What graph's laws are handed. -/
theorem holds_ask8 {y : ask8.den} {as : List AV} (H : Holds S h ask8 y as) : ∃ vl vn vd, as = [vl, vn, vd] ∧ Holds S h (.slice nodes) y.1 [vl] ∧ Holds S h (.slice (.int .i64)) y.2.1 [vn] ∧ Holds S h (.slice (.slice (.int .i64))) y.2.2 [vd] := by
  obtain ⟨c1, c2, rfl, hl, c3, c4, rfl, hn, hd⟩ := H
  obtain ⟨vl, _, rfl, _⟩ := id hl
  obtain ⟨vn, _, rfl, _⟩ := id hn
  obtain ⟨vd, _, rfl, _⟩ := id hd
  exact ⟨vl, vn, vd, rfl, hl, hn, hd⟩
/-- Light enough to be played. -/
def light8 (y : ask8.den) : Prop := y.2.1.length + wLists y.2.2 + (y.1.map wNodes).sum ≤ 1200
/-- Whether it is too heavy; if not, it is light. -/
def Weighed (h : Heap) (light : Prop) (r : AV × Heap) : Prop := Old h.length h r.2 ∧ ∃ q, r.1 = .bool q ∧ (q = false → light)
theorem law8_Heavy {y : ask8.den} {as : List AV} (H : In h ask8 y as) (b : Nat) (hb : b ≤ h.length) :
    WP (call prog b 0 [.agg as] h) (Weighed h (light8 y)) := by
  obtain ⟨vl, vn, vd, rfl, hl, hn, hd⟩ := holds_ask8 H
  obtain ⟨dl, sl, cl⟩ := hl.elem
  obtain ⟨dn, sn, _, _, bn⟩ := hn.ints
  refine wp_enter (fn := C.law8_Heavy) rfl ?_
  dsimp only [bodyN, C.law8_Heavy, C.law8_Heavy_l0]; simp
  generalize hh : h ++ [AObj.cells 0 1 [vl, vn, vd]] = h1
  have o1 : Old h.length h h1 := hh ▸ Old.app
  have hbx : h1[h.length]? = some (.cells 0 1 [vl, vn, vd]) := by rw [← hh]; simp
  have sn1 := sn.old o1 (Nat.le_refl _)
  refine wp_ptr1 hbx rfl ?_
  try simp
  refine wp_len sn1 ?_
  try simp
  refine wp_ptr1 hbx rfl ?_
  try simp
  refine wp_call (law0_Lists (In.old o1 hd) _) fun v2 h2 ⟨e2, n2, e2', b2, c2⟩ => ?_
  simp only at e2 e2'
  subst e2 e2'
  try simp
  rw [show ((y.2.1.length : Int) + (n2 : Int)) = ((y.2.1.length + n2 : Nat) : Int) by omega, w64_id (by omega) (by omega)]
  have sl1 := sl.old o1 (Nat.le_refl _)
  have bl := sl.1
  refine wp_loop (I := fun m e h' => h' = h2 ∧ ∃ i n : Nat, e = (ea 1 (.ptr h.length 0 0) <| ea 3 (.int .i64 (n : Nat)) <| ea 4 (.int .i64 (i : Nat)) e0) ∧ i + m = y.1.length ∧ n ≤ 2251799813685248 ∧ (n < 1048576 → n = y.2.1.length + wLists y.2.2 + ((y.1.take i).map wNodes).sum)) ?_ ⟨rfl, 0, y.2.1.length + n2, rfl, Nat.zero_add _, by omega, fun hlt => by simp; exact c2 (by omega)⟩
  rintro N m e h3 ⟨rfl, i, n, rfl, him, hn', hsum⟩ next
  dsimp only [C.law8_Heavy_b0]; simp
  refine wp_ptr1 hbx rfl ?_
  try simp
  refine wp_len sl1 ?_
  try simp
  have stop : (n < 1048576 → i = y.1.length) → WP (some (AV.bool (decide (1200 < (n : Int))), h3)) (Weighed h (light8 y)) := fun hst => wp_some ⟨o1, _, rfl, fun hq => by
    simp at hq
    have h1 := hst (by omega)
    have h2 := hsum (by omega)
    rw [h1, List.take_of_length_le (Nat.le_refl _)] at h2
    rw [light8]
    omega⟩
  refine wp_dec (fun hi => ?_) fun hi => ?_
  · try simp
    refine wp_dec (fun hlt => ?_) fun hlt => ?_
    · try simp
      refine wp_ptr1 hbx rfl ?_
      try simp
      have hx := cl i y.1[i] (List.getElem?_eq_getElem hi)
      simp only [PT.sz] at hx sl1
      rw [take1_drop (by have := sl1.len; omega)] at hx
      refine wp_idx sl1 rfl hi ?_
      try simp
      refine wp_cell sl1 hi (take1_drop (by have := sl1.len; omega)) rfl ?_
      try simp
      refine wp_call (law0_NodesWeight (In.old o1 hx) _) fun v4 h4 ⟨e4, n4, e4', b4, c4⟩ => ?_
      simp only at e4 e4'
      subst e4 e4'
      try simp
      rw [succ64 hi bl, show ((n : Int) + (n4 : Int)) = ((n + n4 : Nat) : Int) by omega, w64_id (by omega) (by omega)]
      exact next (m - 1) _ _ (by omega) ⟨rfl, i + 1, _, rfl, by omega, by omega, fun hlt => by
        have h1 := hsum (by omega)
        have h2 := c4 (by omega)
        rw [map_take_succ wNodes hi, List.sum_append, h1, h2]
        simp only [List.sum_cons, List.sum_nil]
        omega⟩
    · try simp
      exact stop (fun h => absurd (by omega) hlt)
  · try simp
    exact stop (fun _ => by omega)
end
end Go.AM

/- Names: a text's runes, one by one. -/
namespace Go.AM
set_option maxRecDepth 20000
section
variable {R : Type} {Q : R → Prop}
/-- The next rune. -/
theorem wp_next {base l pos : Nat} {h : Heap} {s : ByteArray} (hb : base ≤ l) (hh : h[l]? = some (.iter s pos)) {K : AV → Heap → Option R}
    (k1 : pos < s.size → WP (K (.tup [.bool true, .int .i64 (pos : Int), .int .i32 ((Utf8.decode s pos).1 : Int)]) (h.set l (.iter s (pos + (Utf8.decode s pos).2)))) Q) (k2 : ¬ pos < s.size → WP (K (.tup [.bool false]) h) Q) : WP (nextK base h (.iter l) K) Q := by
  unfold nextK
  dsimp only
  refine wp_guard hb ?_
  rw [hh]
  dsimp only
  split
  · rename_i hp; exact k1 hp
  · rename_i hp; exact k2 hp
end
theorem decode_pos (s : ByteArray) (i : Nat) : 1 ≤ (Utf8.decode s i).2 := by
  unfold Utf8.decode
  dsimp only
  repeat' split
  all_goals simp
/-- A letter, a digit. -/
def isLetter (r : Int) : Bool := (decide (97 ≤ r) && decide (r ≤ 122)) || (decide (945 ≤ r) && decide (r ≤ 969))
def isDigit (r : Int) : Bool := decide (48 ≤ r) && decide (r ≤ 57)
/-- From a place on, with so many runes ahead: is it a name? -/
def nameFrom (s : ByteArray) : Nat → Nat → Nat → Bool
  | 0, _, n => decide (1 ≤ n) && decide (n ≤ 6)
  | f + 1, pos, n =>
    if pos < s.size then
      (if isLetter (Utf8.decode s pos).1 = true ∨ (n ≠ 0 ∧ isDigit (Utf8.decode s pos).1 = true) then nameFrom s f (pos + (Utf8.decode s pos).2) (n + 1) else false)
    else decide (1 ≤ n) && decide (n ≤ 6)
def isName (s : ByteArray) : Bool := nameFrom s s.size 0 0
section
variable {R : Type} (b : Nat) (h : Heap) (K : AV → Heap → Option R)
@[simp] theorem word_letter (r : Int) : callK (call prog) b 148 [.int .i32 r] h K = K (.bool (isLetter r)) h :=
  callK_eq (wp_iff.1 (wp_enter (fn := C.word_letter) rfl (by
    dsimp only [bodyN, C.word_letter]; simp [wp_some_iff]
    repeat' (first | (refine wp_dec (fun _ => ?_) fun _ => ?_) | (refine wp_ndec (fun _ => ?_) fun _ => ?_) | (refine wp_iteK (fun _ => ?_) fun _ => ?_) | simp only [wp_some_iff] | simp [wp_some_iff])
    all_goals simp_all [isLetter]
    all_goals omega))) K
@[simp] theorem word_digit (r : Int) : callK (call prog) b 149 [.int .i32 r] h K = K (.bool (isDigit r)) h :=
  callK_eq (wp_iff.1 (wp_enter (fn := C.word_digit) rfl (by
    dsimp only [bodyN, C.word_digit]; simp [wp_some_iff]
    repeat' (first | (refine wp_dec (fun _ => ?_) fun _ => ?_) | (refine wp_ndec (fun _ => ?_) fun _ => ?_) | (refine wp_iteK (fun _ => ?_) fun _ => ?_) | simp only [wp_some_iff] | simp [wp_some_iff])
    all_goals simp_all [isDigit]
    all_goals omega))) K
end
theorem word_IsName {h : Heap} {s : ByteArray} (hs : s.size ≤ 140737488355328) (b : Nat) (hb : b ≤ h.length) :
    WP (call prog b 129 [.str s] h) fun r => Old h.length h r.2 ∧ r.1 = .bool (isName s) := by
  refine wp_enter (fn := C.word_IsName) rfl ?_
  dsimp only [bodyN, C.word_IsName, C.word_IsName_l0]; simp
  refine wp_loop (I := fun m e h' => Old h.length h h' ∧ ∃ pos n, e = (ea 3 (.int .i64 (n : Nat)) <| ea 7 (.iter h.length) e0) ∧ h'[h.length]? = some (.iter s pos) ∧ pos + m ≥ s.size ∧ n + m ≤ s.size ∧ isName s = nameFrom s m pos n) ?_ ⟨Old.app, 0, 0, rfl, by simp, by omega, by omega, rfl⟩
  rintro N m e h' ⟨old, pos, n, rfl, hit, hpm, hnm, heq⟩ next
  dsimp only [C.word_IsName_b0]; simp
  refine wp_next hb hit (fun hp => ?_) fun hp => ?_
  · obtain ⟨m', rfl⟩ : ∃ m', m = m' + 1 := ⟨m - 1, by omega⟩
    rw [nameFrom, if_pos hp] at heq
    have hlt := (List.getElem?_eq_some_iff.1 hit).1
    have o2 : Old h.length h (h'.set h.length (.iter s (pos + (Utf8.decode s pos).2))) := old.trans (Old.set old.1 (Nat.le_refl _))
    have hit2 : (h'.set h.length (.iter s (pos + (Utf8.decode s pos).2)))[h.length]? = some (.iter s (pos + (Utf8.decode s pos).2)) := List.getElem?_set_self hlt
    have hd := decode_pos s pos
    have go : (isLetter ((Utf8.decode s pos).1 : Int) = true ∨ (n ≠ 0 ∧ isDigit ((Utf8.decode s pos).1 : Int) = true)) → WP (N (ea 3 (.int .i64 ((n + 1 : Nat) : Int)) <| ea 7 (.iter h.length) e0) (h'.set h.length (.iter s (pos + (Utf8.decode s pos).2)))) (fun r => Old h.length h r.2 ∧ r.1 = .bool (isName s)) := fun hc => by
      rw [if_pos hc] at heq
      exact next m' _ _ (by omega) ⟨o2, _, n + 1, rfl, hit2, by omega, by omega, heq⟩
    try simp
    cases hl : isLetter ((Utf8.decode s pos).1 : Int) with
    | true =>
      simp [hl]
      rw [succ64 (n := s.size) (by omega) hs]
      exact go (.inl hl)
    | false =>
      simp [hl]
      by_cases h0 : n = 0
      · subst h0
        simp
        exact wp_some ⟨o2, by rw [heq, if_neg (by simp [hl])]⟩
      · simp [h0]
        cases hdg : isDigit ((Utf8.decode s pos).1 : Int) with
        | true =>
          simp [hdg]
          rw [succ64 (n := s.size) (by omega) hs]
          exact go (.inr ⟨h0, hdg⟩)
        | false =>
          simp [hdg]
          exact wp_some ⟨o2, by rw [heq, if_neg (by simp [hl, hdg])]⟩
  · have hres : isName s = (decide (1 ≤ n) && decide (n ≤ 6)) := by
      rw [heq]
      cases m with
      | zero => rfl
      | succ m => rw [nameFrom, if_neg hp]
    try simp
    rw [hres]
    refine wp_dec (fun h1 => ?_) fun h1 => ?_
    · try simp
      refine wp_some ⟨old, ?_⟩
      have : 1 ≤ n := by omega
      simp [this]
      omega
    · try simp
      refine wp_some ⟨old, ?_⟩
      have : ¬ 1 ≤ n := by omega
      simp [this]
end Go.AM

/- Graphs: names, leaves. -/
namespace Go.AM
set_option maxRecDepth 20000
theorem find_put (k k' : ByteArray) (v : AV) : ∀ es : List (ByteArray × AV), findIn k (putIn k' v es) = if k' = k then some v else findIn k es
  | [] => by
      unfold putIn findIn findIn
      by_cases h : k' = k <;> simp [h]
  | x :: r => by
      unfold putIn
      by_cases h1 : x.1 = k'
      · simp only [if_pos h1, findIn]
        by_cases h2 : k' = k
        · simp [h2]
        · have : ¬ x.1 = k := fun e => h2 (h1 ▸ e)
          simp [h2, this]
      · simp only [if_neg h1, findIn]
        rw [find_put k k' v r]
        by_cases h2 : x.1 = k
        · have : ¬ k' = k := fun e => h1 (h2.trans e.symm)
          simp [h2, this]
        · simp [h2]
theorem wp_map {R : Type} {Q : R → Prop} {h : Heap} {l : Nat} {es : List (ByteArray × AV)} (hh : h[l]? = some (.map es)) {K : Nat → List (ByteArray × AV) → Option R} (k : WP (K l es) Q) : WP (mapAtK h (.map l) K) Q := by
  unfold mapAtK
  dsimp only
  rw [hh]
  exact k
/-- Names, each once, up to a place. -/
def namesUp (l : List node.den) : Nat → Bool
  | 0 => true
  | i + 1 => namesUp l i && (match l[i]? with | some x => isName x.1 && !((l.take i).any fun y => decide (y.1 = x.1)) | none => true)
theorem namesUp_false {l : List node.den} {i : Nat} (h : namesUp l i = false) : ∀ {j : Nat}, i ≤ j → namesUp l j = false := fun {j} hj => by
  induction j with
  | zero => exact (Nat.le_zero.1 hj) ▸ h
  | succ j ih =>
    rcases Nat.eq_or_lt_of_le hj with e | e
    · exact e ▸ h
    · rw [namesUp, ih (by omega)]; rfl
section
variable {h : Heap}
theorem graph_names {vl : AV} {l : List node.den} (hl : In h nodes l [vl]) (b : Nat) (hb : b ≤ h.length) :
    WP (call prog b 103 [vl] h) fun r => Old h.length h r.2 ∧ r.1 = .bool (namesUp l l.length) := by
  obtain ⟨dl, sl, cl, bl⟩ := hl.nodes
  refine wp_enter (fn := C.graph_names) rfl ?_
  dsimp only [bodyN, C.graph_names, C.graph_names_l0]; simp
  refine wp_len (sl.old (Old.app (t := [AObj.map []])) (Nat.le_refl _)) ?_
  try simp
  refine wp_loop (I := fun m e h' => Old h.length h h' ∧ ∃ i es, e = (ea 3 (.map h.length) <| ea 7 vl <| ea 8 (.int .i64 l.length) <| ea 9 (.int .i64 (i : Nat)) e0) ∧ i + m = l.length ∧ h'[h.length]? = some (.map es) ∧ namesUp l i = true ∧ ∀ k, findIn k es = if (l.take i).any (fun y => decide (y.1 = k)) = true then some (.bool true) else none) ?_ ⟨Old.app, 0, [], rfl, Nat.zero_add _, by simp, rfl, fun k => by simp [findIn]⟩
  rintro N m e h' ⟨old, i, es, rfl, him, hmap, hok, hfind⟩ next
  have sl' := sl.old old (Nat.le_refl _)
  have ho := old.1
  dsimp only [C.graph_names_b0]; simp
  refine wp_dec (fun hi => ?_) fun hi => ?_
  · try simp
    obtain ⟨a, d, e, ha, hd, hn⟩ := cl i hi
    refine wp_idx sl' rfl hi ?_
    try simp
    refine wp_elem sl' hi e ?_
    try simp
    refine wp_init (Nat.le_trans hb ho) (by rfl) (by rfl) ?_
    try simp
    generalize hh : h' ++ [AObj.cells 0 1 [AV.str l[i].fst, AV.int IntKind.i64 l[i].snd.fst, a, d, AV.int IntKind.i64 l[i].snd.snd.snd.snd]] = h1
    have o1 : Old h'.length h' h1 := hh ▸ Old.app
    have hbx : h1[h'.length]? = some (.cells 0 1 [AV.str l[i].fst, AV.int IntKind.i64 l[i].snd.fst, a, d, AV.int IntKind.i64 l[i].snd.snd.snd.snd]) := by rw [← hh]; simp
    have hmlt := (List.getElem?_eq_some_iff.1 hmap).1
    have hkey : namesUp l (i + 1) = (isName l[i].1 && !((l.take i).any fun y => decide (y.1 = l[i].1))) := by
      rw [namesUp, hok, List.getElem?_eq_getElem hi]
      rfl
    obtain ⟨_, _, _, _, _, _, _, hns⟩ := hn.node
    refine wp_ptr1 hbx rfl ?_
    try simp
    refine wp_call (word_IsName (h := h1) hns b (Nat.le_trans hb (Nat.le_trans ho o1.1))) fun v2 h2 ⟨o2, e2⟩ => ?_
    simp only at o2 e2
    subst e2
    have hlt1 : h'.length < h1.length := (List.getElem?_eq_some_iff.1 hbx).1
    have o12 : Old h'.length h' h2 := o1.trans (o2.mono o1.1)
    have oh2 : Old h.length h h2 := old.trans (o12.mono ho)
    have hbx2 := (o2.2 _ hlt1).trans hbx
    have hmap2 := (o12.2 _ hmlt).trans hmap
    try simp
    refine wp_iteK (fun hq => wp_some ⟨oh2, ?_⟩) fun hq => ?_
    · rw [Bool.not_eq_true'] at hq
      rw [hq, Bool.false_and] at hkey
      rw [namesUp_false hkey hi]
    rw [Bool.not_eq_false'] at hq
    try simp
    refine wp_ptr1 hbx2 rfl ?_
    try simp
    refine wp_map hmap2 ?_
    try simp
    rw [hfind l[i].1]
    cases hs : (l.take i).any fun y => decide (y.1 = l[i].1) with
    | true =>
      simp
      refine wp_some ⟨oh2, ?_⟩
      rw [hs, Bool.not_true, Bool.and_false] at hkey
      rw [namesUp_false hkey hi]
    | false =>
      simp
      refine wp_ptr1 hbx2 rfl ?_
      try simp
      refine wp_map hmap2 ?_
      try simp
      refine wp_guard hb ?_
      try simp
      refine wp_guard rfl ?_
      rw [succ64 hi bl]
      have hmlt2 := (List.getElem?_eq_some_iff.1 hmap2).1
      refine next (m - 1) _ _ (by omega) ⟨oh2.trans (Old.set oh2.1 (Nat.le_refl _)), i + 1, _, rfl, by omega, List.getElem?_set_self hmlt2, by rw [hkey, hq, hs]; rfl, fun k => ?_⟩
      rw [find_put, hfind k, take_succ_app hi, List.any_append]
      simp only [List.any_cons, List.any_nil, Bool.or_false]
      by_cases hk : l[i].1 = k
      · rw [if_pos hk, decide_eq_true hk, Bool.or_true, if_pos rfl]
      · rw [if_neg hk, decide_eq_false hk, Bool.or_false]
  · try simp
    have : i = l.length := by omega
    subst this
    exact wp_some ⟨old, by rw [hok]⟩
theorem graph_Is_1 {x : node.den} {cs : List AV} (hx : In h node x cs) (b : Nat) :
    WP (call prog b 104 [.agg cs] h) fun r => Old h.length h r.2 ∧ r.1 = .bool (decide (15 < x.2.1) || (decide (x.2.2.2.2 < -1073741824) || decide (1073741824 < x.2.2.2.2))) := by
  obtain ⟨a, d, rfl, _⟩ := hx.node
  refine wp_enter (fn := C.graph_Is_1) rfl ?_
  dsimp only [bodyN, C.graph_Is_1]; simp
  refine wp_new1 rfl ?_
  try simp
  refine wp_dec (fun h1 => wp_some ⟨Old.app, by simp [h1]⟩) fun h1 => ?_
  try simp
  refine wp_new1 rfl ?_
  try simp
  refine wp_dec (fun h2 => wp_some ⟨Old.app, by simp [h1, h2]⟩) fun h2 => ?_
  try simp
  refine wp_new1 rfl ?_
  try simp
  exact wp_some ⟨Old.app, by simp [h1, h2]⟩
/-- A test that makes memory of its own. -/
def Tests (g : Nat) (cap : List AV) (h : Heap) (x : AV) (q : Bool) : Prop := ∀ b h', b ≤ h'.length → Old h.length h h' → WP (call prog b g (x :: cap) h') fun r => Old h'.length h' r.2 ∧ r.1 = .bool q
theorem slices_IndexFunc_NodeM {v : AV} {ds : List AV} {bs : List Bool} (hs : SliceAt (fun l => l < h.length) h v 5 bs.length ds) {cs : Nat → List AV} (hc : ∀ i, i < bs.length → (ds.drop (i * 5)).take 5 = cs i) {g : Nat} {cap : List AV} (b : Nat) (hb0 : b ≤ h.length) (hf : ∀ (i : Nat) (hi : i < bs.length), Tests g cap h (.agg (cs i)) bs[i]) :
    WP (call prog b 130 [v, .fn g cap] h) fun r => Old h.length h r.2 ∧ r.1 = .int .i64 (idxFrom 0 bs) := by
  have hb := hs.1
  refine wp_enter (fn := C.slices_IndexFunc_Node) rfl ?_
  dsimp only [bodyN, C.slices_IndexFunc_Node, C.slices_IndexFunc_Node_l0]; simp
  refine wp_len hs ?_
  try simp
  refine wp_loop (I := fun m e h' => Old h.length h h' ∧ ∃ i, e = (ea 0 v <| ea 1 (.fn g cap) <| ea 7 (.int .i64 bs.length) <| ea 8 (.int .i64 (i : Nat)) e0) ∧ i + m = bs.length ∧ idxFrom 0 bs = idxFrom i (bs.drop i)) ?_ ⟨Old.refl (Nat.le_refl _), 0, rfl, Nat.zero_add _, rfl⟩
  rintro N m e h' ⟨old, i, rfl, him, heq⟩ next
  have hs' := hs.old old (Nat.le_refl _)
  dsimp only [C.slices_IndexFunc_Node_b0]; simp
  refine wp_dec (fun hi => ?_) fun hi => ?_
  · try simp
    refine wp_idx hs' rfl hi ?_
    try simp
    refine wp_elem hs' hi (hc i hi) ?_
    try simp
    refine wp_call (hf i hi b h' (Nat.le_trans hb0 old.1) old) fun v2 h2 ⟨o2, e2⟩ => ?_
    simp only at o2 e2
    subst e2
    have o12 := old.trans (o2.mono old.1)
    rw [idxFrom_drop hi] at heq
    try simp
    refine wp_iteK (fun hn => ?_) fun hn => ?_
    · refine wp_some ⟨o12, ?_⟩
      rw [heq, if_pos hn]
    · try simp
      rw [succ64 hi hb]
      refine next (m - 1) _ _ (by omega) ⟨o12, i + 1, rfl, by omega, ?_⟩
      rw [heq, if_neg (by simp [hn])]
  · refine wp_some ⟨old, ?_⟩
    rw [heq, List.drop_of_length_le (by omega)]
    rfl
theorem slices_ContainsFunc_NodeM {v : AV} {ds : List AV} {bs : List Bool} (hs : SliceAt (fun l => l < h.length) h v 5 bs.length ds) {cs : Nat → List AV} (hc : ∀ i, i < bs.length → (ds.drop (i * 5)).take 5 = cs i) {g : Nat} {cap : List AV} (b : Nat) (hb0 : b ≤ h.length) (hf : ∀ (i : Nat) (hi : i < bs.length), Tests g cap h (.agg (cs i)) bs[i]) :
    WP (call prog b 105 [v, .fn g cap] h) fun r => Old h.length h r.2 ∧ r.1 = .bool (bs.any id) := by
  refine wp_enter (fn := C.slices_ContainsFunc_Node) rfl ?_
  dsimp only [bodyN, C.slices_ContainsFunc_Node]; simp
  refine wp_call (slices_IndexFunc_NodeM hs hc b hb0 hf) fun v2 h2 ⟨o2, e2⟩ => ?_
  simp only at o2 e2
  subst e2
  try simp
  exact wp_some ⟨o2, by rw [idxFrom_any]⟩
/-- A node that is none of a graph's. -/
def nodeBad (x : node.den) : Bool := decide (15 < x.2.1) || (decide (x.2.2.2.2 < -1073741824) || decide (1073741824 < x.2.2.2.2))
/-- A graph? -/
def isL (l : List node.den) : Bool :=
  decide (1 ≤ l.length) && decide (l.length ≤ 24) && mayL l && namesUp l l.length && !(l.any nodeBad) && decide (prodW (((l[l.length - 1]?).map (·.2.2.2.1)).getD []) = 1)
theorem graph_Is {vl : AV} {l : List node.den} (hl : In h nodes l [vl]) (hsm : Small l) (b : Nat) (hb : b ≤ h.length) :
    WP (call prog b 68 [vl] h) fun r => Old h.length h r.2 ∧ r.1 = .bool (isL l) := by
  obtain ⟨dl, sl, cl, bl⟩ := hl.nodes
  refine wp_enter (fn := C.graph_Is) rfl ?_
  dsimp only [bodyN, C.graph_Is]; simp
  refine wp_len sl ?_
  try simp
  refine wp_dec (fun h1 => wp_some ⟨Old.refl (Nat.le_refl _), ?_⟩) fun h1 => ?_
  · have : ¬ 1 ≤ l.length := by omega
    simp [isL, this]
  try simp
  refine wp_len sl ?_
  try simp
  refine wp_dec (fun h2 => wp_some ⟨Old.refl (Nat.le_refl _), ?_⟩) fun h2 => ?_
  · have : ¬ l.length ≤ 24 := by omega
    simp [isL, this]
  try simp
  refine wp_call (graph_May hl hsm b hb) fun v3 h3 ⟨o3, e3⟩ => ?_
  simp only at o3 e3
  subst e3
  try simp
  refine wp_iteK (fun hm => wp_some ⟨o3, ?_⟩) fun hm => ?_
  · rw [Bool.not_eq_true'] at hm
    simp [isL, hm]
  rw [Bool.not_eq_false'] at hm
  try simp
  refine wp_call (graph_names (In.old o3 hl) b (Nat.le_trans hb o3.1)) fun v4 h4 ⟨o4, e4⟩ => ?_
  simp only at o4 e4
  subst e4
  have o34 := o3.trans (o4.mono o3.1)
  try simp
  refine wp_iteK (fun hn => wp_some ⟨o34, ?_⟩) fun hn => ?_
  · rw [Bool.not_eq_true'] at hn
    simp [isL, hn]
  rw [Bool.not_eq_false'] at hn
  try simp
  have sl4 : SliceAt (fun j => j < h4.length) h4 vl 5 (l.map nodeBad).length dl := by
    rw [List.length_map]
    exact (sl.old o34 (Nat.le_refl _)).mono fun j hj => Nat.lt_of_lt_of_le hj o34.1
  refine wp_call (slices_ContainsFunc_NodeM (g := 104) (cap := []) sl4 (cs := fun i => (dl.drop (i * 5)).take 5) (fun _ _ => rfl) b (Nat.le_trans hb o34.1) (fun i hi b' h' hb' old' => by
    have hi : i < l.length := by simpa using hi
    obtain ⟨a, d, e, _, _, hn⟩ := cl i hi
    have := graph_Is_1 (In.old (o34.trans (old'.mono o34.1)) hn) b'
    simp only [List.getElem_map]
    rw [e]
    exact this)) fun v5 h5 ⟨o5, e5⟩ => ?_
  simp only at o5 e5
  subst e5
  have o345 := o34.trans (o5.mono o34.1)
  rw [List.any_map, show (id ∘ nodeBad) = nodeBad from rfl]
  try simp
  have h1' : decide (1 ≤ l.length) = true := by simp; omega
  have h2' : decide (l.length ≤ 24) = true := by simp; omega
  refine wp_iteK (fun hq => ?_) fun hq => wp_some ⟨o345, ?_⟩
  · rw [Bool.not_eq_true'] at hq
    have hi : l.length - 1 < l.length := by omega
    have hw : IntKind.i64.wrap ((l.length : Int) - 1) = ((l.length - 1 : Nat) : Int) := by rw [w64_id (by omega) (by omega)]; omega
    have sl5 := sl.old o345 (Nat.le_refl _)
    obtain ⟨a, d, e, _, hd, _⟩ := cl (l.length - 1) hi
    try simp
    refine wp_len sl5 ?_
    try simp
    rw [hw]
    refine wp_idx sl5 rfl hi ?_
    try simp
    refine wp_cell sl5 hi e rfl ?_
    try simp
    rw [callK_eq (shape_Product (In.old o345 hd) b)]
    try simp
    refine wp_some ⟨o345, ?_⟩
    rw [isL, h1', h2', hm, hn, hq, List.getElem?_eq_getElem hi]
    rfl
  · rw [Bool.not_eq_false'] at hq
    simp [isL, hq]
theorem graph_Check {vl : AV} {l : List node.den} (hl : In h nodes l [vl]) (hsm : Small l) (b : Nat) (hb : b ≤ h.length) :
    WP (call prog b 10 [vl] h) fun r => Old h.length h r.2 ∧ r.1 = .int .i64 (if isL l = true then 0 else 1) := by
  refine wp_enter (fn := C.graph_Check) rfl ?_
  dsimp only [bodyN, C.graph_Check]; simp
  refine wp_call (graph_Is hl hsm b hb) fun v3 h3 ⟨o3, e3⟩ => ?_
  simp only at o3 e3
  subst e3
  try simp
  refine wp_iteK (fun hm => wp_some ⟨o3, ?_⟩) fun hm => ?_
  · rw [Bool.not_eq_true'] at hm
    simp [hm]
  · rw [Bool.not_eq_false'] at hm
    try simp
    exact wp_some ⟨o3, by simp [hm]⟩
end
end Go.AM
