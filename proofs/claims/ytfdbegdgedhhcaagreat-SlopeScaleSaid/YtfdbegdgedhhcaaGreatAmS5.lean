import Derived.Test.YtfdbegdgedhhcaaGreatAmS1
set_option linter.all false
/- What would a node's dims be: the page's way. -/
namespace Go.AM
set_option maxRecDepth 20000
section
variable {h : Heap}
/-- What is told with a fresh slice, if so. -/
def Told (h : Heap) (x : Option (List Int)) (r : AV × Heap) : Prop := Old h.length h r.2 ∧ ∃ v', r.1 = .tup [v', .bool x.isSome] ∧ (x.isSome = true → AccP h.length h.length r.2 int v' (x.getD []))
theorem Told.no {h h' : Heap} {x : Option (List Int)} (hx : x = none) (o : Old h.length h h') {v : AV} : Told h x (.tup [v, .bool false], h') := by
  subst hx
  exact ⟨o, v, rfl, fun e => by cases e⟩
theorem Told.yes {h h' : Heap} {x : Option (List Int)} {l : List Int} (hx : x = some l) (o : Old h.length h h') {v : AV} (a : AccP h.length h.length h' int v l) : Told h x (.tup [v, .bool true], h') := by
  subst hx
  exact ⟨o, v, rfl, fun _ => a⟩
theorem Told.if {h h' : Heap} {x : Option (List Int)} {l : List Int} {c : Bool} (hx : x = if c = true then some l else none) (o : Old h.length h h') {v : AV} (a : AccP h.length h.length h' int v l) : Told h x (.tup [v, .bool c], h') := by
  subst hx
  cases c
  · exact .no rfl o
  · exact .yes rfl o a
theorem ref1_Infer {vd vl : AV} {k n : Int} {d : List Int} {ls : List (List Int)} (hd : In h ints d [vd]) (hl : In h (.slice ints) ls [vl]) (hf : formOk k n d ls = true) (b : Nat) (hb : b ≤ h.length) :
    WP (call prog b 65 [.int .i64 k, .int .i64 n, vd, vl] h) (Told h (inferD k n d ls)) := by
  obtain ⟨ds, el, hs, hc, he, hbl⟩ := hl.lists
  simp only [formOk, Bool.and_eq_true, decide_eq_true_eq, List.all_eq_true] at hf
  obtain ⟨⟨⟨⟨⟨hk1, hk2⟩, hlen⟩, hall⟩, hn⟩, hdd⟩ := hf
  have hdl : d.length * 8 ≤ 140737488355328 := by
    split at hdd
    · have := dimsOk_len hdd
      omega
    · simp at hdd
      subst hdd
      simp
  have hok : ∀ i (hi : i < ls.length), dimsOk ls[i] = true := fun i hi => hall _ (List.getElem_mem hi)
  refine wp_enter (fn := C.ref1_Infer) rfl ?_
  dsimp only [bodyN, C.ref1_Infer]
  have hk : k = 1 ∨ k = 2 ∨ k = 3 ∨ k = 4 ∨ k = 5 ∨ k = 6 ∨ k = 7 ∨ k = 8 ∨ k = 9 ∨ k = 10 ∨ k = 11 ∨ k = 12 ∨ k = 13 ∨ k = 14 ∨ k = 15 ∨ k = 16 ∨ k = 17 := by omega
  rcases hk with rfl | rfl | rfl | rfl | rfl | rfl | rfl | rfl | rfl | rfl | rfl | rfl | rfl | rfl | rfl | rfl | rfl
  all_goals simp [many] at hlen
  all_goals simp
  · refine wp_call (ref0_CopyNumbers hd hdl b hb) fun v' h' ⟨o, a⟩ => ?_
    try simp
    exact wp_some (.yes rfl o a)
  · refine wp_call (ref0_CopyNumbers hd hdl b hb) fun v' h' ⟨o, a⟩ => ?_
    try simp
    exact wp_some (.yes rfl o a)
  · refine wp_call (ref0_CopyNumbers hd hdl b hb) fun v' h' ⟨o, a⟩ => ?_
    try simp
    exact wp_some (.yes rfl o a)
  · obtain ⟨a, c, rfl⟩ := len2 (l := ls) (by omega); have ha : In h ints a [el 0] := he 0 (by simp); have hcc : In h ints c [el 1] := he 1 (by simp); have oka : dimsOk a = true := hok 0 (by simp); have okc : dimsOk c = true := hok 1 (by simp); have la := dimsOk_len oka; have lc := dimsOk_len okc; have sa : a.length * 8 ≤ 140737488355328 := by omega
    refine wp_idx hs rfl (by simp) ?_; (try simp); refine wp_cell hs (by simp) (hc 0 (by simp)) rfl ?_; (try simp)
    refine wp_call (ref0_CopyNumbers ha sa _ (Nat.le_refl _)) fun v' h' ⟨o, a'⟩ => ?_
    simp only at o a'
    have hs' := hs.old o (Nat.le_refl _)
    try simp
    refine wp_idx hs' rfl (by simp) ?_; (try simp); refine wp_cell hs' (by simp) (hc 0 (by simp)) rfl ?_; (try simp)
    refine wp_idx hs' rfl (by simp) ?_; (try simp); refine wp_cell hs' (by simp) (hc 1 (by simp)) rfl ?_; (try simp)
    rw [callK_eq (ref0_EqNumbers (In.old o ha) (In.old o hcc) _)]
    try simp
    exact wp_some (.if (by simp [inferD]) o a')
  · obtain ⟨a, c, rfl⟩ := len2 (l := ls) (by omega); have ha : In h ints a [el 0] := he 0 (by simp); have hcc : In h ints c [el 1] := he 1 (by simp); have oka : dimsOk a = true := hok 0 (by simp); have okc : dimsOk c = true := hok 1 (by simp); have la := dimsOk_len oka; have lc := dimsOk_len okc; have sa : a.length * 8 ≤ 140737488355328 := by omega
    refine wp_idx hs rfl (by simp) ?_; (try simp); refine wp_cell hs (by simp) (hc 0 (by simp)) rfl ?_; (try simp)
    refine wp_call (ref0_CopyNumbers ha sa _ (Nat.le_refl _)) fun v' h' ⟨o, a'⟩ => ?_
    simp only at o a'
    have hs' := hs.old o (Nat.le_refl _)
    try simp
    refine wp_idx hs' rfl (by simp) ?_; (try simp); refine wp_cell hs' (by simp) (hc 0 (by simp)) rfl ?_; (try simp)
    refine wp_idx hs' rfl (by simp) ?_; (try simp); refine wp_cell hs' (by simp) (hc 1 (by simp)) rfl ?_; (try simp)
    rw [callK_eq (ref0_EqNumbers (In.old o ha) (In.old o hcc) _)]
    try simp
    exact wp_some (.if (by simp [inferD]) o a')
  · obtain ⟨a, c, rfl⟩ := len2 (l := ls) (by omega); have ha : In h ints a [el 0] := he 0 (by simp); have hcc : In h ints c [el 1] := he 1 (by simp); have oka : dimsOk a = true := hok 0 (by simp); have okc : dimsOk c = true := hok 1 (by simp); have la := dimsOk_len oka; have lc := dimsOk_len okc; have sa : a.length * 8 ≤ 140737488355328 := by omega
    refine wp_idx hs rfl (by simp) ?_; (try simp); refine wp_cell hs (by simp) (hc 0 (by simp)) rfl ?_; (try simp)
    refine wp_call (ref0_CopyNumbers ha sa _ (Nat.le_refl _)) fun v' h' ⟨o, a'⟩ => ?_
    simp only at o a'
    have hs' := hs.old o (Nat.le_refl _)
    try simp
    refine wp_idx hs' rfl (by simp) ?_; (try simp); refine wp_cell hs' (by simp) (hc 0 (by simp)) rfl ?_; (try simp)
    refine wp_idx hs' rfl (by simp) ?_; (try simp); refine wp_cell hs' (by simp) (hc 1 (by simp)) rfl ?_; (try simp)
    rw [callK_eq (ref0_EqNumbers (In.old o ha) (In.old o hcc) _)]
    try simp
    exact wp_some (.if (by simp [inferD]) o a')
  · obtain ⟨a, rfl⟩ := len1 (l := ls) (by omega); have ha : In h ints a [el 0] := he 0 (by simp); have oka : dimsOk a = true := hok 0 (by simp); have la := dimsOk_len oka; have sa : a.length * 8 ≤ 140737488355328 := by omega
    refine wp_idx hs rfl (by simp) ?_; (try simp); refine wp_cell hs (by simp) (hc 0 (by simp)) rfl ?_; (try simp)
    refine wp_call (ref0_CopyNumbers ha sa b hb) fun v' h' ⟨o, a'⟩ => ?_
    try simp
    exact wp_some (.yes (by simp [inferD]) o a')
  · obtain ⟨a, rfl⟩ := len1 (l := ls) (by omega); have ha : In h ints a [el 0] := he 0 (by simp); have oka : dimsOk a = true := hok 0 (by simp); have la := dimsOk_len oka; have sa : a.length * 8 ≤ 140737488355328 := by omega
    refine wp_idx hs rfl (by simp) ?_; (try simp); refine wp_cell hs (by simp) (hc 0 (by simp)) rfl ?_; (try simp)
    refine wp_call (ref0_CopyNumbers ha sa b hb) fun v' h' ⟨o, a'⟩ => ?_
    try simp
    exact wp_some (.yes (by simp [inferD]) o a')
  · obtain ⟨a, c, rfl⟩ := len2 (l := ls) (by omega); have ha : In h ints a [el 0] := he 0 (by simp); have hcc : In h ints c [el 1] := he 1 (by simp); have oka : dimsOk a = true := hok 0 (by simp); have okc : dimsOk c = true := hok 1 (by simp); have la := dimsOk_len oka; have lc := dimsOk_len okc; have sa : a.length * 8 ≤ 140737488355328 := by omega
    obtain ⟨da, sa1, ca, ra, _⟩ := ha.ints
    obtain ⟨dc, sc1, cc, rc, _⟩ := hcc.ints
    by_cases h2 : a.length = 2
    · obtain ⟨p, q, rfl⟩ := len2 h2
      refine wp_idx hs rfl (by simp) ?_; (try simp); refine wp_cell hs (by simp) (hc 0 (by simp)) rfl ?_; (try simp)
      refine wp_len sa1 ?_
      try simp
      refine wp_idx hs rfl (by simp) ?_; (try simp); refine wp_cell hs (by simp) (hc 1 (by simp)) rfl ?_; (try simp)
      refine wp_len sc1 ?_
      try simp
      by_cases h3 : c.length = 2
      · obtain ⟨r, t, rfl⟩ := len2 h3
        try simp
        refine wp_idx hs rfl (by simp) ?_; (try simp); refine wp_cell hs (by simp) (hc 0 (by simp)) rfl ?_; (try simp)
        refine wp_idx sa1 rfl (by simp) ?_; (try simp); refine wp_cell sa1 (by simp) (ca 1 (by simp)) rfl ?_; (try simp)
        refine wp_idx hs rfl (by simp) ?_; (try simp); refine wp_cell hs (by simp) (hc 1 (by simp)) rfl ?_; (try simp)
        refine wp_idx sc1 rfl (by simp) ?_; (try simp); refine wp_cell sc1 (by simp) (cc 0 (by simp)) rfl ?_; (try simp)
        by_cases h4 : q = r
        · simp [h4]
          refine wp_idx hs rfl (by simp) ?_; (try simp); refine wp_cell hs (by simp) (hc 0 (by simp)) rfl ?_; (try simp)
          refine wp_idx sa1 rfl (by simp) ?_; (try simp); refine wp_cell sa1 (by simp) (ca 0 (by simp)) rfl ?_; (try simp)
          refine wp_idx hs rfl (by simp) ?_; (try simp); refine wp_cell hs (by simp) (hc 1 (by simp)) rfl ?_; (try simp)
          refine wp_idx sc1 rfl (by simp) ?_; (try simp); refine wp_cell sc1 (by simp) (cc 1 (by simp)) rfl ?_; (try simp)
          have hp := dimsOk_mem oka (x := p) (by simp)
          have ht := dimsOk_mem okc (x := t) (by simp)
          simp [layAt]
          exact wp_some (.yes (by simp [inferD, h4]) Old.app (AccP.newInts (h := h) (l := [p, t]) (by simp) (by intro x hx; simp at hx; omega)))
        · simp [h4]
          exact wp_some (.no (by simp [inferD, h4]) (Old.refl (Nat.le_refl _)))
      · have h3' : ¬ ((c.length : Int) = 2) := by omega
        simp [h3']
        exact wp_some (.no (by simp [inferD, h3]) (Old.refl (Nat.le_refl _)))
    · have h2' : ¬ ((a.length : Int) = 2) := by omega
      refine wp_idx hs rfl (by simp) ?_; (try simp); refine wp_cell hs (by simp) (hc 0 (by simp)) rfl ?_; (try simp)
      refine wp_len sa1 ?_
      simp [h2']
      exact wp_some (.no (by simp [inferD, h2]) (Old.refl (Nat.le_refl _)))
  · obtain ⟨a, rfl⟩ := len1 (l := ls) (by omega); have ha : In h ints a [el 0] := he 0 (by simp); have oka : dimsOk a = true := hok 0 (by simp); have la := dimsOk_len oka; have sa : a.length * 8 ≤ 140737488355328 := by omega
    obtain ⟨da, sa1, ca, ra, _⟩ := ha.ints
    by_cases h2 : a.length = 2
    · obtain ⟨p, q, rfl⟩ := len2 h2
      refine wp_idx hs rfl (by simp) ?_; (try simp); refine wp_cell hs (by simp) (hc 0 (by simp)) rfl ?_; (try simp)
      refine wp_len sa1 ?_
      try simp
      refine wp_idx hs rfl (by simp) ?_; (try simp); refine wp_cell hs (by simp) (hc 0 (by simp)) rfl ?_; (try simp)
      refine wp_idx sa1 rfl (by simp) ?_; (try simp); refine wp_cell sa1 (by simp) (ca 1 (by simp)) rfl ?_; (try simp)
      refine wp_idx hs rfl (by simp) ?_; (try simp); refine wp_cell hs (by simp) (hc 0 (by simp)) rfl ?_; (try simp)
      refine wp_idx sa1 rfl (by simp) ?_; (try simp); refine wp_cell sa1 (by simp) (ca 0 (by simp)) rfl ?_; (try simp)
      have hp := dimsOk_mem oka (x := p) (by simp)
      have ht := dimsOk_mem oka (x := q) (by simp)
      simp [layAt]
      exact wp_some (.yes (by simp [inferD]) Old.app (AccP.newInts (h := h) (l := [q, p]) (by simp) (by intro x hx; simp at hx; omega)))
    · have h2' : ¬ ((a.length : Int) = 2) := by omega
      refine wp_idx hs rfl (by simp) ?_; (try simp); refine wp_cell hs (by simp) (hc 0 (by simp)) rfl ?_; (try simp)
      refine wp_len sa1 ?_
      simp [h2']
      exact wp_some (.no (by simp [inferD, h2]) (Old.refl (Nat.le_refl _)))
  · obtain ⟨a, rfl⟩ := len1 (l := ls) (by omega); have ha : In h ints a [el 0] := he 0 (by simp); have oka : dimsOk a = true := hok 0 (by simp); have la := dimsOk_len oka; have sa : a.length * 8 ≤ 140737488355328 := by omega
    refine wp_call (ref0_CopyNumbers hd hdl _ (Nat.le_refl _)) fun v' h' ⟨o, a'⟩ => ?_
    simp only at o a'
    have hs' := hs.old o (Nat.le_refl _)
    try simp
    rw [callK_eq (ref1_Cells (In.old o hd) _)]
    try simp
    refine wp_idx hs' rfl (by simp) ?_; (try simp); refine wp_cell hs' (by simp) (hc 0 (by simp)) rfl ?_; (try simp)
    rw [callK_eq (ref1_Cells (In.old o ha) _)]
    try simp
    exact wp_some (.if (by simp [inferD]) o a')
  · obtain ⟨a, rfl⟩ := len1 (l := ls) (by omega); have ha : In h ints a [el 0] := he 0 (by simp); have oka : dimsOk a = true := hok 0 (by simp); have la := dimsOk_len oka; have sa : a.length * 8 ≤ 140737488355328 := by omega
    refine wp_call (ref0_CopyNumbers hd hdl _ (Nat.le_refl _)) fun v' h' ⟨o, a'⟩ => ?_
    simp only at o a'
    have hs' := hs.old o (Nat.le_refl _)
    try simp
    refine wp_idx hs' rfl (by simp) ?_; (try simp); refine wp_cell hs' (by simp) (hc 0 (by simp)) rfl ?_; (try simp)
    rw [callK_eq (ref1_Wider (In.old o ha) (In.old o hd) _)]
    try simp
    exact wp_some (.if (by simp [inferD]) o a')
  · obtain ⟨a, rfl⟩ := len1 (l := ls) (by omega); have ha : In h ints a [el 0] := he 0 (by simp); have oka : dimsOk a = true := hok 0 (by simp); have la := dimsOk_len oka; have sa : a.length * 8 ≤ 140737488355328 := by omega
    refine wp_call (ref0_CopyNumbers hd hdl _ (Nat.le_refl _)) fun v' h' ⟨o, a'⟩ => ?_
    simp only at o a'
    have hs' := hs.old o (Nat.le_refl _)
    try simp
    refine wp_idx hs' rfl (by simp) ?_; (try simp); refine wp_cell hs' (by simp) (hc 0 (by simp)) rfl ?_; (try simp)
    rw [callK_eq (ref1_Wider (In.old o hd) (In.old o ha) _)]
    try simp
    exact wp_some (.if (by simp [inferD]) o a')
  · obtain ⟨a, rfl⟩ := len1 (l := ls) (by omega); have ha : In h ints a [el 0] := he 0 (by simp); have oka : dimsOk a = true := hok 0 (by simp); have la := dimsOk_len oka; have sa : a.length * 8 ≤ 140737488355328 := by omega
    refine wp_idx hs rfl (by simp) ?_; (try simp); refine wp_cell hs (by simp) (hc 0 (by simp)) rfl ?_; (try simp)
    refine wp_call (ref0_CopyNumbers ha sa b hb) fun v' h' ⟨o, a'⟩ => ?_
    try simp
    exact wp_some (.yes (by simp [inferD]) o a')
  · obtain ⟨a, rfl⟩ := len1 (l := ls) (by omega); have ha : In h ints a [el 0] := he 0 (by simp); have oka : dimsOk a = true := hok 0 (by simp); have la := dimsOk_len oka; have sa : a.length * 8 ≤ 140737488355328 := by omega
    obtain ⟨da, sa1, ca, ra, _⟩ := ha.ints
    have hn1 : 1 ≤ n := by simp [numberOk] at hn; omega
    have hw : IntKind.i64.wrap ((a.length : Int) - 1) = ((a.length - 1 : Nat) : Int) := by rw [w64_id (by omega) (by omega)]; omega
    have hlast : lastD a = a[a.length - 1] := by rw [lastD, List.getD_eq_getElem?_getD, List.getElem?_eq_getElem (by omega)]; rfl
    refine wp_idx hs rfl (by simp) ?_; (try simp); refine wp_cell hs (by simp) (hc 0 (by simp)) rfl ?_; (try simp)
    refine wp_idx hs rfl (by simp) ?_; (try simp); refine wp_cell hs (by simp) (hc 0 (by simp)) rfl ?_; (try simp)
    refine wp_len sa1 ?_
    try simp
    rw [hw]
    refine wp_idx sa1 rfl (by omega) ?_
    try simp
    refine wp_cell sa1 (by omega) (ca (a.length - 1) (by omega)) rfl ?_
    try simp
    refine wp_guard (by omega) ?_
    try simp
    rw [← hlast]
    refine wp_ndec (fun hne => wp_some (.no (by simp [inferD, hne]) (Old.refl (Nat.le_refl _)))) fun heq => ?_
    try simp
    refine wp_idx hs rfl (by simp) ?_; (try simp); refine wp_cell hs (by simp) (hc 0 (by simp)) rfl ?_; (try simp)
    refine wp_call (ref1_less ha sa (by intro e; simp [e] at la) hn1 b hb) fun v' h' ⟨o, a'⟩ => ?_
    simp only at o a'
    try simp
    exact wp_some (.yes (by simp [inferD, heq]) o a')
  · obtain ⟨a, c, rfl⟩ := len2 (l := ls) (by omega); have ha : In h ints a [el 0] := he 0 (by simp); have hcc : In h ints c [el 1] := he 1 (by simp); have oka : dimsOk a = true := hok 0 (by simp); have okc : dimsOk c = true := hok 1 (by simp); have la := dimsOk_len oka; have lc := dimsOk_len okc; have sa : a.length * 8 ≤ 140737488355328 := by omega
    refine wp_idx hs rfl (by simp) ?_; (try simp); refine wp_cell hs (by simp) (hc 0 (by simp)) rfl ?_; (try simp)
    refine wp_call (ref0_CopyNumbers ha sa _ (Nat.le_refl _)) fun v' h' ⟨o, a'⟩ => ?_
    simp only at o a'
    have hs' := hs.old o (Nat.le_refl _)
    try simp
    refine wp_idx hs' rfl (by simp) ?_; (try simp); refine wp_cell hs' (by simp) (hc 0 (by simp)) rfl ?_; (try simp)
    refine wp_idx hs' rfl (by simp) ?_; (try simp); refine wp_cell hs' (by simp) (hc 1 (by simp)) rfl ?_; (try simp)
    rw [callK_eq (ref0_EqNumbers (In.old o ha) (In.old o hcc) _)]
    try simp
    exact wp_some (.if (by simp [inferD]) o a')
  · obtain ⟨a, c, rfl⟩ := len2 (l := ls) (by omega); have ha : In h ints a [el 0] := he 0 (by simp); have hcc : In h ints c [el 1] := he 1 (by simp); have oka : dimsOk a = true := hok 0 (by simp); have okc : dimsOk c = true := hok 1 (by simp); have la := dimsOk_len oka; have lc := dimsOk_len okc; have sa : a.length * 8 ≤ 140737488355328 := by omega
    obtain ⟨da, sa1, ca, ra, _⟩ := ha.ints
    have hn1 : 1 ≤ n := by simp [numberOk] at hn; omega
    have hw : IntKind.i64.wrap ((a.length : Int) - 1) = ((a.length - 1 : Nat) : Int) := by rw [w64_id (by omega) (by omega)]; omega
    have hlast : lastD a = a[a.length - 1] := by rw [lastD, List.getD_eq_getElem?_getD, List.getElem?_eq_getElem (by omega)]; rfl
    refine wp_idx hs rfl (by simp) ?_; (try simp); refine wp_cell hs (by simp) (hc 0 (by simp)) rfl ?_; (try simp)
    refine wp_idx hs rfl (by simp) ?_; (try simp); refine wp_cell hs (by simp) (hc 0 (by simp)) rfl ?_; (try simp)
    refine wp_len sa1 ?_
    try simp
    rw [hw]
    refine wp_idx sa1 rfl (by omega) ?_
    try simp
    refine wp_cell sa1 (by omega) (ca (a.length - 1) (by omega)) rfl ?_
    try simp
    refine wp_guard (by omega) ?_
    try simp
    rw [← hlast]
    refine wp_ndec (fun hne => wp_some (.no (by simp [inferD, hne]) (Old.refl (Nat.le_refl _)))) fun heq => ?_
    try simp
    refine wp_idx hs rfl (by simp) ?_; (try simp); refine wp_cell hs (by simp) (hc 0 (by simp)) rfl ?_; (try simp)
    refine wp_call (ref1_less ha sa (by intro e; simp [e] at la) hn1 b hb) fun v' h' ⟨o, a'⟩ => ?_
    simp only at o a'
    try simp
    have hs' := hs.old o (Nat.le_refl _)
    refine wp_idx hs' rfl (by simp) ?_; (try simp); refine wp_cell hs' (by simp) (hc 0 (by simp)) rfl ?_; (try simp)
    have hi : In h' ints (lessD a n) [v'] := (a'.holds (Nat.le_refl _)).mono fun j hj => hj.2
    refine wp_call (ref0_CopyNumbers (In.old o ha) sa _ (Nat.le_refl _)) fun v'' h'' ⟨o', a''⟩ => ?_
    simp only at o' a''
    have o2 := o.trans (o'.mono o.1)
    have hs'' := hs.old o2 (Nat.le_refl _)
    try simp
    refine wp_idx hs'' rfl (by simp) ?_; (try simp); refine wp_cell hs'' (by simp) (hc 1 (by simp)) rfl ?_; (try simp)
    rw [callK_eq (ref0_EqNumbers (In.old o' hi) (In.old o2 hcc) _)]
    try simp
    exact wp_some (.if (by simp [inferD, heq]) o2 (a''.mono o.1 o.1))
end
end Go.AM

/- Nodes: their form, their dims. -/
namespace Go.AM
set_option maxRecDepth 20000
section
variable {h : Heap}
/-- One more node's dims, or the error. -/
def inferE (k n : Int) (d : List Int) (ls : List (List Int)) : List Int × Int :=
  if formOk k n d ls = true then (match inferD k n d ls with | some x => (x, 0) | none => ([], 4)) else ([], 1)
theorem inferD_ne {k n : Int} {d : List Int} {ls : List (List Int)} (hf : formOk k n d ls = true) {x : List Int} (hx : inferD k n d ls = some x) : x ≠ [] := by
  simp only [formOk, Bool.and_eq_true, decide_eq_true_eq, List.all_eq_true] at hf
  obtain ⟨⟨⟨⟨⟨hk1, hk2⟩, hlen⟩, hall⟩, hn⟩, hdd⟩ := hf
  have hd : asked k = true → d ≠ [] := fun h e => by
    rw [if_pos h] at hdd
    have := dimsOk_len hdd
    simp [e] at this
  have ha : 1 ≤ ls.length → ls.getD 0 [] ≠ [] := fun h e => by
    have h0 : ls.getD 0 [] ∈ ls := by
      rw [List.getD_eq_getElem?_getD, List.getElem?_eq_getElem (by omega)]
      exact List.getElem_mem _
    have := dimsOk_len (hall _ h0)
    rw [e] at this
    simp at this
  have ha' : ¬ (k = 1 ∨ k = 2 ∨ k = 3) → ls.getD 0 [] ≠ [] := fun h => ha (by
    unfold many at hlen
    split at hlen
    · omega
    · split at hlen <;> omega)
  have ln : ∀ a : List Int, lessD a n = [] → a = [] := fun a h => List.length_eq_zero_iff.1 (by
    have := congrArg List.length h
    simpa [lessD] using this)
  intro e
  subst e
  unfold inferD at hx
  simp only at hx
  repeat' (split at hx)
  all_goals first
    | exact absurd (Option.some.inj hx) (hd (by simp [asked]; omega))
    | exact absurd (Option.some.inj hx) (ha' (by omega))
    | exact absurd (ln _ (Option.some.inj hx)) (ha' (by omega))
    | cases hx
theorem kernel_Dims {vd vl : AV} {k n : Int} {d : List Int} {ls : List (List Int)} (hd : In h ints d [vd]) (hl : In h (.slice ints) ls [vl]) (b : Nat) (hb : b ≤ h.length) :
    WP (call prog b 99 [.int .i64 k, .int .i64 n, vd, vl] h) fun r => Old h.length h r.2 ∧ ∃ v', r.1 = .tup [v', .int .i64 (inferE k n d ls).2] ∧ AccP h.length h.length r.2 int v' (inferE k n d ls).1 := by
  refine wp_enter (fn := C.kernel_Dims) rfl ?_
  dsimp only [bodyN, C.kernel_Dims]; simp
  rw [callK_eq (kernel_form hd hl k n b)]
  try simp
  refine wp_iteK (fun hf => ?_) fun hf => ?_
  · try simp
    simp only [Bool.not_eq_true'] at hf
    exact wp_some ⟨Old.refl (Nat.le_refl _), .nil, by simp [inferE, hf], by simp [inferE, hf]; exact AccP.nil⟩
  · try simp
    simp only [Bool.not_eq_false'] at hf
    refine wp_call (kernel_dims hd hl hf b hb) fun v' h' ⟨o, a⟩ => ?_
    simp only at o a
    obtain ⟨da, sa, _, _, _⟩ := a.ints
    try simp
    refine wp_len sa ?_
    try simp
    cases hx : inferD k n d ls with
    | none =>
      simp [hx]
      refine wp_some ⟨o, .nil, by simp [inferE, hf, hx], by simp [inferE, hf, hx]; exact AccP.nil⟩
    | some x =>
      have hne := inferD_ne hf hx
      rw [hx] at a
      have hl : ¬ ((x.length : Int) = 0) := fun e => hne (List.length_eq_zero_iff.1 (by omega))
      simp [hx, hne]
      exact wp_some ⟨o, v', by simp [inferE, hf, hx], by simpa [inferE, hf, hx] using a⟩
theorem graph_Asked {x : node.den} {cs : List AV} (hx : In h node x cs) (b : Nat) (hb : b ≤ h.length) :
    WP (call prog b 97 [.agg cs] h) fun r => Old h.length h r.2 ∧ In h ints (if asked x.2.1 = true then x.2.2.2.1 else []) [r.1] := by
  obtain ⟨a, d, rfl, ha, hd, _⟩ := hx.node
  refine wp_enter (fn := C.graph_Asked) rfl ?_
  dsimp only [bodyN, C.graph_Asked]; simp
  refine wp_new1 rfl ?_
  try simp
  refine wp_iteK (fun hk => ?_) fun hk => ?_
  · try simp
    refine wp_new1 rfl ?_
    try simp
    exact wp_some ⟨Old.app, by simpa [hk] using hd⟩
  · try simp
    exact wp_some ⟨Old.app, by simp [hk]; exact ⟨.nil, [], rfl, ⟨Nat.zero_le _, rfl, rfl⟩, fun i x hi => by simp at hi⟩⟩
end
end Go.AM

/- Lists of nodes: what would be one more's dims; which may be. -/
namespace Go.AM
set_option maxRecDepth 20000
/-- The dims of a node's. -/
def dimsAt (l : List node.den) (a : Int) : List Int := ((l[a.toNat]?).map (·.2.2.2.1)).getD []
def argsOk (n : Nat) (args : List Int) : Bool := args.all fun a => decide (0 ≤ a) && decide (a < (n : Int))
/-- One more node's dims behind these, or the error. -/
def inferL (l : List node.den) (k n : Int) (d : List Int) (args : List Int) : List Int × Int :=
  if argsOk l.length args = true then inferE k n d (args.map (dimsAt l)) else ([], 1)
section
variable {h : Heap}
theorem ref7_DimsOf {vl va : AV} {l : List node.den} {args : List Int} (hl : In h nodes l [vl]) (ha : In h ints args [va]) (hok : argsOk l.length args = true) (hsz : args.length * 24 ≤ 140737488355328) (b : Nat) (hb : b ≤ h.length) :
    WP (call prog b 63 [vl, va] h) fun r => Old h.length h r.2 ∧ AccP 0 h.length r.2 ints r.1 (args.map (dimsAt l)) := by
  obtain ⟨dl, sl, cl, bl⟩ := hl.nodes
  obtain ⟨da, sa, ca, ra, ba⟩ := ha.ints
  refine wp_enter (fn := C.ref7_DimsOf) rfl ?_
  dsimp only [bodyN, C.ref7_DimsOf, C.ref7_DimsOf_l0]; simp
  refine wp_loop (I := fun m e h' => Old h.length h h' ∧ ∃ i v, e = (ea 0 vl <| ea 1 va <| ea 5 v <| ea 6 (.int .i64 (i : Nat)) e0) ∧ i + m = args.length ∧ AccP 0 h.length h' ints v ((args.take i).map (dimsAt l))) ?_ ⟨Old.refl (Nat.le_refl _), 0, .nil, rfl, Nat.zero_add _, AccP.nil⟩
  rintro N m e h' ⟨old, i, v, rfl, him, acc⟩ next
  have sa' := sa.old old (Nat.le_refl _)
  have sl' := sl.old old (Nat.le_refl _)
  have ho := old.1
  dsimp only [C.ref7_DimsOf_b0]; simp [layAt]
  refine wp_len sa' ?_
  try simp
  refine wp_dec (fun hi => ?_) fun hi => ?_
  · try simp
    refine wp_idx sa' rfl hi ?_
    try simp
    refine wp_cell sa' hi (ca i hi) rfl ?_
    try simp
    have hr : 0 ≤ args[i] ∧ args[i] < l.length := by
      have := List.all_eq_true.1 hok args[i] (List.getElem_mem hi)
      simpa using this
    obtain ⟨j, hj⟩ : ∃ j : Nat, args[i] = (j : Int) := ⟨args[i].toNat, by omega⟩
    have hjl : j < l.length := by omega
    obtain ⟨a, d, e, _, hd, _⟩ := cl j hjl
    refine wp_idx sl' hj hjl ?_
    try simp
    refine wp_cell sl' hjl e rfl ?_
    try simp
    refine wp_cells hd.one1 ?_
    simp [layAt]
    have acc2 := acc.keep (h' := h' ++ [AObj.cells 0 1 [d]]) Old.app
    have o2 : Old h.length h (h' ++ [AObj.cells 0 1 [d]]) := old.trans (Old.app.mono ho)
    refine wp_push (x := dimsAt l args[i]) (bytes := 24) acc2 (Holds.beside (by rw [hj]; simpa [dimsAt, List.getElem?_eq_getElem hjl] using hd) acc2 o2) rfl hb (by simp; omega) (by simp; omega) (by simp; omega) fun a' h2 _ o3 acc' => ?_
    try simp
    rw [succ64 hi ba]
    exact next (m - 1) _ _ (by omega) ⟨o2.trans o3, i + 1, _, rfl, by omega, by rw [map_take_succ _ hi]; exact acc'⟩
  · refine wp_some ⟨old, ?_⟩
    rwa [List.take_of_length_le (by omega)] at acc
theorem graph_infer {vd vl va : AV} {k n : Int} {d : List Int} {l : List node.den} {args : List Int} (hd : In h ints d [vd]) (hl : In h nodes l [vl]) (ha : In h ints args [va]) (hsz : args.length * 24 ≤ 140737488355328) (b : Nat) (hb : b ≤ h.length) :
    WP (call prog b 62 [.int .i64 k, .int .i64 n, vd, vl, va] h) fun r => Old h.length h r.2 ∧ ∃ v', r.1 = .tup [v', .int .i64 (inferL l k n d args).2] ∧ AccP h.length h.length r.2 int v' (inferL l k n d args).1 := by
  obtain ⟨dl, sl, cl, bl⟩ := hl.nodes
  obtain ⟨da, sa, ca, ra, ba⟩ := ha.ints
  refine wp_enter (fn := C.graph_infer) rfl ?_
  dsimp only [bodyN, C.graph_infer, C.graph_infer_l0]; simp
  refine wp_len sa ?_
  try simp
  refine wp_loop (I := fun m e h' => Old h.length h h' ∧ ∃ i v, e = (ea 0 (.int .i64 k) <| ea 1 (.int .i64 n) <| ea 2 vd <| ea 3 vl <| ea 12 v <| ea 15 va <| ea 16 (.int .i64 args.length) <| ea 17 (.int .i64 (i : Nat)) e0) ∧ i + m = args.length ∧ argsOk l.length (args.take i) = true ∧ AccP 0 h.length h' ints v ((args.take i).map (dimsAt l))) ?_ ⟨Old.refl (Nat.le_refl _), 0, .nil, rfl, Nat.zero_add _, rfl, AccP.nil⟩
  rintro N m e h' ⟨old, i, v, rfl, him, hok, acc⟩ next
  have sa' := sa.old old (Nat.le_refl _)
  have sl' := sl.old old (Nat.le_refl _)
  have ho := old.1
  dsimp only [C.graph_infer_b0]; simp [layAt]
  refine wp_dec (fun hi => ?_) fun hi => ?_
  · try simp
    refine wp_idx sa' rfl hi ?_
    try simp
    refine wp_cell sa' hi (ca i hi) rfl ?_
    try simp
    have bad : ¬ (0 ≤ args[i] ∧ args[i] < (l.length : Int)) → inferL l k n d args = ([], 1) := fun hn => by
      have : argsOk l.length args = false := by
        rw [argsOk, List.all_eq_false]
        refine ⟨args[i], List.getElem_mem hi, ?_⟩
        simp at hn ⊢
        omega
      simp [inferL, this]
    refine wp_dec (fun h1 => wp_some ⟨old, .nil, by rw [bad (by omega)], by rw [bad (by omega)]; exact AccP.nil⟩) fun h1 => ?_
    refine wp_len sl' ?_
    try simp
    refine wp_dec (fun h2 => wp_some ⟨old, .nil, by rw [bad (by omega)], by rw [bad (by omega)]; exact AccP.nil⟩) fun h2 => ?_
    try simp
    obtain ⟨j, hj⟩ : ∃ j : Nat, args[i] = (j : Int) := ⟨args[i].toNat, by omega⟩
    have hjl : j < l.length := by omega
    obtain ⟨a, dd, e, _, hdd, _⟩ := cl j hjl
    refine wp_idx sl' hj hjl ?_
    try simp
    refine wp_cell sl' hjl e rfl ?_
    try simp
    refine wp_cells hdd.one1 ?_
    simp [layAt]
    have acc2 := acc.keep (h' := h' ++ [AObj.cells 0 1 [dd]]) Old.app
    have o2 : Old h.length h (h' ++ [AObj.cells 0 1 [dd]]) := old.trans (Old.app.mono ho)
    refine wp_push (x := dimsAt l args[i]) (bytes := 24) acc2 (Holds.beside (by rw [hj]; simpa [dimsAt, List.getElem?_eq_getElem hjl] using hdd) acc2 o2) rfl hb (by simp; omega) (by simp; omega) (by simp; omega) fun a' h2 _ o3 acc' => ?_
    try simp
    rw [succ64 hi ba]
    exact next (m - 1) _ _ (by omega) ⟨o2.trans o3, i + 1, _, rfl, by omega, by
      rw [take_succ_app hi, argsOk, List.all_append]
      rw [argsOk] at hok
      rw [hok]
      simp
      omega, by rw [map_take_succ _ hi]; exact acc'⟩
  · rw [List.take_of_length_le (by omega)] at acc hok
    try simp
    have hli : In h' (.slice ints) (args.map (dimsAt l)) [v] := (acc.holds (Nat.zero_le _)).mono fun j hj => hj.2
    refine wp_call (kernel_Dims (In.old old hd) hli b (Nat.le_trans hb ho)) fun v1 h1 ⟨o1, v', e1, a1⟩ => ?_
    simp only at o1 e1 a1
    subst e1
    try simp
    refine wp_some ⟨old.trans (o1.mono ho), v', by simp [inferL, hok], ?_⟩
    rw [inferL, if_pos hok]
    exact a1.mono ho ho
/-- May a node be behind these? -/
def nodeOk (l : List node.den) (x : node.den) : Bool := decide (inferL l x.2.1 x.2.2.2.2 (if asked x.2.1 = true then x.2.2.2.1 else []) x.2.2.1 = (x.2.2.2.1, 0))
/-- May these be, up to one? -/
def allOk (l : List node.den) : Nat → Bool
  | 0 => true
  | i + 1 => allOk l i && (match l[i]? with | some x => nodeOk (l.take i) x | none => true)
theorem allOk_false {l : List node.den} {i : Nat} (h : allOk l i = false) : ∀ {j : Nat}, i ≤ j → allOk l j = false := fun {j} hj => by
  induction j with
  | zero => exact (Nat.le_zero.1 hj) ▸ h
  | succ j ih =>
    rcases Nat.eq_or_lt_of_le hj with e | e
    · exact e ▸ h
    · rw [allOk, ih (by omega)]; rfl
/-- May these be nodes? -/
def mayL (l : List node.den) : Bool := decide (l.length ≤ 240) && allOk l l.length
/-- Nothing is too long. -/
def Small (l : List node.den) : Prop := ∀ x ∈ l, x.2.2.1.length * 24 ≤ 140737488355328 ∧ x.2.2.2.1.length * 24 ≤ 140737488355328
theorem graph_May {vl : AV} {l : List node.den} (hl : In h nodes l [vl]) (hs : Small l) (b : Nat) (hb : b ≤ h.length) :
    WP (call prog b 61 [vl] h) fun r => Old h.length h r.2 ∧ r.1 = .bool (mayL l) := by
  obtain ⟨dl, sl, cl, bl⟩ := hl.nodes
  refine wp_enter (fn := C.graph_May) rfl ?_
  dsimp only [bodyN, C.graph_May, C.graph_May_l0]; simp
  refine wp_len sl ?_
  try simp
  refine wp_dec (fun h1 => wp_some ⟨Old.refl (Nat.le_refl _), ?_⟩) fun h1 => ?_
  · have : ¬ l.length ≤ 240 := by omega
    simp [mayL, this]
  refine wp_len sl ?_
  try simp
  have hm : mayL l = allOk l l.length := by
    have : l.length ≤ 240 := by omega
    simp [mayL, this]
  refine wp_loop (I := fun m e h' => Old h.length h h' ∧ ∃ i, e = (ea 0 vl <| ea 10 vl <| ea 11 (.int .i64 l.length) <| ea 12 (.int .i64 (i : Nat)) e0) ∧ i + m = l.length ∧ allOk l i = true) ?_ ⟨Old.refl (Nat.le_refl _), 0, rfl, Nat.zero_add _, rfl⟩
  rintro N m e h' ⟨old, i, rfl, him, hok⟩ next
  have sl' := sl.old old (Nat.le_refl _)
  have ho := old.1
  dsimp only [C.graph_May_b0]; simp
  refine wp_dec (fun hi => ?_) fun hi => ?_
  · try simp
    obtain ⟨a, d, e, ha, hd, hn⟩ := cl i hi
    refine wp_idx sl' rfl hi ?_
    try simp
    refine wp_elem sl' hi e ?_
    try simp
    refine wp_init (Nat.le_trans hb ho) (by rfl) (by rfl) ?_
    try simp
    generalize hh : h' ++ [AObj.cells 0 1 [AV.str l[i].fst, AV.int IntKind.i64 l[i].snd.fst, a, d, AV.int IntKind.i64 l[i].snd.snd.snd.snd]] = h1
    have o1 : Old h.length h h1 := hh ▸ old.trans (Old.app.mono ho)
    have hbx : h1[h'.length]? = some (.cells 0 1 [AV.str l[i].fst, AV.int IntKind.i64 l[i].snd.fst, a, d, AV.int IntKind.i64 l[i].snd.snd.snd.snd]) := by rw [← hh]; simp
    refine wp_ptr1 hbx rfl ?_
    try simp
    refine wp_ptr1 hbx rfl ?_
    try simp
    refine wp_ptrs hbx (by simp) ?_
    try simp
    refine wp_call (graph_Asked (x := l[i]) (In.old o1 hn) _ (Nat.le_refl _)) fun v2 h2 ⟨o2, d2⟩ => ?_
    simp only at o2 d2
    try simp
    have o12 := o1.trans (o2.mono o1.1)
    have sl2 := sl.old o12 (Nat.le_refl _)
    refine wp_len sl2 ?_
    try simp
    refine wp_guard (by omega) ?_
    try simp
    refine wp_cut (p := node) (l := l) (In.old o12 hl) rfl (Nat.zero_le i) (by omega) rfl rfl fun v3 h3 => ?_
    try simp
    have hlt : h'.length < h1.length := (List.getElem?_eq_some_iff.1 hbx).1
    have hbx2 := (o2.2 _ hlt).trans hbx
    refine wp_ptr1 hbx2 rfl ?_
    try simp
    have hsz := (hs l[i] (List.getElem_mem hi)).1
    refine wp_call (graph_infer (l := (l.drop 0).take (i - 0)) (args := l[i].2.2.1) (In.old o2 d2) h3 (In.old o12 ha) hsz _ (Nat.le_refl _)) fun v4 h4 ⟨o4, v5, e4, a4⟩ => ?_
    simp only [List.drop_zero, Nat.sub_zero] at o4 e4 a4
    subst e4
    try simp
    have o124 := o12.trans (o4.mono o12.1)
    have hkey : allOk l (i + 1) = nodeOk (l.take i) l[i] := by
      rw [allOk, hok, List.getElem?_eq_getElem hi]
      rfl
    have bad : nodeOk (l.take i) l[i] = false → mayL l = false := fun hn => by
      rw [hm]
      exact allOk_false (hkey.trans hn) hi
    refine wp_ndec (fun hne => wp_some ⟨o124, ?_⟩) fun heq => ?_
    · have : nodeOk (l.take i) l[i] = false := by
        rw [nodeOk, decide_eq_false_iff_not]
        intro e
        rw [e] at hne
        exact hne rfl
      rw [bad this]
    · have hbx4 := (o4.2 _ (Nat.lt_of_lt_of_le hlt o2.1)).trans hbx2
      try simp
      refine wp_ptr1 hbx4 rfl ?_
      try simp
      have hi5 := (a4.holds (Nat.le_refl _)).mono (T := fun j => j < h4.length) fun j hj => hj.2
      rw [callK_eq (slices_Equal_int hi5 (In.old o124 hd) b)]
      try simp
      refine wp_ndec (fun hne => wp_some ⟨o124, ?_⟩) fun hed => ?_
      · have : nodeOk (l.take i) l[i] = false := by
          rw [nodeOk, decide_eq_false_iff_not]
          intro e
          rw [e] at hne
          exact hne rfl
        rw [bad this]
      · try simp
        rw [succ64 hi bl]
        exact next (m - 1) _ _ (by omega) ⟨o124, i + 1, rfl, by omega, by
          rw [hkey, nodeOk, decide_eq_true_eq]
          exact Prod.ext hed heq⟩
  · try simp
    have : i = l.length := by omega
    subst this
    exact wp_some ⟨old, by rw [hm, hok]⟩
end
end Go.AM

/- The page's own: which nodes may be. -/
namespace Go.AM
set_option maxRecDepth 20000
section
variable {h : Heap}
theorem argsOk_mono {n m : Nat} (h : n ≤ m) {args : List Int} (k : argsOk n args = true) : argsOk m args = true := by
  rw [argsOk, List.all_eq_true] at k ⊢
  intro a ha
  have := k a ha
  simp at this ⊢
  omega
end
end Go.AM

/- How much is handed in. -/
namespace Go.AM
set_option maxRecDepth 20000
section
variable {S : Nat → Prop} {h : Heap}
/-- Lists' weight: as many, and all their numbers. -/
def wLists (l : List (List Int)) : Nat := l.length + (l.map List.length).sum
theorem sum_take_succ (f : List Int → Nat) {l : List (List Int)} {i : Nat} (hi : i < l.length) : ((l.take (i + 1)).map f).sum = ((l.take i).map f).sum + f l[i] := by
  rw [map_take_succ f hi, List.sum_append]
  simp
theorem law0_Lists {v : AV} {l : List (List Int)} (hl : Holds S h (.slice ints) l [v]) (b : Nat) :
    WP (call prog b 58 [v] h) fun r => r.2 = h ∧ ∃ n : Nat, r.1 = .int .i64 n ∧ n ≤ 281474976710656 ∧ (n < 1048576 → n = wLists l) := by
  obtain ⟨ds, el, hs, hc, he, hb⟩ := hl.lists
  refine wp_enter (fn := C.law0_Lists) rfl ?_
  dsimp only [bodyN, C.law0_Lists, C.law0_Lists_l0]; simp
  refine wp_len hs ?_
  try simp
  refine wp_loop (I := fun m e h' => h' = h ∧ ∃ i n : Nat, e = (ea 0 v <| ea 3 (.int .i64 (n : Nat)) <| ea 4 (.int .i64 (i : Nat)) e0) ∧ i + m = l.length ∧ n ≤ 281474976710656 ∧ n = l.length + ((l.take i).map List.length).sum) ?_ ⟨rfl, 0, l.length, rfl, Nat.zero_add _, by omega, by simp⟩
  rintro N m e _ ⟨rfl, i, n, rfl, him, hn, hsum⟩ next
  dsimp only [C.law0_Lists_b0]; simp
  refine wp_len hs ?_
  try simp
  refine wp_dec (fun hi => ?_) fun hi => ?_
  · try simp
    refine wp_dec (fun h2 => ?_) fun h2 => wp_some ⟨rfl, n, rfl, hn, fun h3 => absurd (by omega) h2⟩
    try simp
    refine wp_idx hs rfl hi ?_
    try simp
    refine wp_cell hs hi (hc i hi) rfl ?_
    try simp
    obtain ⟨de, se, _, _, be⟩ := (he i hi).ints
    refine wp_len se ?_
    try simp
    rw [succ64 hi hb, show ((n : Int) + (l[i].length : Int)) = ((n + l[i].length : Nat) : Int) by omega, w64_id (by omega) (by omega)]
    exact next (m - 1) _ _ (by omega) ⟨rfl, i + 1, _, rfl, by omega, by omega, by rw [sum_take_succ _ hi]; omega⟩
  · try simp
    refine wp_some ⟨rfl, n, rfl, hn, fun _ => ?_⟩
    rw [List.take_of_length_le (by omega)] at hsum
    exact hsum
/-- A node's weight. -/
def wNode (x : node.den) : Nat := x.2.2.1.length + x.2.2.2.1.length + x.1.size / 8
def wNodes (l : List node.den) : Nat := l.length + (l.map wNode).sum
theorem law0_NodesWeight {v : AV} {l : List node.den} (hl : Holds S h nodes l [v]) (b : Nat) :
    WP (call prog b 59 [v] h) fun r => r.2 = h ∧ ∃ n : Nat, r.1 = .int .i64 n ∧ n ≤ 1125899906842624 ∧ (n < 1048576 → n = wNodes l) := by
  obtain ⟨ds, hs, hc, hb⟩ := hl.nodes
  refine wp_enter (fn := C.law0_NodesWeight) rfl ?_
  dsimp only [bodyN, C.law0_NodesWeight, C.law0_NodesWeight_l0]; simp
  refine wp_len hs ?_
  try simp
  refine wp_loop (I := fun m e h' => h' = h ∧ ∃ i n : Nat, e = (ea 0 v <| ea 3 (.int .i64 (n : Nat)) <| ea 4 (.int .i64 (i : Nat)) e0) ∧ i + m = l.length ∧ n ≤ 1125899906842624 ∧ n = l.length + ((l.take i).map wNode).sum) ?_ ⟨rfl, 0, l.length, rfl, Nat.zero_add _, by omega, by simp⟩
  rintro N m e _ ⟨rfl, i, n, rfl, him, hn, hsum⟩ next
  dsimp only [C.law0_NodesWeight_b0]; simp
  refine wp_len hs ?_
  try simp
  refine wp_dec (fun hi => ?_) fun hi => ?_
  · try simp
    refine wp_dec (fun h2 => ?_) fun h2 => wp_some ⟨rfl, n, rfl, hn, fun h3 => absurd (by omega) h2⟩
    try simp
    obtain ⟨a, d, e, ha, hd, hx⟩ := hc i hi
    refine wp_idx hs rfl hi ?_
    try simp
    refine wp_cell hs hi e rfl ?_
    try simp
    obtain ⟨da, sa, _, _, ba⟩ := ha.ints
    obtain ⟨dd, sd, _, _, bd⟩ := hd.ints
    obtain ⟨_, _, _, _, _, _, _, bn⟩ := hx.node
    refine wp_len sa ?_
    try simp
    refine wp_idx hs rfl hi ?_
    try simp
    refine wp_cell hs hi e rfl ?_
    try simp
    refine wp_len sd ?_
    try simp
    refine wp_idx hs rfl hi ?_
    try simp
    refine wp_cell hs hi e rfl ?_
    try simp
    have hw : wNode l[i] = l[i].2.2.1.length + l[i].2.2.2.1.length + l[i].1.size / 8 := rfl
    have hstep : n + wNode l[i] = l.length + ((l.take (i + 1)).map wNode).sum := by
      rw [map_take_succ wNode hi, List.sum_append]
      simp only [List.sum_cons, List.sum_nil]
      omega
    rw [succ64 hi hb, w64_id (n := (n : Int) + (l[i].2.2.1.length : Int)) (by omega) (by omega), w64_id (n := (n : Int) + (l[i].2.2.1.length : Int) + (l[i].2.2.2.1.length : Int)) (by omega) (by omega), w64_id (n := (l[i].1.size : Int) / 8) (by omega) (by omega), w64_id (by omega) (by omega),
      show ((n : Int) + (l[i].2.2.1.length : Int) + (l[i].2.2.2.1.length : Int) + (l[i].1.size : Int) / 8) = ((n + wNode l[i] : Nat) : Int) by omega]
    exact next (m - 1) _ _ (by omega) ⟨rfl, i + 1, _, rfl, by omega, by omega, hstep⟩
  · try simp
    refine wp_some ⟨rfl, n, rfl, hn, fun _ => ?_⟩
    rw [List.take_of_length_le (by omega)] at hsum
    exact hsum
/-- What graph's laws are handed. -/
theorem holds_ask8 {y : ask8.den} {as : List AV} (H : Holds S h ask8 y as) : ∃ vl vn vd, as = [vl, vn, vd] ∧ Holds S h (.slice nodes) y.1 [vl] ∧ Holds S h (.slice (.int .i64)) y.2.1 [vn] ∧ Holds S h (.slice (.slice (.int .i64))) y.2.2 [vd] := by
  obtain ⟨c1, c2, rfl, hl, c3, c4, rfl, hn, hd⟩ := H
  obtain ⟨vl, _, rfl, _⟩ := id hl
  obtain ⟨vn, _, rfl, _⟩ := id hn
  obtain ⟨vd, _, rfl, _⟩ := id hd
  exact ⟨vl, vn, vd, rfl, hl, hn, hd⟩
/-- Light enough to be played. -/
def light8 (y : ask8.den) : Prop := y.2.1.length + wLists y.2.2 + (y.1.map wNodes).sum ≤ 1200
/-- Whether it is too heavy; if not, it is light. -/
def Weighed (h : Heap) (light : Prop) (r : AV × Heap) : Prop := Old h.length h r.2 ∧ ∃ q, r.1 = .bool q ∧ (q = false → light)
theorem law8_Heavy {y : ask8.den} {as : List AV} (H : In h ask8 y as) (b : Nat) (hb : b ≤ h.length) :
    WP (call prog b 0 [.agg as] h) (Weighed h (light8 y)) := by
  obtain ⟨vl, vn, vd, rfl, hl, hn, hd⟩ := holds_ask8 H
  obtain ⟨dl, sl, cl⟩ := hl.elem
  obtain ⟨dn, sn, _, _, bn⟩ := hn.ints
  refine wp_enter (fn := C.law8_Heavy) rfl ?_
  dsimp only [bodyN, C.law8_Heavy, C.law8_Heavy_l0]; simp
  generalize hh : h ++ [AObj.cells 0 1 [vl, vn, vd]] = h1
  have o1 : Old h.length h h1 := hh ▸ Old.app
  have hbx : h1[h.length]? = some (.cells 0 1 [vl, vn, vd]) := by rw [← hh]; simp
  have sn1 := sn.old o1 (Nat.le_refl _)
  refine wp_ptr1 hbx rfl ?_
  try simp
  refine wp_len sn1 ?_
  try simp
  refine wp_ptr1 hbx rfl ?_
  try simp
  refine wp_call (law0_Lists (In.old o1 hd) _) fun v2 h2 ⟨e2, n2, e2', b2, c2⟩ => ?_
  simp only at e2 e2'
  subst e2 e2'
  try simp
  rw [show ((y.2.1.length : Int) + (n2 : Int)) = ((y.2.1.length + n2 : Nat) : Int) by omega, w64_id (by omega) (by omega)]
  have sl1 := sl.old o1 (Nat.le_refl _)
  have bl := sl.1
  refine wp_loop (I := fun m e h' => h' = h2 ∧ ∃ i n : Nat, e = (ea 1 (.ptr h.length 0 0) <| ea 3 (.int .i64 (n : Nat)) <| ea 4 (.int .i64 (i : Nat)) e0) ∧ i + m = y.1.length ∧ n ≤ 2251799813685248 ∧ (n < 1048576 → n = y.2.1.length + wLists y.2.2 + ((y.1.take i).map wNodes).sum)) ?_ ⟨rfl, 0, y.2.1.length + n2, rfl, Nat.zero_add _, by omega, fun hlt => by simp; exact c2 (by omega)⟩
  rintro N m e h3 ⟨rfl, i, n, rfl, him, hn', hsum⟩ next
  dsimp only [C.law8_Heavy_b0]; simp
  refine wp_ptr1 hbx rfl ?_
  try simp
  refine wp_len sl1 ?_
  try simp
  have stop : (n < 1048576 → i = y.1.length) → WP (some (AV.bool (decide (1200 < (n : Int))), h3)) (Weighed h (light8 y)) := fun hst => wp_some ⟨o1, _, rfl, fun hq => by
    simp at hq
    have h1 := hst (by omega)
    have h2 := hsum (by omega)
    rw [h1, List.take_of_length_le (Nat.le_refl _)] at h2
    rw [light8]
    omega⟩
  refine wp_dec (fun hi => ?_) fun hi => ?_
  · try simp
    refine wp_dec (fun hlt => ?_) fun hlt => ?_
    · try simp
      refine wp_ptr1 hbx rfl ?_
      try simp
      have hx := cl i y.1[i] (List.getElem?_eq_getElem hi)
      simp only [PT.sz] at hx sl1
      rw [take1_drop (by have := sl1.len; omega)] at hx
      refine wp_idx sl1 rfl hi ?_
      try simp
      refine wp_cell sl1 hi (take1_drop (by have := sl1.len; omega)) rfl ?_
      try simp
      refine wp_call (law0_NodesWeight (In.old o1 hx) _) fun v4 h4 ⟨e4, n4, e4', b4, c4⟩ => ?_
      simp only at e4 e4'
      subst e4 e4'
      try simp
      rw [succ64 hi bl, show ((n : Int) + (n4 : Int)) = ((n + n4 : Nat) : Int) by omega, w64_id (by omega) (by omega)]
      exact next (m - 1) _ _ (by omega) ⟨rfl, i + 1, _, rfl, by omega, by omega, fun hlt => by
        have h1 := hsum (by omega)
        have h2 := c4 (by omega)
        rw [map_take_succ wNodes hi, List.sum_append, h1, h2]
        simp only [List.sum_cons, List.sum_nil]
        omega⟩
    · try simp
      exact stop (fun h => absurd (by omega) hlt)
  · try simp
    exact stop (fun _ => by omega)
end
end Go.AM

/- Names: a text's runes, one by one. -/
namespace Go.AM
set_option maxRecDepth 20000
section
variable {R : Type} {Q : R → Prop}
/-- The next rune. -/
theorem wp_next {base l pos : Nat} {h : Heap} {s : ByteArray} (hb : base ≤ l) (hh : h[l]? = some (.iter s pos)) {K : AV → Heap → Option R}
    (k1 : pos < s.size → WP (K (.tup [.bool true, .int .i64 (pos : Int), .int .i32 ((Utf8.decode s pos).1 : Int)]) (h.set l (.iter s (pos + (Utf8.decode s pos).2)))) Q) (k2 : ¬ pos < s.size → WP (K (.tup [.bool false]) h) Q) : WP (nextK base h (.iter l) K) Q := by
  unfold nextK
  dsimp only
  refine wp_guard hb ?_
  rw [hh]
  dsimp only
  split
  · rename_i hp; exact k1 hp
  · rename_i hp; exact k2 hp
end
theorem decode_pos (s : ByteArray) (i : Nat) : 1 ≤ (Utf8.decode s i).2 := by
  unfold Utf8.decode
  dsimp only
  repeat' split
  all_goals simp
/-- A letter, a digit. -/
def isLetter (r : Int) : Bool := (decide (97 ≤ r) && decide (r ≤ 122)) || (decide (945 ≤ r) && decide (r ≤ 969))
def isDigit (r : Int) : Bool := decide (48 ≤ r) && decide (r ≤ 57)
/-- From a place on, with so many runes ahead: is it a name? -/
def nameFrom (s : ByteArray) : Nat → Nat → Nat → Bool
  | 0, _, n => decide (1 ≤ n) && decide (n ≤ 6)
  | f + 1, pos, n =>
    if pos < s.size then
      (if isLetter (Utf8.decode s pos).1 = true ∨ (n ≠ 0 ∧ isDigit (Utf8.decode s pos).1 = true) then nameFrom s f (pos + (Utf8.decode s pos).2) (n + 1) else false)
    else decide (1 ≤ n) && decide (n ≤ 6)
def isName (s : ByteArray) : Bool := nameFrom s s.size 0 0
section
variable {R : Type} (b : Nat) (h : Heap) (K : AV → Heap → Option R)
@[simp] theorem word_letter (r : Int) : callK (call prog) b 148 [.int .i32 r] h K = K (.bool (isLetter r)) h :=
  callK_eq (wp_iff.1 (wp_enter (fn := C.word_letter) rfl (by
    dsimp only [bodyN, C.word_letter]; simp [wp_some_iff]
    repeat' (first | (refine wp_dec (fun _ => ?_) fun _ => ?_) | (refine wp_ndec (fun _ => ?_) fun _ => ?_) | (refine wp_iteK (fun _ => ?_) fun _ => ?_) | simp only [wp_some_iff] | simp [wp_some_iff])
    all_goals simp_all [isLetter]
    all_goals omega))) K
@[simp] theorem word_digit (r : Int) : callK (call prog) b 149 [.int .i32 r] h K = K (.bool (isDigit r)) h :=
  callK_eq (wp_iff.1 (wp_enter (fn := C.word_digit) rfl (by
    dsimp only [bodyN, C.word_digit]; simp [wp_some_iff]
    repeat' (first | (refine wp_dec (fun _ => ?_) fun _ => ?_) | (refine wp_ndec (fun _ => ?_) fun _ => ?_) | (refine wp_iteK (fun _ => ?_) fun _ => ?_) | simp only [wp_some_iff] | simp [wp_some_iff])
    all_goals simp_all [isDigit]
    all_goals omega))) K
end
theorem word_IsName {h : Heap} {s : ByteArray} (hs : s.size ≤ 140737488355328) (b : Nat) (hb : b ≤ h.length) :
    WP (call prog b 129 [.str s] h) fun r => Old h.length h r.2 ∧ r.1 = .bool (isName s) := by
  refine wp_enter (fn := C.word_IsName) rfl ?_
  dsimp only [bodyN, C.word_IsName, C.word_IsName_l0]; simp
  refine wp_loop (I := fun m e h' => Old h.length h h' ∧ ∃ pos n, e = (ea 3 (.int .i64 (n : Nat)) <| ea 7 (.iter h.length) e0) ∧ h'[h.length]? = some (.iter s pos) ∧ pos + m ≥ s.size ∧ n + m ≤ s.size ∧ isName s = nameFrom s m pos n) ?_ ⟨Old.app, 0, 0, rfl, by simp, by omega, by omega, rfl⟩
  rintro N m e h' ⟨old, pos, n, rfl, hit, hpm, hnm, heq⟩ next
  dsimp only [C.word_IsName_b0]; simp
  refine wp_next hb hit (fun hp => ?_) fun hp => ?_
  · obtain ⟨m', rfl⟩ : ∃ m', m = m' + 1 := ⟨m - 1, by omega⟩
    rw [nameFrom, if_pos hp] at heq
    have hlt := (List.getElem?_eq_some_iff.1 hit).1
    have o2 : Old h.length h (h'.set h.length (.iter s (pos + (Utf8.decode s pos).2))) := old.trans (Old.set old.1 (Nat.le_refl _))
    have hit2 : (h'.set h.length (.iter s (pos + (Utf8.decode s pos).2)))[h.length]? = some (.iter s (pos + (Utf8.decode s pos).2)) := List.getElem?_set_self hlt
    have hd := decode_pos s pos
    have go : (isLetter ((Utf8.decode s pos).1 : Int) = true ∨ (n ≠ 0 ∧ isDigit ((Utf8.decode s pos).1 : Int) = true)) → WP (N (ea 3 (.int .i64 ((n + 1 : Nat) : Int)) <| ea 7 (.iter h.length) e0) (h'.set h.length (.iter s (pos + (Utf8.decode s pos).2)))) (fun r => Old h.length h r.2 ∧ r.1 = .bool (isName s)) := fun hc => by
      rw [if_pos hc] at heq
      exact next m' _ _ (by omega) ⟨o2, _, n + 1, rfl, hit2, by omega, by omega, heq⟩
    try simp
    cases hl : isLetter ((Utf8.decode s pos).1 : Int) with
    | true =>
      simp [hl]
      rw [succ64 (n := s.size) (by omega) hs]
      exact go (.inl hl)
    | false =>
      simp [hl]
      by_cases h0 : n = 0
      · subst h0
        simp
        exact wp_some ⟨o2, by rw [heq, if_neg (by simp [hl])]⟩
      · simp [h0]
        cases hdg : isDigit ((Utf8.decode s pos).1 : Int) with
        | true =>
          simp [hdg]
          rw [succ64 (n := s.size) (by omega) hs]
          exact go (.inr ⟨h0, hdg⟩)
        | false =>
          simp [hdg]
          exact wp_some ⟨o2, by rw [heq, if_neg (by simp [hl, hdg])]⟩
  · have hres : isName s = (decide (1 ≤ n) && decide (n ≤ 6)) := by
      rw [heq]
      cases m with
      | zero => rfl
      | succ m => rw [nameFrom, if_neg hp]
    try simp
    rw [hres]
    refine wp_dec (fun h1 => ?_) fun h1 => ?_
    · try simp
      refine wp_some ⟨old, ?_⟩
      have : 1 ≤ n := by omega
      simp [this]
      omega
    · try simp
      refine wp_some ⟨old, ?_⟩
      have : ¬ 1 ≤ n := by omega
      simp [this]
end Go.AM

/- Graphs: names, leaves. -/
namespace Go.AM
set_option maxRecDepth 20000
theorem find_put (k k' : ByteArray) (v : AV) : ∀ es : List (ByteArray × AV), findIn k (putIn k' v es) = if k' = k then some v else findIn k es
  | [] => by
      unfold putIn findIn findIn
      by_cases h : k' = k <;> simp [h]
  | x :: r => by
      unfold putIn
      by_cases h1 : x.1 = k'
      · simp only [if_pos h1, findIn]
        by_cases h2 : k' = k
        · simp [h2]
        · have : ¬ x.1 = k := fun e => h2 (h1 ▸ e)
          simp [h2, this]
      · simp only [if_neg h1, findIn]
        rw [find_put k k' v r]
        by_cases h2 : x.1 = k
        · have : ¬ k' = k := fun e => h1 (h2.trans e.symm)
          simp [h2, this]
        · simp [h2]
theorem wp_map {R : Type} {Q : R → Prop} {h : Heap} {l : Nat} {es : List (ByteArray × AV)} (hh : h[l]? = some (.map es)) {K : Nat → List (ByteArray × AV) → Option R} (k : WP (K l es) Q) : WP (mapAtK h (.map l) K) Q := by
  unfold mapAtK
  dsimp only
  rw [hh]
  exact k
/-- Names, each once, up to a place. -/
def namesUp (l : List node.den) : Nat → Bool
  | 0 => true
  | i + 1 => namesUp l i && (match l[i]? with | some x => isName x.1 && !((l.take i).any fun y => decide (y.1 = x.1)) | none => true)
theorem namesUp_false {l : List node.den} {i : Nat} (h : namesUp l i = false) : ∀ {j : Nat}, i ≤ j → namesUp l j = false := fun {j} hj => by
  induction j with
  | zero => exact (Nat.le_zero.1 hj) ▸ h
  | succ j ih =>
    rcases Nat.eq_or_lt_of_le hj with e | e
    · exact e ▸ h
    · rw [namesUp, ih (by omega)]; rfl
section
variable {h : Heap}
theorem graph_names {vl : AV} {l : List node.den} (hl : In h nodes l [vl]) (b : Nat) (hb : b ≤ h.length) :
    WP (call prog b 103 [vl] h) fun r => Old h.length h r.2 ∧ r.1 = .bool (namesUp l l.length) := by
  obtain ⟨dl, sl, cl, bl⟩ := hl.nodes
  refine wp_enter (fn := C.graph_names) rfl ?_
  dsimp only [bodyN, C.graph_names, C.graph_names_l0]; simp
  refine wp_len (sl.old (Old.app (t := [AObj.map []])) (Nat.le_refl _)) ?_
  try simp
  refine wp_loop (I := fun m e h' => Old h.length h h' ∧ ∃ i es, e = (ea 3 (.map h.length) <| ea 7 vl <| ea 8 (.int .i64 l.length) <| ea 9 (.int .i64 (i : Nat)) e0) ∧ i + m = l.length ∧ h'[h.length]? = some (.map es) ∧ namesUp l i = true ∧ ∀ k, findIn k es = if (l.take i).any (fun y => decide (y.1 = k)) = true then some (.bool true) else none) ?_ ⟨Old.app, 0, [], rfl, Nat.zero_add _, by simp, rfl, fun k => by simp [findIn]⟩
  rintro N m e h' ⟨old, i, es, rfl, him, hmap, hok, hfind⟩ next
  have sl' := sl.old old (Nat.le_refl _)
  have ho := old.1
  dsimp only [C.graph_names_b0]; simp
  refine wp_dec (fun hi => ?_) fun hi => ?_
  · try simp
    obtain ⟨a, d, e, ha, hd, hn⟩ := cl i hi
    refine wp_idx sl' rfl hi ?_
    try simp
    refine wp_elem sl' hi e ?_
    try simp
    refine wp_init (Nat.le_trans hb ho) (by rfl) (by rfl) ?_
    try simp
    generalize hh : h' ++ [AObj.cells 0 1 [AV.str l[i].fst, AV.int IntKind.i64 l[i].snd.fst, a, d, AV.int IntKind.i64 l[i].snd.snd.snd.snd]] = h1
    have o1 : Old h'.length h' h1 := hh ▸ Old.app
    have hbx : h1[h'.length]? = some (.cells 0 1 [AV.str l[i].fst, AV.int IntKind.i64 l[i].snd.fst, a, d, AV.int IntKind.i64 l[i].snd.snd.snd.snd]) := by rw [← hh]; simp
    have hmlt := (List.getElem?_eq_some_iff.1 hmap).1
    have hkey : namesUp l (i + 1) = (isName l[i].1 && !((l.take i).any fun y => decide (y.1 = l[i].1))) := by
      rw [namesUp, hok, List.getElem?_eq_getElem hi]
      rfl
    obtain ⟨_, _, _, _, _, _, _, hns⟩ := hn.node
    refine wp_ptr1 hbx rfl ?_
    try simp
    refine wp_call (word_IsName (h := h1) hns b (Nat.le_trans hb (Nat.le_trans ho o1.1))) fun v2 h2 ⟨o2, e2⟩ => ?_
    simp only at o2 e2
    subst e2
    have hlt1 : h'.length < h1.length := (List.getElem?_eq_some_iff.1 hbx).1
    have o12 : Old h'.length h' h2 := o1.trans (o2.mono o1.1)
    have oh2 : Old h.length h h2 := old.trans (o12.mono ho)
    have hbx2 := (o2.2 _ hlt1).trans hbx
    have hmap2 := (o12.2 _ hmlt).trans hmap
    try simp
    refine wp_iteK (fun hq => wp_some ⟨oh2, ?_⟩) fun hq => ?_
    · rw [Bool.not_eq_true'] at hq
      rw [hq, Bool.false_and] at hkey
      rw [namesUp_false hkey hi]
    rw [Bool.not_eq_false'] at hq
    try simp
    refine wp_ptr1 hbx2 rfl ?_
    try simp
    refine wp_map hmap2 ?_
    try simp
    rw [hfind l[i].1]
    cases hs : (l.take i).any fun y => decide (y.1 = l[i].1) with
    | true =>
      simp
      refine wp_some ⟨oh2, ?_⟩
      rw [hs, Bool.not_true, Bool.and_false] at hkey
      rw [namesUp_false hkey hi]
    | false =>
      simp
      refine wp_ptr1 hbx2 rfl ?_
      try simp
      refine wp_map hmap2 ?_
      try simp
      refine wp_guard hb ?_
      try simp
      refine wp_guard rfl ?_
      rw [succ64 hi bl]
      have hmlt2 := (List.getElem?_eq_some_iff.1 hmap2).1
      refine next (m - 1) _ _ (by omega) ⟨oh2.trans (Old.set oh2.1 (Nat.le_refl _)), i + 1, _, rfl, by omega, List.getElem?_set_self hmlt2, by rw [hkey, hq, hs]; rfl, fun k => ?_⟩
      rw [find_put, hfind k, take_succ_app hi, List.any_append]
      simp only [List.any_cons, List.any_nil, Bool.or_false]
      by_cases hk : l[i].1 = k
      · rw [if_pos hk, decide_eq_true hk, Bool.or_true, if_pos rfl]
      · rw [if_neg hk, decide_eq_false hk, Bool.or_false]
  · try simp
    have : i = l.length := by omega
    subst this
    exact wp_some ⟨old, by rw [hok]⟩
theorem graph_Is_1 {x : node.den} {cs : List AV} (hx : In h node x cs) (b : Nat) :
    WP (call prog b 104 [.agg cs] h) fun r => Old h.length h r.2 ∧ r.1 = .bool (decide (15 < x.2.1) || (decide (x.2.2.2.2 < -1073741824) || decide (1073741824 < x.2.2.2.2))) := by
  obtain ⟨a, d, rfl, _⟩ := hx.node
  refine wp_enter (fn := C.graph_Is_1) rfl ?_
  dsimp only [bodyN, C.graph_Is_1]; simp
  refine wp_new1 rfl ?_
  try simp
  refine wp_dec (fun h1 => wp_some ⟨Old.app, by simp [h1]⟩) fun h1 => ?_
  try simp
  refine wp_new1 rfl ?_
  try simp
  refine wp_dec (fun h2 => wp_some ⟨Old.app, by simp [h1, h2]⟩) fun h2 => ?_
  try simp
  refine wp_new1 rfl ?_
  try simp
  exact wp_some ⟨Old.app, by simp [h1, h2]⟩
/-- A test that makes memory of its own. -/
def Tests (g : Nat) (cap : List AV) (h : Heap) (x : AV) (q : Bool) : Prop := ∀ b h', b ≤ h'.length → Old h.length h h' → WP (call prog b g (x :: cap) h') fun r => Old h'.length h' r.2 ∧ r.1 = .bool q
theorem slices_IndexFunc_NodeM {v : AV} {ds : List AV} {bs : List Bool} (hs : SliceAt (fun l => l < h.length) h v 5 bs.length ds) {cs : Nat → List AV} (hc : ∀ i, i < bs.length → (ds.drop (i * 5)).take 5 = cs i) {g : Nat} {cap : List AV} (b : Nat) (hb0 : b ≤ h.length) (hf : ∀ (i : Nat) (hi : i < bs.length), Tests g cap h (.agg (cs i)) bs[i]) :
    WP (call prog b 130 [v, .fn g cap] h) fun r => Old h.length h r.2 ∧ r.1 = .int .i64 (idxFrom 0 bs) := by
  have hb := hs.1
  refine wp_enter (fn := C.slices_IndexFunc_Node) rfl ?_
  dsimp only [bodyN, C.slices_IndexFunc_Node, C.slices_IndexFunc_Node_l0]; simp
  refine wp_len hs ?_
  try simp
  refine wp_loop (I := fun m e h' => Old h.length h h' ∧ ∃ i, e = (ea 0 v <| ea 1 (.fn g cap) <| ea 7 (.int .i64 bs.length) <| ea 8 (.int .i64 (i : Nat)) e0) ∧ i + m = bs.length ∧ idxFrom 0 bs = idxFrom i (bs.drop i)) ?_ ⟨Old.refl (Nat.le_refl _), 0, rfl, Nat.zero_add _, rfl⟩
  rintro N m e h' ⟨old, i, rfl, him, heq⟩ next
  have hs' := hs.old old (Nat.le_refl _)
  dsimp only [C.slices_IndexFunc_Node_b0]; simp
  refine wp_dec (fun hi => ?_) fun hi => ?_
  · try simp
    refine wp_idx hs' rfl hi ?_
    try simp
    refine wp_elem hs' hi (hc i hi) ?_
    try simp
    refine wp_call (hf i hi b h' (Nat.le_trans hb0 old.1) old) fun v2 h2 ⟨o2, e2⟩ => ?_
    simp only at o2 e2
    subst e2
    have o12 := old.trans (o2.mono old.1)
    rw [idxFrom_drop hi] at heq
    try simp
    refine wp_iteK (fun hn => ?_) fun hn => ?_
    · refine wp_some ⟨o12, ?_⟩
      rw [heq, if_pos hn]
    · try simp
      rw [succ64 hi hb]
      refine next (m - 1) _ _ (by omega) ⟨o12, i + 1, rfl, by omega, ?_⟩
      rw [heq, if_neg (by simp [hn])]
  · refine wp_some ⟨old, ?_⟩
    rw [heq, List.drop_of_length_le (by omega)]
    rfl
theorem slices_ContainsFunc_NodeM {v : AV} {ds : List AV} {bs : List Bool} (hs : SliceAt (fun l => l < h.length) h v 5 bs.length ds) {cs : Nat → List AV} (hc : ∀ i, i < bs.length → (ds.drop (i * 5)).take 5 = cs i) {g : Nat} {cap : List AV} (b : Nat) (hb0 : b ≤ h.length) (hf : ∀ (i : Nat) (hi : i < bs.length), Tests g cap h (.agg (cs i)) bs[i]) :
    WP (call prog b 105 [v, .fn g cap] h) fun r => Old h.length h r.2 ∧ r.1 = .bool (bs.any id) := by
  refine wp_enter (fn := C.slices_ContainsFunc_Node) rfl ?_
  dsimp only [bodyN, C.slices_ContainsFunc_Node]; simp
  refine wp_call (slices_IndexFunc_NodeM hs hc b hb0 hf) fun v2 h2 ⟨o2, e2⟩ => ?_
  simp only at o2 e2
  subst e2
  try simp
  exact wp_some ⟨o2, by rw [idxFrom_any]⟩
/-- A node that is none of a graph's. -/
def nodeBad (x : node.den) : Bool := decide (15 < x.2.1) || (decide (x.2.2.2.2 < -1073741824) || decide (1073741824 < x.2.2.2.2))
/-- A graph? -/
def isL (l : List node.den) : Bool :=
  decide (1 ≤ l.length) && decide (l.length ≤ 24) && mayL l && namesUp l l.length && !(l.any nodeBad) && decide (prodW (((l[l.length - 1]?).map (·.2.2.2.1)).getD []) = 1)
theorem graph_Is {vl : AV} {l : List node.den} (hl : In h nodes l [vl]) (hsm : Small l) (b : Nat) (hb : b ≤ h.length) :
    WP (call prog b 68 [vl] h) fun r => Old h.length h r.2 ∧ r.1 = .bool (isL l) := by
  obtain ⟨dl, sl, cl, bl⟩ := hl.nodes
  refine wp_enter (fn := C.graph_Is) rfl ?_
  dsimp only [bodyN, C.graph_Is]; simp
  refine wp_len sl ?_
  try simp
  refine wp_dec (fun h1 => wp_some ⟨Old.refl (Nat.le_refl _), ?_⟩) fun h1 => ?_
  · have : ¬ 1 ≤ l.length := by omega
    simp [isL, this]
  try simp
  refine wp_len sl ?_
  try simp
  refine wp_dec (fun h2 => wp_some ⟨Old.refl (Nat.le_refl _), ?_⟩) fun h2 => ?_
  · have : ¬ l.length ≤ 24 := by omega
    simp [isL, this]
  try simp
  refine wp_call (graph_May hl hsm b hb) fun v3 h3 ⟨o3, e3⟩ => ?_
  simp only at o3 e3
  subst e3
  try simp
  refine wp_iteK (fun hm => wp_some ⟨o3, ?_⟩) fun hm => ?_
  · rw [Bool.not_eq_true'] at hm
    simp [isL, hm]
  rw [Bool.not_eq_false'] at hm
  try simp
  refine wp_call (graph_names (In.old o3 hl) b (Nat.le_trans hb o3.1)) fun v4 h4 ⟨o4, e4⟩ => ?_
  simp only at o4 e4
  subst e4
  have o34 := o3.trans (o4.mono o3.1)
  try simp
  refine wp_iteK (fun hn => wp_some ⟨o34, ?_⟩) fun hn => ?_
  · rw [Bool.not_eq_true'] at hn
    simp [isL, hn]
  rw [Bool.not_eq_false'] at hn
  try simp
  have sl4 : SliceAt (fun j => j < h4.length) h4 vl 5 (l.map nodeBad).length dl := by
    rw [List.length_map]
    exact (sl.old o34 (Nat.le_refl _)).mono fun j hj => Nat.lt_of_lt_of_le hj o34.1
  refine wp_call (slices_ContainsFunc_NodeM (g := 104) (cap := []) sl4 (cs := fun i => (dl.drop (i * 5)).take 5) (fun _ _ => rfl) b (Nat.le_trans hb o34.1) (fun i hi b' h' hb' old' => by
    have hi : i < l.length := by simpa using hi
    obtain ⟨a, d, e, _, _, hn⟩ := cl i hi
    have := graph_Is_1 (In.old (o34.trans (old'.mono o34.1)) hn) b'
    simp only [List.getElem_map]
    rw [e]
    exact this)) fun v5 h5 ⟨o5, e5⟩ => ?_
  simp only at o5 e5
  subst e5
  have o345 := o34.trans (o5.mono o34.1)
  rw [List.any_map, show (id ∘ nodeBad) = nodeBad from rfl]
  try simp
  have h1' : decide (1 ≤ l.length) = true := by simp; omega
  have h2' : decide (l.length ≤ 24) = true := by simp; omega
  refine wp_iteK (fun hq => ?_) fun hq => wp_some ⟨o345, ?_⟩
  · rw [Bool.not_eq_true'] at hq
    have hi : l.length - 1 < l.length := by omega
    have hw : IntKind.i64.wrap ((l.length : Int) - 1) = ((l.length - 1 : Nat) : Int) := by rw [w64_id (by omega) (by omega)]; omega
    have sl5 := sl.old o345 (Nat.le_refl _)
    obtain ⟨a, d, e, _, hd, _⟩ := cl (l.length - 1) hi
    try simp
    refine wp_len sl5 ?_
    try simp
    rw [hw]
    refine wp_idx sl5 rfl hi ?_
    try simp
    refine wp_cell sl5 hi e rfl ?_
    try simp
    rw [callK_eq (shape_Product (In.old o345 hd) b)]
    try simp
    refine wp_some ⟨o345, ?_⟩
    rw [isL, h1', h2', hm, hn, hq, List.getElem?_eq_getElem hi]
    rfl
  · rw [Bool.not_eq_false'] at hq
    simp [isL, hq]
end
end Go.AM

/- Rules over what holds: steps that go by themselves. -/
namespace Go.AM
set_option maxRecDepth 20000
section
variable {R : Type} {Q : R → Prop} {S : Nat → Prop} {h : Heap}
theorem wq_len {e : PT} {l : List e.den} {v : AV} (H : Holds S h (.slice e) l [v]) {K : Nat → Option R} (k : WP (K l.length) Q) : WP (lenK v K) Q := by
  obtain ⟨ds, hs, _⟩ := H.elem
  exact wp_len hs k
theorem wq_idx {e : PT} {l : List e.den} {v : AV} (H : Holds S h (.slice e) l [v]) {s : Nat} {i : Int} (hs : s = e.sz) (h0 : 0 ≤ i) (h1 : i < (l.length : Int)) {K : AV → Option R} (k : WP (K (addrOf v s i.toNat 0)) Q) : WP (idxK s v i K) Q := by
  subst hs
  obtain ⟨ds, hs, _⟩ := H.elem
  exact wp_idx hs (j := i.toNat) (by omega) (by omega) k
theorem wq_int {l : List Int} {v : AV} (H : Holds S h ints l [v]) {j : Nat} (hj : j < l.length) {K : AV → Option R} (k : WP (K (.int .i64 l[j])) Q) : WP (readK1 h (addrOf v 1 j 0) 1 K) Q := by
  obtain ⟨ds, hs, hc, _⟩ := H.ints
  exact wp_cell hs hj (hc j hj) rfl k
theorem wq_sub {e : PT} {l : List (List e.den)} {v : AV} (H : Holds S h (.slice (.slice e)) l [v]) {j : Nat} (hj : j < l.length) {K : AV → Option R} (k : ∀ u, Holds S h (.slice e) l[j] [u] → WP (K u) Q) : WP (readK1 h (addrOf v 1 j 0) 1 K) Q := by
  obtain ⟨ds, hs, hc⟩ := H.elem
  have hx := hc j l[j] (List.getElem?_eq_getElem hj)
  obtain ⟨u, ds', hu, _⟩ := id hx
  rw [hu] at hx
  exact wp_cell hs hj hu rfl (k u hx)
theorem wq_kind {l : List node.den} {v : AV} (H : Holds S h nodes l [v]) {j : Nat} (hj : j < l.length) {K : AV → Option R} (k : WP (K (.int .i64 l[j].2.1)) Q) : WP (readK1 h (addrOf v 5 j 1) 1 K) Q := by
  obtain ⟨ds, hs, hc, _⟩ := H.nodes
  obtain ⟨a, d, e, _⟩ := hc j hj
  exact wp_cell hs hj e rfl k
theorem wq_args {l : List node.den} {v : AV} (H : Holds S h nodes l [v]) {j : Nat} (hj : j < l.length) {K : AV → Option R} (k : ∀ u, Holds S h ints l[j].2.2.1 [u] → WP (K u) Q) : WP (readK1 h (addrOf v 5 j 2) 1 K) Q := by
  obtain ⟨ds, hs, hc, _⟩ := H.nodes
  obtain ⟨a, d, e, ha, hd, _⟩ := hc j hj
  exact wp_cell hs hj e rfl (k a ha)
theorem wq_dims {l : List node.den} {v : AV} (H : Holds S h nodes l [v]) {j : Nat} (hj : j < l.length) {K : AV → Option R} (k : ∀ u, Holds S h ints l[j].2.2.2.1 [u] → WP (K u) Q) : WP (readK1 h (addrOf v 5 j 3) 1 K) Q := by
  obtain ⟨ds, hs, hc, _⟩ := H.nodes
  obtain ⟨a, d, e, ha, hd, _⟩ := hc j hj
  exact wp_cell hs hj e rfl (k d hd)
theorem wq_node {l : List node.den} {v : AV} (H : Holds S h nodes l [v]) {j : Nat} (hj : j < l.length) {K : List AV → Option R}
    (k : ∀ a d, Holds S h ints l[j].2.2.1 [a] → Holds S h ints l[j].2.2.2.1 [d] → Holds S h node l[j] [.str l[j].1, .int .i64 l[j].2.1, a, d, .int .i64 l[j].2.2.2.2] → WP (K [.str l[j].1, .int .i64 l[j].2.1, a, d, .int .i64 l[j].2.2.2.2]) Q) : WP (readK h (addrOf v 5 j 0) 5 K) Q := by
  obtain ⟨ds, hs, hc, _⟩ := H.nodes
  obtain ⟨a, d, e, ha, hd, hn⟩ := hc j hj
  exact wp_elem hs hj e (k a d ha hd hn)
/-- A tensor. -/
theorem holds_tensor {x : tensor.den} {cs : List AV} (H : Holds S h tensor x cs) : ∃ d t, cs = [d, t] ∧ Holds S h ints x.1 [d] ∧ Holds S h ints x.2 [t] := by
  obtain ⟨c1, c2, rfl, hd, ht⟩ := H
  obtain ⟨d, _, rfl, _⟩ := id hd
  obtain ⟨t, _, rfl, _⟩ := id ht
  exact ⟨d, t, rfl, hd, ht⟩
theorem wq_tensor {l : List tensor.den} {v : AV} (H : Holds S h tensors l [v]) {j : Nat} (hj : j < l.length) {K : List AV → Option R}
    (k : ∀ d t, Holds S h ints l[j].1 [d] → Holds S h ints l[j].2 [t] → WP (K [d, t]) Q) : WP (readK h (addrOf v 2 j 0) 2 K) Q := by
  obtain ⟨ds, hs, hc⟩ := H.elem
  have hx := hc j l[j] (List.getElem?_eq_getElem hj)
  obtain ⟨d, t, e, hd, ht⟩ := holds_tensor hx
  exact wp_elem hs hj e (k d t hd ht)
theorem wq_tdims {l : List tensor.den} {v : AV} (H : Holds S h tensors l [v]) {j : Nat} (hj : j < l.length) {K : AV → Option R}
    (k : ∀ d, Holds S h ints l[j].1 [d] → WP (K d) Q) : WP (readK1 h (addrOf v 2 j 0) 1 K) Q := by
  obtain ⟨ds, hs, hc⟩ := H.elem
  have hx := hc j l[j] (List.getElem?_eq_getElem hj)
  obtain ⟨d, t, e, hd, ht⟩ := holds_tensor hx
  exact wp_cell hs hj e rfl (k d hd)
theorem wq_tdata {l : List tensor.den} {v : AV} (H : Holds S h tensors l [v]) {j : Nat} (hj : j < l.length) {K : AV → Option R}
    (k : ∀ d, Holds S h ints l[j].2 [d] → WP (K d) Q) : WP (readK1 h (addrOf v 2 j 1) 1 K) Q := by
  obtain ⟨ds, hs, hc⟩ := H.elem
  have hx := hc j l[j] (List.getElem?_eq_getElem hj)
  obtain ⟨d, t, e, hd, ht⟩ := holds_tensor hx
  exact wp_cell hs hj e rfl (k t ht)
/-- Cells behind a pointer of one's own. -/
abbrev Box (h : Heap) (l : Nat) (cs : List AV) : Prop := h[l]? = some (.cells 0 1 cs)
theorem Box.lt {l : Nat} {cs : List AV} (H : Box h l cs) : l < h.length := (List.getElem?_eq_some_iff.1 H).1
theorem Box.old {h' : Heap} {n l : Nat} {cs : List AV} (o : Old n h h') (H : Box h l cs) (hl : l < n) : Box h' l cs := (o.2 l hl).trans H
theorem Box.new {g : List AObj} {cs : List AV} : Box (h ++ [.cells 0 1 cs]) h.length cs := by simp [Box]
theorem wq_init {b n : Nat} {zs cs : List AV} (hb : b ≤ h.length) (hz : zs.length = n) (hc : cs.length = n) {K : Heap → Option R} (k : ∀ h', Old h.length h h' → Box h' h.length cs → h.length < h'.length → WP (K h') Q) : WP (storeK b n (h ++ [.cells 0 1 zs]) (.ptr h.length 0 0) (.agg cs) K) Q :=
  wp_init hb hz hc (k _ Old.app (by simp [Box]) (by simp))
theorem wq_ptr {l off : Nat} {cs : List AV} (hb : Box h l cs) {v : AV} (ho : cs[off]? = some v) {K : AV → Option R} (k : WP (K v) Q) : WP (readK1 h (.ptr l 0 off) 1 K) Q := wp_ptr1 hb ho k
theorem wq_ptrs {l off n : Nat} {cs : List AV} (hb : Box h l cs) (ho : off + n ≤ cs.length) {K : List AV → Option R} (k : WP (K ((cs.drop off).take n)) Q) : WP (readK h (.ptr l 0 off) n K) Q := wp_ptrs hb ho k
/-- A cell of a box is written. -/
theorem wq_put {b l off n : Nat} {cs vs : List AV} (hb : Box h l cs) (hl : b ≤ l) {x : AV} (hx : ∀ {R : Type} (K : List AV → Option R), cellsK x K = K vs) (hv : vs.length = n) (ho : off + n ≤ cs.length) {K : Heap → Option R}
    (k : ∀ h', h'.length = h.length → (∀ j, j ≠ l → h'[j]? = h[j]?) → Box h' l (layAt cs off vs) → WP (K h') Q) : WP (storeK b n h (.ptr l 0 off) x K) Q := by
  have hlt := hb.lt
  simp only [storeK, hx]
  rw [if_pos hl, if_pos hv]
  unfold blockK
  rw [hb]
  simp only [if_true]
  rw [if_pos ho]
  exact k _ (by simp) (fun j hj => List.getElem?_set_ne (fun e => hj e.symm)) (List.getElem?_set_self hlt)
/-- Many are appended. -/
theorem wp_pushAll {base f n0 bytes s m : Nat} {p : PT} {v : AV} {l l2 : List p.den} {ys : List AV} (H : AccP f n0 h p v l) (hy : ys.length = l2.length * p.sz)
    (hx : ∀ (i : Nat) (x : p.den), l2[i]? = some x → Holds (fun j => f ≤ j ∧ j < h.length ∧ v.blk ≠ some j) h p x ((ys.drop (i * p.sz)).take p.sz)) (hm : m = l2.length) (hs : s = p.sz) (hb : base ≤ n0) (hn : n0 ≤ h.length)
    (h1 : (l.length + l2.length) * bytes ≤ 140737488355328) (h2 : l.length + l2.length ≤ 140737488355328) {K : AV → Heap → Option R}
    (k : ∀ v' h', But v h h' → Old n0 h h' → AccP f n0 h' p v' (l ++ l2) → WP (K v' h') Q) : WP (appK base s bytes h v ys m K) Q := by
  subst hs hm
  obtain ⟨cs, a, e⟩ := H
  have hcl := a.len
  refine wp_app a hb hn hy h1 h2 fun v' h' but hv a' => k v' h' but (but.old a hn) ⟨cs ++ ys, by simpa using a', fun i y hi => ?_⟩
  have fr : ∀ j, (f ≤ j ∧ j < h.length ∧ v.blk ≠ some j) → (f ≤ j ∧ j < h'.length ∧ v'.blk ≠ some j) ∧ h'[j]? = h[j]? := fun j hj => ⟨⟨hj.1, Nat.lt_of_lt_of_le hj.2.1 but.1, fun eq => by
    rcases hv j eq with e1 | e1
    · exact hj.2.2 e1
    · omega⟩, but.2 j hj.2.1 hj.2.2⟩
  rcases Nat.lt_or_ge i l.length with hil | hil
  · rw [List.getElem?_append_left hil] at hi
    have hle : (i + 1) * p.sz ≤ l.length * p.sz := Nat.mul_le_mul_right _ hil
    rw [Nat.add_mul, Nat.one_mul] at hle
    rw [List.drop_append_of_le_length (by omega), List.take_append_of_le_length (by rw [List.length_drop]; omega)]
    exact (e i y hi).frame fr
  · rw [List.getElem?_append_right hil] at hi
    have e1 : (cs ++ ys).drop (i * p.sz) = ys.drop ((i - l.length) * p.sz) := by
      rw [List.drop_append, List.drop_of_length_le (by rw [hcl]; exact Nat.mul_le_mul_right _ hil), List.nil_append, hcl, ← Nat.sub_mul]
    rw [e1]
    exact (hx _ y hi).frame fr
theorem AccP.floor {f f' n0 : Nat} {p : PT} {v : AV} {l : List p.den} (H : AccP f n0 h p v l) (hf : f' ≤ f) : AccP f' n0 h p v l := by
  obtain ⟨cs, a, e⟩ := H
  exact ⟨cs, a, fun i x hi => (e i x hi).mono fun j hj => ⟨Nat.le_trans hf hj.1, hj.2⟩⟩
/-- What lies elsewhere than a slice of one's own. -/
theorem AccP.off {f n0 : Nat} {p : PT} {v : AV} {l : List p.den} (H : AccP f n0 h p v l) {q : PT} {x : q.den} {cs : List AV} (hx : Holds S h q x cs) (hS : ∀ j, S j → f ≤ j ∧ j < n0 ∧ j < h.length) : Holds (fun j => f ≤ j ∧ j < h.length ∧ v.blk ≠ some j) h q x cs :=
  hx.mono fun j hj => ⟨(hS j hj).1, (hS j hj).2.2, H.apart (hS j hj).2.1⟩
/-- A slice of one's own that is done. -/
theorem AccP.in {f n0 : Nat} {p : PT} {v : AV} {l : List p.den} (H : AccP f n0 h p v l) (hf : f ≤ n0) : In h (.slice p) l [v] := (H.holds hf).mono fun _ hj => hj.2
/-- One more; the block that it came in stays behind. -/
theorem wp_push1 {base f n0 bytes s : Nat} {o : AObj} {p : PT} {v : AV} {l : List p.den} {x : p.den} {ys : List AV} (H : AccP f n0 h p v l) (hx : Holds (fun j => f ≤ j ∧ j < h.length ∧ v.blk ≠ some j) h p x ys) (hs : s = p.sz) (hb : base ≤ n0) (hn : n0 ≤ h.length)
    (h1 : (l.length + 1) * bytes ≤ 140737488355328) (h2 : l.length + 1 ≤ 140737488355328) {K : AV → Heap → Option R}
    (k : ∀ v' h', Old n0 h h' → AccP f n0 h' p v' (l ++ [x]) → WP (K v' h') Q) : WP (appK base s bytes (h ++ [o]) v ys 1 K) Q := by
  refine wp_push (H.keep (h' := h ++ [o]) Old.app) (hx.frame fun j hj => ⟨⟨hj.1, by simp; omega, hj.2.2⟩, List.getElem?_append_left hj.2.1⟩) hs hb (by simp; omega) h1 h2 fun v' h' _ o' a' => k v' h' ((Old.app.mono hn).trans o') a'
theorem holds_int {n : Int} (hn : -9223372036854775808 ≤ n ∧ n ≤ 9223372036854775807) : Holds S h int n [.int .i64 n] := ⟨rfl, hn⟩
/-- One number more. -/
theorem wp_pushI {base f n0 : Nat} {o : AObj} {v : AV} {l : List Int} {x : Int} (H : AccP f n0 h int v l) (hx : -9223372036854775808 ≤ x ∧ x ≤ 9223372036854775807) (hb : base ≤ n0) (hn : n0 ≤ h.length) (hl : l.length ≤ 1000000000000) {K : AV → Heap → Option R}
    (k : ∀ v' h', Old n0 h h' → AccP f n0 h' int v' (l ++ [x]) → WP (K v' h') Q) : WP (appK base 1 8 (h ++ [o]) v [.int .i64 x] 1 K) Q :=
  wp_push1 (p := int) (x := x) H (holds_int hx) rfl hb hn (by simp only [PT.den] at *; omega) (by simp only [PT.den] at *; omega) k
/-- Numbers in a block that stands there. -/
theorem holds_ref {k : Nat} {l : List Int} {n : Nat} (hb : h[k]? = some (.cells 0 1 (l.map (.int .i64)))) (hS : S k) (hn : n = l.length) (hl : l.length ≤ 140737488355328) (hr : ∀ x ∈ l, -9223372036854775808 ≤ x ∧ x ≤ 9223372036854775807) : Holds S h ints l [.ref k 0 0 n] := by
  subst hn
  refine ⟨_, l.map (.int .i64), rfl, ⟨hl, hS, rfl, by simp [PT.sz], _, hb, by simp [PT.sz], by simp only [PT.sz]; rw [List.drop_zero, List.take_of_length_le (by simp)]⟩, fun i x hi => ?_⟩
  obtain ⟨hil, rfl⟩ := List.getElem?_eq_some_iff.1 hi
  simp only [PT.sz]
  rw [take1_drop (by simpa using hil)]
  exact ⟨by simp, hr _ (List.getElem_mem hil)⟩
@[simp] theorem sliceK_new2 {a : AObj} {s n : Nat} {cs : List AV} (K : List AV → Option R) : sliceK (h ++ [a, .cells 0 s cs]) s (.ref (h.length + 1) 0 0 n) K = if n * s ≤ cs.length then K (cs.take (n * s)) else none := by
  simp [sliceK, blockK]
@[simp] theorem sliceK_new3 {a b : AObj} {s n : Nat} {cs : List AV} (K : List AV → Option R) : sliceK (h ++ [a, b, .cells 0 s cs]) s (.ref (h.length + 2) 0 0 n) K = if n * s ≤ cs.length then K (cs.take (n * s)) else none := by
  simp [sliceK, blockK]
@[simp] theorem sliceK_new4 {a b c : AObj} {s n : Nat} {cs : List AV} (K : List AV → Option R) : sliceK (h ++ [a, b, c, .cells 0 s cs]) s (.ref (h.length + 3) 0 0 n) K = if n * s ≤ cs.length then K (cs.take (n * s)) else none := by
  simp [sliceK, blockK]
theorem cells_one {v : AV} (H : v.one = true) {R : Type} (K : List AV → Option R) : cellsK v K = K [v] := by
  cases v <;> first | rfl | cases H
theorem in_nil {p : PT} : Holds S h (.slice p) [] [.nil] := ⟨.nil, [], rfl, ⟨Nat.zero_le _, rfl, rfl⟩, fun i x hi => by simp at hi⟩
theorem holds_le {e : PT} {l : List e.den} {v : AV} (H : Holds S h (.slice e) l [v]) : l.length ≤ 140737488355328 := by
  obtain ⟨_, hs, _⟩ := H.elem
  exact hs.1
theorem holds_range {l : List Int} {v : AV} (H : Holds S h ints l [v]) {i : Nat} (hi : i < l.length) : -9223372036854775808 ≤ l[i] ∧ l[i] ≤ 9223372036854775807 := by
  obtain ⟨_, _, _, hr, _⟩ := H.ints
  exact hr _ (List.getElem_mem hi)
end
end Go.AM

/- Leaves. -/
namespace Go.AM
set_option maxRecDepth 20000
set_option maxHeartbeats 400000
/-- Where nodes of a kind are, up to a place. -/
def ofKind (l : List node.den) (k : Int) : Nat → List Int
  | 0 => []
  | i + 1 => ofKind l k i ++ (match l[i]? with | some x => if x.2.1 = k then [(i : Int)] else [] | none => [])
theorem ofKind_len (l : List node.den) (k : Int) : ∀ i, (ofKind l k i).length ≤ i
  | 0 => Nat.le_refl _
  | i + 1 => by
      have := ofKind_len l k i
      rw [ofKind, List.length_append]
      split
      · split <;> simp <;> omega
      · simp; omega
/-- Inputs, then parameters. -/
def ends (l : List node.den) : List Int := ofKind l 1 l.length ++ ofKind l 2 l.length
def endsAt (l : List node.den) : Nat → List Int
  | 0 => []
  | 1 => ofKind l 1 l.length
  | _ => ends l
section
variable {h : Heap}
theorem graph_Ends {vl : AV} {l : List node.den} (hl : In h nodes l [vl]) (hlen : l.length ≤ 1000000) (b : Nat) (hb : b ≤ h.length) :
    WP (call prog b 69 [vl] h) fun r => Old h.length h r.2 ∧ AccP h.length h.length r.2 int r.1 (ends l) := by
  obtain ⟨dl, sl, cl, bl⟩ := hl.nodes
  refine wp_enter (fn := C.graph_Ends) rfl ?_
  dsimp only [bodyN, C.graph_Ends, C.graph_Ends_l1]; simp [layAt]
  generalize hh : h ++ [AObj.cells 0 1 [AV.int IntKind.i64 1, AV.int IntKind.i64 2]] = h1
  have o1 : Old h.length h h1 := hh ▸ Old.app
  have hnew := AccP.newInts (h := h) (l := [1, 2]) (by simp) (by intro x hx; simp at hx; omega)
  have hk : In h1 ints [1, 2] [.ref h.length 0 0 2] := hh ▸ (hnew.holds (Nat.le_refl _)).mono fun j hj => hj.2
  obtain ⟨dk, sk, ck, _, _⟩ := hk.ints
  have sl1 := sl.old o1 (Nat.le_refl _)
  refine wp_loop (I := fun m e h' => Old h1.length h1 h' ∧ ∃ j v, e = (ea 0 vl <| ea 2 v <| ea 7 (.ref h.length 0 0 2) <| ea 8 (.int .i64 2) <| ea 9 (.int .i64 (j : Nat)) e0) ∧ j + m = 2 ∧ AccP h1.length h1.length h' int v (endsAt l j)) ?_ ⟨Old.refl (Nat.le_refl _), 0, .nil, rfl, Nat.zero_add _, AccP.nil⟩
  rintro N m e h' ⟨old, j, v, rfl, hjm, acc⟩ next
  have o2 := o1.trans (old.mono o1.1)
  dsimp only [C.graph_Ends_b1, C.graph_Ends_l0]; simp
  refine wp_dec (fun hj => ?_) fun hj => ?_
  · try simp
    have hj2 : j < [(1 : Int), 2].length := by simp; omega
    have sk' := sk.old old (Nat.le_refl _)
    refine wp_idx sk' rfl hj2 ?_
    try simp
    refine wp_cell sk' hj2 (ck j hj2) rfl ?_
    try simp
    have sl2 := sl.old o2 (Nat.le_refl _)
    refine wp_len sl2 ?_
    try simp
    generalize hkk : [(1 : Int), 2][j] = kk
    have hsum : endsAt l (j + 1) = endsAt l j ++ ofKind l kk l.length := by
      have : j = 0 ∨ j = 1 := by omega
      rcases this with rfl | rfl <;> (simp at hkk; subst hkk; simp [endsAt, ends])
    have hel : (endsAt l j).length ≤ 1000000 := by
      have : j = 0 ∨ j = 1 := by omega
      rcases this with rfl | rfl
      · simp [endsAt]
      · have := ofKind_len l 1 l.length
        simp only [endsAt]
        omega
    refine wp_loop (I := fun m2 e h2 => Old h1.length h1 h2 ∧ ∃ i v', e = (ea 0 vl <| ea 2 v' <| ea 4 (.int .i64 kk) <| ea 7 (.ref h.length 0 0 2) <| ea 8 (.int .i64 2) <| ea 9 (.int .i64 (j : Nat)) <| ea 13 vl <| ea 14 (.int .i64 l.length) <| ea 15 (.int .i64 (i : Nat)) e0) ∧ i + m2 = l.length ∧ AccP h1.length h1.length h2 int v' (endsAt l j ++ ofKind l kk i)) ?_ ⟨old, 0, v, rfl, Nat.zero_add _, by simpa [ofKind] using acc⟩
    rintro N2 m2 e h2 ⟨old2, i, v', rfl, him, acc2⟩ next2
    have o3 := o1.trans (old2.mono o1.1)
    have sl3 := sl.old o3 (Nat.le_refl _)
    dsimp only [C.graph_Ends_b0]; simp [layAt]
    refine wp_dec (fun hi => ?_) fun hi => ?_
    · try simp
      obtain ⟨a, d, e, ha, hd, hn⟩ := cl i hi
      refine wp_idx sl3 rfl hi ?_
      try simp
      refine wp_elem sl3 hi e ?_
      try simp
      refine wp_init (Nat.le_trans hb o3.1) (by rfl) (by rfl) ?_
      try simp
      generalize hh3 : h2 ++ [AObj.cells 0 1 [AV.str l[i].fst, AV.int IntKind.i64 l[i].snd.fst, a, d, AV.int IntKind.i64 l[i].snd.snd.snd.snd]] = h3
      have o23 : Old h2.length h2 h3 := hh3 ▸ Old.app
      have hbx : h3[h2.length]? = some (.cells 0 1 [AV.str l[i].fst, AV.int IntKind.i64 l[i].snd.fst, a, d, AV.int IntKind.i64 l[i].snd.snd.snd.snd]) := by rw [← hh3]; simp
      have old3 := old2.trans (o23.mono old2.1)
      have acc3 := acc2.keep o23
      have hil := ofKind_len l kk i
      refine wp_ptr1 hbx rfl ?_
      try simp
      refine wp_dec (fun hq => ?_) fun hq => ?_
      · simp [layAt]
        refine wp_pushI acc3 (by omega) (Nat.le_trans hb o1.1) old3.1 (by rw [List.length_append]; omega) fun v4 h4 o4 acc4 => ?_
        try simp
        rw [succ64 hi bl]
        refine next2 (m2 - 1) _ _ (by omega) ⟨old3.trans o4, i + 1, _, rfl, by omega, ?_⟩
        rw [ofKind, List.getElem?_eq_getElem hi, ← List.append_assoc]
        simpa [hq] using acc4
      · try simp
        rw [succ64 hi bl]
        refine next2 (m2 - 1) _ _ (by omega) ⟨old3, i + 1, _, rfl, by omega, ?_⟩
        rw [ofKind, List.getElem?_eq_getElem hi]
        simpa [hq] using acc3
    · try simp
      rw [succ64 (n := 2) (by omega) (by omega)]
      have : i = l.length := by omega
      subst this
      exact next (m - 1) _ _ (by omega) ⟨old2, j + 1, _, rfl, by omega, by rw [hsum]; exact acc2⟩
  · try simp
    have : j = 2 := by omega
    subst this
    exact wp_some ⟨o2, acc.mono o1.1 o1.1⟩
end
end Go.AM

/- Leaves, uses; copies. -/
namespace Go.AM
set_option maxRecDepth 20000
set_option maxHeartbeats 1000000
section
variable {h : Heap}
end
end Go.AM

/- Small graphs made here; what may be, of parts. -/
namespace Go.AM
set_option maxRecDepth 20000
set_option maxHeartbeats 1000000
section
variable {h : Heap}
/-- Cells, one behind another. -/
def InAll (h : Heap) (p : PT) : List p.den → List AV → Prop
  | [], cs => cs = []
  | x :: l, cs => ∃ c1 c2, cs = c1 ++ c2 ∧ In h p x c1 ∧ InAll h p l c2
theorem InAll.len {p : PT} : ∀ {l : List p.den} {cs : List AV}, InAll h p l cs → cs.length = l.length * p.sz
  | [], cs, H => by simp [InAll] at H; simp [H]
  | x :: l, cs, ⟨c1, c2, e, h1, h2⟩ => by rw [e, List.length_append, h1.len, h2.len, List.length_cons, Nat.add_mul]; omega
theorem InAll.get {p : PT} : ∀ {l : List p.den} {cs : List AV}, InAll h p l cs → ∀ (i : Nat) (x : p.den), l[i]? = some x → In h p x ((cs.drop (i * p.sz)).take p.sz)
  | [], _, _, i, x, hi => by simp at hi
  | y :: l, cs, ⟨c1, c2, e, h1, h2⟩, 0, x, hi => by
      simp at hi
      subst hi e
      rw [Nat.zero_mul, List.drop_zero, ← h1.len, List.take_left]
      exact h1
  | y :: l, cs, ⟨c1, c2, e, h1, h2⟩, i + 1, x, hi => by
      simp at hi
      subst e
      rw [Nat.add_mul, Nat.one_mul, Nat.add_comm, ← List.drop_drop, ← h1.len, List.drop_left, h1.len]
      exact h2.get i x hi
/-- A new slice. -/
theorem accp_new {p : PT} {l : List p.den} {cs : List AV} (H : InAll h p l cs) (hb : l.length ≤ 140737488355328) {s n : Nat} (hs : s = p.sz) (hn : n = l.length) : AccP 0 h.length (h ++ [.cells 0 s cs]) p (.ref h.length 0 0 n) l := by
  subst hs hn
  refine ⟨cs, Acc.new (Nat.le_refl _) H.len hb, fun i x hi => (H.get i x hi).frame fun j hj => ⟨⟨Nat.zero_le _, by simp; omega, fun e => ?_⟩, List.getElem?_append_left hj⟩⟩
  cases e
  omega
theorem in_new {p : PT} {l : List p.den} {cs : List AV} (H : InAll h p l cs) (hb : l.length ≤ 140737488355328) {s n : Nat} (hs : s = p.sz) (hn : n = l.length) : In (h ++ [.cells 0 s cs]) (.slice p) l [.ref h.length 0 0 n] :=
  (accp_new H hb hs hn).in (Nat.zero_le _)
theorem in_node {x : node.den} {a d : AV} (ha : In h ints x.2.2.1 [a]) (hd : In h ints x.2.2.2.1 [d]) (hk : -9223372036854775808 ≤ x.2.1 ∧ x.2.1 ≤ 9223372036854775807) (hn : -9223372036854775808 ≤ x.2.2.2.2 ∧ x.2.2.2.2 ≤ 9223372036854775807) (hs : x.1.size ≤ 140737488355328) : In h node x [.str x.1, .int .i64 x.2.1, a, d, .int .i64 x.2.2.2.2] :=
  ⟨[.str x.1], _, rfl, ⟨rfl, hs⟩, [.int .i64 x.2.1], _, rfl, ⟨rfl, hk⟩, [a], _, rfl, ha, [d], _, rfl, hd, rfl, hn⟩
theorem in_ints {l : List Int} (hl : l.length ≤ 140737488355328) (hr : ∀ x ∈ l, -9223372036854775808 ≤ x ∧ x ≤ 9223372036854775807) : In (h ++ [.cells 0 1 (l.map (.int .i64))]) ints l [.ref h.length 0 0 l.length] := (AccP.newInts hl hr).in (Nat.le_refl _)
end
/-! What holds of each node of what may be. -/
theorem allOk_at {l : List node.den} : ∀ {n : Nat}, allOk l n = true → ∀ {i : Nat} (hi : i < l.length), i < n → nodeOk (l.take i) l[i] = true
  | 0, _, _, _, hn => by omega
  | n + 1, H, i, hi, hn => by
      rw [allOk, Bool.and_eq_true] at H
      rcases Nat.eq_or_lt_of_le (Nat.le_of_lt_succ hn) with e | e
      · subst e
        have := H.2
        rw [List.getElem?_eq_getElem hi] at this
        exact this
      · exact allOk_at H.1 hi e
theorem mayL_at {l : List node.den} (H : mayL l = true) {i : Nat} (hi : i < l.length) : nodeOk (l.take i) l[i] = true := by
  rw [mayL, Bool.and_eq_true] at H
  exact allOk_at H.2 hi hi
theorem nodeOk_parts {l : List node.den} {x : node.den} (H : nodeOk l x = true) : argsOk l.length x.2.2.1 = true ∧ formOk x.2.1 x.2.2.2.2 (if asked x.2.1 = true then x.2.2.2.1 else []) (x.2.2.1.map (dimsAt l)) = true ∧ inferD x.2.1 x.2.2.2.2 (if asked x.2.1 = true then x.2.2.2.1 else []) (x.2.2.1.map (dimsAt l)) = some x.2.2.2.1 := by
  rw [nodeOk, decide_eq_true_eq, inferL] at H
  generalize (if asked x.2.1 = true then x.2.2.2.1 else []) = d at *
  split at H
  · rename_i h1
    rw [inferE] at H
    split at H
    · rename_i h2
      refine ⟨h1, h2, ?_⟩
      split at H
      · rename_i x hx
        rw [hx]
        exact congrArg some (congrArg Prod.fst H)
      · have := congrArg Prod.snd H
        simp at this
    · have := congrArg Prod.snd H
      simp at this
  · have := congrArg Prod.snd H
    simp at this
theorem formOk_many {k n : Int} {d : List Int} {ls : List (List Int)} (H : formOk k n d ls = true) : (ls.length : Int) = many k := by
  simp only [formOk, Bool.and_eq_true, decide_eq_true_eq] at H
  exact H.1.1.1.2
theorem formOk_kind {k n : Int} {d : List Int} {ls : List (List Int)} (H : formOk k n d ls = true) : 1 ≤ k ∧ k ≤ 17 := by
  simp only [formOk, Bool.and_eq_true, decide_eq_true_eq] at H
  exact H.1.1.1.1
theorem argsOk_at {n : Nat} {args : List Int} (H : argsOk n args = true) {a : Int} (ha : a ∈ args) : 0 ≤ a ∧ a < (n : Int) := by
  rw [argsOk, List.all_eq_true] at H
  simpa using H a ha
theorem mem_ofKind {l : List node.den} {k : Int} : ∀ {n : Nat} {x : Int}, x ∈ ofKind l k n → ∃ (i : Nat) (hi : i < l.length), x = (i : Int) ∧ l[i].2.1 = k ∧ i < n
  | 0, x, hx => by simp [ofKind] at hx
  | n + 1, x, hx => by
      rw [ofKind, List.mem_append] at hx
      rcases hx with hx | hx
      · obtain ⟨i, hi, e, ek, hn⟩ := mem_ofKind hx
        exact ⟨i, hi, e, ek, by omega⟩
      · rcases Nat.lt_or_ge n l.length with hn | hn
        · rw [List.getElem?_eq_getElem hn] at hx
          simp only at hx
          split at hx
          · simp at hx
            exact ⟨n, hn, hx, by assumption, by omega⟩
          · simp at hx
        · rw [List.getElem?_eq_none (by omega)] at hx
          simp at hx
theorem mem_ends {l : List node.den} {x : Int} (hx : x ∈ ends l) : ∃ (i : Nat) (hi : i < l.length), x = (i : Int) ∧ (l[i].2.1 = 1 ∨ l[i].2.1 = 2) := by
  rw [ends, List.mem_append] at hx
  rcases hx with hx | hx
  · obtain ⟨i, hi, e, ek, _⟩ := mem_ofKind hx
    exact ⟨i, hi, e, .inl ek⟩
  · obtain ⟨i, hi, e, ek, _⟩ := mem_ofKind hx
    exact ⟨i, hi, e, .inr ek⟩
theorem mem_ends' {l : List node.den} {x : Int} (hx : x ∈ ends l) : 0 ≤ x ∧ x < (l.length : Int) ∧ ∃ hi : x.toNat < l.length, l[x.toNat].2.1 = 1 ∨ l[x.toNat].2.1 = 2 := by
  obtain ⟨i, hi, rfl, ek⟩ := mem_ends hx
  exact ⟨by omega, by omega, hi, ek⟩
theorem isL_may {l : List node.den} (H : isL l = true) : mayL l = true := by
  simp only [isL, Bool.and_eq_true] at H
  exact H.1.1.1.2
end Go.AM

/- Copies, and what is the same. -/
namespace Go.AM
set_option maxRecDepth 20000
set_option maxHeartbeats 1000000
attribute [local simp] layAt
attribute [local irreducible] lenK sliceK idxK fldK cutK storeK appK copyK clearK mapAtK callK loopH readK readK1 guardK grdK fnK nilK fieldK extrK strK nextK joinK iteK intK boolK cellsK castK castL castEnv binK unK intBin layParts execN runOpsN runItemsN denN call loop blockK
section
variable {h : Heap}
theorem old_put {h' : Heap} {n l : Nat} (hl : h'.length = h.length) (hk : ∀ j, j ≠ l → h'[j]? = h[j]?) (hn : n ≤ l) (hnl : n ≤ h.length) : Old n h h' := ⟨by omega, fun j hj => hk j (by omega)⟩
theorem AccP.but {h' : Heap} {f n0 l0 : Nat} {p : PT} {v : AV} {l : List p.den} (H : AccP f n0 h p v l) (hl : h'.length = h.length) (hk : ∀ j, j ≠ l0 → h'[j]? = h[j]?) (hf : l0 < f) (hn : l0 < n0) : AccP f n0 h' p v l := by
  obtain ⟨cs, a, e⟩ := H
  exact ⟨cs, a.keep fun j hj => hk j (by have := (a.lt hj).1; omega), fun i x hi => (e i x hi).frame fun j hj => ⟨⟨hj.1, by omega, hj.2.2⟩, hk j (by omega)⟩⟩
theorem holds_node {S : Nat → Prop} {x : node.den} {a d : AV} (ha : Holds S h ints x.2.2.1 [a]) (hd : Holds S h ints x.2.2.2.1 [d]) (hk : -9223372036854775808 ≤ x.2.1 ∧ x.2.1 ≤ 9223372036854775807) (hn : -9223372036854775808 ≤ x.2.2.2.2 ∧ x.2.2.2.2 ≤ 9223372036854775807) (hs : x.1.size ≤ 140737488355328) : Holds S h node x [.str x.1, .int .i64 x.2.1, a, d, .int .i64 x.2.2.2.2] :=
  ⟨[.str x.1], _, rfl, ⟨rfl, hs⟩, [.int .i64 x.2.1], _, rfl, ⟨rfl, hk⟩, [a], _, rfl, ha, [d], _, rfl, hd, rfl, hn⟩
end
end Go.AM
