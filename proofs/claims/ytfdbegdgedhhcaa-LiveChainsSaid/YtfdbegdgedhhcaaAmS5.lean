/- What would a node's dims be: the page's way. -/
import Derived.Test.YtfdbegdgedhhcaaAmS4
set_option linter.all false
namespace Go.AM
set_option maxRecDepth 20000
section
variable {h : Heap}
/-- What is told with a fresh slice, if so. -/
def Told (h : Heap) (x : Option (List Int)) (r : AV × Heap) : Prop := Old h.length h r.2 ∧ ∃ v', r.1 = .tup [v', .bool x.isSome] ∧ (x.isSome = true → AccP h.length h.length r.2 int v' (x.getD []))
theorem Told.no {h h' : Heap} {x : Option (List Int)} (hx : x = none) (o : Old h.length h h') {v : AV} : Told h x (.tup [v, .bool false], h') := by
  subst hx
  exact ⟨o, v, rfl, fun e => by cases e⟩
theorem Told.yes {h h' : Heap} {x : Option (List Int)} {l : List Int} (hx : x = some l) (o : Old h.length h h') {v : AV} (a : AccP h.length h.length h' int v l) : Told h x (.tup [v, .bool true], h') := by
  subst hx
  exact ⟨o, v, rfl, fun _ => a⟩
theorem Told.if {h h' : Heap} {x : Option (List Int)} {l : List Int} {c : Bool} (hx : x = if c = true then some l else none) (o : Old h.length h h') {v : AV} (a : AccP h.length h.length h' int v l) : Told h x (.tup [v, .bool c], h') := by
  subst hx
  cases c
  · exact .no rfl o
  · exact .yes rfl o a
theorem ref1_Infer {vd vl : AV} {k n : Int} {d : List Int} {ls : List (List Int)} (hd : In h ints d [vd]) (hl : In h (.slice ints) ls [vl]) (hf : formOk k n d ls = true) (b : Nat) (hb : b ≤ h.length) :
    WP (call prog b 65 [.int .i64 k, .int .i64 n, vd, vl] h) (Told h (inferD k n d ls)) := by
  obtain ⟨ds, el, hs, hc, he, hbl⟩ := hl.lists
  simp only [formOk, Bool.and_eq_true, decide_eq_true_eq, List.all_eq_true] at hf
  obtain ⟨⟨⟨⟨⟨hk1, hk2⟩, hlen⟩, hall⟩, hn⟩, hdd⟩ := hf
  have hdl : d.length * 8 ≤ 140737488355328 := by
    split at hdd
    · have := dimsOk_len hdd
      omega
    · simp at hdd
      subst hdd
      simp
  have hok : ∀ i (hi : i < ls.length), dimsOk ls[i] = true := fun i hi => hall _ (List.getElem_mem hi)
  refine wp_enter (fn := C.ref1_Infer) rfl ?_
  dsimp only [bodyN, C.ref1_Infer]
  have hk : k = 1 ∨ k = 2 ∨ k = 3 ∨ k = 4 ∨ k = 5 ∨ k = 6 ∨ k = 7 ∨ k = 8 ∨ k = 9 ∨ k = 10 ∨ k = 11 ∨ k = 12 ∨ k = 13 ∨ k = 14 ∨ k = 15 ∨ k = 16 ∨ k = 17 := by omega
  rcases hk with rfl | rfl | rfl | rfl | rfl | rfl | rfl | rfl | rfl | rfl | rfl | rfl | rfl | rfl | rfl | rfl | rfl
  all_goals simp [many] at hlen
  all_goals simp
  · refine wp_call (ref0_CopyNumbers hd hdl b hb) fun v' h' ⟨o, a⟩ => ?_
    try simp
    exact wp_some (.yes rfl o a)
  · refine wp_call (ref0_CopyNumbers hd hdl b hb) fun v' h' ⟨o, a⟩ => ?_
    try simp
    exact wp_some (.yes rfl o a)
  · refine wp_call (ref0_CopyNumbers hd hdl b hb) fun v' h' ⟨o, a⟩ => ?_
    try simp
    exact wp_some (.yes rfl o a)
  · obtain ⟨a, c, rfl⟩ := len2 (l := ls) (by omega); have ha : In h ints a [el 0] := he 0 (by simp); have hcc : In h ints c [el 1] := he 1 (by simp); have oka : dimsOk a = true := hok 0 (by simp); have okc : dimsOk c = true := hok 1 (by simp); have la := dimsOk_len oka; have lc := dimsOk_len okc; have sa : a.length * 8 ≤ 140737488355328 := by omega
    refine wp_idx hs rfl (by simp) ?_; (try simp); refine wp_cell hs (by simp) (hc 0 (by simp)) rfl ?_; (try simp)
    refine wp_call (ref0_CopyNumbers ha sa _ (Nat.le_refl _)) fun v' h' ⟨o, a'⟩ => ?_
    simp only at o a'
    have hs' := hs.old o (Nat.le_refl _)
    try simp
    refine wp_idx hs' rfl (by simp) ?_; (try simp); refine wp_cell hs' (by simp) (hc 0 (by simp)) rfl ?_; (try simp)
    refine wp_idx hs' rfl (by simp) ?_; (try simp); refine wp_cell hs' (by simp) (hc 1 (by simp)) rfl ?_; (try simp)
    rw [callK_eq (ref0_EqNumbers (In.old o ha) (In.old o hcc) _)]
    try simp
    exact wp_some (.if (by simp [inferD]) o a')
  · obtain ⟨a, c, rfl⟩ := len2 (l := ls) (by omega); have ha : In h ints a [el 0] := he 0 (by simp); have hcc : In h ints c [el 1] := he 1 (by simp); have oka : dimsOk a = true := hok 0 (by simp); have okc : dimsOk c = true := hok 1 (by simp); have la := dimsOk_len oka; have lc := dimsOk_len okc; have sa : a.length * 8 ≤ 140737488355328 := by omega
    refine wp_idx hs rfl (by simp) ?_; (try simp); refine wp_cell hs (by simp) (hc 0 (by simp)) rfl ?_; (try simp)
    refine wp_call (ref0_CopyNumbers ha sa _ (Nat.le_refl _)) fun v' h' ⟨o, a'⟩ => ?_
    simp only at o a'
    have hs' := hs.old o (Nat.le_refl _)
    try simp
    refine wp_idx hs' rfl (by simp) ?_; (try simp); refine wp_cell hs' (by simp) (hc 0 (by simp)) rfl ?_; (try simp)
    refine wp_idx hs' rfl (by simp) ?_; (try simp); refine wp_cell hs' (by simp) (hc 1 (by simp)) rfl ?_; (try simp)
    rw [callK_eq (ref0_EqNumbers (In.old o ha) (In.old o hcc) _)]
    try simp
    exact wp_some (.if (by simp [inferD]) o a')
  · obtain ⟨a, c, rfl⟩ := len2 (l := ls) (by omega); have ha : In h ints a [el 0] := he 0 (by simp); have hcc : In h ints c [el 1] := he 1 (by simp); have oka : dimsOk a = true := hok 0 (by simp); have okc : dimsOk c = true := hok 1 (by simp); have la := dimsOk_len oka; have lc := dimsOk_len okc; have sa : a.length * 8 ≤ 140737488355328 := by omega
    refine wp_idx hs rfl (by simp) ?_; (try simp); refine wp_cell hs (by simp) (hc 0 (by simp)) rfl ?_; (try simp)
    refine wp_call (ref0_CopyNumbers ha sa _ (Nat.le_refl _)) fun v' h' ⟨o, a'⟩ => ?_
    simp only at o a'
    have hs' := hs.old o (Nat.le_refl _)
    try simp
    refine wp_idx hs' rfl (by simp) ?_; (try simp); refine wp_cell hs' (by simp) (hc 0 (by simp)) rfl ?_; (try simp)
    refine wp_idx hs' rfl (by simp) ?_; (try simp); refine wp_cell hs' (by simp) (hc 1 (by simp)) rfl ?_; (try simp)
    rw [callK_eq (ref0_EqNumbers (In.old o ha) (In.old o hcc) _)]
    try simp
    exact wp_some (.if (by simp [inferD]) o a')
  · obtain ⟨a, rfl⟩ := len1 (l := ls) (by omega); have ha : In h ints a [el 0] := he 0 (by simp); have oka : dimsOk a = true := hok 0 (by simp); have la := dimsOk_len oka; have sa : a.length * 8 ≤ 140737488355328 := by omega
    refine wp_idx hs rfl (by simp) ?_; (try simp); refine wp_cell hs (by simp) (hc 0 (by simp)) rfl ?_; (try simp)
    refine wp_call (ref0_CopyNumbers ha sa b hb) fun v' h' ⟨o, a'⟩ => ?_
    try simp
    exact wp_some (.yes (by simp [inferD]) o a')
  · obtain ⟨a, rfl⟩ := len1 (l := ls) (by omega); have ha : In h ints a [el 0] := he 0 (by simp); have oka : dimsOk a = true := hok 0 (by simp); have la := dimsOk_len oka; have sa : a.length * 8 ≤ 140737488355328 := by omega
    refine wp_idx hs rfl (by simp) ?_; (try simp); refine wp_cell hs (by simp) (hc 0 (by simp)) rfl ?_; (try simp)
    refine wp_call (ref0_CopyNumbers ha sa b hb) fun v' h' ⟨o, a'⟩ => ?_
    try simp
    exact wp_some (.yes (by simp [inferD]) o a')
  · obtain ⟨a, c, rfl⟩ := len2 (l := ls) (by omega); have ha : In h ints a [el 0] := he 0 (by simp); have hcc : In h ints c [el 1] := he 1 (by simp); have oka : dimsOk a = true := hok 0 (by simp); have okc : dimsOk c = true := hok 1 (by simp); have la := dimsOk_len oka; have lc := dimsOk_len okc; have sa : a.length * 8 ≤ 140737488355328 := by omega
    obtain ⟨da, sa1, ca, ra, _⟩ := ha.ints
    obtain ⟨dc, sc1, cc, rc, _⟩ := hcc.ints
    by_cases h2 : a.length = 2
    · obtain ⟨p, q, rfl⟩ := len2 h2
      refine wp_idx hs rfl (by simp) ?_; (try simp); refine wp_cell hs (by simp) (hc 0 (by simp)) rfl ?_; (try simp)
      refine wp_len sa1 ?_
      try simp
      refine wp_idx hs rfl (by simp) ?_; (try simp); refine wp_cell hs (by simp) (hc 1 (by simp)) rfl ?_; (try simp)
      refine wp_len sc1 ?_
      try simp
      by_cases h3 : c.length = 2
      · obtain ⟨r, t, rfl⟩ := len2 h3
        try simp
        refine wp_idx hs rfl (by simp) ?_; (try simp); refine wp_cell hs (by simp) (hc 0 (by simp)) rfl ?_; (try simp)
        refine wp_idx sa1 rfl (by simp) ?_; (try simp); refine wp_cell sa1 (by simp) (ca 1 (by simp)) rfl ?_; (try simp)
        refine wp_idx hs rfl (by simp) ?_; (try simp); refine wp_cell hs (by simp) (hc 1 (by simp)) rfl ?_; (try simp)
        refine wp_idx sc1 rfl (by simp) ?_; (try simp); refine wp_cell sc1 (by simp) (cc 0 (by simp)) rfl ?_; (try simp)
        by_cases h4 : q = r
        · simp [h4]
          refine wp_idx hs rfl (by simp) ?_; (try simp); refine wp_cell hs (by simp) (hc 0 (by simp)) rfl ?_; (try simp)
          refine wp_idx sa1 rfl (by simp) ?_; (try simp); refine wp_cell sa1 (by simp) (ca 0 (by simp)) rfl ?_; (try simp)
          refine wp_idx hs rfl (by simp) ?_; (try simp); refine wp_cell hs (by simp) (hc 1 (by simp)) rfl ?_; (try simp)
          refine wp_idx sc1 rfl (by simp) ?_; (try simp); refine wp_cell sc1 (by simp) (cc 1 (by simp)) rfl ?_; (try simp)
          have hp := dimsOk_mem oka (x := p) (by simp)
          have ht := dimsOk_mem okc (x := t) (by simp)
          simp [layAt]
          exact wp_some (.yes (by simp [inferD, h4]) Old.app (AccP.newInts (h := h) (l := [p, t]) (by simp) (by intro x hx; simp at hx; omega)))
        · simp [h4]
          exact wp_some (.no (by simp [inferD, h4]) (Old.refl (Nat.le_refl _)))
      · have h3' : ¬ ((c.length : Int) = 2) := by omega
        simp [h3']
        exact wp_some (.no (by simp [inferD, h3]) (Old.refl (Nat.le_refl _)))
    · have h2' : ¬ ((a.length : Int) = 2) := by omega
      refine wp_idx hs rfl (by simp) ?_; (try simp); refine wp_cell hs (by simp) (hc 0 (by simp)) rfl ?_; (try simp)
      refine wp_len sa1 ?_
      simp [h2']
      exact wp_some (.no (by simp [inferD, h2]) (Old.refl (Nat.le_refl _)))
  · obtain ⟨a, rfl⟩ := len1 (l := ls) (by omega); have ha : In h ints a [el 0] := he 0 (by simp); have oka : dimsOk a = true := hok 0 (by simp); have la := dimsOk_len oka; have sa : a.length * 8 ≤ 140737488355328 := by omega
    obtain ⟨da, sa1, ca, ra, _⟩ := ha.ints
    by_cases h2 : a.length = 2
    · obtain ⟨p, q, rfl⟩ := len2 h2
      refine wp_idx hs rfl (by simp) ?_; (try simp); refine wp_cell hs (by simp) (hc 0 (by simp)) rfl ?_; (try simp)
      refine wp_len sa1 ?_
      try simp
      refine wp_idx hs rfl (by simp) ?_; (try simp); refine wp_cell hs (by simp) (hc 0 (by simp)) rfl ?_; (try simp)
      refine wp_idx sa1 rfl (by simp) ?_; (try simp); refine wp_cell sa1 (by simp) (ca 1 (by simp)) rfl ?_; (try simp)
      refine wp_idx hs rfl (by simp) ?_; (try simp); refine wp_cell hs (by simp) (hc 0 (by simp)) rfl ?_; (try simp)
      refine wp_idx sa1 rfl (by simp) ?_; (try simp); refine wp_cell sa1 (by simp) (ca 0 (by simp)) rfl ?_; (try simp)
      have hp := dimsOk_mem oka (x := p) (by simp)
      have ht := dimsOk_mem oka (x := q) (by simp)
      simp [layAt]
      exact wp_some (.yes (by simp [inferD]) Old.app (AccP.newInts (h := h) (l := [q, p]) (by simp) (by intro x hx; simp at hx; omega)))
    · have h2' : ¬ ((a.length : Int) = 2) := by omega
      refine wp_idx hs rfl (by simp) ?_; (try simp); refine wp_cell hs (by simp) (hc 0 (by simp)) rfl ?_; (try simp)
      refine wp_len sa1 ?_
      simp [h2']
      exact wp_some (.no (by simp [inferD, h2]) (Old.refl (Nat.le_refl _)))
  · obtain ⟨a, rfl⟩ := len1 (l := ls) (by omega); have ha : In h ints a [el 0] := he 0 (by simp); have oka : dimsOk a = true := hok 0 (by simp); have la := dimsOk_len oka; have sa : a.length * 8 ≤ 140737488355328 := by omega
    refine wp_call (ref0_CopyNumbers hd hdl _ (Nat.le_refl _)) fun v' h' ⟨o, a'⟩ => ?_
    simp only at o a'
    have hs' := hs.old o (Nat.le_refl _)
    try simp
    rw [callK_eq (ref1_Cells (In.old o hd) _)]
    try simp
    refine wp_idx hs' rfl (by simp) ?_; (try simp); refine wp_cell hs' (by simp) (hc 0 (by simp)) rfl ?_; (try simp)
    rw [callK_eq (ref1_Cells (In.old o ha) _)]
    try simp
    exact wp_some (.if (by simp [inferD]) o a')
  · obtain ⟨a, rfl⟩ := len1 (l := ls) (by omega); have ha : In h ints a [el 0] := he 0 (by simp); have oka : dimsOk a = true := hok 0 (by simp); have la := dimsOk_len oka; have sa : a.length * 8 ≤ 140737488355328 := by omega
    refine wp_call (ref0_CopyNumbers hd hdl _ (Nat.le_refl _)) fun v' h' ⟨o, a'⟩ => ?_
    simp only at o a'
    have hs' := hs.old o (Nat.le_refl _)
    try simp
    refine wp_idx hs' rfl (by simp) ?_; (try simp); refine wp_cell hs' (by simp) (hc 0 (by simp)) rfl ?_; (try simp)
    rw [callK_eq (ref1_Wider (In.old o ha) (In.old o hd) _)]
    try simp
    exact wp_some (.if (by simp [inferD]) o a')
  · obtain ⟨a, rfl⟩ := len1 (l := ls) (by omega); have ha : In h ints a [el 0] := he 0 (by simp); have oka : dimsOk a = true := hok 0 (by simp); have la := dimsOk_len oka; have sa : a.length * 8 ≤ 140737488355328 := by omega
    refine wp_call (ref0_CopyNumbers hd hdl _ (Nat.le_refl _)) fun v' h' ⟨o, a'⟩ => ?_
    simp only at o a'
    have hs' := hs.old o (Nat.le_refl _)
    try simp
    refine wp_idx hs' rfl (by simp) ?_; (try simp); refine wp_cell hs' (by simp) (hc 0 (by simp)) rfl ?_; (try simp)
    rw [callK_eq (ref1_Wider (In.old o hd) (In.old o ha) _)]
    try simp
    exact wp_some (.if (by simp [inferD]) o a')
  · obtain ⟨a, rfl⟩ := len1 (l := ls) (by omega); have ha : In h ints a [el 0] := he 0 (by simp); have oka : dimsOk a = true := hok 0 (by simp); have la := dimsOk_len oka; have sa : a.length * 8 ≤ 140737488355328 := by omega
    refine wp_idx hs rfl (by simp) ?_; (try simp); refine wp_cell hs (by simp) (hc 0 (by simp)) rfl ?_; (try simp)
    refine wp_call (ref0_CopyNumbers ha sa b hb) fun v' h' ⟨o, a'⟩ => ?_
    try simp
    exact wp_some (.yes (by simp [inferD]) o a')
  · obtain ⟨a, rfl⟩ := len1 (l := ls) (by omega); have ha : In h ints a [el 0] := he 0 (by simp); have oka : dimsOk a = true := hok 0 (by simp); have la := dimsOk_len oka; have sa : a.length * 8 ≤ 140737488355328 := by omega
    obtain ⟨da, sa1, ca, ra, _⟩ := ha.ints
    have hn1 : 1 ≤ n := by simp [numberOk] at hn; omega
    have hw : IntKind.i64.wrap ((a.length : Int) - 1) = ((a.length - 1 : Nat) : Int) := by rw [w64_id (by omega) (by omega)]; omega
    have hlast : lastD a = a[a.length - 1] := by rw [lastD, List.getD_eq_getElem?_getD, List.getElem?_eq_getElem (by omega)]; rfl
    refine wp_idx hs rfl (by simp) ?_; (try simp); refine wp_cell hs (by simp) (hc 0 (by simp)) rfl ?_; (try simp)
    refine wp_idx hs rfl (by simp) ?_; (try simp); refine wp_cell hs (by simp) (hc 0 (by simp)) rfl ?_; (try simp)
    refine wp_len sa1 ?_
    try simp
    rw [hw]
    refine wp_idx sa1 rfl (by omega) ?_
    try simp
    refine wp_cell sa1 (by omega) (ca (a.length - 1) (by omega)) rfl ?_
    try simp
    refine wp_guard (by omega) ?_
    try simp
    rw [← hlast]
    refine wp_ndec (fun hne => wp_some (.no (by simp [inferD, hne]) (Old.refl (Nat.le_refl _)))) fun heq => ?_
    try simp
    refine wp_idx hs rfl (by simp) ?_; (try simp); refine wp_cell hs (by simp) (hc 0 (by simp)) rfl ?_; (try simp)
    refine wp_call (ref1_less ha sa (by intro e; simp [e] at la) hn1 b hb) fun v' h' ⟨o, a'⟩ => ?_
    simp only at o a'
    try simp
    exact wp_some (.yes (by simp [inferD, heq]) o a')
  · obtain ⟨a, c, rfl⟩ := len2 (l := ls) (by omega); have ha : In h ints a [el 0] := he 0 (by simp); have hcc : In h ints c [el 1] := he 1 (by simp); have oka : dimsOk a = true := hok 0 (by simp); have okc : dimsOk c = true := hok 1 (by simp); have la := dimsOk_len oka; have lc := dimsOk_len okc; have sa : a.length * 8 ≤ 140737488355328 := by omega
    refine wp_idx hs rfl (by simp) ?_; (try simp); refine wp_cell hs (by simp) (hc 0 (by simp)) rfl ?_; (try simp)
    refine wp_call (ref0_CopyNumbers ha sa _ (Nat.le_refl _)) fun v' h' ⟨o, a'⟩ => ?_
    simp only at o a'
    have hs' := hs.old o (Nat.le_refl _)
    try simp
    refine wp_idx hs' rfl (by simp) ?_; (try simp); refine wp_cell hs' (by simp) (hc 0 (by simp)) rfl ?_; (try simp)
    refine wp_idx hs' rfl (by simp) ?_; (try simp); refine wp_cell hs' (by simp) (hc 1 (by simp)) rfl ?_; (try simp)
    rw [callK_eq (ref0_EqNumbers (In.old o ha) (In.old o hcc) _)]
    try simp
    exact wp_some (.if (by simp [inferD]) o a')
  · obtain ⟨a, c, rfl⟩ := len2 (l := ls) (by omega); have ha : In h ints a [el 0] := he 0 (by simp); have hcc : In h ints c [el 1] := he 1 (by simp); have oka : dimsOk a = true := hok 0 (by simp); have okc : dimsOk c = true := hok 1 (by simp); have la := dimsOk_len oka; have lc := dimsOk_len okc; have sa : a.length * 8 ≤ 140737488355328 := by omega
    obtain ⟨da, sa1, ca, ra, _⟩ := ha.ints
    have hn1 : 1 ≤ n := by simp [numberOk] at hn; omega
    have hw : IntKind.i64.wrap ((a.length : Int) - 1) = ((a.length - 1 : Nat) : Int) := by rw [w64_id (by omega) (by omega)]; omega
    have hlast : lastD a = a[a.length - 1] := by rw [lastD, List.getD_eq_getElem?_getD, List.getElem?_eq_getElem (by omega)]; rfl
    refine wp_idx hs rfl (by simp) ?_; (try simp); refine wp_cell hs (by simp) (hc 0 (by simp)) rfl ?_; (try simp)
    refine wp_idx hs rfl (by simp) ?_; (try simp); refine wp_cell hs (by simp) (hc 0 (by simp)) rfl ?_; (try simp)
    refine wp_len sa1 ?_
    try simp
    rw [hw]
    refine wp_idx sa1 rfl (by omega) ?_
    try simp
    refine wp_cell sa1 (by omega) (ca (a.length - 1) (by omega)) rfl ?_
    try simp
    refine wp_guard (by omega) ?_
    try simp
    rw [← hlast]
    refine wp_ndec (fun hne => wp_some (.no (by simp [inferD, hne]) (Old.refl (Nat.le_refl _)))) fun heq => ?_
    try simp
    refine wp_idx hs rfl (by simp) ?_; (try simp); refine wp_cell hs (by simp) (hc 0 (by simp)) rfl ?_; (try simp)
    refine wp_call (ref1_less ha sa (by intro e; simp [e] at la) hn1 b hb) fun v' h' ⟨o, a'⟩ => ?_
    simp only at o a'
    try simp
    have hs' := hs.old o (Nat.le_refl _)
    refine wp_idx hs' rfl (by simp) ?_; (try simp); refine wp_cell hs' (by simp) (hc 0 (by simp)) rfl ?_; (try simp)
    have hi : In h' ints (lessD a n) [v'] := (a'.holds (Nat.le_refl _)).mono fun j hj => hj.2
    refine wp_call (ref0_CopyNumbers (In.old o ha) sa _ (Nat.le_refl _)) fun v'' h'' ⟨o', a''⟩ => ?_
    simp only at o' a''
    have o2 := o.trans (o'.mono o.1)
    have hs'' := hs.old o2 (Nat.le_refl _)
    try simp
    refine wp_idx hs'' rfl (by simp) ?_; (try simp); refine wp_cell hs'' (by simp) (hc 1 (by simp)) rfl ?_; (try simp)
    rw [callK_eq (ref0_EqNumbers (In.old o' hi) (In.old o2 hcc) _)]
    try simp
    exact wp_some (.if (by simp [inferD, heq]) o2 (a''.mono o.1 o.1))
end
end Go.AM
