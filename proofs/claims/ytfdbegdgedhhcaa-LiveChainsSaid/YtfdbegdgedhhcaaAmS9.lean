/- How much is handed in. -/
import Derived.Test.YtfdbegdgedhhcaaAmS8
set_option linter.all false
namespace Go.AM
set_option maxRecDepth 20000
section
variable {S : Nat → Prop} {h : Heap}
/-- Lists' weight: as many, and all their numbers. -/
def wLists (l : List (List Int)) : Nat := l.length + (l.map List.length).sum
theorem sum_take_succ (f : List Int → Nat) {l : List (List Int)} {i : Nat} (hi : i < l.length) : ((l.take (i + 1)).map f).sum = ((l.take i).map f).sum + f l[i] := by
  rw [map_take_succ f hi, List.sum_append]
  simp
theorem law0_Lists {v : AV} {l : List (List Int)} (hl : Holds S h (.slice ints) l [v]) (b : Nat) :
    WP (call prog b 58 [v] h) fun r => r.2 = h ∧ ∃ n : Nat, r.1 = .int .i64 n ∧ n ≤ 281474976710656 ∧ (n < 1048576 → n = wLists l) := by
  obtain ⟨ds, el, hs, hc, he, hb⟩ := hl.lists
  refine wp_enter (fn := C.law0_Lists) rfl ?_
  dsimp only [bodyN, C.law0_Lists, C.law0_Lists_l0]; simp
  refine wp_len hs ?_
  try simp
  refine wp_loop (I := fun m e h' => h' = h ∧ ∃ i n : Nat, e = (ea 0 v <| ea 3 (.int .i64 (n : Nat)) <| ea 4 (.int .i64 (i : Nat)) e0) ∧ i + m = l.length ∧ n ≤ 281474976710656 ∧ n = l.length + ((l.take i).map List.length).sum) ?_ ⟨rfl, 0, l.length, rfl, Nat.zero_add _, by omega, by simp⟩
  rintro N m e _ ⟨rfl, i, n, rfl, him, hn, hsum⟩ next
  dsimp only [C.law0_Lists_b0]; simp
  refine wp_len hs ?_
  try simp
  refine wp_dec (fun hi => ?_) fun hi => ?_
  · try simp
    refine wp_dec (fun h2 => ?_) fun h2 => wp_some ⟨rfl, n, rfl, hn, fun h3 => absurd (by omega) h2⟩
    try simp
    refine wp_idx hs rfl hi ?_
    try simp
    refine wp_cell hs hi (hc i hi) rfl ?_
    try simp
    obtain ⟨de, se, _, _, be⟩ := (he i hi).ints
    refine wp_len se ?_
    try simp
    rw [succ64 hi hb, show ((n : Int) + (l[i].length : Int)) = ((n + l[i].length : Nat) : Int) by omega, w64_id (by omega) (by omega)]
    exact next (m - 1) _ _ (by omega) ⟨rfl, i + 1, _, rfl, by omega, by omega, by rw [sum_take_succ _ hi]; omega⟩
  · try simp
    refine wp_some ⟨rfl, n, rfl, hn, fun _ => ?_⟩
    rw [List.take_of_length_le (by omega)] at hsum
    exact hsum
/-- A node's weight. -/
def wNode (x : node.den) : Nat := x.2.2.1.length + x.2.2.2.1.length + x.1.size / 8
def wNodes (l : List node.den) : Nat := l.length + (l.map wNode).sum
theorem law0_NodesWeight {v : AV} {l : List node.den} (hl : Holds S h nodes l [v]) (b : Nat) :
    WP (call prog b 59 [v] h) fun r => r.2 = h ∧ ∃ n : Nat, r.1 = .int .i64 n ∧ n ≤ 1125899906842624 ∧ (n < 1048576 → n = wNodes l) := by
  obtain ⟨ds, hs, hc, hb⟩ := hl.nodes
  refine wp_enter (fn := C.law0_NodesWeight) rfl ?_
  dsimp only [bodyN, C.law0_NodesWeight, C.law0_NodesWeight_l0]; simp
  refine wp_len hs ?_
  try simp
  refine wp_loop (I := fun m e h' => h' = h ∧ ∃ i n : Nat, e = (ea 0 v <| ea 3 (.int .i64 (n : Nat)) <| ea 4 (.int .i64 (i : Nat)) e0) ∧ i + m = l.length ∧ n ≤ 1125899906842624 ∧ n = l.length + ((l.take i).map wNode).sum) ?_ ⟨rfl, 0, l.length, rfl, Nat.zero_add _, by omega, by simp⟩
  rintro N m e _ ⟨rfl, i, n, rfl, him, hn, hsum⟩ next
  dsimp only [C.law0_NodesWeight_b0]; simp
  refine wp_len hs ?_
  try simp
  refine wp_dec (fun hi => ?_) fun hi => ?_
  · try simp
    refine wp_dec (fun h2 => ?_) fun h2 => wp_some ⟨rfl, n, rfl, hn, fun h3 => absurd (by omega) h2⟩
    try simp
    obtain ⟨a, d, e, ha, hd, hx⟩ := hc i hi
    refine wp_idx hs rfl hi ?_
    try simp
    refine wp_cell hs hi e rfl ?_
    try simp
    obtain ⟨da, sa, _, _, ba⟩ := ha.ints
    obtain ⟨dd, sd, _, _, bd⟩ := hd.ints
    obtain ⟨_, _, _, _, _, _, _, bn⟩ := hx.node
    refine wp_len sa ?_
    try simp
    refine wp_idx hs rfl hi ?_
    try simp
    refine wp_cell hs hi e rfl ?_
    try simp
    refine wp_len sd ?_
    try simp
    refine wp_idx hs rfl hi ?_
    try simp
    refine wp_cell hs hi e rfl ?_
    try simp
    have hw : wNode l[i] = l[i].2.2.1.length + l[i].2.2.2.1.length + l[i].1.size / 8 := rfl
    have hstep : n + wNode l[i] = l.length + ((l.take (i + 1)).map wNode).sum := by
      rw [map_take_succ wNode hi, List.sum_append]
      simp only [List.sum_cons, List.sum_nil]
      omega
    rw [succ64 hi hb, w64_id (n := (n : Int) + (l[i].2.2.1.length : Int)) (by omega) (by omega), w64_id (n := (n : Int) + (l[i].2.2.1.length : Int) + (l[i].2.2.2.1.length : Int)) (by omega) (by omega), w64_id (n := (l[i].1.size : Int) / 8) (by omega) (by omega), w64_id (by omega) (by omega),
      show ((n : Int) + (l[i].2.2.1.length : Int) + (l[i].2.2.2.1.length : Int) + (l[i].1.size : Int) / 8) = ((n + wNode l[i] : Nat) : Int) by omega]
    exact next (m - 1) _ _ (by omega) ⟨rfl, i + 1, _, rfl, by omega, by omega, hstep⟩
  · try simp
    refine wp_some ⟨rfl, n, rfl, hn, fun _ => ?_⟩
    rw [List.take_of_length_le (by omega)] at hsum
    exact hsum
/-- What graph's laws are handed. -/
theorem holds_ask8 {y : ask8.den} {as : List AV} (H : Holds S h ask8 y as) : ∃ vl vn vd, as = [vl, vn, vd] ∧ Holds S h (.slice nodes) y.1 [vl] ∧ Holds S h (.slice (.int .i64)) y.2.1 [vn] ∧ Holds S h (.slice (.slice (.int .i64))) y.2.2 [vd] := by
  obtain ⟨c1, c2, rfl, hl, c3, c4, rfl, hn, hd⟩ := H
  obtain ⟨vl, _, rfl, _⟩ := id hl
  obtain ⟨vn, _, rfl, _⟩ := id hn
  obtain ⟨vd, _, rfl, _⟩ := id hd
  exact ⟨vl, vn, vd, rfl, hl, hn, hd⟩
/-- Light enough to be played. -/
def light8 (y : ask8.den) : Prop := y.2.1.length + wLists y.2.2 + (y.1.map wNodes).sum ≤ 1200
/-- Whether it is too heavy; if not, it is light. -/
def Weighed (h : Heap) (light : Prop) (r : AV × Heap) : Prop := Old h.length h r.2 ∧ ∃ q, r.1 = .bool q ∧ (q = false → light)
theorem law8_Heavy {y : ask8.den} {as : List AV} (H : In h ask8 y as) (b : Nat) (hb : b ≤ h.length) :
    WP (call prog b 0 [.agg as] h) (Weighed h (light8 y)) := by
  obtain ⟨vl, vn, vd, rfl, hl, hn, hd⟩ := holds_ask8 H
  obtain ⟨dl, sl, cl⟩ := hl.elem
  obtain ⟨dn, sn, _, _, bn⟩ := hn.ints
  refine wp_enter (fn := C.law8_Heavy) rfl ?_
  dsimp only [bodyN, C.law8_Heavy, C.law8_Heavy_l0]; simp
  generalize hh : h ++ [AObj.cells 0 1 [vl, vn, vd]] = h1
  have o1 : Old h.length h h1 := hh ▸ Old.app
  have hbx : h1[h.length]? = some (.cells 0 1 [vl, vn, vd]) := by rw [← hh]; simp
  have sn1 := sn.old o1 (Nat.le_refl _)
  refine wp_ptr1 hbx rfl ?_
  try simp
  refine wp_len sn1 ?_
  try simp
  refine wp_ptr1 hbx rfl ?_
  try simp
  refine wp_call (law0_Lists (In.old o1 hd) _) fun v2 h2 ⟨e2, n2, e2', b2, c2⟩ => ?_
  simp only at e2 e2'
  subst e2 e2'
  try simp
  rw [show ((y.2.1.length : Int) + (n2 : Int)) = ((y.2.1.length + n2 : Nat) : Int) by omega, w64_id (by omega) (by omega)]
  have sl1 := sl.old o1 (Nat.le_refl _)
  have bl := sl.1
  refine wp_loop (I := fun m e h' => h' = h2 ∧ ∃ i n : Nat, e = (ea 1 (.ptr h.length 0 0) <| ea 3 (.int .i64 (n : Nat)) <| ea 4 (.int .i64 (i : Nat)) e0) ∧ i + m = y.1.length ∧ n ≤ 2251799813685248 ∧ (n < 1048576 → n = y.2.1.length + wLists y.2.2 + ((y.1.take i).map wNodes).sum)) ?_ ⟨rfl, 0, y.2.1.length + n2, rfl, Nat.zero_add _, by omega, fun hlt => by simp; exact c2 (by omega)⟩
  rintro N m e h3 ⟨rfl, i, n, rfl, him, hn', hsum⟩ next
  dsimp only [C.law8_Heavy_b0]; simp
  refine wp_ptr1 hbx rfl ?_
  try simp
  refine wp_len sl1 ?_
  try simp
  have stop : (n < 1048576 → i = y.1.length) → WP (some (AV.bool (decide (1200 < (n : Int))), h3)) (Weighed h (light8 y)) := fun hst => wp_some ⟨o1, _, rfl, fun hq => by
    simp at hq
    have h1 := hst (by omega)
    have h2 := hsum (by omega)
    rw [h1, List.take_of_length_le (Nat.le_refl _)] at h2
    rw [light8]
    omega⟩
  refine wp_dec (fun hi => ?_) fun hi => ?_
  · try simp
    refine wp_dec (fun hlt => ?_) fun hlt => ?_
    · try simp
      refine wp_ptr1 hbx rfl ?_
      try simp
      have hx := cl i y.1[i] (List.getElem?_eq_getElem hi)
      simp only [PT.sz] at hx sl1
      rw [take1_drop (by have := sl1.len; omega)] at hx
      refine wp_idx sl1 rfl hi ?_
      try simp
      refine wp_cell sl1 hi (take1_drop (by have := sl1.len; omega)) rfl ?_
      try simp
      refine wp_call (law0_NodesWeight (In.old o1 hx) _) fun v4 h4 ⟨e4, n4, e4', b4, c4⟩ => ?_
      simp only at e4 e4'
      subst e4 e4'
      try simp
      rw [succ64 hi bl, show ((n : Int) + (n4 : Int)) = ((n + n4 : Nat) : Int) by omega, w64_id (by omega) (by omega)]
      exact next (m - 1) _ _ (by omega) ⟨rfl, i + 1, _, rfl, by omega, by omega, fun hlt => by
        have h1 := hsum (by omega)
        have h2 := c4 (by omega)
        rw [map_take_succ wNodes hi, List.sum_append, h1, h2]
        simp only [List.sum_cons, List.sum_nil]
        omega⟩
    · try simp
      exact stop (fun h => absurd (by omega) hlt)
  · try simp
    exact stop (fun _ => by omega)
end
end Go.AM
