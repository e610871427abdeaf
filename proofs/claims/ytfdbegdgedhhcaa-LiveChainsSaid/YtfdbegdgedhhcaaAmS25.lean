/- How much is handed in to live's laws; a joint that each wakes with. -/
import Derived.Test.YtfdbegdgedhhcaaAmS24
set_option linter.all false
namespace Go.AM
set_option maxRecDepth 20000
set_option maxHeartbeats 1000000
attribute [local simp] layAt
attribute [local irreducible] lenK sliceK idxK fldK cutK storeK appK copyK clearK mapAtK callK loopH readK readK1 guardK grdK fnK nilK fieldK extrK strK nextK joinK iteK intK boolK cellsK castK castL castEnv binK unK intBin layParts execN runOpsN runItemsN denN call loop blockK
def wJoint (x : joint.den) : Nat := wNodes x.1 + x.2.2.length
def light13 (y : ask13.den) : Prop := y.2.length + y.1.length + (y.1.map wJoint).sum ≤ 2500
def wake13 : joint.den := ([(bs [], 3, [], [1], 0)], 0, [])
theorem wake13_may : mayJ wake13 = true := by decide +kernel
theorem wake13_peak : maxL (profileL wake13) = 1 := by decide +kernel
theorem light13_small {y : ask13.den} (h : light13 y) {x : joint.den} (hx : x ∈ y.1) : Small x.1 ∧ x.1.length ≤ 2500 ∧ x.2.2.length ≤ 2500 := by
  rw [light13] at h
  have key : ∀ l : List joint.den, x ∈ l → wJoint x ≤ (l.map wJoint).sum := fun l => by
    induction l with
    | nil => intro h; simp at h
    | cons z l ih =>
      intro h
      simp only [List.map_cons, List.sum_cons]
      rcases List.mem_cons.1 h with e | e
      · rw [e]; omega
      · have := ih e; omega
  have := key _ hx
  rw [wJoint] at this
  obtain ⟨a, b⟩ := small_of (l := x.1) (n := 2500) (by omega) (by omega)
  exact ⟨a, b, by omega⟩
section
variable {h : Heap}
theorem law0_JointWeight {x : joint.den} {cs : List AV} (hx : In h joint x cs) (b : Nat) : WP (call prog b 77 [.agg cs] h) fun r => Old h.length h r.2 ∧ ∃ n : Nat, r.1 = .int .i64 n ∧ n ≤ 2251799813685248 ∧ (n < 1048576 → n = wJoint x) := by
  obtain ⟨vn, vg, rfl, hn, hg, hl⟩ := holds_joint hx
  refine wp_enter (fn := C.law0_JointWeight) rfl ?_
  dsimp only [bodyN, C.law0_JointWeight]; simp
  have o1 : Old h.length h (h ++ [AObj.cells 0 1 [vn, AV.int IntKind.i64 x.snd.fst, vg]]) := Old.app
  have bg := holds_le hg
  repeat ((first | refine wq_len (by assumption) ?_ | refine wq_idx (by assumption) (by rfl) (by omega) (by omega) ?_ | refine wq_int (by assumption) (by omega) ?_ | refine wq_kind (by assumption) (by omega) ?_ | refine wq_num (by assumption) (by omega) ?_ | refine wq_name (by assumption) (by omega) ?_ | refine wq_ptr (by assumption) rfl ?_ | refine wp_new1 rfl ?_ | refine wq_from (by assumption) (by omega) ?_ | refine wq_to (by assumption) (by omega) ?_ | refine wq_size (by assumption) (by omega) ?_ | refine wq_life (by assumption) (by omega) ?_ | refine wp_guard (by omega) ?_ | refine wq_cells (by assumption) ?_); (try simp))
  refine wp_call (law0_NodesWeight (In.old o1 hn) _) fun v2 h2 ⟨e2, n2, e2', b2, c2⟩ => ?_
  simp only at e2 e2'
  subst e2 e2'
  try simp
  repeat ((first | refine wq_len (by assumption) ?_ | refine wq_idx (by assumption) (by rfl) (by omega) (by omega) ?_ | refine wq_int (by assumption) (by omega) ?_ | refine wq_kind (by assumption) (by omega) ?_ | refine wq_num (by assumption) (by omega) ?_ | refine wq_name (by assumption) (by omega) ?_ | refine wq_ptr (by assumption) rfl ?_ | refine wp_new1 rfl ?_ | refine wq_from (by assumption) (by omega) ?_ | refine wq_to (by assumption) (by omega) ?_ | refine wq_size (by assumption) (by omega) ?_ | refine wq_life (by assumption) (by omega) ?_ | refine wp_guard (by omega) ?_ | refine wq_cells (by assumption) ?_); (try simp))
  rw [show ((n2 : Int) + (x.2.2.length : Int)) = ((n2 + x.2.2.length : Nat) : Int) by omega, w64_id (by omega) (by omega)]
  exact wp_some ⟨o1, _, rfl, by omega, fun h => by rw [wJoint, c2 (by omega)]⟩
theorem holds_ask13 {S : Nat → Prop} {y : ask13.den} {as : List AV} (H : Holds S h ask13 y as) : ∃ vj vn, as = [vj, vn] ∧ Holds S h (.slice joint) y.1 [vj] ∧ Holds S h (.slice (.int .i64)) y.2 [vn] := by
  obtain ⟨c1, c2, rfl, hl, hn⟩ := H
  obtain ⟨vl, _, rfl, _⟩ := id hl
  obtain ⟨vn, _, rfl, _⟩ := id hn
  exact ⟨vl, vn, rfl, hl, hn⟩
theorem law13_Heavy {y : ask13.den} {as : List AV} (H : In h ask13 y as) (b : Nat) (hb : b ≤ h.length) : WP (call prog b 23 [.agg as] h) (Weighed h (light13 y)) := by
  obtain ⟨vj, vn, rfl, hj, hn⟩ := holds_ask13 H
  refine wp_enter (fn := C.law13_Heavy) rfl ?_
  dsimp only [bodyN, C.law13_Heavy, C.law13_Heavy_l0]; simp
  generalize hh : h ++ [AObj.cells 0 1 [vj, vn]] = h1
  have o1 : Old h.length h h1 := hh ▸ Old.app
  have b1 : Box h1 h.length [vj, vn] := by rw [← hh]; simp [Box]
  have bn := holds_le hn
  have bl := holds_le hj
  have hj1 := In.old o1 hj
  repeat ((first | refine wq_len (by assumption) ?_ | refine wq_idx (by assumption) (by rfl) (by omega) (by omega) ?_ | refine wq_int (by assumption) (by omega) ?_ | refine wq_kind (by assumption) (by omega) ?_ | refine wq_num (by assumption) (by omega) ?_ | refine wq_name (by assumption) (by omega) ?_ | refine wq_ptr (by assumption) rfl ?_ | refine wp_new1 rfl ?_ | refine wq_from (by assumption) (by omega) ?_ | refine wq_to (by assumption) (by omega) ?_ | refine wq_size (by assumption) (by omega) ?_ | refine wq_life (by assumption) (by omega) ?_ | refine wp_guard (by omega) ?_ | refine wq_cells (by assumption) ?_); (try simp))
  rw [show ((y.2.length : Int) + (y.1.length : Int)) = ((y.2.length + y.1.length : Nat) : Int) by omega, w64_id (by omega) (by omega)]
  refine wp_loop (I := fun m e h' => Old h1.length h1 h' ∧ ∃ i n : Nat, e = (ea 1 (.ptr h.length 0 0) <| ea 3 (.int .i64 (n : Nat)) <| ea 4 (.int .i64 (i : Nat)) e0) ∧ i + m = y.1.length ∧ n ≤ 4503599627370496 ∧ (n < 1048576 → n = y.2.length + y.1.length + ((y.1.take i).map wJoint).sum)) ?_ ⟨Old.refl (Nat.le_refl _), 0, _, rfl, Nat.zero_add _, by omega, fun hlt => by simp⟩
  rintro N m e h3 ⟨o3, i, n, rfl, him, hn', hsum⟩ next
  have b3 := b1.old o3 b1.lt
  have hj3 := In.old o3 hj1
  have o13 := o1.trans (o3.mono o1.1)
  dsimp only [C.law13_Heavy_b0]; simp
  repeat ((first | refine wq_len (by assumption) ?_ | refine wq_idx (by assumption) (by rfl) (by omega) (by omega) ?_ | refine wq_int (by assumption) (by omega) ?_ | refine wq_kind (by assumption) (by omega) ?_ | refine wq_num (by assumption) (by omega) ?_ | refine wq_name (by assumption) (by omega) ?_ | refine wq_ptr (by assumption) rfl ?_ | refine wp_new1 rfl ?_ | refine wq_from (by assumption) (by omega) ?_ | refine wq_to (by assumption) (by omega) ?_ | refine wq_size (by assumption) (by omega) ?_ | refine wq_life (by assumption) (by omega) ?_ | refine wp_guard (by omega) ?_ | refine wq_cells (by assumption) ?_); (try simp))
  have stop : (n < 1048576 → i = y.1.length) → WP (some (AV.bool (decide (2500 < (n : Int))), h3)) (Weighed h (light13 y)) := fun hst => wp_some ⟨o13, _, rfl, fun hq => by
    simp at hq
    have h1 := hst (by omega)
    have h2 := hsum (by omega)
    rw [h1, List.take_of_length_le (Nat.le_refl _)] at h2
    rw [light13]
    omega⟩
  refine wp_dec (fun hi => ?_) fun hi => ?_
  · try simp
    refine wp_dec (fun hlt => ?_) fun hlt => ?_
    · try simp
      refine wq_ptr b3 rfl ?_
      try simp
      refine wq_idx hj3 (by rfl) (by omega) (by omega) ?_
      try simp
      refine wq_joint hj3 hi fun vN vG hN hG hJ _ => ?_
      try simp
      refine wp_call (law0_JointWeight hJ _) fun v4 h4 ⟨o4, n4, e4', b4, c4⟩ => ?_
      simp only at o4 e4'
      subst e4'
      have w1 := succ64 hi bl
      have w2 : IntKind.i64.wrap ((n : Int) + (n4 : Int)) = ((n + n4 : Nat) : Int) := by rw [w64_id (by omega) (by omega)]; omega
      simp [w1, w2]
      exact next (m - 1) _ _ (by omega) ⟨o3.trans (o4.mono o3.1), i + 1, n + n4, by simp, by omega, by omega, fun hlt => by
        have h1 := hsum (by omega)
        have h2 := c4 (by omega)
        rw [map_take_succ wJoint hi, List.sum_append, h1, h2]
        simp only [List.sum_cons, List.sum_nil]
        omega⟩
    · try simp
      exact stop (fun h => absurd (by omega) hlt)
  · try simp
    exact stop (fun _ => by omega)
theorem law13_wakes (b : Nat) (hb : b ≤ h.length) : WP (call prog b 21 [] h) fun r => Old h.length h r.2 ∧ r.1 = .bool true := by
  refine wp_enter (fn := C.law13_wakes) rfl ?_
  dsimp only [bodyN, C.law13_wakes]; simp
  have H1 := in_ints (h := h) (l := [1]) (by simp) (by simp)
  have H2 := in_new (s := 5) (n := 1) (l := wake13.1) (p := node) ⟨_, [], (List.append_nil _).symm, in_node (x := (bs [], 3, [], [1], 0)) in_nil H1 (by simp) (by simp) (by decide), rfl⟩ (by simp [wake13]) (by rfl) (by simp [wake13])
  simp at H2
  have o0 : Old h.length h (h ++ [AObj.cells 0 1 [AV.int IntKind.i64 1], AObj.cells 0 5 [AV.str (bs []), AV.int IntKind.i64 3, AV.nil, AV.ref h.length 0 0 1, AV.int IntKind.i64 0]]) := Old.app
  have o1 : Old (h.length + 2) (h ++ [AObj.cells 0 1 [AV.int IntKind.i64 1], AObj.cells 0 5 [AV.str (bs []), AV.int IntKind.i64 3, AV.nil, AV.ref h.length 0 0 1, AV.int IntKind.i64 0]]) (h ++ [AObj.cells 0 1 [AV.int IntKind.i64 1], AObj.cells 0 5 [AV.str (bs []), AV.int IntKind.i64 3, AV.nil, AV.ref h.length 0 0 1, AV.int IntKind.i64 0], AObj.cells 0 1 [AV.nil, AV.int IntKind.i64 0, AV.nil]]) := by
    have := Old.app (h := h ++ [AObj.cells 0 1 [AV.int IntKind.i64 1], AObj.cells 0 5 [AV.str (bs []), AV.int IntKind.i64 3, AV.nil, AV.ref h.length 0 0 1, AV.int IntKind.i64 0]]) (t := [AObj.cells 0 1 [AV.nil, AV.int IntKind.i64 0, AV.nil]])
    simpa using this
  have b1 : Box (h ++ [AObj.cells 0 1 [AV.int IntKind.i64 1], AObj.cells 0 5 [AV.str (bs []), AV.int IntKind.i64 3, AV.nil, AV.ref h.length 0 0 1, AV.int IntKind.i64 0], AObj.cells 0 1 [AV.nil, AV.int IntKind.i64 0, AV.nil]]) (h.length + 2) [AV.nil, AV.int IntKind.i64 0, AV.nil] := by simp [Box]
  have l0 : (h ++ [AObj.cells 0 1 [AV.int IntKind.i64 1], AObj.cells 0 5 [AV.str (bs []), AV.int IntKind.i64 3, AV.nil, AV.ref h.length 0 0 1, AV.int IntKind.i64 0]]).length = h.length + 2 := by simp
  have l1 : (h ++ [AObj.cells 0 1 [AV.int IntKind.i64 1], AObj.cells 0 5 [AV.str (bs []), AV.int IntKind.i64 3, AV.nil, AV.ref h.length 0 0 1, AV.int IntKind.i64 0], AObj.cells 0 1 [AV.nil, AV.int IntKind.i64 0, AV.nil]]).length = h.length + 3 := by simp
  generalize h ++ [AObj.cells 0 1 [AV.int IntKind.i64 1], AObj.cells 0 5 [AV.str (bs []), AV.int IntKind.i64 3, AV.nil, AV.ref h.length 0 0 1, AV.int IntKind.i64 0], AObj.cells 0 1 [AV.nil, AV.int IntKind.i64 0, AV.nil]] = h2 at *
  generalize h ++ [AObj.cells 0 1 [AV.int IntKind.i64 1], AObj.cells 0 5 [AV.str (bs []), AV.int IntKind.i64 3, AV.nil, AV.ref h.length 0 0 1, AV.int IntKind.i64 0]] = h1 at *
  refine wq_put b1 (by omega) (vs := [AV.ref (h.length + 1) 0 0 1, AV.int IntKind.i64 0, AV.nil]) (fun _ => by rw [cellsK_agg]) (by rfl) (by simp) fun h3 l3 k3 b3 => ?_
  simp at b3
  have o23 : Old (h.length + 2) h2 h3 := old_put l3 k3 (by omega) (by omega)
  have o13 : Old h1.length h1 h3 := (o1.trans o23).mono (by omega)
  have o03 : Old h.length h h3 := o0.trans (o13.mono (by omega))
  have hJ : In h3 joint wake13 [AV.ref (h.length + 1) 0 0 1, AV.int IntKind.i64 0, AV.nil] := ⟨[_], _, rfl, In.old o13 H2, [.int .i64 0], [.nil], rfl, holds_int (by simp [wake13]), in_nil⟩
  try simp
  refine wq_ptrs b3 (by simp) ?_
  try simp
  have l03 := o03.1
  refine wp_call (live_Peak hJ (small1 (by simp) (by simp)) b (by omega)) fun v4 h4 ⟨o4, e4⟩ => ?_
  simp only [wake13_may, wake13_peak, if_true] at o4 e4
  subst e4
  try simp
  exact wp_some ⟨o03.trans (o4.mono l03), rfl⟩
end
end Go.AM
