/- Small graphs made here; what may be, of parts. -/
import Derived.Test.YtfdbegdgedhhcaaAmS13
set_option linter.all false
namespace Go.AM
set_option maxRecDepth 20000
set_option maxHeartbeats 1000000
section
variable {h : Heap}
/-- Cells, one behind another. -/
def InAll (h : Heap) (p : PT) : List p.den → List AV → Prop
  | [], cs => cs = []
  | x :: l, cs => ∃ c1 c2, cs = c1 ++ c2 ∧ In h p x c1 ∧ InAll h p l c2
theorem InAll.len {p : PT} : ∀ {l : List p.den} {cs : List AV}, InAll h p l cs → cs.length = l.length * p.sz
  | [], cs, H => by simp [InAll] at H; simp [H]
  | x :: l, cs, ⟨c1, c2, e, h1, h2⟩ => by rw [e, List.length_append, h1.len, h2.len, List.length_cons, Nat.add_mul]; omega
theorem InAll.get {p : PT} : ∀ {l : List p.den} {cs : List AV}, InAll h p l cs → ∀ (i : Nat) (x : p.den), l[i]? = some x → In h p x ((cs.drop (i * p.sz)).take p.sz)
  | [], _, _, i, x, hi => by simp at hi
  | y :: l, cs, ⟨c1, c2, e, h1, h2⟩, 0, x, hi => by
      simp at hi
      subst hi e
      rw [Nat.zero_mul, List.drop_zero, ← h1.len, List.take_left]
      exact h1
  | y :: l, cs, ⟨c1, c2, e, h1, h2⟩, i + 1, x, hi => by
      simp at hi
      subst e
      rw [Nat.add_mul, Nat.one_mul, Nat.add_comm, ← List.drop_drop, ← h1.len, List.drop_left, h1.len]
      exact h2.get i x hi
/-- A new slice. -/
theorem accp_new {p : PT} {l : List p.den} {cs : List AV} (H : InAll h p l cs) (hb : l.length ≤ 140737488355328) {s n : Nat} (hs : s = p.sz) (hn : n = l.length) : AccP 0 h.length (h ++ [.cells 0 s cs]) p (.ref h.length 0 0 n) l := by
  subst hs hn
  refine ⟨cs, Acc.new (Nat.le_refl _) H.len hb, fun i x hi => (H.get i x hi).frame fun j hj => ⟨⟨Nat.zero_le _, by simp; omega, fun e => ?_⟩, List.getElem?_append_left hj⟩⟩
  cases e
  omega
theorem in_new {p : PT} {l : List p.den} {cs : List AV} (H : InAll h p l cs) (hb : l.length ≤ 140737488355328) {s n : Nat} (hs : s = p.sz) (hn : n = l.length) : In (h ++ [.cells 0 s cs]) (.slice p) l [.ref h.length 0 0 n] :=
  (accp_new H hb hs hn).in (Nat.zero_le _)
theorem in_node {x : node.den} {a d : AV} (ha : In h ints x.2.2.1 [a]) (hd : In h ints x.2.2.2.1 [d]) (hk : -9223372036854775808 ≤ x.2.1 ∧ x.2.1 ≤ 9223372036854775807) (hn : -9223372036854775808 ≤ x.2.2.2.2 ∧ x.2.2.2.2 ≤ 9223372036854775807) (hs : x.1.size ≤ 140737488355328) : In h node x [.str x.1, .int .i64 x.2.1, a, d, .int .i64 x.2.2.2.2] :=
  ⟨[.str x.1], _, rfl, ⟨rfl, hs⟩, [.int .i64 x.2.1], _, rfl, ⟨rfl, hk⟩, [a], _, rfl, ha, [d], _, rfl, hd, rfl, hn⟩
theorem in_ints {l : List Int} (hl : l.length ≤ 140737488355328) (hr : ∀ x ∈ l, -9223372036854775808 ≤ x ∧ x ≤ 9223372036854775807) : In (h ++ [.cells 0 1 (l.map (.int .i64))]) ints l [.ref h.length 0 0 l.length] := (AccP.newInts hl hr).in (Nat.le_refl _)
theorem graph_Nodes {vl : AV} {l : List node.den} (hl : In h nodes l [vl]) (hsm : Small l) (b : Nat) (hb : b ≤ h.length) :
    WP (call prog b 11 [vl] h) fun r => Old h.length h r.2 ∧ r.1 = .int .i64 (if mayL l = true then 0 else 1) := by
  refine wp_enter (fn := C.graph_Nodes) rfl ?_
  dsimp only [bodyN, C.graph_Nodes]; simp
  refine wp_call (graph_May hl hsm b hb) fun v3 h3 ⟨o3, e3⟩ => ?_
  simp only at o3 e3
  subst e3
  try simp
  refine wp_iteK (fun hm => ?_) fun hm => ?_
  · try simp
    simp only [Bool.not_eq_true'] at hm
    exact wp_some ⟨o3, by simp [hm]⟩
  · try simp
    simp only [Bool.not_eq_false'] at hm
    exact wp_some ⟨o3, by simp [hm]⟩
/-- The graph that each law of graphs wakes with. -/
def wake8 : List node.den := [(bs [97], 3, [], [1], 5)]
theorem wake8_is : isL wake8 = true := by decide +kernel
theorem small1 {x : node.den} (h1 : x.2.2.1.length * 24 ≤ 140737488355328) (h2 : x.2.2.2.1.length * 24 ≤ 140737488355328) : Small [x] := fun y hy => by
  simp at hy
  subst hy
  exact ⟨h1, h2⟩
theorem law8_wakes (b : Nat) (hb : b ≤ h.length) : WP (call prog b 7 [] h) fun r => Old h.length h r.2 ∧ r.1 = .bool true := by
  refine wp_enter (fn := C.law8_wakes) rfl ?_
  dsimp only [bodyN, C.law8_wakes]; simp [layAt]
  have H1 := in_ints (h := h) (l := [1]) (by simp) (by simp)
  have H2 := in_new (s := 5) (n := 1) (l := wake8) (p := node) ⟨_, [], (List.append_nil _).symm, in_node (x := (bs [97], 3, [], [1], 5)) in_nil H1 (by simp) (by simp) (by decide), rfl⟩ (by simp [wake8]) (by rfl) (by simp [wake8])
  simp at H2
  have o1 : Old h.length h (h ++ [AObj.cells 0 1 [AV.int IntKind.i64 1], AObj.cells 0 5 [AV.str (bs [97]), AV.int IntKind.i64 3, AV.nil, AV.ref h.length 0 0 1, AV.int IntKind.i64 5]]) := Old.app
  generalize hh : h ++ [AObj.cells 0 1 [AV.int IntKind.i64 1], AObj.cells 0 5 [AV.str (bs [97]), AV.int IntKind.i64 3, AV.nil, AV.ref h.length 0 0 1, AV.int IntKind.i64 5]] = h1 at *
  have hsm : Small wake8 := small1 (by simp) (by simp)
  refine wp_call (graph_Leaves H2 hsm b (Nat.le_trans hb o1.1)) fun v3 h3 ⟨o3, v3', e3, a3⟩ => ?_
  simp only [wake8_is, if_true] at o3 e3 a3
  subst e3
  try simp
  have o13 := o1.trans (o3.mono o1.1)
  refine wp_call (graph_Check (In.old o3 H2) hsm b (Nat.le_trans hb o13.1)) fun v4 h4 ⟨o4, e4⟩ => ?_
  simp only [wake8_is, if_true] at o4 e4
  subst e4
  try simp
  have o14 := o13.trans (o4.mono o13.1)
  have a3' : In h3 ints _ [v3'] := a3.in (Nat.le_refl _)
  refine wq_len a3' ?_
  try simp
  have e0 : (ends wake8).length = 0 := by decide +kernel
  try simp [e0]
  refine wp_call (graph_Check (l := []) in_nil (fun x hx => by simp at hx) b (Nat.le_trans hb o14.1)) fun v5 h5 ⟨o5, e5⟩ => ?_
  simp only at o5 e5
  have e6 : isL [] = false := by decide +kernel
  simp [e6] at e5
  subst e5
  try simp
  exact wp_some ⟨o14.trans (o5.mono o14.1), rfl⟩
end
/-! What holds of each node of what may be. -/
theorem allOk_at {l : List node.den} : ∀ {n : Nat}, allOk l n = true → ∀ {i : Nat} (hi : i < l.length), i < n → nodeOk (l.take i) l[i] = true
  | 0, _, _, _, hn => by omega
  | n + 1, H, i, hi, hn => by
      rw [allOk, Bool.and_eq_true] at H
      rcases Nat.eq_or_lt_of_le (Nat.le_of_lt_succ hn) with e | e
      · subst e
        have := H.2
        rw [List.getElem?_eq_getElem hi] at this
        exact this
      · exact allOk_at H.1 hi e
theorem mayL_at {l : List node.den} (H : mayL l = true) {i : Nat} (hi : i < l.length) : nodeOk (l.take i) l[i] = true := by
  rw [mayL, Bool.and_eq_true] at H
  exact allOk_at H.2 hi hi
theorem allOk_take {l : List node.den} {k : Nat} (hk : k ≤ l.length) : ∀ {n : Nat}, n ≤ k → allOk (l.take k) n = allOk l n
  | 0, _ => rfl
  | n + 1, hn => by
      rw [allOk, allOk, allOk_take hk (by omega), List.getElem?_take, if_pos (by omega), List.take_take, Nat.min_eq_left (by omega)]
theorem allOk_le {l : List node.den} {n m : Nat} (h : allOk l n = true) (hm : m ≤ n) : allOk l m = true := by
  cases e : allOk l m with
  | true => rfl
  | false => rw [allOk_false e hm] at h; cases h
theorem mayL_take {l : List node.den} (H : mayL l = true) (k : Nat) : mayL (l.take k) = true := by
  rcases Nat.lt_or_ge l.length k with hk | hk
  · rw [List.take_of_length_le (by omega)]
    exact H
  · rw [mayL, Bool.and_eq_true, decide_eq_true_eq] at H ⊢
    have e : (l.take k).length = k := by simp; omega
    rw [e, allOk_take hk (Nat.le_refl _)]
    exact ⟨by omega, allOk_le H.2 hk⟩
theorem nodeOk_parts {l : List node.den} {x : node.den} (H : nodeOk l x = true) : argsOk l.length x.2.2.1 = true ∧ formOk x.2.1 x.2.2.2.2 (if asked x.2.1 = true then x.2.2.2.1 else []) (x.2.2.1.map (dimsAt l)) = true ∧ inferD x.2.1 x.2.2.2.2 (if asked x.2.1 = true then x.2.2.2.1 else []) (x.2.2.1.map (dimsAt l)) = some x.2.2.2.1 := by
  rw [nodeOk, decide_eq_true_eq, inferL] at H
  generalize (if asked x.2.1 = true then x.2.2.2.1 else []) = d at *
  split at H
  · rename_i h1
    rw [inferE] at H
    split at H
    · rename_i h2
      refine ⟨h1, h2, ?_⟩
      split at H
      · rename_i x hx
        rw [hx]
        exact congrArg some (congrArg Prod.fst H)
      · have := congrArg Prod.snd H
        simp at this
    · have := congrArg Prod.snd H
      simp at this
  · have := congrArg Prod.snd H
    simp at this
theorem formOk_many {k n : Int} {d : List Int} {ls : List (List Int)} (H : formOk k n d ls = true) : (ls.length : Int) = many k := by
  simp only [formOk, Bool.and_eq_true, decide_eq_true_eq] at H
  exact H.1.1.1.2
theorem formOk_kind {k n : Int} {d : List Int} {ls : List (List Int)} (H : formOk k n d ls = true) : 1 ≤ k ∧ k ≤ 17 := by
  simp only [formOk, Bool.and_eq_true, decide_eq_true_eq] at H
  exact H.1.1.1.1
theorem argsOk_at {n : Nat} {args : List Int} (H : argsOk n args = true) {a : Int} (ha : a ∈ args) : 0 ≤ a ∧ a < (n : Int) := by
  rw [argsOk, List.all_eq_true] at H
  simpa using H a ha
theorem mem_ofKind {l : List node.den} {k : Int} : ∀ {n : Nat} {x : Int}, x ∈ ofKind l k n → ∃ (i : Nat) (hi : i < l.length), x = (i : Int) ∧ l[i].2.1 = k ∧ i < n
  | 0, x, hx => by simp [ofKind] at hx
  | n + 1, x, hx => by
      rw [ofKind, List.mem_append] at hx
      rcases hx with hx | hx
      · obtain ⟨i, hi, e, ek, hn⟩ := mem_ofKind hx
        exact ⟨i, hi, e, ek, by omega⟩
      · rcases Nat.lt_or_ge n l.length with hn | hn
        · rw [List.getElem?_eq_getElem hn] at hx
          simp only at hx
          split at hx
          · simp at hx
            exact ⟨n, hn, hx, by assumption, by omega⟩
          · simp at hx
        · rw [List.getElem?_eq_none (by omega)] at hx
          simp at hx
theorem mem_ends {l : List node.den} {x : Int} (hx : x ∈ ends l) : ∃ (i : Nat) (hi : i < l.length), x = (i : Int) ∧ (l[i].2.1 = 1 ∨ l[i].2.1 = 2) := by
  rw [ends, List.mem_append] at hx
  rcases hx with hx | hx
  · obtain ⟨i, hi, e, ek, _⟩ := mem_ofKind hx
    exact ⟨i, hi, e, .inl ek⟩
  · obtain ⟨i, hi, e, ek, _⟩ := mem_ofKind hx
    exact ⟨i, hi, e, .inr ek⟩
theorem mem_ends' {l : List node.den} {x : Int} (hx : x ∈ ends l) : 0 ≤ x ∧ x < (l.length : Int) ∧ ∃ hi : x.toNat < l.length, l[x.toNat].2.1 = 1 ∨ l[x.toNat].2.1 = 2 := by
  obtain ⟨i, hi, rfl, ek⟩ := mem_ends hx
  exact ⟨by omega, by omega, hi, ek⟩
theorem mem_usesUp {l : List node.den} {a : Int} : ∀ {n : Nat} {x : Int}, x ∈ usesUp l a n → ∃ (i : Nat) (hi : i < l.length), x = (i : Int) ∧ a ∈ l[i].2.2.1 ∧ i < n
  | 0, x, hx => by simp [usesUp] at hx
  | n + 1, x, hx => by
      rw [usesUp, List.mem_append] at hx
      rcases hx with hx | hx
      · obtain ⟨i, hi, e, ek, hn⟩ := mem_usesUp hx
        exact ⟨i, hi, e, ek, by omega⟩
      · rcases Nat.lt_or_ge n l.length with hn | hn
        · rw [List.getElem?_eq_getElem hn] at hx
          simp only at hx
          split at hx
          · simp at hx
            exact ⟨n, hn, hx, by assumption, by omega⟩
          · simp at hx
        · rw [List.getElem?_eq_none (by omega)] at hx
          simp at hx
theorem mem_usesUp' {l : List node.den} {a : Int} {n : Nat} {x : Int} (hx : x ∈ usesUp l a n) : 0 ≤ x ∧ x < (l.length : Int) ∧ x < (n : Int) ∧ ∃ hi : x.toNat < l.length, a ∈ l[x.toNat].2.2.1 := by
  obtain ⟨i, hi, rfl, ek, hn⟩ := mem_usesUp hx
  exact ⟨by omega, by omega, by omega, hi, ek⟩
theorem isL_may {l : List node.den} (H : isL l = true) : mayL l = true := by
  simp only [isL, Bool.and_eq_true] at H
  exact H.1.1.1.2
theorem ends_noargs {l : List node.den} (H : mayL l = true) {i : Nat} (hi : i < l.length) (hk : l[i].2.1 = 1 ∨ l[i].2.1 = 2) : l[i].2.2.1 = [] := by
  obtain ⟨_, h2, _⟩ := nodeOk_parts (mayL_at H hi)
  have := formOk_many h2
  rw [List.length_map] at this
  have h0 : many l[i].2.1 = 0 := by rcases hk with e | e <;> rw [e] <;> rfl
  rw [h0] at this
  exact List.length_eq_zero_iff.1 (by omega)
theorem mem_weight {l : List (List node.den)} {x : List node.den} (hx : x ∈ l) : wNodes x ≤ (l.map wNodes).sum := by
  induction l with
  | nil => simp at hx
  | cons y l ih =>
    simp only [List.map_cons, List.sum_cons]
    rcases List.mem_cons.1 hx with e | e
    · rw [e]; omega
    · have := ih e; omega
theorem mem_wNode {l : List node.den} {x : node.den} (hx : x ∈ l) : wNode x ≤ (l.map wNode).sum := by
  induction l with
  | nil => simp at hx
  | cons y l ih =>
    simp only [List.map_cons, List.sum_cons]
    rcases List.mem_cons.1 hx with e | e
    · rw [e]; omega
    · have := ih e; omega
theorem small_of {l : List node.den} {n : Nat} (h : wNodes l ≤ n) (hn : n ≤ 1000000) : Small l ∧ l.length ≤ n := by
  rw [wNodes] at h
  refine ⟨fun x hx => ?_, by omega⟩
  have := mem_wNode hx
  rw [wNode] at this
  omega
theorem light_small {y : ask8.den} (h : light8 y) {l : List node.den} (hl : l ∈ y.1) : Small l ∧ l.length ≤ 1200 := by
  rw [light8] at h
  have := mem_weight hl
  exact small_of (by omega) (by omega)
end Go.AM
