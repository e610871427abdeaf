/- A slice of the function's own: it grows, it is written. -/
import Derived.Test.YtfdbegdgedhhcaaAmS2
set_option linter.all false
namespace Go.AM
/-- Which block a slice is of. -/
def AV.blk : AV → Option Nat
  | .ref l _ _ _ => some l
  | _ => none
/-- A slice of n elements that was made behind the floor: it is nil, or it covers its block. -/
def Acc (n0 : Nat) (h : Heap) (s : Nat) (v : AV) (cs : List AV) (n : Nat) : Prop :=
  n ≤ 140737488355328 ∧ ((v = .nil ∧ cs = [] ∧ n = 0) ∨ ∃ l g, v = .ref l g 0 n ∧ n0 ≤ l ∧ h[l]? = some (.cells g s cs) ∧ cs.length = n * s)
theorem Acc.nil {n0 : Nat} {h : Heap} {s : Nat} : Acc n0 h s .nil [] 0 := ⟨Nat.zero_le _, .inl ⟨rfl, rfl, rfl⟩⟩
theorem Acc.new {n0 : Nat} {h : Heap} {s n : Nat} {cs : List AV} (hn : n0 ≤ h.length) (hl : cs.length = n * s) (hm : n ≤ 140737488355328) : Acc n0 (h ++ [.cells 0 s cs]) s (.ref h.length 0 0 n) cs n :=
  ⟨hm, .inr ⟨h.length, 0, rfl, hn, by simp, hl⟩⟩
theorem Acc.one {n0 : Nat} {h : Heap} {s n : Nat} {v : AV} {cs : List AV} (H : Acc n0 h s v cs n) : v.one = true := by
  rcases H.2 with ⟨rfl, _⟩ | ⟨l, g, rfl, _⟩ <;> rfl
/-- Its block stands as it was. -/
theorem Acc.keep {n0 : Nat} {h h' : Heap} {s n : Nat} {v : AV} {cs : List AV} (H : Acc n0 h s v cs n) (hk : ∀ l, v.blk = some l → h'[l]? = h[l]?) : Acc n0 h' s v cs n := by
  refine ⟨H.1, ?_⟩
  rcases H.2 with h1 | ⟨l, g, rfl, h2, h3, h4⟩
  · exact .inl h1
  · exact .inr ⟨l, g, rfl, h2, by rw [hk l rfl]; exact h3, h4⟩
theorem Acc.lt {n0 : Nat} {h : Heap} {s n : Nat} {v : AV} {cs : List AV} (H : Acc n0 h s v cs n) {l : Nat} (hl : v.blk = some l) : n0 ≤ l ∧ l < h.length := by
  rcases H.2 with ⟨rfl, _⟩ | ⟨l', g, rfl, h2, h3, h4⟩
  · cases hl
  · cases hl
    exact ⟨h2, (List.getElem?_eq_some_iff.1 h3).1⟩
theorem Acc.app {n0 : Nat} {h : Heap} {s n : Nat} {v : AV} {cs : List AV} (H : Acc n0 h s v cs n) (t : List AObj) : Acc n0 (h ++ t) s v cs n :=
  H.keep fun l hl => List.getElem?_append_left (H.lt hl).2
theorem Acc.slice {n0 : Nat} {h : Heap} {s n : Nat} {v : AV} {cs : List AV} (H : Acc n0 h s v cs n) {S : Nat → Prop} (hS : ∀ l, v.blk = some l → S l) : SliceAt S h v s n cs := by
  refine ⟨H.1, ?_⟩
  rcases H.2 with ⟨rfl, rfl, rfl⟩ | ⟨l, g, rfl, h2, h3, h4⟩
  · exact ⟨rfl, rfl⟩
  · exact ⟨hS l rfl, rfl, h4, cs, h3, by rw [h4]; omega, by simp [← h4]⟩
theorem Acc.len {n0 : Nat} {h : Heap} {s n : Nat} {v : AV} {cs : List AV} (H : Acc n0 h s v cs n) : cs.length = n * s := by
  rcases H.2 with ⟨rfl, rfl, rfl⟩ | ⟨l, g, rfl, h2, h3, h4⟩
  · simp
  · exact h4

/-- Blocks between. -/
abbrev Btw (a b : Nat) : Nat → Prop := fun l => a ≤ l ∧ l < b
theorem SliceAt.mono {S T : Nat → Prop} {h : Heap} {v : AV} {s n : Nat} {ds : List AV} (H : SliceAt S h v s n ds) (hs : ∀ l, S l → T l) : SliceAt T h v s n ds := H.frame fun l hl => ⟨hs l hl, rfl⟩
theorem Holds.mono {S T : Nat → Prop} {h : Heap} {p : PT} {x : p.den} {cs : List AV} (H : Holds S h p x cs) (hs : ∀ l, S l → T l) : Holds T h p x cs := H.frame fun l hl => ⟨hs l hl, rfl⟩
theorem Holds.old {n m : Nat} {h h' : Heap} (o : Old n h h') (hm : m ≤ n) {p : PT} {x : p.den} {cs : List AV} (H : Holds (fun l => l < m) h p x cs) : Holds (fun l => l < m) h' p x cs :=
  H.frame fun l hl => ⟨hl, o.2 l (by omega)⟩
theorem SliceAt.old {n m : Nat} {h h' : Heap} (o : Old n h h') (hm : m ≤ n) {v : AV} {s k : Nat} {ds : List AV} (H : SliceAt (fun l => l < m) h v s k ds) : SliceAt (fun l => l < m) h' v s k ds :=
  H.frame fun l hl => ⟨hl, o.2 l (by omega)⟩
theorem Acc.ints {n0 : Nat} {h : Heap} {v : AV} {l : List Int} (H : Acc n0 h 1 v (l.map (.int .i64)) l.length) (hr : ∀ x ∈ l, -9223372036854775808 ≤ x ∧ x ≤ 9223372036854775807) : Holds (Btw n0 h.length) h ints l [v] := by
  refine ⟨v, _, rfl, H.slice fun k hk => H.lt hk, fun i x hi => ?_⟩
  simp only [PT.sz, Nat.mul_one, List.take_one, List.head?_drop, List.getElem?_map, hi]
  exact ⟨rfl, hr x (List.mem_of_getElem? hi)⟩

section
variable {R : Type} {Q : R → Prop}
/-- What is not the slice's block is as it was. -/
def But (v : AV) (h h' : Heap) : Prop := h.length ≤ h'.length ∧ ∀ l, l < h.length → v.blk ≠ some l → h'[l]? = h[l]?
theorem But.old {n0 n : Nat} {h h' : Heap} {s : Nat} {v : AV} {cs : List AV} (b : But v h h') (H : Acc n0 h s v cs n) (hn : n0 ≤ h.length) : Old n0 h h' :=
  ⟨Nat.le_trans hn b.1, fun l hl => b.2 l (by omega) fun e => by have := (H.lt e).1; omega⟩
theorem wp_app {base n0 s bytes n m : Nat} {h : Heap} {v : AV} {cs ys : List AV} (H : Acc n0 h s v cs n) (hb : base ≤ n0) (hn : n0 ≤ h.length) (hy : ys.length = m * s) (h1 : (n + m) * bytes ≤ 140737488355328) (h2 : n + m ≤ 140737488355328) {K : AV → Heap → Option R}
    (k : ∀ v' h', But v h h' → (∀ l, v'.blk = some l → v.blk = some l ∨ l = h.length) → Acc n0 h' s v' (cs ++ ys) (n + m) → WP (K v' h') Q) : WP (appK base s bytes h v ys m K) Q := by
  rcases H.2 with ⟨rfl, rfl, rfl⟩ | ⟨l, g, rfl, h3, h4, h5⟩
  · simp only [Nat.zero_add] at h1 h2
    simp only [appK]
    rw [if_pos ⟨h1, h2⟩]
    split
    · rename_i h0
      subst h0
      have : ys = [] := List.length_eq_zero_iff.1 (by simpa using hy)
      subst this
      exact k _ _ ⟨Nat.le_refl _, fun _ _ _ => rfl⟩ (fun l hl => by cases hl) Acc.nil
    · refine k _ _ ⟨by simp, fun l hl _ => List.getElem?_append_left hl⟩ (fun l hl => .inr (by cases hl; rfl)) ?_
      simp only [List.nil_append, Nat.zero_add]
      exact Acc.new hn hy h2
  · have hl := (List.getElem?_eq_some_iff.1 h4).1
    simp only [appK]
    rw [if_pos ⟨by omega, trivial, h1, h2⟩]
    unfold blockK
    rw [h4]
    simp only [if_true]
    rw [if_pos ⟨trivial, h5.symm⟩]
    refine k _ _ ⟨by simp, fun j hj hne => List.getElem?_set_ne (by intro e; subst e; exact hne rfl)⟩ (fun j hj => .inl (by cases hj; rfl)) ⟨h2, .inr ⟨l, g + 1, rfl, h3, ?_, ?_⟩⟩
    · rw [List.getElem?_set_self hl]
    · rw [List.length_append, h5, hy, Nat.add_mul]
/-- A list of what has a shape, in a slice of the function's own; what it is made of lies from f on, in other blocks. -/
def AccP (f n0 : Nat) (h : Heap) (p : PT) (v : AV) (l : List p.den) : Prop :=
  ∃ cs, Acc n0 h p.sz v cs l.length ∧ ∀ (i : Nat) (x : p.den), l[i]? = some x → Holds (fun j => f ≤ j ∧ j < h.length ∧ v.blk ≠ some j) h p x ((cs.drop (i * p.sz)).take p.sz)
theorem AccP.nil {f n0 : Nat} {h : Heap} {p : PT} : AccP f n0 h p .nil [] := ⟨[], Acc.nil, fun i x hi => by simp at hi⟩
theorem AccP.one {f n0 : Nat} {h : Heap} {p : PT} {v : AV} {l : List p.den} (H : AccP f n0 h p v l) : v.one = true := let ⟨_, a, _⟩ := H; a.one
theorem AccP.keep {f n0 : Nat} {h h' : Heap} {p : PT} {v : AV} {l : List p.den} (H : AccP f n0 h p v l) (ho : Old h.length h h') : AccP f n0 h' p v l := by
  obtain ⟨cs, a, e⟩ := H
  exact ⟨cs, a.keep fun l hl => ho.2 l (a.lt hl).2, fun i x hi => (e i x hi).frame fun j hj => ⟨⟨hj.1, Nat.lt_of_lt_of_le hj.2.1 ho.1, hj.2.2⟩, ho.2 j hj.2.1⟩⟩
theorem Acc.mono {n0 m0 : Nat} {h : Heap} {s n : Nat} {v : AV} {cs : List AV} (H : Acc n0 h s v cs n) (hm : m0 ≤ n0) : Acc m0 h s v cs n := by
  refine ⟨H.1, ?_⟩
  rcases H.2 with h1 | ⟨l, g, h1, h2, h3⟩
  · exact .inl h1
  · exact .inr ⟨l, g, h1, Nat.le_trans hm h2, h3⟩
theorem AccP.mono {f n0 m0 : Nat} {h : Heap} {p : PT} {v : AV} {l : List p.den} (H : AccP f n0 h p v l) (hm : m0 ≤ n0) (hf : m0 ≤ f) : AccP m0 m0 h p v l := by
  obtain ⟨cs, a, e⟩ := H
  exact ⟨cs, a.mono hm, fun i x hi => (e i x hi).mono fun j hj => ⟨Nat.le_trans hf hj.1, hj.2⟩⟩
theorem AccP.holds {f n0 : Nat} {h : Heap} {p : PT} {v : AV} {l : List p.den} (H : AccP f n0 h p v l) (hf : f ≤ n0) : Holds (Btw f h.length) h (.slice p) l [v] := by
  obtain ⟨cs, a, e⟩ := H
  exact ⟨v, cs, rfl, a.slice fun k hk => ⟨Nat.le_trans hf (a.lt hk).1, (a.lt hk).2⟩, fun i x hi => (e i x hi).mono fun j hj => ⟨hj.1, hj.2.1⟩⟩
theorem wp_push {base f n0 bytes s : Nat} {h : Heap} {p : PT} {v : AV} {l : List p.den} {x : p.den} {ys : List AV} (H : AccP f n0 h p v l) (hx : Holds (fun j => f ≤ j ∧ j < h.length ∧ v.blk ≠ some j) h p x ys) (hs : s = p.sz) (hb : base ≤ n0) (hn : n0 ≤ h.length)
    (h1 : (l.length + 1) * bytes ≤ 140737488355328) (h2 : l.length + 1 ≤ 140737488355328) {K : AV → Heap → Option R}
    (k : ∀ v' h', But v h h' → Old n0 h h' → AccP f n0 h' p v' (l ++ [x]) → WP (K v' h') Q) : WP (appK base s bytes h v ys 1 K) Q := by
  subst hs
  obtain ⟨cs, a, e⟩ := H
  have hcl := a.len
  refine wp_app a hb hn (by rw [hx.len, Nat.one_mul]) h1 h2 fun v' h' but hv a' => k v' h' but (but.old a hn) ⟨cs ++ ys, by simpa using a', fun i y hi => ?_⟩
  have fr : ∀ j, (f ≤ j ∧ j < h.length ∧ v.blk ≠ some j) → (f ≤ j ∧ j < h'.length ∧ v'.blk ≠ some j) ∧ h'[j]? = h[j]? := fun j hj => ⟨⟨hj.1, Nat.lt_of_lt_of_le hj.2.1 but.1, fun eq => by
    rcases hv j eq with e1 | e1
    · exact hj.2.2 e1
    · omega⟩, but.2 j hj.2.1 hj.2.2⟩
  rcases Nat.lt_or_ge i l.length with hil | hil
  · rw [List.getElem?_append_left hil] at hi
    have hle : (i + 1) * p.sz ≤ l.length * p.sz := Nat.mul_le_mul_right _ hil
    rw [Nat.add_mul, Nat.one_mul] at hle
    rw [List.drop_append_of_le_length (by omega), List.take_append_of_le_length (by rw [List.length_drop]; omega)]
    exact (e i y hi).frame fr
  · rw [List.getElem?_append_right hil] at hi
    have h0 : i = l.length := by
      rcases Nat.eq_or_lt_of_le hil with h0 | h0
      · exact h0.symm
      · rw [List.getElem?_eq_none (by simp; omega)] at hi
        cases hi
    subst h0
    simp at hi
    subst hi
    rw [← hcl, List.drop_left, List.take_of_length_le (Nat.le_of_eq hx.len)]
    exact hx.frame fr
theorem layAt_len {cs vs : List AV} {o : Nat} (h : o + vs.length ≤ cs.length) : (layAt cs o vs).length = cs.length := by
  unfold layAt
  simp
  omega
theorem wp_set {base n0 s n : Nat} {h : Heap} {v : AV} {cs : List AV} (H : Acc n0 h s v cs n) (hb : base ≤ n0) {i o m : Nat} (hi : i < n) (ho : o + m ≤ s) {x : AV} {vs : List AV} (hx : ∀ {R : Type} (K : List AV → Option R), cellsK x K = K vs) (hv : vs.length = m) {K : Heap → Option R}
    (k : ∀ h', But v h h' → h'.length = h.length → Acc n0 h' s v (layAt cs (i * s + o) vs) n → WP (K h') Q) : WP (storeK base m h (addrOf v s i o) x K) Q := by
  rcases H.2 with ⟨rfl, rfl, rfl⟩ | ⟨l, g, rfl, h3, h4, h5⟩
  · omega
  · have hl := (List.getElem?_eq_some_iff.1 h4).1
    have hb2 : i * s + o + m ≤ cs.length := by
      have : (i + 1) * s ≤ n * s := Nat.mul_le_mul_right s hi
      rw [Nat.add_mul, Nat.one_mul] at this
      omega
    simp only [addrOf, storeK, hx]
    rw [if_pos (by omega), if_pos hv]
    unfold blockK
    rw [h4]
    simp only [if_true, Nat.zero_add]
    rw [if_pos hb2]
    refine k _ ⟨by simp, fun j hj hne => List.getElem?_set_ne (by intro e; subst e; exact hne rfl)⟩ (by simp) ⟨H.1, .inr ⟨l, g, rfl, h3, ?_, ?_⟩⟩
    · rw [List.getElem?_set_self hl]
    · rw [layAt_len (by omega)]
      exact h5
theorem layAt_self {cs vs : List AV} {o : Nat} (h : o + vs.length ≤ cs.length) : ((layAt cs o vs).drop o).take vs.length = vs := by
  unfold layAt
  rw [List.append_assoc, List.drop_append, List.drop_of_length_le (by simp; omega)]
  simp only [List.length_take, List.nil_append]
  rw [show o - min o cs.length = 0 by omega]
  simp
theorem layAt_before {cs vs : List AV} {o a m : Nat} (h : o + vs.length ≤ cs.length) (ha : a + m ≤ o) : ((layAt cs o vs).drop a).take m = (cs.drop a).take m := by
  unfold layAt
  rw [List.append_assoc, List.drop_append_of_le_length (by simp; omega), List.take_append_of_le_length (by simp; omega), List.drop_take, List.take_take]
  congr 1
  omega
theorem layAt_behind {cs vs : List AV} {o a m : Nat} (h : o + vs.length ≤ cs.length) (ha : o + vs.length ≤ a) : ((layAt cs o vs).drop a).take m = (cs.drop a).take m := by
  unfold layAt
  rw [List.drop_append, List.drop_of_length_le (by simp; omega), List.nil_append, List.drop_drop]
  congr 2
  simp
  omega
theorem AccP.apart {f n0 : Nat} {h : Heap} {p : PT} {v : AV} {l : List p.den} (H : AccP f n0 h p v l) {j : Nat} (hj : j < n0) : v.blk ≠ some j := fun e => by
  obtain ⟨_, a, _⟩ := H
  have := (a.lt e).1
  omega
/-- What is old stands apart from a slice of one's own. -/
theorem Holds.beside {f n0 : Nat} {h h' : Heap} {p q : PT} {v : AV} {l : List p.den} {x : q.den} {cs : List AV} (hx : Holds (fun j => j < n0) h q x cs) (H : AccP f n0 h' p v l) (o : Old n0 h h') : Holds (fun j => 0 ≤ j ∧ j < h'.length ∧ v.blk ≠ some j) h' q x cs :=
  hx.frame fun j hj => ⟨⟨Nat.zero_le _, Nat.lt_of_lt_of_le hj o.1, H.apart hj⟩, o.2 j hj⟩
theorem Holds.one1 {S : Nat → Prop} {h : Heap} {p : PT} {l : List p.den} {v : AV} (H : Holds S h (.slice p) l [v]) : v.one = true := by
  obtain ⟨v', ds, e, hs, _⟩ := H
  cases e
  exact hs.one
/-- An element is written. -/
theorem wp_put {base f n0 s : Nat} {h : Heap} {p : PT} {v : AV} {l : List p.den} {x : p.den} {X : AV} {ys : List AV} (H : AccP f n0 h p v l) (hx : Holds (fun j => f ≤ j ∧ j < h.length ∧ v.blk ≠ some j) h p x ys) (hX : ∀ {R : Type} (K : List AV → Option R), cellsK X K = K ys) (hs : s = p.sz) (hb : base ≤ n0) (hn : n0 ≤ h.length)
    {i : Nat} (hi : i < l.length) {K : Heap → Option R} (k : ∀ h', But v h h' → h'.length = h.length → Old n0 h h' → AccP f n0 h' p v (l.set i x) → WP (K h') Q) : WP (storeK base s h (addrOf v s i 0) X K) Q := by
  subst hs
  obtain ⟨cs, a, e⟩ := H
  have hcl := a.len
  have hyl := hx.len
  have hle : (i + 1) * p.sz ≤ l.length * p.sz := Nat.mul_le_mul_right _ hi
  rw [Nat.add_mul, Nat.one_mul] at hle
  refine wp_set a hb hi (by omega) hX hyl fun h' but hl' a' => k h' but hl' (but.old a hn) ⟨_, by simpa using a', fun j y hj => ?_⟩
  have fr : ∀ j, (f ≤ j ∧ j < h.length ∧ v.blk ≠ some j) → (f ≤ j ∧ j < h'.length ∧ v.blk ≠ some j) ∧ h'[j]? = h[j]? := fun j hj => ⟨⟨hj.1, Nat.lt_of_lt_of_le hj.2.1 but.1, hj.2.2⟩, but.2 j hj.2.1 hj.2.2⟩
  try simp only [Nat.add_zero]
  by_cases hij : j = i
  · subst hij
    rw [List.getElem?_set_self hi] at hj
    cases hj
    have hself := layAt_self (cs := cs) (vs := ys) (o := j * p.sz) (by omega)
    rw [hyl] at hself
    rw [hself]
    exact hx.frame fr
  · rw [List.getElem?_set_ne (fun e => hij e.symm)] at hj
    have hjl := (List.getElem?_eq_some_iff.1 hj).1
    rcases Nat.lt_or_ge j i with h1 | h1
    · have : (j + 1) * p.sz ≤ i * p.sz := Nat.mul_le_mul_right _ h1
      rw [Nat.add_mul, Nat.one_mul] at this
      rw [layAt_before (by omega) this]
      exact (e j y hj).frame fr
    · have : (i + 1) * p.sz ≤ j * p.sz := Nat.mul_le_mul_right _ (by omega)
      rw [Nat.add_mul, Nat.one_mul] at this
      rw [layAt_behind (by omega) (by omega)]
      exact (e j y hj).frame fr
/-- Numbers of one's own. -/
theorem AccP.ints {f n0 : Nat} {h : Heap} {v : AV} {l : List Int} (H : AccP f n0 h (.int .i64) v l) : ∃ ds, SliceAt (Btw n0 h.length) h v 1 l.length ds ∧ (∀ (i : Nat) (hi : i < l.length), (ds.drop (i * 1)).take 1 = [.int .i64 l[i]]) ∧ (∀ x ∈ l, -9223372036854775808 ≤ x ∧ x ≤ 9223372036854775807) ∧ l.length ≤ 140737488355328 := by
  obtain ⟨cs, a, e⟩ := H
  refine ⟨cs, a.slice fun l hl => a.lt hl, fun i hi => (e i l[i] (List.getElem?_eq_getElem hi)).1, fun x hx => ?_, a.1⟩
  obtain ⟨i, hi, rfl⟩ := List.getElem_of_mem hx
  exact (e i l[i] (List.getElem?_eq_getElem hi)).2
/-- A part of a slice. -/
theorem wp_cut {S : Nat → Prop} {h : Heap} {p : PT} {v : AV} {l : List p.den} {s a b : Nat} (H : Holds S h (.slice p) l [v]) (hs : s = p.sz) (hab : a ≤ b) (hb : b ≤ l.length) {x y : Int} (hx : x = (a : Int)) (hy : y = (b : Int)) {K : AV → Option R}
    (k : ∀ v', Holds S h (.slice p) ((l.drop a).take (b - a)) [v'] → WP (K v') Q) : WP (cutK s h v x y K) Q := by
  subst hs hx hy
  obtain ⟨v0, ds, e, hs, hc⟩ := H
  cases e
  have hl := hs.len
  have hbs : b * p.sz ≤ l.length * p.sz := Nat.mul_le_mul_right _ hb
  have hba : (b - a) * p.sz + a * p.sz = b * p.sz := by rw [← Nat.add_mul, Nat.sub_add_cancel hab]
  have hlen : ((l.drop a).take (b - a)).length = b - a := by simp; omega
  have el : ∀ (i : Nat) (x : p.den), ((l.drop a).take (b - a))[i]? = some x → Holds S h p x (((((ds.drop (a * p.sz)).take ((b - a) * p.sz)).drop (i * p.sz))).take p.sz) := fun i x hi => by
    have hib : i < b - a := by
      have := (List.getElem?_eq_some_iff.1 hi).1
      omega
    rw [List.getElem?_take, if_pos hib, List.getElem?_drop] at hi
    have := hc (a + i) x hi
    have h1 : (i + 1) * p.sz ≤ (b - a) * p.sz := Nat.mul_le_mul_right _ hib
    rw [Nat.add_mul, Nat.one_mul] at h1
    rw [List.drop_take, List.drop_drop, List.take_take, ← Nat.add_mul, Nat.min_eq_left (by omega)]
    exact this
  have n1 := hs.1
  unfold SliceAt at hs
  replace hs := hs.2
  unfold cutK
  cases v with
  | nil =>
    have h0 : l.length = 0 := hs.1
    have e1 : (l.drop a).take (b - a) = [] := List.length_eq_zero_iff.1 (by omega)
    refine k .nil ?_
    rw [e1]
    exact ⟨.nil, [], rfl, ⟨Nat.zero_le _, rfl, rfl⟩, fun i x hi => by simp at hi⟩
  | imm m cs =>
    obtain ⟨rfl, rfl, h3⟩ := hs
    simp only [Int.toNat_natCast]
    exact k _ ⟨_, _, rfl, ⟨by omega, by rw [hlen], rfl, by rw [hlen, List.length_take, List.length_drop]; omega⟩, el⟩
  | ref r g off m =>
    obtain ⟨h1, rfl, h3, all, h4, h5, rfl⟩ := hs
    simp only [blockK, h4, if_true, Int.toNat_natCast]
    refine k _ ⟨_, _, rfl, ⟨by omega, h1, by rw [hlen], by rw [hlen, List.length_take, List.length_drop, List.length_take, List.length_drop]; omega, all, h4, by rw [hlen]; omega, ?_⟩, el⟩
    rw [hlen, List.drop_take, List.drop_drop, List.take_take, Nat.min_eq_left (by omega)]
  | undef => exact hs.elim
  | bool _ => exact hs.elim
  | int _ _ => exact hs.elim
  | str _ => exact hs.elim
  | ptr _ _ _ => exact hs.elim
  | iptr _ _ => exact hs.elim
  | agg _ => exact hs.elim
  | tup _ => exact hs.elim
  | fn _ _ => exact hs.elim
  | map _ => exact hs.elim
  | iter _ => exact hs.elim
/-- A new block, written whole. -/
theorem wp_init {b n : Nat} {h : Heap} {zs cs : List AV} (hb : b ≤ h.length) (hz : zs.length = n) (hc : cs.length = n) {K : Heap → Option R} (k : WP (K (h ++ [.cells 0 1 cs])) Q) : WP (storeK b n (h ++ [.cells 0 1 zs]) (.ptr h.length 0 0) (.agg cs) K) Q := by
  simp only [storeK, cellsK_agg]
  rw [if_pos hb, if_pos hc]
  unfold blockK
  simp only [List.getElem?_append_right (Nat.le_refl _), Nat.sub_self, List.getElem?_cons_zero, if_true, Nat.zero_add]
  rw [if_pos (by omega)]
  have e : layAt zs 0 cs = cs := by
    unfold layAt
    simp
    omega
  rw [e]
  simpa using k
@[simp] theorem lenK_ref {l g o n : Nat} (K : Nat → Option R) : lenK (.ref l g o n) K = K n := rfl
@[simp] theorem lenK_nil (K : Nat → Option R) : lenK .nil K = K 0 := rfl
@[simp] theorem sliceK_new {h : Heap} {s n : Nat} {cs : List AV} (K : List AV → Option R) : sliceK (h ++ [.cells 0 s cs]) s (.ref h.length 0 0 n) K = if n * s ≤ cs.length then K (cs.take (n * s)) else none := by
  simp [sliceK, blockK]
end
end Go.AM
