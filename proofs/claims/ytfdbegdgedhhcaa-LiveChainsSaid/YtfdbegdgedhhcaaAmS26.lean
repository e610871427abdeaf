/- A slice of one's own whose parts lie where one says: for slices that stand in boxes. -/
import Derived.Test.YtfdbegdgedhhcaaAmS25
set_option linter.all false
namespace Go.AM
set_option maxRecDepth 20000
set_option maxHeartbeats 1000000
attribute [local simp] layAt
attribute [local irreducible] lenK sliceK idxK fldK cutK storeK appK copyK clearK mapAtK callK loopH readK readK1 guardK grdK fnK nilK fieldK extrK strK nextK joinK iteK intK boolK cellsK castK castL castEnv binK unK intBin layParts execN runOpsN runItemsN denN call loop blockK
section
variable {R : Type} {Q : R → Prop} {S : Nat → Prop} {h : Heap}
/-- As AccP; the parts lie in blocks that F lets. -/
def AccF (F : Nat → Prop) (n0 : Nat) (h : Heap) (p : PT) (v : AV) (l : List p.den) : Prop :=
  ∃ cs, Acc n0 h p.sz v cs l.length ∧ ∀ (i : Nat) (x : p.den), l[i]? = some x → Holds (fun j => F j ∧ j < h.length ∧ v.blk ≠ some j) h p x ((cs.drop (i * p.sz)).take p.sz)
theorem AccF.nil {F : Nat → Prop} {n0 : Nat} {p : PT} : AccF F n0 h p .nil [] := ⟨[], Acc.nil, fun i x hi => by simp at hi⟩
theorem AccF.one {F : Nat → Prop} {n0 : Nat} {p : PT} {v : AV} {l : List p.den} (H : AccF F n0 h p v l) : v.one = true := let ⟨_, a, _⟩ := H; a.one
theorem AccF.in {F : Nat → Prop} {n0 : Nat} {p : PT} {v : AV} {l : List p.den} (H : AccF F n0 h p v l) : In h (.slice p) l [v] := by
  obtain ⟨cs, a, e⟩ := H
  exact ⟨v, cs, rfl, a.slice fun k hk => (a.lt hk).2, fun i x hi => (e i x hi).mono fun j hj => hj.2.1⟩
theorem AccF.keep {F : Nat → Prop} {n0 : Nat} {h' : Heap} {p : PT} {v : AV} {l : List p.den} (H : AccF F n0 h p v l) (ho : Old h.length h h') : AccF F n0 h' p v l := by
  obtain ⟨cs, a, e⟩ := H
  exact ⟨cs, a.keep fun l hl => ho.2 l (a.lt hl).2, fun i x hi => (e i x hi).frame fun j hj => ⟨⟨hj.1, Nat.lt_of_lt_of_le hj.2.1 ho.1, hj.2.2⟩, ho.2 j hj.2.1⟩⟩
theorem AccF.lt {F : Nat → Prop} {n0 : Nat} {p : PT} {v : AV} {l : List p.den} (H : AccF F n0 h p v l) {j : Nat} (hj : v.blk = some j) : n0 ≤ j ∧ j < h.length := let ⟨_, a, _⟩ := H; a.lt hj
/-- A block is written where nothing of it lies. -/
theorem AccF.but {h' : Heap} {F : Nat → Prop} {n0 l0 : Nat} {p : PT} {v : AV} {l : List p.den} (H : AccF F n0 h p v l) (hl : h.length ≤ h'.length) (hk : ∀ j, j < h.length → j ≠ l0 → h'[j]? = h[j]?) (hf : ¬ F l0) (hn : v.blk ≠ some l0) : AccF F n0 h' p v l := by
  obtain ⟨cs, a, e⟩ := H
  exact ⟨cs, a.keep fun j hj => hk j (a.lt hj).2 (fun e => hn (e ▸ hj)), fun i x hi => (e i x hi).frame fun j hj => ⟨⟨hj.1, by omega, hj.2.2⟩, hk j hj.2.1 (fun e => hf (e ▸ hj.1))⟩⟩
theorem AccF.ofP {F : Nat → Prop} {f n0 : Nat} {p : PT} {v : AV} {l : List p.den} (H : AccP f n0 h p v l) (hF : ∀ j, f ≤ j → j < h.length → F j) : AccF F n0 h p v l := by
  obtain ⟨cs, a, e⟩ := H
  exact ⟨cs, a, fun i x hi => (e i x hi).mono fun j hj => ⟨hF j hj.1 hj.2.1, hj.2⟩⟩
theorem AccF.mono {F G : Nat → Prop} {n0 : Nat} {p : PT} {v : AV} {l : List p.den} (H : AccF F n0 h p v l) (hF : ∀ j, F j → j < h.length → G j) : AccF G n0 h p v l := by
  obtain ⟨cs, a, e⟩ := H
  exact ⟨cs, a, fun i x hi => (e i x hi).mono fun j hj => ⟨hF j hj.1 hj.2.1, hj.2⟩⟩
theorem wp_pushF {base n0 bytes s : Nat} {F : Nat → Prop} {p : PT} {v : AV} {l : List p.den} {x : p.den} {ys : List AV} (H : AccF F n0 h p v l) (hx : Holds (fun j => F j ∧ j < h.length ∧ v.blk ≠ some j) h p x ys) (hs : s = p.sz) (hb : base ≤ n0) (hn : n0 ≤ h.length)
    (h1 : (l.length + 1) * bytes ≤ 140737488355328) (h2 : l.length + 1 ≤ 140737488355328) {K : AV → Heap → Option R}
    (k : ∀ v' h', But v h h' → Old n0 h h' → (∀ j, v'.blk = some j → v.blk = some j ∨ j = h.length) → AccF F n0 h' p v' (l ++ [x]) → WP (K v' h') Q) : WP (appK base s bytes h v ys 1 K) Q := by
  subst hs
  obtain ⟨cs, a, e⟩ := H
  have hcl := a.len
  refine wp_app a hb hn (by rw [hx.len, Nat.one_mul]) h1 h2 fun v' h' but hv a' => k v' h' but (but.old a hn) hv ⟨cs ++ ys, by simpa using a', fun i y hi => ?_⟩
  have fr : ∀ j, (F j ∧ j < h.length ∧ v.blk ≠ some j) → (F j ∧ j < h'.length ∧ v'.blk ≠ some j) ∧ h'[j]? = h[j]? := fun j hj => ⟨⟨hj.1, Nat.lt_of_lt_of_le hj.2.1 but.1, fun eq => by
    rcases hv j eq with e1 | e1
    · exact hj.2.2 e1
    · omega⟩, but.2 j hj.2.1 hj.2.2⟩
  rcases Nat.lt_or_ge i l.length with hil | hil
  · rw [List.getElem?_append_left hil] at hi
    have hle : (i + 1) * p.sz ≤ l.length * p.sz := Nat.mul_le_mul_right _ hil
    rw [Nat.add_mul, Nat.one_mul] at hle
    rw [List.drop_append_of_le_length (by omega), List.take_append_of_le_length (by rw [List.length_drop]; omega)]
    exact (e i y hi).frame fr
  · rw [List.getElem?_append_right hil] at hi
    have h0 : i = l.length := by
      rcases Nat.eq_or_lt_of_le hil with h0 | h0
      · exact h0.symm
      · rw [List.getElem?_eq_none (by simp; omega)] at hi
        cases hi
    subst h0
    simp at hi
    subst hi
    rw [← hcl, List.drop_left, List.take_of_length_le (Nat.le_of_eq hx.len)]
    exact hx.frame fr
end
end Go.AM
