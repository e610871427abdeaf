import Derived.Test.YtfdbegdgedhhcaaGreatAmLim
import Derived.Test.YtfdbegdgedhhcaaGreatAmCode
set_option linter.all false
/- Plain data, how it lies in the abstract machine's memory, and the operations over it. -/
namespace Go.AM

/-- Shapes of plain data. -/
inductive PT where
  | int (k : IntKind)
  | bool
  | str
  | slice (e : PT)
  | pair (a b : PT)

@[reducible] def PT.den : PT → Type
  | .int _ => Int
  | .bool => Bool
  | .str => ByteArray
  | .slice e => List e.den
  | .pair a b => a.den × b.den

def PT.sz : PT → Nat
  | .pair a b => a.sz + b.sz
  | _ => 1
theorem PT.sz_pos : ∀ p : PT, 0 < p.sz
  | .int _ | .bool | .str | .slice _ => Nat.one_pos
  | .pair a b => by have := PT.sz_pos a; simp only [PT.sz]; omega

/-- A slice of n elements of s cells each, in blocks that S says. -/
def SliceAt (S : Nat → Prop) (h : Heap) (v : AV) (s n : Nat) (ds : List AV) : Prop :=
  n ≤ 140737488355328 ∧ match v with
  | .nil => n = 0 ∧ ds = []
  | .imm m cs => m = n ∧ cs = ds ∧ ds.length = n * s
  | .ref l g off m => S l ∧ m = n ∧ ds.length = n * s ∧ ∃ all, h[l]? = some (.cells g s all) ∧ off + n * s ≤ all.length ∧ ds = (all.drop off).take (n * s)
  | _ => False

def Holds (S : Nat → Prop) (h : Heap) : (p : PT) → p.den → List AV → Prop
  | .int k, n, cs => cs = [.int k n] ∧ k.min ≤ n ∧ n ≤ k.max
  | .bool, b, cs => cs = [.bool b]
  | .str, s, cs => cs = [.str s] ∧ s.size ≤ 140737488355328
  | .slice e, l, cs => ∃ v ds, cs = [v] ∧ SliceAt S h v e.sz l.length ds ∧ ∀ (i : Nat) (x : e.den), l[i]? = some x → Holds S h e x ((ds.drop (i * e.sz)).take e.sz)
  | .pair a b, x, cs => ∃ c1 c2, cs = c1 ++ c2 ∧ Holds S h a x.1 c1 ∧ Holds S h b x.2 c2

theorem SliceAt.len {S : Nat → Prop} {h : Heap} {v : AV} {s n : Nat} {ds : List AV} (H : SliceAt S h v s n ds) : ds.length = n * s := by
  unfold SliceAt at H
  replace H := H.2
  split at H
  · obtain ⟨rfl, rfl⟩ := H; simp
  · exact H.2.2
  · exact H.2.2.1
  · exact H.elim

/-- Other blocks don't matter. -/
theorem SliceAt.frame {S S' : Nat → Prop} {h h' : Heap} {v : AV} {s n : Nat} {ds : List AV} (hs : ∀ l, S l → S' l ∧ h'[l]? = h[l]?) (H : SliceAt S h v s n ds) : SliceAt S' h' v s n ds := by
  unfold SliceAt at H ⊢
  refine ⟨H.1, ?_⟩
  replace H := H.2
  split at H
  · exact H
  · exact H
  · obtain ⟨h1, h2, h3, all, h4, h5⟩ := H
    exact ⟨(hs _ h1).1, h2, h3, all, by rw [(hs _ h1).2]; exact h4, h5⟩
  · exact H
theorem Holds.frame {S S' : Nat → Prop} {h h' : Heap} (hs : ∀ l, S l → S' l ∧ h'[l]? = h[l]?) : ∀ {p : PT} {x : p.den} {cs : List AV}, Holds S h p x cs → Holds S' h' p x cs
  | .int _, _, _, H => H
  | .bool, _, _, H => H
  | .str, _, _, H => H
  | .slice _, _, _, ⟨v, ds, h1, h2, h3⟩ => ⟨v, ds, h1, h2.frame hs, fun i x hi => Holds.frame hs (h3 i x hi)⟩
  | .pair _ _, _, _, ⟨c1, c2, h1, h2, h3⟩ => ⟨c1, c2, h1, h2.frame hs, h3.frame hs⟩
theorem Holds.len {S : Nat → Prop} {h : Heap} : ∀ {p : PT} {x : p.den} {cs : List AV}, Holds S h p x cs → cs.length = p.sz
  | .int _, _, _, H => by rw [H.1]; rfl
  | .bool, _, _, H => by rw [show _ = _ from H]; rfl
  | .str, _, _, H => by rw [H.1]; rfl
  | .slice _, _, _, ⟨v, ds, h1, h2, h3⟩ => by rw [h1]; rfl
  | .pair _ _, _, _, ⟨c1, c2, h1, h2, h3⟩ => by rw [h1, List.length_append, h2.len, h3.len]; rfl

/-- A heap behind another: what was there is as it was. -/
def Old (n : Nat) (h h' : Heap) : Prop := n ≤ h'.length ∧ ∀ l, l < n → h'[l]? = h[l]?
theorem Old.refl {n : Nat} {h : Heap} (hn : n ≤ h.length) : Old n h h := ⟨hn, fun _ _ => rfl⟩
theorem Old.trans {n : Nat} {a b c : Heap} (x : Old n a b) (y : Old n b c) : Old n a c := ⟨y.1, fun l hl => (y.2 l hl).trans (x.2 l hl)⟩
theorem Old.mono {n m : Nat} {a b : Heap} (x : Old n a b) (hm : m ≤ n) : Old m a b := ⟨Nat.le_trans hm x.1, fun l hl => x.2 l (by omega)⟩
theorem Old.app {h t : Heap} : Old h.length h (h ++ t) := ⟨by simp, fun l hl => List.getElem?_append_left hl⟩
theorem Old.set {n l : Nat} {h : Heap} {o : AObj} (hn : n ≤ h.length) (hl : n ≤ l) : Old n h (h.set l o) :=
  ⟨by simpa using hn, fun k hk => by rw [List.getElem?_set_ne (by omega)]⟩

/-- What lies in old blocks. -/
abbrev In (h : Heap) (p : PT) (x : p.den) (cs : List AV) : Prop := Holds (fun l => l < h.length) h p x cs
theorem In.old {h h' : Heap} (o : Old h.length h h') {p : PT} {x : p.den} {cs : List AV} (H : In h p x cs) : In h' p x cs :=
  Holds.frame (fun l hl => ⟨Nat.lt_of_lt_of_le hl o.1, o.2 l hl⟩) H

/-- Where an element's cell is. -/
def addrOf (v : AV) (s i o : Nat) : AV :=
  match v with
  | .imm _ cs => .iptr cs (i * s + o)
  | .ref l g off _ => .ptr l g (off + i * s + o)
  | _ => .iptr [] (i * s + o)
/-- A part of a slice. -/
def cutOf (v : AV) (s a b : Nat) : AV :=
  match v with
  | .imm _ cs => .imm (b - a) ((cs.drop (a * s)).take ((b - a) * s))
  | .ref l g off _ => .ref l g (off + a * s) (b - a)
  | v => v

section
variable {S : Nat → Prop} {h : Heap} {v : AV} {s n : Nat} {ds : List AV} {R : Type}
theorem lenK_at (H : SliceAt S h v s n ds) (K : Nat → Option R) : lenK v K = K n := by
  unfold SliceAt at H
  replace H := H.2
  split at H
  · rw [H.1]; rfl
  · rw [← H.1]; rfl
  · rw [← H.2.1]; rfl
  · exact H.elim
theorem sliceK_at (H : SliceAt S h v s n ds) (K : List AV → Option R) : sliceK h s v K = K ds := by
  have hl := H.len
  unfold SliceAt at H
  replace H := H.2
  split at H
  · rw [H.2]; rfl
  · obtain ⟨rfl, rfl, h3⟩ := H
    simp only [sliceK, h3, if_true]
  · obtain ⟨_, rfl, _, all, h3, h4, rfl⟩ := H
    simp [sliceK, blockK, h3, h4]
  · exact H.elim
theorem readK_at (H : SliceAt S h v s n ds) {i o m : Nat} (hi : i < n) (hm : o + m ≤ s) (K : List AV → Option R) : readK h (addrOf v s i o) m K = K ((ds.drop (i * s + o)).take m) := by
  have hl := H.len
  have hb : i * s + o + m ≤ n * s := by
    have : (i + 1) * s ≤ n * s := Nat.mul_le_mul_right s hi
    rw [Nat.add_mul, Nat.one_mul] at this
    omega
  unfold SliceAt at H
  replace H := H.2
  split at H
  · omega
  · obtain ⟨rfl, rfl, h3⟩ := H
    simp only [addrOf, readK]
    rw [if_pos (by omega)]
  · obtain ⟨_, rfl, _, all, h3, h4, rfl⟩ := H
    simp only [addrOf, readK, blockK, h3, if_true]
    rw [if_pos (by omega)]
    congr 1
    rw [List.drop_take, List.drop_drop, List.take_take]
    congr 1
    · omega
    · congr 1
      omega
  · exact H.elim
end
end Go.AM
