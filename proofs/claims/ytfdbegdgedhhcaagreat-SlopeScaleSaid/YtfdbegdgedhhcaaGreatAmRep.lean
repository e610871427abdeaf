import Derived.Test.YtfdbegdgedhhcaaGreatAmCheck
import Derived.Below
import Derived.Calls
import Derived.WalkKit
set_option linter.all false
/- What the abstract machine's values and heap stand for in the model's memory. -/
namespace Go.AM
open Go.RowKit
set_option linter.unusedVariables false

/-- A block of the call's own: its number, how many cells, of which size its elements are. -/
structure Blk where
  b : Nat
  sz : Nat
  s : Nat
/-- Which block an abstract block is, at each generation. -/
abbrev Mu := Nat → Nat → Option Blk

section
variable (w0 : World) (ren : Nat → Option Nat)

inductive RepV (μ : Mu) : AV → Value → Prop where
  | undef (v : Value) : RepV μ .undef v
  | bool (b : Bool) : RepV μ (.bool b) (.bool b)
  | int (k : IntKind) (n : Int) : RepV μ (.int k n) (.int k n)
  | str (s : ByteArray) : RepV μ (.str s) (.string s)
  | nil : RepV μ .nil (.slice none 0 0)
  | imm (n : Nat) (cs : List AV) (a : Addr) (cap : Nat) (vs : Nat → Value) (hn : n ≤ cap) (ha : 0 < n ∨ 0 < cs.length → a.spot = none ∧ a.block < w0.heap.size)
      (hc : ∀ i, i < cs.length → w0.cell? ⟨a.block, a.off + i, none⟩ = some (vs i)) (hr : ∀ (i : Nat) (c : AV), cs[i]? = some c → RepV μ c (vs i)) (h1 : ∀ c ∈ cs, c.one = true) : RepV μ (.imm n cs) (.slice (some a) n cap)
  | ref (l g off n b o cap sz s : Nat) (hm : μ l g = some ⟨b, sz, s⟩) (hn : n ≤ cap) (ho : (o = off ∧ off + cap * s = sz) ∨ (n = 0 ∧ cap = 0)) : RepV μ (.ref l g off n) (.slice (some ⟨b, o, none⟩) n cap)
  | ptr (l g off : Nat) (x : Blk) (hm : μ l g = some x) : RepV μ (.ptr l g off) (.pointer (some ⟨x.b, off, none⟩))
  | iptr (cs : List AV) (off b o : Nat) (vs : Nat → Value) (hb : b < w0.heap.size)
      (hc : ∀ i, i < cs.length → w0.cell? ⟨b, o + i, none⟩ = some (vs i)) (hr : ∀ (i : Nat) (c : AV), cs[i]? = some c → RepV μ c (vs i)) (h1 : ∀ c ∈ cs, c.one = true) : RepV μ (.iptr cs off) (.pointer (some ⟨b, o + off, none⟩))
  | agg (cs : List AV) (vs : List Value) (hl : cs.length = vs.length) (hr : ∀ (i : Nat) (c : AV) (v : Value), cs[i]? = some c → vs[i]? = some v → RepV μ c v) (h1 : ∀ c ∈ cs, c.one = true) : RepV μ (.agg cs) (.agg vs.toArray)
  | tup (cs : List AV) (vs : List Value) (hl : cs.length = vs.length) (hr : ∀ (i : Nat) (c : AV) (v : Value), cs[i]? = some c → vs[i]? = some v → RepV μ c v) : RepV μ (.tup cs) (.tuple vs.toArray)
  | fn (f g : Nat) (cs : List AV) (vs : List Value) (hf : ren f = some g) (hl : cs.length = vs.length) (hr : ∀ (i : Nat) (c : AV) (v : Value), cs[i]? = some c → vs[i]? = some v → RepV μ c v) : RepV μ (.fn g cs) (.func (.func f) #[] vs.toArray)
  | map (l : Nat) (x : Blk) (hm : μ l 0 = some x) : RepV μ (.map l) (.map (some x.b))
  | iter (l : Nat) (x : Blk) (hm : μ l 0 = some x) : RepV μ (.iter l) (.pointer (some ⟨x.b, 0, none⟩))

/-- Lists, one by one. -/
structure RepL (μ : Mu) (cs : List AV) (vs : List Value) : Prop where
  len : cs.length = vs.length
  at_ : ∀ (i : Nat) (c : AV) (v : Value), cs[i]? = some c → vs[i]? = some v → RepV w0 ren μ c v

def Sub (μ μ' : Mu) : Prop := ∀ l g x, μ l g = some x → μ' l g = some x
theorem Sub.refl (μ : Mu) : Sub μ μ := fun _ _ _ h => h
theorem Sub.trans {a b c : Mu} (h : Sub a b) (k : Sub b c) : Sub a c := fun l g x hx => k l g x (h l g x hx)

variable {w0 ren}
theorem RepV.mono {μ μ' : Mu} (hs : Sub μ μ') {a : AV} {v : Value} (h : RepV w0 ren μ a v) : RepV w0 ren μ' a v := by
  induction h with
  | undef v => exact .undef v
  | bool b => exact .bool b
  | int k n => exact .int k n
  | str s => exact .str s
  | nil => exact .nil
  | imm n cs a cap vs hn ha hc hr h1 ih => exact .imm n cs a cap vs hn ha hc ih h1
  | ref l g off n b o cap sz s hm hn ho => exact .ref l g off n b o cap sz s (hs _ _ _ hm) hn ho
  | ptr l g off x hm => exact .ptr l g off x (hs _ _ _ hm)
  | iptr cs off b o vs hb hc hr h1 ih => exact .iptr cs off b o vs hb hc ih h1
  | agg cs vs hl hr h1 ih => exact .agg cs vs hl ih h1
  | tup cs vs hl hr ih => exact .tup cs vs hl ih
  | fn f g cs vs hf hl hr ih => exact .fn f g cs vs hf hl ih
  | map l x hm => exact .map l x (hs _ _ _ hm)
  | iter l x hm => exact .iter l x (hs _ _ _ hm)
theorem RepL.mono {μ μ' : Mu} (hs : Sub μ μ') {a : List AV} {v : List Value} (h : RepL w0 ren μ a v) : RepL w0 ren μ' a v := ⟨h.len, fun i c u hc hu => (h.at_ i c u hc hu).mono hs⟩
theorem RepL.nil {μ : Mu} : RepL w0 ren μ [] [] := ⟨rfl, fun i c v h => by simp at h⟩
theorem RepL.cons {μ : Mu} {a : AV} {v : Value} {as : List AV} {vs : List Value} (h : RepV w0 ren μ a v) (hs : RepL w0 ren μ as vs) : RepL w0 ren μ (a :: as) (v :: vs) :=
  ⟨by simp [hs.len], fun i c u hc hu => by
    cases i with
    | zero => simp at hc hu; subst hc; subst hu; exact h
    | succ i => exact hs.at_ i c u (by simpa using hc) (by simpa using hu)⟩
theorem RepL.one {μ : Mu} {a : AV} {v : Value} (h : RepV w0 ren μ a v) : RepL w0 ren μ [a] [v] := .cons h .nil
theorem RepL.uncons {μ : Mu} {a : AV} {v : Value} {as : List AV} {vs : List Value} (h : RepL w0 ren μ (a :: as) (v :: vs)) : RepV w0 ren μ a v ∧ RepL w0 ren μ as vs :=
  ⟨h.at_ 0 a v rfl rfl, by have := h.len; simpa using this, fun i c u hc hu => h.at_ (i + 1) c u (by simpa using hc) (by simpa using hu)⟩
theorem RepL.append {μ : Mu} {as bs : List AV} {vs us : List Value} (h : RepL w0 ren μ as vs) (k : RepL w0 ren μ bs us) : RepL w0 ren μ (as ++ bs) (vs ++ us) := by
  refine ⟨by simp [h.len, k.len], fun i c u hc hu => ?_⟩
  rcases Nat.lt_or_ge i as.length with hi | hi
  · rw [List.getElem?_append_left hi] at hc
    rw [List.getElem?_append_left (by have := h.len; omega)] at hu
    exact h.at_ i c u hc hu
  · rw [List.getElem?_append_right hi] at hc
    rw [List.getElem?_append_right (by have := h.len; omega)] at hu
    exact k.at_ (i - as.length) c u hc (by rw [h.len]; exact hu)
theorem RepL.take {μ : Mu} {as : List AV} {vs : List Value} (h : RepL w0 ren μ as vs) (n : Nat) : RepL w0 ren μ (as.take n) (vs.take n) :=
  ⟨by simp [h.len], fun i c u hc hu => by
    rw [List.getElem?_take] at hc hu
    split at hc
    · rename_i hi
      rw [if_pos hi] at hu
      exact h.at_ i c u hc hu
    · cases hc⟩
theorem RepL.drop {μ : Mu} {as : List AV} {vs : List Value} (h : RepL w0 ren μ as vs) (n : Nat) : RepL w0 ren μ (as.drop n) (vs.drop n) :=
  ⟨by simp [h.len], fun i c u hc hu => by
    rw [List.getElem?_drop] at hc hu
    exact h.at_ (n + i) c u hc hu⟩

theorem RepV.one {μ : Mu} {a : AV} {v : Value} (h : RepV w0 ren μ a v) (h1 : a.one = true) : v.oneCell' = true := by
  cases h <;> first | rfl | (simp [AV.one] at h1)
theorem RepL.ones {μ : Mu} {as : List AV} {vs : List Value} (h : RepL w0 ren μ as vs) (h1 : ∀ c ∈ as, c.one = true) : ∀ v ∈ vs, v.oneCell' = true := by
  intro v hv
  obtain ⟨i, hi, rfl⟩ := List.getElem_of_mem hv
  have hi' : i < as.length := by rw [h.len]; exact hi
  exact (h.at_ i as[i] vs[i] (List.getElem?_eq_getElem hi') (List.getElem?_eq_getElem hi)).one (h1 _ (List.getElem_mem hi'))

/-- A value's cells. -/
theorem cellsK_rep {μ : Mu} {a : AV} {v : Value} (h : RepV w0 ren μ a v) {R : Type} {K : List AV → Option R} {r : R} (H : cellsK a K = some r) :
    ∃ cs, K cs = some r ∧ RepL w0 ren μ cs v.cells.toList ∧ ∀ c ∈ cs, c.one = true := by
  unfold cellsK at H
  cases h with
  | undef v => cases H
  | tup cs vs hl hr => cases H
  | agg cs vs hl hr h1 => exact ⟨cs, H, by simpa [Value.cells] using ⟨hl, hr⟩, h1⟩
  | imm n cs a cap vs hn ha hc hr h1 => exact ⟨_, H, .one (.imm n cs a cap vs hn ha hc hr h1), by simp [AV.one]⟩
  | ref l g off n b o cap sz s hm hn ho => exact ⟨_, H, .one (.ref l g off n b o cap sz s hm hn ho), by simp [AV.one]⟩
  | ptr l g off x hm => exact ⟨_, H, .one (.ptr l g off x hm), by simp [AV.one]⟩
  | iptr cs off b o vs hb hc hr h1 => exact ⟨_, H, .one (.iptr cs off b o vs hb hc hr h1), by simp [AV.one]⟩
  | fn f g cs vs hf hl hr => exact ⟨_, H, .one (.fn f g cs vs hf hl hr), by simp [AV.one]⟩
  | map l x hm => exact ⟨_, H, .one (.map l x hm), by simp [AV.one]⟩
  | iter l x hm => exact ⟨_, H, .one (.iter l x hm), by simp [AV.one]⟩
  | bool b => exact ⟨_, H, .one (.bool b), by simp [AV.one]⟩
  | int k n => exact ⟨_, H, .one (.int k n), by simp [AV.one]⟩
  | str s => exact ⟨_, H, .one (.str s), by simp [AV.one]⟩
  | nil => exact ⟨_, H, .one .nil, by simp [AV.one]⟩

/-- A map's entries. -/
def RepM (w0 : World) (ren : Nat → Option Nat) (μ : Mu) : List (ByteArray × AV) → List MapEntry → Prop
  | [], [] => True
  | x :: r, m :: r' => m.key = .string x.1 ∧ RepV w0 ren μ x.2 m.val ∧ RepM w0 ren μ r r'
  | _, _ => False
theorem RepM.mono {μ μ' : Mu} (hs : Sub μ μ') : ∀ {es : List (ByteArray × AV)} {ms : List MapEntry}, RepM w0 ren μ es ms → RepM w0 ren μ' es ms
  | [], [], _ => trivial
  | x :: r, m :: r', h => ⟨h.1, h.2.1.mono hs, RepM.mono hs h.2.2⟩
  | [], _ :: _, h => h
  | _ :: _, [], h => h

/-- What is told of a world. -/
structure Inv (w0 : World) (ren : Nat → Option Nat) (μ : Mu) (h : Heap) (w : World) : Prop where
  below : Below w0.heap.size w0 w
  fresh : ∀ l g x, μ l g = some x → w0.heap.size ≤ x.b ∧ x.b < w.heap.size ∧ l < h.length
  inj : ∀ l g x l' g' x', μ l g = some x → μ l' g' = some x' → x.b = x'.b → l = l'
  cells : ∀ l g s cs x, h[l]? = some (.cells g s cs) → μ l g = some x → x.s = s ∧ ∃ vs e, w.heap[x.b]? = some (.cells vs e (0, 0)) ∧ vs.size = x.sz ∧ cs.length ≤ vs.size ∧
    RepL w0 ren μ cs (vs.toList.take cs.length) ∧ ∀ c ∈ cs, c.one = true
  gens : ∀ l g s cs g' x, h[l]? = some (.cells g s cs) → μ l g' = some x → g' ≤ g
  map : ∀ l es x, h[l]? = some (.map es) → μ l 0 = some x → ∃ ms clock, w.heap[x.b]? = some (.map ms clock) ∧ RepM w0 ren μ es ms.toList
  iter : ∀ l s p x, h[l]? = some (.iter s p) → μ l 0 = some x → w.heap[x.b]? = some (.stringIter s p)

/-- What a step may write: blocks from the floor on. -/
structure Fr (base : Nat) (μ : Mu) (w w' : World) : Prop where
  os : w'.os = w.os
  tape : w'.tape = w.tape
  output : w'.output = w.output
  size : w.heap.size ≤ w'.heap.size
  block : ∀ b, b < w.heap.size → (∀ l g x, base ≤ l → μ l g = some x → x.b ≠ b) → w'.heap[b]? = w.heap[b]?
def HExt (base : Nat) (h h' : Heap) : Prop := h.length ≤ h'.length ∧ ∀ l, l < base → h'[l]? = h[l]?
structure Step (w0 : World) (ren : Nat → Option Nat) (base : Nat) (μ : Mu) (h : Heap) (w : World) (μ' : Mu) (h' : Heap) (w' : World) : Prop where
  sub : Sub μ μ'
  new : ∀ l g x, μ' l g = some x → μ l g = some x ∨ (base ≤ l ∧ (w.heap.size ≤ x.b ∨ ∃ g0 x0, μ l g0 = some x0 ∧ x0.b = x.b))
  ext : HExt base h h'
  inv : Inv w0 ren μ' h' w'
  fr : Fr base μ w w'

theorem Step.refl {base : Nat} {μ : Mu} {h : Heap} {w : World} (I : Inv w0 ren μ h w) : Step w0 ren base μ h w μ h w :=
  ⟨.refl μ, fun _ _ _ h => .inl h, ⟨Nat.le_refl _, fun _ _ => rfl⟩, I, ⟨rfl, rfl, rfl, Nat.le_refl _, fun _ _ _ => rfl⟩⟩
theorem Step.trans {base : Nat} {μ μ' μ'' : Mu} {h h' h'' : Heap} {w w' w'' : World} (s : Step w0 ren base μ h w μ' h' w') (t : Step w0 ren base μ' h' w' μ'' h'' w'') : Step w0 ren base μ h w μ'' h'' w'' := by
  refine ⟨s.sub.trans t.sub, fun l g x hx => ?_, ⟨Nat.le_trans s.ext.1 t.ext.1, fun l hl => (t.ext.2 l hl).trans (s.ext.2 l hl)⟩, t.inv, ⟨t.fr.os.trans s.fr.os, t.fr.tape.trans s.fr.tape, t.fr.output.trans s.fr.output, Nat.le_trans s.fr.size t.fr.size, fun b hb hn => ?_⟩⟩
  · rcases t.new l g x hx with h1 | ⟨hl, h1⟩
    · exact s.new l g x h1
    · refine .inr ⟨hl, ?_⟩
      rcases h1 with h1 | ⟨g0, x0, hx0, hb⟩
      · exact .inl (Nat.le_trans s.fr.size h1)
      · rcases s.new l g0 x0 hx0 with h2 | ⟨_, h2⟩
        · exact .inr ⟨g0, x0, h2, hb⟩
        · rcases h2 with h2 | ⟨g1, x1, h3, h4⟩
          · exact .inl (hb ▸ h2)
          · exact .inr ⟨g1, x1, h3, h4.trans hb⟩
  · refine (t.fr.block b (Nat.lt_of_lt_of_le hb s.fr.size) fun l g x hl hx => ?_).trans (s.fr.block b hb hn)
    rcases s.new l g x hx with h1 | ⟨_, h1⟩
    · exact hn l g x hl h1
    · rcases h1 with h1 | ⟨g0, x0, h2, h3⟩
      · intro e; omega
      · exact fun e => hn l g0 x0 hl h2 (h3.trans e)

/-- A frame's slots. -/
structure RepE (w0 : World) (ren : Nat → Option Nat) (μ : Mu) (n : Nat) (e : Env) (a : Act) : Prop where
  size : a.tmps.size = n
  defers : a.defers = []
  at_ : ∀ t, RepV w0 ren μ (e t) (a.tmps.getD t undef)
theorem RepE.mono {μ μ' : Mu} (hs : Sub μ μ') {n : Nat} {e : Env} {a : Act} (h : RepE w0 ren μ n e a) : RepE w0 ren μ' n e a := ⟨h.size, h.defers, fun t => (h.at_ t).mono hs⟩
theorem put_getD (a : Act) (d : Option Nat) (v : Value) (n : Nat) (hn : a.tmps.size = n) (hd : ∀ i, d = some i → i < n) (t : Nat) :
    (a.put d v).tmps.getD t undef = if d = some t then v else a.tmps.getD t undef := by
  cases d with
  | none => simp [Act.put]
  | some d =>
    have := hd d rfl
    simp only [Act.put, Array.getD_eq_getD_getElem?, Array.getElem?_setIfInBounds, Option.some.injEq]
    by_cases h : d = t
    · subst h; simp [hn, this]
    · simp [h]
theorem RepE.put {μ : Mu} {n : Nat} {e : Env} {a : Act} (h : RepE w0 ren μ n e a) (d : Option Nat) (hd : ∀ i, d = some i → i < n) {x : AV} {v : Value} (hv : RepV w0 ren μ x v) : RepE w0 ren μ n (e.put d x) (a.put d v) := by
  refine ⟨by cases d <;> simp [Act.put, h.size], by cases d <;> simp [Act.put, h.defers], fun t => ?_⟩
  rw [put_getD a d v n h.size hd t]
  cases d with
  | none => exact h.at_ t
  | some d =>
    simp only [Env.put, Option.some.injEq]
    by_cases hdt : d = t
    · subst hdt; simpa using hv
    · rw [if_neg hdt, if_neg (fun e => hdt e.symm)]
      exact h.at_ t

/-- What one abstract block stands for. -/
structure At (w0 : World) (ren : Nat → Option Nat) (μ : Mu) (h : Heap) (w : World) (l : Nat) : Prop where
  cells : ∀ g s cs x, h[l]? = some (.cells g s cs) → μ l g = some x → x.s = s ∧ ∃ vs e, w.heap[x.b]? = some (.cells vs e (0, 0)) ∧ vs.size = x.sz ∧ cs.length ≤ vs.size ∧
    RepL w0 ren μ cs (vs.toList.take cs.length) ∧ ∀ c ∈ cs, c.one = true
  gens : ∀ g s cs g' x, h[l]? = some (.cells g s cs) → μ l g' = some x → g' ≤ g
  map : ∀ es x, h[l]? = some (.map es) → μ l 0 = some x → ∃ ms clock, w.heap[x.b]? = some (.map ms clock) ∧ RepM w0 ren μ es ms.toList
  iter : ∀ s p x, h[l]? = some (.iter s p) → μ l 0 = some x → w.heap[x.b]? = some (.stringIter s p)
theorem Inv.at_ {μ : Mu} {h : Heap} {w : World} (I : Inv w0 ren μ h w) (l : Nat) : At w0 ren μ h w l :=
  ⟨fun g s cs x h1 h2 => I.cells l g s cs x h1 h2, fun g s cs g' x h1 h2 => I.gens l g s cs g' x h1 h2, fun es x h1 h2 => I.map l es x h1 h2, fun s p x h1 h2 => I.iter l s p x h1 h2⟩
theorem At.move {μ μ' : Mu} {h h' : Heap} {w w' : World} {l : Nat} (A : At w0 ren μ h w l) (hs : Sub μ μ') (hm : ∀ g x, μ' l g = some x → μ l g = some x) (hh : h'[l]? = h[l]?)
    (hw : ∀ g x, μ l g = some x → w'.heap[x.b]? = w.heap[x.b]?) : At w0 ren μ' h' w' l := by
  refine ⟨fun g s cs x h1 h2 => ?_, fun g s cs g' x h1 h2 => ?_, fun es x h1 h2 => ?_, fun s p x h1 h2 => ?_⟩
  · have h3 := hm _ _ h2
    rw [hh] at h1
    obtain ⟨e1, vs, e, a1, a2, a3, a4, a5⟩ := A.cells g s cs x h1 h3
    exact ⟨e1, vs, e, (hw _ _ h3).trans a1, a2, a3, a4.mono hs, a5⟩
  · rw [hh] at h1
    exact A.gens g s cs g' x h1 (hm _ _ h2)
  · have h3 := hm _ _ h2
    rw [hh] at h1
    obtain ⟨ms, c, a1, a2⟩ := A.map es x h1 h3
    exact ⟨ms, c, (hw _ _ h3).trans a1, a2.mono hs⟩
  · have h3 := hm _ _ h2
    rw [hh] at h1
    exact (hw _ _ h3).trans (A.iter s p x h1 h3)

/-- One abstract block is made, or written. -/
theorem Inv.step {base : Nat} {μ μ' : Mu} {h h' : Heap} {w w' : World} (I : Inv w0 ren μ h w) (l : Nat) (hl : base ≤ l) (hb : base ≤ h.length) (hs : Sub μ μ')
    (hnew : ∀ l' g' x, μ' l' g' = some x → μ l' g' = some x ∨ (l' = l ∧ ((x.b = w.heap.size) ∨ ∃ g0 x0, μ l g0 = some x0 ∧ x0.b = x.b)))
    (ho : w'.os = w.os) (ht : w'.tape = w.tape) (hout : w'.output = w.output) (hsz : w.heap.size ≤ w'.heap.size) (hxb : ∀ g' x, μ' l g' = some x → x.b < w'.heap.size)
    (hblk : ∀ b, b < w.heap.size → (∀ g0 x0, μ l g0 = some x0 → x0.b ≠ b) → w'.heap[b]? = w.heap[b]?)
    (hh : ∀ l', l' ≠ l → h'[l']? = h[l']?) (hlen : h.length ≤ h'.length) (hl' : l < h'.length) (hat : At w0 ren μ' h' w' l) : Step w0 ren base μ h w μ' h' w' := by
  have hother : ∀ l', l' ≠ l → At w0 ren μ' h' w' l' := fun l' hne => (I.at_ l').move hs (fun g x hx => by
      rcases hnew l' g x hx with h1 | ⟨h1, _⟩
      · exact h1
      · exact absurd h1 hne) (hh l' hne) (fun g x hx => hblk x.b (I.fresh _ _ _ hx).2.1 fun g0 x0 h0 e => hne (I.inj _ _ _ _ _ _ hx h0 e.symm))
  have hall : ∀ l', At w0 ren μ' h' w' l' := fun l' => by
    by_cases e : l' = l
    · subst e; exact hat
    · exact hother l' e
  refine ⟨hs, fun l1 g x hx => ?_, ⟨hlen, fun l1 h1 => hh l1 (by omega)⟩, ⟨?_, ?_, ?_, fun l1 => (hall l1).cells, fun l1 => (hall l1).gens, fun l1 => (hall l1).map, fun l1 => (hall l1).iter⟩, ⟨ho, ht, hout, hsz, fun b h1 h2 => hblk b h1 fun g0 x0 h0 => h2 l g0 x0 hl h0⟩⟩
  · rcases hnew l1 g x hx with h1 | ⟨rfl, h1⟩
    · exact .inl h1
    · refine .inr ⟨hl, ?_⟩
      rcases h1 with h1 | h1
      · exact .inl (by omega)
      · exact .inr h1
  · refine I.below.trans ⟨ho, ht, hout, hsz, fun k hk => hblk k (Nat.lt_of_lt_of_le hk I.below.size) fun g0 x0 h0 e => ?_⟩
    have := (I.fresh _ _ _ h0).1
    omega
  · intro l1 g x hx
    rcases hnew l1 g x hx with h1 | ⟨rfl, h1⟩
    · have := I.fresh _ _ _ h1
      exact ⟨this.1, Nat.lt_of_lt_of_le this.2.1 hsz, Nat.lt_of_lt_of_le this.2.2 hlen⟩
    · refine ⟨?_, hxb _ _ hx, hl'⟩
      rcases h1 with h1 | ⟨g0, x0, h0, e⟩
      · have := I.below.size; omega
      · have := (I.fresh _ _ _ h0).1; omega
  · intro l1 g x l2 g2 x2 h1 h2 e
    rcases hnew _ _ _ h1 with k1 | ⟨rfl, k1⟩
    · rcases hnew _ _ _ h2 with k2 | ⟨rfl, k2⟩
      · exact I.inj _ _ _ _ _ _ k1 k2 e
      · rcases k2 with k2 | ⟨g0, x0, h0, e0⟩
        · have := (I.fresh _ _ _ k1).2.1; omega
        · exact I.inj _ _ _ _ _ _ k1 h0 (e.trans e0.symm)
    · rcases hnew _ _ _ h2 with k2 | ⟨rfl, k2⟩
      · rcases k1 with k1 | ⟨g0, x0, h0, e0⟩
        · have := (I.fresh _ _ _ k2).2.1; omega
        · exact I.inj _ _ _ _ _ _ h0 k2 (e0.trans e)
      · rfl

/-- A new abstract block. -/
def Mu.add (μ : Mu) (l g : Nat) (x : Blk) : Mu := fun l' g' => if l' = l ∧ g' = g then some x else μ l' g'
theorem Mu.add_same (μ : Mu) (l g : Nat) (x : Blk) : μ.add l g x l g = some x := by simp [Mu.add]
theorem Mu.add_sub {μ : Mu} {l g : Nat} (h : μ l g = none) (x : Blk) : Sub μ (μ.add l g x) := fun l' g' y hy => by
  unfold Mu.add
  split
  · rename_i h1; rw [h1.1, h1.2, h] at hy; cases hy
  · exact hy
theorem Mu.add_new {μ : Mu} {l g l' g' : Nat} {x y : Blk} (h : μ.add l g x l' g' = some y) : μ l' g' = some y ∨ (l' = l ∧ g' = g ∧ y = x) := by
  unfold Mu.add at h
  split at h
  · rename_i h1; exact .inr ⟨h1.1, h1.2, by injection h with h; exact h.symm⟩
  · exact .inl h
theorem Inv.none_at {μ : Mu} {h : Heap} {w : World} (I : Inv w0 ren μ h w) (g : Nat) : μ h.length g = none := by
  cases hm : μ h.length g with
  | none => rfl
  | some x => have := (I.fresh _ _ _ hm).2.2; omega
theorem Inv.drew {μ : Mu} {h : Heap} {w : World} (I : Inv w0 ren μ h w) : Inv w0 ren μ h w.drew := ⟨I.below.drew, I.fresh, I.inj, I.cells, I.gens, I.map, I.iter⟩
theorem Step.drewL {base : Nat} {μ μ' : Mu} {h h' : Heap} {w w' : World} (s : Step w0 ren base μ h w.drew μ' h' w') : Step w0 ren base μ h w μ' h' w' :=
  ⟨s.sub, s.new, s.ext, s.inv, ⟨s.fr.os, s.fr.tape, s.fr.output, s.fr.size, s.fr.block⟩⟩

theorem Inv.alloc {base : Nat} {μ : Mu} {h : Heap} {w : World} (I : Inv w0 ren μ h w) (hb : base ≤ h.length) (cs : List AV) (vs : List Value) (e : TypeId) (s : Nat) (hl : cs.length ≤ vs.length) (hr : RepL w0 ren μ cs (vs.take cs.length)) (h1 : ∀ c ∈ cs, c.one = true) :
    Step w0 ren base μ h w (μ.add h.length 0 ⟨w.heap.size, vs.length, s⟩) (h ++ [.cells 0 s cs]) (w.alloc (.cells vs.toArray e)) := by
  have hs := Mu.add_sub (I.none_at 0) ⟨w.heap.size, vs.length, s⟩
  refine I.step h.length hb hb hs (fun l' g' x hx => ?_) rfl rfl rfl (by simp) (fun g' x hx => ?_) (fun b hb' _ => Below.heap_alloc _ _ _ hb') (fun l' hne => ?_) (by simp) (by simp) ⟨fun g s' cs' x h2 h3 => ?_, fun g s' cs' g' x h2 h3 => ?_, fun es x h2 h3 => ?_, fun s' p x h2 h3 => ?_⟩
  · rcases Mu.add_new hx with h2 | ⟨rfl, rfl, rfl⟩
    · exact .inl h2
    · exact .inr ⟨rfl, .inl rfl⟩
  · rcases Mu.add_new hx with h2 | ⟨_, rfl, rfl⟩
    · rw [I.none_at] at h2; cases h2
    · simp
  · rcases Nat.lt_or_ge l' h.length with h2 | h2
    · rw [List.getElem?_append_left h2]
    · rw [List.getElem?_eq_none (by omega : h.length ≤ l'), List.getElem?_eq_none (by simp; omega)]
  · simp at h2
    obtain ⟨rfl, rfl, rfl⟩ := h2
    rcases Mu.add_new h3 with h4 | ⟨_, _, rfl⟩
    · rw [I.none_at] at h4; cases h4
    · exact ⟨rfl, vs.toArray, e, heap_alloc_new w _, by simp, by simpa using hl, by simpa using hr.mono hs, h1⟩
  · simp at h2
    obtain ⟨rfl, rfl, rfl⟩ := h2
    rcases Mu.add_new h3 with h4 | ⟨_, rfl, _⟩
    · rw [I.none_at] at h4; cases h4
    · exact Nat.le_refl _
  · simp at h2
  · simp at h2
end
end Go.AM
