import Derived.Test.YtfdbegdgedhhcaaGreatAmRep
import Derived.Laws.AppendOwn
import Derived.Laws.MakeOwn
import Derived.Deep.MidRow
set_option linter.all false
/- Memory: what is read, written, appended, as the abstract machine has it. -/
namespace Go.AM
open Go.RowKit
set_option linter.unusedVariables false
section
variable {w0 : World} {ren : Nat → Option Nat} {μ : Mu} {h : Heap} {w : World} {base : Nat}

/-- The world with one block's cells changed. -/
theorem heap_setRow_ne (w : World) (g : Nat) (cs : Array Value) (k : Nat) (hk : k ≠ g) : (w.setRow g cs).heap[k]? = w.heap[k]? := by
  simp only [World.setRow, Array.getElem?_modify]
  rw [if_neg (by omega)]
theorem size_setRow (w : World) (g : Nat) (cs : Array Value) : (w.setRow g cs).heap.size = w.heap.size := by simp [World.setRow]

/-- A store into a block: its generation stays. -/
theorem Inv.setCells (I : Inv w0 ren μ h w) {l g s : Nat} {cs cs' : List AV} (hb : base ≤ h.length) (hl : base ≤ l) (hh : h[l]? = some (.cells g s cs)) {x : Blk} (hx : μ l g = some x) {vs vs' : Array Value} {e : TypeId}
    (hv : w.heap[x.b]? = some (.cells vs e (0, 0))) (hsz : vs'.size = vs.size) (hsz' : vs.size = x.sz) (hxs : x.s = s) (hle : cs'.length ≤ vs'.size) (hr : RepL w0 ren μ cs' (vs'.toList.take cs'.length)) (h1 : ∀ c ∈ cs', c.one = true) :
    Step w0 ren base μ h w μ (h.set l (.cells g s cs')) (w.setRow x.b vs') := by
  have hlt : l < h.length := (List.getElem?_eq_some_iff.1 hh).1
  refine I.step l hl hb (.refl μ) (fun _ _ _ h => .inl h) rfl rfl rfl (by rw [size_setRow]; exact Nat.le_refl _) (fun g' y hy => by rw [size_setRow]; exact (I.fresh _ _ _ hy).2.1)
    (fun b hb' hne => heap_setRow_ne _ _ _ _ (fun e => hne g x hx e.symm)) (fun l' hne => by rw [List.getElem?_set_ne (Ne.symm hne)]) (by simp) (by simpa using hlt)
    ⟨fun g2 s2 cs2 y h2 h3 => ?_, fun g2 s2 cs2 g' y h2 h3 => ?_, fun es y h2 h3 => ?_, fun s' p y h2 h3 => ?_⟩
  · rw [List.getElem?_set_self hlt] at h2
    injection h2 with h2
    injection h2 with e1 e2 e3
    subst e1; subst e2; subst e3
    have := hx.symm.trans h3
    injection this with this
    subst this
    exact ⟨hxs, vs', e, setRow_heap w x.b vs vs' e (0, 0) hv, by omega, hle, hr, h1⟩
  · rw [List.getElem?_set_self hlt] at h2
    injection h2 with h2
    injection h2 with e1 e2 e3
    subst e1
    exact I.gens l g s cs g' y hh h3
  · rw [List.getElem?_set_self hlt] at h2; cases h2
  · rw [List.getElem?_set_self hlt] at h2; cases h2

theorem Inv.next_none (I : Inv w0 ren μ h w) {l g s : Nat} {cs : List AV} (hh : h[l]? = some (.cells g s cs)) : μ l (g + 1) = none := by
  cases hm : μ l (g + 1) with
  | none => rfl
  | some x => have := I.gens _ _ _ _ _ _ hh hm; omega

/-- An append in place: a new generation in the same block. -/
theorem Inv.grewIn (I : Inv w0 ren μ h w) {l g s : Nat} {cs cs' : List AV} (hb : base ≤ h.length) (hl : base ≤ l) (hh : h[l]? = some (.cells g s cs)) {x : Blk} (hx : μ l g = some x) {vs vs' : Array Value} {e : TypeId}
    (hv : w.heap[x.b]? = some (.cells vs e (0, 0))) (hsz : vs'.size = vs.size) (hsz' : vs.size = x.sz) (hxs : x.s = s) (hle : cs'.length ≤ vs'.size) (hr : RepL w0 ren μ cs' (vs'.toList.take cs'.length)) (h1 : ∀ c ∈ cs', c.one = true) :
    Step w0 ren base μ h w (μ.add l (g + 1) x) (h.set l (.cells (g + 1) s cs')) (w.setRow x.b vs') := by
  have hlt : l < h.length := (List.getElem?_eq_some_iff.1 hh).1
  have hs := Mu.add_sub (I.next_none hh) x
  refine I.step l hl hb hs (fun l' g' y hy => ?_) rfl rfl rfl (by rw [size_setRow]; exact Nat.le_refl _) (fun g' y hy => ?_)
    (fun b hb' hne => heap_setRow_ne _ _ _ _ (fun e => hne g x hx e.symm)) (fun l' hne => by rw [List.getElem?_set_ne (Ne.symm hne)]) (by simp) (by simpa using hlt)
    ⟨fun g2 s2 cs2 y h2 h3 => ?_, fun g2 s2 cs2 g' y h2 h3 => ?_, fun es y h2 h3 => ?_, fun s' p y h2 h3 => ?_⟩
  · rcases Mu.add_new hy with h2 | ⟨rfl, rfl, rfl⟩
    · exact .inl h2
    · exact .inr ⟨rfl, .inr ⟨g, y, hx, rfl⟩⟩
  · rw [size_setRow]
    rcases Mu.add_new hy with h2 | ⟨_, _, rfl⟩
    · exact (I.fresh _ _ _ h2).2.1
    · exact (I.fresh _ _ _ hx).2.1
  · rw [List.getElem?_set_self hlt] at h2
    injection h2 with h2
    injection h2 with e1 e2 e3
    subst e1; subst e2; subst e3
    rw [Mu.add_same] at h3
    injection h3 with h3
    subst h3
    exact ⟨hxs, vs', e, setRow_heap w x.b vs vs' e (0, 0) hv, by omega, hle, hr.mono hs, h1⟩
  · rw [List.getElem?_set_self hlt] at h2
    injection h2 with h2
    injection h2 with e1 e2 e3
    subst e1
    rcases Mu.add_new h3 with h4 | ⟨_, rfl, _⟩
    · have := I.gens l g s cs g' y hh h4; omega
    · exact Nat.le_refl _
  · rw [List.getElem?_set_self hlt] at h2; cases h2
  · rw [List.getElem?_set_self hlt] at h2; cases h2

/-- An append that finds no room: a new generation in a new block. -/
theorem Inv.grewOut (I : Inv w0 ren μ h w) {l g s : Nat} {cs cs' : List AV} (hb : base ≤ h.length) (hl : base ≤ l) (hh : h[l]? = some (.cells g s cs)) (vs : Array Value) (e : TypeId)
    (hle : cs'.length ≤ vs.size) (hr : RepL w0 ren μ cs' (vs.toList.take cs'.length)) (h1 : ∀ c ∈ cs', c.one = true) :
    Step w0 ren base μ h w (μ.add l (g + 1) ⟨w.heap.size, vs.size, s⟩) (h.set l (.cells (g + 1) s cs')) (w.alloc (.cells vs e)) := by
  have hlt : l < h.length := (List.getElem?_eq_some_iff.1 hh).1
  have hs := Mu.add_sub (I.next_none hh) ⟨w.heap.size, vs.size, s⟩
  refine I.step l hl hb hs (fun l' g' y hy => ?_) rfl rfl rfl (by simp) (fun g' y hy => ?_)
    (fun b hb' hne => Below.heap_alloc _ _ _ hb') (fun l' hne => by rw [List.getElem?_set_ne (Ne.symm hne)]) (by simp) (by simpa using hlt)
    ⟨fun g2 s2 cs2 y h2 h3 => ?_, fun g2 s2 cs2 g' y h2 h3 => ?_, fun es y h2 h3 => ?_, fun s' p y h2 h3 => ?_⟩
  · rcases Mu.add_new hy with h2 | ⟨rfl, rfl, rfl⟩
    · exact .inl h2
    · exact .inr ⟨rfl, .inl rfl⟩
  · rcases Mu.add_new hy with h2 | ⟨_, _, rfl⟩
    · have := (I.fresh _ _ _ h2).2.1; simp; omega
    · simp
  · rw [List.getElem?_set_self hlt] at h2
    injection h2 with h2
    injection h2 with e1 e2 e3
    subst e1; subst e2; subst e3
    rw [Mu.add_same] at h3
    injection h3 with h3
    subst h3
    exact ⟨rfl, vs, e, heap_alloc_new w _, rfl, hle, hr.mono hs, h1⟩
  · rw [List.getElem?_set_self hlt] at h2
    injection h2 with h2
    injection h2 with e1 e2 e3
    subst e1
    rcases Mu.add_new h3 with h4 | ⟨_, rfl, _⟩
    · have := I.gens l g s cs g' y hh h4; omega
    · exact Nat.le_refl _
  · rw [List.getElem?_set_self hlt] at h2; cases h2
  · rw [List.getElem?_set_self hlt] at h2; cases h2

/-- A map, an iterator: made, written. -/
theorem Inv.allocObj (I : Inv w0 ren μ h w) (hb : base ≤ h.length) (o : AObj) (ob : Obj) (ho : match o with | .cells .. => False | .map es => ∃ ms c, ob = .map ms c ∧ RepM w0 ren μ es ms.toList | .iter s p => ob = .stringIter s p) :
    Step w0 ren base μ h w (μ.add h.length 0 ⟨w.heap.size, 0, 0⟩) (h ++ [o]) (w.alloc ob) := by
  have hs := Mu.add_sub (I.none_at 0) ⟨w.heap.size, 0, 0⟩
  refine I.step h.length hb hb hs (fun l' g' x hx => ?_) rfl rfl rfl (by simp) (fun g' x hx => ?_) (fun b hb' _ => Below.heap_alloc _ _ _ hb') (fun l' hne => ?_) (by simp) (by simp) ⟨fun g s' cs' x h2 h3 => ?_, fun g s' cs' g' x h2 h3 => ?_, fun es x h2 h3 => ?_, fun s' p x h2 h3 => ?_⟩
  · rcases Mu.add_new hx with h2 | ⟨rfl, rfl, rfl⟩
    · exact .inl h2
    · exact .inr ⟨rfl, .inl rfl⟩
  · rcases Mu.add_new hx with h2 | ⟨_, rfl, rfl⟩
    · rw [I.none_at] at h2; cases h2
    · simp
  · rcases Nat.lt_or_ge l' h.length with h2 | h2
    · rw [List.getElem?_append_left h2]
    · rw [List.getElem?_eq_none (by omega : h.length ≤ l'), List.getElem?_eq_none (by simp; omega)]
  · simp at h2; subst h2; exact ho.elim
  · simp at h2; subst h2; exact ho.elim
  · simp at h2; subst h2
    obtain ⟨ms, c, rfl, hm⟩ := ho
    rcases Mu.add_new h3 with h4 | ⟨_, _, rfl⟩
    · rw [I.none_at] at h4; cases h4
    · exact ⟨ms, c, heap_alloc_new w _, hm.mono hs⟩
  · simp at h2; subst h2
    subst ho
    rcases Mu.add_new h3 with h4 | ⟨_, _, rfl⟩
    · rw [I.none_at] at h4; cases h4
    · exact heap_alloc_new w _
/-- The world with one block that is no row changed. -/
def setObjW (w : World) (b : Nat) (o : Obj) : World := { w with heap := w.heap.setIfInBounds b o }
theorem Inv.setObj (I : Inv w0 ren μ h w) (hb : base ≤ h.length) {l : Nat} (hl : base ≤ l) {o o' : AObj} (hh : h[l]? = some o) {x : Blk} (hx : μ l 0 = some x) (ob : Obj)
    (ho : match o' with | .cells .. => False | .map es => ∃ ms c, ob = .map ms c ∧ RepM w0 ren μ es ms.toList | .iter s p => ob = .stringIter s p) :
    Step w0 ren base μ h w μ (h.set l o') (setObjW w x.b ob) := by
  have hlt : l < h.length := (List.getElem?_eq_some_iff.1 hh).1
  have hxb := (I.fresh _ _ _ hx).2.1
  have hsame : (setObjW w x.b ob).heap[x.b]? = some ob := by simp [setObjW, hxb]
  refine I.step l hl hb (.refl μ) (fun _ _ _ h => .inl h) rfl rfl rfl (by simp [setObjW]) (fun g' y hy => by simpa [setObjW] using (I.fresh _ _ _ hy).2.1)
    (fun b hb' hne => ?_) (fun l' hne => by rw [List.getElem?_set_ne (Ne.symm hne)]) (by simp) (by simpa using hlt)
    ⟨fun g2 s2 cs2 y h2 h3 => ?_, fun g2 s2 cs2 g' y h2 h3 => ?_, fun es y h2 h3 => ?_, fun s' p y h2 h3 => ?_⟩
  · simp only [setObjW]
    rw [Array.getElem?_setIfInBounds_ne (hne 0 x hx)]
  · rw [List.getElem?_set_self hlt] at h2; injection h2 with h2; subst h2; exact ho.elim
  · rw [List.getElem?_set_self hlt] at h2; injection h2 with h2; subst h2; exact ho.elim
  · rw [List.getElem?_set_self hlt] at h2; injection h2 with h2; subst h2
    obtain ⟨ms, c, rfl, hm⟩ := ho
    have := hx.symm.trans h3
    injection this with this
    subst this
    exact ⟨ms, c, hsame, hm⟩
  · rw [List.getElem?_set_self hlt] at h2; injection h2 with h2; subst h2
    subst ho
    have := hx.symm.trans h3
    injection this with this
    subst this
    exact hsame

/-- A block's cells, as the abstract machine reads them. -/
theorem blockK_rep (I : Inv w0 ren μ h w) {l g : Nat} {x : Blk} (hx : μ l g = some x) {R : Type} {K : Nat → List AV → Option R} {r : R} (H : blockK h l g K = some r) :
    ∃ cs vs e, h[l]? = some (.cells g x.s cs) ∧ K x.s cs = some r ∧ w.heap[x.b]? = some (.cells vs e (0, 0)) ∧ vs.size = x.sz ∧ cs.length ≤ vs.size ∧ RepL w0 ren μ cs (vs.toList.take cs.length) ∧ ∀ c ∈ cs, c.one = true := by
  unfold blockK at H
  split at H
  · rename_i g' s cs hh
    split at H
    · rename_i hg
      subst hg
      obtain ⟨rfl, vs, e, h1, h2, h3, h4, h5⟩ := I.cells _ _ _ _ _ hh hx
      exact ⟨cs, vs, e, hh, H, h1, h2, h3, h4, h5⟩
    · cases H
  · cases H
theorem cell_row {w : World} {b : Nat} {vs : Array Value} {e : TypeId} {fr : Nat × Nat} (hv : w.heap[b]? = some (.cells vs e fr)) (i : Nat) : w.cell? ⟨b, i, none⟩ = vs[i]? := by simp [World.cell?, hv]

theorem take_getElem? {α : Type} {l : List α} {n i : Nat} (hi : i < n) : (l.take n)[i]? = l[i]? := by rw [List.getElem?_take, if_pos hi]

/-- Cells from a pointer on. -/
theorem readK_rep (I : Inv w0 ren μ h w) {p : AV} {v : Value} (hp : RepV w0 ren μ p v) {n : Nat} {R : Type} {K : List AV → Option R} {r : R} (H : readK h p n K = some r) :
    ∃ cs us b o, K cs = some r ∧ v = .pointer (some ⟨b, o, none⟩) ∧ cs.length = n ∧ RepL w0 ren μ cs us ∧ w.rangeAt b o us ∧ ∀ c ∈ cs, c.one = true := by
  unfold readK at H
  split at H
  · rename_i l g off
    cases hp with
    | ptr _ _ _ x hm =>
      obtain ⟨cs, vs, e, hh, hK, hv, hsz, hle, hr, h1⟩ := blockK_rep I hm H
      split at hK
      · rename_i hn
        refine ⟨_, ((vs.toList.take cs.length).drop off).take n, x.b, off, hK, rfl, by simp; omega, (hr.drop off).take n, fun j u hu => ?_, fun c hc => h1 c (List.mem_of_mem_drop (List.mem_of_mem_take hc))⟩
        rw [cell_row hv]
        have hj : j < n := by
          have := (List.getElem?_eq_some_iff.1 hu).1
          simp at this; omega
        rw [take_getElem? hj, List.getElem?_drop, take_getElem? (by omega)] at hu
        simpa using hu
      · cases hK
  · rename_i cs off
    cases hp with
    | iptr _ _ b o vs hb hc hr h1 =>
      split at H
      · rename_i hn
        refine ⟨_, ((List.range cs.length).map vs |>.drop off).take n, b, o + off, H, rfl, by simp; omega, ?_, fun j u hu => ?_, fun c hc => h1 c (List.mem_of_mem_drop (List.mem_of_mem_take hc))⟩
        · have hL : RepL w0 ren μ cs ((List.range cs.length).map vs) := ⟨by simp, fun i c u hc' hu => by
            have hi : i < cs.length := (List.getElem?_eq_some_iff.1 hc').1
            simp [hi] at hu
            subst hu
            exact hr i c hc'⟩
          exact (hL.drop off).take n
        · have hj : j < n := by
            have := (List.getElem?_eq_some_iff.1 hu).1
            simp at this; omega
          rw [take_getElem? hj, List.getElem?_drop] at hu
          have hi : off + j < cs.length := by omega
          simp [hi] at hu
          rw [I.below.cell (p := ⟨b, o + off + j, none⟩) hb, Nat.add_assoc, hc _ hi, hu]
      · cases H
  · cases H

/-- A slice's cells. -/
theorem sliceK_rep (I : Inv w0 ren μ h w) {s : Nat} {a : AV} {v : Value} (hv : RepV w0 ren μ a v) {R : Type} {K : List AV → Option R} {r : R} (H : sliceK h s a K = some r) :
    ∃ cs us A n cap, K cs = some r ∧ v = .slice A n cap ∧ cs.length = n * s ∧ RepL w0 ren μ cs us ∧ (∀ c ∈ cs, c.one = true) ∧ (A = none → cs = []) ∧
      ∀ b, A = some b → ∀ j u, us[j]? = some u → w.cell? (b.add j) = some u := by
  unfold sliceK at H
  split at H
  · cases hv
    exact ⟨[], [], none, 0, 0, H, rfl, by simp, .nil, by simp, fun _ => rfl, fun b hb => by cases hb⟩
  · rename_i n cs
    cases hv with
    | imm _ _ a cap vs hn ha hc hr h1 =>
      split at H
      · rename_i hl
        refine ⟨cs, (List.range cs.length).map vs, some a, n, cap, H, rfl, hl.symm, ⟨by simp, fun i c u hc' hu => ?_⟩, h1, by simp, fun b hb j u hu => ?_⟩
        · have hi : i < cs.length := (List.getElem?_eq_some_iff.1 hc').1
          simp [hi] at hu
          subst hu
          exact hr i c hc'
        · injection hb with hb
          subst hb
          have hj : j < cs.length := by have := (List.getElem?_eq_some_iff.1 hu).1; simpa using this
          simp [hj] at hu
          obtain ⟨hsp, hblk⟩ := ha (.inr (by omega))
          have hadd : a.add j = ⟨a.block, a.off + j, none⟩ := by
            cases a with
            | mk ab ao asp => simp at hsp; subst hsp; exact Addr.add_mid ab ao j
          rw [hadd, I.below.cell (p := ⟨a.block, a.off + j, none⟩) hblk, hc _ hj, hu]
      · cases H
  · rename_i l g off n
    cases hv with
    | ref _ _ _ _ b o cap sz s' hm hn ho =>
      obtain ⟨cs, vs, e, hh, hK, hvv, hsz, hle, hr, h1⟩ := blockK_rep I hm H
      dsimp only at hK hvv hsz
      split at hK
      · rename_i hs
        obtain ⟨rfl, hs⟩ := hs
        refine ⟨_, ((vs.toList.take cs.length).drop off).take (n * s'), some ⟨b, o, none⟩, n, cap, hK, rfl, by simp; omega, (hr.drop off).take _, fun c hc => h1 c (List.mem_of_mem_drop (List.mem_of_mem_take hc)), by simp, fun b' hb' j u hu => ?_⟩
        injection hb' with hb'
        subst hb'
        have hj : j < n * s' := by
          have := (List.getElem?_eq_some_iff.1 hu).1
          simp at this; omega
        rw [Addr.add_mid, cell_row hvv]
        rw [take_getElem? hj, List.getElem?_drop, take_getElem? (by omega)] at hu
        rcases ho with ⟨rfl, _⟩ | ⟨rfl, _⟩
        · simpa using hu
        · simp at hj
      · cases hK
  · cases H

theorem lenK_rep {a : AV} {v : Value} (hv : RepV w0 ren μ a v) {R : Type} {K : Nat → Option R} {r : R} (H : lenK a K = some r) :
    ∃ n A cap, K n = some r ∧ v = .slice A n cap := by
  unfold lenK at H
  cases hv <;> first | cases H | exact ⟨_, _, _, H, rfl⟩
theorem intK_rep {a : AV} {v : Value} (hv : RepV w0 ren μ a v) {R : Type} {K : IntKind → Int → Option R} {r : R} (H : intK a K = some r) : ∃ k n, a = .int k n ∧ v = .int k n ∧ K k n = some r := by
  unfold intK at H
  cases hv <;> first | cases H | exact ⟨_, _, rfl, rfl, H⟩
theorem boolK_rep {a : AV} {v : Value} (hv : RepV w0 ren μ a v) {R : Type} {K : Bool → Option R} {r : R} (H : boolK a K = some r) : ∃ b, a = .bool b ∧ v = .bool b ∧ K b = some r := by
  unfold boolK at H
  cases hv <;> first | cases H | exact ⟨_, rfl, rfl, H⟩

-- What a value is known to be tells nothing new.
mutual
theorem castK_same {R : Type} : ∀ (t : Ty) (a : AV) (K : AV → Option R) (r : R), castK t a K = some r → K a = some r
  | .any, a, K, r, H => H
  | .int k, a, K, r, H => by
      simp only [castK] at H
      split at H
      · split at H
        · rename_i hk; subst hk; exact H
        · cases H
      · cases H
  | .bool, a, K, r, H => by simp only [castK] at H; split at H <;> first | exact H | cases H
  | .str, a, K, r, H => by simp only [castK] at H; split at H <;> first | exact H | cases H
  | .agg ts, a, K, r, H => by
      simp only [castK] at H
      split at H
      · exact castL_same ts _ _ _ H
      · cases H
  | .tup ts, a, K, r, H => by
      simp only [castK] at H
      split at H
      · exact castL_same ts _ _ _ H
      · cases H
theorem castL_same {R : Type} : ∀ (ts : List Ty) (cs : List AV) (K : List AV → Option R) (r : R), castL ts cs K = some r → K cs = some r
  | [], cs, K, r, H => by
      simp only [castL] at H
      split at H
      · exact H
      · cases H
  | t :: ts, cs, K, r, H => by
      simp only [castL] at H
      split at H
      · cases H
      · have h1 := castK_same t _ _ _ H
        exact castL_same ts _ (fun cs => K (_ :: cs)) _ h1
end
/-- The slots that are told are as they were, the others undefined. -/
theorem castEnv_same {R : Type} : ∀ (l : List (Nat × Ty)) (e : Env) (K : Env → Option R) (r : R), castEnv l e K = some r → ∃ e', K e' = some r ∧ ∀ t, e' t = e t ∨ e' t = .undef
  | [], e, K, r, H => ⟨_, H, fun _ => .inr rfl⟩
  | x :: l, e, K, r, H => by
      simp only [castEnv] at H
      have h1 := castK_same _ _ _ _ H
      obtain ⟨e', h2, h3⟩ := castEnv_same l e _ r h1
      refine ⟨_, h2, fun t => ?_⟩
      by_cases ht : t = x.1
      · subst ht; simp
      · simp only [if_neg ht]
        exact h3 t
end
end Go.AM
