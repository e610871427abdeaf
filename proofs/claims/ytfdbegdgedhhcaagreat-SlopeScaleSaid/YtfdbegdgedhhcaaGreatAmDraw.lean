import Derived.Test.YtfdbegdgedhhcaaGreatAmAny
set_option linter.all false
/- A region that draws its order. -/
namespace Go.AM
open Go.RowKit
set_option linter.unusedVariables false
set_option linter.unusedSectionVars false

theorem waits_getD {ops : Array Oper} {j : Nat} {o : Oper} (ho : ops[j]? = some o) : (waits ops.toList).getD j [] = (o.after.toList.filter fun e => Region.binds .any e).map (·.on) := by
  have : ops.toList[j]? = some o := by simpa using ho
  simp [waits, List.getD_eq_getElem?_getD, this]
theorem mem_waits {ops : Array Oper} {j i : Nat} {o : Oper} (ho : ops[j]? = some o) : i ∈ (waits ops.toList).getD j [] ↔ ∃ e ∈ o.after, Region.binds .any e = true ∧ e.on = i := by
  rw [waits_getD ho]
  simp only [List.mem_map, List.mem_filter, Array.mem_toList_iff]
  constructor
  · rintro ⟨e, ⟨h1, h2⟩, h3⟩; exact ⟨e, h1, h2, h3⟩
  · rintro ⟨e, h1, h2, h3⟩; exact ⟨e, ⟨h1, h2⟩, h3⟩
theorem backward_spec : ∀ (w : List (List Nat)) (k : Nat), backward k w = true → ∀ (j : Nat), ∀ i ∈ w.getD j [], i < k + j
  | [], k, _, j, i, hi => by simp at hi
  | l :: r, k, h, j, i, hi => by
      simp only [backward, Bool.and_eq_true, List.all_eq_true, decide_eq_true_eq] at h
      cases j with
      | zero => have := h.1 i (by simpa using hi); omega
      | succ j => have := backward_spec r (k + 1) h.2 j i (by simpa using hi); omega
theorem apartFrom_spec {b : List (List Nat)} {i : Nat} {x : GOper} : ∀ (l : List GOper) (j : Nat), apartFrom b i x j l = true → ∀ (k : Nat) (y : GOper), l[k]? = some y → apartOps b i (j + k) x y = true
  | [], j, _, k, y, h => by simp at h
  | z :: r, j, h, k, y, hk => by
      simp only [apartFrom, Bool.and_eq_true] at h
      cases k with
      | zero => simp at hk; subst hk; exact h.1
      | succ k => have := apartFrom_spec r (j + 1) h.2 k y (by simpa using hk); rwa [show j + 1 + k = j + (k + 1) by omega] at this
theorem apartAll_spec {b : List (List Nat)} : ∀ (l : List GOper) (k : Nat), apartAll b k l = true → ∀ (i j : Nat) (x y : GOper), l[i]? = some x → l[j]? = some y → i < j → apartOps b (k + i) (k + j) x y = true
  | [], k, _, i, j, x, y, h, _, _ => by simp at h
  | z :: r, k, h, i, j, x, y, hi, hj, hij => by
      simp only [apartAll, Bool.and_eq_true] at h
      cases j with
      | zero => omega
      | succ j =>
        cases i with
        | zero =>
          simp at hi; subst hi
          have := apartFrom_spec r (k + 1) h.1 j y (by simpa using hj)
          rwa [show k + 1 + j = k + (j + 1) by omega] at this
        | succ i =>
          have := apartAll_spec r (k + 1) h.2 i j x y (by simpa using hi) (by simpa using hj) (by omega)
          rwa [show k + 1 + i = k + (i + 1) by omega, show k + 1 + j = k + (j + 1) by omega] at this

section
variable {w0 : World} {ren : Nat → Option Nat} {P : Program} {base : Nat} {C : CallT} {ops : Array Oper} {gs : List GOper} {es : Nat → Env} {hs : Nat → Heap} {vs : Nat → AV} {n : Nat} {μ0 : Mu} {we : World}

/-- What holds when some operations have been carried out. -/
structure J (w0 : World) (ren : Nat → Option Nat) (base : Nat) (ops : Array Oper) (gs : List GOper) (es : Nat → Env) (hs : Nat → Heap) (n : Nat) (μ0 : Mu) (we : World) (S : Nat → Prop) (μ : Mu) (a : Act) (w : World) : Prop where
  closed : ∀ j o, ops[j]? = some o → S j → ∀ e ∈ o.after, Region.binds .any e = true → S e.on
  tm : a.tmps.size = n
  df : a.defers = []
  slots : ∀ t k, k ≤ gs.length → (∀ i g, gs[i]? = some g → g.dst = some t → (S i ↔ i < k)) → RepV w0 ren (rst μ (hs k).length) (es k t) (a.tmps.getD t undef)
  heap : ∀ k, k ≤ gs.length → (∀ i g, gs[i]? = some g → g.op.quiet = false → (S i ↔ i < k)) → Inv w0 ren (rst μ (hs k).length) (hs k) w
  own : ∀ l g x, μ l g = some x → ∀ i, i < gs.length → ¬ S i → ¬ ((hs i).length ≤ l ∧ l < (hs (i + 1)).length)
  bound : ∀ l g x, μ l g = some x → l < (hs gs.length).length
  inj : ∀ l g x l' g' x', μ l g = some x → μ l' g' = some x' → x.b = x'.b → l = l'
  lt : ∀ l g x, μ l g = some x → x.b < w.heap.size
  mv : Mv base μ0 we μ w

variable (hG : FnsOk P ren) (hC : CallOk P w0 ren C) (hX : CExt C) (hok : okGOpers P ren n ops gs ops.toList = true) (hap : apartAll (waits ops.toList) 0 gs = true) (hbk : backward 0 (waits ops.toList) = true) (T : Tr base C gs es hs vs)

omit hG hC hX T hap hbk in
theorem okGOpers_at : ∀ {gs : List GOper} {os : List Oper}, okGOpers P ren n ops gs os = true → gs.length = os.length ∧ ∀ (i : Nat) (g : GOper) (o : Oper), gs[i]? = some g → os[i]? = some o → okGOper P ren n ops g o = true
  | [], [], _ => ⟨rfl, fun i g o h => by simp at h⟩
  | g :: gs, o :: os, h => by
      simp only [okGOpers, Bool.and_eq_true] at h
      obtain ⟨h1, h2⟩ := okGOpers_at h.2
      refine ⟨by simp [h1], fun i g' o' hg ho => ?_⟩
      cases i with
      | zero => simp at hg ho; subst hg; subst ho; exact h.1
      | succ i => exact h2 i g' o' (by simpa using hg) (by simpa using ho)
  | [], _ :: _, h => by simp [okGOpers] at h
  | _ :: _, [], h => by simp [okGOpers] at h

include hap in
/-- Two operations, i ahead of j in the text, of which the later one has come first: they don't touch each other. -/
theorem apart_of {i j : Nat} {x y : GOper} (hx : gs[i]? = some x) (hy : gs[j]? = some y) (hij : i < j) (hno : ahead (waits ops.toList) i j = false) :
    (∀ d, x.dst = some d → d ∉ y.reads ∧ y.dst ≠ some d) ∧ (∀ d, y.dst = some d → d ∉ x.reads) ∧ (x.op.still = true ∨ y.op.still = true ∨ (x.op.quiet = true ∧ y.op.quiet = true)) := by
  have := apartAll_spec gs 0 hap i j x y hx hy hij
  simp only [Nat.zero_add, apartOps, hno, Bool.or_false, Bool.and_eq_true, Bool.or_eq_true] at this
  obtain ⟨⟨h1, h2⟩, h3⟩ := this
  refine ⟨fun d hd => ?_, fun d hd => ?_, ?_⟩
  · rw [hd] at h1; simpa using h1
  · rw [hd] at h2; simpa using h2
  · rcases h3 with (h3 | h3) | h3
    · exact .inl h3
    · exact .inr (.inl h3)
    · exact .inr (.inr h3)
/-- What is carried out: all that it waits for has been. -/
theorem closed_ahead {S : Nat → Prop} (hcl : ∀ j o, ops[j]? = some o → S j → ∀ e ∈ o.after, Region.binds .any e = true → S e.on) {i j : Nat} (hj : ∀ o, ops[j]? = some o → ∀ e ∈ o.after, Region.binds .any e = true → S e.on) (h : ahead (waits ops.toList) i j = true) : S i := by
  have direct : ∀ k, (∀ o, ops[k]? = some o → ∀ e ∈ o.after, Region.binds .any e = true → S e.on) → ∀ i ∈ (waits ops.toList).getD k [], S i := fun k hk i hi => by
    cases ho : ops[k]? with
    | none =>
      have hn : ops.toList[k]? = none := by simpa using ho
      simp only [waits, List.getD_eq_getElem?_getD, List.getElem?_map, hn] at hi
      simp at hi
    | some o =>
      obtain ⟨e, h1, h2, h3⟩ := (mem_waits ho).1 hi
      exact h3 ▸ hk o ho e h1 h2
  have key : ∀ n j, (∀ o, ops[j]? = some o → ∀ e ∈ o.after, Region.binds .any e = true → S e.on) → aheadN (waits ops.toList) n i j = true → S i := fun n => by
    induction n with
    | zero => exact fun j hj h => direct j hj i (by simpa [aheadN] using h)
    | succ n ih =>
      intro j hj h
      simp only [aheadN, Bool.or_eq_true, List.any_eq_true, List.contains_iff_mem] at h
      rcases h with h | ⟨k, hk, h⟩
      · exact direct j hj i h
      · exact ih k (fun o ho => hcl k o ho (direct j hj k hk)) h
  exact key 4 j hj h

include T hX hok in
/-- One that needs no memory leaves the heap alone. -/
theorem still_len {i : Nat} {g : GOper} {o : Oper} (hg : gs[i]? = some g) (ho : ops[i]? = some o) (hs' : g.op.still = true) : (hs (i + 1)).length = (hs i).length := by
  have h := (T.at_ i g hg).1
  unfold stepGK at h
  have key : ∀ (v : AV) (h' : Heap), (execK base C g.op (es i) (hs i) fun v h => some (v, h)) = some (v, h') → h' = hs i := fun v h' hx => still_heap hs' hx
  split at h
  · rw [key _ _ h]
  · split at h
    · split at h
      · rw [key _ _ h]
      · simp at h; rw [← h.2]
    · simp at h; rw [← h.2]
    · cases h
include hX hok hap T in
/-- One operation more, that needs memory. -/
theorem J.next {S : Nat → Prop} {μ : Mu} {a : Act} {w : World} (I : J w0 ren base ops gs es hs n μ0 we S μ a w) {j : Nat} {g : GOper} {o : Oper} (hg : gs[j]? = some g) (ho : ops[j]? = some o) (hns : g.op.still = false) (hj : ¬ S j)
    (hr : ∀ e ∈ o.after, Region.binds .any e = true → S e.on) {v' : Value} {w1 : World} {μ1 : Mu} (hv : RepV w0 ren μ1 (vs j) v')
    (St : Step w0 ren (if g.op.quiet = true then (hs j).length else base) (rst μ (hs j).length) (hs j) w μ1 (hs (j + 1)) w1) : ∃ μ2, J w0 ren base ops gs es hs n μ0 we (fun i => S i ∨ i = j) μ2 (a.put o.dst v') w1 := by
  have hjN : j < gs.length := (List.getElem?_eq_some_iff.1 hg).1
  obtain ⟨hd1, hd2⟩ := okGOper_dst ((okGOpers_at hok).2 j g o hg (by simpa using ho))
  have n12 : (hs j).length ≤ (hs (j + 1)).length := T.len hX (by omega) (by omega)
  have hbj := T.base_le hX j (by omega)
  have hfl : base ≤ (if g.op.quiet = true then (hs j).length else base) := by split <;> omega
  have ready : ∀ o', ops[j]? = some o' → ∀ e ∈ o'.after, Region.binds .any e = true → S e.on := fun o' ho' => by rw [ho] at ho'; injection ho' with ho'; subst ho'; exact hr
  -- orders
  have later : ∀ i, S i → ahead (waits ops.toList) j i = false := fun i hi => by
    cases h : ahead (waits ops.toList) j i with
    | false => rfl
    | true => exact absurd (closed_ahead I.closed (fun o' ho' => I.closed i o' ho' hi) h) hj
  have earlier : ∀ i, ¬ S i → ahead (waits ops.toList) i j = false := fun i hi => by
    cases h : ahead (waits ops.toList) i j with
    | false => rfl
    | true => exact absurd (closed_ahead I.closed ready h) hi
  -- what is told of old places
  have old1 : ∀ l g' x, μ1 l g' = some x → rst μ (hs j).length l g' = some x ∨ (base ≤ l ∧ (w.heap.size ≤ x.b ∨ ∃ g0 x0, μ l g0 = some x0 ∧ x0.b = x.b)) := fun l g' x hx => by
    rcases St.new l g' x hx with h | ⟨h1, h2⟩
    · exact .inl h
    · refine .inr ⟨Nat.le_trans hfl h1, h2.imp id ?_⟩
      rintro ⟨g0, x0, h3, h4⟩
      exact ⟨g0, x0, rst_sub _ _ _ _ _ h3, h4⟩
  have noGap : ∀ l g' x, μ l g' = some x → ¬ ((hs j).length ≤ l ∧ l < (hs (j + 1)).length) := fun l g' x hx => I.own l g' x hx j hjN hj
  let μ2 : Mu := fun l g' => if l < (hs (j + 1)).length then μ1 l g' else μ l g'
  have lo : ∀ {l : Nat}, l < (hs (j + 1)).length → ∀ g', μ2 l g' = μ1 l g' := fun hl g' => if_pos hl
  have hi : ∀ {l : Nat}, ¬ l < (hs (j + 1)).length → ∀ g', μ2 l g' = μ l g' := fun hl g' => if_neg hl
  have sub2 : Sub μ μ2 := fun l g' x hx => by
    by_cases hl : l < (hs (j + 1)).length
    · rw [lo hl]
      have : l < (hs j).length := by have := noGap l g' x hx; omega
      exact St.sub _ _ _ (rst_some.2 ⟨this, hx⟩)
    · rw [hi hl]; exact hx
  have sub1 : ∀ k, j + 1 ≤ k → k ≤ gs.length → Sub μ1 (rst μ2 (hs k).length) := fun k hk hkN l g' x hx => by
    have hl := (St.inv.fresh _ _ _ hx).2.2
    have := T.len hX hk hkN
    exact rst_some.2 ⟨by omega, by rw [lo hl]; exact hx⟩
  have mv2 : Mv base μ w μ2 w1 := by
    refine ⟨sub2, fun l g' x hx => ?_, ⟨St.fr.os, St.fr.tape, St.fr.output, St.fr.size, fun b hb hno => St.fr.block b hb fun l g' x hl hx => hno l g' x (Nat.le_trans hfl hl) (rst_sub _ _ _ _ _ hx)⟩⟩
    by_cases hl : l < (hs (j + 1)).length
    · rw [lo hl] at hx
      rcases old1 l g' x hx with h | h
      · exact .inl (rst_sub _ _ _ _ _ h)
      · exact .inr h
    · rw [hi hl] at hx; exact .inl hx
  have inj2 : ∀ l g x l' g' x', μ2 l g = some x → μ2 l' g' = some x' → x.b = x'.b → l = l' := by
    have mixed : ∀ l g x l' g' x', μ1 l g = some x → μ l' g' = some x' → x.b = x'.b → l = l' := fun l g x l' g' x' h1 h2 e => by
      rcases old1 l g x h1 with h | ⟨_, h⟩
      · exact I.inj _ _ _ _ _ _ (rst_sub _ _ _ _ _ h) h2 e
      · rcases h with h | ⟨g0, x0, h3, h4⟩
        · have := I.lt _ _ _ h2; omega
        · exact I.inj _ _ _ _ _ _ h3 h2 (h4.trans e)
    intro l g x l' g' x' h1 h2 e
    by_cases hl : l < (hs (j + 1)).length
    · rw [lo hl] at h1
      by_cases hl' : l' < (hs (j + 1)).length
      · rw [lo hl'] at h2; exact St.inv.inj _ _ _ _ _ _ h1 h2 e
      · rw [hi hl'] at h2; exact mixed _ _ _ _ _ _ h1 h2 e
    · rw [hi hl] at h1
      by_cases hl' : l' < (hs (j + 1)).length
      · rw [lo hl'] at h2; exact (mixed _ _ _ _ _ _ h2 h1 e.symm).symm
      · rw [hi hl'] at h2; exact I.inj _ _ _ _ _ _ h1 h2 e
  have lt2 : ∀ l g x, μ2 l g = some x → x.b < w1.heap.size := fun l g' x hx => by
    by_cases hl : l < (hs (j + 1)).length
    · rw [lo hl] at hx; exact (St.inv.fresh _ _ _ hx).2.1
    · rw [hi hl] at hx; exact Nat.lt_of_lt_of_le (I.lt _ _ _ hx) St.fr.size
  -- one that writes and comes later has not been ahead of it
  have noCross : ∀ i g', gs[i]? = some g' → j + 1 ≤ i → S i → g'.op.quiet = true := fun i g' h3 h1 hS => by
    rcases (apart_of hap hg h3 (by omega) (later i hS)).2.2 with h | h | h
    · rw [hns] at h; cases h
    · cases hgo : g'.op <;> simp [hgo, AOp.still, AOp.quiet] at h ⊢
    · exact h.2
  -- where one writes, all that needs memory and has been lies ahead of it
  have allBelow : g.op.quiet = false → ∀ l g' x, μ l g' = some x → l < (hs j).length := fun hq l g' x hx => by
    rcases Nat.lt_or_ge l (hs j).length with h | h
    · exact h
    · have hl2 : (hs (j + 1)).length ≤ l := by have := noGap l g' x hx; omega
      obtain ⟨i, h1, h2, h3, h4⟩ := Tr.find (gs := gs) (hs := hs) hjN (Nat.le_refl _) hl2 (I.bound l g' x hx)
      have hgi : gs[i]? = some gs[i] := List.getElem?_eq_getElem h2
      by_cases hS : S i
      · rcases (apart_of hap hg hgi (by omega) (later i hS)).2.2 with h5 | h5 | h5
        · rw [hns] at h5; cases h5
        · have := still_len (T := T) (hX := hX) (hok := hok) hgi (by simpa using (List.getElem?_eq_getElem (by rw [← (okGOpers_at hok).1]; exact h2) : ops.toList[i]? = some _)) h5
          omega
        · rw [hq] at h5; cases h5.1
      · exact absurd ⟨h3, h4⟩ (I.own l g' x hx i h2 hS)
  refine ⟨μ2, ⟨?_, ?_, ?_, ?_, ?_, ?_, ?_, inj2, lt2, I.mv.trans mv2⟩⟩
  · intro i o' ho' hi e he hb
    rcases hi with hi | rfl
    · exact .inl (I.closed i o' ho' hi e he hb)
    · exact .inl (ready o' ho' e he hb)
  · cases o.dst <;> simp [Act.put, I.tm]
  · cases o.dst <;> simp [Act.put, I.df]
  · -- slots
    intro t k hk hsep
    rw [put_getD a o.dst v' n I.tm (fun d hd => hd2 d (hd1 ▸ hd)) t]
    by_cases hdt : o.dst = some t
    · rw [if_pos hdt]
      have hjk : j < k := (hsep j g hg (hd1.trans hdt)).1 (.inr rfl)
      have : es k t = es (j + 1) t := T.slot hjk hk fun i g' h1 h2 h3 h4 => by
        have hS : S i := by
          rcases (hsep i g' h3 h4).2 h2 with h | h
          · exact h
          · omega
        exact ((apart_of hap hg h3 (by omega) (later i hS)).1 t (hd1.trans hdt)).2 h4
      rw [this, (T.at_ j g hg).2, hd1, hdt]
      have : (es j).put (some t) (vs j) t = vs j := by simp [Env.put]
      rw [this]
      exact hv.mono (sub1 k hjk hk)
    · rw [if_neg hdt]
      have hsep' : ∀ i g', gs[i]? = some g' → g'.dst = some t → (S i ↔ i < k) := fun i g' h3 h4 => by
        have hne : i ≠ j := fun e => by subst e; rw [hg] at h3; injection h3 with h3; subst h3; exact hdt (hd1 ▸ h4)
        have := hsep i g' h3 h4
        constructor
        · intro h; exact this.1 (.inl h)
        · intro h; exact (this.2 h).resolve_right hne
      exact (I.slots t k hk hsep').mono (rst_mono sub2 (Nat.le_refl _))
  · -- heap
    intro k hk hsep
    cases hq : g.op.quiet with
    | true =>
      rw [hq, if_pos rfl] at St
      have hblk : ∀ b, b < w.heap.size → w1.heap[b]? = w.heap[b]? := fun b hb => St.fr.block b hb fun l g' x hl hx => by have := (rst_some.1 hx).1; omega
      have hsep' : ∀ i g', gs[i]? = some g' → g'.op.quiet = false → (S i ↔ i < k) := fun i g' h3 h4 => by
        have hne : i ≠ j := fun e => by subst e; rw [hg] at h3; injection h3 with h3; subst h3; rw [hq] at h4; cases h4
        have := hsep i g' h3 h4
        constructor
        · intro h; exact this.1 (.inl h)
        · intro h; exact (this.2 h).resolve_right hne
      have Ik := I.heap k hk hsep'
      have Ik1 := Ik.world St.inv.below St.fr.size hblk
      rcases Nat.lt_or_ge j k with hjk | hjk
      · -- behind it
        have hkl := T.len hX hjk hk
        have hxt : HExt (hs (j + 1)).length (hs (j + 1)) (hs k) := T.quiet_ext hX hjk hk fun i g' h1 h2 h3 => by
          cases hq' : g'.op.quiet with
          | true => rfl
          | false =>
            have hS : S i := (hsep' i g' h3 hq').2 h2
            exact absurd hq' (by simp [noCross i g' h3 h1 hS])
        have A : ∀ l, At w0 ren (rst μ2 (hs k).length) (hs k) w1 l := fun l => by
          by_cases hl : l < (hs (j + 1)).length
          · refine (St.inv.at_ l).move (sub1 k hjk hk) (fun g' x hx => ?_) (hxt.2 l hl) (fun _ _ _ => rfl)
            have := (rst_some.1 hx).2
            rwa [lo hl] at this
          · refine (Ik.at_ l).move (rst_mono sub2 (Nat.le_refl _)) (fun g' x hx => ?_) rfl (fun g' x hx => hblk _ (Ik.fresh _ _ _ hx).2.1)
            obtain ⟨h1, h2⟩ := rst_some.1 hx
            rw [hi hl] at h2
            exact rst_some.2 ⟨h1, h2⟩
        refine ⟨St.inv.below, fun l g' x hx => ?_, fun l g x l' g' x' h1 h2 e => inj2 _ _ _ _ _ _ (rst_sub _ _ _ _ _ h1) (rst_sub _ _ _ _ _ h2) e, fun l => (A l).cells, fun l => (A l).gens, fun l => (A l).map, fun l => (A l).iter⟩
        obtain ⟨h1, h2⟩ := rst_some.1 hx
        refine ⟨?_, lt2 _ _ _ h2, h1⟩
        by_cases hl : l < (hs (j + 1)).length
        · rw [lo hl] at h2; exact (St.inv.fresh _ _ _ h2).1
        · rw [hi hl] at h2; exact (Ik.fresh l g' x (rst_some.2 ⟨h1, h2⟩)).1
      · -- ahead of it
        have hkl := T.len hX hjk (by omega)
        refine Ik1.heap (.refl _ _) (rst_mono sub2 (Nat.le_refl _)) fun l g' x hx => ?_
        obtain ⟨h1, h2⟩ := rst_some.1 hx
        rw [lo (by omega)] at h2
        rcases St.new l g' x h2 with h | ⟨h, _⟩
        · exact rst_some.2 ⟨h1, rst_sub _ _ _ _ _ h⟩
        · omega
    | false =>
      rw [hq, if_neg (by simp)] at St
      have hjk : j < k := (hsep j g hg hq).1 (.inr rfl)
      have hkl := T.len hX hjk hk
      have hxt : HExt (hs (j + 1)).length (hs (j + 1)) (hs k) := T.quiet_ext hX hjk hk fun i g' h1 h2 h3 => by
        cases hq' : g'.op.quiet with
        | true => rfl
        | false =>
          have hS : S i := by
            rcases (hsep i g' h3 hq').2 h2 with h | h
            · exact h
            · omega
          exact absurd hq' (by simp [noCross i g' h3 h1 hS])
      refine St.inv.heap hxt (sub1 k hjk hk) fun l g' x hx => ?_
      obtain ⟨h1, h2⟩ := rst_some.1 hx
      by_cases hl : l < (hs (j + 1)).length
      · rwa [lo hl] at h2
      · rw [hi hl] at h2
        have := allBelow hq l g' x h2
        omega
  · -- own
    intro l g' x hx i hiN hiS hin
    have hij : i ≠ j := fun e => hiS (.inr e)
    have hiS' : ¬ S i := fun h => hiS (.inl h)
    by_cases hl : l < (hs (j + 1)).length
    · rw [lo hl] at hx
      rcases Nat.lt_or_ge j i with h | h
      · have := T.len hX (show j + 1 ≤ i by omega) (by omega : i ≤ gs.length); omega
      · have hi1 : (hs (i + 1)).length ≤ (hs j).length := T.len hX (by omega) (by omega)
        rcases old1 l g' x hx with h2 | ⟨h2, h3⟩
        · exact I.own l g' x (rst_sub _ _ _ _ _ h2) i hiN hiS' hin
        · -- a new generation of an old place
          have hgi : gs[i]? = some gs[i] := List.getElem?_eq_getElem hiN
          have hap1 := (apart_of hap hgi hg (by omega) (earlier i hiS')).2.2
          cases hqj : g.op.quiet with
          | true =>
            rw [hqj, if_pos rfl] at St
            rcases St.new l g' x hx with h4 | ⟨h4, _⟩
            · exact I.own l g' x (rst_sub _ _ _ _ _ h4) i hiN hiS' hin
            · omega
          | false =>
            rcases hap1 with h4 | h4 | h4
            · have := still_len (T := T) (hX := hX) (hok := hok) hgi (by simpa using (List.getElem?_eq_getElem (by rw [← (okGOpers_at hok).1]; exact hiN) : ops.toList[i]? = some _)) h4
              omega
            · rw [hns] at h4; cases h4
            · rw [hqj] at h4; cases h4.2
    · rw [hi hl] at hx
      exact I.own l g' x hx i hiN hiS' hin
  · -- bound
    intro l g' x hx
    by_cases hl : l < (hs (j + 1)).length
    · have := T.len hX (show j + 1 ≤ gs.length by omega) (Nat.le_refl _); omega
    · rw [hi hl] at hx; exact I.bound l g' x hx

include hX hok hap T in
/-- One operation more, that needs no memory. -/
theorem J.still {S : Nat → Prop} {μ : Mu} {a : Act} {w : World} (I : J w0 ren base ops gs es hs n μ0 we S μ a w) {j : Nat} {g : GOper} {o : Oper} (hg : gs[j]? = some g) (ho : ops[j]? = some o) (hs' : g.op.still = true) (hj : ¬ S j)
    (hr : ∀ e ∈ o.after, Region.binds .any e = true → S e.on) {v' : Value} (hv : RepV w0 ren (rst μ (hs j).length) (vs j) v') : J w0 ren base ops gs es hs n μ0 we (fun i => S i ∨ i = j) μ (a.put o.dst v') w := by
  have hjN : j < gs.length := (List.getElem?_eq_some_iff.1 hg).1
  obtain ⟨hd1, hd2⟩ := okGOper_dst ((okGOpers_at hok).2 j g o hg (by simpa using ho))
  have hq : g.op.quiet = true := by cases hgo : g.op <;> simp [hgo, AOp.still, AOp.quiet] at hs' ⊢
  have ready : ∀ o', ops[j]? = some o' → ∀ e ∈ o'.after, Region.binds .any e = true → S e.on := fun o' ho' => by rw [ho] at ho'; injection ho' with ho'; subst ho'; exact hr
  have later : ∀ i, S i → ahead (waits ops.toList) j i = false := fun i hi => by
    cases h : ahead (waits ops.toList) j i with
    | false => rfl
    | true => exact absurd (closed_ahead I.closed (fun o' ho' => I.closed i o' ho' hi) h) hj
  refine ⟨?_, ?_, ?_, ?_, ?_, ?_, I.bound, I.inj, I.lt, I.mv⟩
  · intro i o' ho' hi e he hb
    rcases hi with hi | rfl
    · exact .inl (I.closed i o' ho' hi e he hb)
    · exact .inl (ready o' ho' e he hb)
  · cases o.dst <;> simp [Act.put, I.tm]
  · cases o.dst <;> simp [Act.put, I.df]
  · intro t k hk hsep
    rw [put_getD a o.dst v' n I.tm (fun d hd => hd2 d (hd1 ▸ hd)) t]
    by_cases hdt : o.dst = some t
    · rw [if_pos hdt]
      have hjk : j < k := (hsep j g hg (hd1.trans hdt)).1 (.inr rfl)
      have : es k t = es (j + 1) t := T.slot hjk hk fun i g' h1 h2 h3 h4 => by
        have hS : S i := by
          rcases (hsep i g' h3 h4).2 h2 with h | h
          · exact h
          · omega
        exact ((apart_of hap hg h3 (by omega) (later i hS)).1 t (hd1.trans hdt)).2 h4
      rw [this, (T.at_ j g hg).2, hd1, hdt]
      have : (es j).put (some t) (vs j) t = vs j := by simp [Env.put]
      rw [this]
      exact hv.mono (rst_mono (.refl _) (T.len hX (by omega) hk))
    · rw [if_neg hdt]
      refine I.slots t k hk fun i g' h3 h4 => ?_
      have hne : i ≠ j := fun e => by subst e; rw [hg] at h3; injection h3 with h3; subst h3; exact hdt (hd1 ▸ h4)
      have := hsep i g' h3 h4
      constructor
      · intro h; exact this.1 (.inl h)
      · intro h; exact (this.2 h).resolve_right hne
  · intro k hk hsep
    refine I.heap k hk fun i g' h3 h4 => ?_
    have hne : i ≠ j := fun e => by subst e; rw [hg] at h3; injection h3 with h3; subst h3; rw [hq] at h4; cases h4
    have := hsep i g' h3 h4
    constructor
    · intro h; exact this.1 (.inl h)
    · intro h; exact (this.2 h).resolve_right hne
  · intro l g' x hx i hiN hiS
    exact I.own l g' x hx i hiN fun h => hiS (.inl h)

include hX hok hap T in
/-- What an operation reads is as it was in the text's order. -/
theorem J.reads {S : Nat → Prop} {μ : Mu} {a : Act} {w : World} (I : J w0 ren base ops gs es hs n μ0 we S μ a w) {j : Nat} {g : GOper} {o : Oper} (hg : gs[j]? = some g) (ho : ops[j]? = some o) (hj : ¬ S j)
    (hr : ∀ e ∈ o.after, Region.binds .any e = true → S e.on) : ∀ t ∈ g.reads, RepV w0 ren (rst μ (hs j).length) (es j t) (a.tmps.getD t undef) := by
  intro t ht
  have hjN : j < gs.length := (List.getElem?_eq_some_iff.1 hg).1
  have ready : ∀ o', ops[j]? = some o' → ∀ e ∈ o'.after, Region.binds .any e = true → S e.on := fun o' ho' => by rw [ho] at ho'; injection ho' with ho'; subst ho'; exact hr
  refine I.slots t j (by omega) fun i g' h3 h4 => ?_
  rcases Nat.lt_trichotomy i j with h | h | h
  · refine ⟨fun _ => h, fun _ => ?_⟩
    cases ha : ahead (waits ops.toList) i j with
    | true => exact closed_ahead I.closed ready ha
    | false => exact absurd ht ((apart_of hap h3 hg h ha).1 t h4).1
  · subst h; exact ⟨fun h => absurd h hj, fun h => absurd h (Nat.lt_irrefl _)⟩
  · refine ⟨fun hS => ?_, fun h' => by omega⟩
    cases ha : ahead (waits ops.toList) j i with
    | true => exact absurd (closed_ahead I.closed (fun o' ho' => I.closed i o' ho' hS) ha) hj
    | false => exact absurd ht ((apart_of hap hg h3 h ha).2.1 t h4)
include hX hok hap T in
/-- Memory is as it was in the text's order. -/
theorem J.mem {S : Nat → Prop} {μ : Mu} {a : Act} {w : World} (I : J w0 ren base ops gs es hs n μ0 we S μ a w) {j : Nat} {g : GOper} {o : Oper} (hg : gs[j]? = some g) (ho : ops[j]? = some o) (hns : g.op.still = false) (hj : ¬ S j)
    (hr : ∀ e ∈ o.after, Region.binds .any e = true → S e.on) : Inv w0 ren (rst μ (hs j).length) (hs j) w := by
  have hjN : j < gs.length := (List.getElem?_eq_some_iff.1 hg).1
  have ready : ∀ o', ops[j]? = some o' → ∀ e ∈ o'.after, Region.binds .any e = true → S e.on := fun o' ho' => by rw [ho] at ho'; injection ho' with ho'; subst ho'; exact hr
  refine I.heap j (by omega) fun i g' h3 h4 => ?_
  have hst : g'.op.still = true → False := fun h => by
    have : g'.op.quiet = true := by cases hgo : g'.op <;> simp [hgo, AOp.still, AOp.quiet] at h ⊢
    rw [this] at h4; cases h4
  rcases Nat.lt_trichotomy i j with h | h | h
  · refine ⟨fun _ => h, fun _ => ?_⟩
    cases ha : ahead (waits ops.toList) i j with
    | true => exact closed_ahead I.closed ready ha
    | false =>
      rcases (apart_of hap h3 hg h ha).2.2 with h5 | h5 | h5
      · exact (hst h5).elim
      · rw [hns] at h5; cases h5
      · rw [h4] at h5; cases h5.1
  · subst h; exact ⟨fun h => absurd h hj, fun h => absurd h (Nat.lt_irrefl _)⟩
  · refine ⟨fun hS => ?_, fun h' => by omega⟩
    cases ha : ahead (waits ops.toList) j i with
    | true => exact absurd (closed_ahead I.closed (fun o' ho' => I.closed i o' ho' hS) ha) hj
    | false =>
      rcases (apart_of hap hg h3 h ha).2.2 with h5 | h5 | h5
      · rw [hns] at h5; cases h5
      · exact (hst h5).elim
      · rw [h4] at h5; cases h5.2

include hG hC hX hok hap hbk T in
theorem any_sound {Q : Exit → Act → World → Prop}
    (hQ : ∀ a' w' μ', RepE w0 ren μ' n (es gs.length) a' → Step w0 ren base μ0 (hs 0) we μ' (hs gs.length) w' → Q .normal a' w') :
    ∀ (fuel : Nat) (listed : Array Bool) (μ : Mu) (a : Act) (w : World) (l : List Nat), listed.size = ops.size → l.length ≤ fuel → (∀ i, i < ops.size → listed.getD i false = false → i ∈ l) →
      J w0 ren base ops gs es hs n μ0 we (fun i => listed.getD i false = true) μ a w → wpAny P .any ops Q fuel listed a w := by
  have hN : gs.length = ops.size := by rw [(okGOpers_at hok).1]; simp
  have done : ∀ (listed : Array Bool) (μ : Mu) (a : Act) (w : World), (∀ i, i < ops.size → listed.getD i false = true) → J w0 ren base ops gs es hs n μ0 we (fun i => listed.getD i false = true) μ a w → Q .normal a w := fun listed μ a w hall I => by
    have iff : ∀ (i : Nat) (g : GOper), gs[i]? = some g → (listed.getD i false = true ↔ i < gs.length) := fun i g hg => by
      have := (List.getElem?_eq_some_iff.1 hg).1
      exact ⟨fun _ => this, fun _ => hall i (by omega)⟩
    have Ih := I.heap gs.length (Nat.le_refl _) fun i g hg _ => iff i g hg
    have e : rst μ (hs gs.length).length = μ := by
      funext l g
      unfold rst
      split
      · rfl
      · rename_i h
        cases hx : μ l g with
        | none => rfl
        | some x => exact absurd (I.bound _ _ _ hx) h
    rw [e] at Ih
    refine hQ a w μ ⟨I.tm, I.df, fun t => ?_⟩ (I.mv.step (T.base_ext hX (Nat.zero_le _) (Nat.le_refl _)) Ih)
    have := I.slots t gs.length (Nat.le_refl _) fun i g hg _ => iff i g hg
    rwa [e] at this
  intro fuel
  induction fuel with
  | zero =>
    intro listed μ a w l hsz hl hcov I
    have hall : ∀ i, i < ops.size → listed.getD i false = true := fun i hi => by
      cases h : listed.getD i false with
      | true => rfl
      | false =>
        have := hcov i hi h
        have : l = [] := List.eq_nil_of_length_eq_zero (by omega)
        subst this; simp at *
    refine ⟨?_, done listed μ a w hall I⟩
    cases hr : Region.ready .any ops listed with
    | nil => rfl
    | cons j _ =>
      have hj : j ∈ Region.ready .any ops listed := by rw [hr]; simp
      obtain ⟨h1, o, ho, _⟩ := mem_ready.1 hj
      have hjs : j < ops.size := (Array.getElem?_eq_some_iff.1 ho).1
      have := hall j hjs
      rw [Array.getD_eq_getD_getElem?, Array.getElem?_eq_getElem (by omega : j < listed.size)] at h1 this
      simp at h1 this
      rw [h1] at this; cases this
  | succ fuel ih =>
    intro listed μ a w l hsz hl hcov I
    refine ⟨fun hr => ?_, fun j hj => ?_⟩
    · -- nothing is left
      refine done listed μ a w (fun i => ?_) I
      induction i using Nat.strongRecOn with
      | _ i ihi =>
        intro hi
        cases h : listed.getD i false with
        | true => rfl
        | false =>
          have hmem : i ∈ Region.ready .any ops listed := by
            refine mem_ready.2 ⟨?_, ops[i], Array.getElem?_eq_getElem hi, fun e he hb => ?_⟩
            · rw [Array.getD_eq_getD_getElem?, Array.getElem?_eq_getElem (by omega : i < listed.size)] at h ⊢
              simpa using h
            · have hlt := backward_spec _ 0 hbk i e.on ((mem_waits (Array.getElem?_eq_getElem hi)).2 ⟨e, he, hb, rfl⟩)
              exact ihi e.on (by omega) (by omega)
          rw [hr] at hmem; cases hmem
    · obtain ⟨h1, o, ho, hall⟩ := mem_ready.1 hj
      have hjs : j < ops.size := (Array.getElem?_eq_some_iff.1 ho).1
      have hjl : listed.getD j false = false := by
        rw [Array.getD_eq_getD_getElem?, Array.getElem?_eq_getElem (by omega : j < listed.size)] at h1 ⊢
        simpa using h1
      have hjS : ¬ (listed.getD j false = true) := by rw [hjl]; simp
      have hg : gs[j]? = some gs[j] := List.getElem?_eq_getElem (by omega)
      have hok1 := (okGOpers_at hok).2 j _ o hg (by simpa using ho)
      have hS' : (fun i => (listed.setIfInBounds j true).getD i false = true) = (fun i => listed.getD i false = true ∨ i = j) := by
        funext i
        apply propext
        by_cases hij : j = i
        · subst hij; simp [Array.getElem?_setIfInBounds, hsz, hjs]
        · rw [getD_set_ne false hij]; exact ⟨.inl, fun h => h.resolve_right (fun e => hij e.symm)⟩
      have hnext : ∀ μ' a' w', J w0 ren base ops gs es hs n μ0 we (fun i => listed.getD i false = true ∨ i = j) μ' a' w' → wpAny P .any ops Q fuel (listed.setIfInBounds j true) a' w' := fun μ' a' w' I' => by
        refine ih (listed.setIfInBounds j true) μ' a' w' (l.erase j) (by simp [hsz]) ?_ (fun i hi hf => ?_) (hS' ▸ I')
        · have := hcov j hjs hjl
          rw [List.length_erase_of_mem this]; omega
        · have hij : i ≠ j := fun e => by subst e; simp [Array.getElem?_setIfInBounds, hsz, hjs] at hf
          rw [getD_set_ne false (Ne.symm hij)] at hf
          exact (List.mem_erase_of_ne hij).2 (hcov i hi hf)
      have hE := I.reads hX hok hap T hg ho hjS hall
      unfold wpOp
      simp only [ho]
      cases hst : gs[j].op.still with
      | true =>
        exact (stepGK_still hok1 hst hE (T.at_ j _ hg).1 fun v' hv => hnext _ _ _ (I.still hX hok hap T hg ho hst hjS hall hv)).1
      | false =>
        refine stepGK_sound hG hC hok1 (I.mem hX hok hap T hg ho hst hjS hall) (T.base_le hX j (by omega)) hE (T.at_ j _ hg).1 fun v' w' μ1 hv St => ?_
        obtain ⟨μ2, I2⟩ := I.next hX hok hap T hg ho hst hjS hall hv St
        exact hnext _ _ _ I2
end
end Go.AM
