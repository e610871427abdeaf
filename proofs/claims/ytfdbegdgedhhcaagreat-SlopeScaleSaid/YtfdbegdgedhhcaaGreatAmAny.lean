import Derived.Test.YtfdbegdgedhhcaaGreatAmExt
import Derived.Orders
import Derived.Tactics
set_option linter.all false
/- A region: in the text's order; in any order that its edges allow. -/
namespace Go.AM
open Go.RowKit
set_option linter.unusedVariables false
section
variable {w0 : World} {ren : Nat → Option Nat} {P : Program} {base : Nat} {C : CallT}

/-- A guard is met, or it isn't. -/
theorem stepGK_cases {n : Nat} {ops : Array Oper} {g : GOper} {o : Oper} (hok : okGOper P ren n ops g o = true) {μ : Mu} {h : Heap} {e : Env} {a : Act}
    (hE : ∀ t ∈ g.reads, RepV w0 ren μ (e t) (a.tmps.getD t undef)) {v : AV} {h' : Heap} (H : (stepGK base C g e h fun v h => some (v, h)) = some (v, h')) :
    (Region.wanted o (yielded ops a.tmps) = true ∧ (execK base C g.op e h fun v h => some (v, h)) = some (v, h')) ∨ (Region.wanted o (yielded ops a.tmps) = false ∧ v = .tup [] ∧ h' = h) := by
  simp only [okGOper, Bool.and_eq_true] at hok
  obtain ⟨⟨hd, hop⟩, hg⟩ := hok
  unfold stepGK at H
  unfold Region.wanted
  cases hgrd : g.grd with
  | none =>
    rw [hgrd] at H hg
    cases hog : o.guard with
    | none => exact .inl ⟨rfl, H⟩
    | some _ => rw [hog] at hg; cases hg
  | some x =>
    obtain ⟨s, want⟩ := x
    rw [hgrd] at H hg
    cases hog : o.guard with
    | none => rw [hog] at hg; cases hg
    | some y =>
      obtain ⟨j, want'⟩ := y
      rw [hog] at hg
      simp only [Bool.and_eq_true, beq_iff_eq] at hg
      obtain ⟨rfl, hj⟩ := hg
      split at hj
      · rename_i oj hoj
        have hds := beq_iff_eq.1 hj
        have hs := hE s (by simp [GOper.reads, hgrd])
        have hy : yielded ops a.tmps j = match a.tmps[s]? with | some (.bool b) => some b | _ => none := by
          simp only [yielded, hoj, Option.bind_some, hds]
          rfl
        dsimp only at H ⊢
        generalize hes : e s = x at H hs
        have hgetD : ∀ u, a.tmps.getD s undef = u → u ≠ undef → a.tmps[s]? = some u := fun u hu hne => by
          rw [Array.getD_eq_getD_getElem?] at hu
          cases hx : a.tmps[s]? with
          | none => rw [hx] at hu; exact absurd hu.symm hne
          | some z => rw [hx] at hu; simp at hu; rw [hu]
        generalize hu : a.tmps.getD s undef = u at hs
        cases hs with
        | bool b =>
          dsimp only at H
          have hy2 : yielded ops a.tmps j = some b := by rw [hy, hgetD _ hu (by simp [undef])]
          rw [hy2]
          by_cases hbw : b = want
          · rw [if_pos hbw] at H
            subst hbw
            exact .inl ⟨by simp, H⟩
          · rw [if_neg hbw] at H
            simp at H
            exact .inr ⟨by simpa using hbw, H.1.symm, H.2.symm⟩
        | tup cs vs hl hr =>
          cases cs with
          | nil =>
            have hvs : vs = [] := List.eq_nil_of_length_eq_zero hl.symm
            subst hvs
            simp at H
            have hy2 : yielded ops a.tmps j = none := by
              rw [hy]
              cases hx : a.tmps[s]? with
              | none => rfl
              | some z =>
                have : z = .tuple #[] := by rw [Array.getD_eq_getD_getElem?, hx] at hu; simpa using hu
                subst this; rfl
            rw [hy2]
            exact .inr ⟨by simp, H.1.symm, H.2.symm⟩
          | cons _ _ => cases H
        | _ => cases H
      · cases hj
theorem okGOper_op {n : Nat} {ops : Array Oper} {g : GOper} {o : Oper} (hok : okGOper P ren n ops g o = true) : okOp P ren g.op o.op = true := by
  simp only [okGOper, Bool.and_eq_true] at hok
  exact hok.1.2
/-- One operation with its guard. -/
theorem stepGK_sound (hG : FnsOk P ren) (hC : CallOk P w0 ren C) {n : Nat} {ops : Array Oper} {g : GOper} {o : Oper} (hok : okGOper P ren n ops g o = true) {μ : Mu} {h : Heap} {w : World} {e : Env} {a : Act} (I : Inv w0 ren μ h w) (hb : base ≤ h.length)
    (hE : ∀ t ∈ g.reads, RepV w0 ren μ (e t) (a.tmps.getD t undef)) {v : AV} {h' : Heap} (H : (stepGK base C g e h fun v h => some (v, h)) = some (v, h')) {next : Act → World → Prop} {Q : Exit → Act → World → Prop}
    (hn : ∀ v' w' μ', RepV w0 ren μ' v v' → Step w0 ren (if g.op.quiet = true then h.length else base) μ h w μ' h' w' → next (a.put o.dst v') w') :
    if Region.wanted o (yielded ops a.tmps) then o.wp P a w next Q ∨ (o.asks P a w ∧ LetsOut Q) else next (a.put o.dst undef) w := by
  have hop := okGOper_op hok
  have hE' : ∀ t ∈ g.op.slots, RepV w0 ren μ (e t) (a.tmps.getD t undef) := fun t ht => hE t (by simp [GOper.reads, ht])
  rcases stepGK_cases hok hE H with ⟨hw, H⟩ | ⟨hw, rfl, rfl⟩
  · rw [if_pos hw]
    refine .inl ?_
    cases hq : g.op.quiet with
    | true =>
      rw [quiet_base hq] at H
      refine exec_sound hG hC hop I (Nat.le_refl _) hE' H fun v' w' μ' hv S => hn v' w' μ' hv ?_
      rw [hq, if_pos rfl]
      have : floorOf h.length h g.op = h.length := by
        cases hgo : g.op <;> simp [floorOf]
      rw [this] at S
      exact S
    | false =>
      refine exec_sound hG hC hop I hb hE' H fun v' w' μ' hv S => hn v' w' μ' hv ?_
      rw [hq, if_neg (by simp)]
      exact S.floor (by cases hgo : g.op <;> simp only [floorOf] <;> first | exact Nat.le_refl _ | (split <;> omega))
  · rw [if_neg (by rw [hw]; simp)]
    exact hn undef w μ (.tup [] [] rfl (by simp)) (.refl I)
/-- One that needs no memory. -/
theorem stepGK_still {n : Nat} {ops : Array Oper} {g : GOper} {o : Oper} (hok : okGOper P ren n ops g o = true) (hs : g.op.still = true) {μ : Mu} {h : Heap} {w : World} {e : Env} {a : Act}
    (hE : ∀ t ∈ g.reads, RepV w0 ren μ (e t) (a.tmps.getD t undef)) {v : AV} {h' : Heap} (H : (stepGK base C g e h fun v h => some (v, h)) = some (v, h')) {next : Act → World → Prop} {Q : Exit → Act → World → Prop}
    (hn : ∀ v', RepV w0 ren μ v v' → next (a.put o.dst v') w) :
    (if Region.wanted o (yielded ops a.tmps) then o.wp P a w next Q ∨ (o.asks P a w ∧ LetsOut Q) else next (a.put o.dst undef) w) ∧ h' = h := by
  have hop := okGOper_op hok
  have hE' : ∀ t ∈ g.op.slots, RepV w0 ren μ (e t) (a.tmps.getD t undef) := fun t ht => hE t (by simp [GOper.reads, ht])
  rcases stepGK_cases hok hE H with ⟨hw, H⟩ | ⟨hw, rfl, rfl⟩
  · rw [if_pos hw]
    obtain ⟨rfl, v', hr, hv⟩ := still_sound hs hop hE' H
    refine ⟨.inl ?_, rfl⟩
    unfold Oper.wp
    rw [hr w]
    exact hn v' hv
  · rw [if_neg (by rw [hw]; simp)]
    exact ⟨hn undef (.tup [] [] rfl (by simp)), rfl⟩

theorem okGOper_dst {n : Nat} {ops : Array Oper} {g : GOper} {o : Oper} (hok : okGOper P ren n ops g o = true) : g.dst = o.dst ∧ ∀ d, g.dst = some d → d < n := by
  simp only [okGOper, okDst, Bool.and_eq_true, beq_iff_eq] at hok
  refine ⟨hok.1.1.1, fun d hd => ?_⟩
  have := hok.1.1.2
  rw [hd] at this
  simpa using this

/-- In the text's order. -/
theorem runG_sound (hG : FnsOk P ren) (hC : CallOk P w0 ren C) {n : Nat} {ops : Array Oper} {Q : Exit → Act → World → Prop} {R : Type} {r : R} : ∀ {gs : List GOper} {os : List Oper} {μ : Mu} {h : Heap} {w : World} {e : Env} {a : Act} {K : Env → Heap → Option R},
    okGOpers P ren n ops gs os = true → Inv w0 ren μ h w → base ≤ h.length → RepE w0 ren μ n e a → runG base C gs e h K = some r →
    (∀ e' h' a' w' μ', K e' h' = some r → RepE w0 ren μ' n e' a' → Step w0 ren base μ h w μ' h' w' → Q .normal a' w') → wpList P ops Q os a w
  | [], [], μ, h, w, e, a, K, _, I, hb, hE, H, hQ => hQ e h a w μ H hE (.refl I)
  | g :: gs, o :: os, μ, h, w, e, a, K, hok, I, hb, hE, H, hQ => by
      simp only [okGOpers, Bool.and_eq_true] at hok
      simp only [runG] at H
      have hnat : stepGK base C g e h (fun v h => runG base C gs (e.put g.dst v) h K) = (stepGK base C g e h fun v h => some (v, h)).bind fun p => runG base C gs (e.put g.dst p.1) p.2 K := by
        unfold stepGK
        split
        · rw [execK_via]
        · split
          · split
            · rw [execK_via]
            · rfl
          · rfl
          · rfl
      rw [hnat] at H
      obtain ⟨p, hp, H⟩ := bind_some H
      obtain ⟨hd1, hd2⟩ := okGOper_dst hok.1
      simp only [wpList]
      refine stepGK_sound hG hC hok.1 I hb (fun t _ => hE.at_ t) hp fun v' w' μ' hv S => ?_
      have S := S.floor (b1 := base) (by split <;> omega)
      refine runG_sound hG hC hok.2 S.inv (Nat.le_trans hb S.ext.1) (by rw [← hd1]; exact (hE.mono S.sub).put g.dst hd2 hv) H fun e' h' a' w'' μ'' hK hE' S' => ?_
      exact hQ e' h' a' w'' μ'' hK hE' (S.trans S')
  | [], _ :: _, μ, h, w, e, a, K, hok, _, _, _, _, _ => by simp [okGOpers] at hok
  | _ :: _, [], μ, h, w, e, a, K, hok, _, _, _, _, _ => by simp [okGOpers] at hok

/-- The run in the text's order, told step by step. -/
theorem runG_trace {R : Type} {r : R} : ∀ (gs : List GOper) {e : Env} {h : Heap} {K : Env → Heap → Option R}, runG base C gs e h K = some r →
    ∃ (es : Nat → Env) (hs : Nat → Heap) (vs : Nat → AV), es 0 = e ∧ hs 0 = h ∧
      (∀ i g, gs[i]? = some g → (stepGK base C g (es i) (hs i) fun v h => some (v, h)) = some (vs i, hs (i + 1)) ∧ es (i + 1) = (es i).put g.dst (vs i)) ∧ K (es gs.length) (hs gs.length) = some r
  | [], e, h, K, H => ⟨fun _ => e, fun _ => h, fun _ => .undef, rfl, rfl, fun i g hg => by simp at hg, H⟩
  | g :: gs, e, h, K, H => by
      simp only [runG] at H
      have hnat : stepGK base C g e h (fun v h => runG base C gs (e.put g.dst v) h K) = (stepGK base C g e h fun v h => some (v, h)).bind fun p => runG base C gs (e.put g.dst p.1) p.2 K := by
        unfold stepGK
        split
        · rw [execK_via]
        · split
          · split
            · rw [execK_via]
            · rfl
          · rfl
          · rfl
      rw [hnat] at H
      obtain ⟨p, hp, H⟩ := bind_some H
      obtain ⟨es, hs, vs, h1, h2, h3, h4⟩ := runG_trace gs H
      refine ⟨fun i => match i with | 0 => e | i + 1 => es i, fun i => match i with | 0 => h | i + 1 => hs i, fun i => match i with | 0 => p.1 | i + 1 => vs i, rfl, rfl, fun i g' hg => ?_, by simpa using h4⟩
      cases i with
      | zero =>
        simp at hg; subst hg
        dsimp only
        rw [h1, h2]
        exact ⟨hp, rfl⟩
      | succ i => exact h3 i g' (by simpa using hg)

/-- Blocks below a number alone. -/
def rst (μ : Mu) (n : Nat) : Mu := fun l g => if l < n then μ l g else none
theorem rst_some {μ : Mu} {n l g : Nat} {x : Blk} : rst μ n l g = some x ↔ l < n ∧ μ l g = some x := by
  unfold rst
  split
  · rename_i h; simp [h]
  · rename_i h; simp [h]
theorem rst_sub (μ : Mu) (n : Nat) : Sub (rst μ n) μ := fun l g x h => (rst_some.1 h).2
theorem rst_mono {μ μ' : Mu} (hs : Sub μ μ') {n m : Nat} (h : n ≤ m) : Sub (rst μ n) (rst μ' m) := fun l g x hx => by
  obtain ⟨h1, h2⟩ := rst_some.1 hx
  exact rst_some.2 ⟨by omega, hs _ _ _ h2⟩

/-- What a step does to memory, the abstract heap aside. -/
structure Mv (base : Nat) (μ : Mu) (w : World) (μ' : Mu) (w' : World) : Prop where
  sub : Sub μ μ'
  new : ∀ l g x, μ' l g = some x → μ l g = some x ∨ (base ≤ l ∧ (w.heap.size ≤ x.b ∨ ∃ g0 x0, μ l g0 = some x0 ∧ x0.b = x.b))
  fr : Fr base μ w w'
theorem Mv.trans {base : Nat} {μ μ' μ'' : Mu} {w w' w'' : World} (s : Mv base μ w μ' w') (t : Mv base μ' w' μ'' w'') : Mv base μ w μ'' w'' := by
  refine ⟨s.sub.trans t.sub, fun l g x hx => ?_, ⟨t.fr.os.trans s.fr.os, t.fr.tape.trans s.fr.tape, t.fr.output.trans s.fr.output, Nat.le_trans s.fr.size t.fr.size, fun b hb hn => ?_⟩⟩
  · rcases t.new l g x hx with h1 | ⟨hl, h1⟩
    · exact s.new l g x h1
    · refine .inr ⟨hl, ?_⟩
      rcases h1 with h1 | ⟨g0, x0, hx0, hb⟩
      · exact .inl (Nat.le_trans s.fr.size h1)
      · rcases s.new l g0 x0 hx0 with h2 | ⟨_, h2⟩
        · exact .inr ⟨g0, x0, h2, hb⟩
        · rcases h2 with h2 | ⟨g1, x1, h3, h4⟩
          · exact .inl (hb ▸ h2)
          · exact .inr ⟨g1, x1, h3, h4.trans hb⟩
  · refine (t.fr.block b (Nat.lt_of_lt_of_le hb s.fr.size) fun l g x hl hx => ?_).trans (s.fr.block b hb hn)
    rcases s.new l g x hx with h1 | ⟨_, h1⟩
    · exact hn l g x hl h1
    · rcases h1 with h1 | ⟨g0, x0, h2, h3⟩
      · intro e; omega
      · exact fun e => hn l g0 x0 hl h2 (h3.trans e)
theorem Mv.step {base : Nat} {μ μ' : Mu} {w w' : World} (m : Mv base μ w μ' w') {h h' : Heap} (hx : HExt base h h') (I : Inv w0 ren μ' h' w') : Step w0 ren base μ h w μ' h' w' := ⟨m.sub, m.new, hx, I, m.fr⟩

/-- More of the abstract heap: nothing is told of it. -/
theorem Inv.heap {μ μ' : Mu} {h h' : Heap} {w : World} (I : Inv w0 ren μ h w) (hx : HExt h.length h h') (hs : Sub μ μ') (hs' : Sub μ' μ) : Inv w0 ren μ' h' w := by
  have A : ∀ l, At w0 ren μ' h' w l := fun l => by
    rcases Nat.lt_or_ge l h.length with hl | hl
    · exact (I.at_ l).move hs (fun g x h => hs' _ _ _ h) (hx.2 l hl) (fun g x _ => rfl)
    · have no : ∀ g x, μ' l g = some x → False := fun g x h => by have := (I.fresh _ _ _ (hs' _ _ _ h)).2.2; omega
      exact ⟨fun g s cs x _ h => (no _ _ h).elim, fun g s cs g' x _ h => (no _ _ h).elim, fun es x _ h => (no _ _ h).elim, fun s p x _ h => (no _ _ h).elim⟩
  exact ⟨I.below, fun l g x h => by have := I.fresh _ _ _ (hs' _ _ _ h); exact ⟨this.1, this.2.1, Nat.lt_of_lt_of_le this.2.2 hx.1⟩, fun l g x l' g' x' h k e => I.inj _ _ _ _ _ _ (hs' _ _ _ h) (hs' _ _ _ k) e, fun l => (A l).cells, fun l => (A l).gens, fun l => (A l).map, fun l => (A l).iter⟩
/-- More memory, the old as it was. -/
theorem Inv.world {μ : Mu} {h : Heap} {w w' : World} (I : Inv w0 ren μ h w) (hb : Below w0.heap.size w0 w') (hsz : w.heap.size ≤ w'.heap.size) (hblk : ∀ b, b < w.heap.size → w'.heap[b]? = w.heap[b]?) : Inv w0 ren μ h w' := by
  have A : ∀ l, At w0 ren μ h w' l := fun l => (I.at_ l).move (.refl μ) (fun g x h => h) rfl (fun g x h => hblk _ (I.fresh _ _ _ h).2.1)
  exact ⟨hb, fun l g x h => by have := I.fresh _ _ _ h; exact ⟨this.1, Nat.lt_of_lt_of_le this.2.1 hsz, this.2.2⟩, I.inj, fun l => (A l).cells, fun l => (A l).gens, fun l => (A l).map, fun l => (A l).iter⟩

/-- The run in the text's order, as functions of the place. -/
structure Tr (base : Nat) (C : CallT) (gs : List GOper) (es : Nat → Env) (hs : Nat → Heap) (vs : Nat → AV) : Prop where
  floor : base ≤ (hs 0).length
  at_ : ∀ i g, gs[i]? = some g → (stepGK base C g (es i) (hs i) fun v h => some (v, h)) = some (vs i, hs (i + 1)) ∧ es (i + 1) = (es i).put g.dst (vs i)
section tr
variable {gs : List GOper} {es : Nat → Env} {hs : Nat → Heap} {vs : Nat → AV} (T : Tr base C gs es hs vs) (hX : CExt C)
include T hX
theorem Tr.base_le : ∀ i, i ≤ gs.length → base ≤ (hs i).length
  | 0, _ => T.floor
  | i + 1, h => by
      have ih := Tr.base_le i (by omega)
      have hg : gs[i]? = some gs[i] := List.getElem?_eq_getElem (by omega)
      exact Nat.le_trans ih (stepGK_ext hX ih (T.at_ i _ hg).1).1
theorem Tr.ext1 {i : Nat} {g : GOper} (hg : gs[i]? = some g) : HExt (if g.op.quiet = true then (hs i).length else base) (hs i) (hs (i + 1)) :=
  stepGK_ext hX (T.base_le hX i (by have := (List.getElem?_eq_some_iff.1 hg).1; omega)) (T.at_ i g hg).1
theorem Tr.len {i : Nat} : ∀ {j : Nat}, i ≤ j → j ≤ gs.length → (hs i).length ≤ (hs j).length := by
  intro j hij
  induction hij with
  | refl => intro _; exact Nat.le_refl _
  | step _ ih =>
    rename_i m hm
    intro hj
    exact Nat.le_trans (ih (by omega)) (T.ext1 hX (List.getElem?_eq_getElem (by omega : m < gs.length))).1
theorem Tr.base_ext {i : Nat} : ∀ {j : Nat}, i ≤ j → j ≤ gs.length → HExt base (hs i) (hs j) := by
  intro j hij
  induction hij with
  | refl => intro _; exact .refl _ _
  | step _ ih =>
    rename_i m hm
    intro hj
    refine (ih (by omega)).trans ((T.ext1 hX (List.getElem?_eq_getElem (by omega : m < gs.length))).mono ?_)
    split
    · exact T.base_le hX m (by omega)
    · exact Nat.le_refl _
theorem Tr.quiet_ext {i : Nat} : ∀ {j : Nat}, i ≤ j → j ≤ gs.length → (∀ k g, i ≤ k → k < j → gs[k]? = some g → g.op.quiet = true) → HExt (hs i).length (hs i) (hs j) := by
  intro j hij
  induction hij with
  | refl => intro _ _; exact .refl _ _
  | step hm0 ih =>
    rename_i m
    have hm : i ≤ m := hm0
    intro hj hq
    have hg : gs[m]? = some gs[m] := List.getElem?_eq_getElem (by omega : m < gs.length)
    refine (ih (by omega) fun k g h1 h2 h3 => hq k g h1 (by omega) h3).trans ((T.ext1 hX hg).mono ?_)
    rw [if_pos (hq m _ hm (by omega) hg)]
    exact T.len hX hm (by omega)
omit hX in
theorem Tr.slot {i t : Nat} : ∀ {j : Nat}, i ≤ j → j ≤ gs.length → (∀ k g, i ≤ k → k < j → gs[k]? = some g → g.dst ≠ some t) → es j t = es i t := by
  intro j hij
  induction hij with
  | refl => intro _ _; rfl
  | step hm0 ih =>
    rename_i m
    have hm : i ≤ m := hm0
    intro hj hq
    have hg : gs[m]? = some gs[m] := List.getElem?_eq_getElem (by omega : m < gs.length)
    rw [(T.at_ m _ hg).2, put_ne (hq m _ hm (by omega) hg)]
    exact ih (by omega) fun k g h1 h2 h3 => hq k g h1 (by omega) h3
omit T hX in
/-- A place in the grown heap: which operation made it. -/
theorem Tr.find {l i : Nat} : ∀ {j : Nat}, i ≤ j → j ≤ gs.length → (hs i).length ≤ l → l < (hs j).length → ∃ k, i ≤ k ∧ k < j ∧ (hs k).length ≤ l ∧ l < (hs (k + 1)).length := by
  intro j hij
  induction hij with
  | refl => intro _ h1 h2; omega
  | step hm0 ih =>
    rename_i m
    have hm : i ≤ m := hm0
    intro hj h1 h2
    rcases Nat.lt_or_ge l (hs m).length with h3 | h3
    · obtain ⟨k, a1, a2, a3⟩ := ih (by omega) h1 h3
      exact ⟨k, a1, by omega, a3⟩
    · exact ⟨m, hm, by omega, h3, h2⟩
end tr
end
end Go.AM
