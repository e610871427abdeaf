import Derived.Test.YtfdbegdgedhhcaaGreatAmDraw
set_option linter.all false
/- Code, loops, functions: what the abstract machine tells holds of the model. -/
namespace Go.AM
open Go.RowKit
set_option linter.unusedVariables false
set_option linter.unusedSectionVars false

section ext
variable {C : CallT} {L : LoopT} (hC : CExt C)
def LExt (L : LoopT) : Prop := ∀ b c e h p, b ≤ h.length → L b c e h = some p → HExt b h p.2.2
variable (hL : LExt L) {base : Nat} {R : Type} {r : R}
include hC
theorem execK_ext {op : AOp} {e : Env} {h : Heap} {K : AV → Heap → Option R} (hb : base ≤ h.length) (H : execK base C op e h K = some r) : ∃ v h', HExt base h h' ∧ K v h' = some r := by
  rw [execK_via] at H
  obtain ⟨p, hp, H⟩ := bind_some H
  exact ⟨p.1, p.2, (exec_ext hC hb hp).mono (by split <;> omega), H⟩
theorem runOps_ext : ∀ {os : List AOper} {e : Env} {h : Heap} {K : Env → Heap → Option R}, base ≤ h.length → runOps base C os e h K = some r → ∃ e' h', HExt base h h' ∧ K e' h' = some r
  | [], e, h, K, hb, H => ⟨e, h, .refl _ _, H⟩
  | o :: os, e, h, K, hb, H => by
      simp only [runOps] at H
      obtain ⟨v, h1, x1, H⟩ := execK_ext hC hb H
      obtain ⟨e', h', x2, H⟩ := runOps_ext (Nat.le_trans hb x1.1) H
      exact ⟨e', h', x1.trans x2, H⟩
theorem runItems_ext : ∀ {its : List AItem} {e : Env} {h : Heap} {K : Env → Heap → Option R}, base ≤ h.length → runItems base C its e h K = some r → ∃ e' h', HExt base h h' ∧ K e' h' = some r
  | [], e, h, K, hb, H => ⟨e, h, .refl _ _, H⟩
  | .one o :: its, e, h, K, hb, H => by
      simp only [runItems] at H
      obtain ⟨v, h1, x1, H⟩ := execK_ext hC hb H
      obtain ⟨e', h', x2, H⟩ := runItems_ext (Nat.le_trans hb x1.1) H
      exact ⟨e', h', x1.trans x2, H⟩
  | .grd s want os :: its, e, h, K, hb, H => by
      have run : ∀ {e1 : Env}, (runOps base C os e1 h fun e h => runItems base C its e h K) = some r → ∃ e' h', HExt base h h' ∧ K e' h' = some r := fun H => by
        obtain ⟨e1, h1, x1, H⟩ := runOps_ext hC hb H
        obtain ⟨e', h', x2, H⟩ := runItems_ext (Nat.le_trans hb x1.1) H
        exact ⟨e', h', x1.trans x2, H⟩
      simp only [runItems] at H
      split at H
      · split at H
        · split at H
          · exact run H
          · exact runItems_ext hb H
        · split at H
          · exact runItems_ext hb H
          · exact run H
      · exact runItems_ext hb H
      · cases H
include hL
theorem den_ext : ∀ {c : ACode} {e : Env} {h : Heap} {K : AExit → Env → Heap → Option R}, base ≤ h.length → den base C L c e h K = some r → ∃ x e' h', HExt base h h' ∧ K x e' h' = some r
  | .skip, e, h, K, hb, H => ⟨_, e, h, .refl _ _, H⟩
  | .region its, e, h, K, hb, H => by
      simp only [den] at H
      obtain ⟨e', h', x, H⟩ := runItems_ext hC hb H
      exact ⟨_, e', h', x, H⟩
  | .seq a b, e, h, K, hb, H => by
      simp only [den] at H
      obtain ⟨x, e', h', x1, H⟩ := den_ext hb H
      cases x
      · obtain ⟨y, e2, h2, x2, H⟩ := den_ext (Nat.le_trans hb x1.1) H
        exact ⟨y, e2, h2, x1.trans x2, H⟩
      · exact ⟨_, e', h', x1, H⟩
      · exact ⟨_, e', h', x1, H⟩
  | .cond c a b, e, h, K, hb, H => by
      simp only [den] at H
      obtain ⟨q, H⟩ := boolK_via H
      split at H
      · exact den_ext hb H
      · exact den_ext hb H
  | .block id a, e, h, K, hb, H => by
      simp only [den] at H
      obtain ⟨x, e', h', x1, H⟩ := den_ext hb H
      cases x
      · exact ⟨_, e', h', x1, H⟩
      · dsimp only at H
        split at H
        · exact ⟨_, e', h', x1, H⟩
        · exact ⟨_, e', h', x1, H⟩
      · exact ⟨_, e', h', x1, H⟩
  | .loop live outs rets c, e, h, K, hb, H => by
      simp only [den] at H
      obtain ⟨e1, H, _⟩ := castEnv_same _ _ _ _ H
      obtain ⟨p, hp, H⟩ := bind_some H
      exact ⟨_, _, _, hL _ _ _ _ _ hb hp, H⟩
  | .exit id, e, h, K, hb, H => ⟨_, e, h, .refl _ _, H⟩
  | .ret, e, h, K, hb, H => ⟨_, e, h, .refl _ _, H⟩
  | .bad, e, h, K, hb, H => by simp [den] at H
omit hC hL in
theorem outK_same : ∀ {outs : List (Nat × List (Nat × Ty))} {j : Nat} {e : Env} {K : Nat → Env → Option R} {r : R}, outK outs j e K = some r → ∃ e', K j e' = some r ∧ ∀ t, e' t = e t ∨ e' t = .undef
  | [], j, e, K, r, H => by simp [outK] at H
  | x :: outs, j, e, K, r, H => by
      simp only [outK] at H
      split at H
      · rename_i hj
        subst hj
        obtain ⟨e', h1, h2⟩ := castEnv_same _ _ _ _ H
        exact ⟨e', h1, h2⟩
      · exact outK_same H
omit hC hL in
theorem resOne_via {a : ARes} {e : Env} {h : Heap} {K : AV → Option R} (H : resOne a e h K = some r) : ∃ v, K v = some r := by
  unfold resOne at H
  split at H
  · exact ⟨_, H⟩
  · obtain ⟨cs, H⟩ := readK_via H
    split at H <;> first | exact ⟨_, H⟩ | cases H
omit hC hL in
theorem resList_via : ∀ {rs : List ARes} {e : Env} {h : Heap} {K : List AV → Option R}, resList rs e h K = some r → ∃ v, K v = some r
  | [], e, h, K, H => ⟨_, H⟩
  | a :: rs, e, h, K, H => by
      simp only [resList] at H
      obtain ⟨v, H⟩ := resOne_via H
      obtain ⟨vs, H⟩ := resList_via H
      exact ⟨_, H⟩
omit hC hL in
theorem resK_ext {rs : List ARes} {e : Env} {h : Heap} {p : AV × Heap} (H : resK rs e h = some p) : p.2 = h := by
  unfold resK at H
  obtain ⟨vs, H⟩ := resList_via H
  split at H <;> (injection H with H; rw [← H])
theorem bodyK_ext {fn : AFunc} {as : List AV} {h : Heap} {p : AV × Heap} (hb : base ≤ h.length) (H : bodyK C L base fn as h = some p) : HExt base h p.2 := by
  unfold bodyK at H
  have H := castL_same _ _ _ _ H
  obtain ⟨x, e', h', x1, H⟩ := den_ext hC hL hb H
  cases x
  · rw [resK_ext H]; exact x1
  · cases H
  · rw [resK_ext H]; exact x1
end ext

theorem runN_ext (A : AProg) (hX : ∀ g as h p, A.ext g as h = some p → HExt h.length h p.2) : ∀ n, CExt (callN A n) ∧ LExt (loopN A n)
  | 0 => ⟨fun _ _ _ _ _ _ h => by simp [callN] at h, fun _ _ _ _ _ _ h => by simp [loopN] at h⟩
  | n + 1 => by
      obtain ⟨i1, i2⟩ := runN_ext A hX n
      constructor
      · intro b g as h p hb H
        rw [callN] at H
        split at H
        · exact bodyK_ext i1 i2 hb H
        · exact (hX _ _ _ _ H).mono hb
      · intro b c e h p hb H
        cases c with
        | loop live outs rets c =>
          rw [loopN] at H
          obtain ⟨x, e', h', x1, H⟩ := den_ext i1 i2 hb H
          cases x with
          | normal =>
            obtain ⟨e2, H, _⟩ := castEnv_same _ _ _ _ H
            exact x1.trans (i2 _ _ _ _ _ (Nat.le_trans hb x1.1) H)
          | exit j =>
            simp only [roundK] at H
            obtain ⟨e2, H, _⟩ := outK_same H
            injection H with H; rw [← H]; exact x1
          | ret =>
            obtain ⟨e2, H, _⟩ := castEnv_same _ _ _ _ H
            injection H with H; rw [← H]; exact x1
        | _ => simp [loopN] at H

/-- A loop that has begun. -/
def LoopWp (P : Program) (c : Code) (Q : Exit → Act → World → Prop) (a : Act) (w : World) : Prop :=
  ∀ (b : Frame) (k : List Item) (cs : List Frame), ∃ e a' w', Q e a' w' ∧ Arrives P (lone (b.at a (.code c :: .inLoop c :: k)) cs w) b k cs e a' w'
theorem wp_of_loopWp {P : Program} {c : Code} {Q : Exit → Act → World → Prop} {a : Act} {w : World} (h : LoopWp P c Q a w) : (Code.loop c).wp P Q a w := fun b k cs =>
  let ⟨e, a', w', q, r⟩ := h b k cs; ⟨e, a', w', q, .of_steps (.one step_loop) r⟩
theorem loopWp_unroll {P : Program} {c : Code} {Q : Exit → Act → World → Prop} {a : Act} {w : World} (h : c.wp P (Exit.then (LoopWp P c Q) Q) a w) : LoopWp P c Q a w := by
  intro b k cs
  obtain ⟨e, a₁, w₁, hq, harr⟩ := h b (.inLoop c :: k) cs
  cases e with
  | normal =>
    obtain ⟨e₂, a₂, w₂, hq₂, harr₂⟩ := hq b k cs
    exact ⟨e₂, a₂, w₂, hq₂, .of_steps (Steps.trans harr (.one step_inLoop)) harr₂⟩
  | exit id => exact ⟨_, a₁, w₁, hq, .pass (x := .inLoop c) rfl (fun _ _ => .inl (by simp)) harr⟩
  | goto l => exact ⟨_, a₁, w₁, hq, .pass (x := .inLoop c) rfl (fun _ _ => .inl (by simp)) harr⟩
  | ret => exact ⟨_, a₁, w₁, hq, .pass (x := .inLoop c) rfl (fun _ _ => .inl (by simp)) harr⟩
  | panic ch => exact ⟨_, a₁, w₁, hq, .pass (x := .inLoop c) rfl (fun _ _ => .inl (by simp)) harr⟩
  | outgrown => exact ⟨_, a₁, w₁, hq, .pass (x := .inLoop c) rfl (fun _ _ => .inl (by simp)) harr⟩

def exOf : AExit → Exit
  | .normal => .normal
  | .exit j => .exit j
  | .ret => .ret

theorem RepE.keep {w0 : World} {ren : Nat → Option Nat} {μ : Mu} {n : Nat} {e e' : Env} {a : Act} (h : RepE w0 ren μ n e a) (hk : ∀ t, e' t = e t ∨ e' t = .undef) : RepE w0 ren μ n e' a :=
  ⟨h.size, h.defers, fun t => by rcases hk t with h1 | h1 <;> rw [h1]; exact h.at_ t; exact .undef _⟩

section
variable {w0 : World} {ren : Nat → Option Nat} {P : Program}

/-- What loops are known to do. -/
def LoopOk (P : Program) (w0 : World) (ren : Nat → Option Nat) (L : LoopT) : Prop :=
  ∀ base ac e h p, L base ac e h = some p → ∀ (live : List (Nat × Ty)) (outs : List (Nat × List (Nat × Ty))) (rets : List (Nat × Ty)) (body : ACode), ac = .loop live outs rets body →
    ∀ n c μ a w, okCode P ren n body c = true → RepE w0 ren μ n e a → Inv w0 ren μ h w → base ≤ h.length →
    LoopWp P c (fun X a' w' => X = exOf p.1 ∧ ∃ μ', RepE w0 ren μ' n p.2.1 a' ∧ Step w0 ren base μ h w μ' p.2.2 w') a w

variable (hm : P.follows .mixedOrders = true) (hG : FnsOk P ren) {C : CallT} (hC : CallOk P w0 ren C) (hX : CExt C) {L : LoopT} (hL : LoopOk P w0 ren L) {base : Nat} {R : Type} {r : R} {n : Nat}
include hm hG hC hX hL
theorem den_sound : ∀ {ac : ACode} {c : Code} {Q : Exit → Act → World → Prop} {μ : Mu} {e : Env} {a : Act} {h : Heap} {w : World} {K : AExit → Env → Heap → Option R},
    okCode P ren n ac c = true → RepE w0 ren μ n e a → Inv w0 ren μ h w → base ≤ h.length → den base C L ac e h K = some r →
    (∀ x e' h' a' w' μ', K x e' h' = some r → RepE w0 ren μ' n e' a' → Step w0 ren base μ h w μ' h' w' → Q (exOf x) a' w') → c.wp P Q a w
  | .skip, c, Q, μ, e, a, h, w, K, hok, hE, I, hb, H, hQ => by
      cases c <;> simp [okCode] at hok
      exact wp_skip (hQ .normal e h a w μ H hE (.refl I))
  | .region its, c, Q, μ, e, a, h, w, K, hok, hE, I, hb, H, hQ => by
      cases c with
      | region id ops draw =>
        simp only [okCode, Bool.and_eq_true, Bool.or_eq_true, Bool.not_eq_true'] at hok
        obtain ⟨⟨h1, h2⟩, h3⟩ := hok
        simp only [den] at H
        have hrun : runG base C (flat its) e h (fun e h => K .normal e h) = some r := by
          rcases runItems_runG base C its e h (fun e h => K .normal e h) h2 with h4 | h4
          · rw [← h4]; exact H
          · rw [h4] at H; cases H
        cases draw with
        | false => exact wp_region_list (runG_sound hG hC h1 I hb hE hrun fun e' h' a' w' μ' hK hE' S => hQ .normal e' h' a' w' μ' hK hE' S)
        | true =>
          have h3 := h3.resolve_left (by simp)
          obtain ⟨es, hs, vs, e0, h0, htr, hK⟩ := runG_trace (flat its) hrun
          subst h0
          have T : Tr base C (flat its) es hs vs := ⟨hb, htr⟩
          have hN : (flat its).length = ops.size := by rw [(okGOpers_at h1).1]; simp
          refine wp_region_any hm ?_
          refine any_sound (μ0 := μ) (we := w.drew) hG hC hX h1 h3.2 h3.1 T (Q := Q) (fun a' w' μ' hE' S => hQ .normal _ _ a' w' μ' hK hE' S.drewL) ops.size (Array.replicate ops.size false) μ a w.drew (List.range ops.size) (by simp) (by simp) (fun i hi _ => by simpa using hi) ?_
          have hno : ∀ i, ¬ ((Array.replicate ops.size false).getD i false = true) := fun i => by
            rw [Array.getD_eq_getD_getElem?, Array.getElem?_replicate]
            split <;> simp
          have Ie : ∀ k, k ≤ (flat its).length → (∀ i g, (flat its)[i]? = some g → g.op.quiet = false → ((Array.replicate ops.size false).getD i false = true ↔ i < k)) → Inv w0 ren μ (hs k) w.drew := fun k hk hq => by
            refine I.drew.heap (T.quiet_ext hX (Nat.zero_le _) hk fun i g _ h5 h6 => ?_) (.refl _) (.refl _)
            cases h7 : g.op.quiet with
            | true => rfl
            | false => exact absurd ((hq i g h6 h7).2 h5) (hno i)
          have rsts : ∀ k, k ≤ (flat its).length → Sub μ (rst μ (hs k).length) := fun k hk l g x hx => rst_some.2 ⟨Nat.lt_of_lt_of_le (I.fresh _ _ _ hx).2.2 (T.len hX (Nat.zero_le _) hk), hx⟩
          refine ⟨fun j o _ hj => absurd hj (hno j), hE.size, hE.defers, fun t k hk hq => ?_, fun k hk hq => (Ie k hk hq).heap (HExt.refl _ _) (rsts k hk) (rst_sub _ _), fun l g x hx i hi _ hin => ?_, fun l g x hx => Nat.lt_of_lt_of_le (I.fresh _ _ _ hx).2.2 (T.len hX (Nat.zero_le _) (Nat.le_refl _)), I.inj, fun l g x hx => (I.fresh _ _ _ hx).2.1, ⟨.refl _, fun _ _ _ h => .inl h, ⟨rfl, rfl, rfl, Nat.le_refl _, fun _ _ _ => rfl⟩⟩⟩
          · have : es k t = es 0 t := T.slot (Nat.zero_le _) hk fun i g _ h5 h6 h7 => absurd ((hq i g h6 h7).2 h5) (hno i)
            rw [this, e0]
            exact (hE.at_ t).mono (rsts k hk)
          · have := T.len hX (Nat.zero_le i) (by omega : i ≤ (flat its).length)
            have := (I.fresh _ _ _ hx).2.2
            omega
      | _ => simp [okCode] at hok
  | .seq x y, c, Q, μ, e, a, h, w, K, hok, hE, I, hb, H, hQ => by
      cases c with
      | seq c1 c2 =>
        simp only [okCode, Bool.and_eq_true] at hok
        simp only [den] at H
        refine wp_seq (den_sound hok.1 hE I hb H fun x e' h' a' w' μ' hK hE' S => ?_)
        cases x with
        | normal =>
          exact den_sound hok.2 hE' S.inv (Nat.le_trans hb S.ext.1) hK fun x e2 h2 a2 w2 μ2 hK2 hE2 S2 => hQ x e2 h2 a2 w2 μ2 hK2 hE2 (S.trans S2)
        | exit j => exact hQ (.exit j) e' h' a' w' μ' hK hE' S
        | ret => exact hQ .ret e' h' a' w' μ' hK hE' S
      | _ => simp [okCode] at hok
  | .cond q x y, c, Q, μ, e, a, h, w, K, hok, hE, I, hb, H, hQ => by
      cases c with
      | cond q' c1 c2 =>
        simp only [okCode, Bool.and_eq_true] at hok
        obtain ⟨⟨h1, h2⟩, h3⟩ := hok
        simp only [den] at H
        obtain ⟨b, _, hb', H⟩ := boolK_rep (okOpd_rep (a := a) h1 fun t _ => hE.at_ t) H
        refine wp_cond hb' ?_
        cases b with
        | true => exact den_sound h2 hE I hb H hQ
        | false => exact den_sound h3 hE I hb (by simpa using H) hQ
      | _ => simp [okCode] at hok
  | .block id x, c, Q, μ, e, a, h, w, K, hok, hE, I, hb, H, hQ => by
      cases c with
      | block id' c1 =>
        simp only [okCode, Bool.and_eq_true, beq_iff_eq] at hok
        obtain ⟨rfl, hok⟩ := hok
        simp only [den] at H
        refine wp_block (den_sound hok hE I hb H fun x e' h' a' w' μ' hK hE' S => ?_)
        cases x with
        | normal => exact hQ .normal e' h' a' w' μ' hK hE' S
        | exit j =>
          dsimp only at hK
          simp only [exOf, Exit.inBlock]
          split at hK
          · rename_i hj
            rw [if_pos hj]
            exact hQ .normal e' h' a' w' μ' hK hE' S
          · rename_i hj
            rw [if_neg hj]
            exact hQ (.exit j) e' h' a' w' μ' hK hE' S
        | ret => exact hQ .ret e' h' a' w' μ' hK hE' S
      | _ => simp [okCode] at hok
  | .loop live outs rets x, c, Q, μ, e, a, h, w, K, hok, hE, I, hb, H, hQ => by
      cases c with
      | loop c1 =>
        simp only [okCode] at hok
        simp only [den] at H
        obtain ⟨e1, H, hk⟩ := castEnv_same _ _ _ _ H
        obtain ⟨p, hp, H⟩ := bind_some H
        have := hL _ _ _ _ _ hp _ _ _ _ rfl n c1 μ a w hok (hE.keep hk) I hb
        refine wp_mono (wp_of_loopWp this) fun X a' w' hX' => ?_
        obtain ⟨rfl, μ', hE', S⟩ := hX'
        exact hQ _ _ _ a' w' μ' H hE' S
      | _ => simp [okCode] at hok
  | .exit id, c, Q, μ, e, a, h, w, K, hok, hE, I, hb, H, hQ => by
      cases c <;> simp [okCode] at hok
      subst hok
      exact wp_exit (hQ (.exit id) e h a w μ H hE (.refl I))
  | .ret, c, Q, μ, e, a, h, w, K, hok, hE, I, hb, H, hQ => by
      cases c <;> simp [okCode] at hok
      exact wp_ret (hQ .ret e h a w μ H hE (.refl I))
  | .bad, c, Q, μ, e, a, h, w, K, hok, hE, I, hb, H, hQ => by simp [den] at H
end

section
variable {w0 : World} {ren : Nat → Option Nat} {P : Program}
/-- One result, as the model reads it. -/
def resSem (tmps : Array Value) (y : ResultVar) : Sem Value :=
  match y with
  | .tmp t => pure (tmps.getD t undef)
  | .cell b t => do loadVar t (← asAddr (tmps.getD b undef))
theorem results_eq (fn : Func) (tmps : Array Value) : results fn tmps = (do
    let vs ← fn.results.mapM (resSem tmps)
    pure (if h : vs.size = 1 then vs[0] else .tuple vs)) := rfl
/-- A result. -/
theorem resOne_sound {μ : Mu} {h : Heap} {w : World} {n : Nat} {e : Env} {a : Act} (I : Inv w0 ren μ h w) (hE : RepE w0 ren μ n e a) {x : ARes} {y : ResultVar} (hok : okRes P [x] [y] = true) {R : Type} {K : AV → Option R} {r : R} (H : resOne x e h K = some r) :
    ∃ v v', K v = some r ∧ RepV w0 ren μ v v' ∧ (resSem a.tmps y).run P w = .ok v' w := by
  unfold resSem
  cases x with
  | tmp t =>
    cases y with
    | tmp u =>
      simp [okRes] at hok
      subst hok
      exact ⟨_, _, H, hE.at_ t, rfl⟩
    | cell b t => simp [okRes] at hok
  | cell b k whole =>
    cases y with
    | tmp u => simp [okRes] at hok
    | cell b' t =>
      simp only [okRes, Bool.and_eq_true, beq_iff_eq] at hok
      obtain ⟨⟨rfl, h2⟩, _⟩ := hok
      simp only [resOne] at H
      obtain ⟨cs, us, bb, off, H, hy, hl, hL, hr, hone⟩ := readK_rep I (hE.at_ b) H
      split at h2
      · rename_i hrow
        simp only [Bool.and_eq_true, beq_iff_eq] at h2
        obtain ⟨hw, hn⟩ := h2
        subst hw
        obtain ⟨d, hd, hdr⟩ := isRow?_spec hrow
        refine ⟨_, .agg us.toArray, H, .agg _ _ hL.len hL.at_ hone, ?_⟩
        simp only [hy, asAddr, Sem.run_bind, Sem.run_pure, Result.andThen_ok]
        exact run_loadVar_mid (P := P) w bb off t us d hr hd hdr (by rw [← hL.len, hl]; exact hn)
      · rename_i hrow
        simp only [Bool.and_eq_true, beq_iff_eq, Bool.not_eq_true'] at h2
        obtain ⟨hw, hn⟩ := h2
        subst hw; subst hn
        obtain ⟨c, rfl⟩ : ∃ c, cs = [c] := by
          cases cs with
          | nil => simp at hl
          | cons c cs => cases cs with | nil => exact ⟨c, rfl⟩ | cons _ _ => simp at hl
        obtain ⟨u, rfl⟩ : ∃ u, us = [u] := by
          have := hL.len
          cases us with
          | nil => simp at this
          | cons u us => cases us with | nil => exact ⟨u, rfl⟩ | cons _ _ => simp at this
        refine ⟨c, u, H, hL.uncons.1, ?_⟩
        have hc := hr 0 u rfl
        simp only [Nat.add_zero] at hc
        simp only [hy, asAddr, Sem.run_bind, Sem.run_pure, Result.andThen_ok, loadVar, run_isAgg_row hrow, Sem.run_ite, Bool.false_eq_true, if_false, run_load, hc]
      · cases h2
theorem okRes_cons {x : ARes} {y : ResultVar} {xs : List ARes} {ys : List ResultVar} (h : okRes P (x :: xs) (y :: ys) = true) : okRes P [x] [y] = true ∧ okRes P xs ys = true := by
  cases x <;> cases y <;> simp [okRes] at h ⊢
  · exact h
  · exact h
theorem resList_sound {μ : Mu} {h : Heap} {w : World} {n : Nat} {e : Env} {a : Act} (I : Inv w0 ren μ h w) (hE : RepE w0 ren μ n e a) : ∀ {xs : List ARes} {ys : List ResultVar}, okRes P xs ys = true → ∀ {R : Type} {K : List AV → Option R} {r : R}, resList xs e h K = some r →
    ∃ vs us, K vs = some r ∧ RepL w0 ren μ vs us ∧ (ys.mapM (resSem a.tmps)).run P w = .ok us w
  | [], [], _, R, K, r, H => ⟨[], [], H, .nil, by simp⟩
  | x :: xs, y :: ys, hok, R, K, r, H => by
      obtain ⟨h1, h2⟩ := okRes_cons hok
      simp only [resList] at H
      obtain ⟨v, v', H, hv, hr⟩ := resOne_sound I hE h1 H
      obtain ⟨vs, us, H, hL, hrs⟩ := resList_sound I hE h2 H
      refine ⟨v :: vs, v' :: us, H, .cons hv hL, ?_⟩
      rw [List.mapM_cons]
      simp only [Sem.run_bind, hr, Result.andThen_ok, hrs, Sem.run_pure]
  | [], _ :: _, hok, R, K, r, H => by simp [okRes] at hok
  | x :: _, [], hok, R, K, r, H => by cases x <;> simp [okRes] at hok
theorem resK_sound {μ : Mu} {h : Heap} {w : World} {n : Nat} {e : Env} {a : Act} (I : Inv w0 ren μ h w) (hE : RepE w0 ren μ n e a) {fn : Func} {xs : List ARes} (hok : okRes P xs fn.results.toList = true) {p : AV × Heap} (H : resK xs e h = some p) :
    p.2 = h ∧ ∃ v', RepV w0 ren μ p.1 v' ∧ (results fn a.tmps).run P w = .ok v' w := by
  unfold resK at H
  obtain ⟨vs, us, H, hL, hr⟩ := resList_sound I hE hok H
  have hrun : (results fn a.tmps).run P w = .ok (if h : us.toArray.size = 1 then us.toArray[0] else .tuple us.toArray) w := by
    rw [results_eq, Array.mapM_eq_mapM_toList]
    simp only [Sem.run_bind, Sem.run_map, hr, Result.andThen_ok, Sem.run_pure]
  have hlen := hL.len
  split at H
  · rename_i v
    injection H with H
    subst H
    obtain ⟨u, rfl⟩ : ∃ u, us = [u] := by
      cases us with
      | nil => simp at hlen
      | cons u us => cases us with | nil => exact ⟨u, rfl⟩ | cons _ _ => simp at hlen
    exact ⟨rfl, u, hL.uncons.1, by rw [hrun]; rfl⟩
  · rename_i vs' hne
    injection H with H
    subst H
    have h1 : us.toArray.size ≠ 1 := by
      intro h
      simp at h
      rw [h] at hlen
      cases vs with
      | nil => simp at hlen
      | cons v vs => cases vs with | nil => exact hne v rfl | cons _ _ => simp at hlen
    exact ⟨rfl, .tuple us.toArray, .tup _ _ hL.len hL.at_, by rw [hrun, dif_neg h1]⟩

/-- What the seat's check says. -/
structure Seat (P : Program) (ren : Nat → Option Nat) (A : AProg) (w0 : World) : Prop where
  mixed : P.follows .mixedOrders = true
  fns : FnsOk P ren
  ok : ∀ f g fn, ren f = some g → A.fns g = some fn → okFunc P ren fn f = true
  ext : ∀ f g, ren f = some g → A.fns g = none → ∀ as h p, A.ext g as h = some p → ∀ vs μ w, RepL w0 ren μ as vs.toList → Inv w0 ren μ h w → Calls P f vs w fun e w' => ∃ v' μ', e = .returned v' ∧ RepV w0 ren μ' p.1 v' ∧ Step w0 ren h.length μ h w μ' p.2 w'
  extX : ∀ g as h p, A.ext g as h = some p → HExt h.length h p.2

theorem castL_len {R : Type} : ∀ {ts : List Ty} {cs : List AV} {K : List AV → Option R} {r : R}, castL ts cs K = some r → cs.length = ts.length
  | [], cs, K, r, H => by
      simp only [castL] at H
      split at H
      · rfl
      · cases H
  | t :: ts, cs, K, r, H => by
      simp only [castL] at H
      split at H
      · cases H
      · have H := castK_same _ _ _ _ H
        have := castL_len H
        simp [this]

theorem run_sound {A : AProg} (Se : Seat P ren A w0) : ∀ n, CallOk P w0 ren (callN A n) ∧ LoopOk P w0 ren (loopN A n)
  | 0 => ⟨fun _ _ _ _ _ h => by simp [callN] at h, fun _ _ _ _ _ h => by simp [loopN] at h⟩
  | n + 1 => by
      obtain ⟨i1, i2⟩ := run_sound Se n
      obtain ⟨x1, x2⟩ := runN_ext A Se.extX n
      constructor
      · intro base g as h p H f vs μ w hf hb hL I
        rw [callN] at H
        cases hfn : A.fns g with
        | none =>
          simp only [hfn] at H
          refine (Se.ext f g hf hfn _ _ _ H vs μ w hL I).mono fun e w' he => ?_
          obtain ⟨v', μ', h1, h2, h3⟩ := he
          exact ⟨v', μ', h1, h2, h3.floor hb⟩
        | some fn =>
          simp only [hfn] at H
          have hok := Se.ok f g fn hf hfn
          unfold okFunc at hok
          split at hok
          · rename_i fun_ hfun
            simp only [Bool.and_eq_true, decide_eq_true_eq] at hok
            obtain ⟨⟨⟨h1, h2⟩, _⟩, h4⟩ := hok
            split at h1
            · rename_i body hbody
              unfold bodyK at H
              have hlen := castL_len H
              have H := castL_same _ _ _ _ H
              refine calls_of_wp hfun hbody ?_
              have hsz : vs.size = as.length := by have := hL.len; simpa using this.symm
              have hE : RepE w0 ren μ fun_.ntmps (argEnv as) { tmps := vs ++ Array.replicate (fun_.ntmps - vs.size) undef, defers := [] } := by
                refine ⟨by simp; omega, rfl, fun t => ?_⟩
                unfold argEnv
                rw [Array.getD_eq_getD_getElem?]
                rcases Nat.lt_or_ge t as.length with ht | ht
                · rw [List.getElem?_eq_getElem ht, Array.getElem?_append_left (by omega), Array.getElem?_eq_getElem (by omega)]
                  exact hL.at_ t _ _ (List.getElem?_eq_getElem ht) (by simp)
                · rw [List.getElem?_eq_none ht]
                  exact .undef _
              refine den_sound Se.mixed Se.fns i1 x1 i2 h1 hE I hb H fun x e' h' a' w' μ' hK hE' S => ?_
              cases x with
              | exit j => cases hK
              | normal =>
                obtain ⟨h5, v', hv, hr⟩ := resK_sound S.inv hE' h2 hK
                exact ⟨hE'.defers, v', hr, v', μ', rfl, hv, h5 ▸ S⟩
              | ret =>
                obtain ⟨h5, v', hv, hr⟩ := resK_sound S.inv hE' h2 hK
                exact ⟨hE'.defers, v', hr, v', μ', rfl, hv, h5 ▸ S⟩
            · cases h1
          · cases hok
      · intro base ac e h p H live outs rets body hac m c μ a w hok hE I hb
        subst hac
        rw [loopN] at H
        refine loopWp_unroll (den_sound Se.mixed Se.fns i1 x1 i2 hok hE I hb H fun x e' h' a' w' μ' hK hE' S => ?_)
        cases x with
        | normal =>
          obtain ⟨e2, hK, hk⟩ := castEnv_same _ _ _ _ hK
          have := i2 _ _ _ _ _ hK _ _ _ _ rfl m c μ' a' w' hok (hE'.keep hk) S.inv (Nat.le_trans hb S.ext.1)
          intro b k cs
          obtain ⟨X, a2, w2, ⟨hX, μ2, hE2, S2⟩, harr⟩ := this b k cs
          exact ⟨X, a2, w2, ⟨hX, μ2, hE2, S.trans S2⟩, harr⟩
        | exit j =>
          simp only [roundK] at hK
          obtain ⟨e2, hK, hk⟩ := outK_same hK
          injection hK with hK
          subst hK
          exact ⟨rfl, μ', hE'.keep hk, S⟩
        | ret =>
          obtain ⟨e2, hK, hk⟩ := castEnv_same _ _ _ _ hK
          injection hK with hK
          subst hK
          exact ⟨rfl, μ', hE'.keep hk, S⟩

/-- What the abstract machine tells of a call holds. -/
theorem call_sound {A : AProg} (Se : Seat P ren A w0) : CallOk P w0 ren (call A) := by
  intro base g as h p H
  obtain ⟨n, hn⟩ := (call_some A).1 H
  exact (run_sound Se n).1 base g as h p hn
end
end Go.AM
