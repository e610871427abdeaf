import Derived.Test.YtfdbegdgedhhcaaGreatAmSound
set_option linter.all false
/- What the abstract machine leaves alone; regions as lists of guarded operations. -/
namespace Go.AM
open Go.RowKit
set_option linter.unusedVariables false
section
variable {R : Type}

theorem HExt.refl (b : Nat) (h : Heap) : HExt b h h := ⟨Nat.le_refl _, fun _ _ => rfl⟩
theorem HExt.trans {b : Nat} {h h' h'' : Heap} (x : HExt b h h') (y : HExt b h' h'') : HExt b h h'' := ⟨Nat.le_trans x.1 y.1, fun l hl => (y.2 l hl).trans (x.2 l hl)⟩
theorem HExt.mono {b b' : Nat} {h h' : Heap} (x : HExt b h h') (hb : b' ≤ b) : HExt b' h h' := ⟨x.1, fun l hl => x.2 l (Nat.lt_of_lt_of_le hl hb)⟩
theorem HExt.app (b : Nat) (h : Heap) (hb : b ≤ h.length) (o : AObj) : HExt b h (h ++ [o]) := ⟨by simp, fun l hl => by rw [List.getElem?_append_left (by omega)]⟩
theorem HExt.set {b : Nat} {h : Heap} {l : Nat} (hl : b ≤ l) (o : AObj) : HExt b h (h.set l o) := ⟨by simp, fun l' hl' => by rw [List.getElem?_set_ne (by omega)]⟩
/-- All of it is there still. -/
theorem HExt.front {h h' : Heap} (x : HExt h.length h h') : ∃ t, h' = h ++ t := by
  refine ⟨h'.drop h.length, ?_⟩
  apply List.ext_getElem?
  intro i
  rcases Nat.lt_or_ge i h.length with hi | hi
  · rw [List.getElem?_append_left hi, x.2 i hi]
  · rw [List.getElem?_append_right hi, List.getElem?_drop]
    congr 1; omega

def CExt (C : CallT) : Prop := ∀ b g as h p, b ≤ h.length → C b g as h = some p → HExt b h p.2

theorem blockK_via {h : Heap} {l g : Nat} {K : Nat → List AV → Option R} {r : R} (H : blockK h l g K = some r) : ∃ s cs, K s cs = some r := by
  unfold blockK at H
  split at H
  · split at H
    · exact ⟨_, _, H⟩
    · cases H
  · cases H
theorem readK_via {h : Heap} {p : AV} {n : Nat} {K : List AV → Option R} {r : R} (H : readK h p n K = some r) : ∃ cs, K cs = some r := by
  unfold readK at H
  split at H
  · obtain ⟨s, cs, H⟩ := blockK_via H
    split at H
    · exact ⟨_, H⟩
    · cases H
  · split at H
    · exact ⟨_, H⟩
    · cases H
  · cases H
theorem sliceK_via {h : Heap} {s : Nat} {p : AV} {K : List AV → Option R} {r : R} (H : sliceK h s p K = some r) : ∃ cs, K cs = some r := by
  unfold sliceK at H
  split at H
  · exact ⟨_, H⟩
  · split at H
    · exact ⟨_, H⟩
    · cases H
  · obtain ⟨s, cs, H⟩ := blockK_via H
    split at H
    · exact ⟨_, H⟩
    · cases H
  · cases H
theorem lenK_via {v : AV} {K : Nat → Option R} {r : R} (H : lenK v K = some r) : ∃ n, K n = some r := by unfold lenK at H; split at H <;> first | exact ⟨_, H⟩ | cases H
theorem intK_via {v : AV} {K : IntKind → Int → Option R} {r : R} (H : intK v K = some r) : ∃ k n, K k n = some r := by unfold intK at H; split at H <;> first | exact ⟨_, _, H⟩ | cases H
theorem boolK_via {v : AV} {K : Bool → Option R} {r : R} (H : boolK v K = some r) : ∃ n, K n = some r := by unfold boolK at H; split at H <;> first | exact ⟨_, H⟩ | cases H
theorem cellsK_via {v : AV} {K : List AV → Option R} {r : R} (H : cellsK v K = some r) : ∃ n, K n = some r := by unfold cellsK at H; split at H <;> first | exact ⟨_, H⟩ | cases H
theorem layParts_via {e : Env} : ∀ {ps : List (Nat × Nat × Opd)} {cs : List AV} {K : List AV → Option R} {r : R}, layParts e cs ps K = some r → ∃ n, K n = some r
  | [], cs, K, r, H => ⟨_, H⟩
  | p :: ps, cs, K, r, H => by
      simp only [layParts] at H
      obtain ⟨vs, H⟩ := cellsK_via H
      split at H
      · exact layParts_via H
      · cases H

theorem still_heap {C : CallT} {base : Nat} {op : AOp} {e : Env} {h h' : Heap} {v : AV} (hs : op.still = true) (H : (execK base C op e h fun v h => some (v, h)) = some (v, h')) : h' = h := by
  cases op <;> simp [AOp.still] at hs <;> simp only [execK] at H
  case move => simp at H; exact H.2.symm
  case pick => obtain ⟨q, H⟩ := boolK_via H; cases q <;> simp at H <;> exact H.2.symm
  case build => obtain ⟨q, H⟩ := layParts_via H; simp at H; exact H.2.symm
  case nilCheck => split at H <;> simp at H <;> exact H.2.symm
  case bin op q x y =>
    rw [show (binK op q (e.ev x) (e.ev y) fun v => some (v, h)) = (binK op q (e.ev x) (e.ev y) some).bind fun v => some (v, h) from (binK_nat (fun v => some (v, h)) op q _ _ some).symm] at H
    obtain ⟨_, _, H⟩ := bind_some H; simp at H; exact H.2.symm
  case un op x =>
    rw [show (unK op (e.ev x) fun v => some (v, h)) = (unK op (e.ev x) some).bind fun v => some (v, h) from (unK_nat (fun v => some (v, h)) op _ some).symm] at H
    obtain ⟨_, _, H⟩ := bind_some H; simp at H; exact H.2.symm
  case conv => obtain ⟨_, _, H⟩ := intK_via H; simp at H; exact H.2.symm
  case mkfn => simp at H; exact H.2.symm
  case cutStr =>
    split at H
    · obtain ⟨_, _, H⟩ := intK_via H; obtain ⟨_, _, H⟩ := intK_via H; split at H <;> simp at H; exact H.2.symm
    · cases H
  case fieldAddr => split at H <;> simp at H <;> exact H.2.symm
  case indexAddr =>
    obtain ⟨_, _, H⟩ := intK_via H
    split at H
    · split at H <;> simp at H; exact H.2.symm
    · split at H <;> simp at H; exact H.2.symm
    · cases H
  case index =>
    obtain ⟨_, _, H⟩ := intK_via H
    split at H
    · split at H <;> simp at H; exact H.2.symm
    · cases H
  case field =>
    split at H
    · split at H
      · split at H <;> simp at H <;> exact H.2.symm
      · cases H
    · cases H
  case extract =>
    split at H
    · obtain ⟨_, _, H⟩ := bind_some H; simp at H; exact H.2.symm
    · cases H
  case len => obtain ⟨_, H⟩ := lenK_via H; simp at H; exact H.2.symm
  case lenStr => split at H <;> simp at H; exact H.2.symm
  case max => obtain ⟨_, _, H⟩ := intK_via H; obtain ⟨_, _, H⟩ := intK_via H; simp at H; exact H.2.symm
  case min => obtain ⟨_, _, H⟩ := intK_via H; obtain ⟨_, _, H⟩ := intK_via H; simp at H; exact H.2.symm

/-- What an operation may change. -/
theorem exec_ext {C : CallT} (hC : CExt C) {base : Nat} {op : AOp} {e : Env} {h h' : Heap} {v : AV} (hb : base ≤ h.length) (H : (execK base C op e h fun v h => some (v, h)) = some (v, h')) :
    HExt (if op.quiet = true then h.length else base) h h' := by
  have same : ∀ b, h' = h → HExt b h h' := fun b e => e ▸ HExt.refl b h
  cases hs : op.still with
  | true =>
    have : h' = h := still_heap hs H
    exact same _ this
  | false =>
    cases op <;> simp [AOp.still] at hs <;> simp only [execK] at H <;> simp only [AOp.quiet, AOp.still, if_true, Bool.false_eq_true, if_false]
    case alloc => simp at H; rw [← H.2]; exact .app _ _ (Nat.le_refl _) _
    case box => obtain ⟨_, H⟩ := cellsK_via H; simp at H; rw [← H.2]; exact .app _ _ (Nat.le_refl _) _
    case buildSlice => obtain ⟨_, H⟩ := layParts_via H; simp at H; rw [← H.2]; exact .app _ _ (Nat.le_refl _) _
    case load n whole ty x =>
      obtain ⟨cs, H⟩ := readK_via H
      split at H
      · have H := castK_same _ _ _ _ H; simp at H; exact same _ H.2.symm
      · have H := castK_same _ _ _ _ H; simp at H; exact same _ H.2.symm
      · cases H
    case store =>
      split at H
      · split at H
        · obtain ⟨_, H⟩ := cellsK_via H
          split at H
          · obtain ⟨_, _, H⟩ := blockK_via H
            split at H
            · simp at H; rw [← H.2]; exact .set (by assumption) _
            · cases H
          · cases H
        · cases H
      · cases H
    case bytesToStr => obtain ⟨_, H⟩ := sliceK_via H; obtain ⟨_, _, H⟩ := bind_some H; simp at H; exact same _ H.2.symm
    case makeSlice =>
      obtain ⟨_, _, H⟩ := intK_via H
      split at H
      · simp at H; rw [← H.2]; exact .app _ _ (Nat.le_refl _) _
      · cases H
    case cut =>
      obtain ⟨_, H⟩ := lenK_via H; obtain ⟨_, _, H⟩ := intK_via H; obtain ⟨_, _, H⟩ := intK_via H
      split at H
      · split at H
        · simp at H; exact same _ H.2.symm
        · simp at H; exact same _ H.2.symm
        · obtain ⟨_, _, H⟩ := blockK_via H
          split at H
          · simp at H; exact same _ H.2.symm
          · cases H
        · cases H
      · cases H
    case append =>
      obtain ⟨_, H⟩ := sliceK_via H; obtain ⟨_, H⟩ := lenK_via H
      split at H
      · split at H
        · split at H
          · split at H
            · simp at H; exact same _ H.2.symm
            · simp at H; rw [← H.2]; exact .app _ _ hb _
          · cases H
        · split at H
          · rename_i hc
            obtain ⟨_, _, H⟩ := blockK_via H
            split at H
            · simp at H; rw [← H.2]; exact .set hc.1 _
            · cases H
          · cases H
        · cases H
      · cases H
    case copy =>
      obtain ⟨_, H⟩ := sliceK_via H; obtain ⟨_, H⟩ := lenK_via H
      split at H
      · split at H
        · rename_i hc
          obtain ⟨_, _, H⟩ := blockK_via H
          split at H
          · simp at H; rw [← H.2]; exact .set hc.1 _
          · cases H
        · cases H
      · cases H
    case clear =>
      split at H
      · simp at H; exact same _ H.2.symm
      · split at H
        · obtain ⟨_, _, H⟩ := blockK_via H
          split at H
          · simp at H; rw [← H.2]; exact .set (by assumption) _
          · cases H
        · cases H
      · cases H
    case call q ty g as =>
      obtain ⟨p, hp, H⟩ := bind_some H
      have H := castK_same _ _ _ _ H
      simp at H; rw [← H.2]
      exact hC _ _ _ _ _ (by cases q <;> simp [hb]) hp
    case callv q ty x as =>
      split at H
      · obtain ⟨p, hp, H⟩ := bind_some H
        have H := castK_same _ _ _ _ H
        simp at H; rw [← H.2]
        exact hC _ _ _ _ _ (by cases q <;> simp [hb]) hp
      · cases H
    case makeMap => simp at H; rw [← H.2]; exact .app _ _ (Nat.le_refl _) _
    case lookup =>
      split at H
      · split at H
        · have H := castK_same _ _ _ _ H; simp at H; exact same _ H.2.symm
        · cases H
      · cases H
    case mapUpdate =>
      split at H
      · split at H
        · split at H
          · split at H
            · simp at H; rw [← H.2]; exact .set (by assumption) _
            · cases H
          · cases H
        · cases H
      · cases H
    case range =>
      split at H
      · simp at H; rw [← H.2]; exact .app _ _ (Nat.le_refl _) _
      · cases H
    case next =>
      split at H
      · split at H
        · split at H
          · split at H
            · simp at H; rw [← H.2]; exact .set (by assumption) _
            · simp at H; exact same _ H.2.symm
          · cases H
        · cases H
      · cases H
    case bad => cases H

/-- A quiet operation doesn't ask for the floor. -/
theorem quiet_base {C : CallT} {base : Nat} {op : AOp} (hq : op.quiet = true) (e : Env) (h : Heap) (K : AV → Heap → Option R) : execK base C op e h K = execK h.length C op e h K := by
  cases op <;> simp [AOp.quiet, AOp.still] at hq <;> simp only [execK] <;> (try subst hq) <;> simp

variable (base : Nat) (C : CallT)
def stepGK (o : GOper) (e : Env) (h : Heap) (K : AV → Heap → Option R) : Option R :=
  match o.grd with
  | none => execK base C o.op e h K
  | some (s, want) => match e s with
    | .bool b => if b = want then execK base C o.op e h K else K (.tup []) h
    | .tup [] => K (.tup []) h
    | _ => none
def runG : List GOper → Env → Heap → (Env → Heap → Option R) → Option R
  | [], e, h, K => K e h
  | o :: os, e, h, K => stepGK base C o e h fun v h => runG os (e.put o.dst v) h K

theorem runG_append : ∀ (l m : List GOper) (e : Env) (h : Heap) (K : Env → Heap → Option R), runG base C (l ++ m) e h K = runG base C l e h fun e h => runG base C m e h K
  | [], m, e, h, K => rfl
  | o :: l, m, e, h, K => by
      simp only [List.cons_append, runG]
      congr 1
      funext v h
      exact runG_append l m _ _ _
theorem put_ne {e : Env} {d : Option Nat} {s : Nat} (h : d ≠ some s) (v : AV) : (e.put d v) s = e s := by
  cases d with
  | none => rfl
  | some d =>
    simp only [Env.put]
    rw [if_neg (fun e => h (by rw [e]))]
theorem put_same {e : Env} {s : Nat} {v : AV} (h : e s = v) : e.put (some s) v = e := by
  funext i
  simp only [Env.put]
  split
  · rename_i hi; rw [hi, h]
  · rfl
theorem runOps_runG (s : Nat) (want : Bool) : ∀ (os : List AOper) (e : Env) (h : Heap) (K : Env → Heap → Option R), (∀ o ∈ os, o.dst ≠ some s) → e s = .bool want → runOps base C os e h K = runG base C (flatG s want os) e h K
  | [], e, h, K, _, _ => rfl
  | o :: os, e, h, K, hd, he => by
      simp only [runOps, flatG, runG, stepGK, he, if_true]
      congr 1
      funext v h
      exact runOps_runG s want os _ _ _ (fun o ho => hd o (by simp [ho])) (by rw [put_ne (hd o (by simp))]; exact he)
theorem passOver_runG (s : Nat) (want : Bool) : ∀ (os : List AOper) (e : Env) (h : Heap) (K : Env → Heap → Option R), (∀ o ∈ os, o.dst ≠ some s) → (e s = .bool (!want) ∨ e s = .tup []) → K (passOver os e) h = runG base C (flatG s want os) e h K
  | [], e, h, K, _, _ => rfl
  | o :: os, e, h, K, hd, he => by
      have ih := passOver_runG s want os (e.put o.dst (.tup [])) h K (fun o ho => hd o (by simp [ho])) (by rw [put_ne (hd o (by simp))]; exact he)
      simp only [passOver, flatG, runG, stepGK]
      rcases he with he | he
      · rw [he]
        dsimp only
        rw [if_neg (by cases want <;> simp)]
        exact ih
      · rw [he]
        exact ih
theorem runItems_runG : ∀ (its : List AItem) (e : Env) (h : Heap) (K : Env → Heap → Option R), okItems its = true → runItems base C its e h K = runG base C (flat its) e h K ∨ runItems base C its e h K = none
  | [], e, h, K, _ => .inl rfl
  | .one o :: r, e, h, K, hok => by
      simp only [okItems] at hok
      by_cases hn : runItems base C (.one o :: r) e h K = none
      · exact .inr hn
      · refine .inl ?_
        simp only [runItems, flat, runG, stepGK] at hn ⊢
        rw [execK_via] at hn ⊢
        rw [execK_via (K := fun v h => runG base C (flat r) (e.put o.dst v) h K)]
        cases hx : (execK base C o.op e h fun v h => some (v, h)) with
        | none => rfl
        | some p =>
          rw [hx] at hn
          simp only [Option.bind_some] at hn ⊢
          rcases runItems_runG r _ _ K hok with h1 | h1
          · exact h1
          · exact absurd h1 hn
  | .grd s want os :: r, e, h, K, hok => by
      simp only [okItems, Bool.and_eq_true, List.all_eq_true, bne_iff_ne, ne_eq] at hok
      obtain ⟨hd, hok⟩ := hok
      by_cases hn : runItems base C (.grd s want os :: r) e h K = none
      · exact .inr hn
      · refine .inl ?_
        have tail : ∀ e h, runItems base C r e h K ≠ none → runItems base C r e h K = runG base C (flat r) e h K := fun e h hne => (runItems_runG r e h K hok).resolve_right hne
        have hrun : ∀ b, e s = .bool b → (runOps base C os e h fun e h => runItems base C r e h K) ≠ none → (runOps base C os e h fun e h => runItems base C r e h K) = runOps base C os e h fun e h => runG base C (flat r) e h K := fun b hb hne => by
          have e1 := runOps_nat (fun p : Env × Heap => runItems base C r p.1 p.2 K) base C os e h fun e h => some (e, h)
          have e2 := runOps_nat (fun p : Env × Heap => runG base C (flat r) p.1 p.2 K) base C os e h fun e h => some (e, h)
          simp only [Option.bind_some] at e1 e2
          rw [← e1] at hne ⊢
          rw [← e2]
          cases hx : (runOps base C os e h fun e h => some (e, h)) with
          | none => rfl
          | some p =>
            rw [hx] at hne
            exact tail _ _ hne
        simp only [runItems, flat] at hn ⊢
        rw [runG_append]
        cases hes : e s with
        | bool b =>
          rw [hes] at hn
          dsimp only at hn ⊢
          cases b with
          | true =>
            simp only [if_true] at hn ⊢
            rw [put_same hes] at hn ⊢
            cases want with
            | true =>
              dsimp only at hn ⊢
              rw [hrun true hes hn]
              exact runOps_runG base C s true os e h _ hd hes
            | false =>
              dsimp only at hn ⊢
              rw [tail _ _ hn]
              exact passOver_runG base C s false os e h (fun e h => runG base C (flat r) e h K) hd (.inl hes)
          | false =>
            simp only [Bool.false_eq_true, if_false] at hn ⊢
            rw [put_same hes] at hn ⊢
            cases want with
            | false =>
              dsimp only at hn ⊢
              rw [hrun false hes hn]
              exact runOps_runG base C s false os e h _ hd hes
            | true =>
              dsimp only at hn ⊢
              rw [tail _ _ hn]
              exact passOver_runG base C s true os e h (fun e h => runG base C (flat r) e h K) hd (.inl hes)
        | tup vs =>
          rw [hes] at hn
          cases vs with
          | nil =>
            dsimp only at hn ⊢
            rw [tail _ _ hn]
            exact passOver_runG base C s want os e h (fun e h => runG base C (flat r) e h K) hd (.inr hes)
          | cons _ _ => exact absurd rfl hn
        | _ => rw [hes] at hn; exact absurd rfl hn
end

section
variable {C : CallT} (hC : CExt C)
include hC
theorem stepGK_ext {base : Nat} {o : GOper} {e : Env} {h h' : Heap} {v : AV} (hb : base ≤ h.length) (H : (stepGK base C o e h fun v h => some (v, h)) = some (v, h')) :
    HExt (if o.op.quiet = true then h.length else base) h h' := by
  unfold stepGK at H
  split at H
  · exact exec_ext hC hb H
  · split at H
    · split at H
      · exact exec_ext hC hb H
      · simp at H; rw [← H.2]; exact .refl _ _
    · simp at H; rw [← H.2]; exact .refl _ _
    · cases H
end
end Go.AM
