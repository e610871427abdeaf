import Derived.Test.YtfdbegdgedhhcaaGreatAmCore
set_option linter.all false
/- The abstract machine's calls and loops without a count of rounds: the limit, and its equations. -/
namespace Go.AM
set_option linter.unusedVariables false

section nat
variable {R S : Type} (f : R → Option S)

mutual
theorem castK_nat : ∀ (t : Ty) (v : AV) (K : AV → Option R), (castK t v K).bind f = castK t v fun x => (K x).bind f
  | .any, v, K => by simp only [castK]
  | .int k, v, K => by
      simp only [castK]
      split
      · split <;> rfl
      · rfl
  | .bool, v, K => by simp only [castK]; split <;> rfl
  | .str, v, K => by simp only [castK]; split <;> rfl
  | .agg ts, v, K => by
      simp only [castK]
      split
      · exact castL_nat ts _ _
      · rfl
  | .tup ts, v, K => by
      simp only [castK]
      split
      · exact castL_nat ts _ _
      · rfl
theorem castL_nat : ∀ (ts : List Ty) (cs : List AV) (K : List AV → Option R), (castL ts cs K).bind f = castL ts cs fun x => (K x).bind f
  | [], cs, K => by simp only [castL]; split <;> rfl
  | t :: ts, cs, K => by
      simp only [castL]
      split
      · rfl
      · rw [castK_nat t]
        congr 1
        funext c
        exact castL_nat ts _ _
end

theorem castEnv_nat : ∀ (l : List (Nat × Ty)) (e : Env) (K : Env → Option R), (castEnv l e K).bind f = castEnv l e fun x => (K x).bind f
  | [], e, K => by simp only [castEnv]
  | x :: r, e, K => by
      simp only [castEnv]
      rw [castK_nat]
      congr 1
      funext v
      exact castEnv_nat r _ _

theorem blockK_nat (h : Heap) (l g : Nat) (K : Nat → List AV → Option R) : (blockK h l g K).bind f = blockK h l g fun s cs => (K s cs).bind f := by
  unfold blockK
  split
  · split <;> rfl
  · rfl
theorem readK_nat (h : Heap) (p : AV) (n : Nat) (K : List AV → Option R) : (readK h p n K).bind f = readK h p n fun cs => (K cs).bind f := by
  unfold readK
  split
  · rw [blockK_nat]; congr 1; funext s cs; split <;> rfl
  · split <;> rfl
  · rfl
theorem sliceK_nat (h : Heap) (s : Nat) (v : AV) (K : List AV → Option R) : (sliceK h s v K).bind f = sliceK h s v fun cs => (K cs).bind f := by
  unfold sliceK
  split
  · rfl
  · split <;> rfl
  · rw [blockK_nat]; congr 1; funext s cs; split <;> rfl
  · rfl
theorem lenK_nat (v : AV) (K : Nat → Option R) : (lenK v K).bind f = lenK v fun n => (K n).bind f := by unfold lenK; split <;> rfl
theorem intK_nat (v : AV) (K : IntKind → Int → Option R) : (intK v K).bind f = intK v fun k n => (K k n).bind f := by unfold intK; split <;> rfl
theorem boolK_nat (v : AV) (K : Bool → Option R) : (boolK v K).bind f = boolK v fun b => (K b).bind f := by unfold boolK; split <;> rfl
theorem cellsK_nat (v : AV) (K : List AV → Option R) : (cellsK v K).bind f = cellsK v fun cs => (K cs).bind f := by unfold cellsK; split <;> rfl
theorem intBin_nat (op : BinOp) (k : IntKind) (a b : Int) (K : AV → Option R) : (intBin op k a b K).bind f = intBin op k a b fun v => (K v).bind f := by
  unfold intBin
  split <;> first | rfl | (split <;> rfl)
theorem binK_nat (op : BinOp) (q : Nat) (x y : AV) (K : AV → Option R) : (binK op q x y K).bind f = binK op q x y fun v => (K v).bind f := by
  unfold binK
  split
  · split
    · split <;> rfl
    · split <;> rfl
    · split
      · exact intBin_nat f _ _ _ _ _
      · rfl
  · split
    · split <;> rfl
    · rfl
  · split
    · split <;> rfl
    · rfl
    · rfl
    · rfl
  · split
    · split <;> rfl
    · rfl
  · split
    · split <;> rfl
    · rfl
  · split
    · split <;> rfl
    · rfl
  · split
    · split
      · cases intsEq _ _ <;> rfl
      · cases intsEq _ _ <;> rfl
      · rfl
    · rfl
  · rfl
theorem unK_nat (op : UnOp) (x : AV) (K : AV → Option R) : (unK op x K).bind f = unK op x fun v => (K v).bind f := by
  unfold unK
  split <;> first | rfl | (split <;> rfl)
theorem layParts_nat (e : Env) : ∀ (ps : List (Nat × Nat × Opd)) (cs : List AV) (K : List AV → Option R), (layParts e cs ps K).bind f = layParts e cs ps fun v => (K v).bind f
  | [], cs, K => by simp only [layParts]
  | p :: r, cs, K => by
      simp only [layParts]
      rw [cellsK_nat]
      congr 1
      funext vs
      split
      · exact layParts_nat e r _ _
      · rfl

variable (base : Nat) (C : CallT)
theorem ite_nat {c : Prop} [Decidable c] (x y : Option R) : (if c then x else y).bind f = if c then x.bind f else y.bind f := by split <;> rfl
theorem execK_nat (op : AOp) (e : Env) (h : Heap) (K : AV → Heap → Option R) : (execK base C op e h K).bind f = execK base C op e h fun v h => (K v h).bind f := by
  cases op with
  | load n whole ty x =>
    simp only [execK]
    rw [readK_nat]
    congr 1
    funext cs
    split
    · exact castK_nat f _ _ _
    · exact castK_nat f _ _ _
    · rfl
  | pick c a b =>
    simp only [execK]
    rw [boolK_nat]
    congr 1
    funext q
    split <;> rfl
  | box x => simp only [execK]; rw [cellsK_nat]
  | build zs ps => simp only [execK]; rw [layParts_nat]
  | buildSlice s len zs ps => simp only [execK]; rw [layParts_nat]
  | store n a x =>
    simp only [execK]
    split
    · split
      · rw [cellsK_nat]; congr 1; funext vs
        split
        · rw [blockK_nat]; congr 1; funext s cs; split <;> rfl
        · rfl
      · rfl
    · rfl
  | nilCheck x => simp only [execK]; split <;> rfl
  | bin op q x y => simp only [execK]; rw [binK_nat]
  | un op x => simp only [execK]; rw [unK_nat]
  | conv k x => simp only [execK]; rw [intK_nat]
  | bytesToStr x => simp only [execK]; rw [sliceK_nat]; congr 1; funext cs; cases bytesOf cs <;> rfl
  | makeSlice s bytes zs x => simp only [execK]; rw [intK_nat]; congr 1; funext k n; split <;> rfl
  | cut s x lo hi =>
    simp only [execK]
    rw [lenK_nat]; congr 1; funext n
    rw [intK_nat]; congr 1; funext _ b
    rw [intK_nat]; congr 1; funext _ a
    split
    · split
      · rfl
      · rfl
      · rw [blockK_nat]; congr 1; funext s' cs; split <;> rfl
      · rfl
    · rfl
  | cutStr x lo hi =>
    simp only [execK]
    split
    · rw [intK_nat]; congr 1; funext _ b
      rw [intK_nat]; congr 1; funext _ a
      split <;> rfl
    · rfl
  | lenStr x => simp only [execK]; split <;> rfl
  | fieldAddr o x => simp only [execK]; split <;> rfl
  | indexAddr s x i =>
    simp only [execK]
    rw [intK_nat]; congr 1; funext _ i
    split
    · split <;> rfl
    · split <;> rfl
    · rfl
  | index x i =>
    simp only [execK]
    rw [intK_nat]; congr 1; funext _ i
    split
    · split <;> rfl
    · rfl
  | field off n whole x =>
    simp only [execK]
    split
    · split
      · split <;> rfl
      · rfl
    · rfl
  | extract x i =>
    simp only [execK]
    split
    · rename_i vs _
      cases vs[i]? <;> rfl
    · rfl
  | len x => simp only [execK]; rw [lenK_nat]
  | append s bytes x y =>
    simp only [execK]
    rw [sliceK_nat]; congr 1; funext ys
    rw [lenK_nat]; congr 1; funext m
    split
    · split
      · split
        · split <;> rfl
        · rfl
      · split
        · rw [blockK_nat]; congr 1; funext s' cs; split <;> rfl
        · rfl
      · rfl
    · rfl
  | max x y => simp only [execK]; rw [intK_nat]; congr 1; funext k a; rw [intK_nat]
  | min x y => simp only [execK]; rw [intK_nat]; congr 1; funext k a; rw [intK_nat]
  | copy s x y =>
    simp only [execK]
    rw [sliceK_nat]; congr 1; funext ys
    rw [lenK_nat]; congr 1; funext m
    split
    · split
      · rw [blockK_nat]; congr 1; funext s' cs; split <;> rfl
      · rfl
    · rfl
  | clear s zs x =>
    simp only [execK]
    split
    · rfl
    · split
      · rw [blockK_nat]; congr 1; funext s' cs; split <;> rfl
      · rfl
    · rfl
  | call q ty g as =>
    simp only [execK]
    cases C (if q = true then h.length else base) g (evs e as) h with
    | none => rfl
    | some p => exact castK_nat f _ _ _
  | callv q ty x as =>
    simp only [execK]
    split
    · rename_i g cap _
      cases C (if q = true then h.length else base) g (evs e as ++ cap) h with
      | none => rfl
      | some p => exact castK_nat f _ _ _
    · rfl
  | lookup zero ty m k =>
    simp only [execK]
    split
    · split
      · exact castK_nat f _ _ _
      · rfl
    · rfl
  | mapUpdate m k v =>
    simp only [execK]
    split
    · split
      · split
        · split <;> rfl
        · rfl
      · rfl
    · rfl
  | range x => simp only [execK]; split <;> rfl
  | next x =>
    simp only [execK]
    split
    · split
      · split
        · split <;> rfl
        · rfl
      · rfl
    · rfl
  | _ => simp only [execK] <;> rfl

theorem runOps_nat : ∀ (os : List AOper) (e : Env) (h : Heap) (K : Env → Heap → Option R), (runOps base C os e h K).bind f = runOps base C os e h fun e h => (K e h).bind f
  | [], e, h, K => rfl
  | o :: os, e, h, K => by
      simp only [runOps]
      rw [execK_nat]; congr 1; funext v h
      exact runOps_nat os _ _ _
theorem runItems_nat : ∀ (its : List AItem) (e : Env) (h : Heap) (K : Env → Heap → Option R), (runItems base C its e h K).bind f = runItems base C its e h fun e h => (K e h).bind f
  | [], e, h, K => rfl
  | .one o :: r, e, h, K => by
      simp only [runItems]
      rw [execK_nat]; congr 1; funext v h
      exact runItems_nat r _ _ _
  | .grd s want os :: r, e, h, K => by
      simp only [runItems]
      split
      · split
        · cases want
          · exact runItems_nat r _ _ _
          · show (runOps base C os _ h _).bind f = runOps base C os _ h _
            rw [runOps_nat]; congr 1; funext e h
            exact runItems_nat r _ _ _
        · cases want
          · show (runOps base C os _ h _).bind f = runOps base C os _ h _
            rw [runOps_nat]; congr 1; funext e h
            exact runItems_nat r _ _ _
          · exact runItems_nat r _ _ _
      · exact runItems_nat r _ _ _
      · rfl
theorem outK_nat : ∀ (outs : List (Nat × List (Nat × Ty))) (j : Nat) (e : Env) (K : Nat → Env → Option R), (outK outs j e K).bind f = outK outs j e fun j e => (K j e).bind f
  | [], j, e, K => rfl
  | x :: r, j, e, K => by
      simp only [outK]
      split
      · exact castEnv_nat f _ _ _
      · exact outK_nat r _ _ _
theorem roundK_nat (live : List (Nat × Ty)) (outs : List (Nat × List (Nat × Ty))) (rets : List (Nat × Ty)) (next : Env → Heap → Option R) (K : AExit → Env → Heap → Option R) (x : AExit) (e : Env) (h : Heap) :
    (roundK live outs rets next K x e h).bind f = roundK live outs rets (fun e h => (next e h).bind f) (fun x e h => (K x e h).bind f) x e h := by
  cases x with
  | normal => exact castEnv_nat f _ _ _
  | exit j => exact outK_nat f _ _ _ _
  | ret => exact castEnv_nat f _ _ _
theorem den_nat (L : LoopT) : ∀ (c : ACode) (e : Env) (h : Heap) (K : AExit → Env → Heap → Option R), (den base C L c e h K).bind f = den base C L c e h fun x e h => (K x e h).bind f
  | .skip, e, h, K => rfl
  | .region its, e, h, K => by simp only [den]; exact runItems_nat f base C its e h _
  | .seq a b, e, h, K => by
      simp only [den]
      rw [den_nat L a]; congr 1; funext x e h
      cases x
      · exact den_nat L b _ _ _
      · rfl
      · rfl
  | .cond c a b, e, h, K => by
      simp only [den]
      rw [boolK_nat]; congr 1; funext q
      split
      · exact den_nat L a _ _ _
      · exact den_nat L b _ _ _
  | .block id a, e, h, K => by
      simp only [den]
      rw [den_nat L a]; congr 1; funext x e h
      cases x
      · rfl
      · dsimp only; split <;> rfl
      · rfl
  | .loop live outs rets c, e, h, K => by
      simp only [den]
      rw [castEnv_nat]; congr 1; funext e
      cases L base (.loop live outs rets c) e h <;> rfl
  | .exit id, e, h, K => rfl
  | .ret, e, h, K => rfl
  | .bad, e, h, K => rfl
end nat

/-- From some number on. -/
def Ev (p : Nat → Prop) : Prop := ∃ n, ∀ m, n ≤ m → p m
theorem Ev.mono {p q : Nat → Prop} (h : Ev p) (hpq : ∀ n, p n → q n) : Ev q := let ⟨n, k⟩ := h; ⟨n, fun m hm => hpq m (k m hm)⟩
theorem Ev.and {p q : Nat → Prop} (h : Ev p) (h' : Ev q) : Ev fun n => p n ∧ q n :=
  let ⟨n, k⟩ := h; let ⟨n', k'⟩ := h'; ⟨max n n', fun m hm => ⟨k m (by omega), k' m (by omega)⟩⟩
theorem Ev.of {p : Nat → Prop} (h : ∀ n, p n) : Ev p := ⟨0, fun m _ => h m⟩
theorem Ev.const {p : Prop} (h : Ev fun _ => p) : p := let ⟨n, k⟩ := h; k n (Nat.le_refl n)

theorem bind_some {α β : Type} {x : Option α} {f : α → Option β} {v : β} (h : x.bind f = some v) : ∃ a, x = some a ∧ f a = some v := by
  cases x with
  | none => cases h
  | some a => exact ⟨a, rfl, h⟩

/-- Whatever is in continuation style: what it hands on. -/
theorem castK_via {R : Type} (t : Ty) (v : AV) (K : AV → Option R) : castK t v K = (castK t v some).bind K := (castK_nat K t v some).symm
theorem castL_via {R : Type} (t : List Ty) (v : List AV) (K : List AV → Option R) : castL t v K = (castL t v some).bind K := (castL_nat K t v some).symm
theorem castEnv_via {R : Type} (l : List (Nat × Ty)) (e : Env) (K : Env → Option R) : castEnv l e K = (castEnv l e some).bind K := (castEnv_nat K l e some).symm
theorem execK_via {R : Type} (base : Nat) (C : CallT) (op : AOp) (e : Env) (h : Heap) (K : AV → Heap → Option R) :
    execK base C op e h K = (execK base C op e h fun v h => some (v, h)).bind fun p => K p.1 p.2 := (execK_nat (fun p : AV × Heap => K p.1 p.2) base C op e h (fun v h => some (v, h))).symm
theorem outK_via {R : Type} (outs : List (Nat × List (Nat × Ty))) (j : Nat) (e : Env) (K : Nat → Env → Option R) :
    outK outs j e K = (outK outs j e fun j e => some (j, e)).bind fun p => K p.1 p.2 := (outK_nat (fun p : Nat × Env => K p.1 p.2) outs j e (fun j e => some (j, e))).symm
theorem den_via {R : Type} (base : Nat) (C : CallT) (L : LoopT) (c : ACode) (e : Env) (h : Heap) (K : AExit → Env → Heap → Option R) :
    den base C L c e h K = (den base C L c e h fun x e h => some (x, e, h)).bind fun p => K p.1 p.2.1 p.2.2 := (den_nat (fun p : AExit × Env × Heap => K p.1 p.2.1 p.2.2) base C L c e h (fun x e h => some (x, e, h))).symm

section ev
variable {R : Type} {base : Nat} {C : CallT} {Cn : Nat → CallT} {L : LoopT} {Ln : Nat → LoopT}
variable (hC : ∀ b g as h p, C b g as h = some p → Ev fun m => Cn m b g as h = some p)
include hC
theorem execK_ev1 (op : AOp) (e : Env) (h : Heap) (p : AV × Heap) (H : (execK base C op e h fun v h => some (v, h)) = some p) :
    Ev fun m => (execK base (Cn m) op e h fun v h => some (v, h)) = some p := by
  cases op with
  | call q ty g as =>
    simp only [execK] at H ⊢
    obtain ⟨x, hx, hr⟩ := bind_some H
    exact (hC _ _ _ _ _ hx).mono fun m hm => by rw [hm]; exact hr
  | callv q ty x as =>
    simp only [execK] at H ⊢
    split at H
    · rename_i g cap he
      obtain ⟨x, hx, hr⟩ := bind_some H
      refine (hC _ _ _ _ _ hx).mono fun m hm => ?_
      rw [hm]; exact hr
    · cases H
  | _ => exact Ev.of fun m => H
theorem execK_ev {K : AV → Heap → Option R} {Kn : Nat → AV → Heap → Option R} {v : R} (op : AOp) (e : Env) (h : Heap)
    (hK : ∀ x h v, K x h = some v → Ev fun m => Kn m x h = some v) (H : execK base C op e h K = some v) :
    Ev fun m => execK base (Cn m) op e h (Kn m) = some v := by
  rw [execK_via] at H
  obtain ⟨p, hp, hr⟩ := bind_some H
  refine ((execK_ev1 hC op e h p hp).and (hK _ _ _ hr)).mono fun m hm => ?_
  rw [execK_via, hm.1]
  exact hm.2
theorem runOps_ev {v : R} : ∀ (os : List AOper) (e : Env) (h : Heap) {K : Env → Heap → Option R} {Kn : Nat → Env → Heap → Option R},
    (∀ e h v, K e h = some v → Ev fun m => Kn m e h = some v) → runOps base C os e h K = some v → Ev fun m => runOps base (Cn m) os e h (Kn m) = some v
  | [], e, h, K, Kn, hK, H => hK _ _ _ H
  | o :: os, e, h, K, Kn, hK, H => by
      simp only [runOps] at H ⊢
      exact execK_ev hC o.op e h (Kn := fun m v h => runOps base (Cn m) os (e.put o.dst v) h (Kn m)) (fun x h v hv => runOps_ev os _ _ hK hv) H
theorem runItems_ev {v : R} : ∀ (its : List AItem) (e : Env) (h : Heap) {K : Env → Heap → Option R} {Kn : Nat → Env → Heap → Option R},
    (∀ e h v, K e h = some v → Ev fun m => Kn m e h = some v) → runItems base C its e h K = some v → Ev fun m => runItems base (Cn m) its e h (Kn m) = some v
  | [], e, h, K, Kn, hK, H => hK _ _ _ H
  | .one o :: r, e, h, K, Kn, hK, H => by
      simp only [runItems] at H ⊢
      exact execK_ev hC o.op e h (Kn := fun m v h => runItems base (Cn m) r (e.put o.dst v) h (Kn m)) (fun x h v hv => runItems_ev r _ _ hK hv) H
  | .grd s want os :: r, e, h, K, Kn, hK, H => by
      simp only [runItems] at H ⊢
      split at H
      · rename_i b hs
        split at H
        · rename_i hb
          simp only [if_pos hb]
          cases want
          · exact runItems_ev r _ _ hK H
          · exact runOps_ev hC os _ _ (Kn := fun m e h => runItems base (Cn m) r e h (Kn m)) (fun e h v hv => runItems_ev r _ _ hK hv) H
        · rename_i hb
          simp only [if_neg hb]
          cases want
          · exact runOps_ev hC os _ _ (Kn := fun m e h => runItems base (Cn m) r e h (Kn m)) (fun e h v hv => runItems_ev r _ _ hK hv) H
          · exact runItems_ev r _ _ hK H
      · exact runItems_ev r _ _ hK H
      · cases H
omit hC in
theorem castEnv_ev {K : Env → Option R} {Kn : Nat → Env → Option R} {v : R} (l : List (Nat × Ty)) (e : Env)
    (hK : ∀ e v, K e = some v → Ev fun m => Kn m e = some v) (H : castEnv l e K = some v) : Ev fun m => castEnv l e (Kn m) = some v := by
  rw [castEnv_via] at H
  obtain ⟨p, hp, hr⟩ := bind_some H
  refine (hK _ _ hr).mono fun m hm => ?_
  rw [castEnv_via, hp]
  exact hm
omit hC in
theorem roundK_ev {live : List (Nat × Ty)} {outs : List (Nat × List (Nat × Ty))} {rets : List (Nat × Ty)} {next : Env → Heap → Option R} {nextn : Nat → Env → Heap → Option R}
    {K : AExit → Env → Heap → Option R} {Kn : Nat → AExit → Env → Heap → Option R} {v : R} (x : AExit) (e : Env) (h : Heap)
    (hN : ∀ e h v, next e h = some v → Ev fun m => nextn m e h = some v) (hK : ∀ x e h v, K x e h = some v → Ev fun m => Kn m x e h = some v)
    (H : roundK live outs rets next K x e h = some v) : Ev fun m => roundK live outs rets (nextn m) (Kn m) x e h = some v := by
  cases x with
  | normal => exact castEnv_ev live e (Kn := fun m e => nextn m e h) (fun e v hv => hN _ _ _ hv) H
  | exit j =>
    simp only [roundK] at H ⊢
    rw [outK_via] at H
    obtain ⟨p, hp, hr⟩ := bind_some H
    refine (hK _ _ _ _ hr).mono fun m hm => ?_
    rw [outK_via, hp]
    exact hm
  | ret => exact castEnv_ev rets e (Kn := fun m e => Kn m .ret e h) (fun e v hv => hK _ _ _ _ hv) H
theorem den_ev (hL : ∀ b c e h p, L b c e h = some p → Ev fun m => Ln m b c e h = some p) {v : R} : ∀ (c : ACode) (e : Env) (h : Heap) {K : AExit → Env → Heap → Option R} {Kn : Nat → AExit → Env → Heap → Option R},
    (∀ x e h v, K x e h = some v → Ev fun m => Kn m x e h = some v) → den base C L c e h K = some v → Ev fun m => den base (Cn m) (Ln m) c e h (Kn m) = some v
  | .skip, e, h, K, Kn, hK, H => hK _ _ _ _ H
  | .region its, e, h, K, Kn, hK, H => by
      simp only [den] at H ⊢
      exact runItems_ev hC its e h (Kn := fun m e h => Kn m .normal e h) (fun e h v hv => hK _ _ _ _ hv) H
  | .seq a b, e, h, K, Kn, hK, H => by
      simp only [den] at H ⊢
      refine den_ev hL a e h (Kn := fun m x e h => match x with | .normal => den base (Cn m) (Ln m) b e h (Kn m) | .exit j => Kn m (.exit j) e h | .ret => Kn m .ret e h) (fun x e h v hv => ?_) H
      cases x
      · exact den_ev hL b _ _ hK hv
      · exact hK _ _ _ _ hv
      · exact hK _ _ _ _ hv
  | .cond c a b, e, h, K, Kn, hK, H => by
      simp only [den] at H ⊢
      unfold boolK at H ⊢
      split at H
      · rename_i q hq
        dsimp only at H ⊢
        by_cases hb : q = true
        · simp only [if_pos hb] at H ⊢
          exact den_ev hL a _ _ hK H
        · simp only [if_neg hb] at H ⊢
          exact den_ev hL b _ _ hK H
      · cases H
  | .block id a, e, h, K, Kn, hK, H => by
      simp only [den] at H ⊢
      refine den_ev hL a e h (Kn := fun m x e h => match x with | .normal => Kn m .normal e h | .exit j => if j = id then Kn m .normal e h else Kn m (.exit j) e h | .ret => Kn m .ret e h) (fun x e h v hv => ?_) H
      cases x
      · exact hK _ _ _ _ hv
      · dsimp only at hv ⊢
        split at hv
        · rename_i hj
          simp only [if_pos hj]
          exact hK _ _ _ _ hv
        · rename_i hj
          simp only [if_neg hj]
          exact hK _ _ _ _ hv
      · exact hK _ _ _ _ hv
  | .loop live outs rets c, e, h, K, Kn, hK, H => by
      simp only [den] at H ⊢
      refine castEnv_ev live e (Kn := fun m e => (Ln m base (.loop live outs rets c) e h).bind fun r => Kn m r.1 r.2.1 r.2.2) (fun e v hv => ?_) H
      obtain ⟨p, hp, hr⟩ := bind_some hv
      refine ((hL _ _ _ _ _ hp).and (hK _ _ _ _ hr)).mono fun m hm => ?_
      rw [hm.1]
      exact hm.2
  | .exit id, e, h, K, Kn, hK, H => hK _ _ _ _ H
  | .ret, e, h, K, Kn, hK, H => hK _ _ _ _ H
  | .bad, e, h, K, Kn, hK, H => by cases H
theorem bodyK_ev (hL : ∀ b c e h p, L b c e h = some p → Ev fun m => Ln m b c e h = some p) (fn : AFunc) (as : List AV) (h : Heap) (v : AV × Heap) (H : bodyK C L base fn as h = some v) :
    Ev fun m => bodyK (Cn m) (Ln m) base fn as h = some v := by
  unfold bodyK at H ⊢
  rw [castL_via] at H
  obtain ⟨p, hp, hr⟩ := bind_some H
  refine (den_ev hC hL fn.body _ _ (Kn := fun _ x e h => match x with | .normal => resK fn.results e h | .ret => resK fn.results e h | .exit _ => none) (fun x e h v hv => Ev.of fun _ => hv) hr).mono fun m hm => ?_
  rw [castL_via, hp]
  exact hm
end ev

section lim
variable (A : AProg)
theorem grow : ∀ n, (∀ b f as h p, callN A n b f as h = some p → callN A (n + 1) b f as h = some p) ∧ (∀ b c e h p, loopN A n b c e h = some p → loopN A (n + 1) b c e h = some p)
  | 0 => ⟨fun _ _ _ _ _ h => by simp [callN] at h, fun _ _ _ _ _ h => by simp [loopN] at h⟩
  | n + 1 => by
      obtain ⟨i1, i2⟩ := grow n
      constructor
      · intro b f as h p H
        rw [callN] at H ⊢
        split at H
        · rename_i fn hf
          exact (bodyK_ev (Cn := fun _ => callN A (n + 1)) (Ln := fun _ => loopN A (n + 1)) (fun _ _ _ _ _ h => Ev.of fun _ => i1 _ _ _ _ _ h) (fun _ _ _ _ _ h => Ev.of fun _ => i2 _ _ _ _ _ h) fn as h p H).const
        · exact H
      · intro b c e h p H
        cases c with
        | loop live outs rets c =>
          rw [loopN] at H ⊢
          refine (den_ev (Cn := fun _ => callN A (n + 1)) (Ln := fun _ => loopN A (n + 1)) (fun _ _ _ _ _ h => Ev.of fun _ => i1 _ _ _ _ _ h) (fun _ _ _ _ _ h => Ev.of fun _ => i2 _ _ _ _ _ h) c e h
            (Kn := fun _ => roundK live outs rets (fun e h => loopN A (n + 1) b (.loop live outs rets c) e h) fun x e h => some (x, e, h)) (fun x e h v hv => ?_) H).const
          exact roundK_ev (nextn := fun _ e h => loopN A (n + 1) b (.loop live outs rets c) e h) (Kn := fun _ x e h => some (x, e, h)) x e h (fun e h v hv => Ev.of fun _ => i2 _ _ _ _ _ hv) (fun _ _ _ _ hv => Ev.of fun _ => hv) hv
        | _ => simp [loopN] at H
theorem grow_call {n m : Nat} (hm : n ≤ m) {b f : Nat} {as : List AV} {h : Heap} {p : AV × Heap} (H : callN A n b f as h = some p) : callN A m b f as h = some p := by
  induction hm with
  | refl => exact H
  | step _ ih => exact (grow A _).1 _ _ _ _ _ ih
theorem grow_loop {n m : Nat} (hm : n ≤ m) {b : Nat} {c : ACode} {e : Env} {h : Heap} {p : AExit × Env × Heap} (H : loopN A n b c e h = some p) : loopN A m b c e h = some p := by
  induction hm with
  | refl => exact H
  | step _ ih => exact (grow A _).2 _ _ _ _ _ ih

open Classical in
/-- What any number of rounds tells. -/
noncomputable def lim {β : Type} (F : Nat → Option β) : Option β := if h : ∃ n v, F n = some v then F h.choose else none
theorem lim_some {β : Type} {F : Nat → Option β} (hF : ∀ n m v, n ≤ m → F n = some v → F m = some v) (v : β) : lim F = some v ↔ ∃ n, F n = some v := by
  unfold lim
  split
  · rename_i h
    obtain ⟨u, hu⟩ := h.choose_spec
    constructor
    · intro hv; exact ⟨_, hv⟩
    · rintro ⟨n, hn⟩
      have h1 := hF _ (max n h.choose) _ (Nat.le_max_right _ _) hu
      have h2 := hF _ (max n h.choose) _ (Nat.le_max_left _ _) hn
      rw [h1] at h2
      rw [hu, h2]
  · rename_i h
    constructor
    · intro hv; cases hv
    · rintro ⟨n, hn⟩; exact absurd ⟨n, v, hn⟩ h

noncomputable def call : CallT := fun b f as h => lim fun n => callN A n b f as h
noncomputable def loop : LoopT := fun b c e h => lim fun n => loopN A n b c e h
theorem call_some {b f : Nat} {as : List AV} {h : Heap} {p : AV × Heap} : call A b f as h = some p ↔ ∃ n, callN A n b f as h = some p := lim_some (fun _ _ _ hm H => grow_call A hm H) p
theorem loop_some {b : Nat} {c : ACode} {e : Env} {h : Heap} {p : AExit × Env × Heap} : loop A b c e h = some p ↔ ∃ n, loopN A n b c e h = some p := lim_some (fun _ _ _ hm H => grow_loop A hm H) p
theorem call_ev (b g : Nat) (as : List AV) (h : Heap) (p : AV × Heap) (H : call A b g as h = some p) : Ev fun m => callN A m b g as h = some p := by
  obtain ⟨n, hn⟩ := (call_some A).1 H
  exact ⟨n, fun m hm => grow_call A hm hn⟩
theorem loop_ev (b : Nat) (c : ACode) (e : Env) (h : Heap) (p : AExit × Env × Heap) (H : loop A b c e h = some p) : Ev fun m => loopN A m b c e h = some p := by
  obtain ⟨n, hn⟩ := (loop_some A).1 H
  exact ⟨n, fun m hm => grow_loop A hm hn⟩
theorem call_of {n b f : Nat} {as : List AV} {h : Heap} {p : AV × Heap} (H : callN A n b f as h = some p) : call A b f as h = some p := (call_some A).2 ⟨n, H⟩
theorem loop_of {n b : Nat} {c : ACode} {e : Env} {h : Heap} {p : AExit × Env × Heap} (H : loopN A n b c e h = some p) : loop A b c e h = some p := (loop_some A).2 ⟨n, H⟩

theorem call_eq {f : Nat} {fn : AFunc} (hf : A.fns f = some fn) (b : Nat) (as : List AV) (h : Heap) : call A b f as h = bodyK (call A) (loop A) b fn as h := by
  apply Option.ext
  intro p
  constructor
  · intro H
    obtain ⟨n, hn⟩ := (call_some A).1 H
    cases n with
    | zero => simp [callN] at hn
    | succ n =>
      rw [callN] at hn
      simp only [hf] at hn
      exact (bodyK_ev (Cn := fun _ => call A) (Ln := fun _ => loop A) (fun _ _ _ _ _ h => Ev.of fun _ => call_of A h) (fun _ _ _ _ _ h => Ev.of fun _ => loop_of A h) fn as h p hn).const
  · intro H
    obtain ⟨n, hn⟩ := bodyK_ev (call_ev A) (loop_ev A) fn as h p H
    refine (call_some A).2 ⟨n + 1, ?_⟩
    rw [callN]
    simp only [hf]
    exact hn n (Nat.le_refl n)
theorem call_ext {f : Nat} (hf : A.fns f = none) (b : Nat) (as : List AV) (h : Heap) : call A b f as h = A.ext f as h := by
  apply Option.ext
  intro p
  constructor
  · intro H
    obtain ⟨n, hn⟩ := (call_some A).1 H
    cases n with
    | zero => simp [callN] at hn
    | succ n => rw [callN] at hn; simpa only [hf] using hn
  · intro H
    refine (call_some A).2 ⟨1, ?_⟩
    rw [callN]
    simpa only [hf] using H
theorem loop_eq (b : Nat) (live : List (Nat × Ty)) (outs : List (Nat × List (Nat × Ty))) (rets : List (Nat × Ty)) (c : ACode) (e : Env) (h : Heap) :
    loop A b (.loop live outs rets c) e h = den b (call A) (loop A) c e h (roundK live outs rets (fun e h => loop A b (.loop live outs rets c) e h) fun x e h => some (x, e, h)) := by
  apply Option.ext
  intro p
  constructor
  · intro H
    obtain ⟨n, hn⟩ := (loop_some A).1 H
    cases n with
    | zero => simp [loopN] at hn
    | succ n =>
      rw [loopN] at hn
      refine (den_ev (Cn := fun _ => call A) (Ln := fun _ => loop A) (fun _ _ _ _ _ h => Ev.of fun _ => call_of A h) (fun _ _ _ _ _ h => Ev.of fun _ => loop_of A h) c e h
        (Kn := fun _ => roundK live outs rets (fun e h => loop A b (.loop live outs rets c) e h) fun x e h => some (x, e, h)) (fun x e h v hv => ?_) hn).const
      exact roundK_ev (nextn := fun _ e h => loop A b (.loop live outs rets c) e h) (Kn := fun _ x e h => some (x, e, h)) x e h (fun e h v hv => Ev.of fun _ => loop_of A hv) (fun _ _ _ _ hv => Ev.of fun _ => hv) hv
  · intro H
    obtain ⟨n, hn⟩ := den_ev (call_ev A) (loop_ev A) c e h (Kn := fun m => roundK live outs rets (fun e h => loopN A m b (.loop live outs rets c) e h) fun x e h => some (x, e, h))
      (fun x e h v hv => roundK_ev (nextn := fun m e h => loopN A m b (.loop live outs rets c) e h) (Kn := fun _ x e h => some (x, e, h)) x e h (fun e h v hv => loop_ev A _ _ _ _ _ hv) (fun _ _ _ _ hv => Ev.of fun _ => hv) hv) H
    refine (loop_some A).2 ⟨n + 1, ?_⟩
    rw [loopN]
    exact hn n (Nat.le_refl n)

/-- A loop, with what comes behind it. -/
noncomputable def loopK {R : Type} (b : Nat) (c : ACode) (e : Env) (h : Heap) (K : AExit → Env → Heap → Option R) : Option R := (loop A b c e h).bind fun r => K r.1 r.2.1 r.2.2
theorem loopK_eq {R : Type} (b : Nat) (live : List (Nat × Ty)) (outs : List (Nat × List (Nat × Ty))) (rets : List (Nat × Ty)) (c : ACode) (e : Env) (h : Heap) (K : AExit → Env → Heap → Option R) :
    loopK A b (.loop live outs rets c) e h K = den b (call A) (loop A) c e h (roundK live outs rets (fun e h => loopK A b (.loop live outs rets c) e h K) K) := by
  unfold loopK
  rw [loop_eq, den_nat]
  congr 1
  funext x e h
  rw [roundK_nat]
  rfl
end lim
end Go.AM
