import Derived.Test.YtfdbegdgedhhcaaGreatAmMem
import Derived.Test.YtfdbegdgedhhcaaGreatAmLim
import Derived.Laws.StructEq
import Derived.WalkSpells
set_option linter.all false
/- Operations that need no memory. -/
namespace Go.AM
open Go.RowKit
set_option linter.unusedVariables false
set_option linter.unusedSimpArgs false
section
variable {w0 : World} {ren : Nat → Option Nat} {μ : Mu} {h : Heap} {w : World} {base : Nat} {P : Program} {a : Act} {e : Env}

theorem okScal_rep {x : AV} {v : Value} (h : okScal x v = true) : RepV w0 ren μ x v ∧ x.one = true := by
  unfold okScal at h
  split at h
  · simp at h; obtain ⟨rfl, rfl⟩ := h; exact ⟨.int _ _, rfl⟩
  · simp at h; subst h; exact ⟨.bool _, rfl⟩
  · rename_i s s'
    have h' : s = s' := by
      have := beq_iff_eq.1 h
      cases s; cases s'; simp at this; simp [this]
    subst h'; exact ⟨.str _, rfl⟩
  · exact ⟨.nil, rfl⟩
  · cases h
theorem okScals_rep : ∀ {cs : List AV} {vs : List Value}, okScals cs vs = true → RepL w0 ren μ cs vs ∧ ∀ c ∈ cs, c.one = true
  | [], [], _ => ⟨.nil, by simp⟩
  | c :: cs, v :: vs, h => by
      simp only [okScals, Bool.and_eq_true] at h
      obtain ⟨h1, h2⟩ := okScal_rep (w0 := w0) (ren := ren) (μ := μ) h.1
      obtain ⟨h3, h4⟩ := okScals_rep h.2
      exact ⟨.cons h1 h3, by intro c hc; cases hc with | head => exact h2 | tail _ hc => exact h4 c hc⟩
  | [], _ :: _, h => by simp [okScals] at h
  | _ :: _, [], h => by simp [okScals] at h
theorem okConst_rep {x : AV} {v : Value} (h : okConst x v = true) : RepV w0 ren μ x v := by
  unfold okConst at h
  split at h
  · exact .undef _
  · rename_i cs vs
    obtain ⟨h1, h2⟩ := okScals_rep (w0 := w0) (ren := ren) (μ := μ) h
    have := RepV.agg (w0 := w0) (ren := ren) (μ := μ) cs vs.toList h1.len h1.at_ h2
    simpa using this
  · rename_i cs vs
    obtain ⟨h1, h2⟩ := okScals_rep (w0 := w0) (ren := ren) (μ := μ) h
    have := RepV.tup (w0 := w0) (ren := ren) (μ := μ) cs vs.toList h1.len h1.at_
    simpa using this
  · exact (okScal_rep h).1
theorem okOpd_rep {x : Opd} {y : Operand} (h : okOpd ren x y = true) (hE : ∀ t ∈ x.slot, RepV w0 ren μ (e t) (a.tmps.getD t undef)) : RepV w0 ren μ (e.ev x) (a.eval y) := by
  unfold okOpd at h
  split at h
  · rename_i i j
    have := beq_iff_eq.1 h
    subst this
    exact hE i (by simp [Opd.slot])
  · exact okConst_rep h
  · rename_i g f
    have := beq_iff_eq.1 h
    exact .fn f g [] [] this rfl (by simp)
  · cases h
theorem okOpds_rep : ∀ {xs : List Opd} {ys : List Operand}, okOpds ren xs ys = true → (∀ t ∈ xs.flatMap Opd.slot, RepV w0 ren μ (e t) (a.tmps.getD t undef)) → RepL w0 ren μ (evs e xs) (ys.map a.eval)
  | [], [], _, _ => .nil
  | x :: xs, y :: ys, h, hE => by
      simp only [okOpds, Bool.and_eq_true] at h
      exact .cons (okOpd_rep h.1 fun t ht => hE t (by simp [ht])) (okOpds_rep h.2 fun t ht => hE t (by simp only [List.flatMap_cons, List.mem_append]; exact .inr ht))
  | [], _ :: _, h, _ => by simp [okOpds] at h
  | _ :: _, [], h, _ => by simp [okOpds] at h

theorem elemOf?_spec {t e : TypeId} (h : elemOf? P t = some e) : P.underlying t = some (.slice e) := by
  unfold elemOf? at h
  split at h
  · rename_i e' he; injection h with h; subst h; exact he
  · cases h
theorem run_sizeOf_of {t : TypeId} {n : Nat} (h : sizeOf? P t = some n) (w : World) : (sizeOf t).run P w = .ok n w := by
  unfold sizeOf? at h
  obtain ⟨i, hi, rfl⟩ := Option.map_eq_some_iff.1 h
  simp [sizeOf, typeInfo, hi]
theorem isRow?_spec {t : TypeId} {b : Bool} (h : isRow? P t = some b) : ∃ d, P.underlying t = some d ∧ d.isRow = b := by
  unfold isRow? at h
  split at h
  · rename_i d hd; injection h with h; subst h; exact ⟨_, hd, rfl⟩
  · rename_i d hd; injection h with h; subst h; exact ⟨_, hd, rfl⟩
  · rename_i d h1 h2 hd; injection h with h; subst h
    refine ⟨d, hd, ?_⟩
    cases d <;> first | rfl | exact absurd rfl (h1 _) | exact absurd rfl (h2 _ _)
  · cases h
theorem run_isAgg_of {t : TypeId} {d : TypeDesc} (h : P.underlying t = some d) (w : World) : (isAgg t).run P w = .ok d.isRow w := by
  cases d <;> simp [isAgg, run_underlying h, TypeDesc.isRow]
theorem run_isAgg_row {t : TypeId} {b : Bool} (h : isRow? P t = some b) (w : World) : (isAgg t).run P w = .ok b w := by
  obtain ⟨d, hd, rfl⟩ := isRow?_spec h
  exact run_isAgg_of hd w
theorem fieldOf?_spec {t f : Nat} {fl : Field} (h : fieldOf? P t f = some fl) : ∃ fs, P.underlying t = some (.struct fs) ∧ fs[f]? = some fl := by
  unfold fieldOf? at h
  split at h
  · rename_i fs hfs; exact ⟨fs, hfs, h⟩
  · cases h
theorem okZero_spec {t : TypeId} {zs : List AV} (h : okZero P t zs = true) :
    ∃ i z, P.info? t = some i ∧ i.zero = some z ∧ okScals zs z.cells.toList = true ∧ i.size = zs.length ∧ z.cells.size = zs.length := by
  unfold okZero at h
  split at h
  · rename_i z hz
    obtain ⟨i, hi, hz⟩ := Option.bind_eq_some_iff.1 hz
    simp only [Bool.and_eq_true, beq_iff_eq] at h
    have hs := h.2
    simp only [sizeOf?, hi, Option.map_some, Option.some.injEq] at hs
    refine ⟨i, z, hi, hz, h.1, hs, ?_⟩
    have := (okScals_rep (w0 := default) (ren := fun _ => none) (μ := fun _ _ => none) h.1).1.len
    simpa using this.symm
  · cases h

/-- Comparing whole numbers' cells. -/
theorem intsEq_ints : ∀ {cs ds : List AV} {q : Bool}, intsEq cs ds = some q → (∀ c ∈ cs, ∃ k n, c = .int k n) ∧ (∀ c ∈ ds, ∃ k n, c = .int k n) ∧ cs.length = ds.length
  | [], [], q, _ => ⟨by simp, by simp, rfl⟩
  | .int k a :: r, .int k' b :: r', q, h => by
      simp only [intsEq] at h
      split at h
      · obtain ⟨q', hq, _⟩ := Option.map_eq_some_iff.1 h
        obtain ⟨h1, h2, h3⟩ := intsEq_ints hq
        refine ⟨fun c hc => ?_, fun c hc => ?_, by simp [h3]⟩
        · cases hc with | head => exact ⟨k, a, rfl⟩ | tail _ hc => exact h1 c hc
        · cases hc with | head => exact ⟨k', b, rfl⟩ | tail _ hc => exact h2 c hc
      · cases h

theorem int_of_rep {k : IntKind} {n : Int} {v : Value} (h : RepV w0 ren μ (.int k n) v) : v = .int k n := by cases h; rfl
theorem ints_of_rep : ∀ {cs : List AV} {vs : List Value}, RepL w0 ren μ cs vs → (∀ c ∈ cs, ∃ k n, c = .int k n) → ∀ (i : Nat) (v : Value), vs[i]? = some v → ∃ k n, cs[i]? = some (AV.int k n) ∧ v = .int k n := by
  intro cs vs h hc i v hv
  have hi : i < cs.length := by rw [h.len]; exact (List.getElem?_eq_some_iff.1 hv).1
  obtain ⟨k, n, e⟩ := hc cs[i] (List.getElem_mem hi)
  have h1 : cs[i]? = some (.int k n) := by rw [List.getElem?_eq_getElem hi, e]
  exact ⟨k, n, h1, int_of_rep (h.at_ i _ v h1 hv)⟩


/-- What a still operation gives. -/
def Yields (P : Program) (w0 : World) (ren : Nat → Option Nat) (μ : Mu) (o : Oper) (a : Act) (v : AV) : Prop :=
  ∃ v', (∀ w, (execOp a.eval o).run P w = .ok (.value v') w) ∧ RepV w0 ren μ v v'


theorem sliceNil {op : BinOp} {t : TypeId} (heq : okEq P 2 t = true) (A : Option Addr) (n c : Nat) (q : Bool) (hA : (!A.isNone) = q) {R : Type} {K : AV → Option R} {r : R}
    (H : (match op with | .eql => K (.bool (!q)) | .neq => K (.bool q) | _ => none) = some r) :
    ∃ z z', K z = some r ∧ RepV w0 ren μ z z' ∧ ∀ (x' y' : Operand) w, ((do eqGuard op t x' y' (.slice A n c) (.slice none 0 0); binOp op t (.slice A n c) (.slice none 0 0) : Sem Value)).run P w = .ok z' w := by
  simp only [okEq] at heq
  split at heq
  · rename_i e ht
    split at H
    · refine ⟨_, _, H, .bool _, fun x' y' w => ?_⟩
      rw [Sem.run_bind, show ∀ w, (eqGuard .eql t x' y' (.slice A n c) (.slice none 0 0)).run P w = .ok () w from fun _ => rfl, Result.andThen_ok, Lib.run_eql_slice_nil w t e A n c 0 0 ht, ← hA]
      simp
    · refine ⟨_, _, H, .bool _, fun x' y' w => ?_⟩
      rw [Sem.run_bind, show ∀ w, (eqGuard .neq t x' y' (.slice A n c) (.slice none 0 0)).run P w = .ok () w from fun _ => rfl, Result.andThen_ok, run_neq_slice_nil_any w t e A n c 0 0 ht, hA]
    · cases H
  · cases heq

theorem run_part_int {t : TypeId} {k : IntKind} (ht : P.underlying t = some (.int k)) (xs : Array Value) (off : Nat) (v : Value) (hv : xs[off]? = some v) (w : World) : (part t xs off).run P w = .ok v w := by
  simp [part, isAgg, run_underlying ht, hv]
theorem eqFields_ints (d : Nat) : ∀ (fs : List Field) (off : Nat) (cs ds : List AV) (us vs : List Value) (q : Bool), intFields P fs off = true → RepL w0 ren μ cs us → RepL w0 ren μ ds vs →
    fs.length + off = cs.length → intsEq (cs.drop off) (ds.drop off) = some q → ∀ w, (Op.eqFields (d + 1) us.toArray vs.toArray fs).run P w = .ok q w
  | [], off, cs, ds, us, vs, q, hf, hL1, hL2, hn, hq, w => by
      have : cs.drop off = [] := List.drop_eq_nil_of_le (by simp at hn; omega)
      rw [this] at hq
      cases hd : ds.drop off with
      | nil => rw [hd] at hq; simp [intsEq] at hq; subst hq; rfl
      | cons a b => rw [hd] at hq; simp [intsEq] at hq
  | f :: fs, off, cs, ds, us, vs, q, hf, hL1, hL2, hn, hq, w => by
      simp only [intFields, Bool.and_eq_true, bne_iff_ne, ne_eq, beq_iff_eq] at hf
      obtain ⟨⟨⟨hname, hoff⟩, hty⟩, hf⟩ := hf
      have hlt : off < cs.length := by simp at hn; omega
      obtain ⟨hi1, hi2, hlen⟩ := intsEq_ints hq
      have hlt2 : off < ds.length := by simp at hlen; omega
      rw [List.drop_eq_getElem_cons hlt, List.drop_eq_getElem_cons hlt2] at hq
      obtain ⟨k, m, e1⟩ := hi1 cs[off] (by rw [List.drop_eq_getElem_cons hlt]; exact List.mem_cons_self)
      obtain ⟨k', n, e2⟩ := hi2 ds[off] (by rw [List.drop_eq_getElem_cons hlt2]; exact List.mem_cons_self)
      rw [e1, e2] at hq
      simp only [intsEq] at hq
      split at hq
      · rename_i hk
        subst hk
        obtain ⟨q', hq', rfl⟩ := Option.map_eq_some_iff.1 hq
        have hu : us[off]? = some (.int k m) := by
          have h1 : off < us.length := by rw [← hL1.len]; exact hlt
          have := hL1.at_ off cs[off] us[off] (List.getElem?_eq_getElem hlt) (List.getElem?_eq_getElem h1)
          rw [e1] at this
          rw [List.getElem?_eq_getElem h1, int_of_rep this]
        have hv : vs[off]? = some (.int k n) := by
          have h1 : off < vs.length := by rw [← hL2.len]; exact hlt2
          have := hL2.at_ off ds[off] vs[off] (List.getElem?_eq_getElem hlt2) (List.getElem?_eq_getElem h1)
          rw [e2] at this
          rw [List.getElem?_eq_getElem h1, int_of_rep this]
        have ih := eqFields_ints d fs (off + 1) cs ds us vs q' hf hL1 hL2 (by simp at hn; omega) hq'
        split at hty
        · rename_i k2 ht
          subst hoff
          simp only [Op.eqFields]
          rw [if_pos hname]
          simp only [Sem.run_bind, run_part_int ht us.toArray f.offset _ (by simpa using hu), run_part_int ht vs.toArray f.offset _ (by simpa using hv), Result.andThen_ok, run_equalIn_int w d f.type k k2 m n ht]
          by_cases hmn : m = n
          · subst hmn
            simp [ih]
          · simp [hmn]
        · cases hty
      · cases hq
theorem structEq {t : TypeId} {cs ds : List AV} {us vs : List Value} {q : Bool} (heq : okEq P (cs.length + 3) t = true) (hL1 : RepL w0 ren μ cs us) (hL2 : RepL w0 ren μ ds vs) (hq : intsEq cs ds = some q) :
    P.eqGuardType P.depth t = false ∧ ∀ w, (Op.equalIn 10000 t (.agg us.toArray) (.agg vs.toArray)).run P w = .ok q w := by
  simp only [okEq] at heq
  split at heq
  · rename_i fs ht
    simp only [Bool.and_eq_true, beq_iff_eq, Bool.not_eq_true'] at heq
    obtain ⟨⟨⟨hn, hf⟩, hst⟩, hg⟩ := heq
    refine ⟨hg, fun w => ?_⟩
    have hfs : P.fieldsOf t = fs := by simp [Program.fieldsOf, ht]
    rw [run_equalIn_struct w 9999 t us.toArray vs.toArray (by rw [hfs]; exact ht) hst, hfs]
    exact eqFields_ints 9998 fs.toList 0 cs ds us vs q hf hL1 hL2 (by simp [hn]) (by simpa using hq) w
  · cases heq

theorem bin_sound {op : BinOp} {q : Nat} {t : TypeId} {x y : AV} {u v : Value} (hx : RepV w0 ren μ x u) (hy : RepV w0 ren μ y v) (heq : okEq P q t = true) {R : Type} {K : AV → Option R} {r : R} (H : binK op q x y K = some r) :
    ∃ z z', K z = some r ∧ RepV w0 ren μ z z' ∧ ∀ (x' y' : Operand) w, ((do eqGuard op t x' y' u v; binOp op t u v : Sem Value)).run P w = .ok z' w := by
  unfold binK at H
  split at H
  · -- whole numbers
    cases hx; cases hy
    rename_i k m k' n
    have hguard : ∀ (x' y' : Operand) w, (eqGuard op t x' y' (.int k m) (.int k' n)).run P w = .ok () w := by
      intro x' y' w
      unfold eqGuard
      split <;> rfl
    split at H
    · split at H
      · cases H
      · rename_i hn
        refine ⟨_, _, H, .int _ _, fun x' y' w => ?_⟩
        simp only [Sem.run_bind, hguard, Result.andThen_ok, binOp, Op.shift]
        rw [if_neg hn]
        rfl
    · split at H
      · cases H
      · rename_i hn
        refine ⟨_, _, H, .int _ _, fun x' y' w => ?_⟩
        simp only [Sem.run_bind, hguard, Result.andThen_ok, binOp, Op.shift]
        rw [if_neg hn]
        rfl
    · rename_i h1 h2
      split at H
      · rename_i hk
        subst hk
        unfold intBin at H
        split at H
        all_goals first
          | cases H; done
          | (refine ⟨_, _, H, .int _ _, fun x' y' w => ?_⟩; simp only [Sem.run_bind, hguard, Result.andThen_ok, binOp]; simp [Op.intArith, Op.intBits]; done)
          | (refine ⟨_, _, H, .bool _, fun x' y' w => ?_⟩; simp only [Sem.run_bind, hguard, Result.andThen_ok, binOp, ne_eq, not_true_eq_false, if_false]; rfl)
          | skip
        · split at H
          · cases H
          · rename_i hn
            refine ⟨_, _, H, .int _ _, fun x' y' w => ?_⟩
            simp only [Sem.run_bind, hguard, Result.andThen_ok, binOp]
            simp [Op.intDiv, hn]
        · split at H
          · cases H
          · rename_i hn
            refine ⟨_, _, H, .int _ _, fun x' y' w => ?_⟩
            simp only [Sem.run_bind, hguard, Result.andThen_ok, binOp]
            simp [Op.intDiv, hn]
      · cases H
  · -- bools
    cases hx; cases hy
    split at H
    · rename_i hq
      subst hq
      have ht : P.underlying t = some .bool := by
        simp only [okEq] at heq
        split at heq
        · assumption
        · cases heq
      split at H
      · refine ⟨_, _, H, .bool _, fun x' y' w => ?_⟩
        rw [Sem.run_bind, show ∀ w, (eqGuard .eql t x' y' (.bool _) (.bool _)).run P w = .ok () w from fun _ => rfl, Result.andThen_ok, run_eql_bool w t _ _ ht]
      · refine ⟨_, _, H, .bool _, fun x' y' w => ?_⟩
        rw [Sem.run_bind, show ∀ w, (eqGuard .neq t x' y' (.bool _) (.bool _)).run P w = .ok () w from fun _ => rfl, Result.andThen_ok, run_neq_bool w t _ _ ht]
      · cases H
    · cases H
  · -- texts
    rename_i s1 s2
    cases hx; cases hy
    split at H
    · split at H
      · rename_i hs
        refine ⟨_, _, H, .str _, fun x' y' w => ?_⟩
        have hn : ¬ (((s1.size + s2.size : Nat) : Int) > IntKind.i64.max) := by
          have : IntKind.i64.max = 9223372036854775807 := by decide
          omega
        rw [Sem.run_bind, show ∀ w, (eqGuard .add t x' y' (.string s1) (.string s2)).run P w = .ok () w from fun _ => rfl, Result.andThen_ok]
        simp only [binOp, Op.stringOp, if_neg hn]
        rfl
      · cases H
    · refine ⟨_, _, H, .bool _, fun x' y' w => ?_⟩
      rw [Sem.run_bind, show ∀ w, (eqGuard .eql t x' y' (.string s1) (.string s2)).run P w = .ok () w from fun _ => rfl, Result.andThen_ok]
      have hd : (s1.toList == s2.toList) = decide (s1.toList = s2.toList) := by rw [Bool.eq_iff_iff]; simp
      simp only [binOp, Op.stringOp, hd]
      rfl
    · refine ⟨_, _, H, .bool _, fun x' y' w => ?_⟩
      rw [Sem.run_bind, show ∀ w, (eqGuard .neq t x' y' (.string s1) (.string s2)).run P w = .ok () w from fun _ => rfl, Result.andThen_ok]
      have hd : (s1.toList == s2.toList) = decide (s1.toList = s2.toList) := by rw [Bool.eq_iff_iff]; simp
      simp only [binOp, Op.stringOp, hd]
      rfl
    · cases H
  · cases hx; cases hy
    split at H
    · rename_i hq; subst hq
      exact sliceNil heq none 0 0 false rfl H
    · cases H
  · cases hy
    split at H
    · rename_i hq; subst hq
      cases hx
      exact sliceNil heq (some _) _ _ true rfl H
    · cases H
  · cases hy
    split at H
    · rename_i hq; subst hq
      cases hx
      exact sliceNil heq (some _) _ _ true rfl H
    · cases H
  · split at H
    · rename_i a b hq
      cases hx with
      | agg _ us hl1 hr1 h11 =>
        cases hy with
        | agg _ vs hl2 hr2 h12 =>
          have hL1 : RepL w0 ren μ a us := ⟨hl1, hr1⟩
          have hL2 : RepL w0 ren μ b vs := ⟨hl2, hr2⟩
          subst hq
          split at H
          · obtain ⟨q, hq, hK⟩ := bind_some H
            obtain ⟨h1, h2⟩ := structEq heq hL1 hL2 hq
            exact ⟨_, _, hK, .bool _, fun x' y' w => by rw [Sem.run_bind, run_eqGuard_agg w _ t x' y' _ _ h1, Result.andThen_ok, run_eql_struct, h2]; rfl⟩
          · obtain ⟨q, hq, hK⟩ := bind_some H
            obtain ⟨h1, h2⟩ := structEq heq hL1 hL2 hq
            exact ⟨_, _, hK, .bool _, fun x' y' w => by rw [Sem.run_bind, run_eqGuard_agg w _ t x' y' _ _ h1, Result.andThen_ok, run_neq_struct, h2]; rfl⟩
          · cases H
    · cases H
  · cases H

theorem toArray_getElem? {l : List Value} {i : Nat} : l.toArray[i]? = l[i]? := by simp

/-- What 'fill' does with one part. -/
theorem fill_fold_list : ∀ (vs : List Value) (off k : Nat) (us : List Value), off + k + vs.length ≤ us.length →
    (vs.zipIdx k).foldl (fun (cs : Array Value) (x : Value × Nat) => cs.setIfInBounds (off + x.2) x.1) us.toArray = (us.take (off + k) ++ vs ++ us.drop (off + k + vs.length)).toArray
  | [], off, k, us, _ => by simp
  | v :: vs, off, k, us, h => by
      simp only [List.zipIdx_cons, List.foldl_cons]
      have hl : off + k < us.length := by simp at h; omega
      rw [show us.toArray.setIfInBounds (off + k) v = (us.set (off + k) v).toArray by simp]
      rw [fill_fold_list vs off (k + 1) (us.set (off + k) v) (by simp at h ⊢; omega)]
      congr 1
      rw [List.take_set, List.drop_set]
      rw [if_pos (by omega)]
      simp only [List.length_cons]
      rw [show off + (k + 1) = off + k + 1 by omega, show off + k + 1 + vs.length = off + k + (vs.length + 1) by omega]
      congr 1
      rw [List.take_succ_eq_append_getElem hl, List.set_append_right _ _ (by simp; omega)]
      rw [show off + k - (List.take (off + k) us).length = 0 by simp; omega]
      simp
theorem fill_fold (us : List Value) (vs : Array Value) (off : Nat) (h : off + vs.size ≤ us.length) :
    vs.zipIdx.foldl (fun (cs : Array Value) (x : Value × Nat) => cs.setIfInBounds (off + x.2) x.1) us.toArray = (us.take off ++ vs.toList ++ us.drop (off + vs.toList.length)).toArray := by
  have := fill_fold_list vs.toList off 0 us (by simpa using h)
  simp only [Nat.add_zero] at this
  rw [← this, ← Array.foldl_toList]
  simp

/-- Parts of a struct. -/
theorem fill_struct {t : TypeId} {fs : Array Field} (ht : P.underlying t = some (.struct fs)) : ∀ {ps : List (Nat × Nat × Opd)} {qs : List (Nat × Operand)} {cs : List AV} {us : List Value} {R : Type} {K : List AV → Option R} {r : R},
    okPartsS P ren t ps qs = true → (∀ u ∈ ps.flatMap (fun p => p.2.2.slot), RepV w0 ren μ (e u) (a.tmps.getD u undef)) → RepL w0 ren μ cs us → (∀ c ∈ cs, c.one = true) → layParts e cs ps K = some r →
    ∃ cs' us', K cs' = some r ∧ RepL w0 ren μ cs' us' ∧ (∀ c ∈ cs', c.one = true) ∧
      ∀ pl : Nat → Option (Nat × Nat), (∀ i f, fs[i]? = some f → pl i = (sizeOf? P f.type).map fun n => (f.offset, n)) → Instr.fill pl us.toArray (qs.map fun q => (q.1, a.eval q.2)) = some us'.toArray
  | [], [], cs, us, R, K, r, _, _, hL, h1, H => ⟨cs, us, H, hL, h1, fun pl _ => rfl⟩
  | p :: ps, q :: qs, cs, us, R, K, r, hok, hE, hL, h1, H => by
      simp only [okPartsS, Bool.and_eq_true] at hok
      obtain ⟨⟨hf, ho⟩, hok⟩ := hok
      simp only [layParts] at H
      have hx := okOpd_rep (a := a) (e := e) (w0 := w0) (μ := μ) ho fun u hu => hE u (by simp only [List.flatMap_cons, List.mem_append]; exact .inl hu)
      obtain ⟨vs, hK, hv, hv1⟩ := cellsK_rep hx H
      split at hK
      · rename_i hn
        split at hf
        · rename_i f hfo
          simp only [Bool.and_eq_true, beq_iff_eq] at hf
          obtain ⟨fs', h3, h4⟩ := fieldOf?_spec hfo
          rw [ht] at h3
          injection h3 with h3; injection h3 with h3; subst h3
          obtain ⟨ho1, ho2⟩ := hf
          have hlen : vs.length = (a.eval q.2).cells.toList.length := hv.len
          have hL' : RepL w0 ren μ (layAt cs p.1 vs) (us.take p.1 ++ (a.eval q.2).cells.toList ++ us.drop (p.1 + (a.eval q.2).cells.toList.length)) := by
            unfold layAt
            rw [hlen]
            exact ((hL.take _).append hv).append (hL.drop _)
          obtain ⟨cs', us', k1, k2, k3, k4⟩ := fill_struct ht hok (fun u hu => hE u (by simp only [List.flatMap_cons, List.mem_append]; exact .inr hu)) hL' (by
            intro c hc
            simp only [layAt, List.mem_append] at hc
            rcases hc with (hc | hc) | hc
            · exact h1 c (List.mem_of_mem_take hc)
            · exact hv1 c hc
            · exact h1 c (List.mem_of_mem_drop hc)) hK
          refine ⟨cs', us', k1, k2, k3, fun pl hpl => ?_⟩
          simp only [List.map_cons, Instr.fill]
          rw [hpl _ _ h4, ho2]
          simp only [Option.map_some]
          have hsz : (a.eval q.2).cells.size = p.2.1 := by rw [← hn.1, hlen]; simp
          have hcl := hL.len
          rw [if_neg (by simp only [Bool.or_eq_true, decide_eq_true_eq, not_or]; rw [hsz]; refine ⟨by simp, ?_⟩; simp; rw [← ho1, ← hn.1]; omega)]
          have hw := fill_fold us (a.eval q.2).cells f.offset (by rw [hsz, ← ho1, ← hn.1]; omega)
          rw [hw, ← ho1]
          exact k4 pl hpl
        · cases hf
      · cases hK
  | [], _ :: _, cs, us, R, K, r, h, _, _, _, _ => by simp [okPartsS] at h
  | _ :: _, [], cs, us, R, K, r, h, _, _, _, _ => by simp [okPartsS] at h

theorem okFn_of {f g : Nat} (hG : ∀ f g, ren f = some g → ∃ fn, P.funcs[f]? = some fn ∧ fn.body.isSome = true ∧ (fn.name == "runtime.NumGoroutine") = false) (h : ren f = some g) (args : Array Value) (w : World) :
    (callFunc f args).run P w = .ok (.enter f args) w := by
  obtain ⟨fn, h1, h2, h3⟩ := hG f g h
  have h4 : fn.body.isNone = false := by cases hb : fn.body <;> simp_all
  have h5 : fn.name ≠ "runtime.NumGoroutine" := by simpa using h3
  simp [callFunc, h1, h5]
  intro hb
  rw [hb] at h2
  cases h2

theorem okOpds_one {x : Opd} {args : Array Operand} (h : okOpds ren [x] args.toList = true) : ∃ y, args = #[y] := by
  obtain ⟨l⟩ := args
  cases l with
  | nil => simp [okOpds] at h
  | cons y ys =>
    cases ys with
    | nil => exact ⟨y, rfl⟩
    | cons _ _ => simp [okOpds] at h
theorem okOpds_two {x x' : Opd} {args : Array Operand} (h : okOpds ren [x, x'] args.toList = true) : ∃ y y', args = #[y, y'] := by
  obtain ⟨l⟩ := args
  cases l with
  | nil => simp [okOpds] at h
  | cons y ys =>
    cases ys with
    | nil => simp [okOpds] at h
    | cons y' ys =>
      cases ys with
      | nil => exact ⟨y, y', rfl⟩
      | cons _ _ => simp [okOpds] at h
/-- A bound of a cut, where one is told. -/
def boundIs (v : Option Value) (n : Int) : Prop := match v with | none => True | some v => ∃ k, v = .int k n
theorem bound_rep {x : Option Opd} {y : Option Operand} (h : okOpt ren x y = true) {d : AV} (hE : ∀ t ∈ (match x with | some z => z.slot | none => []), RepV w0 ren μ (e t) (a.tmps.getD t undef)) {R : Type} {K : IntKind → Int → Option R} {r : R}
    (H : intK (match x with | some z => e.ev z | none => d) K = some r) : ∃ k n, (match x with | some z => e.ev z | none => d) = .int k n ∧ ((x = none ∧ y = none) ∨ ∃ z, y = some z ∧ a.eval z = .int k n ∧ x ≠ none) ∧ K k n = some r := by
  cases x with
  | none =>
    cases y with
    | none =>
      unfold intK at H
      split at H
      · exact ⟨_, _, by assumption, .inl ⟨rfl, rfl⟩, H⟩
      · cases H
    | some _ => simp [okOpt] at h
  | some x =>
    cases y with
    | none => simp [okOpt] at h
    | some y =>
      obtain ⟨k, n, h1, h2, h3⟩ := intK_rep (okOpd_rep (a := a) h hE) H
      exact ⟨k, n, h1, .inr ⟨y, rfl, h2, by simp⟩, h3⟩
theorem run_sliceBound_in (x : Value) (k : IntKind) (n : Int) (y : Nat) (c : BoundsCode) (hx : x = .int k n) (h0 : 0 ≤ n) (h1 : n ≤ y) (w : World) : (Instr.sliceBound x y c).run P w = .ok n.toNat w := by
  subst hx
  simp only [Instr.sliceBound, asIntOf, Sem.run_bind, Sem.run_pure, Result.andThen_ok, Sem.run_ite]
  rw [if_pos ⟨h0, h1⟩]

theorem sliceBounds_run (isS : Bool) (len cap : Nat) {lo hi : Option Operand} {c b : Int} (hlo : (lo = none ∧ c = 0) ∨ ∃ z k, lo = some z ∧ a.eval z = .int k c) (hhi : (hi = none ∧ b = len) ∨ ∃ z k, hi = some z ∧ a.eval z = .int k b)
    (h0 : 0 ≤ c) (h1 : c ≤ b) (h2 : b ≤ cap) (w : World) : (Instr.sliceBounds isS len cap (lo.map a.eval) (hi.map a.eval) none).run P w = .ok (c.toNat, b.toNat, cap) w := by
  have hb : ((b.toNat : Nat) : Int) = b := Int.toNat_of_nonneg (by omega)
  rcases hlo with ⟨rfl, rfl⟩ | ⟨z, k, rfl, hz⟩
  · rcases hhi with ⟨rfl, rfl⟩ | ⟨y, k', rfl, hy⟩
    · simp [Instr.sliceBounds]
    · have := fun code => run_sliceBound_in (P := P) (a.eval y) k' b cap code hy (by omega) h2
      simp [Instr.sliceBounds, this]
  · have hl := fun code => run_sliceBound_in (P := P) (a.eval z) k c b.toNat code hz h0 (by omega)
    rcases hhi with ⟨rfl, rfl⟩ | ⟨y, k', rfl, hy⟩
    · simp at hl
      simp [Instr.sliceBounds, hl]
    · have := fun code => run_sliceBound_in (P := P) (a.eval y) k' b cap code hy (by omega) h2
      simp [Instr.sliceBounds, this, hl]
/-- A cut's bounds, both. -/
theorem bounds_rep {lo hi : Option Opd} {lo' hi' : Option Operand} (h2 : okOpt ren lo lo' = true) (h3 : okOpt ren hi hi' = true)
    (hE1 : ∀ t ∈ (match lo with | some z => z.slot | none => []), RepV w0 ren μ (e t) (a.tmps.getD t undef)) (hE2 : ∀ t ∈ (match hi with | some z => z.slot | none => []), RepV w0 ren μ (e t) (a.tmps.getD t undef))
    {n : Nat} {R : Type} {K : Int → Int → Option R} {r : R}
    (H : (intK (match hi with | some y => e.ev y | none => .int .i64 (n : Int)) fun _ b => intK (match lo with | some y => e.ev y | none => .int .i64 0) fun _ a => K a b) = some r) :
    ∃ c b, K c b = some r ∧ ((lo' = none ∧ c = 0) ∨ ∃ z k, lo' = some z ∧ a.eval z = .int k c) ∧ ((hi' = none ∧ b = n) ∨ ∃ z k, hi' = some z ∧ a.eval z = .int k b) := by
  obtain ⟨kb, b, hb, hB, H⟩ := bound_rep h3 hE2 H
  obtain ⟨ka, c, hc, hA, H⟩ := bound_rep h2 hE1 H
  refine ⟨c, b, H, ?_, ?_⟩
  · rcases hA with ⟨rfl, rfl⟩ | ⟨z, h4, h5, _⟩
    · injection hc with _ h; exact .inl ⟨rfl, h.symm⟩
    · exact .inr ⟨z, ka, h4, h5⟩
  · rcases hB with ⟨rfl, rfl⟩ | ⟨z, h4, h5, _⟩
    · injection hb with _ h; exact .inl ⟨rfl, h.symm⟩
    · exact .inr ⟨z, kb, h4, h5⟩

theorem still_sound {ao : AOp} {o : Oper} (hs : ao.still = true) (hok : okOp P ren ao o.op = true) (hE : ∀ t ∈ ao.slots, RepV w0 ren μ (e t) (a.tmps.getD t undef))
    {C : CallT} {v : AV} {h' : Heap} (H : (execK base C ao e h fun v h => some (v, h)) = some (v, h')) : h' = h ∧ Yields P w0 ren μ o a v := by
  have val : ∀ {s : Sem Value} {v' : Value}, (∀ w, s.run P w = .ok v' w) → ∀ w, (do pure (.value (← s)) : Sem Next).run P w = .ok (.value v') w := fun hs w => by
    simp [hs w]
  cases hao : ao with
  | move x =>
    subst hao
    simp only [execK, Option.some.injEq, Prod.mk.injEq] at H
    obtain ⟨rfl, rfl⟩ := H
    cases ho : o.op with
    | move y =>
      simp only [ho, okOp] at hok
      exact ⟨rfl, _, fun w => by simp only [execOp, ho]; rfl, okOpd_rep hok hE⟩
    | assign y =>
      simp only [ho, okOp] at hok
      exact ⟨rfl, _, fun w => by simp only [execOp, ho]; rfl, okOpd_rep hok hE⟩
    | _ => simp [ho, okOp] at hok
  | pick c x y =>
    subst hao
    simp only [execK] at H
    cases ho : o.op with
    | pick c' x' y' =>
      simp only [ho, okOp, Bool.and_eq_true] at hok
      have hc := okOpd_rep hok.1.1 fun t ht => hE t (by simp [AOp.slots, ht])
      have hx := okOpd_rep hok.1.2 fun t ht => hE t (by simp [AOp.slots, ht])
      have hy := okOpd_rep hok.2 fun t ht => hE t (by simp [AOp.slots, ht])
      obtain ⟨b, h1, h2, H⟩ := boolK_rep hc H
      cases b
      · simp at H; obtain ⟨rfl, rfl⟩ := H
        exact ⟨rfl, _, fun w => by simp only [execOp, ho, h2, asBool]; rfl, hy⟩
      · simp at H; obtain ⟨rfl, rfl⟩ := H
        exact ⟨rfl, _, fun w => by simp only [execOp, ho, h2, asBool]; rfl, hx⟩
    | _ => simp [ho, okOp] at hok
  | build zs ps =>
    subst hao
    simp only [execK] at H
    cases ho : o.op with
    | build t qs =>
      simp only [ho, okOp, Bool.and_eq_true] at hok
      obtain ⟨⟨hz, hfs⟩, hps⟩ := hok
      obtain ⟨i, z, hi, hzz, hzs, hsz, hzl⟩ := okZero_spec hz
      obtain ⟨hL, h1⟩ := okScals_rep (w0 := w0) (ren := ren) (μ := μ) hzs
      split at hfs
      · rename_i fs ht
        obtain ⟨cs', us', hK, k2, k3, k4⟩ := fill_struct ht hps hE hL h1 H
        simp at hK; obtain ⟨rfl, rfl⟩ := hK
        refine ⟨rfl, .agg us'.toArray, fun w => ?_, .agg _ _ k2.len k2.at_ k3⟩
        simp only [execOp, ho]
        refine val (fun w => ?_) w
        have hpl := k4 (fun i => (fs.map fun f => (f.offset, (((P.info? f.type).map (·.size)).getD 0)))[i]?) (fun i f hf => by
          have hin : f ∈ fs.toList := by
            have := Array.mem_of_getElem? hf
            simpa using this
          have := List.all_eq_true.1 hfs f hin
          obtain ⟨j, hj⟩ := Option.isSome_iff_exists.1 this
          simp [hf, sizeOf?, hj])
        have hm : ∀ w, (fs.mapM fun f => (do pure (f.offset, ← sizeOf f.type) : Sem (Nat × Nat))).run P w = .ok (fs.map fun f => (f.offset, (((P.info? f.type).map (·.size)).getD 0))) w := by
          have hl : ∀ (l : List Field), (∀ f ∈ l, (P.info? f.type).isSome = true) → ∀ w, (l.mapM fun f => (do pure (f.offset, ← sizeOf f.type) : Sem (Nat × Nat))).run P w = .ok (l.map fun f => (f.offset, (((P.info? f.type).map (·.size)).getD 0))) w := by
            intro l
            induction l with
            | nil => intro _ w; simp
            | cons f l ih =>
              intro hl w
              obtain ⟨j, hj⟩ := Option.isSome_iff_exists.1 (hl f (by simp))
              have := ih (fun f hf => hl f (by simp [hf]))
              simp [List.mapM_cons, sizeOf, typeInfo, hj] at this ⊢
              simp [this]
          intro w
          rw [Array.mapM_eq_mapM_toList]
          have := hl fs.toList (fun f hf => List.all_eq_true.1 hfs f hf) w
          simp only [Sem.run_map, this, Result.andThen_ok]
          rw [← Array.toList_map, Array.toArray_toList]
        simp only [Instr.build, Sem.run_bind, zeroValue, typeInfo, run_program, hi, hzz, Result.andThen_ok, Sem.run_pure, run_underlying ht, hm]
        simp only [Array.toList_map]
        rw [hpl]
        rfl
      · cases hfs
    | _ => simp [ho, okOp] at hok
  | nilCheck x =>
    subst hao
    simp only [execK] at H
    cases ho : o.op with
    | nilCheck y =>
      simp only [ho, okOp] at hok
      have hx := okOpd_rep hok hE
      split at H
      · rename_i hev
        rw [hev] at hx
        simp at H; obtain ⟨rfl, rfl⟩ := H
        generalize hu : a.eval y = u at hx
        cases hx with
        | ptr _ _ _ x hm => exact ⟨rfl, _, fun w => by simp only [execOp, ho, hu]; rfl, .ptr _ _ _ x hm⟩
      · rename_i hev
        rw [hev] at hx
        simp at H; obtain ⟨rfl, rfl⟩ := H
        generalize hu : a.eval y = u at hx
        cases hx with
        | iptr _ _ b o vs hb hc hr h1 => exact ⟨rfl, _, fun w => by simp only [execOp, ho, hu]; rfl, .iptr _ _ b o vs hb hc hr h1⟩
      · cases H
    | _ => simp [ho, okOp] at hok
  | bin op q x y =>
    subst hao
    simp only [execK] at H
    cases ho : o.op with
    | binOp op' t x' y' t' =>
      simp only [ho, okOp, Bool.and_eq_true, beq_iff_eq] at hok
      obtain ⟨⟨⟨rfl, h1⟩, h2⟩, h3⟩ := hok
      have hx := okOpd_rep h1 fun t ht => hE t (by simp [AOp.slots, ht])
      have hy := okOpd_rep h2 fun t ht => hE t (by simp [AOp.slots, ht])
      obtain ⟨z, z', hK, hz, hr⟩ := bin_sound hx hy h3 H
      simp at hK; obtain ⟨rfl, rfl⟩ := hK
      exact ⟨rfl, z', fun w => by simp only [execOp, ho]; exact val (hr x' y') w, hz⟩
    | _ => simp [ho, okOp] at hok
  | un op x =>
    subst hao
    simp only [execK] at H
    cases ho : o.op with
    | unOp op' t x' =>
      simp only [ho, okOp, Bool.and_eq_true, beq_iff_eq] at hok
      obtain ⟨rfl, h1⟩ := hok
      have hx := okOpd_rep h1 hE
      unfold unK at H
      generalize hu : a.eval x' = u at hx
      split at H
      · rename_i k n hev
        rw [hev] at hx
        cases hx
        split at H
        · simp at H; obtain ⟨rfl, rfl⟩ := H
          exact ⟨rfl, _, fun w => by simp only [execOp, ho, hu]; exact val (fun w => by simp [Op.unary, Op.intArith]) w, .int _ _⟩
        · cases H
      · rename_i b hev
        rw [hev] at hx
        cases hx
        split at H
        · simp at H; obtain ⟨rfl, rfl⟩ := H
          exact ⟨rfl, _, fun w => by simp only [execOp, ho, hu]; exact val (fun w => by simp [Op.unary]) w, .bool _⟩
        · cases H
      · cases H
    | _ => simp [ho, okOp] at hok
  | conv k x =>
    subst hao
    simp only [execK] at H
    cases ho : o.op with
    | convert s d x' =>
      simp only [ho, okOp, Bool.and_eq_true] at hok
      obtain ⟨⟨h1, h2⟩, h3⟩ := hok
      have hx := okOpd_rep h1 hE
      obtain ⟨k', n, _, hu, H⟩ := intK_rep hx H
      simp at H; obtain ⟨rfl, rfl⟩ := H
      obtain ⟨ds, hds⟩ := Option.isSome_iff_exists.1 h2
      split at h3
      · rename_i k2 hk
        have := beq_iff_eq.1 h3
        subst this
        exact ⟨rfl, _, fun w => by simp only [execOp, ho, hu]; exact val (fun w => by simp [convert, run_underlying hds, run_underlying hk, Conv.intToInt]) w, .int _ _⟩
      · cases h3
    | _ => simp [ho, okOp] at hok
  | mkfn g cap =>
    subst hao
    simp only [execK] at H
    cases ho : o.op with
    | makeFunc fn first cap' =>
      cases fn with
      | func f =>
        simp only [ho, okOp, Bool.and_eq_true, beq_iff_eq] at hok
        obtain ⟨⟨h1, h2⟩, h3⟩ := hok
        have hL := okOpds_rep (a := a) (e := e) (w0 := w0) (μ := μ) h3 hE
        simp at H; obtain ⟨rfl, rfl⟩ := H
        have hfirst : first = #[] := by simpa using h2
        subst hfirst
        exact ⟨rfl, .func (.func f) #[] (cap'.toList.map a.eval).toArray, fun w => by simp only [execOp, ho]; exact val (fun w => by simp [Instr.makeFunc]; rw [← Array.toList_map, Array.toArray_toList]) w, .fn f g _ _ h1 hL.len hL.at_⟩
      | _ => simp [ho, okOp] at hok
    | _ => simp [ho, okOp] at hok
  | fieldAddr off x =>
    subst hao
    simp only [execK] at H
    cases ho : o.op with
    | fieldAddr t x' f =>
      simp only [ho, okOp, Bool.and_eq_true] at hok
      obtain ⟨h1, h2⟩ := hok
      have hx := okOpd_rep h1 hE
      split at h2
      · rename_i fl hfl
        obtain ⟨fs, h3, h4⟩ := fieldOf?_spec hfl
        simp only [Bool.and_eq_true, beq_iff_eq] at h2
        obtain ⟨h5, h6⟩ := h2
        split at h6
        · rename_i n hn
          have hn0 : n ≠ 0 := by simpa using h6
          subst h5
          have run : ∀ (b o' : Nat) w, (Instr.fieldAt t (.pointer (some ⟨b, o', none⟩)) f).run P w = .ok (.pointer (some ⟨b, o' + fl.offset, none⟩)) w := fun b o' w => by
            simp only [Instr.fieldAt, Sem.run_bind, run_underlying h3, Result.andThen_ok, h4, Instr.sureAddr, Sem.run_pure, fieldPlace, run_sizeOf_of hn, Sem.run_ite, if_neg hn0, Addr.add_mid]
          generalize hu : a.eval x' = u at hx
          split at H
          · rename_i hev
            rw [hev] at hx
            simp at H; obtain ⟨rfl, rfl⟩ := H
            cases hx with
            | ptr _ _ _ y hm => exact ⟨rfl, _, fun w => by simp only [execOp, ho, hu]; exact val (run _ _) w, .ptr _ _ _ y hm⟩
          · rename_i hev
            rw [hev] at hx
            simp at H; obtain ⟨rfl, rfl⟩ := H
            cases hx with
            | iptr _ _ b o' vs hb hc hr h1 => exact ⟨rfl, _, fun w => by simp only [execOp, ho, hu]; exact val (run _ _) w, by rw [Nat.add_assoc]; exact .iptr _ _ b o' vs hb hc hr h1⟩
          · cases H
        · cases h6
      · cases h2
    | _ => simp [ho, okOp] at hok
  | indexAddr s x i =>
    subst hao
    simp only [execK] at H
    cases ho : o.op with
    | indexAddr t x' i' =>
      simp only [ho, okOp, Bool.and_eq_true] at hok
      obtain ⟨⟨h1, h2⟩, h3⟩ := hok
      have hx := okOpd_rep h1 fun t ht => hE t (by simp [AOp.slots, ht])
      have hi := okOpd_rep h2 fun t ht => hE t (by simp [AOp.slots, ht])
      obtain ⟨k, n, _, hui, H⟩ := intK_rep hi H
      split at h3
      · rename_i el hel
        have ht := elemOf?_spec hel
        have hsz := beq_iff_eq.1 h3
        generalize hu : a.eval x' = u at hx
        split at H
        · rename_i m cs hev
          rw [hev] at hx
          split at H
          · rename_i hb
            simp at H; obtain ⟨rfl, rfl⟩ := H
            cases hx with
            | imm _ _ ad cap vs hn ha hc hr h1 =>
              obtain ⟨hsp, hblk⟩ := ha (.inl (by omega))
              cases ad with
              | mk ab ao asp =>
                simp at hsp; subst hsp
                refine ⟨rfl, _, fun w => ?_, .iptr cs (n.toNat * s) ab ao vs hblk hc hr h1⟩
                simp only [execOp, ho, hu, hui]
                refine val (fun w => ?_) w
                simp only [Instr.indexAt, asIntOf, Sem.run_bind, Sem.run_pure, Result.andThen_ok, run_underlying ht, run_sizeOf_of hsz, Sem.run_ite, if_pos hb, Addr.add_mid]
          · cases H
        · rename_i l g off m hev
          rw [hev] at hx
          split at H
          · rename_i hb
            simp at H; obtain ⟨rfl, rfl⟩ := H
            cases hx with
            | ref _ _ _ _ b o' cap sz s' hm hn ho' =>
              have ho2 : o' = off := by
                rcases ho' with ⟨h, _⟩ | ⟨h, _⟩
                · exact h
                · subst h; omega
              subst ho2
              refine ⟨rfl, _, fun w => ?_, .ptr l g (o' + n.toNat * s) ⟨b, sz, s'⟩ hm⟩
              simp only [execOp, ho, hu, hui]
              refine val (fun w => ?_) w
              simp only [Instr.indexAt, asIntOf, Sem.run_bind, Sem.run_pure, Result.andThen_ok, run_underlying ht, run_sizeOf_of hsz, Sem.run_ite, if_pos hb, Addr.add_mid]
          · cases H
        · cases H
      · cases h3
    | _ => simp [ho, okOp] at hok
  | index x i =>
    subst hao
    simp only [execK] at H
    cases ho : o.op with
    | index t x' i' =>
      simp only [ho, okOp, Bool.and_eq_true] at hok
      obtain ⟨⟨h1, h2⟩, h3⟩ := hok
      have hx := okOpd_rep h1 fun t ht => hE t (by simp [AOp.slots, ht])
      have hi := okOpd_rep h2 fun t ht => hE t (by simp [AOp.slots, ht])
      obtain ⟨k, n, _, hui, H⟩ := intK_rep hi H
      split at h3
      · rename_i ht
        generalize hu : a.eval x' = u at hx
        split at H
        · rename_i t' hev
          rw [hev] at hx
          cases hx
          split at H
          · rename_i hb
            simp at H; obtain ⟨rfl, rfl⟩ := H
            refine ⟨rfl, _, fun w => ?_, .int _ _⟩
            simp only [execOp, ho, hu, hui]
            refine val (fun w => ?_) w
            have hlt : n.toNat < t'.size := by omega
            have hg : t'[n.toNat]? = some (t'.get! n.toNat) := by
              rw [getElem?_pos t' n.toNat hlt]
              congr 1
              show t'.data[n.toNat]'_ = t'.data.getD _ _
              rw [Array.getD_eq_getD_getElem?, Array.getElem?_eq_getElem hlt]; rfl
            simp only [Instr.index, asIntOf, Sem.run_bind, Sem.run_pure, Result.andThen_ok, run_underlying ht, if_pos hb.1, hg]
          · cases H
        · cases H
      · cases h3
    | _ => simp [ho, okOp] at hok
  | field off n whole x =>
    subst hao
    simp only [execK] at H
    cases ho : o.op with
    | field t x' f =>
      simp only [ho, okOp, Bool.and_eq_true] at hok
      obtain ⟨h1, h2⟩ := hok
      have hx := okOpd_rep h1 hE
      split at h2
      · rename_i fl hfl
        obtain ⟨fs, h3, h4⟩ := fieldOf?_spec hfl
        simp only [Bool.and_eq_true, beq_iff_eq] at h2
        obtain ⟨h5, h6⟩ := h2
        subst h5
        generalize hu : a.eval x' = u at hx
        split at H
        · rename_i cs hev
          rw [hev] at hx
          cases hx with
          | agg _ us hl hr h11 =>
            have hL : RepL w0 ren μ cs us := ⟨hl, hr⟩
            split at H
            · rename_i hle
              split at H
              · rename_i ds
                simp at H; obtain ⟨rfl, rfl⟩ := H
                split at h6
                · rename_i hrow
                  simp only [Bool.and_eq_true, beq_iff_eq] at h6
                  have hL2 := (hL.drop fl.offset).take n
                  refine ⟨rfl, .agg ((us.drop fl.offset).take n).toArray, fun w => ?_, .agg _ _ hL2.len hL2.at_ fun c hc => h11 c (List.mem_of_mem_drop (List.mem_of_mem_take hc))⟩
                  simp only [execOp, ho, hu]
                  refine val (fun w => ?_) w
                  simp only [Instr.field, Sem.run_bind, run_underlying h3, Result.andThen_ok, h4, asAgg, Sem.run_pure, part, run_isAgg_row hrow, run_sizeOf_of h6.2, Sem.run_ite, if_true]
                  congr 2
                  apply Array.ext'
                  simp [Array.toList_extract, List.extract_eq_take_drop]
                · simp at h6
                · cases h6
              · rename_i v0 hv0
                simp at H; obtain ⟨rfl, rfl⟩ := H
                split at h6
                · simp at h6
                · rename_i hrow
                  simp only [Bool.and_eq_true, beq_iff_eq] at h6
                  have hn1 := h6.2
                  subst hn1
                  have hlt : fl.offset < cs.length := by omega
                  have hlt2 : fl.offset < us.length := by rw [← hl]; exact hlt
                  have hv1 : v0 = cs[fl.offset] := by
                    rw [List.drop_eq_getElem_cons hlt, List.take_succ_cons] at hv0
                    injection hv0 with hv0 _
                    exact hv0.symm
                  refine ⟨rfl, us[fl.offset], fun w => ?_, by rw [hv1]; exact hr _ _ _ (List.getElem?_eq_getElem hlt) (List.getElem?_eq_getElem hlt2)⟩
                  simp only [execOp, ho, hu]
                  refine val (fun w => ?_) w
                  simp only [Instr.field, Sem.run_bind, run_underlying h3, Result.andThen_ok, h4, asAgg, Sem.run_pure, part, run_isAgg_row hrow, Sem.run_ite, Bool.false_eq_true, if_false, toArray_getElem?, List.getElem?_eq_getElem hlt2]
                · cases h6
              · cases H
            · cases H
        · cases H
      · cases h2
    | _ => simp [ho, okOp] at hok
  | extract x i =>
    subst hao
    simp only [execK] at H
    cases ho : o.op with
    | extract x' i' =>
      simp only [ho, okOp, Bool.and_eq_true, beq_iff_eq] at hok
      obtain ⟨h1, rfl⟩ := hok
      have hx := okOpd_rep h1 hE
      generalize hu : a.eval x' = u at hx
      split at H
      · rename_i vs hev
        rw [hev] at hx
        obtain ⟨v0, hv0, H⟩ := bind_some H
        simp at H; obtain ⟨rfl, rfl⟩ := H
        cases hx with
        | tup _ us hl hr =>
          have hlt : i < us.length := by rw [← hl]; exact (List.getElem?_eq_some_iff.1 hv0).1
          refine ⟨rfl, us[i], fun w => ?_, hr i _ _ hv0 (List.getElem?_eq_getElem hlt)⟩
          simp only [execOp, ho, hu]
          refine val (fun w => ?_) w
          simp only [Instr.extract, toArray_getElem?, List.getElem?_eq_getElem hlt, Sem.run_pure]
      · cases H
    | _ => simp [ho, okOp] at hok
  | len x =>
    subst hao
    simp only [execK] at H
    cases ho : o.op with
    | call c =>
      obtain ⟨callee, args, argTypes⟩ := c
      simp only [ho, okOp, Bool.and_eq_true] at hok
      obtain ⟨⟨h1, h2⟩, h3⟩ := hok
      split at h1
      · rename_i hcal
        obtain ⟨y, rfl⟩ := okOpds_one h2
        have hx : RepV w0 ren μ (e.ev x) (a.eval y) := (okOpds_rep (a := a) (e := e) (w0 := w0) (μ := μ) h2 (by simpa [AOp.slots] using hE)).at_ 0 _ _ rfl rfl
        obtain ⟨n, A, cap, H, hv⟩ := lenK_rep hx H
        simp at H; obtain ⟨rfl, rfl⟩ := H
        refine ⟨rfl, _, fun w => ?_, .int _ _⟩
        split at h3
        · rename_i t ht
          obtain ⟨el, hel⟩ := Option.isSome_iff_exists.1 h3
          simp only [execOp, ho, resolve, Sem.run_bind, Sem.run_pure, Result.andThen_ok, invoke, builtin]
          simp [Builtin.len_, ht, hv, run_underlying (elemOf?_spec hel), goInt]
        · cases h3
      · cases h1
    | _ => simp [ho, okOp] at hok
  | lenStr x =>
    subst hao
    simp only [execK] at H
    cases ho : o.op with
    | call c =>
      obtain ⟨callee, args, argTypes⟩ := c
      simp only [ho, okOp, Bool.and_eq_true] at hok
      obtain ⟨⟨h1, h2⟩, h3⟩ := hok
      split at h1
      · rename_i hcal
        obtain ⟨y, rfl⟩ := okOpds_one h2
        have hx : RepV w0 ren μ (e.ev x) (a.eval y) := (okOpds_rep (a := a) (e := e) (w0 := w0) (μ := μ) h2 (by simpa [AOp.slots] using hE)).at_ 0 _ _ rfl rfl
        generalize hu : a.eval y = u at hx
        split at H
        · rename_i s hev
          rw [hev] at hx
          cases hx
          simp at H; obtain ⟨rfl, rfl⟩ := H
          refine ⟨rfl, _, fun w => ?_, .int _ _⟩
          split at h3
          · rename_i t ht
            split at h3
            · rename_i hs
              simp only [execOp, ho, resolve, Sem.run_bind, Sem.run_pure, Result.andThen_ok, invoke, builtin]
              simp [Builtin.len_, ht, hu, run_underlying hs, goInt]
            · cases h3
          · cases h3
        · cases H
      · cases h1
    | _ => simp [ho, okOp] at hok
  | max x y =>
    subst hao
    simp only [execK] at H
    cases ho : o.op with
    | call c =>
      obtain ⟨callee, args, argTypes⟩ := c
      simp only [ho, okOp, Bool.and_eq_true] at hok
      obtain ⟨h1, h2⟩ := hok
      split at h1
      · obtain ⟨x', y', rfl⟩ := okOpds_two h2
        have hL := okOpds_rep (a := a) (e := e) (w0 := w0) (μ := μ) h2 (by simpa [AOp.slots] using hE)
        have hx : RepV w0 ren μ (e.ev x) (a.eval x') := hL.at_ 0 _ _ rfl rfl
        have hy : RepV w0 ren μ (e.ev y) (a.eval y') := hL.at_ 1 _ _ rfl rfl
        obtain ⟨k, n, _, hu, H⟩ := intK_rep hx H
        obtain ⟨k', m, _, hv, H⟩ := intK_rep hy H
        simp at H; obtain ⟨rfl, rfl⟩ := H
        refine ⟨rfl, _, fun w => ?_, .int _ _⟩
        simp only [execOp, ho, resolve, Sem.run_bind, Sem.run_pure, Result.andThen_ok, invoke, builtin]
        simp [Builtin.max_, Builtin.max2, hu, hv]
      · cases h1
    | _ => simp [ho, okOp] at hok
  | min x y =>
    subst hao
    simp only [execK] at H
    cases ho : o.op with
    | call c =>
      obtain ⟨callee, args, argTypes⟩ := c
      simp only [ho, okOp, Bool.and_eq_true] at hok
      obtain ⟨h1, h2⟩ := hok
      split at h1
      · obtain ⟨x', y', rfl⟩ := okOpds_two h2
        have hL := okOpds_rep (a := a) (e := e) (w0 := w0) (μ := μ) h2 (by simpa [AOp.slots] using hE)
        have hx : RepV w0 ren μ (e.ev x) (a.eval x') := hL.at_ 0 _ _ rfl rfl
        have hy : RepV w0 ren μ (e.ev y) (a.eval y') := hL.at_ 1 _ _ rfl rfl
        obtain ⟨k, n, _, hu, H⟩ := intK_rep hx H
        obtain ⟨k', m, _, hv, H⟩ := intK_rep hy H
        simp at H; obtain ⟨rfl, rfl⟩ := H
        refine ⟨rfl, _, fun w => ?_, .int _ _⟩
        simp only [execOp, ho, resolve, Sem.run_bind, Sem.run_pure, Result.andThen_ok, invoke, builtin]
        simp [Builtin.min_, Builtin.min2, hu, hv]
      · cases h1
    | _ => simp [ho, okOp] at hok
  | cutStr x lo hi =>
    subst hao
    simp only [execK] at H
    cases ho : o.op with
    | slice t x' lo' hi' mx =>
      cases mx with
      | some _ => simp [ho, okOp] at hok
      | none =>
        simp only [ho, okOp, Bool.and_eq_true] at hok
        obtain ⟨⟨⟨h1, h2⟩, h3⟩, h4⟩ := hok
        have hx := okOpd_rep h1 fun t ht => hE t (by simp only [AOp.slots, List.mem_append]; exact .inl (.inl ht))
        split at h4
        · rename_i ht
          generalize hu : a.eval x' = u at hx
          split at H
          · rename_i s hev
            rw [hev] at hx
            cases hx
            obtain ⟨c, b, H, hA, hB⟩ := bounds_rep (a := a) (e := e) (w0 := w0) (μ := μ) h2 h3 (fun t ht => hE t (by simp only [AOp.slots, List.mem_append]; exact .inl (.inr ht))) (fun t ht => hE t (by simp only [AOp.slots, List.mem_append]; exact .inr ht)) H
            split at H
            · rename_i hin
              simp at H; obtain ⟨rfl, rfl⟩ := H
              refine ⟨rfl, _, fun w => ?_, .str _⟩
              simp only [execOp, ho, hu]
              refine val (fun w => ?_) w
              have := sliceBounds_run (P := P) false s.size s.size hA hB hin.1 hin.2.1 hin.2.2
              simp [Instr.sliceAt, run_underlying ht, Instr.slice, this]
            · cases H
          · cases H
        · cases h4
    | _ => simp [ho, okOp] at hok
  | _ => simp [hao, AOp.still] at hs
end
end Go.AM
