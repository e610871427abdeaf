import Derived.Test.YtfdbegdgedhhcaaGreatAmStill
import Derived.Laws.BytesArg
set_option linter.all false
/- Operations that read, make or write memory. -/
namespace Go.AM
open Go.RowKit
set_option linter.unusedVariables false
set_option linter.unusedSimpArgs false
section
variable {w0 : World} {ren : Nat → Option Nat} {μ : Mu} {h : Heap} {w : World} {base : Nat} {P : Program} {a : Act} {e : Env}

/-- What an operation gives. -/
def Gives (P : Program) (w0 : World) (ren : Nat → Option Nat) (base : Nat) (μ : Mu) (h : Heap) (w : World) (o : Oper) (a : Act) (v : AV) (h' : Heap) : Prop :=
  ∃ v' w' μ', ((execOp a.eval o).run P w = .ok (.value v') w' ∨ ((execOp a.eval o).run P w = .ok .skip w' ∧ v' = undef)) ∧ RepV w0 ren μ' v v' ∧ Step w0 ren base μ h w μ' h' w'

theorem Yields.gives {o : Oper} {v : AV} (h1 : Yields P w0 ren μ o a v) (I : Inv w0 ren μ h w) : Gives P w0 ren base μ h w o a v h := by
  obtain ⟨v', h2, h3⟩ := h1
  exact ⟨v', w, μ, .inl (h2 w), h3, .refl I⟩

theorem zero_rep {t : TypeId} {zs : List AV} (hz : okZero P t zs = true) : ∃ i z, P.info? t = some i ∧ i.zero = some z ∧ i.size = zs.length ∧ z.cells.size = zs.length ∧ RepL w0 ren μ zs z.cells.toList ∧ ∀ c ∈ zs, c.one = true := by
  obtain ⟨i, z, hi, hzz, hzs, hsz, hzl⟩ := okZero_spec hz
  obtain ⟨hL, h1⟩ := okScals_rep (w0 := w0) (ren := ren) (μ := μ) hzs
  exact ⟨i, z, hi, hzz, hsz, hzl, hL, h1⟩

theorem alloc_sound {zs : List AV} {o : Oper} (hok : okOp P ren (.alloc zs) o.op = true) (I : Inv w0 ren μ h w) (hb : base ≤ h.length) {C : CallT} {v : AV} {h' : Heap}
    (H : (execK base C (.alloc zs) e h fun v h => some (v, h)) = some (v, h')) : Gives P w0 ren base μ h w o a v h' := by
  simp only [execK] at H
  cases ho : o.op with
  | alloc t =>
    simp only [ho, okOp] at hok
    obtain ⟨i, z, hi, hzz, hsz, hzl, hL, h1⟩ := zero_rep (w0 := w0) (ren := ren) (μ := μ) hok
    simp at H; obtain ⟨rfl, rfl⟩ := H
    have S := I.alloc hb zs z.cells.toList t 1 (by simp [hzl]) (by rw [show zs.length = z.cells.toList.length by simp [hzl], List.take_length]; exact hL) h1
    refine ⟨.pointer (some ⟨w.heap.size, 0, none⟩), _, _, .inl ?_, .ptr _ _ _ _ (Mu.add_same _ _ _ _), S⟩
    simp only [execOp, ho]
    simp [Instr.alloc, zeroValue, typeInfo, hi, hzz, newVar, newRow]
  | _ => simp [ho, okOp] at hok

theorem box_sound {x : Opd} {o : Oper} (hok : okOp P ren (.box x) o.op = true) (I : Inv w0 ren μ h w) (hb : base ≤ h.length) (hE : ∀ t ∈ x.slot, RepV w0 ren μ (e t) (a.tmps.getD t undef)) {C : CallT} {v : AV} {h' : Heap}
    (H : (execK base C (.box x) e h fun v h => some (v, h)) = some (v, h')) : Gives P w0 ren base μ h w o a v h' := by
  simp only [execK] at H
  cases ho : o.op with
  | box t y =>
    simp only [ho, okOp] at hok
    have hx := okOpd_rep hok hE
    obtain ⟨cs, H, hL, h1⟩ := cellsK_rep hx H
    simp at H; obtain ⟨rfl, rfl⟩ := H
    have S := I.alloc hb cs (a.eval y).cells.toList t 1 (by rw [hL.len]; exact Nat.le_refl _) (by rw [hL.len, List.take_length]; exact hL) h1
    refine ⟨.pointer (some ⟨w.heap.size, 0, none⟩), _, _, .inl ?_, .ptr _ _ _ _ (Mu.add_same _ _ _ _), S⟩
    simp only [execOp, ho]
    simp [Instr.box, newVar, newRow]
  | _ => simp [ho, okOp] at hok

theorem load_sound {n : Nat} {whole : Bool} {ty : Ty} {x : Opd} {o : Oper} (hok : okOp P ren (.load n whole ty x) o.op = true) (I : Inv w0 ren μ h w) (hE : ∀ t ∈ x.slot, RepV w0 ren μ (e t) (a.tmps.getD t undef)) {C : CallT} {v : AV} {h' : Heap}
    (H : (execK base C (.load n whole ty x) e h fun v h => some (v, h)) = some (v, h')) : Gives P w0 ren base μ h w o a v h' := by
  simp only [execK] at H
  cases ho : o.op with
  | load t y =>
    simp only [ho, okOp, Bool.and_eq_true] at hok
    obtain ⟨h1, h2⟩ := hok
    have hx := okOpd_rep h1 hE
    obtain ⟨cs, us, b, off, H, hy, hl, hL, hr, hone⟩ := readK_rep I hx H
    split at h2
    · rename_i hrow
      simp only [Bool.and_eq_true, beq_iff_eq] at h2
      obtain ⟨hw, hn⟩ := h2
      subst hw
      have H := castK_same _ _ _ _ H
      simp at H; obtain ⟨rfl, rfl⟩ := H
      obtain ⟨d, hd, hdr⟩ := isRow?_spec hrow
      refine ⟨.agg us.toArray, w, μ, .inl ?_, .agg _ _ hL.len hL.at_ hone, .refl I⟩
      simp only [execOp, ho, hy]
      have := run_loadAt_mid (P := P) w b off t us d hr hd hdr (by rw [← hL.len, hl]; exact hn)
      simp [this]
    · rename_i hrow
      simp only [Bool.and_eq_true, beq_iff_eq, Bool.not_eq_true'] at h2
      obtain ⟨hw, hn⟩ := h2
      subst hw; subst hn
      obtain ⟨c, rfl⟩ : ∃ c, cs = [c] := by
        cases cs with
        | nil => simp at hl
        | cons c cs => cases cs with | nil => exact ⟨c, rfl⟩ | cons _ _ => simp at hl
      obtain ⟨u, rfl⟩ : ∃ u, us = [u] := by
        have := hL.len
        cases us with
        | nil => simp at this
        | cons u us => cases us with | nil => exact ⟨u, rfl⟩ | cons _ _ => simp at this
      have H := castK_same _ _ _ _ H
      simp at H; obtain ⟨rfl, rfl⟩ := H
      refine ⟨u, w, μ, .inl ?_, hL.uncons.1, .refl I⟩
      simp only [execOp, ho, hy]
      have hc := hr 0 u rfl
      simp only [Nat.add_zero] at hc
      simp [Instr.loadAt, Instr.sureAddr, loadVar, run_isAgg_row hrow, hc]
    · cases h2
  | _ => simp [ho, okOp] at hok

theorem flatten_replicate_getElem? {α : Type} (l : List α) : ∀ (n j : Nat), j < n * l.length → ((List.replicate n l).flatten)[j]? = l[j % l.length]?
  | 0, j, h => by simp at h
  | n + 1, j, h => by
      rw [List.replicate_succ, List.flatten_cons]
      rcases Nat.lt_or_ge j l.length with hj | hj
      · rw [List.getElem?_append_left hj, Nat.mod_eq_of_lt hj]
      · rw [List.getElem?_append_right hj]
        have h1 : j - l.length < n * l.length := by rw [Nat.add_mul] at h; omega
        rw [flatten_replicate_getElem? l n (j - l.length) h1]
        congr 1
        rw [Nat.mod_eq_sub_mod hj]
theorem flatten_replicate_length {α : Type} (l : List α) (n : Nat) : ((List.replicate n l).flatten).length = n * l.length := by
  induction n with
  | zero => simp
  | succ n ih => rw [List.replicate_succ, List.flatten_cons, List.length_append, ih, Nat.add_mul]; omega
/-- So many zero values side by side. -/
theorem zeros_rep {zs : List AV} {z : Array Value} (hL : RepL w0 ren μ zs z.toList) (n : Nat) : RepL w0 ren μ ((List.replicate n zs).flatten) ((Array.range (n * zs.length)).map (z[· % z.size]!)).toList := by
  have hl := hL.len
  refine ⟨by rw [flatten_replicate_length]; simp, fun i c u hc hu => ?_⟩
  have hi : i < n * zs.length := by
    have := (List.getElem?_eq_some_iff.1 hc).1
    rwa [flatten_replicate_length] at this
  rw [flatten_replicate_getElem? zs n i hi] at hc
  have hpos : 0 < zs.length := by
    rcases Nat.eq_zero_or_pos zs.length with h0 | h0
    · rw [h0] at hi; simp at hi
    · exact h0
  have hz : z.size = zs.length := by simpa using hl.symm
  have hm : i % zs.length < z.size := by rw [hz]; exact Nat.mod_lt _ hpos
  simp [hi] at hu
  rw [hz, getElem!_pos z (i % zs.length) hm] at hu
  refine hL.at_ (i % zs.length) c u hc ?_
  rw [← hu]
  simp [hm]
theorem zeros_one {zs : List AV} (h1 : ∀ c ∈ zs, c.one = true) (n : Nat) : ∀ c ∈ (List.replicate n zs).flatten, c.one = true := by
  intro c hc
  obtain ⟨l, hl, hc⟩ := List.mem_flatten.1 hc
  rw [(List.mem_replicate.1 hl).2] at hc
  exact h1 c hc

/-- Parts of a slice. -/
theorem fill_slice (s : Nat) : ∀ {ps : List (Nat × Opd)} {qs : List (Nat × Operand)} {cs : List AV} {us : List Value} {R : Type} {K : List AV → Option R} {r : R},
    okPartsL ren ps qs = true → (∀ u ∈ ps.flatMap (fun p => p.2.slot), RepV w0 ren μ (e u) (a.tmps.getD u undef)) → RepL w0 ren μ cs us → (∀ c ∈ cs, c.one = true) → layParts e cs (ps.map fun p => (p.1 * s, s, p.2)) K = some r →
    ∃ cs' us', K cs' = some r ∧ RepL w0 ren μ cs' us' ∧ (∀ c ∈ cs', c.one = true) ∧ cs'.length = cs.length ∧ Instr.fill (fun i => some (i * s, s)) us.toArray (qs.map fun q => (q.1, a.eval q.2)) = some us'.toArray
  | [], [], cs, us, R, K, r, _, _, hL, h1, H => ⟨cs, us, H, hL, h1, rfl, rfl⟩
  | p :: ps, q :: qs, cs, us, R, K, r, hok, hE, hL, h1, H => by
      simp only [okPartsL, Bool.and_eq_true, beq_iff_eq] at hok
      obtain ⟨⟨hf, ho⟩, hok⟩ := hok
      simp only [List.map_cons, layParts] at H
      have hx := okOpd_rep (a := a) (e := e) (w0 := w0) (μ := μ) ho fun u hu => hE u (by simp only [List.flatMap_cons, List.mem_append]; exact .inl hu)
      obtain ⟨vs, hK, hv, hv1⟩ := cellsK_rep hx H
      split at hK
      · rename_i hn
        have hlen : vs.length = (a.eval q.2).cells.toList.length := hv.len
        have hL' : RepL w0 ren μ (layAt cs (p.1 * s) vs) (us.take (p.1 * s) ++ (a.eval q.2).cells.toList ++ us.drop (p.1 * s + (a.eval q.2).cells.toList.length)) := by
          unfold layAt
          rw [hlen]
          exact ((hL.take _).append hv).append (hL.drop _)
        have hll : (layAt cs (p.1 * s) vs).length = cs.length := by unfold layAt; simp; omega
        obtain ⟨cs', us', k1, k2, k3, k5, k4⟩ := fill_slice s hok (fun u hu => hE u (by simp only [List.flatMap_cons, List.mem_append]; exact .inr hu)) hL' (by
          intro c hc
          simp only [layAt, List.mem_append] at hc
          rcases hc with (hc | hc) | hc
          · exact h1 c (List.mem_of_mem_take hc)
          · exact hv1 c hc
          · exact h1 c (List.mem_of_mem_drop hc)) hK
        refine ⟨cs', us', k1, k2, k3, k5.trans hll, ?_⟩
        simp only [List.map_cons, Instr.fill]
        have hsz : (a.eval q.2).cells.size = s := by rw [← hn.1, hlen]; simp
        have hcl := hL.len
        rw [← hf, if_neg (by simp only [Bool.or_eq_true, decide_eq_true_eq, not_or]; rw [hsz]; refine ⟨by simp, ?_⟩; simp; rw [← hcl]; omega)]
        have hw := fill_fold us (a.eval q.2).cells (p.1 * s) (by rw [hsz, ← hcl]; omega)
        rw [hw]
        exact k4
      · cases hK
  | [], _ :: _, cs, us, R, K, r, h, _, _, _, _ => by simp [okPartsL] at h
  | _ :: _, [], cs, us, R, K, r, h, _, _, _, _ => by simp [okPartsL] at h

theorem buildSlice_sound {s len : Nat} {zs : List AV} {ps : List (Nat × Opd)} {o : Oper} (hok : okOp P ren (.buildSlice s len zs ps) o.op = true) (I : Inv w0 ren μ h w) (hb : base ≤ h.length) (hE : ∀ t ∈ (AOp.buildSlice s len zs ps).slots, RepV w0 ren μ (e t) (a.tmps.getD t undef))
    {C : CallT} {v : AV} {h' : Heap} (H : (execK base C (.buildSlice s len zs ps) e h fun v h => some (v, h)) = some (v, h')) : Gives P w0 ren base μ h w o a v h' := by
  simp only [execK] at H
  cases ho : o.op with
  | buildSlice t len' qs =>
    simp only [ho, okOp, Bool.and_eq_true, beq_iff_eq, decide_eq_true_eq] at hok
    obtain ⟨⟨⟨h1, h2⟩, h3⟩, h4⟩ := hok
    subst h2
    split at h1
    · rename_i el hel
      simp only [Bool.and_eq_true, beq_iff_eq] at h1
      obtain ⟨hs, hz⟩ := h1
      obtain ⟨i, z, hi, hzz, hsz, hzl, hL, hone⟩ := zero_rep (w0 := w0) (ren := ren) (μ := μ) hz
      have hs' : s = zs.length := by
        simp only [sizeOf?, hi, Option.map_some, Option.some.injEq] at hs
        omega
      obtain ⟨cs', us', hK, hL', h1', hlen', hfill⟩ := fill_slice s h4 hE (zeros_rep hL len) (zeros_one hone len) H
      simp at hK; obtain ⟨rfl, rfl⟩ := hK
      have S := I.alloc hb cs' us' el s (by rw [hL'.len]; exact Nat.le_refl _) (by rw [hL'.len, List.take_length]; exact hL') h1'
      have hul : us'.length = len * s := by rw [← hL'.len, hlen', flatten_replicate_length, hs']
      refine ⟨.slice (some ⟨w.heap.size, 0, none⟩) len len, _, _, .inl ?_, .ref _ _ _ _ _ _ _ _ _ (Mu.add_same _ _ _ _) (Nat.le_refl _) (.inl ⟨rfl, by simp [hul]⟩), S⟩
      simp only [execOp, ho]
      have hrun : ∀ w, (Instr.buildSlice t len (qs.map fun (i, x) => (i, a.eval x))).run P w = .ok (.slice (some ⟨w.heap.size, 0, none⟩) len len) (w.alloc (.cells us'.toArray el)) := by
        intro w
        have hn24 : ¬ (len * s > 2 ^ 24) := by omega
        simp only [Instr.buildSlice, Sem.run_bind, run_underlying (elemOf?_spec hel), Result.andThen_ok, run_sizeOf_of hs, Sem.run_ite, if_neg hn24, Sem.run_pure]
        have hzero : (zeroValue el).run P w = .ok z w := by simp [zeroValue, typeInfo, hi, hzz]
        have hfill' : Instr.fill (fun i => some (i * s, s)) ((Array.range (len * s)).map (z.cells[· % z.cells.size]!)) (qs.toList.map fun q => (q.1, a.eval q.2)) = some us'.toArray := by
          rw [← hfill]
          congr 1
          rw [hs']
        by_cases h0 : len * s = 0
        · simp only [if_pos h0, Result.andThen_ok]
          have : (Array.range (len * s)).map ((#[] : Array Value)[· % (#[] : Array Value).size]!) = (Array.range (len * s)).map (z.cells[· % z.cells.size]!) := by rw [h0]; simp
          rw [this, Array.toList_map, hfill']
          rfl
        · simp only [if_neg h0, Sem.run_bind, hzero, Result.andThen_ok, Sem.run_pure]
          rw [Array.toList_map, hfill']
          rfl
      simp [hrun]
    · cases h1
  | _ => simp [ho, okOp] at hok

theorem makeSlice_sound {s bytes : Nat} {zs : List AV} {x : Opd} {o : Oper} (hok : okOp P ren (.makeSlice s bytes zs x) o.op = true) (I : Inv w0 ren μ h w) (hb : base ≤ h.length) (hE : ∀ t ∈ x.slot, RepV w0 ren μ (e t) (a.tmps.getD t undef))
    {C : CallT} {v : AV} {h' : Heap} (H : (execK base C (.makeSlice s bytes zs x) e h fun v h => some (v, h)) = some (v, h')) : Gives P w0 ren base μ h w o a v h' := by
  simp only [execK] at H
  cases ho : o.op with
  | makeSlice t l c =>
    simp only [ho, okOp, Bool.and_eq_true] at hok
    obtain ⟨⟨h1, h2⟩, h3⟩ := hok
    have hx := okOpd_rep (a := a) h1 hE
    have hx2 := okOpd_rep (a := a) h2 hE
    split at h3
    · rename_i el hel
      simp only [Bool.and_eq_true, beq_iff_eq] at h3
      obtain ⟨⟨hs, hby⟩, hz⟩ := h3
      obtain ⟨i, z, hi, hzz, hsz, hzl, hL, hone⟩ := zero_rep (w0 := w0) (ren := ren) (μ := μ) hz
      obtain ⟨k, n, hn, hu, H⟩ := intK_rep hx H
      rw [hn] at hx2
      have hu2 := int_of_rep hx2
      split at H
      · rename_i hbd
        simp at H; obtain ⟨rfl, rfl⟩ := H
        have hs' : s = zs.length := by simp only [sizeOf?, hi, Option.map_some, Option.some.injEq] at hs; omega
        have hby' : i.bytes = bytes := by simpa only [bytesOf?, hi, Option.map_some, Option.some.injEq] using hby
        obtain ⟨m, rfl⟩ := Int.eq_ofNat_of_zero_le hbd.1
        simp only [Int.toNat_natCast]
        have hrun := run_make (P := P) w t el i z (elemOf?_spec hel) hi hzz k k (m : Int) (m : Int) (by omega) (by omega) (by rw [hby']; have := hbd.2.1; rw [Int.mul_comm]; omega) (by omega)
        simp only [Int.toNat_natCast] at hrun
        have hR : RepL w0 ren μ ((List.replicate m zs).flatten) (madeCells z.cells (m * i.size)).toList := by
          have := zeros_rep hL m
          rw [show m * i.size = m * zs.length by rw [hsz]]
          exact this
        have hsize : (madeCells z.cells (m * i.size)).toList.length = m * s := by rw [hs', ← hsz]; simp [madeCells]
        have S := I.alloc hb _ (madeCells z.cells (m * i.size)).toList el s (by rw [hR.len]; exact Nat.le_refl _) (by rw [hR.len, List.take_length]; exact hR) (zeros_one hone m)
        refine ⟨.slice (some ⟨w.heap.size, 0, none⟩) m m, _, _, .inl ?_, .ref _ _ _ _ _ _ _ _ _ (Mu.add_same _ _ _ _) (Nat.le_refl _) (.inl ⟨rfl, by rw [hsize]; simp⟩), S⟩
        simp only [execOp, ho, hu, hu2]
        simp [hrun]
      · cases H
    · cases h3
  | _ => simp [ho, okOp] at hok

theorem bytes_rep : ∀ {cs : List AV} {us : List Value} {bs : List UInt8}, bytesOf cs = some bs → RepL w0 ren μ cs us → ∃ xs : List Int, us = xs.map (Value.int .u8) ∧ bs = xs.map fun n => UInt8.ofNat n.toNat
  | [], us, bs, h, hL => by
      simp [bytesOf] at h; subst h
      have := hL.len
      cases us with
      | nil => exact ⟨[], rfl, rfl⟩
      | cons _ _ => simp at this
  | c :: cs, us, bs, h, hL => by
      cases us with
      | nil => have := hL.len; simp at this
      | cons u us =>
        obtain ⟨h1, h2⟩ := hL.uncons
        cases c with
        | int k n =>
          cases k with
          | u8 =>
            simp only [bytesOf] at h
            obtain ⟨bs', hb, rfl⟩ := Option.map_eq_some_iff.1 h
            obtain ⟨xs, rfl, rfl⟩ := bytes_rep hb h2
            exact ⟨n :: xs, by rw [int_of_rep h1]; rfl, rfl⟩
          | _ => simp [bytesOf] at h
        | _ => simp [bytesOf] at h
theorem bytesToStr_sound {x : Opd} {o : Oper} (hok : okOp P ren (.bytesToStr x) o.op = true) (I : Inv w0 ren μ h w) (hE : ∀ t ∈ x.slot, RepV w0 ren μ (e t) (a.tmps.getD t undef))
    {C : CallT} {v : AV} {h' : Heap} (H : (execK base C (.bytesToStr x) e h fun v h => some (v, h)) = some (v, h')) : Gives P w0 ren base μ h w o a v h' := by
  simp only [execK] at H
  cases ho : o.op with
  | convert s d x' =>
    simp only [ho, okOp, Bool.and_eq_true] at hok
    obtain ⟨⟨h1, h2⟩, h3⟩ := hok
    have hx := okOpd_rep (a := a) h1 hE
    obtain ⟨cs, us, A, n, cap, H, hv, hl, hL, hone, hnil, hcell⟩ := sliceK_rep I hx H
    obtain ⟨bs, hbs, H⟩ := bind_some H
    simp at H; obtain ⟨rfl, rfl⟩ := H
    obtain ⟨xs, rfl, rfl⟩ := bytes_rep hbs hL
    split at h2
    · rename_i hd
      split at h3
      · rename_i el hel
        split at h3
        · rename_i hu8
          have hlen : xs.length = n := by have := hL.len; simp at this; omega
          refine ⟨.string (strOfNums xs), w, μ, .inl ?_, by rw [show (⟨(xs.map fun n => UInt8.ofNat n.toNat).toArray⟩ : ByteArray) = strOfNums xs from rfl]; exact .str _, .refl I⟩
          simp only [execOp, ho, hv]
          have hs := elemOf?_spec hel
          cases A with
          | none =>
            have : xs = [] := by have h0 := hnil rfl; rw [h0] at hL; have := hL.len; simp at this; simpa using this.symm
            subst this
            have := run_convert_bytes_nil (P := P) (w := w) s el hs hu8 n cap d hd
            simp [this, strOfNums, ByteArray.empty, ByteArray.emptyWithCapacity]
            rfl
          | some b =>
            cases Nat.eq_zero_or_pos n with
            | inl h0 =>
              subst h0
              have hxs : xs = [] := List.eq_nil_of_length_eq_zero hlen
              subst hxs
              have hrun : (convert s d (.slice (some b) 0 cap)).run P w = .ok (.string (strOfNums [])) w := by
                rw [run_convert_bytes_string w s d el _ 0 cap hs hu8 hd, run_bytesToString w _ 0 cap [] (by simp [loadCells, loadCellsFrom])]
                simp [strOfNums, ByteArray.empty, ByteArray.emptyWithCapacity]
                rfl
              simp [hrun]
            | inr h0 =>
              have hb0 := hcell b rfl 0 _ (show (xs.map (Value.int .u8))[0]? = some _ from List.getElem?_eq_getElem (by simpa [hlen] using h0))
              have hsp : b.spot = none := by
                cases hsp : b.spot with
                | none => rfl
                | some q => simp [Addr.add, World.cell?, hsp] at hb0; split at hb0 <;> cases hb0
              cases b with
              | mk bb bo bsp =>
                simp at hsp; subst hsp
                have := run_convert_bytes_arg (P := P) (w := w) s el hs hu8 bb bo n cap xs hlen (fun i hi => by
                  have := hcell ⟨bb, bo, none⟩ rfl i (.int .u8 (xs.getD i 0)) (by simp [List.getElem?_eq_getElem (show i < xs.length by omega), List.getD_eq_getElem?_getD])
                  rwa [Addr.add_mid] at this) d hd
                simp [this]
        · cases h3
      · cases h3
    · cases h2
  | _ => simp [ho, okOp] at hok

theorem cut_sound {s : Nat} {x : Opd} {lo hi : Option Opd} {o : Oper} (hok : okOp P ren (.cut s x lo hi) o.op = true) (I : Inv w0 ren μ h w) (hE : ∀ t ∈ (AOp.cut s x lo hi).slots, RepV w0 ren μ (e t) (a.tmps.getD t undef))
    {C : CallT} {v : AV} {h' : Heap} (H : (execK base C (.cut s x lo hi) e h fun v h => some (v, h)) = some (v, h')) : Gives P w0 ren base μ h w o a v h' := by
  simp only [execK] at H
  cases ho : o.op with
  | slice t x' lo' hi' mx =>
    cases mx with
    | some _ => simp [ho, okOp] at hok
    | none =>
      simp only [ho, okOp, Bool.and_eq_true] at hok
      obtain ⟨⟨⟨h1, h2⟩, h3⟩, h4⟩ := hok
      have hx := okOpd_rep (a := a) h1 fun t ht => hE t (by simp only [AOp.slots, List.mem_append]; exact .inl (.inl ht))
      split at h4
      · rename_i el hel
        have hs := beq_iff_eq.1 h4
        have ht := elemOf?_spec hel
        obtain ⟨n, A, cap, H, hv⟩ := lenK_rep hx H
        obtain ⟨c, b, H, hA, hB⟩ := bounds_rep (a := a) (e := e) (w0 := w0) (μ := μ) h2 h3 (fun t ht => hE t (by simp only [AOp.slots, List.mem_append]; exact .inl (.inr ht))) (fun t ht => hE t (by simp only [AOp.slots, List.mem_append]; exact .inr ht)) H
        split at H
        · rename_i hin
          obtain ⟨hc0, hcb, hbn⟩ := hin
          have run : n ≤ cap → (Instr.sliceAt t (.slice A n cap) (lo'.map a.eval) (hi'.map a.eval) none).run P w = .ok (.slice (if cap = c.toNat then A else A.map (·.add (c.toNat * s))) (b.toNat - c.toNat) (cap - c.toNat)) w := fun hnc => by
            have := sliceBounds_run (P := P) (a := a) true n cap hA hB hc0 hcb (by omega)
            simp [Instr.sliceAt, run_underlying ht, Instr.slice, this, run_sizeOf_of hs]
          have hgives : ∀ {v' : Value}, (Instr.sliceAt t (.slice A n cap) (lo'.map a.eval) (hi'.map a.eval) none).run P w = .ok v' w → RepV w0 ren μ v v' → h' = h → Gives P w0 ren base μ h w o a v h' := fun hr hv2 e => by
            subst e
            refine ⟨_, w, μ, .inl ?_, hv2, .refl I⟩
            simp only [execOp, ho, hv]
            simp [hr]
          rw [hv] at hx
          split at H
          · rename_i hev
            rw [hev] at hx
            simp at H; obtain ⟨rfl, rfl⟩ := H
            cases hx
            refine hgives (run (Nat.le_refl _)) ?_ rfl
            have : c.toNat = 0 ∧ b.toNat = 0 := by omega
            rw [this.1, this.2]
            simp
            exact .nil
          · rename_i m cs hev
            rw [hev] at hx
            simp at H; obtain ⟨rfl, rfl⟩ := H
            cases hx with
            | imm _ _ ad _ vs hn ha hc hr h1 =>
              refine hgives (run hn) ?_ rfl
              by_cases hcc : cap = c.toNat
              · rw [if_pos hcc]
                have e0 : b.toNat - c.toNat = 0 := by omega
                rw [e0]
                simp only [Nat.zero_mul, List.take_zero]
                exact .imm 0 [] ad _ vs (Nat.zero_le _) (fun h => by simp at h) (fun i hi => by simp at hi) (fun i c hc => by simp at hc) (by simp)
              · rw [if_neg hcc]
                simp only [Option.map_some]
                have hsub : ∀ i (x : AV), ((cs.drop (c.toNat * s)).take ((b.toNat - c.toNat) * s))[i]? = some x → cs[c.toNat * s + i]? = some x := fun i x hx => by
                  rw [List.getElem?_take] at hx
                  split at hx
                  · rwa [List.getElem?_drop] at hx
                  · cases hx
                by_cases hpos : 0 < n ∨ 0 < cs.length
                · obtain ⟨hsp, hblk⟩ := ha hpos
                  cases ad with
                  | mk ab ao asp =>
                    simp at hsp; subst hsp
                    rw [Addr.add_mid]
                    refine .imm _ _ ⟨ab, ao + c.toNat * s, none⟩ _ (fun i => vs (c.toNat * s + i)) (by omega) (fun _ => ⟨rfl, hblk⟩) (fun i hi => ?_) (fun i x hx => hr _ _ (hsub i x hx)) (fun x hx => h1 x (List.mem_of_mem_drop (List.mem_of_mem_take hx)))
                    have h5 : c.toNat * s + i < cs.length := by simp at hi; omega
                    have := hc _ h5
                    simp only at this ⊢
                    rw [show ao + c.toNat * s + i = ao + (c.toNat * s + i) by omega]
                    exact this
                · have h0 : n = 0 := by omega
                  have hcs : cs = [] := List.eq_nil_of_length_eq_zero (by omega)
                  have e0 : b.toNat - c.toNat = 0 := by omega
                  rw [e0]
                  subst hcs
                  simp only [Nat.zero_mul, List.take_zero]
                  exact .imm 0 [] _ _ vs (Nat.zero_le _) (fun h => by simp at h) (fun i hi => by simp at hi) (fun i c hc => by simp at hc) (by simp)
          · rename_i l g off m hev
            rw [hev] at hx
            cases hx with
            | ref _ _ _ _ bb oo _ sz s' hm hn hoo =>
              obtain ⟨cs, vs, e2, hh, hK, hvv, hsz, hle, hr, hone⟩ := blockK_rep I hm H
              dsimp only at hK
              split at hK
              · rename_i hss
                subst hss
                simp at hK; obtain ⟨rfl, rfl⟩ := hK
                refine hgives (run hn) ?_ rfl
                by_cases hcc : cap = c.toNat
                · rw [if_pos hcc, show cap - c.toNat = 0 by omega, show b.toNat - c.toNat = 0 by omega]
                  exact .ref _ _ _ _ _ _ _ _ _ hm (Nat.zero_le _) (.inr ⟨rfl, rfl⟩)
                · rw [if_neg hcc]
                  simp only [Option.map_some, Addr.add_mid]
                  rcases hoo with ⟨rfl, hsz2⟩ | ⟨rfl, rfl⟩
                  · refine .ref _ _ _ _ _ _ _ _ _ hm (by omega) (.inl ⟨rfl, ?_⟩)
                    rw [Nat.sub_mul]
                    have : c.toNat * s' ≤ cap * s' := Nat.mul_le_mul_right _ (by omega)
                    omega
                  · exfalso; omega
              · cases hK
          · cases H
        · cases H
      · cases h4
  | _ => simp [ho, okOp] at hok

/-- Cells laid into a block's. -/
theorem layAt_rep {cs : List AV} {vs : List Value} {xs : List AV} {us : List Value} {off : Nat} (hL : RepL w0 ren μ cs (vs.take cs.length)) (hle : cs.length ≤ vs.length) (hx : RepL w0 ren μ xs us) (hin : off + xs.length ≤ cs.length) :
    RepL w0 ren μ (layAt cs off xs) ((vs.take off ++ us ++ vs.drop (off + us.length)).take (layAt cs off xs).length) ∧ (layAt cs off xs).length = cs.length := by
  have hlen : (layAt cs off xs).length = cs.length := by unfold layAt; simp; omega
  refine ⟨?_, hlen⟩
  rw [hlen]
  have hul := hx.len
  have h3 := ((hL.take off).append hx).append (hL.drop (off + xs.length))
  unfold layAt
  have e1 : (vs.take cs.length).take off = vs.take off := by rw [List.take_take]; congr 1; omega
  have e2 : (vs.take off ++ us ++ vs.drop (off + us.length)).take cs.length = vs.take off ++ us ++ (vs.take cs.length).drop (off + xs.length) := by
    rw [List.take_append, List.take_of_length_le (by simp; omega)]
    congr 1
    rw [List.drop_take]
    rw [show (vs.take off ++ us).length = off + us.length by simp; omega, ← hul]
  rw [e2, ← e1]
  exact h3
theorem layAt_one {cs xs : List AV} {off : Nat} (h1 : ∀ c ∈ cs, c.one = true) (h2 : ∀ c ∈ xs, c.one = true) : ∀ c ∈ layAt cs off xs, c.one = true := by
  intro c hc
  simp only [layAt, List.mem_append] at hc
  rcases hc with (hc | hc) | hc
  · exact h1 c (List.mem_of_mem_take hc)
  · exact h2 c hc
  · exact h1 c (List.mem_of_mem_drop hc)

theorem store_sound {n : Nat} {x y : Opd} {o : Oper} (hok : okOp P ren (.store n x y) o.op = true) (I : Inv w0 ren μ h w) (hb : base ≤ h.length) (hE : ∀ t ∈ (AOp.store n x y).slots, RepV w0 ren μ (e t) (a.tmps.getD t undef))
    {C : CallT} {v : AV} {h' : Heap} (H : (execK base C (.store n x y) e h fun v h => some (v, h)) = some (v, h')) : Gives P w0 ren base μ h w o a v h' := by
  simp only [execK] at H
  cases ho : o.op with
  | store t x' y' =>
    simp only [ho, okOp, Bool.and_eq_true, beq_iff_eq] at hok
    obtain ⟨⟨h1, h2⟩, h3⟩ := hok
    have hx := okOpd_rep (a := a) h1 fun t ht => hE t (by simp [AOp.slots, ht])
    have hy := okOpd_rep (a := a) h2 fun t ht => hE t (by simp [AOp.slots, ht])
    generalize hu : a.eval x' = u at hx
    split at H
    · rename_i l g off hev
      rw [hev] at hx
      split at H
      · rename_i hbl
        obtain ⟨xs, H, hL, hone⟩ := cellsK_rep hy H
        split at H
        · rename_i hn
          cases hx with
          | ptr _ _ _ bk hm =>
            obtain ⟨cs, vs, e2, hh, hK, hvv, hsz, hle, hr, hone2⟩ := blockK_rep I hm H
            split at hK
            · rename_i hin
              simp at hK; obtain ⟨rfl, rfl⟩ := hK
              have hul := hL.len
              obtain ⟨hR, hlen⟩ := layAt_rep (off := off) hr (by simpa using hle) hL (by omega)
              have hst := run_storeCells_at P bk.b off e2 (a.eval y').cells.toList 0 vs w hvv (by simp only [Nat.add_zero]; rw [← hul]; omega) (hL.ones hone)
              simp only [Nat.add_zero] at hst
              have S := I.setCells hb hbl hh hm (vs' := (vs.toList.take off ++ (a.eval y').cells.toList ++ vs.toList.drop (off + (a.eval y').cells.toList.length)).toArray) hvv (by
                  have : (a.eval y').cells.size = xs.length := by rw [hul]; simp
                  simp; omega) hsz rfl (by
                  have : (a.eval y').cells.size = xs.length := by rw [hul]; simp
                  rw [hlen]; simp; omega) (by simpa using hR) (layAt_one hone2 hone)
              refine ⟨undef, _, μ, .inr ⟨?_, rfl⟩, .tup [] [] rfl (by simp), S⟩
              simp only [execOp, ho, hu]
              have hsize : ¬ ((a.eval y').cells.size ≠ n) := by rw [← hn, hul]; simp
              have hrun : (Instr.storeAt t (.pointer (some ⟨bk.b, off, none⟩)) (a.eval y')).run P w = .ok () (w.setRow bk.b (vs.toList.take off ++ (a.eval y').cells.toList ++ vs.toList.drop (off + (a.eval y').cells.toList.length)).toArray) := by
                simp only [Instr.storeAt, Instr.sureAddr, storeVar, Sem.run_bind, Sem.run_pure, Result.andThen_ok, run_sizeOf_of h3, Sem.run_ite, if_neg hsize]
                exact hst
              simp only [Sem.run_bind, hrun, Result.andThen_ok, Sem.run_pure]
            · cases hK
        · cases H
      · cases H
    · cases H
  | _ => simp [ho, okOp] at hok

theorem bytes_ok {need old bytes : Nat} (h : old < need) (hb : need * bytes ≤ 140737488355328) : Builtin.nextslicecap need old * bytes ≤ 281474976710656 := growslice_fits h hb

theorem append_sound {s bytes : Nat} {x y : Opd} {o : Oper} (hok : okOp P ren (.append s bytes x y) o.op = true) (I : Inv w0 ren μ h w) (hb : base ≤ h.length) (hE : ∀ t ∈ (AOp.append s bytes x y).slots, RepV w0 ren μ (e t) (a.tmps.getD t undef))
    {C : CallT} {v : AV} {h' : Heap} (H : (execK base C (.append s bytes x y) e h fun v h => some (v, h)) = some (v, h')) : Gives P w0 ren base μ h w o a v h' := by
  simp only [execK] at H
  cases ho : o.op with
  | call c =>
    obtain ⟨callee, args, argTypes⟩ := c
    simp only [ho, okOp, Bool.and_eq_true] at hok
    obtain ⟨⟨⟨h1, h2⟩, h3⟩, h4⟩ := hok
    have hs0 : s ≠ 0 := by simpa using h4
    split at h1
    · obtain ⟨x', y', rfl⟩ := okOpds_two h2
      have hLL := okOpds_rep (a := a) (e := e) (w0 := w0) (μ := μ) h2 (by simpa [AOp.slots] using hE)
      have hx : RepV w0 ren μ (e.ev x) (a.eval x') := hLL.at_ 0 _ _ rfl rfl
      have hy : RepV w0 ren μ (e.ev y) (a.eval y') := hLL.at_ 1 _ _ rfl rfl
      split at h3
      · rename_i t t2 ht ht2
        simp only [Bool.and_eq_true] at h3
        obtain ⟨h3, h5⟩ := h3
        obtain ⟨el2, hel2⟩ := Option.isSome_iff_exists.1 h5
        split at h3
        · rename_i el hel
          simp only [Bool.and_eq_true, beq_iff_eq] at h3
          obtain ⟨⟨hs, hby⟩, hz⟩ := h3
          obtain ⟨z, i, hi, hzz, hzs⟩ : ∃ z i, P.info? el = some i ∧ i.zero = some z ∧ z.cells.size = s := by
            split at hz
            · rename_i z hz2
              obtain ⟨i, hi, hzz⟩ := Option.bind_eq_some_iff.1 hz2
              exact ⟨z, i, hi, hzz, beq_iff_eq.1 hz⟩
            · cases hz
          have hsz : i.size = s := by simpa only [sizeOf?, hi, Option.map_some, Option.some.injEq] using hs
          have hbz : i.bytes = bytes := by simpa only [bytesOf?, hi, Option.map_some, Option.some.injEq] using hby
          have hu := elemOf?_spec hel
          have hu2 := elemOf?_spec hel2
          -- what is appended
          obtain ⟨ys, us, A, m0, mcap, H, hyv, hyl, hyL, hyone, hynil, hycell⟩ := sliceK_rep I hy H
          obtain ⟨m, A2, mcap2, H, hyv2⟩ := lenK_rep hy H
          obtain ⟨rfl, rfl, rfl⟩ : A = A2 ∧ m0 = m ∧ mcap = mcap2 := by
            rw [hyv] at hyv2
            injection hyv2 with q1 q2 q3
            exact ⟨q1, q2, q3⟩
          split at H
          · rename_i hml
            have hul := hyL.len
            -- the run: by what 'append' is given
            have hexec : ∀ {v' w'}, (Builtin.append_ #[t, t2] o.type #[a.eval x', .slice A m0 mcap]).run P w = .ok v' w' → (execOp a.eval o).run P w = .ok (.value v') w' := fun {v' w'} hr => by
              have e1 : argTypes[0]? = some t := ht
              have e2 : argTypes[1]? = some t2 := ht2
              simp only [execOp, ho, resolve, Sem.run_bind, Sem.run_pure, Result.andThen_ok, invoke, builtin]
              have : (Builtin.append_ argTypes o.type (Array.map a.eval #[x', y'])).run P w = .ok v' w' := by
                rw [show Array.map a.eval #[x', y'] = #[a.eval x', a.eval y'] by simp, hyv]
                have : Builtin.append_ argTypes o.type #[a.eval x', .slice A m0 mcap] = Builtin.append_ #[t, t2] o.type #[a.eval x', .slice A m0 mcap] := by
                  unfold Builtin.append_
                  simp [e1, e2]
                rw [this]
                exact hr
              rw [this]
              rfl
            have hfirst : ∀ w2 : World, (∀ ad u, w.cell? ad = some u → w2.cell? ad = some u) → (Builtin.firstCells s m0 (.slice A m0 mcap)).run P w2 = .ok us.toArray w2 := fun w2 hw2 => by
              cases A with
              | none =>
                have : us = [] := by have h0 := hynil rfl; rw [h0] at hul; exact List.eq_nil_of_length_eq_zero hul.symm
                subst this
                exact run_firstCells_none _ _ _ _ _
              | some b => exact run_firstCells_some w2 s m0 b m0 mcap us (by rw [← hul, hyl]) fun j u hj => hw2 _ _ (hycell b rfl j u hj)
            generalize hux : a.eval x' = ux at hx
            rw [hux] at hexec
            split at H
            · rename_i hev
              rw [hev] at hx
              cases hx
              split at H
              · rename_i hbd
                split at H
                · rename_i hm0
                  subst hm0
                  simp at H; obtain ⟨rfl, rfl⟩ := H
                  have hus : us = [] := List.eq_nil_of_length_eq_zero (by rw [← hul, hyl]; simp)
                  refine ⟨.slice none 0 0, w, μ, .inl (hexec ?_), .nil, .refl I⟩
                  have := hfirst w (fun _ _ h => h)
                  simp [Builtin.append_, run_underlying hu, run_underlying hu2, sizeOf, typeInfo, hi, hsz, Builtin.lenOf, this]
                · rename_i hm0
                  simp at H; obtain ⟨rfl, rfl⟩ := H
                  have h63 : ¬ (9223372036854775807 < (m0 : Int)) := by omega
                  have h48 : ¬ (281474976710656 < Builtin.nextslicecap m0 0 * bytes) := by have := bytes_ok (need := m0) (old := 0) (by omega) hbd.1; omega
                  have hrun : (Builtin.append_ #[t, t2] o.type #[.slice none 0 0, .slice A m0 mcap]).run P w = .ok (.slice (some ⟨w.heap.size, 0, none⟩) m0 (grownCap w m0 0 el)) (w.drew.alloc (.cells (us.toArray ++ Builtin.zeroCells z.cells (grownCap w m0 0 el - m0)) el)) := by
                    have := hfirst w.drew (fun _ _ h => h)
                    simp [Builtin.append_, run_underlying hu, run_underlying hu2, sizeOf, typeInfo, zeroValue, hi, hzz, hsz, hbz, Builtin.lenOf, hm0, h63, h48, Question.forced, run_firstCells_none, this, newRow, grownCap]
                  have S := I.drew.alloc hb ys (us ++ (Builtin.zeroCells z.cells (grownCap w m0 0 el - m0)).toList) el s (by rw [hul]; simp) (by rw [hul, List.take_left]; exact hyL) hyone
                  have hcap : us.length + (Builtin.zeroCells z.cells (grownCap w m0 0 el - m0)).toList.length = grownCap w m0 0 el * s := by
                    have hge := grownCap_ge w m0 0 el
                    rw [← hul, hyl]
                    simp only [Array.length_toList, size_zeroCells, hzs]
                    rw [← Nat.add_mul]
                    congr 1
                    omega
                  have hcap2 : 0 + grownCap w m0 0 el * s = (us ++ (Builtin.zeroCells z.cells (grownCap w m0 0 el - m0)).toList).length := by
                    rw [List.length_append, hcap, Nat.zero_add]
                  refine ⟨_, _, _, .inl (hexec hrun), .ref _ _ _ _ _ _ _ _ _ (Mu.add_same μ _ _ _) (grownCap_ge w m0 0 el) (.inl ⟨rfl, hcap2⟩), ?_⟩
                  have harr : (us ++ (Builtin.zeroCells z.cells (grownCap w m0 0 el - m0)).toList).toArray = us.toArray ++ Builtin.zeroCells z.cells (grownCap w m0 0 el - m0) := by apply Array.ext'; simp
                  rw [harr] at S
                  exact S.drewL
              · cases H
            · rename_i l g off n hev
              rw [hev] at hx
              split at H
              · rename_i hbd
                obtain ⟨hbl, hoff, hbd1, hbd2⟩ := hbd
                subst hoff
                cases hx with
                | ref _ _ _ _ bb oo cap sz s' hm hn hoo =>
                  obtain ⟨cs, vs, e2, hh, hK, hvv, hsz2, hle, hr, hone⟩ := blockK_rep I hm H
                  dsimp only at hK hvv hsz2 hh
                  split at hK
                  · rename_i hss
                    obtain ⟨hss, hnl⟩ := hss
                    subst hss
                    simp at hK; obtain ⟨rfl, rfl⟩ := hK
                    by_cases hroom : n + m0 ≤ cap
                    · -- there is room
                      rcases hoo with ⟨rfl, hcs⟩ | ⟨rfl, rfl⟩
                      · have hfit : n * s' + us.length ≤ vs.size := by
                          rw [hsz2, ← hcs, ← hul, hyl, ← Nat.add_mul]
                          have := Nat.mul_le_mul_right s' hroom
                          omega
                        have hst := run_storeCells_at P bb (n * s') e2 us 0 vs w hvv (by simpa using hfit) (hyL.ones hyone)
                        simp only [Nat.add_zero] at hst
                        have hrun : (Builtin.append_ #[t, t2] o.type #[.slice (some ⟨bb, 0, none⟩) n cap, .slice A m0 mcap]).run P w = .ok (.slice (some ⟨bb, 0, none⟩) (n + m0) cap) (w.setRow bb (vs.toList.take (n * s') ++ us ++ vs.toList.drop (n * s' + us.length)).toArray) := by
                          have := hfirst w (fun _ _ h => h)
                          simp [Builtin.append_, run_underlying hu, run_underlying hu2, sizeOf, typeInfo, hi, hsz, Builtin.lenOf, hroom, this, Addr.add_mid, hst]
                        have hlen : (cs ++ ys).length = n * s' + us.length := by simp; omega
                        have hcs2 : cs.length = n * s' := hnl.symm
                        have S := I.grewIn hb hbl hh hm (cs' := cs ++ ys) (vs' := (vs.toList.take (n * s') ++ us ++ vs.toList.drop (n * s' + us.length)).toArray) hvv (by simp; omega) hsz2 rfl (by rw [hlen]; simp; omega) (by
                          rw [hlen]
                          rw [List.take_append, List.take_of_length_le (by simp; omega)]
                          have : (vs.toList.take (n * s') ++ us).length = n * s' + us.length := by simp; omega
                          rw [this, Nat.sub_self, List.take_zero, List.append_nil]
                          rw [← hcs2]
                          exact hr.append hyL) (by
                          intro c hc
                          rcases List.mem_append.1 hc with hc | hc
                          · exact hone c hc
                          · exact hyone c hc)
                        exact ⟨_, _, _, .inl (hexec hrun), .ref _ _ _ _ _ _ _ _ _ (Mu.add_same _ _ _ _) hroom (.inl ⟨rfl, by simpa using hcs⟩), S⟩
                      · -- nothing is appended to nothing
                        have hm0 : m0 = 0 := by omega
                        subst hm0
                        have hus : us = [] := List.eq_nil_of_length_eq_zero (by rw [← hul, hyl]; simp)
                        have hcs0 : cs = [] := List.eq_nil_of_length_eq_zero (by rw [← hnl]; simp)
                        have hys0 : ys = [] := List.eq_nil_of_length_eq_zero (by rw [hyl]; simp)
                        subst hus; subst hcs0; subst hys0
                        have hrun : (Builtin.append_ #[t, t2] o.type #[.slice (some ⟨bb, oo, none⟩) 0 0, .slice A 0 mcap]).run P w = .ok (.slice (some ⟨bb, oo, none⟩) 0 0) w := by
                          have := hfirst w (fun _ _ h => h)
                          simp [Builtin.append_, run_underlying hu, run_underlying hu2, sizeOf, typeInfo, hi, hsz, Builtin.lenOf, this, storeCells]
                        have S := I.grewIn hb hbl hh hm (cs' := []) (vs' := vs) hvv rfl hsz2 rfl (by simp) (by simpa using (RepL.nil : RepL w0 ren μ [] [])) (by simp)
                        rw [setRow_self w bb vs e2 (0, 0) hvv] at S
                        exact ⟨_, _, _, .inl (hexec hrun), .ref _ _ _ _ _ _ _ _ _ (Mu.add_same _ _ _ _) (Nat.le_refl _) (.inr ⟨rfl, rfl⟩), S⟩
                    · -- there is none: a new block
                      have hgt : cap < n + m0 := by omega
                      have h63 : ¬ (9223372036854775807 < (n : Int) + (m0 : Int)) := by omega
                      have h48 : ¬ (281474976710656 < Builtin.nextslicecap (n + m0) cap * bytes) := by have := bytes_ok (need := n + m0) (old := cap) hgt hbd1; omega
                      have hcs2 : cs.length = n * s' := hnl.symm
                      have hold : (Builtin.firstCells s' n (.slice (some ⟨bb, oo, none⟩) n cap)).run P w.drew = .ok (vs.toList.take (n * s')).toArray w.drew := by
                        refine run_firstCells_some w.drew s' n ⟨bb, oo, none⟩ n cap (vs.toList.take (n * s')) (by simp; omega) fun j u hj => ?_
                        rw [World.cell?_drew, Addr.add_mid, cell_row hvv]
                        have hjn : j < n * s' := by have := (List.getElem?_eq_some_iff.1 hj).1; simp at this; omega
                        rw [take_getElem? hjn] at hj
                        rcases hoo with ⟨rfl, _⟩ | ⟨rfl, _⟩
                        · simpa using hj
                        · simp at hjn
                      have hrun : (Builtin.append_ #[t, t2] o.type #[.slice (some ⟨bb, oo, none⟩) n cap, .slice A m0 mcap]).run P w = .ok (.slice (some ⟨w.heap.size, 0, none⟩) (n + m0) (grownCap w (n + m0) cap el))
                          (w.drew.alloc (.cells ((vs.toList.take (n * s')).toArray ++ us.toArray ++ Builtin.zeroCells z.cells (grownCap w (n + m0) cap el - (n + m0))) el)) := by
                        have := hfirst w.drew (fun _ _ h => h)
                        have hnr : ¬ (n + m0 ≤ cap) := hroom
                        simp [Builtin.append_, run_underlying hu, run_underlying hu2, sizeOf, typeInfo, zeroValue, hi, hzz, hsz, hbz, Builtin.lenOf, hnr, h63, h48, Question.forced, hold, this, newRow, grownCap]
                        rw [← Array.append_assoc]
                        simp
                      have hcap : n * s' + us.length + (Builtin.zeroCells z.cells (grownCap w (n + m0) cap el - (n + m0))).size = grownCap w (n + m0) cap el * s' := by
                        have hge := grownCap_ge w (n + m0) cap el
                        rw [← hul, hyl, size_zeroCells, hzs, ← Nat.add_mul, ← Nat.add_mul]
                        congr 1
                        omega
                      have hlen : (cs ++ ys).length = n * s' + us.length := by simp; omega
                      have hvl : (vs.toList.take (n * s')).length = n * s' := by simp; omega
                      have S := I.drew.grewOut hb hbl hh (cs' := cs ++ ys) ((vs.toList.take (n * s')).toArray ++ us.toArray ++ Builtin.zeroCells z.cells (grownCap w (n + m0) cap el - (n + m0))) el (by rw [hlen]; simp; omega) (by
                          rw [hlen]
                          simp only [Array.toList_append]
                          rw [List.take_append, List.take_of_length_le (by simp; omega)]
                          rw [show n * s' + us.length - (List.take (n * s') vs.toList ++ us).length = 0 by simp; omega, List.take_zero, List.append_nil]
                          rw [← hcs2]
                          exact hr.append hyL) (by
                          intro c hc
                          rcases List.mem_append.1 hc with hc | hc
                          · exact hone c hc
                          · exact hyone c hc)
                      exact ⟨_, _, _, .inl (hexec hrun), .ref _ _ _ _ _ _ _ _ _ (Mu.add_same _ _ _ _) (grownCap_ge w (n + m0) cap el) (.inl ⟨rfl, by rw [← hcap]; simp; omega⟩), S.drewL⟩
                  · cases hK
              · cases H
            · cases H
          · cases H
        · cases h3
      · cases h3
    · cases h1
  | _ => simp [ho, okOp] at hok

theorem makeMap_sound {o : Oper} (hok : okOp P ren .makeMap o.op = true) (I : Inv w0 ren μ h w) (hb : base ≤ h.length) {C : CallT} {v : AV} {h' : Heap}
    (H : (execK base C .makeMap e h fun v h => some (v, h)) = some (v, h')) : Gives P w0 ren base μ h w o a v h' := by
  simp only [execK] at H
  cases ho : o.op with
  | makeMap t r =>
    cases r with
    | some _ => simp [ho, okOp] at hok
    | none =>
      simp at H; obtain ⟨rfl, rfl⟩ := H
      have S := I.allocObj hb (.map []) (.map #[] 0) ⟨#[], 0, rfl, trivial⟩
      refine ⟨.map (some w.heap.size), _, _, .inl ?_, .map h.length ⟨w.heap.size, 0, 0⟩ (Mu.add_same _ _ _ _), S⟩
      simp only [execOp, ho]
      simp [Instr.makeMap]
  | _ => simp [ho, okOp] at hok

theorem mapT_spec {t : TypeId} {b : Bool} (h : (match P.underlying t with | some (.map kt _) => (match P.underlying kt with | some .string => true | _ => false) | _ => false) = true) : ∃ kt e, P.underlying t = some (.map kt e) ∧ P.underlying kt = some .string := by
  split at h
  · rename_i kt e ht
    split at h
    · exact ⟨kt, e, ht, by assumption⟩
    · cases h
  · cases h

theorem beq_bytes_iff (a b : ByteArray) : (a == b) = true ↔ a = b := by
  rw [beq_toListBytes, beq_iff_eq, ByteArray.toList_eq, ByteArray.toList_eq]
  cases a; cases b; simp [← Array.toList_inj]
theorem beq_bytes_same (a : ByteArray) : (a == a) = true := (beq_bytes_iff a a).2 rfl
theorem beq_bytes_ne {a b : ByteArray} (h : ¬ b = a) : (a == b) = false := by
  cases hq : a == b with
  | false => rfl
  | true => exact absurd ((beq_bytes_iff a b).1 hq).symm h
theorem findNow_rep (s : ByteArray) : ∀ {es : List (ByteArray × AV)} {ms : List MapEntry} (i : Nat), RepM w0 ren μ es ms →
    ∃ r, Instr.findNow .string (.string s) ms i = some r ∧ (match findIn s es with | none => r = none | some x => ∃ j u, r = some (j, u) ∧ RepV w0 ren μ x u)
  | [], [], i, _ => ⟨none, rfl, rfl⟩
  | x :: es, m :: ms, i, h => by
      obtain ⟨hk, hv, hr⟩ := h
      simp only [Instr.findNow, hk, Instr.sameNow, findIn]
      by_cases hs : x.1 = s
      · subst hs
        rw [beq_bytes_same]
        exact ⟨some (i, m.val), rfl, by rw [if_pos rfl]; exact ⟨i, m.val, rfl, hv⟩⟩
      · rw [beq_bytes_ne hs]
        rw [if_neg hs]
        exact findNow_rep s (i + 1) hr
  | [], _ :: _, _, h => h.elim
  | _ :: _, [], _, h => h.elim
theorem run_checkKey_string (empty : Bool) (n : Nat) {kt : TypeId} (hk : P.underlying kt = some .string) (s : ByteArray) (w : World) : (Instr.checkKey empty (n + 1) kt (.string s)).run P w = .ok () w := by
  simp [Instr.checkKey, run_underlying hk]

theorem lookup_sound {zero : AV} {ty : Ty} {m k : Opd} {o : Oper} (hok : okOp P ren (.lookup zero ty m k) o.op = true) (I : Inv w0 ren μ h w) (hE : ∀ t ∈ (AOp.lookup zero ty m k).slots, RepV w0 ren μ (e t) (a.tmps.getD t undef))
    {C : CallT} {v : AV} {h' : Heap} (H : (execK base C (.lookup zero ty m k) e h fun v h => some (v, h)) = some (v, h')) : Gives P w0 ren base μ h w o a v h' := by
  simp only [execK] at H
  cases ho : o.op with
  | lookup t m' k' ok =>
    cases ok with
    | true => simp [ho, okOp] at hok
    | false =>
      simp only [ho, okOp, Bool.and_eq_true] at hok
      obtain ⟨⟨h1, h2⟩, h3⟩ := hok
      have hm := okOpd_rep (a := a) h1 fun t ht => hE t (by simp [AOp.slots, ht])
      have hk := okOpd_rep (a := a) h2 fun t ht => hE t (by simp [AOp.slots, ht])
      split at h3
      · rename_i kt el ht
        simp only [Bool.and_eq_true] at h3
        obtain ⟨h3, h4⟩ := h3
        split at h3
        · rename_i hkt
          split at h4
          · rename_i z hz
            obtain ⟨i, hi, hzz⟩ := Option.bind_eq_some_iff.1 hz
            generalize hum : a.eval m' = um at hm
            generalize huk : a.eval k' = uk at hk
            split at H
            · rename_i l s hev hek
              rw [hev] at hm
              rw [hek] at hk
              split at H
              · rename_i es hh
                have H := castK_same _ _ _ _ H
                simp at H; obtain ⟨rfl, rfl⟩ := H
                cases hk
                cases hm with
                | map _ x hx =>
                  obtain ⟨ms, clock, hw, hM⟩ := I.map _ _ _ hh hx
                  obtain ⟨r, hf, hr⟩ := findNow_rep s 0 hM
                  have hck := fun em => run_checkKey_string (P := P) em 9999 hkt s w
                  have hzero : (zeroValue el).run P w = .ok z w := by simp [zeroValue, typeInfo, hi, hzz]
                  have hget : (getObj x.b).run P w = .ok (.map ms clock) w := by simp [getObj, Sem.run, hw]
                  cases hfi : findIn s es with
                  | none =>
                    rw [hfi] at hr
                    subst hr
                    refine ⟨z, w, μ, .inl ?_, (okScal_rep h4).1, .refl I⟩
                    simp only [execOp, ho, hum, huk]
                    simp only [Instr.lookup, Sem.run_bind, run_underlying ht, Result.andThen_ok, hget, Sem.run_pure, hck, Instr.findKey, run_underlying hkt, hf, hzero]
                    rfl
                  | some x' =>
                    rw [hfi] at hr
                    obtain ⟨j, u, rfl, hu⟩ := hr
                    refine ⟨u, w, μ, .inl ?_, hu, .refl I⟩
                    simp only [execOp, ho, hum, huk]
                    simp only [Instr.lookup, Sem.run_bind, run_underlying ht, Result.andThen_ok, hget, Sem.run_pure, hck, Instr.findKey, run_underlying hkt, hf]
                    rfl
              · cases H
            · cases H
          · cases h4
        · cases h3
      · cases h3
  | _ => simp [ho, okOp] at hok

theorem putIn_rep (s : ByteArray) {v : AV} {u : Value} (hv : RepV w0 ren μ v u) : ∀ {es : List (ByteArray × AV)} {ms : List MapEntry} (i : Nat), RepM w0 ren μ es ms →
    (Instr.findNow .string (.string s) ms i = some none ∧ ∀ c, RepM w0 ren μ (putIn s v es) (ms ++ [{ key := .string s, val := u, born := c }])) ∨
    ∃ j w, Instr.findNow .string (.string s) ms i = some (some (i + j, w)) ∧ j < ms.length ∧ (ms[j]?).map (·.key) = some (.string s) ∧ RepM w0 ren μ (putIn s v es) (ms.modify j fun e => { e with key := .string s, val := u })
  | [], [], i, _ => .inl ⟨rfl, fun c => ⟨rfl, hv, trivial⟩⟩
  | x :: es, m :: ms, i, h => by
      obtain ⟨hk, hvv, hr⟩ := h
      simp only [Instr.findNow, hk, Instr.sameNow, putIn]
      by_cases hs : x.1 = s
      · subst hs
        rw [beq_bytes_same, if_pos rfl]
        exact .inr ⟨0, m.val, rfl, by simp, by simp [hk], rfl, hv, hr⟩
      · rw [beq_bytes_ne hs, if_neg hs]
        rcases putIn_rep s hv (i + 1) hr with ⟨h1, h2⟩ | ⟨j, w', h1, h2, h3, h4⟩
        · exact .inl ⟨h1, fun c => ⟨hk, hvv, h2 c⟩⟩
        · refine .inr ⟨j + 1, w', ?_, by simp; omega, by simpa using h3, ?_⟩
          · rw [h1, show i + 1 + j = i + (j + 1) by omega]
          · simp only [List.modify_succ_cons]
            exact ⟨hk, hvv, h4⟩
  | [], _ :: _, _, h => h.elim
  | _ :: _, [], _, h => h.elim

theorem mapUpdate_sound {m k v0 : Opd} {o : Oper} (hok : okOp P ren (.mapUpdate m k v0) o.op = true) (I : Inv w0 ren μ h w) (hb : base ≤ h.length) (hE : ∀ t ∈ (AOp.mapUpdate m k v0).slots, RepV w0 ren μ (e t) (a.tmps.getD t undef))
    {C : CallT} {v : AV} {h' : Heap} (H : (execK base C (.mapUpdate m k v0) e h fun v h => some (v, h)) = some (v, h')) : Gives P w0 ren base μ h w o a v h' := by
  simp only [execK] at H
  cases ho : o.op with
  | mapUpdate t m' k' v' =>
    simp only [ho, okOp, Bool.and_eq_true] at hok
    obtain ⟨⟨⟨h1, h2⟩, h3⟩, h4⟩ := hok
    have hm := okOpd_rep (a := a) h1 fun t ht => hE t (by simp [AOp.slots, ht])
    have hk := okOpd_rep (a := a) h2 fun t ht => hE t (by simp [AOp.slots, ht])
    have hv := okOpd_rep (a := a) h3 fun t ht => hE t (by simp [AOp.slots, ht])
    obtain ⟨kt, el, ht, hkt⟩ := mapT_spec (b := true) h4
    generalize hum : a.eval m' = um at hm
    generalize huk : a.eval k' = uk at hk
    split at H
    · rename_i l s hev hek
      rw [hev] at hm
      rw [hek] at hk
      split at H
      · rename_i hbl
        split at H
        · rename_i es hh
          split at H
          · rename_i hone
            simp at H; obtain ⟨rfl, rfl⟩ := H
            cases hk
            cases hm with
            | map _ x hx =>
              obtain ⟨ms, clock, hw, hM⟩ := I.map _ _ _ hh hx
              have hck := run_checkKey_string (P := P) false 9999 hkt s w
              have hget : (getObj x.b).run P w = .ok (.map ms clock) w := by simp [getObj, Sem.run, hw]
              have hset : ∀ ob, (setObj x.b ob).run P w = .ok () (setObjW w x.b ob) := fun ob => by simp [setObj, Sem.run, hw, setObjW]
              rcases putIn_rep s hv 0 hM with ⟨hf, hR⟩ | ⟨j, u, hf, hj, hjk, hR⟩
              · have S := I.setObj hb hbl hh hx (o' := .map (putIn s (e.ev v0) es)) (.map (ms.push { key := .string s, val := a.eval v', born := clock }) (clock + 1)) ⟨_, _, rfl, by simpa using hR clock⟩
                refine ⟨undef, _, μ, .inr ⟨?_, rfl⟩, .tup [] [] rfl (by simp), S⟩
                simp only [execOp, ho, hum, huk]
                simp only [Instr.mapUpdate, Sem.run_bind, run_underlying ht, Result.andThen_ok, hget, Sem.run_pure, hck, Instr.findKey, run_underlying hkt, hf, hset]
              · have hjs : j < ms.size := by simpa using hj
                have S := I.setObj hb hbl hh hx (o' := .map (putIn s (e.ev v0) es)) (.map (ms.modify j fun e => { e with key := .string s, val := a.eval v' }) clock) ⟨_, _, rfl, by simpa using hR⟩
                refine ⟨undef, _, μ, .inr ⟨?_, rfl⟩, .tup [] [] rfl (by simp), S⟩
                simp only [execOp, ho, hum, huk]
                have hkey : (((ms[0 + j]?).map (·.key)).getD (.string s)) = .string s := by
                  have : (ms[j]?).map (·.key) = some (.string s) := by simpa using hjk
                  rw [Nat.zero_add, this]; rfl
                have hstay : (Instr.keyThatStays (.string s) (.string s)).run P w = .ok (.string s) w := by
                  simp [Instr.keyThatStays, Instr.sameBits, beq_bytes_same]
                simp only [Instr.mapUpdate, Sem.run_bind, run_underlying ht, Result.andThen_ok, hget, Sem.run_pure, hck, Instr.findKey, run_underlying hkt, hf, hkey, hstay, hset]
                simp
          · cases H
        · cases H
      · cases H
    · cases H
  | _ => simp [ho, okOp] at hok

theorem range_sound {x : Opd} {o : Oper} (hok : okOp P ren (.range x) o.op = true) (I : Inv w0 ren μ h w) (hb : base ≤ h.length) (hE : ∀ t ∈ x.slot, RepV w0 ren μ (e t) (a.tmps.getD t undef)) {C : CallT} {v : AV} {h' : Heap}
    (H : (execK base C (.range x) e h fun v h => some (v, h)) = some (v, h')) : Gives P w0 ren base μ h w o a v h' := by
  simp only [execK] at H
  cases ho : o.op with
  | range t x' =>
    simp only [ho, okOp, Bool.and_eq_true] at hok
    obtain ⟨h1, h2⟩ := hok
    have hx := okOpd_rep (a := a) h1 hE
    split at h2
    · rename_i ht
      generalize hu : a.eval x' = u at hx
      split at H
      · rename_i s hev
        rw [hev] at hx
        cases hx
        simp at H; obtain ⟨rfl, rfl⟩ := H
        have S := I.allocObj hb (.iter s 0) (.stringIter s 0) rfl
        refine ⟨.pointer (some ⟨w.heap.size, 0, none⟩), _, _, .inl ?_, .iter h.length ⟨w.heap.size, 0, 0⟩ (Mu.add_same _ _ _ _), S⟩
        simp only [execOp, ho, hu]
        simp [Instr.range, run_underlying ht]
      · cases H
    · cases h2
  | _ => simp [ho, okOp] at hok

theorem next_sound {x : Opd} {o : Oper} (hok : okOp P ren (.next x) o.op = true) (I : Inv w0 ren μ h w) (hb : base ≤ h.length) (hE : ∀ t ∈ x.slot, RepV w0 ren μ (e t) (a.tmps.getD t undef)) {C : CallT} {v : AV} {h' : Heap}
    (H : (execK base C (.next x) e h fun v h => some (v, h)) = some (v, h')) : Gives P w0 ren base μ h w o a v h' := by
  simp only [execK] at H
  cases ho : o.op with
  | next x' q =>
    cases q with
    | false => simp [ho, okOp] at hok
    | true =>
      simp only [ho, okOp] at hok
      have hx := okOpd_rep (a := a) hok hE
      generalize hu : a.eval x' = u at hx
      split at H
      · rename_i l hev
        rw [hev] at hx
        split at H
        · rename_i hbl
          split at H
          · rename_i s pos hh
            cases hx with
            | iter _ x hx =>
              have hw := I.iter _ _ _ _ hh hx
              have hget : (getObj x.b).run P w = .ok (.stringIter s pos) w := by simp [getObj, Sem.run, hw]
              have hset : ∀ ob, (setObj x.b ob).run P w = .ok () (setObjW w x.b ob) := fun ob => by simp [setObj, Sem.run, hw, setObjW]
              split at H
              · rename_i hp
                simp at H; obtain ⟨rfl, rfl⟩ := H
                have S := I.setObj hb hbl hh hx (o' := .iter s (pos + (Utf8.decode s pos).2)) (.stringIter s (pos + (Utf8.decode s pos).2)) rfl
                refine ⟨.tuple #[.bool true, .int .i64 pos, .int .i32 (Utf8.decode s pos).1], _, μ, .inl ?_, ?_, S⟩
                · simp only [execOp, ho, hu]
                  simp [Instr.next, hget, hp, hset, goInt]
                · exact .tup [.bool true, .int .i64 pos, .int .i32 (Utf8.decode s pos).1] [.bool true, .int .i64 pos, .int .i32 (Utf8.decode s pos).1] rfl (RepL.cons (.bool true) (RepL.cons (.int _ _) (RepL.one (.int _ _)))).at_
              · rename_i hp
                simp at H; obtain ⟨rfl, rfl⟩ := H
                refine ⟨.tuple #[.bool false], w, μ, .inl ?_, .tup [.bool false] [.bool false] rfl (RepL.one (.bool false)).at_, .refl I⟩
                simp only [execOp, ho, hu]
                simp [Instr.next, hget, hp]
          · cases H
        · cases H
      · cases H
  | _ => simp [ho, okOp] at hok

theorem copy_sound {s : Nat} {x y : Opd} {o : Oper} (hok : okOp P ren (.copy s x y) o.op = true) (I : Inv w0 ren μ h w) (hb : base ≤ h.length) (hE : ∀ t ∈ (AOp.copy s x y).slots, RepV w0 ren μ (e t) (a.tmps.getD t undef))
    {C : CallT} {v : AV} {h' : Heap} (H : (execK base C (.copy s x y) e h fun v h => some (v, h)) = some (v, h')) : Gives P w0 ren base μ h w o a v h' := by
  simp only [execK] at H
  cases ho : o.op with
  | call c =>
    obtain ⟨callee, args, argTypes⟩ := c
    simp only [ho, okOp, Bool.and_eq_true] at hok
    obtain ⟨⟨h1, h2⟩, h3⟩ := hok
    split at h1
    · obtain ⟨x', y', rfl⟩ := okOpds_two h2
      have hLL := okOpds_rep (a := a) (e := e) (w0 := w0) (μ := μ) h2 (by simpa [AOp.slots] using hE)
      have hx : RepV w0 ren μ (e.ev x) (a.eval x') := hLL.at_ 0 _ _ rfl rfl
      have hy : RepV w0 ren μ (e.ev y) (a.eval y') := hLL.at_ 1 _ _ rfl rfl
      split at h3
      · rename_i t ht
        split at h3
        · rename_i el hel
          have hs := beq_iff_eq.1 h3
          have hu := elemOf?_spec hel
          obtain ⟨ys, us, A, m0, mcap, H, hyv, hyl, hyL, hyone, hynil, hycell⟩ := sliceK_rep I hy H
          obtain ⟨m, A2, mcap2, H, hyv2⟩ := lenK_rep hy H
          obtain ⟨rfl, rfl, rfl⟩ : A = A2 ∧ m0 = m ∧ mcap = mcap2 := by
            rw [hyv] at hyv2
            injection hyv2 with q1 q2 q3
            exact ⟨q1, q2, q3⟩
          generalize hux : a.eval x' = ux at hx
          split at H
          · rename_i l g off n hev
            rw [hev] at hx
            split at H
            · rename_i hbd
              obtain ⟨hbl, hml⟩ := hbd
              cases hx with
              | ref _ _ _ _ bb oo cap sz s' hm hn hoo =>
                obtain ⟨cs, vs, e2, hh, hK, hvv, hsz2, hle, hr, hone⟩ := blockK_rep I hm H
                dsimp only at hK hvv hsz2 hh
                split at hK
                · rename_i hss
                  obtain ⟨hss, hin⟩ := hss
                  subst hss
                  simp at hK; obtain ⟨rfl, rfl⟩ := hK
                  have hul := hyL.len
                  have hT := hyL.take (Nat.min m0 n * s')
                  have hmn1 : Nat.min m0 n * s' ≤ n * s' := Nat.mul_le_mul_right _ (Nat.min_le_right _ _)
                  have hmn2 : Nat.min m0 n * s' ≤ m0 * s' := Nat.mul_le_mul_right _ (Nat.min_le_left _ _)
                  have htl : (ys.take (Nat.min m0 n * s')).length = Nat.min m0 n * s' := by simp; omega
                  have htl2 : (us.take (Nat.min m0 n * s')).length = Nat.min m0 n * s' := by rw [← hT.len, htl]
                  have hone' : ∀ c ∈ ys.take (Nat.min m0 n * s'), c.one = true := fun c hc => hyone c (List.mem_of_mem_take hc)
                  obtain ⟨hR, hlen⟩ := layAt_rep (off := off) hr (by simpa using hle) hT (by omega)
                  have hst : (storeCells ⟨bb, oo, none⟩ (us.take (Nat.min m0 n * s')) 0).run P w = .ok () (w.setRow bb (vs.toList.take off ++ us.take (Nat.min m0 n * s') ++ vs.toList.drop (off + (us.take (Nat.min m0 n * s')).length)).toArray) := by
                    rcases hoo with ⟨rfl, _⟩ | ⟨rfl, rfl⟩
                    · have := run_storeCells_at P bb oo e2 (us.take (Nat.min m0 n * s')) 0 vs w hvv (by simp only [Nat.add_zero]; omega) (hT.ones hone')
                      simpa only [Nat.add_zero] using this
                    · have : us.take (Nat.min m0 0 * s') = [] := by
                        have : Nat.min m0 0 = 0 := Nat.min_zero _
                        rw [this]; simp
                      rw [this]
                      simp only [storeCells, List.append_nil, List.length_nil, Nat.add_zero, List.take_append_drop, Array.toArray_toList]
                      rw [setRow_self w bb vs e2 (0, 0) hvv]
                      rfl
                  have S := I.setCells hb hbl hh hm (vs' := (vs.toList.take off ++ us.take (Nat.min m0 n * s') ++ vs.toList.drop (off + (us.take (Nat.min m0 n * s')).length)).toArray) hvv (by simp; omega) hsz2 rfl (by rw [hlen]; simp; omega) (by simpa using hR) (layAt_one hone hone')
                  refine ⟨.int .i64 ((Nat.min m0 n : Nat) : Int), _, μ, .inl ?_, .int _ _, S⟩
                  have hfirst : (Builtin.firstCells s' (Nat.min m0 n) (.slice A m0 mcap)).run P w = .ok (us.take (Nat.min m0 n * s')).toArray w := by
                    cases A with
                    | none =>
                      have : us = [] := by have h0 := hynil rfl; rw [h0] at hul; exact List.eq_nil_of_length_eq_zero hul.symm
                      subst this
                      simpa using run_firstCells_none (P := P) w _ _ _ _
                    | some b =>
                      refine run_firstCells_some w s' _ b m0 mcap _ htl2 fun j u hj => ?_
                      rw [List.getElem?_take] at hj
                      split at hj
                      · exact hycell b rfl j u hj
                      · cases hj
                  have e1 : argTypes[0]? = some t := ht
                  simp only [execOp, ho, resolve, Sem.run_bind, Sem.run_pure, Result.andThen_ok, invoke, builtin]
                  have : (Builtin.copy_ argTypes o.type (Array.map a.eval #[x', y'])).run P w = .ok (.int .i64 ((Nat.min m0 n : Nat) : Int)) (w.setRow bb (vs.toList.take off ++ us.take (Nat.min m0 n * s') ++ vs.toList.drop (off + (us.take (Nat.min m0 n * s')).length)).toArray) := by
                    rw [show Array.map a.eval #[x', y'] = #[a.eval x', a.eval y'] by simp, hyv, hux]
                    simp [Builtin.copy_, e1, run_underlying hu, Builtin.lenOf, run_sizeOf_of hs, hfirst, hst, goInt]
                  rw [this]
                  rfl
                · cases hK
            · cases H
          · cases H
        · cases h3
      · cases h3
    · cases h1
  | _ => simp [ho, okOp] at hok

theorem clear_sound {s : Nat} {zs : List AV} {x : Opd} {o : Oper} (hok : okOp P ren (.clear s zs x) o.op = true) (I : Inv w0 ren μ h w) (hb : base ≤ h.length) (hE : ∀ t ∈ x.slot, RepV w0 ren μ (e t) (a.tmps.getD t undef))
    {C : CallT} {v : AV} {h' : Heap} (H : (execK base C (.clear s zs x) e h fun v h => some (v, h)) = some (v, h')) : Gives P w0 ren base μ h w o a v h' := by
  simp only [execK] at H
  cases ho : o.op with
  | call c =>
    obtain ⟨callee, args, argTypes⟩ := c
    simp only [ho, okOp, Bool.and_eq_true] at hok
    obtain ⟨⟨h1, h2⟩, h3⟩ := hok
    split at h1
    · obtain ⟨x', rfl⟩ := okOpds_one h2
      have hx : RepV w0 ren μ (e.ev x) (a.eval x') := (okOpds_rep (a := a) (e := e) (w0 := w0) (μ := μ) h2 (by simpa using hE)).at_ 0 _ _ rfl rfl
      split at h3
      · rename_i t ht
        split at h3
        · rename_i el hel
          simp only [Bool.and_eq_true, beq_iff_eq] at h3
          obtain ⟨hz, hsl⟩ := h3
          have hu := elemOf?_spec hel
          obtain ⟨i, z, hi, hzz, hsz, hzl, hL, hone0⟩ := zero_rep (w0 := w0) (ren := ren) (μ := μ) hz
          have e1 : argTypes[0]? = some t := ht
          have hexec : ∀ {w'}, (Builtin.clear_ #[t] o.type #[a.eval x']).run P w = .ok (.tuple #[]) w' → (execOp a.eval o).run P w = .ok (.value (.tuple #[])) w' := fun {w'} hr => by
            simp only [execOp, ho, resolve, Sem.run_bind, Sem.run_pure, Result.andThen_ok, invoke, builtin]
            have : Builtin.clear_ argTypes o.type (Array.map a.eval #[x']) = Builtin.clear_ #[t] o.type #[a.eval x'] := by
              unfold Builtin.clear_
              simp [e1]
            rw [this, hr]
            rfl
          generalize hux : a.eval x' = ux at hx
          rw [hux] at hexec
          split at H
          · rename_i hev
            rw [hev] at hx
            simp at H; obtain ⟨rfl, rfl⟩ := H
            cases hx
            exact ⟨.tuple #[], w, μ, .inl (hexec (by simp [Builtin.clear_, run_underlying hu])), .tup [] [] rfl (by simp), .refl I⟩
          · rename_i l g off n hev
            rw [hev] at hx
            split at H
            · rename_i hbl
              cases hx with
              | ref _ _ _ _ bb oo cap sz s' hm hn hoo =>
                obtain ⟨cs, vs, e2, hh, hK, hvv, hsz2, hle, hr, hone⟩ := blockK_rep I hm H
                dsimp only at hK hvv hsz2 hh
                split at hK
                · rename_i hss
                  obtain ⟨hss, hin⟩ := hss
                  subst hss
                  simp at hK; obtain ⟨rfl, rfl⟩ := hK
                  have hZ := zeros_rep hL n
                  have hzc : ((Array.range (n * zs.length)).map (z.cells[· % z.cells.size]!)).toList = (Builtin.zeroCells z.cells n).toList := by rw [← hzl]; rfl
                  rw [hzc] at hZ
                  have hzlen : (Builtin.zeroCells z.cells n).toList.length = n * s' := by simp [size_zeroCells, hzl, hsl]
                  have hflen : ((List.replicate n zs).flatten).length = n * s' := by rw [hZ.len, hzlen]
                  obtain ⟨hR, hlen⟩ := layAt_rep (off := off) hr (by simpa using hle) hZ (by rw [hflen]; exact hin)
                  have S := I.setCells hb hbl hh hm (vs' := (vs.toList.take off ++ (Builtin.zeroCells z.cells n).toList ++ vs.toList.drop (off + (Builtin.zeroCells z.cells n).toList.length)).toArray) hvv (by
                      have : (Builtin.zeroCells z.cells n).size = n * s' := by simpa using hzlen
                      simp; omega) hsz2 rfl (by
                      have : (Builtin.zeroCells z.cells n).size = n * s' := by simpa using hzlen
                      rw [hlen]; simp; omega) (by simpa using hR) (layAt_one hone (zeros_one hone0 n))
                  by_cases hn0 : n = 0
                  · subst hn0
                    have hz0 : (Builtin.zeroCells z.cells 0).toList = [] := List.eq_nil_of_length_eq_zero (by rw [hzlen]; simp)
                    rw [hz0] at S
                    simp only [List.append_nil, List.length_nil, Nat.add_zero, List.take_append_drop, Array.toArray_toList] at S
                    rw [setRow_self w bb vs e2 (0, 0) hvv] at S
                    exact ⟨.tuple #[], w, μ, .inl (hexec (by simp [Builtin.clear_, run_underlying hu])), .tup [] [] rfl (by simp), S⟩
                  · have ho2 : oo = off := by
                      rcases hoo with ⟨h, _⟩ | ⟨h, _⟩
                      · exact h
                      · exact absurd h hn0
                    subst ho2
                    have hst := run_storeCells_at P bb oo e2 (Builtin.zeroCells z.cells n).toList 0 vs w hvv (by simp only [Nat.add_zero]; rw [hzlen]; omega) (hZ.ones (zeros_one hone0 n))
                    simp only [Nat.add_zero] at hst
                    have hzero : (zeroValue el).run P w = .ok z w := by simp [zeroValue, typeInfo, hi, hzz]
                    refine ⟨.tuple #[], _, μ, .inl (hexec ?_), .tup [] [] rfl (by simp), S⟩
                    cases n with
                    | zero => exact absurd rfl hn0
                    | succ n => simp [Builtin.clear_, run_underlying hu, hzero, hst]
                · cases hK
            · cases H
          · cases H
        · cases h3
      · cases h3
    · cases h1
  | _ => simp [ho, okOp] at hok

/-- What calls are known to do. -/
def CallOk (P : Program) (w0 : World) (ren : Nat → Option Nat) (C : CallT) : Prop :=
  ∀ base g as h p, C base g as h = some p → ∀ f vs μ w, ren f = some g → base ≤ h.length → RepL w0 ren μ as vs.toList → Inv w0 ren μ h w →
    Calls P f vs w fun e w' => ∃ v' μ', e = .returned v' ∧ RepV w0 ren μ' p.1 v' ∧ Step w0 ren base μ h w μ' p.2 w'
/-- Each function that a number is told of has a body. -/
def FnsOk (P : Program) (ren : Nat → Option Nat) : Prop := ∀ f g, ren f = some g → ∃ fn, P.funcs[f]? = some fn ∧ fn.body.isSome = true ∧ (fn.name == "runtime.NumGoroutine") = false

theorem Gives.wp {o : Oper} {v : AV} {h' : Heap} (G : Gives P w0 ren base μ h w o a v h') {next : Act → World → Prop} {Q : Exit → Act → World → Prop}
    (hn : ∀ v' w' μ', RepV w0 ren μ' v v' → Step w0 ren base μ h w μ' h' w' → next (a.put o.dst v') w') : o.wp P a w next Q := by
  obtain ⟨v', w', μ', hr, hv, S⟩ := G
  unfold Oper.wp
  rcases hr with hr | ⟨hr, rfl⟩
  · rw [hr]; exact hn v' w' μ' hv S
  · rw [hr]; exact hn _ w' μ' hv S

/-- The floor of a call. -/
def floorOf (base : Nat) (h : Heap) : AOp → Nat
  | .call q .. => if q = true then h.length else base
  | .callv q .. => if q = true then h.length else base
  | _ => base
theorem Step.floor {b1 b2 : Nat} (hb : b1 ≤ b2) {μ' : Mu} {h' : Heap} {w w' : World} (S : Step w0 ren b2 μ h w μ' h' w') : Step w0 ren b1 μ h w μ' h' w' :=
  ⟨S.sub, fun l g x hx => (S.new l g x hx).imp id fun ⟨k1, k2⟩ => ⟨Nat.le_trans hb k1, k2⟩, ⟨S.ext.1, fun l hl => S.ext.2 l (Nat.lt_of_lt_of_le hl hb)⟩, S.inv,
    ⟨S.fr.os, S.fr.tape, S.fr.output, S.fr.size, fun b h1 h2 => S.fr.block b h1 fun l g x hl hx => h2 l g x (Nat.le_trans hb hl) hx⟩⟩

theorem exec_sound (hG : FnsOk P ren) {C : CallT} (hC : CallOk P w0 ren C) {ao : AOp} {o : Oper} (hok : okOp P ren ao o.op = true) (I : Inv w0 ren μ h w) (hb : base ≤ h.length) (hE : ∀ t ∈ ao.slots, RepV w0 ren μ (e t) (a.tmps.getD t undef))
    {v : AV} {h' : Heap} (H : (execK base C ao e h fun v h => some (v, h)) = some (v, h')) {next : Act → World → Prop} {Q : Exit → Act → World → Prop}
    (hn : ∀ v' w' μ', RepV w0 ren μ' v v' → Step w0 ren (floorOf base h ao) μ h w μ' h' w' → next (a.put o.dst v') w') : o.wp P a w next Q := by
  cases hs : ao.still with
  | true =>
    obtain ⟨rfl, hy⟩ := still_sound hs hok hE H
    refine (hy.gives (base := floorOf base h' ao) I).wp hn
  | false =>
    cases ao with
    | alloc zs => exact (alloc_sound hok I hb H).wp hn
    | box x => exact (box_sound hok I hb hE H).wp hn
    | buildSlice s len zs ps => exact (buildSlice_sound hok I hb hE H).wp hn
    | load n whole ty x => exact (load_sound hok I hE H).wp hn
    | store n x y => exact (store_sound hok I hb hE H).wp hn
    | bytesToStr x => exact (bytesToStr_sound hok I hE H).wp hn
    | makeSlice s bytes zs x => exact (makeSlice_sound hok I hb hE H).wp hn
    | cut s x lo hi => exact (cut_sound hok I hE H).wp hn
    | append s bytes x y => exact (append_sound hok I hb hE H).wp hn
    | copy s x y => exact (copy_sound hok I hb hE H).wp hn
    | clear s zs x => exact (clear_sound hok I hb hE H).wp hn
    | makeMap => exact (makeMap_sound hok I hb H).wp hn
    | lookup z ty m k => exact (lookup_sound hok I hE H).wp hn
    | mapUpdate m k v0 => exact (mapUpdate_sound hok I hb hE H).wp hn
    | range x => exact (range_sound hok I hb hE H).wp hn
    | next x => exact (next_sound hok I hb hE H).wp hn
    | call q ty g as =>
      simp only [execK] at H
      obtain ⟨p, hp, H⟩ := bind_some H
      have H := castK_same _ _ _ _ H
      simp at H; obtain ⟨rfl, rfl⟩ := H
      cases ho : o.op with
      | call c =>
        obtain ⟨callee, args, argTypes⟩ := c
        simp only [ho, okOp, Bool.and_eq_true] at hok
        obtain ⟨h1, h2⟩ := hok
        split at h1
        · rename_i f
          have hf := beq_iff_eq.1 h1
          have hL := okOpds_rep (a := a) (e := e) (w0 := w0) (μ := μ) h2 hE
          have hcall := hC _ _ _ _ _ hp f (args.map a.eval) μ w hf (by split <;> omega) (by simpa using hL) I
          have hrun : (execOp a.eval o).run P w = .ok (.enter f (args.map a.eval)) w := by
            simp only [execOp, ho, resolve, Act.eval, Deferred.ofValue, Sem.run_bind, Sem.run_pure, Result.andThen_ok, invoke]
            simpa using okFn_of hG hf (args.map a.eval) w
          unfold Oper.wp
          rw [hrun]
          refine hcall.mono fun e' w' he => ?_
          obtain ⟨v', μ', rfl, hv, S⟩ := he
          exact hn v' w' μ' hv S
        · cases h1
      | _ => simp [ho, okOp] at hok
    | callv q ty x as =>
      simp only [execK] at H
      split at H
      · rename_i g cap hev
        obtain ⟨p, hp, H⟩ := bind_some H
        have H := castK_same _ _ _ _ H
        simp at H; obtain ⟨rfl, rfl⟩ := H
        cases ho : o.op with
        | call c =>
          obtain ⟨callee, args, argTypes⟩ := c
          simp only [ho, okOp, Bool.and_eq_true] at hok
          obtain ⟨h1, h2⟩ := hok
          split at h1
          · rename_i y
            have hx := okOpd_rep (a := a) h1 fun t ht => hE t (by simp only [AOp.slots, List.mem_append]; exact .inl ht)
            have hL := okOpds_rep (a := a) (e := e) (w0 := w0) (μ := μ) h2 fun t ht => hE t (by simp only [AOp.slots, List.mem_append]; exact .inr ht)
            rw [hev] at hx
            generalize hu : a.eval y = u at hx
            cases hx with
            | fn f _ _ us hf hl hr =>
              have hL2 := hL.append (⟨hl, hr⟩ : RepL w0 ren μ cap us)
              have hcall := hC _ _ _ _ _ hp f (args.map a.eval ++ us.toArray) μ w hf (by split <;> omega) (by simpa using hL2) I
              have hrun : (execOp a.eval o).run P w = .ok (.enter f (args.map a.eval ++ us.toArray)) w := by
                simp only [execOp, ho, resolve, hu, Deferred.ofValue, Sem.run_bind, Sem.run_pure, Result.andThen_ok, invoke]
                simpa using okFn_of hG hf (args.map a.eval ++ us.toArray) w
              unfold Oper.wp
              rw [hrun]
              refine hcall.mono fun e' w' he => ?_
              obtain ⟨v', μ', rfl, hv, S⟩ := he
              exact hn v' w' μ' hv S
          · cases h1
        | _ => simp [ho, okOp] at hok
      · cases H
    | bad => simp [execK] at H
    | _ => simp [AOp.still] at hs
end
end Go.AM
