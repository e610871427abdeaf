import Derived.Test.YtfdbegdgedhhcaaGreatAmRun
import Derived.Test.YtfdbegdgedhhcaaGreatAmMine
import Derived.ChangeOld
import GoSem.ClaimJoined
set_option linter.all false
/- What is handed in, as the abstract machine has it; a law's run. -/
namespace Go.AM
open Go.WideShapes Go.RowKit
set_option linter.unusedVariables false

/-- A shape is a type's. -/
def okFields (okT : PT → TypeId → Bool) (P : Program) : PT → List Field → Nat → Bool
  | .pair a b, f :: g :: r, off => okT a f.type && f.offset == off && P.cellsOf f.type == a.sz && okFields okT P b (g :: r) (off + a.sz)
  | p, [f], off => okT p f.type && f.offset == off && P.cellsOf f.type == p.sz
  | _, _, _ => false
def okPT (P : Program) : Nat → PT → TypeId → Bool
  | 0, _, _ => false
  | n + 1, p, t =>
    match P.underlying t, p with
    | some (.int k), .int k' => k == k'
    | some .bool, .bool => true
    | some .string, .str => true
    | some (.slice e), .slice q => okPT P n q e && P.cellsOf e == q.sz && decide (1 ≤ P.bytesOf e)
    | some (.struct fs), .pair a b => okFields (okPT P n) P (.pair a b) fs.toList 0 && P.cellsOf t == PT.sz (.pair a b)
    | _, _ => false

theorem collect {β : Type} {R : Nat → β → Prop} : ∀ n, (∀ i, i < n → ∃ y, R i y) → ∃ ys : List β, ys.length = n ∧ ∀ (i : Nat) (y : β), ys[i]? = some y → R i y
  | 0, _ => ⟨[], rfl, fun i y h => by simp at h⟩
  | n + 1, h => by
      obtain ⟨ys, hl, hy⟩ := collect n fun i hi => h i (by omega)
      obtain ⟨y, hr⟩ := h n (Nat.lt_succ_self n)
      refine ⟨ys ++ [y], by simp [hl], fun i z hz => ?_⟩
      rcases Nat.lt_or_ge i n with hi | hi
      · rw [List.getElem?_append_left (by omega)] at hz
        exact hy i z hz
      · rw [List.getElem?_append_right (by omega)] at hz
        rcases Nat.eq_or_lt_of_le hi with rfl | hi
        · rw [hl] at hz
          simp at hz
          exact hz ▸ hr
        · rw [List.getElem?_eq_none (by simp; omega)] at hz
          cases hz

theorem flat_len {s : Nat} : ∀ {css : List (List AV)}, (∀ cs ∈ css, cs.length = s) → css.flatten.length = css.length * s
  | [], _ => by simp
  | cs :: css, h => by
      have := flat_len (fun c hc => h c (List.mem_cons_of_mem _ hc))
      simp only [List.flatten_cons, List.length_append, List.length_cons, this, h cs List.mem_cons_self, Nat.add_mul]
      omega
theorem flat_chunk {s : Nat} : ∀ {css : List (List AV)}, (∀ cs ∈ css, cs.length = s) → ∀ (i : Nat) (cs : List AV), css[i]? = some cs → (css.flatten.drop (i * s)).take s = cs
  | [], _, i, cs, hi => by simp at hi
  | c :: css, h, i, cs, hi => by
      have hc := h c List.mem_cons_self
      cases i with
      | zero =>
        simp at hi
        subst hi
        simp [hc]
      | succ i =>
        have := flat_chunk (fun c hc => h c (List.mem_cons_of_mem _ hc)) i cs (by simpa using hi)
        rw [List.flatten_cons, List.drop_append, List.drop_of_length_le (by rw [hc, Nat.add_mul]; omega), hc, List.nil_append, show (i + 1) * s - s = i * s by rw [Nat.add_mul]; omega]
        exact this

section
variable {H : Type} {enc : TypeId × Value → H} {P : Program} {W : World} {ren : Nat → Option Nat}
abbrev noMu : Mu := fun _ _ => none
abbrev All (P : Program) (t : TypeId) (d : DataW H) : Prop := ∀ x ∈ d.weights P t, x ≤ reachBytes
/-- A reading tells a shape's data. -/
def Tells (P : Program) (enc : TypeId × Value → H) (W : World) (ren : Nat → Option Nat) (p : PT) (t : TypeId) : Prop :=
  ∀ fuel cs x, DataW.trod enc P W 0 (fun _ => true) true fuel t cs = some x → All P t x.1 →
    ∃ (y : p.den) (as : List AV), Holds (fun _ => False) [] p y as ∧ RepL W ren noMu as cs ∧ ∀ a ∈ as, a.one = true

theorem RepL.glue {μ : Mu} {as : List AV} {vs : List Value} {n : Nat} (h : RepL W ren μ as (vs.take n)) {bs : List AV} (k : RepL W ren μ bs (vs.drop n)) : RepL W ren μ (as ++ bs) vs := by
  have := h.append k
  rwa [List.take_append_drop] at this

theorem fields_tell {okT : PT → TypeId → Bool} (hT : ∀ p t, okT p t = true → Tells P enc W ren p t) : ∀ (p : PT) (fs : List Field) (off : Nat), okFields okT P p fs off = true → ∀ (cs : List Value) (xs : List (DataW H × List MemPlace)),
    xs.length = fs.length → (∀ (i : Nat) (f : Field) (x : DataW H × List MemPlace), fs[i]? = some f → xs[i]? = some x → (∃ n, DataW.trod enc P W 0 (fun _ => true) true n f.type ((cs.drop f.offset).take (P.cellsOf f.type)) = some x) ∧ All P f.type x.1) →
    cs.length = off + p.sz →
    ∃ (y : p.den) (as : List AV), Holds (fun _ => False) [] p y as ∧ RepL W ren noMu as (cs.drop off) ∧ ∀ a ∈ as, a.one = true := by
  have one : ∀ (p : PT) (f : Field) (off : Nat), (okT p f.type && f.offset == off && P.cellsOf f.type == p.sz) = true → ∀ (cs : List Value) (x : DataW H × List MemPlace), (∃ n, DataW.trod enc P W 0 (fun _ => true) true n f.type ((cs.drop f.offset).take (P.cellsOf f.type)) = some x) ∧ All P f.type x.1 →
      ∃ (y : p.den) (as : List AV), Holds (fun _ => False) [] p y as ∧ RepL W ren noMu as ((cs.drop off).take p.sz) ∧ ∀ a ∈ as, a.one = true := by
    intro p f off hok cs x hx
    simp only [Bool.and_eq_true, beq_iff_eq] at hok
    obtain ⟨⟨h1, rfl⟩, h3⟩ := hok
    obtain ⟨⟨n, hn⟩, ha⟩ := hx
    rw [h3] at hn
    exact hT p f.type h1 n _ x hn ha
  have last : ∀ (p : PT) (f : Field) (off : Nat), (okT p f.type && f.offset == off && P.cellsOf f.type == p.sz) = true → ∀ (cs : List Value) (xs : List (DataW H × List MemPlace)),
      xs.length = [f].length → (∀ (i : Nat) (g : Field) (x : DataW H × List MemPlace), [f][i]? = some g → xs[i]? = some x → (∃ n, DataW.trod enc P W 0 (fun _ => true) true n g.type ((cs.drop g.offset).take (P.cellsOf g.type)) = some x) ∧ All P g.type x.1) →
      cs.length = off + p.sz → ∃ (y : p.den) (as : List AV), Holds (fun _ => False) [] p y as ∧ RepL W ren noMu as (cs.drop off) ∧ ∀ a ∈ as, a.one = true := by
    intro p f off hok cs xs hl hx hcs
    obtain ⟨x, rfl⟩ : ∃ x, xs = [x] := by
      cases xs with
      | nil => simp at hl
      | cons x xs => cases xs with | nil => exact ⟨x, rfl⟩ | cons _ _ => simp at hl
    obtain ⟨y, as, h1, h2, h3⟩ := one p f off hok cs x (hx 0 f x rfl rfl)
    refine ⟨y, as, h1, ?_, h3⟩
    rwa [List.take_of_length_le (by rw [List.length_drop]; omega)] at h2
  intro p
  induction p with
  | pair a b iha ihb =>
    intro fs off hok cs xs hl hx hcs
    match fs, hok, hl, hx with
    | [], hok, _, _ => simp [okFields] at hok
    | [f], hok, hl, hx => exact last _ f off (by simpa [okFields] using hok) cs xs hl hx hcs
    | f :: g :: r, hok, hl, hx =>
      rw [okFields, Bool.and_eq_true] at hok
      obtain ⟨hf, hr⟩ := hok
      obtain ⟨x, xs, rfl⟩ : ∃ x xs', xs = x :: xs' := by
        cases xs with
        | nil => simp at hl
        | cons x xs => exact ⟨x, xs, rfl⟩
      obtain ⟨y1, as1, a1, a2, a3⟩ := one a f off hf cs x (hx 0 f x rfl rfl)
      obtain ⟨y2, as2, b1, b2, b3⟩ := ihb (g :: r) (off + a.sz) hr cs xs (by simpa using hl) (fun i f' x' hf' hx' => hx (i + 1) f' x' (by simpa using hf') (by simpa using hx')) (by rw [hcs]; simp only [PT.sz]; omega)
      refine ⟨(y1, y2), as1 ++ as2, ⟨as1, as2, rfl, a1, b1⟩, a2.glue (by rwa [List.drop_drop]), fun c hc => ?_⟩
      rcases List.mem_append.1 hc with hc | hc
      · exact a3 c hc
      · exact b3 c hc
  | int k =>
    intro fs off hok cs xs hl hx hcs
    match fs, hok, hl, hx with
    | [], hok, _, _ => simp [okFields] at hok
    | [f], hok, hl, hx => exact last _ f off (by simpa [okFields] using hok) cs xs hl hx hcs
    | f :: g :: r, hok, _, _ => simp [okFields] at hok
  | bool =>
    intro fs off hok cs xs hl hx hcs
    match fs, hok, hl, hx with
    | [], hok, _, _ => simp [okFields] at hok
    | [f], hok, hl, hx => exact last _ f off (by simpa [okFields] using hok) cs xs hl hx hcs
    | f :: g :: r, hok, _, _ => simp [okFields] at hok
  | str =>
    intro fs off hok cs xs hl hx hcs
    match fs, hok, hl, hx with
    | [], hok, _, _ => simp [okFields] at hok
    | [f], hok, hl, hx => exact last _ f off (by simpa [okFields] using hok) cs xs hl hx hcs
    | f :: g :: r, hok, _, _ => simp [okFields] at hok
  | slice e ih =>
    intro fs off hok cs xs hl hx hcs
    match fs, hok, hl, hx with
    | [], hok, _, _ => simp [okFields] at hok
    | [f], hok, hl, hx => exact last _ f off (by simpa [okFields] using hok) cs xs hl hx hcs
    | f :: g :: r, hok, _, _ => simp [okFields] at hok

theorem each_all {f : Nat} : ∀ {ts : List TypeId} {ds : List (DataW H)}, (∀ x ∈ DataW.weightsEach P ts ds, x ≤ reachBytes) → ∀ (i : Nat) (t : TypeId) (d : DataW H), ts[i]? = some t → ds[i]? = some d → All P t d
  | [], _, _, i, t, d, ht, _ => by simp at ht
  | _ :: _, [], _, i, t, d, _, hd => by simp at hd
  | t :: ts, d :: ds, h, i, t', d', ht, hd => by
      simp only [DataW.weightsEach] at h
      cases i with
      | zero =>
        simp at ht hd
        subst ht; subst hd
        exact fun x hx => h x (List.mem_append_left _ hx)
      | succ i => exact each_all (f := f) (fun x hx => h x (List.mem_append_right _ hx)) i t' d' (by simpa using ht) (by simpa using hd)
theorem all_all {e : TypeId} : ∀ {ds : List (DataW H)}, (∀ x ∈ DataW.weightsAll P e ds, x ≤ reachBytes) → ∀ (i : Nat) (d : DataW H), ds[i]? = some d → All P e d
  | [], _, i, d, hd => by simp at hd
  | d :: ds, h, i, d', hd => by
      simp only [DataW.weightsAll] at h
      cases i with
      | zero =>
        simp at hd
        subst hd
        exact fun x hx => h x (List.mem_append_left _ hx)
      | succ i => exact all_all (fun x hx => h x (List.mem_append_right _ hx)) i d' (by simpa using hd)

theorem pt_tells : ∀ (n : Nat) (p : PT) (t : TypeId), okPT P n p t = true → Tells P enc W ren p t
  | 0, _, _, h => by simp [okPT] at h
  | n + 1, p, t, hok => by
      intro fuel cs x hx hw
      unfold okPT at hok
      split at hok
      · rename_i k k' ht
        have : k = k' := by simpa using hok
        subst this
        obtain ⟨m, rfl, rfl, hwf⟩ := DataW.trod_int ht hx
        refine ⟨m, [.int k m], ⟨rfl, ?_⟩, .one (.int k m), by simp [AV.one]⟩
        simpa [Lit.wf] using hwf
      · rename_i ht
        obtain ⟨b, rfl, rfl⟩ := DataW.trod_bool ht hx
        exact ⟨b, [.bool b], rfl, .one (.bool b), by simp [AV.one]⟩
      · rename_i ht
        obtain ⟨s, rfl, rfl, hs⟩ := DataW.trod_string ht hx
        have := hw s.data.toList.length (by simp [DataW.weights])
        refine ⟨s, [.str s], ⟨rfl, ?_⟩, .one (.str s), by simp [AV.one]⟩
        have e : s.size = s.data.toList.length := by rw [Array.length_toList]; rfl
        rw [e]
        exact Nat.le_trans this (by decide)
      · rename_i e q ht
        simp only [Bool.and_eq_true, beq_iff_eq, decide_eq_true_eq] at hok
        obtain ⟨⟨h1, h2⟩, h3⟩ := hok
        have ih := pt_tells n q e h1
        rcases DataW.trod_slice ht hx with ⟨rfl, rfl⟩ | ⟨a, len, cap, elems, rest, m, rfl, rfl, rfl, _, hlc, _, hel, hcell, _⟩
        · exact ⟨[], [.nil], ⟨.nil, [], rfl, ⟨Nat.zero_le _, rfl, rfl⟩, fun i x hi => by simp at hi⟩, .one .nil, by simp [AV.one]⟩
        · unfold All at hw
          simp only [DataW.weights, ht] at hw
          have hbytes := hw _ List.mem_cons_self
          have hlen : len ≤ 140737488355328 := by
            have h4 : elems.length + rest.length ≤ (elems.length + rest.length) * P.bytesOf e := Nat.le_mul_of_pos_right _ h3
            have h5 : (List.map (·.1) elems).length + (List.map (·.1) rest).length = elems.length + rest.length := by simp
            rw [h5] at hbytes
            have : reachBytes ≤ 140737488355328 := by decide
            omega
          have hwe : ∀ x ∈ DataW.weightsAll P e (elems.map (·.1)), x ≤ reachBytes := fun x hx => hw x (List.mem_cons_of_mem _ (List.mem_append_left _ hx))
          have hq := q.sz_pos
          have head : 0 < len → a.spot = none ∧ a.block < W.heap.size := fun h0 => by
            have hc := hcell 0 h0
            rw [List.getElem?_eq_getElem (by omega)] at hc
            obtain ⟨ecs, he1, he2⟩ := Option.bind_eq_some_iff.1 hc
            obtain ⟨_, hl, hcs⟩ := World.cells?_some he1
            rw [h2] at hl hcs
            have g := hcs 0 hq
            rw [List.getElem?_eq_getElem (by omega)] at g
            simp only [Nat.zero_mul, Addr.add, if_true] at g
            refine ⟨World.cell?_spot g, ?_⟩
            unfold World.cell? at g
            split at g
            · rename_i hb
              exact (Array.getElem?_eq_some_iff.1 hb).1
            · cases g
          obtain ⟨ys, hyl, hy⟩ := collect (R := fun i (y : q.den × List AV) => Holds (fun _ => False) [] q y.1 y.2 ∧ (∀ j, j < q.sz → ∃ v, W.cell? ⟨a.block, a.off + (i * q.sz + j), none⟩ = some v ∧ ∀ c, y.2[j]? = some c → RepV W ren noMu c v) ∧ ∀ c ∈ y.2, c.one = true) len fun i hi => by
            have hc := hcell i hi
            rw [List.getElem?_eq_getElem (by omega)] at hc
            obtain ⟨ecs, he1, he2⟩ := Option.bind_eq_some_iff.1 hc
            obtain ⟨y, as, k1, k2, k3⟩ := ih m ecs elems[i] he2 (all_all hwe i elems[i].1 (by simp [List.getElem?_eq_getElem (show i < elems.length by omega)]))
            obtain ⟨_, hl, hcs⟩ := World.cells?_some he1
            rw [h2] at hl hcs
            have kl := k1.len
            refine ⟨(y, as), k1, fun j hj => ?_, k3⟩
            have g := hcs j hj
            rw [List.getElem?_eq_getElem (by omega)] at g
            refine ⟨ecs[j], ?_, fun c hc => k2.at_ j c ecs[j] hc (List.getElem?_eq_getElem (by omega))⟩
            have hs := (head (by omega)).1
            obtain ⟨b, off, spot⟩ := a
            simp only at hs
            subst hs
            rw [add_plain, add_plain] at g
            rw [← g, Nat.add_assoc]
          have hlens : ∀ cs ∈ ys.map (·.2), cs.length = q.sz := fun cs hcs => by
            obtain ⟨y, hy', rfl⟩ := List.mem_map.1 hcs
            obtain ⟨i, hi, rfl⟩ := List.getElem_of_mem hy'
            exact (hy i _ (List.getElem?_eq_getElem hi)).1.len
          have hfl := flat_len hlens
          simp only [List.length_map, hyl] at hfl
          have hone : ∀ c ∈ (ys.map (·.2)).flatten, c.one = true := fun c hc => by
            obtain ⟨cs, hcs, hc⟩ := List.mem_flatten.1 hc
            obtain ⟨y, hy', rfl⟩ := List.mem_map.1 hcs
            obtain ⟨i, hi, rfl⟩ := List.getElem_of_mem hy'
            exact (hy i _ (List.getElem?_eq_getElem hi)).2.2 c hc
          have hat : ∀ k, k < len * q.sz → ∃ v, W.cell? ⟨a.block, a.off + k, none⟩ = some v ∧ ∀ c, (ys.map (·.2)).flatten[k]? = some c → RepV W ren noMu c v := fun k hk => by
            have hi : k / q.sz < len := by rw [Nat.div_lt_iff_lt_mul hq]; exact hk
            have hj : k % q.sz < q.sz := Nat.mod_lt _ hq
            have hkk : k / q.sz * q.sz + k % q.sz = k := by rw [Nat.mul_comm]; exact Nat.div_add_mod k q.sz
            obtain ⟨v, g1, g2⟩ := (hy (k / q.sz) ys[k / q.sz] (List.getElem?_eq_getElem (by omega))).2.1 (k % q.sz) hj
            rw [hkk] at g1
            refine ⟨v, g1, fun c hc => g2 c ?_⟩
            have := flat_chunk hlens (k / q.sz) ys[k / q.sz].2 (by simp [List.getElem?_eq_getElem (show k / q.sz < ys.length by omega)])
            rw [← this, List.getElem?_take, if_pos hj, List.getElem?_drop, hkk]
            exact hc
          refine ⟨ys.map (·.1), [.imm len (ys.map (·.2)).flatten], ⟨.imm len (ys.map (·.2)).flatten, (ys.map (·.2)).flatten, rfl, ⟨by simpa [hyl] using hlen, by simp [hyl], rfl, by simpa [hyl] using hfl⟩, fun i x hi => ?_⟩, .one ?_, by simp [AV.one]⟩
          · obtain ⟨y, hy', rfl⟩ := List.getElem?_map .. ▸ hi |> Option.map_eq_some_iff.1
            rw [flat_chunk hlens i y.2 (by simp [hy'])]
            exact (hy i y hy').1
          · refine .imm len _ a cap (fun k => (W.cell? ⟨a.block, a.off + k, none⟩).getD undef) hlc (fun h0 => head ?_) (fun k hk => ?_) (fun k c hc => ?_) hone
            · rcases h0 with h0 | h0
              · exact h0
              · rw [hfl] at h0
                exact Nat.pos_of_mul_pos_right h0
            · obtain ⟨v, g1, _⟩ := hat k (by omega)
              rw [g1]; rfl
            · have hk := (List.getElem?_eq_some_iff.1 hc).1
              obtain ⟨v, g1, g2⟩ := hat k (by omega)
              rw [g1]
              exact g2 c hc
      · rename_i fs a b ht
        simp only [Bool.and_eq_true, beq_iff_eq] at hok
        obtain ⟨h1, h2⟩ := hok
        obtain ⟨xs, m, rfl, rfl, hcs, hxl, hf⟩ := DataW.trod_struct ht hx
        unfold All at hw
        simp only [DataW.weights, ht] at hw
        obtain ⟨y, as, k1, k2, k3⟩ := fields_tell (okT := okPT P n) (pt_tells n) (.pair a b) fs.toList 0 h1 cs xs (by simpa using hxl) (fun i f x hf' hx' => ⟨⟨m, by rw [hf i f (by simpa using hf'), hx']⟩, each_all (f := 0) hw i f.type x.1 (by simp at hf'; simp [hf']) (by simp [hx'])⟩) (by rw [hcs, h2]; simp)
        exact ⟨y, as, k1, by simpa using k2, k3⟩
      · cases hok

theorem inv0 : Inv W ren noMu [] W where
  below := .refl _ _
  fresh := fun _ _ _ h => by cases h
  inj := fun _ _ _ _ _ _ h => by cases h
  cells := fun l _ _ _ _ h => by simp at h
  gens := fun l _ _ _ _ _ h => by simp at h
  map := fun l _ _ h => by simp at h
  iter := fun l _ _ _ h => by simp at h

/-- A law of one struct: what the abstract machine tells of it holds of the call. -/
theorem law_calls (Se : Seat P ren prog W) {f g : Nat} (hf : ren f = some g) {n : Nat} {p : PT} {t : TypeId} {cs : Array Value} {d : DataW H} {ps : List MemPlace} (hok : okPT P n p t = true)
    (h : DataW.Trod enc P W 0 (fun _ => true) true t (.agg cs) d ps) (hw : All P t d)
    (law : ∀ (y : p.den) (as : List AV), Holds (fun _ => False) [] p y as → WP (call prog 0 g [.agg as] []) fun r => r.1 = .bool true) :
    Calls P f #[.agg cs] W fun e w' => e = .returned (.bool true) ∧ Below W.heap.size W w' := by
  obtain ⟨fuel, hx⟩ := h
  obtain ⟨y, as, h1, h2, h3⟩ := pt_tells (ren := ren) n p t hok fuel _ _ hx hw
  obtain ⟨⟨v, h'⟩, hc, hv⟩ := law y as h1
  subst hv
  have hr : RepV W ren noMu (.agg as) (.agg cs) := by
    have := RepV.agg (w0 := W) (ren := ren) (μ := noMu) as cs.toList (by simpa [Value.cells] using h2.len) (by simpa [Value.cells] using h2.at_) h3
    simpa using this
  refine (call_sound Se 0 g _ _ _ hc f #[.agg cs] noMu W hf (Nat.zero_le _) (.one hr) inv0).mono fun e w' he => ?_
  obtain ⟨v', μ', rfl, hv, S⟩ := he
  cases hv
  exact ⟨rfl, S.inv.below⟩
end
end Go.AM
