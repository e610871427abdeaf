/- What the functions that make numbers' slices tell. -/
import Derived.Test.YtfdbegdgedhhcaaAmOwn
set_option linter.all false
namespace Go.AM
theorem take_succ_app {α : Type} {l : List α} {i : Nat} (hi : i < l.length) : l.take (i + 1) = l.take i ++ [l[i]] := by
  rw [List.take_add_one, List.getElem?_eq_getElem hi]
  rfl
theorem ref0_CopyNumbers {h : Heap} {v : AV} {d : List Int} (hd : In h ints d [v]) (hl : d.length * 8 ≤ 140737488355328) (b : Nat) (hb : b ≤ h.length) :
    WP (call prog b 25 [v] h) fun r => Old h.length h r.2 ∧ AccP h.length h.length r.2 int r.1 d := by
  obtain ⟨ds, hs, hc, hr, hb'⟩ := hd.ints
  refine wp_enter (fn := C.ref0_CopyNumbers) rfl ?_
  dsimp only [bodyN, C.ref0_CopyNumbers, C.ref0_CopyNumbers_l0]; simp
  refine wp_loop (I := fun m e h' => Old h.length h h' ∧ ∃ i a, e = (ea 0 v <| ea 3 a <| ea 4 (.int .i64 (i : Nat)) e0) ∧ i + m = d.length ∧ AccP h.length h.length h' int a (d.take i)) ?_ ⟨Old.refl (Nat.le_refl _), 0, .nil, rfl, Nat.zero_add _, AccP.nil⟩
  rintro N m e h' ⟨old, i, a, rfl, him, acc⟩ next
  have hs' := hs.old old (Nat.le_refl _)
  have ho := old.1
  dsimp only [C.ref0_CopyNumbers_b0]; simp [layAt]
  refine wp_len hs' ?_
  try simp
  refine wp_dec (fun hi => ?_) fun hi => ?_
  · refine wp_idx hs' rfl hi ?_; (try simp); refine wp_cell hs' hi (hc i hi) rfl ?_
    try simp
    refine wp_push (x := d[i]) (bytes := 8) (acc.keep Old.app) ⟨rfl, hr _ (List.getElem_mem hi)⟩ rfl hb (by simp; omega) (by simp; omega) (by simp; omega) fun a' h2 _ o2 acc' => ?_
    try simp
    rw [succ64 hi hb']
    exact next (m - 1) _ _ (by omega) ⟨old.trans ((Old.app.mono ho).trans o2), i + 1, _, rfl, by omega, by rw [take_succ_app hi]; exact acc'⟩
  · refine wp_some ⟨old, ?_⟩
    rwa [List.take_of_length_le (by omega)] at acc
theorem slices_Clone_int {h : Heap} {v : AV} {d : List Int} (hd : In h ints d [v]) (hl : d.length * 8 ≤ 140737488355328) (b : Nat) (hb : b ≤ h.length) :
    WP (call prog b 112 [v] h) fun r => Old h.length h r.2 ∧ AccP h.length h.length r.2 int r.1 d := by
  obtain ⟨ds, hs, hc, hr, hb'⟩ := hd.ints
  refine wp_enter (fn := C.slices_Clone_int) rfl ?_
  dsimp only [bodyN, C.slices_Clone_int]; simp
  refine wp_isnil hs fun q hq => ?_
  try simp
  refine wp_iteK (fun h0 => wp_some ⟨Old.refl (Nat.le_refl _), ?_⟩) fun _ => ?_
  · have : d = [] := List.length_eq_zero_iff.1 (hq h0)
    subst this
    exact AccP.nil
  have o1 : Old h.length h (h ++ [AObj.cells 0 1 []]) := Old.app
  have hs' := hs.old o1 (Nat.le_refl _)
  refine wp_slice hs' ?_; (try simp); refine wp_len hs' ?_
  try simp
  have hdl := hs.len
  refine wp_guard (by omega) ?_
  try simp
  refine wp_app (n0 := h.length) (Acc.new (n := 0) (cs := []) (s := 1) (Nat.le_refl _) (by simp) (by omega)) hb (by simp) hdl (by omega) (by omega) fun v' h' but _ a' => wp_some ⟨o1.trans (but.old (Acc.new (n := 0) (cs := []) (s := 1) (Nat.le_refl _) (by simp) (by omega)) (by simp)), ds, ?_, fun i x hi => ?_⟩
  · simpa [PT.sz] using a'
  · obtain ⟨hi', rfl⟩ := List.getElem?_eq_some_iff.1 hi
    simp only [PT.sz]
    rw [hc i hi']
    exact ⟨rfl, hr _ (List.getElem_mem hi')⟩
theorem quo_in {x n : Int} (hx : -9223372036854775808 ≤ x ∧ x ≤ 9223372036854775807) (hn : 1 ≤ n) : -9223372036854775808 ≤ x.tdiv n ∧ x.tdiv n ≤ 9223372036854775807 := by
  rcases Int.lt_or_le x 0 with h | h
  · have e : x.tdiv n = -((-x).tdiv n) := by rw [Int.neg_tdiv, Int.neg_neg]
    have h1 : (-x).tdiv n ≤ -x := Int.tdiv_le_self _ (by omega)
    have h2 : 0 ≤ (-x).tdiv n := Int.tdiv_nonneg (by omega) (by omega)
    omega
  · have h1 : x.tdiv n ≤ x := Int.tdiv_le_self _ h
    have h2 : 0 ≤ x.tdiv n := Int.tdiv_nonneg h (by omega)
    omega
/-- The last one, so many times less. -/
def lessD (d : List Int) (n : Int) : List Int := d.set (d.length - 1) ((d.getD (d.length - 1) 0).tdiv n)
theorem ref1_less {h : Heap} {v : AV} {d : List Int} (hd : In h ints d [v]) (hl : d.length * 8 ≤ 140737488355328) (h0 : d ≠ []) {n : Int} (hn : 1 ≤ n) (b : Nat) (hb : b ≤ h.length) :
    WP (call prog b 102 [v, .int .i64 n] h) fun r => Old h.length h r.2 ∧ AccP h.length h.length r.2 int r.1 (lessD d n) := by
  refine wp_enter (fn := C.ref1_less) rfl ?_
  dsimp only [bodyN, C.ref1_less]; simp
  refine wp_call (ref0_CopyNumbers hd hl b hb) fun v1 h1 ⟨o1, a1⟩ => ?_
  simp only at o1 a1
  obtain ⟨ds, hs, hc, hr, hbl⟩ := a1.ints
  have hp : 0 < d.length := List.length_pos_iff.2 h0
  have hw : IntKind.i64.wrap ((d.length : Int) - 1) = ((d.length - 1 : Nat) : Int) := by rw [w64_id (by omega) (by omega)]; omega
  refine wp_len hs ?_; (try simp); refine wp_len hs ?_
  try simp
  rw [hw]
  refine wp_idx hs rfl (by omega) ?_; (try simp); refine wp_cell hs (by omega) (hc (d.length - 1) (by omega)) rfl ?_
  try simp
  have hr1 := hr _ (List.getElem_mem (show d.length - 1 < d.length by omega))
  have hq := quo_in hr1 hn
  try simp
  refine wp_guard (by omega) ?_
  try simp
  rw [w64_id hq.1 hq.2]
  refine wp_idx hs rfl (by omega) ?_
  try simp
  refine wp_put (x := d[d.length - 1].tdiv n) a1 ⟨rfl, hq⟩ (fun _ => rfl) rfl hb o1.1 (by omega) fun h' _ _ o2 a2 => ?_
  try simp
  refine wp_some ⟨o1.trans o2, ?_⟩
  rw [lessD, List.getD_eq_getElem?_getD, List.getElem?_eq_getElem (by omega)]
  exact a2
/-- The last one. -/
def lastD (d : List Int) : Int := d.getD (d.length - 1) 0
theorem gate_Less {h : Heap} {v : AV} {d : List Int} (hd : In h ints d [v]) (hl : d.length * 8 ≤ 140737488355328) (h0 : d ≠ []) {n : Int} (hn : 1 ≤ n) (b : Nat) (hb : b ≤ h.length) :
    WP (call prog b 147 [v, .int .i64 n] h) fun r => Old h.length h r.2 ∧ ∃ v', r.1 = .tup [v', .bool (decide ((lastD d).tmod n = 0))] ∧ ((lastD d).tmod n = 0 → AccP h.length h.length r.2 int v' (lessD d n)) := by
  refine wp_enter (fn := C.gate_Less) rfl ?_
  dsimp only [bodyN, C.gate_Less]; simp
  refine wp_call (slices_Clone_int hd hl b hb) fun v1 h1 ⟨o1, a1⟩ => ?_
  simp only at o1 a1
  obtain ⟨ds, hs, hc, hr, hbl⟩ := a1.ints
  have hp : 0 < d.length := List.length_pos_iff.2 h0
  have hw : IntKind.i64.wrap ((d.length : Int) - 1) = ((d.length - 1 : Nat) : Int) := by rw [w64_id (by omega) (by omega)]; omega
  refine wp_len hs ?_
  try simp
  rw [hw]
  refine wp_idx hs rfl (by omega) ?_; (try simp); refine wp_cell hs (by omega) (hc (d.length - 1) (by omega)) rfl ?_
  try simp
  have hr1 := hr _ (List.getElem_mem (show d.length - 1 < d.length by omega))
  have hq := quo_in hr1 hn
  have hlast : lastD d = d[d.length - 1] := by rw [lastD, List.getD_eq_getElem?_getD, List.getElem?_eq_getElem (by omega)]; rfl
  try simp
  refine wp_guard (by omega) ?_
  try simp
  rw [hlast]
  refine wp_ndec (fun hne => wp_some ⟨o1, .nil, ?_, fun e => absurd e hne⟩) fun he => ?_
  · simp [hne]
  refine wp_idx hs rfl (by omega) ?_; (try simp); refine wp_cell hs (by omega) (hc (d.length - 1) (by omega)) rfl ?_
  try simp
  refine wp_guard (by omega) ?_
  try simp
  rw [w64_id hq.1 hq.2]
  refine wp_idx hs rfl (by omega) ?_
  try simp
  refine wp_put (x := d[d.length - 1].tdiv n) a1 ⟨rfl, hq⟩ (fun _ => rfl) rfl hb o1.1 (by omega) fun h' _ _ o2 a2 => ?_
  try simp
  refine wp_some ⟨o1.trans o2, v1, ?_, fun _ => ?_⟩
  · simp [he]
  · rw [lessD, ← lastD, hlast]
    exact a2
section
variable {S : Nat → Prop} {h : Heap}
/-- Lists of numbers: one by one. -/
theorem take1_drop {ds : List AV} {i : Nat} (hi : i < ds.length) : (ds.drop (i * 1)).take 1 = [ds[i]] := by
  rw [Nat.mul_one, List.drop_eq_getElem_cons hi]
  rfl
theorem Holds.lists {ls : List (List Int)} {v : AV} (H : Holds S h (.slice (.slice (.int .i64))) ls [v]) : ∃ (ds : List AV) (el : Nat → AV), SliceAt S h v 1 ls.length ds ∧ (∀ i, i < ls.length → (ds.drop (i * 1)).take 1 = [el i]) ∧ (∀ (i : Nat) (hi : i < ls.length), Holds S h (.slice (.int .i64)) ls[i] [el i]) ∧ ls.length ≤ 140737488355328 := by
  obtain ⟨ds, hs, hc⟩ := H.elem
  have hl := hs.len
  simp only [PT.sz] at hl hc
  have he : ∀ i (hi : i < ds.length), ds.getD i .undef = ds[i] := fun i hi => by rw [List.getD_eq_getElem?_getD, List.getElem?_eq_getElem hi]; rfl
  refine ⟨ds, fun i => ds.getD i .undef, hs, fun i hi => ?_, fun i hi => ?_, hs.1⟩
  · rw [take1_drop (by omega)]
    exact congrArg (· :: []) (he i (by omega)).symm
  · have := hc i ls[i] (List.getElem?_eq_getElem hi)
    rw [take1_drop (by omega)] at this
    rw [← he i (by omega)] at this
    exact this
theorem kernel_form_1 {v : AV} {d : List Int} (hd : Holds S h ints d [v]) (b : Nat) : call prog b 141 [v] h = some (.bool (!dimsOk d), h) := by
  refine enter (fn := C.kernel_form_1) rfl ?_
  dsimp only [bodyN, C.kernel_form_1]; simp
  rw [callK_eq (shape_May hd b)]
  try simp
/-- A node's form. -/
def formOk (k n : Int) (d : List Int) (ls : List (List Int)) : Bool :=
  decide (1 ≤ k) && decide (k ≤ 17) && decide ((ls.length : Int) = many k) && ls.all dimsOk && numberOk k n && (if asked k = true then dimsOk d else decide (d = []))
theorem kernel_form {vd vl : AV} {d : List Int} {ls : List (List Int)} {T : Nat → Prop} (hd : Holds T h ints d [vd]) (hl : Holds S h (.slice ints) ls [vl]) (k n : Int) (b : Nat) :
    call prog b 127 [.int .i64 k, .int .i64 n, vd, vl] h = some (.bool (formOk k n d ls), h) := by
  obtain ⟨ds, el, hs, hc, he, hbl⟩ := hl.lists
  obtain ⟨ds', hs', hc', _, _⟩ := hd.ints
  refine wp_iff.1 (wp_enter (fn := C.kernel_form) rfl ?_)
  dsimp only [bodyN, C.kernel_form]; simp
  refine wp_dec (fun h1 => wp_some ?_) fun h1 => ?_
  · simp [formOk]; omega
  try simp
  refine wp_dec (fun h2 => wp_some ?_) fun h2 => ?_
  · simp [formOk]; omega
  refine wp_len hs ?_
  try simp
  refine wp_ndec (fun h3 => wp_some ?_) fun h3 => ?_
  · simp [formOk, h3]
  rw [callK_eq (slices_ContainsFunc_ints (bs := ls.map fun d => !dimsOk d) (el := el) (by simpa using hs) (fun i hi => hc i (by simpa using hi)) b fun i hi => by
    have hi : i < ls.length := by simpa using hi
    rw [kernel_form_1 (he i hi) b]
    simp)]
  have e : (ls.map fun d => !dimsOk d).any id = !(ls.all dimsOk) := by rw [List.any_map, List.not_all_eq_any_not]; rfl
  rw [e]
  try simp
  refine wp_iteK (fun h4 => wp_some ?_) fun h4 => ?_
  · simp only [Bool.not_eq_true'] at h4
    simp [formOk, h4]
  simp only [Bool.not_eq_false'] at h4
  try simp
  refine wp_iteK (fun h5 => wp_some ?_) fun h5 => ?_
  · simp only [Bool.not_eq_true'] at h5
    simp [formOk, h5]
  simp only [Bool.not_eq_false'] at h5
  have hf : formOk k n d ls = (if asked k = true then dimsOk d else decide (d = [])) := by
    have h1' : 1 ≤ k := by omega
    have h2' : k ≤ 17 := by omega
    simp [formOk, h1', h2', h3, h4, h5]
  rw [hf]
  try simp
  refine wp_iteK (fun h6 => ?_) fun h6 => ?_
  · rw [callK_eq (shape_May hd b)]
    try simp
    exact wp_some (by simp [h6])
  · refine wp_len hs' ?_
    try simp
    refine wp_some ?_
    simp [h6]
end
end Go.AM
