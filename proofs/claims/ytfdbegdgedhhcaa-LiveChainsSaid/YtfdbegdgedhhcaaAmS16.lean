/- Joints: which may be; sizes. -/
import Derived.Test.YtfdbegdgedhhcaaAmS15
set_option linter.all false
namespace Go.AM
set_option maxRecDepth 20000
set_option maxHeartbeats 1000000
attribute [local simp] layAt
attribute [local irreducible] lenK sliceK idxK fldK cutK storeK appK copyK clearK mapAtK callK loopH readK readK1 guardK grdK fnK nilK fieldK extrK strK nextK joinK iteK intK boolK cellsK castK castL castEnv binK unK intBin layParts execN runOpsN runItemsN denN call loop blockK
/-- A number of one of these. -/
def there (n : Nat) (i : Int) : Bool := decide (0 ≤ i) && decide (i < (n : Int))
/-- Gradients held against parameters, up to a place: how many; none: one is bad. -/
def gUp (l : List node.den) (g : List Int) : Nat → Option Nat
  | 0 => some 0
  | i + 1 => (gUp l g i).bind fun k => match l[i]? with
    | some x => if x.2.1 = 2 then (if k < g.length ∧ there l.length (g.getD k 0) = true ∧ dimsAt l (g.getD k 0) = x.2.2.2.1 then some (k + 1) else none) else some k
    | none => some k
theorem gUp_le (l : List node.den) (g : List Int) : ∀ {i k : Nat}, gUp l g i = some k → k ≤ i
  | 0, k, h => by simp [gUp] at h; omega
  | i + 1, k, h => by
      rw [gUp, Option.bind_eq_some_iff] at h
      obtain ⟨k', h1, h2⟩ := h
      have := gUp_le l g h1
      split at h2
      · split at h2
        · split at h2
          · cases h2; omega
          · cases h2
        · cases h2; omega
      · cases h2; omega
theorem gUp_none {l : List node.den} {g : List Int} {i : Nat} (h : gUp l g i = none) : ∀ {j : Nat}, i ≤ j → gUp l g j = none := fun {j} hj => by
  induction j with
  | zero => exact (Nat.le_zero.1 hj) ▸ h
  | succ j ih =>
    rcases Nat.eq_or_lt_of_le hj with e | e
    · exact e ▸ h
    · rw [gUp, ih (by omega)]; rfl
/-- May a joint be? -/
def mayJ (x : joint.den) : Bool := mayL x.1 && there x.1.length x.2.1 && decide (prodW (dimsAt x.1 x.2.1) = 1) && decide (gUp x.1 x.2.2 x.1.length = some x.2.2.length)
theorem there_nat {n : Nat} {i : Int} (h : there n i = true) : 0 ≤ i ∧ i < (n : Int) := by simpa [there] using h
theorem dimsAt_at {l : List node.den} {i : Int} (h : i.toNat < l.length) : dimsAt l i = l[i.toNat].2.2.2.1 := by
  rw [dimsAt, List.getElem?_eq_getElem h]
  rfl
section
variable {h : Heap}
theorem back_May_1 {l : Nat} {x : joint.den} {cs : List AV} (hb : Box h l cs) (hx : In h joint x cs) (i : Int) (b : Nat) : call prog b 108 [.int .i64 i, .ptr l 0 0] h = some (.bool (there x.1.length i), h) := by
  obtain ⟨vn, vg, rfl, hn, hg, hl⟩ := holds_joint hx
  refine wp_iff.1 (wp_enter (fn := C.back_May_1) rfl ?_)
  dsimp only [bodyN, C.back_May_1]; simp
  refine wp_dec (fun h1 => ?_) fun h1 => ?_
  · try simp
    repeat ((first | refine wq_len (by assumption) ?_ | refine wq_idx (by assumption) (by rfl) (by omega) (by omega) ?_ | refine wq_int (by assumption) (by omega) ?_ | refine wq_kind (by assumption) (by omega) ?_ | refine wq_num (by assumption) (by omega) ?_ | refine wq_name (by assumption) (by omega) ?_ | refine wq_ptr (by assumption) rfl ?_ | refine wp_new1 rfl ?_ | refine wq_from (by assumption) (by omega) ?_ | refine wq_to (by assumption) (by omega) ?_ | refine wq_size (by assumption) (by omega) ?_ | refine wq_life (by assumption) (by omega) ?_ | refine wp_guard (by omega) ?_ | refine wq_cells (by assumption) ?_); (try simp))
    refine wp_some ?_
    have q : 0 ≤ i := by omega
    simp [there, q]
  · try simp
    refine wp_some ?_
    have q : ¬ 0 ≤ i := by omega
    simp [there, q]
theorem live_size {x : joint.den} {cs : List AV} (hx : In h joint x cs) {i : Int} (hi : there x.1.length i = true) (b : Nat) : WP (call prog b 93 [.agg cs, .int .i64 i] h) fun r => Old h.length h r.2 ∧ r.1 = .int .i64 (prodW (dimsAt x.1 i)) := by
  obtain ⟨vn, vg, rfl, hn, hg, hl⟩ := holds_joint hx
  obtain ⟨i0, i1⟩ := there_nat hi
  refine wp_enter (fn := C.live_size) rfl ?_
  dsimp only [bodyN, C.live_size]; simp
  have o1 : Old h.length h (h ++ [AObj.cells 0 1 [vn, AV.int IntKind.i64 x.snd.fst, vg]]) := Old.app
  have hn1 := In.old o1 hn
  repeat ((first | refine wq_len (by assumption) ?_ | refine wq_idx (by assumption) (by rfl) (by omega) (by omega) ?_ | refine wq_int (by assumption) (by omega) ?_ | refine wq_kind (by assumption) (by omega) ?_ | refine wq_num (by assumption) (by omega) ?_ | refine wq_name (by assumption) (by omega) ?_ | refine wq_ptr (by assumption) rfl ?_ | refine wp_new1 rfl ?_ | refine wq_from (by assumption) (by omega) ?_ | refine wq_to (by assumption) (by omega) ?_ | refine wq_size (by assumption) (by omega) ?_ | refine wq_life (by assumption) (by omega) ?_ | refine wp_guard (by omega) ?_ | refine wq_cells (by assumption) ?_); (try simp))
  refine wq_dims hn1 (by omega) fun u hu => ?_
  try simp
  rw [callK_eq (shape_Product hu _)]
  try simp
  exact wp_some ⟨o1, by rw [dimsAt_at]⟩
theorem ref12_Size {x : joint.den} {cs : List AV} (hx : In h joint x cs) {i : Int} (hi : there x.1.length i = true) (b : Nat) : WP (call prog b 29 [.agg cs, .int .i64 i] h) fun r => Old h.length h r.2 ∧ r.1 = .int .i64 (prodW (dimsAt x.1 i)) := by
  obtain ⟨vn, vg, rfl, hn, hg, hl⟩ := holds_joint hx
  obtain ⟨i0, i1⟩ := there_nat hi
  refine wp_enter (fn := C.ref12_Size) rfl ?_
  dsimp only [bodyN, C.ref12_Size]; simp
  have o1 : Old h.length h (h ++ [AObj.cells 0 1 [vn, AV.int IntKind.i64 x.snd.fst, vg]]) := Old.app
  have hn1 := In.old o1 hn
  repeat ((first | refine wq_len (by assumption) ?_ | refine wq_idx (by assumption) (by rfl) (by omega) (by omega) ?_ | refine wq_int (by assumption) (by omega) ?_ | refine wq_kind (by assumption) (by omega) ?_ | refine wq_num (by assumption) (by omega) ?_ | refine wq_name (by assumption) (by omega) ?_ | refine wq_ptr (by assumption) rfl ?_ | refine wp_new1 rfl ?_ | refine wq_from (by assumption) (by omega) ?_ | refine wq_to (by assumption) (by omega) ?_ | refine wq_size (by assumption) (by omega) ?_ | refine wq_life (by assumption) (by omega) ?_ | refine wp_guard (by omega) ?_ | refine wq_cells (by assumption) ?_); (try simp))
  refine wq_dims hn1 (by omega) fun u hu => ?_
  try simp
  rw [callK_eq (ref1_Cells hu _)]
  try simp
  exact wp_some ⟨o1, by rw [dimsAt_at]⟩
theorem back_May {x : joint.den} {cs : List AV} (hx : In h joint x cs) (hsm : Small x.1) (b : Nat) (hb : b ≤ h.length) : WP (call prog b 71 [.agg cs] h) fun r => Old h.length h r.2 ∧ r.1 = .bool (mayJ x) := by
  obtain ⟨vn, vg, rfl, hn, hg, hl⟩ := holds_joint hx
  refine wp_enter (fn := C.back_May) rfl ?_
  dsimp only [bodyN, C.back_May, C.back_May_l0]; simp
  generalize hh : h ++ [AObj.cells 0 1 [vn, AV.int IntKind.i64 x.snd.fst, vg]] = h1
  have o1 : Old h.length h h1 := hh ▸ Old.app
  have b1 : Box h1 h.length [vn, AV.int IntKind.i64 x.snd.fst, vg] := by rw [← hh]; simp [Box]
  have lt1 := b1.lt
  repeat ((first | refine wq_len (by assumption) ?_ | refine wq_idx (by assumption) (by rfl) (by omega) (by omega) ?_ | refine wq_int (by assumption) (by omega) ?_ | refine wq_kind (by assumption) (by omega) ?_ | refine wq_num (by assumption) (by omega) ?_ | refine wq_name (by assumption) (by omega) ?_ | refine wq_ptr (by assumption) rfl ?_ | refine wp_new1 rfl ?_ | refine wq_from (by assumption) (by omega) ?_ | refine wq_to (by assumption) (by omega) ?_ | refine wq_size (by assumption) (by omega) ?_ | refine wq_life (by assumption) (by omega) ?_ | refine wp_guard (by omega) ?_ | refine wq_cells (by assumption) ?_); (try simp))
  refine wp_call (graph_May (In.old o1 hn) hsm b (by omega)) fun v2 h2 ⟨o2, e2⟩ => ?_
  simp only at o2 e2
  subst e2
  have o12 := o1.trans (o2.mono o1.1)
  have b2 := b1.old o2 lt1
  have hx2 := In.old o12 hx
  have hn2 := In.old o12 hn
  have hg2 := In.old o12 hg
  try simp
  refine wp_iteK (fun hm => ?_) fun hm => ?_
  · rw [Bool.not_eq_true'] at hm
    try simp
    exact wp_some ⟨o12, by simp [mayJ, hm]⟩
  rw [Bool.not_eq_false'] at hm
  try simp
  repeat ((first | refine wq_len (by assumption) ?_ | refine wq_idx (by assumption) (by rfl) (by omega) (by omega) ?_ | refine wq_int (by assumption) (by omega) ?_ | refine wq_kind (by assumption) (by omega) ?_ | refine wq_num (by assumption) (by omega) ?_ | refine wq_name (by assumption) (by omega) ?_ | refine wq_ptr (by assumption) rfl ?_ | refine wp_new1 rfl ?_ | refine wq_from (by assumption) (by omega) ?_ | refine wq_to (by assumption) (by omega) ?_ | refine wq_size (by assumption) (by omega) ?_ | refine wq_life (by assumption) (by omega) ?_ | refine wp_guard (by omega) ?_ | refine wq_cells (by assumption) ?_); (try simp))
  rw [callK_eq (back_May_1 b2 hx2 _ b)]
  try simp
  refine wp_iteK (fun ht => ?_) fun ht => ?_
  · rw [Bool.not_eq_true'] at ht
    try simp
    exact wp_some ⟨o12, by simp [mayJ, ht]⟩
  rw [Bool.not_eq_false'] at ht
  obtain ⟨t0, t1⟩ := there_nat ht
  try simp
  repeat ((first | refine wq_len (by assumption) ?_ | refine wq_idx (by assumption) (by rfl) (by omega) (by omega) ?_ | refine wq_int (by assumption) (by omega) ?_ | refine wq_kind (by assumption) (by omega) ?_ | refine wq_num (by assumption) (by omega) ?_ | refine wq_name (by assumption) (by omega) ?_ | refine wq_ptr (by assumption) rfl ?_ | refine wp_new1 rfl ?_ | refine wq_from (by assumption) (by omega) ?_ | refine wq_to (by assumption) (by omega) ?_ | refine wq_size (by assumption) (by omega) ?_ | refine wq_life (by assumption) (by omega) ?_ | refine wp_guard (by omega) ?_ | refine wq_cells (by assumption) ?_); (try simp))
  refine wq_dims hn2 (by omega) fun u hu => ?_
  try simp
  rw [callK_eq (shape_Product hu _)]
  try simp
  have ed : prodW x.1[x.2.1.toNat].2.2.2.1 = prodW (dimsAt x.1 x.2.1) := by rw [dimsAt_at]
  simp only [ed]
  refine wp_ndec (fun h3 => ?_) fun h3 => ?_
  · try simp
    exact wp_some ⟨o12, by simp [mayJ, h3]⟩
  try simp
  repeat ((first | refine wq_len (by assumption) ?_ | refine wq_idx (by assumption) (by rfl) (by omega) (by omega) ?_ | refine wq_int (by assumption) (by omega) ?_ | refine wq_kind (by assumption) (by omega) ?_ | refine wq_num (by assumption) (by omega) ?_ | refine wq_name (by assumption) (by omega) ?_ | refine wq_ptr (by assumption) rfl ?_ | refine wp_new1 rfl ?_ | refine wq_from (by assumption) (by omega) ?_ | refine wq_to (by assumption) (by omega) ?_ | refine wq_size (by assumption) (by omega) ?_ | refine wq_life (by assumption) (by omega) ?_ | refine wp_guard (by omega) ?_ | refine wq_cells (by assumption) ?_); (try simp))
  have hmj : mayJ x = decide (gUp x.1 x.2.2 x.1.length = some x.2.2.length) := by simp [mayJ, hm, ht, h3]
  have lt2 := b2.lt
  have hlen : x.1.length ≤ 240 := by
    simp only [mayL, Bool.and_eq_true, decide_eq_true_eq] at hm
    omega
  refine wp_loop (I := fun m e h' => Old h2.length h2 h' ∧ ∃ i k, e = (ea 1 (.ptr h.length 0 0) <| ea 3 (.fn 108 [.ptr h.length 0 0]) <| ea 4 (.int .i64 (k : Nat)) <| ea 31 vn <| ea 32 (.int .i64 x.1.length) <| ea 33 (.int .i64 (i : Nat)) e0) ∧ i + m = x.1.length ∧ gUp x.1 x.2.2 i = some k) ?_ ⟨Old.refl (Nat.le_refl _), 0, 0, rfl, Nat.zero_add _, rfl⟩
  rintro N m e h3 ⟨o3, i, k, rfl, him, hk⟩ next
  have o23 := o12.trans (o3.mono o12.1)
  have hn3 := In.old o3 hn2
  have hg3 := In.old o3 hg2
  have hx3 := In.old o3 hx2
  have b3 := b2.old o3 lt2
  have hki := gUp_le _ _ hk
  have ho3 := o3.1
  have blg := holds_le hg
  dsimp only [C.back_May_b0]; simp
  refine wp_dec (fun hi => ?_) fun hi => ?_
  · try simp
    repeat ((first | refine wq_len (by assumption) ?_ | refine wq_idx (by assumption) (by rfl) (by omega) (by omega) ?_ | refine wq_int (by assumption) (by omega) ?_ | refine wq_kind (by assumption) (by omega) ?_ | refine wq_num (by assumption) (by omega) ?_ | refine wq_name (by assumption) (by omega) ?_ | refine wq_ptr (by assumption) rfl ?_ | refine wp_new1 rfl ?_ | refine wq_from (by assumption) (by omega) ?_ | refine wq_to (by assumption) (by omega) ?_ | refine wq_size (by assumption) (by omega) ?_ | refine wq_life (by assumption) (by omega) ?_ | refine wp_guard (by omega) ?_ | refine wq_cells (by assumption) ?_); (try simp))
    refine wq_node hn3 (by omega) fun va vd ha hd hnn => ?_
    try simp
    refine wq_init (by omega) (by rfl) (by rfl) fun h4 o4 b4 lt4 => ?_
    try simp
    repeat ((first | refine wq_len (by assumption) ?_ | refine wq_idx (by assumption) (by rfl) (by omega) (by omega) ?_ | refine wq_int (by assumption) (by omega) ?_ | refine wq_kind (by assumption) (by omega) ?_ | refine wq_num (by assumption) (by omega) ?_ | refine wq_name (by assumption) (by omega) ?_ | refine wq_ptr (by assumption) rfl ?_ | refine wp_new1 rfl ?_ | refine wq_from (by assumption) (by omega) ?_ | refine wq_to (by assumption) (by omega) ?_ | refine wq_size (by assumption) (by omega) ?_ | refine wq_life (by assumption) (by omega) ?_ | refine wp_guard (by omega) ?_ | refine wq_cells (by assumption) ?_); (try simp))
    have o34 := o3.trans (o4.mono ho3)
    have o24 := o12.trans (o34.mono o12.1)
    have hn4 := In.old o4 hn3
    have hg4 := In.old o4 hg3
    have hx4 := In.old o4 hx3
    have bx4 := b3.old o4 b3.lt
    have w1 := succ64 (i := i) (n := 240) (by omega) (by omega)
    have w2 := succ64 (i := k) (n := 240) (by omega) (by omega)
    have step : gUp x.1 x.2.2 (i + 1) = if x.1[i].2.1 = 2 then (if k < x.2.2.length ∧ there x.1.length (x.2.2.getD k 0) = true ∧ dimsAt x.1 (x.2.2.getD k 0) = x.1[i].2.2.2.1 then some (k + 1) else none) else some k := by
      rw [gUp, hk, List.getElem?_eq_getElem hi]
      rfl
    have bad : gUp x.1 x.2.2 (i + 1) = none → mayJ x = false := fun hn => by
      rw [hmj, gUp_none hn hi]
      simp
    refine wp_ndec (fun hk2 => ?_) fun hk2 => ?_
    · simp [w1]
      exact next (m - 1) _ _ (by omega) ⟨o34, i + 1, k, rfl, by omega, by rw [step, if_neg hk2]⟩
    rw [if_pos hk2] at step
    try simp
    repeat ((first | refine wq_len (by assumption) ?_ | refine wq_idx (by assumption) (by rfl) (by omega) (by omega) ?_ | refine wq_int (by assumption) (by omega) ?_ | refine wq_kind (by assumption) (by omega) ?_ | refine wq_num (by assumption) (by omega) ?_ | refine wq_name (by assumption) (by omega) ?_ | refine wq_ptr (by assumption) rfl ?_ | refine wp_new1 rfl ?_ | refine wq_from (by assumption) (by omega) ?_ | refine wq_to (by assumption) (by omega) ?_ | refine wq_size (by assumption) (by omega) ?_ | refine wq_life (by assumption) (by omega) ?_ | refine wp_guard (by omega) ?_ | refine wq_cells (by assumption) ?_); (try simp))
    refine wp_dec (fun hkl => ?_) fun hkl => ?_
    · try simp
      rw [if_neg (fun h => by omega)] at step
      exact wp_some ⟨o24, by rw [bad step]⟩
    have hkl' : k < x.2.2.length := by omega
    have gd : x.2.2.getD k 0 = x.2.2[k] := by rw [List.getD_eq_getElem?_getD, List.getElem?_eq_getElem hkl']; rfl
    rw [gd] at step
    try simp
    repeat ((first | refine wq_len (by assumption) ?_ | refine wq_idx (by assumption) (by rfl) (by omega) (by omega) ?_ | refine wq_int (by assumption) (by omega) ?_ | refine wq_kind (by assumption) (by omega) ?_ | refine wq_num (by assumption) (by omega) ?_ | refine wq_name (by assumption) (by omega) ?_ | refine wq_ptr (by assumption) rfl ?_ | refine wp_new1 rfl ?_ | refine wq_from (by assumption) (by omega) ?_ | refine wq_to (by assumption) (by omega) ?_ | refine wq_size (by assumption) (by omega) ?_ | refine wq_life (by assumption) (by omega) ?_ | refine wp_guard (by omega) ?_ | refine wq_cells (by assumption) ?_); (try simp))
    rw [callK_eq (back_May_1 bx4 hx4 _ _)]
    try simp
    refine wp_iteK (fun ht => ?_) fun ht => ?_
    · rw [Bool.not_eq_true'] at ht
      try simp
      rw [if_neg (fun h => by rw [ht] at h; cases h.2.1)] at step
      exact wp_some ⟨o24, by rw [bad step]⟩
    rw [Bool.not_eq_false'] at ht
    obtain ⟨t0, t1⟩ := there_nat ht
    try simp
    repeat ((first | refine wq_len (by assumption) ?_ | refine wq_idx (by assumption) (by rfl) (by omega) (by omega) ?_ | refine wq_int (by assumption) (by omega) ?_ | refine wq_kind (by assumption) (by omega) ?_ | refine wq_num (by assumption) (by omega) ?_ | refine wq_name (by assumption) (by omega) ?_ | refine wq_ptr (by assumption) rfl ?_ | refine wp_new1 rfl ?_ | refine wq_from (by assumption) (by omega) ?_ | refine wq_to (by assumption) (by omega) ?_ | refine wq_size (by assumption) (by omega) ?_ | refine wq_life (by assumption) (by omega) ?_ | refine wp_guard (by omega) ?_ | refine wq_cells (by assumption) ?_); (try simp))
    refine wq_dims hn4 (by omega) fun u hu => ?_
    try simp
    repeat ((first | refine wq_len (by assumption) ?_ | refine wq_idx (by assumption) (by rfl) (by omega) (by omega) ?_ | refine wq_int (by assumption) (by omega) ?_ | refine wq_kind (by assumption) (by omega) ?_ | refine wq_num (by assumption) (by omega) ?_ | refine wq_name (by assumption) (by omega) ?_ | refine wq_ptr (by assumption) rfl ?_ | refine wp_new1 rfl ?_ | refine wq_from (by assumption) (by omega) ?_ | refine wq_to (by assumption) (by omega) ?_ | refine wq_size (by assumption) (by omega) ?_ | refine wq_life (by assumption) (by omega) ?_ | refine wp_guard (by omega) ?_ | refine wq_cells (by assumption) ?_); (try simp))
    rw [callK_eq (slices_Equal_int hu (In.old o4 hd) _)]
    have e2 : dimsAt x.1 x.2.2[k] = x.1[x.2.2[k].toNat].2.2.2.1 := dimsAt_at (by omega)
    try simp
    refine wp_ndec (fun hne => ?_) fun heq => ?_
    · try simp
      rw [if_neg (fun h => hne (by rw [← e2]; exact h.2.2))] at step
      exact wp_some ⟨o24, by rw [bad step]⟩
    · simp [w1, w2]
      exact next (m - 1) _ _ (by omega) ⟨o34, i + 1, k + 1, rfl, by omega, by rw [step, if_pos ⟨hkl', ht, by rw [e2]; exact heq⟩]⟩
  · have e : i = x.1.length := by omega
    subst e
    try simp
    repeat ((first | refine wq_len (by assumption) ?_ | refine wq_idx (by assumption) (by rfl) (by omega) (by omega) ?_ | refine wq_int (by assumption) (by omega) ?_ | refine wq_kind (by assumption) (by omega) ?_ | refine wq_num (by assumption) (by omega) ?_ | refine wq_name (by assumption) (by omega) ?_ | refine wq_ptr (by assumption) rfl ?_ | refine wp_new1 rfl ?_ | refine wq_from (by assumption) (by omega) ?_ | refine wq_to (by assumption) (by omega) ?_ | refine wq_size (by assumption) (by omega) ?_ | refine wq_life (by assumption) (by omega) ?_ | refine wp_guard (by omega) ?_ | refine wq_cells (by assumption) ?_); (try simp))
    refine wp_some ⟨o23, ?_⟩
    rw [hmj, hk]
    simp
    omega
end
end Go.AM
