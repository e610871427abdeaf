/- Joints: the page's test; sums; orders. -/
import Derived.Test.YtfdbegdgedhhcaaAmS16
set_option linter.all false
namespace Go.AM
set_option maxRecDepth 20000
set_option maxHeartbeats 1000000
attribute [local simp] layAt
attribute [local irreducible] lenK sliceK idxK fldK cutK storeK appK copyK clearK mapAtK callK loopH readK readK1 guardK grdK fnK nilK fieldK extrK strK nextK joinK iteK intK boolK cellsK castK castL castEnv binK unK intBin layParts execN runOpsN runItemsN denN call loop blockK
theorem there_num (n : Nat) (a : Int) : (decide (0 ≤ a) && decide (a ≤ (n : Int) - 1)) = there n a := by
  rw [there]
  congr 1
  rw [decide_eq_decide]
  omega
section
variable {h : Heap}
theorem ref12_May {x : joint.den} {cs : List AV} (hx : In h joint x cs) (hsm : Small x.1) (b : Nat) (hb : b ≤ h.length) : WP (call prog b 24 [.agg cs] h) fun r => Old h.length h r.2 ∧ r.1 = .bool (mayJ x) := by
  obtain ⟨vn, vg, rfl, hn, hg, hl⟩ := holds_joint hx
  refine wp_enter (fn := C.ref12_May) rfl ?_
  dsimp only [bodyN, C.ref12_May, C.ref12_May_l0]; simp
  generalize hh : h ++ [AObj.cells 0 1 [vn, AV.int IntKind.i64 x.snd.fst, vg]] = h1
  have o1 : Old h.length h h1 := hh ▸ Old.app
  have b1 : Box h1 h.length [vn, AV.int IntKind.i64 x.snd.fst, vg] := by rw [← hh]; simp [Box]
  have lt1 := b1.lt
  have bln := holds_le hn
  have w3 : IntKind.i64.wrap ((x.1.length : Int) - 1) = (x.1.length : Int) - 1 := w64_id (by omega) (by omega)
  repeat ((first | refine wq_len (by assumption) ?_ | refine wq_idx (by assumption) (by rfl) (by omega) (by omega) ?_ | refine wq_int (by assumption) (by omega) ?_ | refine wq_kind (by assumption) (by omega) ?_ | refine wq_num (by assumption) (by omega) ?_ | refine wq_name (by assumption) (by omega) ?_ | refine wq_ptr (by assumption) rfl ?_ | refine wp_new1 rfl ?_ | refine wq_from (by assumption) (by omega) ?_ | refine wq_to (by assumption) (by omega) ?_ | refine wq_size (by assumption) (by omega) ?_ | refine wq_life (by assumption) (by omega) ?_ | refine wp_guard (by omega) ?_ | refine wq_cells (by assumption) ?_); (try simp))
  refine wp_call (ref7_Nodes (In.old o1 hn) hsm b (by omega)) fun v2 h2 ⟨o2, e2⟩ => ?_
  simp only at o2 e2
  subst e2
  have o12 := o1.trans (o2.mono o1.1)
  have b2 := b1.old o2 lt1
  have hx2 := In.old o12 hx
  have hn2 := In.old o12 hn
  have hg2 := In.old o12 hg
  try simp
  refine wp_iteK (fun hm => ?_) fun hm => ?_
  · rw [Bool.not_eq_true'] at hm
    try simp
    exact wp_some ⟨o12, by simp [mayJ, hm]⟩
  rw [Bool.not_eq_false'] at hm
  try simp
  refine wq_ptr b2 rfl ?_
  try simp
  refine wq_ptr b2 rfl ?_
  try simp
  refine wq_len hn2 ?_
  simp [w3, there_num]
  refine wp_iteK (fun ht => ?_) fun ht => ?_
  · rw [Bool.not_eq_true'] at ht
    try simp
    exact wp_some ⟨o12, by simp [mayJ, ht]⟩
  rw [Bool.not_eq_false'] at ht
  obtain ⟨t0, t1⟩ := there_nat ht
  try simp
  repeat ((first | refine wq_len (by assumption) ?_ | refine wq_idx (by assumption) (by rfl) (by omega) (by omega) ?_ | refine wq_int (by assumption) (by omega) ?_ | refine wq_kind (by assumption) (by omega) ?_ | refine wq_num (by assumption) (by omega) ?_ | refine wq_name (by assumption) (by omega) ?_ | refine wq_ptr (by assumption) rfl ?_ | refine wp_new1 rfl ?_ | refine wq_from (by assumption) (by omega) ?_ | refine wq_to (by assumption) (by omega) ?_ | refine wq_size (by assumption) (by omega) ?_ | refine wq_life (by assumption) (by omega) ?_ | refine wp_guard (by omega) ?_ | refine wq_cells (by assumption) ?_); (try simp))
  refine wq_dims hn2 (by omega) fun u hu => ?_
  try simp
  rw [callK_eq (ref1_Cells hu _)]
  try simp
  have ed : prodW x.1[x.2.1.toNat].2.2.2.1 = prodW (dimsAt x.1 x.2.1) := by rw [dimsAt_at]
  simp only [ed]
  refine wp_ndec (fun h3 => ?_) fun h3 => ?_
  · try simp
    exact wp_some ⟨o12, by simp [mayJ, h3]⟩
  try simp
  have hmj : mayJ x = decide (gUp x.1 x.2.2 x.1.length = some x.2.2.length) := by simp [mayJ, hm, ht, h3]
  have lt2 := b2.lt
  have hlen : x.1.length ≤ 240 := by
    simp only [mayL, Bool.and_eq_true, decide_eq_true_eq] at hm
    omega
  refine wp_loop (I := fun m e h' => Old h2.length h2 h' ∧ ∃ i k, e = (ea 1 (.ptr h.length 0 0) <| ea 3 (.int .i64 (k : Nat)) <| ea 4 (.int .i64 (i : Nat)) e0) ∧ i + m = x.1.length ∧ gUp x.1 x.2.2 i = some k) ?_ ⟨Old.refl (Nat.le_refl _), 0, 0, rfl, Nat.zero_add _, rfl⟩
  rintro N m e h3 ⟨o3, i, k, rfl, him, hk⟩ next
  have o23 := o12.trans (o3.mono o12.1)
  have hn3 := In.old o3 hn2
  have hg3 := In.old o3 hg2
  have b3 := b2.old o3 lt2
  have hki := gUp_le _ _ hk
  have ho3 := o3.1
  have blg := holds_le hg
  dsimp only [C.ref12_May_b0]; simp
  repeat ((first | refine wq_len (by assumption) ?_ | refine wq_idx (by assumption) (by rfl) (by omega) (by omega) ?_ | refine wq_int (by assumption) (by omega) ?_ | refine wq_kind (by assumption) (by omega) ?_ | refine wq_num (by assumption) (by omega) ?_ | refine wq_name (by assumption) (by omega) ?_ | refine wq_ptr (by assumption) rfl ?_ | refine wp_new1 rfl ?_ | refine wq_from (by assumption) (by omega) ?_ | refine wq_to (by assumption) (by omega) ?_ | refine wq_size (by assumption) (by omega) ?_ | refine wq_life (by assumption) (by omega) ?_ | refine wp_guard (by omega) ?_ | refine wq_cells (by assumption) ?_); (try simp))
  refine wp_dec (fun hi => ?_) fun hi => ?_
  · try simp
    repeat ((first | refine wq_len (by assumption) ?_ | refine wq_idx (by assumption) (by rfl) (by omega) (by omega) ?_ | refine wq_int (by assumption) (by omega) ?_ | refine wq_kind (by assumption) (by omega) ?_ | refine wq_num (by assumption) (by omega) ?_ | refine wq_name (by assumption) (by omega) ?_ | refine wq_ptr (by assumption) rfl ?_ | refine wp_new1 rfl ?_ | refine wq_from (by assumption) (by omega) ?_ | refine wq_to (by assumption) (by omega) ?_ | refine wq_size (by assumption) (by omega) ?_ | refine wq_life (by assumption) (by omega) ?_ | refine wp_guard (by omega) ?_ | refine wq_cells (by assumption) ?_); (try simp))
    have w1 := succ64 (i := i) (n := 240) (by omega) (by omega)
    have w2 := succ64 (i := k) (n := 240) (by omega) (by omega)
    have step : gUp x.1 x.2.2 (i + 1) = if x.1[i].2.1 = 2 then (if k < x.2.2.length ∧ there x.1.length (x.2.2.getD k 0) = true ∧ dimsAt x.1 (x.2.2.getD k 0) = x.1[i].2.2.2.1 then some (k + 1) else none) else some k := by
      rw [gUp, hk, List.getElem?_eq_getElem hi]
      rfl
    have bad : gUp x.1 x.2.2 (i + 1) = none → mayJ x = false := fun hn => by
      rw [hmj, gUp_none hn hi]
      simp
    refine wp_ndec (fun hk2 => ?_) fun hk2 => ?_
    · simp [w1]
      exact next (m - 1) _ _ (by omega) ⟨o3, i + 1, k, rfl, by omega, by rw [step, if_neg hk2]⟩
    rw [if_pos hk2] at step
    try simp
    repeat ((first | refine wq_len (by assumption) ?_ | refine wq_idx (by assumption) (by rfl) (by omega) (by omega) ?_ | refine wq_int (by assumption) (by omega) ?_ | refine wq_kind (by assumption) (by omega) ?_ | refine wq_num (by assumption) (by omega) ?_ | refine wq_name (by assumption) (by omega) ?_ | refine wq_ptr (by assumption) rfl ?_ | refine wp_new1 rfl ?_ | refine wq_from (by assumption) (by omega) ?_ | refine wq_to (by assumption) (by omega) ?_ | refine wq_size (by assumption) (by omega) ?_ | refine wq_life (by assumption) (by omega) ?_ | refine wp_guard (by omega) ?_ | refine wq_cells (by assumption) ?_); (try simp))
    refine wp_dec (fun hkl => ?_) fun hkl => ?_
    · try simp
      rw [if_neg (fun h => by omega)] at step
      exact wp_some ⟨o23, by rw [bad step]⟩
    have hkl' : k < x.2.2.length := by omega
    have gd : x.2.2.getD k 0 = x.2.2[k] := by rw [List.getD_eq_getElem?_getD, List.getElem?_eq_getElem hkl']; rfl
    rw [gd] at step
    try simp
    refine wq_ptr b3 rfl ?_
    try simp
    refine wq_idx hg3 (by rfl) (by omega) (by omega) ?_
    try simp
    refine wq_int hg3 hkl' ?_
    try simp
    refine wq_ptr b3 rfl ?_
    try simp
    refine wq_len hn3 ?_
    simp [w3, there_num]
    refine wp_iteK (fun ht => ?_) fun ht => ?_
    · rw [Bool.not_eq_true'] at ht
      try simp
      rw [if_neg (fun h => by rw [ht] at h; cases h.2.1)] at step
      exact wp_some ⟨o23, by rw [bad step]⟩
    rw [Bool.not_eq_false'] at ht
    obtain ⟨t0, t1⟩ := there_nat ht
    try simp
    repeat ((first | refine wq_len (by assumption) ?_ | refine wq_idx (by assumption) (by rfl) (by omega) (by omega) ?_ | refine wq_int (by assumption) (by omega) ?_ | refine wq_kind (by assumption) (by omega) ?_ | refine wq_num (by assumption) (by omega) ?_ | refine wq_name (by assumption) (by omega) ?_ | refine wq_ptr (by assumption) rfl ?_ | refine wp_new1 rfl ?_ | refine wq_from (by assumption) (by omega) ?_ | refine wq_to (by assumption) (by omega) ?_ | refine wq_size (by assumption) (by omega) ?_ | refine wq_life (by assumption) (by omega) ?_ | refine wp_guard (by omega) ?_ | refine wq_cells (by assumption) ?_); (try simp))
    refine wq_dims hn3 (by omega) fun u hu => ?_
    try simp
    repeat ((first | refine wq_len (by assumption) ?_ | refine wq_idx (by assumption) (by rfl) (by omega) (by omega) ?_ | refine wq_int (by assumption) (by omega) ?_ | refine wq_kind (by assumption) (by omega) ?_ | refine wq_num (by assumption) (by omega) ?_ | refine wq_name (by assumption) (by omega) ?_ | refine wq_ptr (by assumption) rfl ?_ | refine wp_new1 rfl ?_ | refine wq_from (by assumption) (by omega) ?_ | refine wq_to (by assumption) (by omega) ?_ | refine wq_size (by assumption) (by omega) ?_ | refine wq_life (by assumption) (by omega) ?_ | refine wp_guard (by omega) ?_ | refine wq_cells (by assumption) ?_); (try simp))
    refine wq_dims hn3 (by omega) fun u2 hu2 => ?_
    try simp
    rw [callK_eq (ref0_EqNumbers hu hu2 _)]
    have e2 : dimsAt x.1 x.2.2[k] = x.1[x.2.2[k].toNat].2.2.2.1 := dimsAt_at (by omega)
    try simp
    refine wp_ndec (fun hne => ?_) fun heq => ?_
    · try simp
      rw [if_neg (fun h => hne (by rw [← e2]; exact h.2.2))] at step
      exact wp_some ⟨o23, by rw [bad step]⟩
    · simp [w1, w2]
      exact next (m - 1) _ _ (by omega) ⟨o3, i + 1, k + 1, rfl, by omega, by rw [step, if_pos ⟨hkl', ht, by rw [e2]; exact heq⟩]⟩
  · have e : i = x.1.length := by omega
    subst e
    try simp
    repeat ((first | refine wq_len (by assumption) ?_ | refine wq_idx (by assumption) (by rfl) (by omega) (by omega) ?_ | refine wq_int (by assumption) (by omega) ?_ | refine wq_kind (by assumption) (by omega) ?_ | refine wq_num (by assumption) (by omega) ?_ | refine wq_name (by assumption) (by omega) ?_ | refine wq_ptr (by assumption) rfl ?_ | refine wp_new1 rfl ?_ | refine wq_from (by assumption) (by omega) ?_ | refine wq_to (by assumption) (by omega) ?_ | refine wq_size (by assumption) (by omega) ?_ | refine wq_life (by assumption) (by omega) ?_ | refine wp_guard (by omega) ?_ | refine wq_cells (by assumption) ?_); (try simp))
    refine wp_some ⟨o23, ?_⟩
    rw [hmj, hk]
    simp
    omega
/-- The sizes of nodes, summed up. -/
def sumL (l : List node.den) (is : List Int) : Int := is.foldl (fun n i => w64 (n + prodW (dimsAt l i))) 0
theorem live_Sum {x : joint.den} {cs : List AV} {v : AV} {is : List Int} (hx : In h joint x cs) (hi : In h ints is [v]) (hok : ∀ i ∈ is, there x.1.length i = true) (b : Nat) (hb : b ≤ h.length) : WP (call prog b 79 [.agg cs, v] h) fun r => Old h.length h r.2 ∧ r.1 = .int .i64 (sumL x.1 is) := by
  obtain ⟨vn, vg, rfl, hn, hg, hl⟩ := holds_joint hx
  refine wp_enter (fn := C.live_Sum) rfl ?_
  dsimp only [bodyN, C.live_Sum, C.live_Sum_l0]; simp
  generalize hh : h ++ [AObj.cells 0 1 [vn, AV.int IntKind.i64 x.snd.fst, vg]] = h1
  have o1 : Old h.length h h1 := hh ▸ Old.app
  have b1 : Box h1 h.length [vn, AV.int IntKind.i64 x.snd.fst, vg] := by rw [← hh]; simp [Box]
  have lt1 := b1.lt
  have hi1 := In.old o1 hi
  have hx1 := In.old o1 hx
  have bli := holds_le hi
  repeat ((first | refine wq_len (by assumption) ?_ | refine wq_idx (by assumption) (by rfl) (by omega) (by omega) ?_ | refine wq_int (by assumption) (by omega) ?_ | refine wq_kind (by assumption) (by omega) ?_ | refine wq_num (by assumption) (by omega) ?_ | refine wq_name (by assumption) (by omega) ?_ | refine wq_ptr (by assumption) rfl ?_ | refine wp_new1 rfl ?_ | refine wq_from (by assumption) (by omega) ?_ | refine wq_to (by assumption) (by omega) ?_ | refine wq_size (by assumption) (by omega) ?_ | refine wq_life (by assumption) (by omega) ?_ | refine wp_guard (by omega) ?_ | refine wq_cells (by assumption) ?_); (try simp))
  refine wp_loop (I := fun m e h' => Old h1.length h1 h' ∧ ∃ k n, e = (ea 2 (.ptr h.length 0 0) <| ea 5 (.int .i64 n) <| ea 8 v <| ea 9 (.int .i64 is.length) <| ea 10 (.int .i64 (k : Nat)) e0) ∧ k + m = is.length ∧ n = sumL x.1 (is.take k)) ?_ ⟨Old.refl (Nat.le_refl _), 0, 0, rfl, Nat.zero_add _, rfl⟩
  rintro N m e h3 ⟨o3, k, n, rfl, hkm, hn3⟩ next
  have hi3 := In.old o3 hi1
  have hx3 := In.old o3 hx1
  have b3 := b1.old o3 lt1
  dsimp only [C.live_Sum_b0]; simp
  refine wp_dec (fun hk => ?_) fun hk => ?_
  · try simp
    repeat ((first | refine wq_len (by assumption) ?_ | refine wq_idx (by assumption) (by rfl) (by omega) (by omega) ?_ | refine wq_int (by assumption) (by omega) ?_ | refine wq_kind (by assumption) (by omega) ?_ | refine wq_num (by assumption) (by omega) ?_ | refine wq_name (by assumption) (by omega) ?_ | refine wq_ptr (by assumption) rfl ?_ | refine wp_new1 rfl ?_ | refine wq_from (by assumption) (by omega) ?_ | refine wq_to (by assumption) (by omega) ?_ | refine wq_size (by assumption) (by omega) ?_ | refine wq_life (by assumption) (by omega) ?_ | refine wp_guard (by omega) ?_ | refine wq_cells (by assumption) ?_); (try simp))
    refine wq_ptrs b3 (by simp) ?_
    try simp
    have hs := hok _ (List.getElem_mem hk)
    refine wp_call (live_size hx3 hs _) fun v4 h4 ⟨o4, e4⟩ => ?_
    simp only at o4 e4
    subst e4
    have w1 := succ64 hk bli
    simp [w1]
    exact next (m - 1) _ _ (by omega) ⟨o3.trans (o4.mono o3.1), k + 1, _, rfl, by omega, by rw [sumL, foldl_take_succ _ _ hk, hn3]; rfl⟩
  · try simp
    have e : k = is.length := by omega
    subst e
    exact wp_some ⟨o1.trans (o3.mono o1.1), by rw [hn3, List.take_length]⟩
end
end Go.AM
