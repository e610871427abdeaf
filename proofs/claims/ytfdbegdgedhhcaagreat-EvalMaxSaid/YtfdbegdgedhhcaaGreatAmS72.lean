import Derived.Test.YtfdbegdgedhhcaaGreatAmS58
set_option linter.all false
/- Is the value of a graph made so the page's? -/
namespace Go.AM
set_option maxRecDepth 20000
set_option maxHeartbeats 2000000
attribute [local simp] layAt
attribute [local irreducible] lenK sliceK idxK fldK cutK storeK appK copyK clearK mapAtK callK loopH readK readK1 guardK grdK fnK nilK fieldK extrK strK nextK joinK iteK intK boolK cellsK castK castL castEnv binK unK intBin layParts execN runOpsN runItemsN denN call loop blockK
section
variable {h : Heap}
theorem law10_of {k : Int} {y : ask10.den} {as : List AV} (hM : ∀ {h : Heap}, In h ask10 y as → ∀ b, b ≤ h.length → WP (call prog b 231 [.agg as, .int .i64 k] h) (MadeOk h)) (H : In h ask10 y as) (b : Nat) (hb : b ≤ h.length) :
    WP (call prog b 199 [.agg as, .int .i64 k] h) fun r => r.1 = .bool true := by
  obtain ⟨_, vl, vn, vd, vx, vv, rfl, rfl, h8, hl, hx, hv⟩ := holds_ask10 H
  refine wp_enter (fn := C.law10_of) rfl ?_
  dsimp only [bodyN, C.law10_of]; simp
  generalize hh : h ++ [AObj.cells 0 1 [vl, vn, vd, vx, vv]] = h1
  have o1 : Old h.length h h1 := hh ▸ Old.app
  have b1 : Box h1 h.length [vl, vn, vd, vx, vv] := by rw [← hh]; simp [Box]
  have l1 : h1.length = h.length + 1 := by rw [← hh]; simp
  refine wq_ptrs b1 (by simp) ?_
  try simp
  refine wp_call (law10_Heavy (In.old o1 H) b (by omega)) fun v2 h2 ⟨o2, q, e2, _⟩ => ?_
  simp only at o2 e2
  subst e2
  have l2 := o2.1
  have b2 := b1.old o2 b1.lt
  have o02 := o1.trans (o2.mono (by omega))
  try simp
  refine wp_iteK (fun hq => by (try simp); exact wp_some rfl) fun hq => ?_
  try simp
  refine wq_ptrs b2 (by simp) ?_
  try simp
  refine wp_call (hM (In.old o02 H) b (by omega)) fun v3 h3 ⟨o3, l, X, wl, wx, e3, hL, hX, kL, kC, hsm⟩ => ?_
  simp only at o3 e3 hL hX
  subst e3
  have l3 := o3.1
  obtain ⟨c1, c2, c3⟩ := checkL_parts kC
  try simp
  refine wp_call (eval_All hL hX hsm b (by omega)) fun v4 h4 ⟨o4, v4', e4, a4⟩ => ?_
  simp only at o4 e4 a4
  rw [kC] at e4
  subst e4
  have a4 := (a4 kC).in (Nat.le_refl _)
  have l4 := o4.1
  have hL4 := In.old o4 hL
  have hX4 := In.old o4 hX
  try simp
  refine wp_call (eval_Loss hL4 hX4 hsm b (by omega)) fun v5 h5 ⟨o5, e5⟩ => ?_
  simp only at o5 e5
  rw [lossE, if_pos kL, kC] at e5
  subst e5
  have l5 := o5.1
  have hL5 := In.old o5 hL4
  have hX5 := In.old o5 hX4
  try simp
  refine wp_call (ref10_Check hL5 hX5 hsm b (by omega)) fun v6 h6 ⟨o6, e6⟩ => ?_
  simp only at o6 e6
  rw [kC] at e6
  subst e6
  have l6 := o6.1
  try simp
  refine wp_call (ref10_All (In.old o6 hL5) (In.old o6 hX5) c1 c3 c2 b (by omega)) fun v7 h7 ⟨o7, a7⟩ => ?_
  simp only at o7 a7
  have l7 := o7.1
  have a7 := a7.in (Nat.le_refl _)
  have a47 := In.old (o5.trans ((o6.mono l5).trans (o7.mono (by omega)))) a4
  try simp
  refine wp_call (ref0_EqTensors a47 a7 _ (by omega)) fun v8 h8 ⟨o8, e8⟩ => ?_
  simp only at o8 e8
  simp at e8
  subst e8
  have a8 := In.old o8 a7
  have l8 := o8.1
  have hne := isL_ne kL
  have hv := valuesL_ok kC (i := l.length - 1) (by omega)
  have hvl := valuesL_len l X
  have hq : l.length - 1 < (valuesL l X).length := by omega
  rw [List.getD_eq_getElem?_getD, List.getElem?_eq_getElem hq] at hv
  obtain ⟨_, _, t3, t4, _⟩ := ten_parts hv.2
  have t3 : 0 < ((valuesL l X)[l.length - 1]).2.length := t3
  have hlen := mayL_len c1
  have w1 : IntKind.i64.wrap ((l.length : Int) - 1) = (l.length : Int) - 1 := w64_id (by omega) (by omega)
  have n1 : ((l.length : Int) - 1).toNat = l.length - 1 := by omega
  have e1 : lossL l X = ((valuesL l X)[l.length - 1]).2[0] := by
    rw [lossL, if_pos ⟨kL, kC⟩, List.getD_eq_getElem?_getD, List.getD_eq_getElem?_getD, List.getElem?_eq_getElem hq, Option.getD_some, List.getElem?_eq_getElem t3, Option.getD_some]
  try simp
  refine wq_len a8 ?_
  simp [hvl, w1]
  refine wq_idx a8 (by rfl) (by omega) (by omega) ?_
  simp [n1]
  refine wq_tdata a8 hq fun u hu => ?_
  try simp
  refine wq_idx hu (by rfl) (by omega) (by omega) ?_
  try simp
  refine wq_int hu t3 ?_
  simp [e1]
  refine wp_call (law10_wakes _ (by omega)) fun v9 h9 ⟨_, e9⟩ => ?_
  simp only at e9
  subst e9
  try simp
  exact wp_some rfl
end
end Go.AM
