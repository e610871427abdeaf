import Derived.Test.YtfdbegdgedhhcaaGreatAmS57
import Derived.Test.YtfdbegdgedhhcaaGreatAmS27
set_option linter.all false
/- All values: the page's. -/
namespace Go.AM
set_option maxRecDepth 20000
set_option maxHeartbeats 1000000
attribute [local simp] layAt
attribute [local irreducible] lenK sliceK idxK fldK cutK storeK appK copyK clearK mapAtK callK loopH readK readK1 guardK grdK fnK nilK fieldK extrK strK nextK joinK iteK intK boolK cellsK castK castL castEnv binK unK intBin layParts execN runOpsN runItemsN denN call loop blockK
section
variable {R : Type} {Q : R → Prop} {h : Heap}
/-- A tensor more. -/
theorem wp_pushTen {base k n0 : Nat} {o : AObj} {v : AV} {vd vt : AV} {l : List tensor.den} {t : tensor.den} (H : AccP n0 n0 h tensor v l) (T : TenAt k h t (.agg [vd, vt])) (hk : n0 ≤ k) (hv : ∀ j, v.blk = some j → j < k) (hb : base ≤ n0) (hn : n0 ≤ h.length) (hl : l.length ≤ 1000000) {K : AV → Heap → Option R}
    (kk : ∀ v' h', Old n0 h h' → AccP n0 n0 h' tensor v' (l ++ [t]) → WP (K v' h') Q) : WP (appK base 2 48 (h ++ [o]) v [vd, vt] 1 K) Q := by
  obtain ⟨vd', vt', e, ht⟩ := T.own
  cases e
  exact wp_push1 (p := tensor) (x := t) H (ht.mono fun j hj => ⟨by omega, hj.2, fun e => by have := hv j e; omega⟩) rfl hb hn (by simp only [PT.den] at *; omega) (by simp only [PT.den] at *; omega) kk
theorem ref10_All {vl vx : AV} {l : List node.den} {x : List tensor.den} (hl : In h nodes l [vl]) (hx : In h tensors x [vx]) (hm : mayL l = true) (hf : fitsL l x = true) (hok : x.all tenOk = true) (b : Nat) (hb : b ≤ h.length) :
    WP (call prog b 232 [vl, vx] h) fun r => Old h.length h r.2 ∧ AccP h.length h.length r.2 tensor r.1 (valuesL l x) := by
  have hlen := mayL_len hm
  refine wp_enter (fn := C.ref10_All) rfl ?_
  dsimp only [bodyN, C.ref10_All, C.ref10_All_l0]; simp
  refine wp_loop (I := fun m e h' => Old h.length h h' ∧ ∃ (i : Nat) (v : AV), e = (ea 0 vl <| ea 1 vx <| ea 5 v <| ea 6 (.int .i64 (i : Nat)) e0) ∧ i + m = l.length ∧ AccP h.length h.length h' tensor v (valsTo l x i)) ?_ ⟨Old.refl (Nat.le_refl _), 0, .nil, rfl, Nat.zero_add _, AccP.nil⟩
  rintro N m e' h2 ⟨o2, i, v, rfl, him, acc⟩ next
  have l2 := o2.1
  have hl2 := In.old o2 hl
  have hx2 := In.old o2 hx
  have vlen := valsTo_len l x i
  dsimp only [C.ref10_All_b0]; simp
  refine wq_len hl2 ?_
  try simp
  refine wp_dec (fun hi => ?_) fun hi => ?_
  · have wi := succ64 (i := i) (n := 240) (by omega) (by omega)
    try simp
    refine wq_idx hl2 (by rfl) (by omega) (by omega) ?_
    try simp
    refine wq_kind hl2 hi ?_
    try simp
    refine wp_dec (fun h1 => ?_) fun h1 => ?_
    · have hk : leafK l[i].2.1 = true := by simp [leafK, h1]
      (try simp); refine wp_call (ref10_Leaf hl2 hx2 hlen hf hok hi hk _ (by omega)) fun v3 h3 ⟨o3, T3⟩ => ?_; simp only at o3 T3; have l3 := o3.1; have acc3 := acc.keep o3; obtain ⟨vd', vt', rfl⟩ := T3.agg; simp [layAt]; refine wp_pushTen acc3 T3 (by omega) (fun j hj => (acc.low hj).2) (by omega) (by omega) (by omega) fun v4 h4 o4 acc4 => ?_; simp [wi]; exact next (m - 1) _ _ (by omega) ⟨(o2.trans (o3.mono l2)).trans o4, i + 1, v4, by simp, by omega, by rw [valsTo, valAt, nodeAt_at hi, if_pos hk]; exact acc4⟩
    try simp
    refine wq_idx hl2 (by rfl) (by omega) (by omega) ?_
    try simp
    refine wq_kind hl2 hi ?_
    try simp
    refine wp_dec (fun h1' => ?_) fun h1' => ?_
    · have hk : leafK l[i].2.1 = true := by simp [leafK, h1']
      (try simp); refine wp_call (ref10_Leaf hl2 hx2 hlen hf hok hi hk _ (by omega)) fun v3 h3 ⟨o3, T3⟩ => ?_; simp only at o3 T3; have l3 := o3.1; have acc3 := acc.keep o3; obtain ⟨vd', vt', rfl⟩ := T3.agg; simp [layAt]; refine wp_pushTen acc3 T3 (by omega) (fun j hj => (acc.low hj).2) (by omega) (by omega) (by omega) fun v4 h4 o4 acc4 => ?_; simp [wi]; exact next (m - 1) _ _ (by omega) ⟨(o2.trans (o3.mono l2)).trans o4, i + 1, v4, by simp, by omega, by rw [valsTo, valAt, nodeAt_at hi, if_pos hk]; exact acc4⟩
    have hk : leafK l[i].2.1 = false := by simp [leafK, h1, h1']
    obtain ⟨p1, p2, p3⟩ := nodeOk_parts (mayL_at hm hi)
    have p1 : argsOk i l[i].2.2.1 = true := by rwa [List.length_take, Nat.min_eq_left (by omega)] at p1
    have hi2 : l[i].2.2.1.length ≤ 1000000 := by
      have := formOk_many p2
      rw [List.length_map] at this
      simp [many] at this
      split at this
      · omega
      · split at this <;> omega
    have G := parts_good hm hi (valsTo_ok hm hf hok (i := i) (by omega)) hk
    try simp
    refine wq_idx hl2 (by rfl) (by omega) (by omega) ?_
    try simp
    refine wq_node hl2 hi fun va vd hva hvd hnode => ?_
    try simp
    refine wq_idx hl2 (by rfl) (by omega) (by omega) ?_
    try simp
    refine wq_args hl2 hi fun u hu => ?_
    try simp
    refine wp_call (ref10_of (acc.in (Nat.le_refl _)) hu (by rw [vlen]; exact p1) hi2 _ (by omega)) fun vo h3 ⟨o3, ho3⟩ => ?_
    simp only at o3 ho3
    have l3 := o3.1
    try simp
    refine wp_call (ref10_Made (In.old o3 hnode) ho3 G _ (by omega)) fun v4 h4 ⟨o4, T4⟩ => ?_
    simp only at o4 T4
    have l4 := o4.1
    have o24 := o3.trans (o4.mono l3)
    have acc4 := acc.keep o24
    obtain ⟨vd', vt', rfl⟩ := T4.agg
    simp [layAt]
    refine wp_pushTen acc4 T4 (by omega) (fun j hj => by have := (acc.low hj).2; omega) (by omega) (by omega) (by omega) fun v5 h5 o5 acc5 => ?_
    simp [wi]
    exact next (m - 1) _ _ (by omega) ⟨(o2.trans (o24.mono l2)).trans o5, i + 1, v5, by simp, by omega, by rw [valsTo, valAt_do hi hk]; exact acc5⟩
  · have ei : i = l.length := by omega
    rw [ei] at acc
    try simp
    exact wp_some ⟨o2, acc⟩
end
end Go.AM

/- Slices that stand beside a box: more of them. -/
namespace Go.AM
set_option maxRecDepth 20000
set_option maxHeartbeats 2000000
attribute [local simp] layAt
attribute [local irreducible] lenK sliceK idxK fldK cutK storeK appK copyK clearK mapAtK callK loopH readK readK1 guardK grdK fnK nilK fieldK extrK strK nextK joinK iteK intK boolK cellsK castK castL castEnv binK unK intBin layParts execN runOpsN runItemsN denN call loop blockK
section
variable {R : Type} {Q : R → Prop} {h : Heap}
theorem AccF.toP {F : Nat → Prop} {n0 : Nat} {p : PT} {v : AV} {l : List p.den} (H : AccF F n0 h p v l) : AccP 0 n0 h p v l := by
  obtain ⟨cs, a, e⟩ := H
  exact ⟨cs, a, fun i x hi => (e i x hi).mono fun j hj => ⟨Nat.zero_le _, hj.2⟩⟩
end
/-- The first three nodes. -/
def made3 (r c : Nat) : List node.den := [(bs [120], 1, [], [(r : Int), (c : Int)], 0), (bs [119], 2, [], [(r : Int), (c : Int)], 0), (bs [118], 6, [0, 1], [(r : Int), (c : Int)], 0)]
/-- What makes a loss of it. -/
def madeEnd (l : List node.den) (k : node.den) : List node.den := l ++ [k] ++ [(bs [113], 6, [3, 3], k.2.2.2.1, 0), (bs [115], 13, [4], List.replicate k.2.2.2.1.length 1, 0)]
/-- What is told of a graph made, and of values for it. -/
def MadeAs (h : Heap) (L : Nat → Nat → List node.den) (C : Nat → Nat → Prop) (res : AV × Heap) : Prop :=
  Old h.length h res.2 ∧ ∃ (r c : Nat), (1 ≤ r ∧ r ≤ 3) ∧ (1 ≤ c ∧ c ≤ 3) ∧ C r c ∧ ∃ vl vx X, res.1 = .tup [vl, vx] ∧ In res.2 nodes (L r c) [vl] ∧ In res.2 tensors X [vx] ∧ X.all tenOk = true ∧ X.map (·.1) = [[(r : Int), (c : Int)], [(r : Int), (c : Int)]]
/-- A graph, and values that fit. -/
def MadeOk (h : Heap) (res : AV × Heap) : Prop :=
  Old h.length h res.2 ∧ ∃ l X vl vx, res.1 = .tup [vl, vx] ∧ In res.2 nodes l [vl] ∧ In res.2 tensors X [vx] ∧ isL l = true ∧ checkL l X = 0 ∧ Small l
theorem MadeAs.ok {h : Heap} {L : Nat → Nat → List node.den} {C : Nat → Nat → Prop} {res : AV × Heap} (H : MadeAs h L C res) (hL : ∀ r c : Nat, (1 ≤ r ∧ r ≤ 3) → (1 ≤ c ∧ c ≤ 3) → C r c → isL (L r c) = true ∧ (ends (L r c)).map (dimsAt (L r c)) = [[(r : Int), (c : Int)], [(r : Int), (c : Int)]] ∧ Small (L r c)) : MadeOk h res := by
  obtain ⟨o, r, c, hr, hc, hC, vl, vx, X, e, hl, hx, hX, hd⟩ := H
  obtain ⟨h1, h2, h3⟩ := hL r c hr hc hC
  refine ⟨o, _, X, vl, vx, e, hl, hx, h1, ?_, h3⟩
  have hf : fitsL (L r c) X = true := by
    rw [fitsL, decide_eq_true_eq, h2, hd]
  rw [checkL, isL_may h1, hX, hf]
  rfl
end Go.AM
