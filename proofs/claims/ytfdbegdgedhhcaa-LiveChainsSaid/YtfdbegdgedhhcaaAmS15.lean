/- Copies, and what is the same. -/
import Derived.Test.YtfdbegdgedhhcaaAmS14
set_option linter.all false
namespace Go.AM
set_option maxRecDepth 20000
set_option maxHeartbeats 1000000
attribute [local simp] layAt
attribute [local irreducible] lenK sliceK idxK fldK cutK storeK appK copyK clearK mapAtK callK loopH readK readK1 guardK grdK fnK nilK fieldK extrK strK nextK joinK iteK intK boolK cellsK castK castL castEnv binK unK intBin layParts execN runOpsN runItemsN denN call loop blockK
section
variable {h : Heap}
theorem old_put {h' : Heap} {n l : Nat} (hl : h'.length = h.length) (hk : ∀ j, j ≠ l → h'[j]? = h[j]?) (hn : n ≤ l) (hnl : n ≤ h.length) : Old n h h' := ⟨by omega, fun j hj => hk j (by omega)⟩
theorem AccP.but {h' : Heap} {f n0 l0 : Nat} {p : PT} {v : AV} {l : List p.den} (H : AccP f n0 h p v l) (hl : h'.length = h.length) (hk : ∀ j, j ≠ l0 → h'[j]? = h[j]?) (hf : l0 < f) (hn : l0 < n0) : AccP f n0 h' p v l := by
  obtain ⟨cs, a, e⟩ := H
  exact ⟨cs, a.keep fun j hj => hk j (by have := (a.lt hj).1; omega), fun i x hi => (e i x hi).frame fun j hj => ⟨⟨hj.1, by omega, hj.2.2⟩, hk j (by omega)⟩⟩
theorem holds_node {S : Nat → Prop} {x : node.den} {a d : AV} (ha : Holds S h ints x.2.2.1 [a]) (hd : Holds S h ints x.2.2.2.1 [d]) (hk : -9223372036854775808 ≤ x.2.1 ∧ x.2.1 ≤ 9223372036854775807) (hn : -9223372036854775808 ≤ x.2.2.2.2 ∧ x.2.2.2.2 ≤ 9223372036854775807) (hs : x.1.size ≤ 140737488355328) : Holds S h node x [.str x.1, .int .i64 x.2.1, a, d, .int .i64 x.2.2.2.2] :=
  ⟨[.str x.1], _, rfl, ⟨rfl, hs⟩, [.int .i64 x.2.1], _, rfl, ⟨rfl, hk⟩, [a], _, rfl, ha, [d], _, rfl, hd, rfl, hn⟩
/-- A node's parts are not too long. -/
abbrev SmallN (x : node.den) : Prop := x.2.2.1.length * 24 ≤ 140737488355328 ∧ x.2.2.2.1.length * 24 ≤ 140737488355328
/-- A copy: cells of one's own. -/
def FreshNode (n0 : Nat) (h : Heap) (x : node.den) (cs : List AV) : Prop := ∃ a d, cs = [.str x.1, .int .i64 x.2.1, a, d, .int .i64 x.2.2.2.2] ∧ AccP n0 n0 h int a x.2.2.1 ∧ AccP n0 n0 h int d x.2.2.2.1
theorem ref0_CopyNode {x : node.den} {cs : List AV} (hx : In h node x cs) (hs : SmallN x) (b : Nat) (hb : b ≤ h.length) :
    WP (call prog b 67 [.agg cs] h) fun r => Old h.length h r.2 ∧ ∃ cs', r.1 = .agg cs' ∧ Holds (fun j => h.length ≤ j ∧ j < r.2.length) r.2 node x cs' := by
  obtain ⟨a, d, rfl, ha, hd, hk, hn, hss⟩ := hx.node
  refine wp_enter (fn := C.ref0_CopyNode) rfl ?_
  dsimp only [bodyN, C.ref0_CopyNode]; simp
  generalize hh : h ++ [AObj.cells 0 1 [AV.str x.fst, AV.int IntKind.i64 x.snd.fst, a, d, AV.int IntKind.i64 x.snd.snd.snd.snd], AObj.cells 0 1 [AV.str (bs []), AV.int IntKind.i64 0, AV.nil, AV.nil, AV.int IntKind.i64 0]] = h1
  have o1 : Old h.length h h1 := hh ▸ Old.app
  have l1 : h1.length = h.length + 2 := by rw [← hh]; simp
  have b1 : Box h1 h.length [AV.str x.fst, AV.int IntKind.i64 x.snd.fst, a, d, AV.int IntKind.i64 x.snd.snd.snd.snd] := by rw [← hh]; simp [Box]
  have c1 : Box h1 (h.length + 1) [AV.str (bs []), AV.int IntKind.i64 0, AV.nil, AV.nil, AV.int IntKind.i64 0] := by rw [← hh]; simp [Box]
  refine wq_ptrs b1 (by simp) ?_
  try simp
  refine wq_init (by omega) (by rfl) (by rfl) fun h2 o12 d2 lt2 => ?_
  try simp
  have o2 : Old h.length h h2 := o1.trans (o12.mono (by omega))
  have b2 := b1.old o12 (by omega)
  have c2 := c1.old o12 (by omega)
  refine wq_ptr b2 rfl ?_
  try simp
  refine wp_call (ref0_CopyNumbers (In.old o2 ha) (by omega) b (by omega)) fun v3 h3 ⟨o3, a3⟩ => ?_
  simp only at o3 a3
  try simp
  have d3 := d2.old o3 (by omega)
  refine wq_put d3 (by omega) (fun K => cells_one a3.one K) (by rfl) (by simp) fun h4 l4 k4 d4 => ?_
  try simp
  simp at d4
  have b4 : Box h4 h.length _ := (k4 _ (by omega)).trans (b2.old o3 (by omega))
  have c4 : Box h4 (h.length + 1) _ := (k4 _ (by omega)).trans (c2.old o3 (by omega))
  have o4 : Old h.length h h4 := (o2.trans (o3.mono (by omega))).trans (old_put l4 k4 (by omega) (by have := o3.1; omega))
  have a4 := a3.but l4 k4 (by omega) (by omega)
  refine wq_ptr b4 rfl ?_
  try simp
  refine wp_call (ref0_CopyNumbers (In.old o4 hd) (by omega) b (by have := o4.1; omega)) fun v5 h5 ⟨o5, a5⟩ => ?_
  simp only at o5 a5
  have c5 := c4.old o5 c4.lt
  have d5 := d4.old o5 d4.lt
  have a45 := a4.keep o5
  try simp
  refine wq_put d5 (by omega) (fun K => cells_one a5.one K) (by rfl) (by simp) fun h6 l6 k6 d6 => ?_
  try simp
  simp at d6
  have q3 := o3.1
  have q5 := o5.1
  have q4 := o4.1
  have c6 : Box h6 (h.length + 1) _ := (k6 _ (by omega)).trans c5
  have a46 := a45.but l6 k6 (by omega) (by omega)
  have a6 := a5.but l6 k6 (by omega) (by omega)
  refine wq_ptrs d6 (by simp) ?_
  try simp
  refine wq_put c6 (by omega) (fun _ => by simp; rfl) (by rfl) (by simp) fun h7 l7 k7 c7 => ?_
  try simp
  simp at c7
  refine wq_ptrs c7 (by simp) ?_
  try simp
  have a47 := a46.but l7 k7 (by omega) (by omega)
  have a7 := a6.but l7 k7 (by omega) (by omega)
  refine wp_some ⟨⟨by simp only; omega, fun j hj => ?_⟩, _, rfl, ?_⟩
  · simp only
    rw [k7 _ (by omega), k6 _ (by omega), o5.2 _ (by omega), o4.2 _ hj]
  · have e1 := (a47.holds (Nat.le_refl _)).mono (T := fun j => h.length ≤ j ∧ j < h7.length) fun j hj => ⟨by have := hj.1; omega, hj.2⟩
    have e2 := (a7.holds (Nat.le_refl _)).mono (T := fun j => h.length ≤ j ∧ j < h7.length) fun j hj => ⟨by have := hj.1; omega, hj.2⟩
    exact holds_node e1 e2 hk hn hss
theorem ref0_CopyNodes {vl : AV} {l : List node.den} (hl : In h nodes l [vl]) (hsm : Small l) (hlen : l.length ≤ 1000000) (b : Nat) (hb : b ≤ h.length) :
    WP (call prog b 9 [vl] h) fun r => Old h.length h r.2 ∧ AccP h.length h.length r.2 node r.1 l := by
  refine wp_enter (fn := C.ref0_CopyNodes) rfl ?_
  dsimp only [bodyN, C.ref0_CopyNodes, C.ref0_CopyNodes_l0]; simp
  refine wp_loop (I := fun m e h' => Old h.length h h' ∧ ∃ i v, e = (ea 0 vl <| ea 3 v <| ea 4 (.int .i64 (i : Nat)) e0) ∧ i + m = l.length ∧ AccP h.length h.length h' node v (l.take i)) ?_ ⟨Old.refl (Nat.le_refl _), 0, .nil, rfl, Nat.zero_add _, AccP.nil⟩
  rintro N m e h' ⟨old, i, v, rfl, him, acc⟩ next
  have hl' := In.old old hl
  have ho := old.1
  dsimp only [C.ref0_CopyNodes_b0]; simp
  repeat ((first | refine wq_len (by assumption) ?_ | refine wq_idx (by assumption) (by rfl) (by omega) (by omega) ?_ | refine wq_int (by assumption) (by omega) ?_ | refine wq_kind (by assumption) (by omega) ?_ | refine wq_num (by assumption) (by omega) ?_ | refine wq_name (by assumption) (by omega) ?_ | refine wq_ptr (by assumption) rfl ?_ | refine wp_new1 rfl ?_ | refine wq_from (by assumption) (by omega) ?_ | refine wq_to (by assumption) (by omega) ?_ | refine wq_size (by assumption) (by omega) ?_ | refine wq_life (by assumption) (by omega) ?_ | refine wp_guard (by omega) ?_ | refine wq_cells (by assumption) ?_); (try simp))
  refine wp_dec (fun hi => ?_) fun hi => ?_
  · try simp
    repeat ((first | refine wq_len (by assumption) ?_ | refine wq_idx (by assumption) (by rfl) (by omega) (by omega) ?_ | refine wq_int (by assumption) (by omega) ?_ | refine wq_kind (by assumption) (by omega) ?_ | refine wq_num (by assumption) (by omega) ?_ | refine wq_name (by assumption) (by omega) ?_ | refine wq_ptr (by assumption) rfl ?_ | refine wp_new1 rfl ?_ | refine wq_from (by assumption) (by omega) ?_ | refine wq_to (by assumption) (by omega) ?_ | refine wq_size (by assumption) (by omega) ?_ | refine wq_life (by assumption) (by omega) ?_ | refine wp_guard (by omega) ?_ | refine wq_cells (by assumption) ?_); (try simp))
    refine wq_node hl' (by omega) fun va vd ha hd hn => ?_
    try simp
    refine wp_call (ref0_CopyNode hn (hsm _ (List.getElem_mem hi)) b (by omega)) fun v4 h4 ⟨o4, cs', e4, a4⟩ => ?_
    simp only at o4 e4 a4
    obtain ⟨a, d, ec, _⟩ := a4.node
    rw [ec] at e4 a4
    subst e4
    try simp
    have old4 := old.trans (o4.mono ho)
    refine wp_push1 (p := node) (x := l[i]) (acc.keep o4) (a4.mono fun j hj => ⟨by omega, hj.2, fun e => ?_⟩) rfl hb old4.1 (by rw [List.length_take]; omega) (by rw [List.length_take]; omega) fun v5 h5 o5 a5 => ?_
    · obtain ⟨_, ac, _⟩ := acc
      have := (ac.lt e).2
      omega
    try simp
    have w5 := succ64 hi (by omega)
    simp only [w5]
    exact next (m - 1) _ _ (by omega) ⟨old4.trans o5, i + 1, _, rfl, by omega, by rw [take_succ_app hi]; exact a5⟩
  · refine wp_some ⟨old, ?_⟩
    rwa [List.take_of_length_le (by omega)] at acc
end
end Go.AM
