/- Graphs: names, leaves. -/
import Derived.Test.YtfdbegdgedhhcaaAmS10
set_option linter.all false
namespace Go.AM
set_option maxRecDepth 20000
theorem find_put (k k' : ByteArray) (v : AV) : ∀ es : List (ByteArray × AV), findIn k (putIn k' v es) = if k' = k then some v else findIn k es
  | [] => by
      unfold putIn findIn findIn
      by_cases h : k' = k <;> simp [h]
  | x :: r => by
      unfold putIn
      by_cases h1 : x.1 = k'
      · simp only [if_pos h1, findIn]
        by_cases h2 : k' = k
        · simp [h2]
        · have : ¬ x.1 = k := fun e => h2 (h1 ▸ e)
          simp [h2, this]
      · simp only [if_neg h1, findIn]
        rw [find_put k k' v r]
        by_cases h2 : x.1 = k
        · have : ¬ k' = k := fun e => h1 (h2.trans e.symm)
          simp [h2, this]
        · simp [h2]
theorem wp_map {R : Type} {Q : R → Prop} {h : Heap} {l : Nat} {es : List (ByteArray × AV)} (hh : h[l]? = some (.map es)) {K : Nat → List (ByteArray × AV) → Option R} (k : WP (K l es) Q) : WP (mapAtK h (.map l) K) Q := by
  unfold mapAtK
  dsimp only
  rw [hh]
  exact k
/-- Names, each once, up to a place. -/
def namesUp (l : List node.den) : Nat → Bool
  | 0 => true
  | i + 1 => namesUp l i && (match l[i]? with | some x => isName x.1 && !((l.take i).any fun y => decide (y.1 = x.1)) | none => true)
theorem namesUp_false {l : List node.den} {i : Nat} (h : namesUp l i = false) : ∀ {j : Nat}, i ≤ j → namesUp l j = false := fun {j} hj => by
  induction j with
  | zero => exact (Nat.le_zero.1 hj) ▸ h
  | succ j ih =>
    rcases Nat.eq_or_lt_of_le hj with e | e
    · exact e ▸ h
    · rw [namesUp, ih (by omega)]; rfl
section
variable {h : Heap}
theorem graph_names {vl : AV} {l : List node.den} (hl : In h nodes l [vl]) (b : Nat) (hb : b ≤ h.length) :
    WP (call prog b 103 [vl] h) fun r => Old h.length h r.2 ∧ r.1 = .bool (namesUp l l.length) := by
  obtain ⟨dl, sl, cl, bl⟩ := hl.nodes
  refine wp_enter (fn := C.graph_names) rfl ?_
  dsimp only [bodyN, C.graph_names, C.graph_names_l0]; simp
  refine wp_len (sl.old (Old.app (t := [AObj.map []])) (Nat.le_refl _)) ?_
  try simp
  refine wp_loop (I := fun m e h' => Old h.length h h' ∧ ∃ i es, e = (ea 3 (.map h.length) <| ea 7 vl <| ea 8 (.int .i64 l.length) <| ea 9 (.int .i64 (i : Nat)) e0) ∧ i + m = l.length ∧ h'[h.length]? = some (.map es) ∧ namesUp l i = true ∧ ∀ k, findIn k es = if (l.take i).any (fun y => decide (y.1 = k)) = true then some (.bool true) else none) ?_ ⟨Old.app, 0, [], rfl, Nat.zero_add _, by simp, rfl, fun k => by simp [findIn]⟩
  rintro N m e h' ⟨old, i, es, rfl, him, hmap, hok, hfind⟩ next
  have sl' := sl.old old (Nat.le_refl _)
  have ho := old.1
  dsimp only [C.graph_names_b0]; simp
  refine wp_dec (fun hi => ?_) fun hi => ?_
  · try simp
    obtain ⟨a, d, e, ha, hd, hn⟩ := cl i hi
    refine wp_idx sl' rfl hi ?_
    try simp
    refine wp_elem sl' hi e ?_
    try simp
    refine wp_init (Nat.le_trans hb ho) (by rfl) (by rfl) ?_
    try simp
    generalize hh : h' ++ [AObj.cells 0 1 [AV.str l[i].fst, AV.int IntKind.i64 l[i].snd.fst, a, d, AV.int IntKind.i64 l[i].snd.snd.snd.snd]] = h1
    have o1 : Old h'.length h' h1 := hh ▸ Old.app
    have hbx : h1[h'.length]? = some (.cells 0 1 [AV.str l[i].fst, AV.int IntKind.i64 l[i].snd.fst, a, d, AV.int IntKind.i64 l[i].snd.snd.snd.snd]) := by rw [← hh]; simp
    have hmlt := (List.getElem?_eq_some_iff.1 hmap).1
    have hkey : namesUp l (i + 1) = (isName l[i].1 && !((l.take i).any fun y => decide (y.1 = l[i].1))) := by
      rw [namesUp, hok, List.getElem?_eq_getElem hi]
      rfl
    obtain ⟨_, _, _, _, _, _, _, hns⟩ := hn.node
    refine wp_ptr1 hbx rfl ?_
    try simp
    refine wp_call (word_IsName (h := h1) hns b (Nat.le_trans hb (Nat.le_trans ho o1.1))) fun v2 h2 ⟨o2, e2⟩ => ?_
    simp only at o2 e2
    subst e2
    have hlt1 : h'.length < h1.length := (List.getElem?_eq_some_iff.1 hbx).1
    have o12 : Old h'.length h' h2 := o1.trans (o2.mono o1.1)
    have oh2 : Old h.length h h2 := old.trans (o12.mono ho)
    have hbx2 := (o2.2 _ hlt1).trans hbx
    have hmap2 := (o12.2 _ hmlt).trans hmap
    try simp
    refine wp_iteK (fun hq => wp_some ⟨oh2, ?_⟩) fun hq => ?_
    · rw [Bool.not_eq_true'] at hq
      rw [hq, Bool.false_and] at hkey
      rw [namesUp_false hkey hi]
    rw [Bool.not_eq_false'] at hq
    try simp
    refine wp_ptr1 hbx2 rfl ?_
    try simp
    refine wp_map hmap2 ?_
    try simp
    rw [hfind l[i].1]
    cases hs : (l.take i).any fun y => decide (y.1 = l[i].1) with
    | true =>
      simp
      refine wp_some ⟨oh2, ?_⟩
      rw [hs, Bool.not_true, Bool.and_false] at hkey
      rw [namesUp_false hkey hi]
    | false =>
      simp
      refine wp_ptr1 hbx2 rfl ?_
      try simp
      refine wp_map hmap2 ?_
      try simp
      refine wp_guard hb ?_
      try simp
      refine wp_guard rfl ?_
      rw [succ64 hi bl]
      have hmlt2 := (List.getElem?_eq_some_iff.1 hmap2).1
      refine next (m - 1) _ _ (by omega) ⟨oh2.trans (Old.set oh2.1 (Nat.le_refl _)), i + 1, _, rfl, by omega, List.getElem?_set_self hmlt2, by rw [hkey, hq, hs]; rfl, fun k => ?_⟩
      rw [find_put, hfind k, take_succ_app hi, List.any_append]
      simp only [List.any_cons, List.any_nil, Bool.or_false]
      by_cases hk : l[i].1 = k
      · rw [if_pos hk, decide_eq_true hk, Bool.or_true, if_pos rfl]
      · rw [if_neg hk, decide_eq_false hk, Bool.or_false]
  · try simp
    have : i = l.length := by omega
    subst this
    exact wp_some ⟨old, by rw [hok]⟩
theorem graph_Is_1 {x : node.den} {cs : List AV} (hx : In h node x cs) (b : Nat) :
    WP (call prog b 104 [.agg cs] h) fun r => Old h.length h r.2 ∧ r.1 = .bool (decide (15 < x.2.1) || (decide (x.2.2.2.2 < -1073741824) || decide (1073741824 < x.2.2.2.2))) := by
  obtain ⟨a, d, rfl, _⟩ := hx.node
  refine wp_enter (fn := C.graph_Is_1) rfl ?_
  dsimp only [bodyN, C.graph_Is_1]; simp
  refine wp_new1 rfl ?_
  try simp
  refine wp_dec (fun h1 => wp_some ⟨Old.app, by simp [h1]⟩) fun h1 => ?_
  try simp
  refine wp_new1 rfl ?_
  try simp
  refine wp_dec (fun h2 => wp_some ⟨Old.app, by simp [h1, h2]⟩) fun h2 => ?_
  try simp
  refine wp_new1 rfl ?_
  try simp
  exact wp_some ⟨Old.app, by simp [h1, h2]⟩
/-- A test that makes memory of its own. -/
def Tests (g : Nat) (cap : List AV) (h : Heap) (x : AV) (q : Bool) : Prop := ∀ b h', b ≤ h'.length → Old h.length h h' → WP (call prog b g (x :: cap) h') fun r => Old h'.length h' r.2 ∧ r.1 = .bool q
theorem slices_IndexFunc_NodeM {v : AV} {ds : List AV} {bs : List Bool} (hs : SliceAt (fun l => l < h.length) h v 5 bs.length ds) {cs : Nat → List AV} (hc : ∀ i, i < bs.length → (ds.drop (i * 5)).take 5 = cs i) {g : Nat} {cap : List AV} (b : Nat) (hb0 : b ≤ h.length) (hf : ∀ (i : Nat) (hi : i < bs.length), Tests g cap h (.agg (cs i)) bs[i]) :
    WP (call prog b 130 [v, .fn g cap] h) fun r => Old h.length h r.2 ∧ r.1 = .int .i64 (idxFrom 0 bs) := by
  have hb := hs.1
  refine wp_enter (fn := C.slices_IndexFunc_Node) rfl ?_
  dsimp only [bodyN, C.slices_IndexFunc_Node, C.slices_IndexFunc_Node_l0]; simp
  refine wp_len hs ?_
  try simp
  refine wp_loop (I := fun m e h' => Old h.length h h' ∧ ∃ i, e = (ea 0 v <| ea 1 (.fn g cap) <| ea 7 (.int .i64 bs.length) <| ea 8 (.int .i64 (i : Nat)) e0) ∧ i + m = bs.length ∧ idxFrom 0 bs = idxFrom i (bs.drop i)) ?_ ⟨Old.refl (Nat.le_refl _), 0, rfl, Nat.zero_add _, rfl⟩
  rintro N m e h' ⟨old, i, rfl, him, heq⟩ next
  have hs' := hs.old old (Nat.le_refl _)
  dsimp only [C.slices_IndexFunc_Node_b0]; simp
  refine wp_dec (fun hi => ?_) fun hi => ?_
  · try simp
    refine wp_idx hs' rfl hi ?_
    try simp
    refine wp_elem hs' hi (hc i hi) ?_
    try simp
    refine wp_call (hf i hi b h' (Nat.le_trans hb0 old.1) old) fun v2 h2 ⟨o2, e2⟩ => ?_
    simp only at o2 e2
    subst e2
    have o12 := old.trans (o2.mono old.1)
    rw [idxFrom_drop hi] at heq
    try simp
    refine wp_iteK (fun hn => ?_) fun hn => ?_
    · refine wp_some ⟨o12, ?_⟩
      rw [heq, if_pos hn]
    · try simp
      rw [succ64 hi hb]
      refine next (m - 1) _ _ (by omega) ⟨o12, i + 1, rfl, by omega, ?_⟩
      rw [heq, if_neg (by simp [hn])]
  · refine wp_some ⟨old, ?_⟩
    rw [heq, List.drop_of_length_le (by omega)]
    rfl
theorem slices_ContainsFunc_NodeM {v : AV} {ds : List AV} {bs : List Bool} (hs : SliceAt (fun l => l < h.length) h v 5 bs.length ds) {cs : Nat → List AV} (hc : ∀ i, i < bs.length → (ds.drop (i * 5)).take 5 = cs i) {g : Nat} {cap : List AV} (b : Nat) (hb0 : b ≤ h.length) (hf : ∀ (i : Nat) (hi : i < bs.length), Tests g cap h (.agg (cs i)) bs[i]) :
    WP (call prog b 105 [v, .fn g cap] h) fun r => Old h.length h r.2 ∧ r.1 = .bool (bs.any id) := by
  refine wp_enter (fn := C.slices_ContainsFunc_Node) rfl ?_
  dsimp only [bodyN, C.slices_ContainsFunc_Node]; simp
  refine wp_call (slices_IndexFunc_NodeM hs hc b hb0 hf) fun v2 h2 ⟨o2, e2⟩ => ?_
  simp only at o2 e2
  subst e2
  try simp
  exact wp_some ⟨o2, by rw [idxFrom_any]⟩
/-- A node that is none of a graph's. -/
def nodeBad (x : node.den) : Bool := decide (15 < x.2.1) || (decide (x.2.2.2.2 < -1073741824) || decide (1073741824 < x.2.2.2.2))
/-- A graph? -/
def isL (l : List node.den) : Bool :=
  decide (1 ≤ l.length) && decide (l.length ≤ 24) && mayL l && namesUp l l.length && !(l.any nodeBad) && decide (prodW (((l[l.length - 1]?).map (·.2.2.2.1)).getD []) = 1)
theorem graph_Is {vl : AV} {l : List node.den} (hl : In h nodes l [vl]) (hsm : Small l) (b : Nat) (hb : b ≤ h.length) :
    WP (call prog b 68 [vl] h) fun r => Old h.length h r.2 ∧ r.1 = .bool (isL l) := by
  obtain ⟨dl, sl, cl, bl⟩ := hl.nodes
  refine wp_enter (fn := C.graph_Is) rfl ?_
  dsimp only [bodyN, C.graph_Is]; simp
  refine wp_len sl ?_
  try simp
  refine wp_dec (fun h1 => wp_some ⟨Old.refl (Nat.le_refl _), ?_⟩) fun h1 => ?_
  · have : ¬ 1 ≤ l.length := by omega
    simp [isL, this]
  try simp
  refine wp_len sl ?_
  try simp
  refine wp_dec (fun h2 => wp_some ⟨Old.refl (Nat.le_refl _), ?_⟩) fun h2 => ?_
  · have : ¬ l.length ≤ 24 := by omega
    simp [isL, this]
  try simp
  refine wp_call (graph_May hl hsm b hb) fun v3 h3 ⟨o3, e3⟩ => ?_
  simp only at o3 e3
  subst e3
  try simp
  refine wp_iteK (fun hm => wp_some ⟨o3, ?_⟩) fun hm => ?_
  · rw [Bool.not_eq_true'] at hm
    simp [isL, hm]
  rw [Bool.not_eq_false'] at hm
  try simp
  refine wp_call (graph_names (In.old o3 hl) b (Nat.le_trans hb o3.1)) fun v4 h4 ⟨o4, e4⟩ => ?_
  simp only at o4 e4
  subst e4
  have o34 := o3.trans (o4.mono o3.1)
  try simp
  refine wp_iteK (fun hn => wp_some ⟨o34, ?_⟩) fun hn => ?_
  · rw [Bool.not_eq_true'] at hn
    simp [isL, hn]
  rw [Bool.not_eq_false'] at hn
  try simp
  have sl4 : SliceAt (fun j => j < h4.length) h4 vl 5 (l.map nodeBad).length dl := by
    rw [List.length_map]
    exact (sl.old o34 (Nat.le_refl _)).mono fun j hj => Nat.lt_of_lt_of_le hj o34.1
  refine wp_call (slices_ContainsFunc_NodeM (g := 104) (cap := []) sl4 (cs := fun i => (dl.drop (i * 5)).take 5) (fun _ _ => rfl) b (Nat.le_trans hb o34.1) (fun i hi b' h' hb' old' => by
    have hi : i < l.length := by simpa using hi
    obtain ⟨a, d, e, _, _, hn⟩ := cl i hi
    have := graph_Is_1 (In.old (o34.trans (old'.mono o34.1)) hn) b'
    simp only [List.getElem_map]
    rw [e]
    exact this)) fun v5 h5 ⟨o5, e5⟩ => ?_
  simp only at o5 e5
  subst e5
  have o345 := o34.trans (o5.mono o34.1)
  rw [List.any_map, show (id ∘ nodeBad) = nodeBad from rfl]
  try simp
  have h1' : decide (1 ≤ l.length) = true := by simp; omega
  have h2' : decide (l.length ≤ 24) = true := by simp; omega
  refine wp_iteK (fun hq => ?_) fun hq => wp_some ⟨o345, ?_⟩
  · rw [Bool.not_eq_true'] at hq
    have hi : l.length - 1 < l.length := by omega
    have hw : IntKind.i64.wrap ((l.length : Int) - 1) = ((l.length - 1 : Nat) : Int) := by rw [w64_id (by omega) (by omega)]; omega
    have sl5 := sl.old o345 (Nat.le_refl _)
    obtain ⟨a, d, e, _, hd, _⟩ := cl (l.length - 1) hi
    try simp
    refine wp_len sl5 ?_
    try simp
    rw [hw]
    refine wp_idx sl5 rfl hi ?_
    try simp
    refine wp_cell sl5 hi e rfl ?_
    try simp
    rw [callK_eq (shape_Product (In.old o345 hd) b)]
    try simp
    refine wp_some ⟨o345, ?_⟩
    rw [isL, h1', h2', hm, hn, hq, List.getElem?_eq_getElem hi]
    rfl
  · rw [Bool.not_eq_false'] at hq
    simp [isL, hq]
theorem graph_Check {vl : AV} {l : List node.den} (hl : In h nodes l [vl]) (hsm : Small l) (b : Nat) (hb : b ≤ h.length) :
    WP (call prog b 10 [vl] h) fun r => Old h.length h r.2 ∧ r.1 = .int .i64 (if isL l = true then 0 else 1) := by
  refine wp_enter (fn := C.graph_Check) rfl ?_
  dsimp only [bodyN, C.graph_Check]; simp
  refine wp_call (graph_Is hl hsm b hb) fun v3 h3 ⟨o3, e3⟩ => ?_
  simp only at o3 e3
  subst e3
  try simp
  refine wp_iteK (fun hm => wp_some ⟨o3, ?_⟩) fun hm => ?_
  · rw [Bool.not_eq_true'] at hm
    simp [hm]
  · rw [Bool.not_eq_false'] at hm
    try simp
    exact wp_some ⟨o3, by simp [hm]⟩
end
end Go.AM
