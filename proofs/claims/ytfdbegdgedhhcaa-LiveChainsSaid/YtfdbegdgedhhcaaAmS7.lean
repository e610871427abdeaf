/- Lists of nodes: what would be one more's dims; which may be. -/
import Derived.Test.YtfdbegdgedhhcaaAmS6
set_option linter.all false
namespace Go.AM
set_option maxRecDepth 20000
/-- The dims of a node's. -/
def dimsAt (l : List node.den) (a : Int) : List Int := ((l[a.toNat]?).map (·.2.2.2.1)).getD []
def argsOk (n : Nat) (args : List Int) : Bool := args.all fun a => decide (0 ≤ a) && decide (a < (n : Int))
/-- One more node's dims behind these, or the error. -/
def inferL (l : List node.den) (k n : Int) (d : List Int) (args : List Int) : List Int × Int :=
  if argsOk l.length args = true then inferE k n d (args.map (dimsAt l)) else ([], 1)
section
variable {h : Heap}
theorem ref7_DimsOf {vl va : AV} {l : List node.den} {args : List Int} (hl : In h nodes l [vl]) (ha : In h ints args [va]) (hok : argsOk l.length args = true) (hsz : args.length * 24 ≤ 140737488355328) (b : Nat) (hb : b ≤ h.length) :
    WP (call prog b 63 [vl, va] h) fun r => Old h.length h r.2 ∧ AccP 0 h.length r.2 ints r.1 (args.map (dimsAt l)) := by
  obtain ⟨dl, sl, cl, bl⟩ := hl.nodes
  obtain ⟨da, sa, ca, ra, ba⟩ := ha.ints
  refine wp_enter (fn := C.ref7_DimsOf) rfl ?_
  dsimp only [bodyN, C.ref7_DimsOf, C.ref7_DimsOf_l0]; simp
  refine wp_loop (I := fun m e h' => Old h.length h h' ∧ ∃ i v, e = (ea 0 vl <| ea 1 va <| ea 5 v <| ea 6 (.int .i64 (i : Nat)) e0) ∧ i + m = args.length ∧ AccP 0 h.length h' ints v ((args.take i).map (dimsAt l))) ?_ ⟨Old.refl (Nat.le_refl _), 0, .nil, rfl, Nat.zero_add _, AccP.nil⟩
  rintro N m e h' ⟨old, i, v, rfl, him, acc⟩ next
  have sa' := sa.old old (Nat.le_refl _)
  have sl' := sl.old old (Nat.le_refl _)
  have ho := old.1
  dsimp only [C.ref7_DimsOf_b0]; simp [layAt]
  refine wp_len sa' ?_
  try simp
  refine wp_dec (fun hi => ?_) fun hi => ?_
  · try simp
    refine wp_idx sa' rfl hi ?_
    try simp
    refine wp_cell sa' hi (ca i hi) rfl ?_
    try simp
    have hr : 0 ≤ args[i] ∧ args[i] < l.length := by
      have := List.all_eq_true.1 hok args[i] (List.getElem_mem hi)
      simpa using this
    obtain ⟨j, hj⟩ : ∃ j : Nat, args[i] = (j : Int) := ⟨args[i].toNat, by omega⟩
    have hjl : j < l.length := by omega
    obtain ⟨a, d, e, _, hd, _⟩ := cl j hjl
    refine wp_idx sl' hj hjl ?_
    try simp
    refine wp_cell sl' hjl e rfl ?_
    try simp
    refine wp_cells hd.one1 ?_
    simp [layAt]
    have acc2 := acc.keep (h' := h' ++ [AObj.cells 0 1 [d]]) Old.app
    have o2 : Old h.length h (h' ++ [AObj.cells 0 1 [d]]) := old.trans (Old.app.mono ho)
    refine wp_push (x := dimsAt l args[i]) (bytes := 24) acc2 (Holds.beside (by rw [hj]; simpa [dimsAt, List.getElem?_eq_getElem hjl] using hd) acc2 o2) rfl hb (by simp; omega) (by simp; omega) (by simp; omega) fun a' h2 _ o3 acc' => ?_
    try simp
    rw [succ64 hi ba]
    exact next (m - 1) _ _ (by omega) ⟨o2.trans o3, i + 1, _, rfl, by omega, by rw [map_take_succ _ hi]; exact acc'⟩
  · refine wp_some ⟨old, ?_⟩
    rwa [List.take_of_length_le (by omega)] at acc
theorem graph_infer {vd vl va : AV} {k n : Int} {d : List Int} {l : List node.den} {args : List Int} (hd : In h ints d [vd]) (hl : In h nodes l [vl]) (ha : In h ints args [va]) (hsz : args.length * 24 ≤ 140737488355328) (b : Nat) (hb : b ≤ h.length) :
    WP (call prog b 62 [.int .i64 k, .int .i64 n, vd, vl, va] h) fun r => Old h.length h r.2 ∧ ∃ v', r.1 = .tup [v', .int .i64 (inferL l k n d args).2] ∧ AccP h.length h.length r.2 int v' (inferL l k n d args).1 := by
  obtain ⟨dl, sl, cl, bl⟩ := hl.nodes
  obtain ⟨da, sa, ca, ra, ba⟩ := ha.ints
  refine wp_enter (fn := C.graph_infer) rfl ?_
  dsimp only [bodyN, C.graph_infer, C.graph_infer_l0]; simp
  refine wp_len sa ?_
  try simp
  refine wp_loop (I := fun m e h' => Old h.length h h' ∧ ∃ i v, e = (ea 0 (.int .i64 k) <| ea 1 (.int .i64 n) <| ea 2 vd <| ea 3 vl <| ea 12 v <| ea 15 va <| ea 16 (.int .i64 args.length) <| ea 17 (.int .i64 (i : Nat)) e0) ∧ i + m = args.length ∧ argsOk l.length (args.take i) = true ∧ AccP 0 h.length h' ints v ((args.take i).map (dimsAt l))) ?_ ⟨Old.refl (Nat.le_refl _), 0, .nil, rfl, Nat.zero_add _, rfl, AccP.nil⟩
  rintro N m e h' ⟨old, i, v, rfl, him, hok, acc⟩ next
  have sa' := sa.old old (Nat.le_refl _)
  have sl' := sl.old old (Nat.le_refl _)
  have ho := old.1
  dsimp only [C.graph_infer_b0]; simp [layAt]
  refine wp_dec (fun hi => ?_) fun hi => ?_
  · try simp
    refine wp_idx sa' rfl hi ?_
    try simp
    refine wp_cell sa' hi (ca i hi) rfl ?_
    try simp
    have bad : ¬ (0 ≤ args[i] ∧ args[i] < (l.length : Int)) → inferL l k n d args = ([], 1) := fun hn => by
      have : argsOk l.length args = false := by
        rw [argsOk, List.all_eq_false]
        refine ⟨args[i], List.getElem_mem hi, ?_⟩
        simp at hn ⊢
        omega
      simp [inferL, this]
    refine wp_dec (fun h1 => wp_some ⟨old, .nil, by rw [bad (by omega)], by rw [bad (by omega)]; exact AccP.nil⟩) fun h1 => ?_
    refine wp_len sl' ?_
    try simp
    refine wp_dec (fun h2 => wp_some ⟨old, .nil, by rw [bad (by omega)], by rw [bad (by omega)]; exact AccP.nil⟩) fun h2 => ?_
    try simp
    obtain ⟨j, hj⟩ : ∃ j : Nat, args[i] = (j : Int) := ⟨args[i].toNat, by omega⟩
    have hjl : j < l.length := by omega
    obtain ⟨a, dd, e, _, hdd, _⟩ := cl j hjl
    refine wp_idx sl' hj hjl ?_
    try simp
    refine wp_cell sl' hjl e rfl ?_
    try simp
    refine wp_cells hdd.one1 ?_
    simp [layAt]
    have acc2 := acc.keep (h' := h' ++ [AObj.cells 0 1 [dd]]) Old.app
    have o2 : Old h.length h (h' ++ [AObj.cells 0 1 [dd]]) := old.trans (Old.app.mono ho)
    refine wp_push (x := dimsAt l args[i]) (bytes := 24) acc2 (Holds.beside (by rw [hj]; simpa [dimsAt, List.getElem?_eq_getElem hjl] using hdd) acc2 o2) rfl hb (by simp; omega) (by simp; omega) (by simp; omega) fun a' h2 _ o3 acc' => ?_
    try simp
    rw [succ64 hi ba]
    exact next (m - 1) _ _ (by omega) ⟨o2.trans o3, i + 1, _, rfl, by omega, by
      rw [take_succ_app hi, argsOk, List.all_append]
      rw [argsOk] at hok
      rw [hok]
      simp
      omega, by rw [map_take_succ _ hi]; exact acc'⟩
  · rw [List.take_of_length_le (by omega)] at acc hok
    try simp
    have hli : In h' (.slice ints) (args.map (dimsAt l)) [v] := (acc.holds (Nat.zero_le _)).mono fun j hj => hj.2
    refine wp_call (kernel_Dims (In.old old hd) hli b (Nat.le_trans hb ho)) fun v1 h1 ⟨o1, v', e1, a1⟩ => ?_
    simp only at o1 e1 a1
    subst e1
    try simp
    refine wp_some ⟨old.trans (o1.mono ho), v', by simp [inferL, hok], ?_⟩
    rw [inferL, if_pos hok]
    exact a1.mono ho ho
/-- May a node be behind these? -/
def nodeOk (l : List node.den) (x : node.den) : Bool := decide (inferL l x.2.1 x.2.2.2.2 (if asked x.2.1 = true then x.2.2.2.1 else []) x.2.2.1 = (x.2.2.2.1, 0))
/-- May these be, up to one? -/
def allOk (l : List node.den) : Nat → Bool
  | 0 => true
  | i + 1 => allOk l i && (match l[i]? with | some x => nodeOk (l.take i) x | none => true)
theorem allOk_false {l : List node.den} {i : Nat} (h : allOk l i = false) : ∀ {j : Nat}, i ≤ j → allOk l j = false := fun {j} hj => by
  induction j with
  | zero => exact (Nat.le_zero.1 hj) ▸ h
  | succ j ih =>
    rcases Nat.eq_or_lt_of_le hj with e | e
    · exact e ▸ h
    · rw [allOk, ih (by omega)]; rfl
/-- May these be nodes? -/
def mayL (l : List node.den) : Bool := decide (l.length ≤ 240) && allOk l l.length
/-- Nothing is too long. -/
def Small (l : List node.den) : Prop := ∀ x ∈ l, x.2.2.1.length * 24 ≤ 140737488355328 ∧ x.2.2.2.1.length * 24 ≤ 140737488355328
theorem graph_May {vl : AV} {l : List node.den} (hl : In h nodes l [vl]) (hs : Small l) (b : Nat) (hb : b ≤ h.length) :
    WP (call prog b 61 [vl] h) fun r => Old h.length h r.2 ∧ r.1 = .bool (mayL l) := by
  obtain ⟨dl, sl, cl, bl⟩ := hl.nodes
  refine wp_enter (fn := C.graph_May) rfl ?_
  dsimp only [bodyN, C.graph_May, C.graph_May_l0]; simp
  refine wp_len sl ?_
  try simp
  refine wp_dec (fun h1 => wp_some ⟨Old.refl (Nat.le_refl _), ?_⟩) fun h1 => ?_
  · have : ¬ l.length ≤ 240 := by omega
    simp [mayL, this]
  refine wp_len sl ?_
  try simp
  have hm : mayL l = allOk l l.length := by
    have : l.length ≤ 240 := by omega
    simp [mayL, this]
  refine wp_loop (I := fun m e h' => Old h.length h h' ∧ ∃ i, e = (ea 0 vl <| ea 10 vl <| ea 11 (.int .i64 l.length) <| ea 12 (.int .i64 (i : Nat)) e0) ∧ i + m = l.length ∧ allOk l i = true) ?_ ⟨Old.refl (Nat.le_refl _), 0, rfl, Nat.zero_add _, rfl⟩
  rintro N m e h' ⟨old, i, rfl, him, hok⟩ next
  have sl' := sl.old old (Nat.le_refl _)
  have ho := old.1
  dsimp only [C.graph_May_b0]; simp
  refine wp_dec (fun hi => ?_) fun hi => ?_
  · try simp
    obtain ⟨a, d, e, ha, hd, hn⟩ := cl i hi
    refine wp_idx sl' rfl hi ?_
    try simp
    refine wp_elem sl' hi e ?_
    try simp
    refine wp_init (Nat.le_trans hb ho) (by rfl) (by rfl) ?_
    try simp
    generalize hh : h' ++ [AObj.cells 0 1 [AV.str l[i].fst, AV.int IntKind.i64 l[i].snd.fst, a, d, AV.int IntKind.i64 l[i].snd.snd.snd.snd]] = h1
    have o1 : Old h.length h h1 := hh ▸ old.trans (Old.app.mono ho)
    have hbx : h1[h'.length]? = some (.cells 0 1 [AV.str l[i].fst, AV.int IntKind.i64 l[i].snd.fst, a, d, AV.int IntKind.i64 l[i].snd.snd.snd.snd]) := by rw [← hh]; simp
    refine wp_ptr1 hbx rfl ?_
    try simp
    refine wp_ptr1 hbx rfl ?_
    try simp
    refine wp_ptrs hbx (by simp) ?_
    try simp
    refine wp_call (graph_Asked (x := l[i]) (In.old o1 hn) _ (Nat.le_refl _)) fun v2 h2 ⟨o2, d2⟩ => ?_
    simp only at o2 d2
    try simp
    have o12 := o1.trans (o2.mono o1.1)
    have sl2 := sl.old o12 (Nat.le_refl _)
    refine wp_len sl2 ?_
    try simp
    refine wp_guard (by omega) ?_
    try simp
    refine wp_cut (p := node) (l := l) (In.old o12 hl) rfl (Nat.zero_le i) (by omega) rfl rfl fun v3 h3 => ?_
    try simp
    have hlt : h'.length < h1.length := (List.getElem?_eq_some_iff.1 hbx).1
    have hbx2 := (o2.2 _ hlt).trans hbx
    refine wp_ptr1 hbx2 rfl ?_
    try simp
    have hsz := (hs l[i] (List.getElem_mem hi)).1
    refine wp_call (graph_infer (l := (l.drop 0).take (i - 0)) (args := l[i].2.2.1) (In.old o2 d2) h3 (In.old o12 ha) hsz _ (Nat.le_refl _)) fun v4 h4 ⟨o4, v5, e4, a4⟩ => ?_
    simp only [List.drop_zero, Nat.sub_zero] at o4 e4 a4
    subst e4
    try simp
    have o124 := o12.trans (o4.mono o12.1)
    have hkey : allOk l (i + 1) = nodeOk (l.take i) l[i] := by
      rw [allOk, hok, List.getElem?_eq_getElem hi]
      rfl
    have bad : nodeOk (l.take i) l[i] = false → mayL l = false := fun hn => by
      rw [hm]
      exact allOk_false (hkey.trans hn) hi
    refine wp_ndec (fun hne => wp_some ⟨o124, ?_⟩) fun heq => ?_
    · have : nodeOk (l.take i) l[i] = false := by
        rw [nodeOk, decide_eq_false_iff_not]
        intro e
        rw [e] at hne
        exact hne rfl
      rw [bad this]
    · have hbx4 := (o4.2 _ (Nat.lt_of_lt_of_le hlt o2.1)).trans hbx2
      try simp
      refine wp_ptr1 hbx4 rfl ?_
      try simp
      have hi5 := (a4.holds (Nat.le_refl _)).mono (T := fun j => j < h4.length) fun j hj => hj.2
      rw [callK_eq (slices_Equal_int hi5 (In.old o124 hd) b)]
      try simp
      refine wp_ndec (fun hne => wp_some ⟨o124, ?_⟩) fun hed => ?_
      · have : nodeOk (l.take i) l[i] = false := by
          rw [nodeOk, decide_eq_false_iff_not]
          intro e
          rw [e] at hne
          exact hne rfl
        rw [bad this]
      · try simp
        rw [succ64 hi bl]
        exact next (m - 1) _ _ (by omega) ⟨o124, i + 1, rfl, by omega, by
          rw [hkey, nodeOk, decide_eq_true_eq]
          exact Prod.ext hed heq⟩
  · try simp
    have : i = l.length := by omega
    subst this
    exact wp_some ⟨old, by rw [hm, hok]⟩
theorem graph_Infer {vd vl va : AV} {k n : Int} {d : List Int} {l : List node.den} {args : List Int} (hd : In h ints d [vd]) (hl : In h nodes l [vl]) (ha : In h ints args [va]) (hs : Small l) (hsz : args.length * 24 ≤ 140737488355328) (b : Nat) (hb : b ≤ h.length) :
    WP (call prog b 2 [.int .i64 k, .int .i64 n, vd, vl, va] h) fun r => Old h.length h r.2 ∧ ∃ v', r.1 = .tup [v', .int .i64 (if mayL l = true then (inferL l k n d args).2 else 1)] ∧ AccP h.length h.length r.2 int v' (if mayL l = true then (inferL l k n d args).1 else []) := by
  refine wp_enter (fn := C.graph_Infer) rfl ?_
  dsimp only [bodyN, C.graph_Infer]; simp
  refine wp_call (graph_May hl hs b hb) fun v1 h1 ⟨o1, e1⟩ => ?_
  simp only at o1 e1
  subst e1
  try simp
  refine wp_iteK (fun hm => ?_) fun hm => ?_
  · try simp
    simp only [Bool.not_eq_true'] at hm
    exact wp_some ⟨o1, .nil, by simp [hm], by simp [hm]; exact AccP.nil⟩
  · try simp
    simp only [Bool.not_eq_false'] at hm
    refine wp_call (graph_infer (In.old o1 hd) (In.old o1 hl) (In.old o1 ha) hsz b (Nat.le_trans hb o1.1)) fun v2 h2 ⟨o2, v', e2, a2⟩ => ?_
    simp only at o2 e2 a2
    subst e2
    try simp
    refine wp_some ⟨o1.trans (o2.mono o1.1), v', by simp [hm], ?_⟩
    rw [if_pos hm]
    exact a2.mono o1.1 o1.1
end
end Go.AM
