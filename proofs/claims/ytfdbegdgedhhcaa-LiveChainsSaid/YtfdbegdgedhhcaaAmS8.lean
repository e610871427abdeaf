/- The page's own: which nodes may be. -/
import Derived.Test.YtfdbegdgedhhcaaAmS7
set_option linter.all false
namespace Go.AM
set_option maxRecDepth 20000
section
variable {h : Heap}
theorem ref7_Infer {vd vl va : AV} {k n : Int} {d : List Int} {l : List node.den} {args : List Int} (hd : In h ints d [vd]) (hl : In h nodes l [vl]) (ha : In h ints args [va]) (hsz : args.length * 24 ≤ 140737488355328) (b : Nat) (hb : b ≤ h.length) :
    WP (call prog b 3 [.int .i64 k, .int .i64 n, vd, vl, va] h) fun r => Old h.length h r.2 ∧ ∃ v', r.1 = .tup [v', .int .i64 (inferL l k n d args).2] ∧ ((inferL l k n d args).2 = 0 → AccP h.length h.length r.2 int v' (inferL l k n d args).1) := by
  obtain ⟨dl, sl, cl, bl⟩ := hl.nodes
  refine wp_enter (fn := C.ref7_Infer) rfl ?_
  dsimp only [bodyN, C.ref7_Infer]; simp
  refine wp_len sl ?_
  try simp
  rw [callK_eq (ref7_Args ha (l.length : Int) (by omega) b)]
  try simp
  refine wp_iteK (fun hn => ?_) fun hn => ?_
  · have : argsOk l.length args = false := by rw [Bool.not_eq_true'] at hn; exact hn
    exact wp_some ⟨Old.refl (Nat.le_refl _), .nil, by simp [inferL, this], fun _ => by simp [inferL, this]; exact AccP.nil⟩
  have hok : argsOk l.length args = true := by rw [Bool.not_eq_false'] at hn; exact hn
  have hin : inferL l k n d args = inferE k n d (args.map (dimsAt l)) := by simp [inferL, hok]
  rw [hin]
  try simp
  refine wp_call (ref7_DimsOf hl ha hok hsz b hb) fun v1 h1 ⟨o1, a1⟩ => ?_
  simp only at o1 a1
  have hli : In h1 (.slice ints) (args.map (dimsAt l)) [v1] := (a1.holds (Nat.zero_le _)).mono fun j hj => hj.2
  try simp
  rw [callK_eq (ref1_May (In.old o1 hd) hli b)]
  try simp
  refine wp_iteK (fun hf => ?_) fun hf => ?_
  · try simp
    simp only [Bool.not_eq_true'] at hf
    exact wp_some ⟨o1, .nil, by simp [inferE, hf], fun _ => by simp [inferE, hf]; exact AccP.nil⟩
  simp only [Bool.not_eq_false'] at hf
  try simp
  refine wp_call (ref7_DimsOf (In.old o1 hl) (In.old o1 ha) hok hsz b (Nat.le_trans hb o1.1)) fun v2 h2 ⟨o2, a2⟩ => ?_
  simp only at o2 a2
  have o12 := o1.trans (o2.mono o1.1)
  have hli2 : In h2 (.slice ints) (args.map (dimsAt l)) [v2] := (a2.holds (Nat.zero_le _)).mono fun j hj => hj.2
  try simp
  refine wp_call (ref1_Infer (In.old o12 hd) hli2 hf b (Nat.le_trans hb o12.1)) fun v3 h3 ⟨o3, v4, e4, a4⟩ => ?_
  simp only at o3 e4 a4
  subst e4
  have o123 := o12.trans (o3.mono o12.1)
  try simp
  cases hx : inferD k n d (args.map (dimsAt l)) with
  | none =>
    simp
    exact wp_some ⟨o123, .nil, by simp [inferE, hf, hx], fun e => by simp [inferE, hf, hx] at e⟩
  | some x =>
    rw [hx] at a4
    simp
    exact wp_some ⟨o123, v4, by simp [inferE, hf, hx], fun _ => by simpa [inferE, hf, hx] using (a4 rfl).mono o12.1 o12.1⟩
theorem argsOk_mono {n m : Nat} (h : n ≤ m) {args : List Int} (k : argsOk n args = true) : argsOk m args = true := by
  rw [argsOk, List.all_eq_true] at k ⊢
  intro a ha
  have := k a ha
  simp at this ⊢
  omega
theorem map_dimsAt_take {l : List node.den} {i : Nat} {args : List Int} (k : argsOk i args = true) : args.map (dimsAt (l.take i)) = args.map (dimsAt l) := by
  apply List.map_congr_left
  intro a ha
  rw [argsOk, List.all_eq_true] at k
  have := k a ha
  simp at this
  rw [dimsAt, dimsAt, List.getElem?_take, if_pos (by omega)]
theorem ref7_node {vl : AV} {l : List node.den} (hl : In h nodes l [vl]) (hs : Small l) {i : Nat} (hi : i < l.length) (b : Nat) (hb : b ≤ h.length) :
    WP (call prog b 60 [vl, .int .i64 (i : Nat)] h) fun r => Old h.length h r.2 ∧ r.1 = .bool (nodeOk (l.take i) l[i]) := by
  obtain ⟨dl, sl, cl, bl⟩ := hl.nodes
  obtain ⟨a, d, e, ha, hd, hn⟩ := cl i hi
  refine wp_enter (fn := C.ref7_node) rfl ?_
  dsimp only [bodyN, C.ref7_node]; simp
  refine wp_idx sl rfl hi ?_
  try simp
  refine wp_elem sl hi e ?_
  try simp
  refine wp_init hb (by rfl) (by rfl) ?_
  try simp
  generalize hh : h ++ [AObj.cells 0 1 [AV.str l[i].fst, AV.int IntKind.i64 l[i].snd.fst, a, d, AV.int IntKind.i64 l[i].snd.snd.snd.snd]] = h1
  have o1 : Old h.length h h1 := hh ▸ Old.app
  have hbx : h1[h.length]? = some (.cells 0 1 [AV.str l[i].fst, AV.int IntKind.i64 l[i].snd.fst, a, d, AV.int IntKind.i64 l[i].snd.snd.snd.snd]) := by rw [← hh]; simp
  refine wp_ptr1 hbx rfl ?_
  try simp
  rw [callK_eq (ref7_Args (In.old o1 ha) (i : Int) (by omega) _)]
  try simp
  have hlen : (l.take i).length = i := by simp; omega
  refine wp_iteK (fun hn => wp_some ⟨o1, ?_⟩) fun hn => ?_
  · have : argsOk i l[i].2.2.1 = false := by rw [Bool.not_eq_true'] at hn; exact hn
    simp [nodeOk, inferL, hlen, this]
  have hok : argsOk i l[i].2.2.1 = true := by rw [Bool.not_eq_false'] at hn; exact hn
  have hokl := argsOk_mono (m := l.length) (by omega) hok
  have hkey : nodeOk (l.take i) l[i] = decide (inferE l[i].2.1 l[i].2.2.2.2 (if asked l[i].2.1 = true then l[i].2.2.2.1 else []) (l[i].2.2.1.map (dimsAt l)) = (l[i].2.2.2.1, 0)) := by
    rw [nodeOk, inferL, hlen, if_pos hok, map_dimsAt_take hok]
  rw [hkey]
  have hsz := (hs l[i] (List.getElem_mem hi)).1
  refine wp_ptr1 hbx rfl ?_
  try simp
  refine wp_iteK (fun hk => ?_) fun hk => ?_
  · rw [if_pos hk]
    refine wp_ptr1 hbx rfl ?_
    try simp
    have hdd := In.old o1 hd
    refine wp_ptr1 hbx rfl ?_
    try simp
    refine wp_call (ref7_DimsOf (In.old o1 hl) (In.old o1 ha) hokl hsz b (Nat.le_trans hb o1.1)) fun v2 h2 ⟨o2, a2⟩ => ?_
    simp only at o2 a2
    have o12 := o1.trans (o2.mono o1.1)
    have hli : In h2 (.slice ints) (l[i].2.2.1.map (dimsAt l)) [v2] := (a2.holds (Nat.zero_le _)).mono fun j hj => hj.2
    have hlt : h.length < h1.length := (List.getElem?_eq_some_iff.1 hbx).1
    have hbx2 := (o2.2 _ hlt).trans hbx
    try simp
    refine wp_ptr1 hbx2 rfl ?_
    try simp
    refine wp_ptr1 hbx2 rfl ?_
    try simp
    rw [callK_eq (ref1_May (In.old o2 hdd) hli _)]
    try simp
    refine wp_iteK (fun hf => wp_some ⟨o12, ?_⟩) fun hf => ?_
    · rw [Bool.not_eq_true'] at hf
      simp [inferE, hf]
    rw [Bool.not_eq_false'] at hf
    try simp
    refine wp_ptr1 hbx2 rfl ?_
    try simp
    refine wp_ptr1 hbx2 rfl ?_
    try simp
    refine wp_call (ref1_Infer (In.old o2 hdd) hli hf b (Nat.le_trans hb o12.1)) fun v3 h3 ⟨o3, v4, e4, a4⟩ => ?_
    simp only at o3 e4 a4
    subst e4
    have o123 := o12.trans (o3.mono o12.1)
    have hbx3 := (o3.2 _ (Nat.lt_of_lt_of_le hlt o2.1)).trans hbx2
    try simp
    cases hx : inferD l[i].2.1 l[i].2.2.2.2 l[i].2.2.2.1 (l[i].2.2.1.map (dimsAt l)) with
    | none =>
      simp
      exact wp_some ⟨o123, by simp [inferE, hf, hx]⟩
    | some x =>
      rw [hx] at a4
      have hx4 := (((a4 rfl).holds (Nat.le_refl _)).mono (T := fun j => j < h3.length) fun j hj => hj.2)
      simp
      refine wp_ptr1 hbx3 rfl ?_
      try simp
      rw [callK_eq (ref0_EqNumbers (In.old o123 hd) hx4 _)]
      try simp
      refine wp_some ⟨o123, ?_⟩
      simp [inferE, hf, hx, eq_comm]
  · rw [if_neg (by simp [hk])]
    have hdd : In h1 ints [] [.nil] := ⟨.nil, [], rfl, ⟨Nat.zero_le _, rfl, rfl⟩, fun i x hi => by simp at hi⟩
    refine wp_ptr1 hbx rfl ?_
    try simp
    refine wp_call (ref7_DimsOf (In.old o1 hl) (In.old o1 ha) hokl hsz b (Nat.le_trans hb o1.1)) fun v2 h2 ⟨o2, a2⟩ => ?_
    simp only at o2 a2
    have o12 := o1.trans (o2.mono o1.1)
    have hli : In h2 (.slice ints) (l[i].2.2.1.map (dimsAt l)) [v2] := (a2.holds (Nat.zero_le _)).mono fun j hj => hj.2
    have hlt : h.length < h1.length := (List.getElem?_eq_some_iff.1 hbx).1
    have hbx2 := (o2.2 _ hlt).trans hbx
    try simp
    refine wp_ptr1 hbx2 rfl ?_
    try simp
    refine wp_ptr1 hbx2 rfl ?_
    try simp
    rw [callK_eq (ref1_May (In.old o2 hdd) hli _)]
    try simp
    refine wp_iteK (fun hf => wp_some ⟨o12, ?_⟩) fun hf => ?_
    · rw [Bool.not_eq_true'] at hf
      simp [inferE, hf]
    rw [Bool.not_eq_false'] at hf
    try simp
    refine wp_ptr1 hbx2 rfl ?_
    try simp
    refine wp_ptr1 hbx2 rfl ?_
    try simp
    refine wp_call (ref1_Infer (In.old o2 hdd) hli hf b (Nat.le_trans hb o12.1)) fun v3 h3 ⟨o3, v4, e4, a4⟩ => ?_
    simp only at o3 e4 a4
    subst e4
    have o123 := o12.trans (o3.mono o12.1)
    have hbx3 := (o3.2 _ (Nat.lt_of_lt_of_le hlt o2.1)).trans hbx2
    try simp
    cases hx : inferD l[i].2.1 l[i].2.2.2.2 [] (l[i].2.2.1.map (dimsAt l)) with
    | none =>
      simp
      exact wp_some ⟨o123, by simp [inferE, hf, hx]⟩
    | some x =>
      rw [hx] at a4
      have hx4 := (((a4 rfl).holds (Nat.le_refl _)).mono (T := fun j => j < h3.length) fun j hj => hj.2)
      simp
      refine wp_ptr1 hbx3 rfl ?_
      try simp
      rw [callK_eq (ref0_EqNumbers (In.old o123 hd) hx4 _)]
      try simp
      refine wp_some ⟨o123, ?_⟩
      simp [inferE, hf, hx, eq_comm]
theorem ref7_Nodes {vl : AV} {l : List node.den} (hl : In h nodes l [vl]) (hs : Small l) (b : Nat) (hb : b ≤ h.length) :
    WP (call prog b 1 [vl] h) fun r => Old h.length h r.2 ∧ r.1 = .bool (mayL l) := by
  obtain ⟨dl, sl, cl, bl⟩ := hl.nodes
  refine wp_enter (fn := C.ref7_Nodes) rfl ?_
  dsimp only [bodyN, C.ref7_Nodes, C.ref7_Nodes_l0]; simp
  refine wp_len sl ?_
  try simp
  refine wp_dec (fun h1 => wp_some ⟨Old.refl (Nat.le_refl _), ?_⟩) fun h1 => ?_
  · have : ¬ l.length ≤ 240 := by omega
    simp [mayL, this]
  have hm : mayL l = allOk l l.length := by
    have : l.length ≤ 240 := by omega
    simp [mayL, this]
  refine wp_loop (I := fun m e h' => Old h.length h h' ∧ ∃ i, e = (ea 0 vl <| ea 3 (.int .i64 (i : Nat)) e0) ∧ i + m = l.length ∧ allOk l i = true) ?_ ⟨Old.refl (Nat.le_refl _), 0, rfl, Nat.zero_add _, rfl⟩
  rintro N m e h' ⟨old, i, rfl, him, hok⟩ next
  have sl' := sl.old old (Nat.le_refl _)
  have ho := old.1
  dsimp only [C.ref7_Nodes_b0]; simp
  refine wp_len sl' ?_
  try simp
  refine wp_dec (fun hi => ?_) fun hi => ?_
  · try simp
    refine wp_call (ref7_node (In.old old hl) hs hi b (Nat.le_trans hb ho)) fun v1 h1 ⟨o1, e1⟩ => ?_
    simp only at o1 e1
    subst e1
    have o01 := old.trans (o1.mono ho)
    have hkey : allOk l (i + 1) = nodeOk (l.take i) l[i] := by
      rw [allOk, hok, List.getElem?_eq_getElem hi]
      rfl
    try simp
    refine wp_iteK (fun hn => wp_some ⟨o01, ?_⟩) fun hn => ?_
    · rw [Bool.not_eq_true'] at hn
      rw [hm, allOk_false (hkey.trans hn) hi]
    · rw [Bool.not_eq_false'] at hn
      try simp
      rw [succ64 hi bl]
      exact next (m - 1) _ _ (by omega) ⟨o01, i + 1, rfl, by omega, hkey.trans hn⟩
  · try simp
    have : i = l.length := by omega
    subst this
    exact wp_some ⟨old, by rw [hm, hok]⟩
end
end Go.AM
