import Derived.Test.YtfdbegdgedhhcaaGreatAmS37
import Derived.Test.YtfdbegdgedhhcaaGreatAmS47
set_option linter.all false
/- A node's value: the page's. -/
namespace Go.AM
set_option maxRecDepth 20000
set_option maxHeartbeats 1000000
attribute [local simp] layAt
attribute [local irreducible] lenK sliceK idxK fldK cutK storeK appK copyK clearK mapAtK callK loopH readK readK1 guardK grdK fnK nilK fieldK extrK strK nextK joinK iteK intK boolK cellsK castK castL castEnv binK unK intBin layParts execN runOpsN runItemsN denN call loop blockK
section
variable {R : Type} {Q : R → Prop} {h : Heap}
theorem ref1_Do {k n : Int} {d : List Int} {vd vl : AV} {ls : List tensor.den} {x : List Int} (hd : In h ints d [vd]) (hl : In h tensors ls [vl]) (hn : -9223372036854775808 ≤ n ∧ n ≤ 9223372036854775807) (G : Good k n d ls x) (b : Nat) (hb : b ≤ h.length) :
    WP (call prog b 250 [.int .i64 k, .int .i64 n, vd, vl] h) fun r => Old h.length h r.2 ∧ TenAt h.length r.2 (doT k n d ls) r.1 := by
  have hm := formOk_many G.form
  have hk := formOk_kind G.form
  have hlf := G.leaf
  rw [List.length_map] at hm
  have hi := G.dims
  simp only [inferD] at hi
  refine wp_enter (fn := C.ref1_Do) rfl ?_
  dsimp only [bodyN, C.ref1_Do]
  generalize hh : h ++ [AObj.cells 0 1 [AV.nil, AV.nil]] = h1
  have o1 : Old h.length h h1 := hh ▸ Old.app
  have l1 : h1.length = h.length + 1 := by rw [← hh]; simp
  have r1 : Box h1 h.length [AV.nil, AV.nil] := by rw [← hh]; simp [Box]
  have lr1 := r1.lt
  have hd1 := In.old o1 hd
  have hl1 := In.old o1 hl
  have hk : k = 3 ∨ k = 4 ∨ k = 5 ∨ k = 6 ∨ k = 7 ∨ k = 8 ∨ k = 9 ∨ k = 10 ∨ k = 11 ∨ k = 12 ∨ k = 13 ∨ k = 14 ∨ k = 15 ∨ k = 16 ∨ k = 17 := by omega
  rcases hk with rfl | rfl | rfl | rfl | rfl | rfl | rfl | rfl | rfl | rfl | rfl | rfl | rfl | rfl | rfl
  all_goals simp [many] at hm
  all_goals simp at hi
  all_goals simp [hh]
  · refine wp_call (ref1_Fill hd1 (good_d G rfl) hn _ (by omega)) fun v5 h5 ⟨o5, T5⟩ => ?_
    have eT : doT 3 n d ls = (d, List.replicate (prodI d).toNat n) := by simp [doT]
    rw [eT]
    (try simp only at o5 T5); obtain ⟨vd', vt', rfl⟩ := T5.agg; have l5 := o5.1; have r5 := r1.old o5 (by omega); (try simp); refine wq_put r5 (by omega) (vs := [vd', vt']) (fun _ => by rw [cellsK_agg]) (by rfl) (by simp) fun h6 l6 k6 b6 => ?_; simp at b6; (try simp); refine wq_ptrs b6 (by simp) ?_; (try simp); exact wp_some ⟨(o1.trans (o5.mono (by omega))).trans (old_put l6 k6 (by omega) (by omega)), (T5.but l6 k6 (by omega)).mono (by omega)⟩
  · obtain ⟨a, c, rfl⟩ := len2 (l := ls) (by omega); have oka := G.ok a (by simp); have okc := G.ok c (by simp); obtain ⟨a1, a2, a3, a4, a5⟩ := ten_parts oka; obtain ⟨c1, c2, c3, c4, c5⟩ := ten_parts okc; simp at hi
    refine wq_idx hl1 (by rfl) (by omega) (by omega) ?_
    try simp
    refine wq_tensor hl1 (by omega) fun da ta hda hta => ?_
    try simp
    refine wq_idx hl1 (by rfl) (by omega) (by omega) ?_
    try simp
    refine wq_tensor hl1 (by omega) fun dc tc hdc htc => ?_
    try simp
    refine wp_call (ref1_Each0 (s := a) (t := c) (holds_ten hda hta) (holds_ten hdc htc) oka (by rw [hi.1] at a2; omega) _ (by omega)) fun v5 h5 ⟨o5, T5⟩ => ?_
    (try simp only at o5 T5); obtain ⟨vd', vt', rfl⟩ := T5.agg; have l5 := o5.1; have r5 := r1.old o5 (by omega); (try simp); refine wq_put r5 (by omega) (vs := [vd', vt']) (fun _ => by rw [cellsK_agg]) (by rfl) (by simp) fun h6 l6 k6 b6 => ?_; simp at b6; (try simp); refine wq_ptrs b6 (by simp) ?_; (try simp); exact wp_some ⟨(o1.trans (o5.mono (by omega))).trans (old_put l6 k6 (by omega) (by omega)), (T5.but l6 k6 (by omega)).mono (by omega)⟩
  · obtain ⟨a, c, rfl⟩ := len2 (l := ls) (by omega); have oka := G.ok a (by simp); have okc := G.ok c (by simp); obtain ⟨a1, a2, a3, a4, a5⟩ := ten_parts oka; obtain ⟨c1, c2, c3, c4, c5⟩ := ten_parts okc; simp at hi
    refine wq_idx hl1 (by rfl) (by omega) (by omega) ?_
    try simp
    refine wq_tensor hl1 (by omega) fun da ta hda hta => ?_
    try simp
    refine wq_idx hl1 (by rfl) (by omega) (by omega) ?_
    try simp
    refine wq_tensor hl1 (by omega) fun dc tc hdc htc => ?_
    try simp
    refine wp_call (ref1_Each1 (s := a) (t := c) (holds_ten hda hta) (holds_ten hdc htc) oka (by rw [hi.1] at a2; omega) _ (by omega)) fun v5 h5 ⟨o5, T5⟩ => ?_
    (try simp only at o5 T5); obtain ⟨vd', vt', rfl⟩ := T5.agg; have l5 := o5.1; have r5 := r1.old o5 (by omega); (try simp); refine wq_put r5 (by omega) (vs := [vd', vt']) (fun _ => by rw [cellsK_agg]) (by rfl) (by simp) fun h6 l6 k6 b6 => ?_; simp at b6; (try simp); refine wq_ptrs b6 (by simp) ?_; (try simp); exact wp_some ⟨(o1.trans (o5.mono (by omega))).trans (old_put l6 k6 (by omega) (by omega)), (T5.but l6 k6 (by omega)).mono (by omega)⟩
  · obtain ⟨a, c, rfl⟩ := len2 (l := ls) (by omega); have oka := G.ok a (by simp); have okc := G.ok c (by simp); obtain ⟨a1, a2, a3, a4, a5⟩ := ten_parts oka; obtain ⟨c1, c2, c3, c4, c5⟩ := ten_parts okc; simp at hi
    refine wq_idx hl1 (by rfl) (by omega) (by omega) ?_
    try simp
    refine wq_tensor hl1 (by omega) fun da ta hda hta => ?_
    try simp
    refine wq_idx hl1 (by rfl) (by omega) (by omega) ?_
    try simp
    refine wq_tensor hl1 (by omega) fun dc tc hdc htc => ?_
    try simp
    refine wp_call (ref1_Each2 (s := a) (t := c) (holds_ten hda hta) (holds_ten hdc htc) oka (by rw [hi.1] at a2; omega) _ (by omega)) fun v5 h5 ⟨o5, T5⟩ => ?_
    (try simp only at o5 T5); obtain ⟨vd', vt', rfl⟩ := T5.agg; have l5 := o5.1; have r5 := r1.old o5 (by omega); (try simp); refine wq_put r5 (by omega) (vs := [vd', vt']) (fun _ => by rw [cellsK_agg]) (by rfl) (by simp) fun h6 l6 k6 b6 => ?_; simp at b6; (try simp); refine wq_ptrs b6 (by simp) ?_; (try simp); exact wp_some ⟨(o1.trans (o5.mono (by omega))).trans (old_put l6 k6 (by omega) (by omega)), (T5.but l6 k6 (by omega)).mono (by omega)⟩
  · obtain ⟨a, rfl⟩ := len1 (l := ls) (by omega); have oka := G.ok a (by simp); obtain ⟨a1, a2, a3, a4, a5⟩ := ten_parts oka; simp at hi
    refine wq_idx hl1 (by rfl) (by omega) (by omega) ?_
    try simp
    refine wq_tensor hl1 (by omega) fun da ta hda hta => ?_
    try simp
    refine wp_call (ref1_Scale (s := a) (holds_ten hda hta) oka (-1) _ (by omega)) fun v5 h5 ⟨o5, T5⟩ => ?_
    (try simp only at o5 T5); obtain ⟨vd', vt', rfl⟩ := T5.agg; have l5 := o5.1; have r5 := r1.old o5 (by omega); (try simp); refine wq_put r5 (by omega) (vs := [vd', vt']) (fun _ => by rw [cellsK_agg]) (by rfl) (by simp) fun h6 l6 k6 b6 => ?_; simp at b6; (try simp); refine wq_ptrs b6 (by simp) ?_; (try simp); exact wp_some ⟨(o1.trans (o5.mono (by omega))).trans (old_put l6 k6 (by omega) (by omega)), (T5.but l6 k6 (by omega)).mono (by omega)⟩
  · obtain ⟨a, rfl⟩ := len1 (l := ls) (by omega); have oka := G.ok a (by simp); obtain ⟨a1, a2, a3, a4, a5⟩ := ten_parts oka; simp at hi
    refine wq_idx hl1 (by rfl) (by omega) (by omega) ?_
    try simp
    refine wq_tensor hl1 (by omega) fun da ta hda hta => ?_
    try simp
    refine wp_call (ref1_Scale (s := a) (holds_ten hda hta) oka n _ (by omega)) fun v5 h5 ⟨o5, T5⟩ => ?_
    (try simp only at o5 T5); obtain ⟨vd', vt', rfl⟩ := T5.agg; have l5 := o5.1; have r5 := r1.old o5 (by omega); (try simp); refine wq_put r5 (by omega) (vs := [vd', vt']) (fun _ => by rw [cellsK_agg]) (by rfl) (by simp) fun h6 l6 k6 b6 => ?_; simp at b6; (try simp); refine wq_ptrs b6 (by simp) ?_; (try simp); exact wp_some ⟨(o1.trans (o5.mono (by omega))).trans (old_put l6 k6 (by omega) (by omega)), (T5.but l6 k6 (by omega)).mono (by omega)⟩
  · obtain ⟨a, c, rfl⟩ := len2 (l := ls) (by omega); have oka := G.ok a (by simp); have okc := G.ok c (by simp); obtain ⟨a1, a2, a3, a4, a5⟩ := ten_parts oka; obtain ⟨c1, c2, c3, c4, c5⟩ := ten_parts okc; simp at hi
    refine wq_idx hl1 (by rfl) (by omega) (by omega) ?_
    try simp
    refine wq_tensor hl1 (by omega) fun da ta hda hta => ?_
    try simp
    refine wq_idx hl1 (by rfl) (by omega) (by omega) ?_
    try simp
    refine wq_tensor hl1 (by omega) fun dc tc hdc htc => ?_
    try simp
    refine wp_call (ref1_Mat (s := a) (t := c) (holds_ten hda hta) (holds_ten hdc htc) oka okc hi.1.1 hi.1.2.1 hi.1.2.2 _ (by omega)) fun v5 h5 ⟨o5, T5⟩ => ?_
    (try simp only at o5 T5); obtain ⟨vd', vt', rfl⟩ := T5.agg; have l5 := o5.1; have r5 := r1.old o5 (by omega); (try simp); refine wq_put r5 (by omega) (vs := [vd', vt']) (fun _ => by rw [cellsK_agg]) (by rfl) (by simp) fun h6 l6 k6 b6 => ?_; simp at b6; (try simp); refine wq_ptrs b6 (by simp) ?_; (try simp); exact wp_some ⟨(o1.trans (o5.mono (by omega))).trans (old_put l6 k6 (by omega) (by omega)), (T5.but l6 k6 (by omega)).mono (by omega)⟩
  · obtain ⟨a, rfl⟩ := len1 (l := ls) (by omega); have oka := G.ok a (by simp); obtain ⟨a1, a2, a3, a4, a5⟩ := ten_parts oka; simp at hi
    refine wq_idx hl1 (by rfl) (by omega) (by omega) ?_
    try simp
    refine wq_tensor hl1 (by omega) fun da ta hda hta => ?_
    try simp
    refine wp_call (ref1_Turn (s := a) (holds_ten hda hta) oka hi.1 _ (by omega)) fun v5 h5 ⟨o5, T5⟩ => ?_
    (try simp only at o5 T5); obtain ⟨vd', vt', rfl⟩ := T5.agg; have l5 := o5.1; have r5 := r1.old o5 (by omega); (try simp); refine wq_put r5 (by omega) (vs := [vd', vt']) (fun _ => by rw [cellsK_agg]) (by rfl) (by simp) fun h6 l6 k6 b6 => ?_; simp at b6; (try simp); refine wq_ptrs b6 (by simp) ?_; (try simp); exact wp_some ⟨(o1.trans (o5.mono (by omega))).trans (old_put l6 k6 (by omega) (by omega)), (T5.but l6 k6 (by omega)).mono (by omega)⟩
  · obtain ⟨a, rfl⟩ := len1 (l := ls) (by omega); have oka := G.ok a (by simp); obtain ⟨a1, a2, a3, a4, a5⟩ := ten_parts oka; simp at hi
    have dl := dimsOk_len (good_d G rfl)
    refine wp_call (ref0_CopyNumbers hd1 (by omega) _ (by omega)) fun v2 h2 ⟨o2, b2⟩ => ?_
    simp only at o2 b2
    have l2 := o2.1
    have hl2 := In.old o2 hl1
    have r2 := r1.old o2 (by omega)
    try simp
    refine wq_idx hl2 (by rfl) (by omega) (by simp) ?_
    try simp
    refine wq_tdata hl2 (by simp) fun tt htt => ?_
    try simp
    refine wp_call (ref0_CopyNumbers htt (by simp; omega) _ (by omega)) fun v3 h3 ⟨o3, b3⟩ => ?_
    simp only at o3 b3
    have l3 := o3.1
    have r3 := r2.old o3 (by omega)
    have b23 := b2.keep o3
    try simp
    refine wp_cells b2.one ?_
    try simp
    refine wp_cells b3.one ?_
    simp [layAt]
    refine wq_put r3 (by omega) (vs := [v2, v3]) (fun _ => by rw [cellsK_agg]) (by rfl) (by simp) fun h6 l6 k6 b6 => ?_
    simp at b6
    try simp
    refine wq_ptrs b6 (by simp) ?_
    try simp
    refine wp_some ⟨(o1.trans ((o2.trans (o3.mono (by omega))).mono (by omega))).trans (old_put l6 k6 (by omega) (by omega)), v2, v3, h2.length, rfl, (b23.but l6 k6 (by omega) (by omega)).mono (by omega) (by omega), fun j hj => ?_, by omega, by simp only; omega, b3.but l6 k6 (by omega) (by omega)⟩
    obtain ⟨_, ac, _⟩ := b2
    exact (ac.lt hj).2
  · obtain ⟨a, rfl⟩ := len1 (l := ls) (by omega); have oka := G.ok a (by simp); obtain ⟨a1, a2, a3, a4, a5⟩ := ten_parts oka; simp at hi
    refine wq_idx hl1 (by rfl) (by omega) (by omega) ?_
    try simp
    refine wq_tensor hl1 (by omega) fun da ta hda hta => ?_
    try simp
    refine wp_call (ref1_Wide (s := a) (holds_ten hda hta) hd1 oka (good_d G rfl) hi.1 _ (by omega)) fun v5 h5 ⟨o5, T5⟩ => ?_
    (try simp only at o5 T5); obtain ⟨vd', vt', rfl⟩ := T5.agg; have l5 := o5.1; have r5 := r1.old o5 (by omega); (try simp); refine wq_put r5 (by omega) (vs := [vd', vt']) (fun _ => by rw [cellsK_agg]) (by rfl) (by simp) fun h6 l6 k6 b6 => ?_; simp at b6; (try simp); refine wq_ptrs b6 (by simp) ?_; (try simp); exact wp_some ⟨(o1.trans (o5.mono (by omega))).trans (old_put l6 k6 (by omega) (by omega)), (T5.but l6 k6 (by omega)).mono (by omega)⟩
  · obtain ⟨a, rfl⟩ := len1 (l := ls) (by omega); have oka := G.ok a (by simp); obtain ⟨a1, a2, a3, a4, a5⟩ := ten_parts oka; simp at hi
    refine wq_idx hl1 (by rfl) (by omega) (by omega) ?_
    try simp
    refine wq_tensor hl1 (by omega) fun da ta hda hta => ?_
    try simp
    refine wp_call (ref1_Sum (s := a) (holds_ten hda hta) hd1 oka (good_d G rfl) hi.1 _ (by omega)) fun v5 h5 ⟨o5, T5⟩ => ?_
    (try simp only at o5 T5); obtain ⟨vd', vt', rfl⟩ := T5.agg; have l5 := o5.1; have r5 := r1.old o5 (by omega); (try simp); refine wq_put r5 (by omega) (vs := [vd', vt']) (fun _ => by rw [cellsK_agg]) (by rfl) (by simp) fun h6 l6 k6 b6 => ?_; simp at b6; (try simp); refine wq_ptrs b6 (by simp) ?_; (try simp); exact wp_some ⟨(o1.trans (o5.mono (by omega))).trans (old_put l6 k6 (by omega) (by omega)), (T5.but l6 k6 (by omega)).mono (by omega)⟩
  · obtain ⟨a, rfl⟩ := len1 (l := ls) (by omega); have oka := G.ok a (by simp); obtain ⟨a1, a2, a3, a4, a5⟩ := ten_parts oka; simp at hi
    refine wq_idx hl1 (by rfl) (by omega) (by omega) ?_
    try simp
    refine wq_tensor hl1 (by omega) fun da ta hda hta => ?_
    try simp
    refine wq_idx hl1 (by rfl) (by omega) (by omega) ?_
    try simp
    refine wq_tensor hl1 (by omega) fun dc tc hdc htc => ?_
    try simp
    refine wp_call (ref1_Gate (holds_ten hda hta) (holds_ten hdc htc) oka rfl _ (by omega)) fun v5 h5 ⟨o5, T5⟩ => ?_
    (try simp only at o5 T5); obtain ⟨vd', vt', rfl⟩ := T5.agg; have l5 := o5.1; have r5 := r1.old o5 (by omega); (try simp); refine wq_put r5 (by omega) (vs := [vd', vt']) (fun _ => by rw [cellsK_agg]) (by rfl) (by simp) fun h6 l6 k6 b6 => ?_; simp at b6; (try simp); refine wq_ptrs b6 (by simp) ?_; (try simp); exact wp_some ⟨(o1.trans (o5.mono (by omega))).trans (old_put l6 k6 (by omega) (by omega)), (T5.but l6 k6 (by omega)).mono (by omega)⟩
  · obtain ⟨a, rfl⟩ := len1 (l := ls) (by omega); have oka := G.ok a (by simp); obtain ⟨a1, a2, a3, a4, a5⟩ := ten_parts oka; simp at hi
    refine wq_idx hl1 (by rfl) (by omega) (by omega) ?_
    try simp
    refine wq_tensor hl1 (by omega) fun da ta hda hta => ?_
    try simp
    refine wp_call (ref1_Max (s := a) (holds_ten hda hta) oka (good_num G (.inl rfl)) hi.1 _ (by omega)) fun v5 h5 ⟨o5, T5⟩ => ?_
    (try simp only at o5 T5); obtain ⟨vd', vt', rfl⟩ := T5.agg; have l5 := o5.1; have r5 := r1.old o5 (by omega); (try simp); refine wq_put r5 (by omega) (vs := [vd', vt']) (fun _ => by rw [cellsK_agg]) (by rfl) (by simp) fun h6 l6 k6 b6 => ?_; simp at b6; (try simp); refine wq_ptrs b6 (by simp) ?_; (try simp); exact wp_some ⟨(o1.trans (o5.mono (by omega))).trans (old_put l6 k6 (by omega) (by omega)), (T5.but l6 k6 (by omega)).mono (by omega)⟩
  · obtain ⟨a, c, rfl⟩ := len2 (l := ls) (by omega); have oka := G.ok a (by simp); have okc := G.ok c (by simp); obtain ⟨a1, a2, a3, a4, a5⟩ := ten_parts oka; obtain ⟨c1, c2, c3, c4, c5⟩ := ten_parts okc; simp at hi
    refine wq_idx hl1 (by rfl) (by omega) (by omega) ?_
    try simp
    refine wq_tensor hl1 (by omega) fun da ta hda hta => ?_
    try simp
    refine wq_idx hl1 (by rfl) (by omega) (by omega) ?_
    try simp
    refine wq_tensor hl1 (by omega) fun dc tc hdc htc => ?_
    try simp
    refine wp_call (ref1_Gate (s := a) (t := c) (holds_ten hda hta) (holds_ten hdc htc) okc (by rw [hi.1] at a2; omega) _ (by omega)) fun v5 h5 ⟨o5, T5⟩ => ?_
    simp only at T5
    rw [← hi.1] at T5
    (try simp only at o5 T5); obtain ⟨vd', vt', rfl⟩ := T5.agg; have l5 := o5.1; have r5 := r1.old o5 (by omega); (try simp); refine wq_put r5 (by omega) (vs := [vd', vt']) (fun _ => by rw [cellsK_agg]) (by rfl) (by simp) fun h6 l6 k6 b6 => ?_; simp at b6; (try simp); refine wq_ptrs b6 (by simp) ?_; (try simp); exact wp_some ⟨(o1.trans (o5.mono (by omega))).trans (old_put l6 k6 (by omega) (by omega)), (T5.but l6 k6 (by omega)).mono (by omega)⟩
  · obtain ⟨a, c, rfl⟩ := len2 (l := ls) (by omega); have oka := G.ok a (by simp); have okc := G.ok c (by simp); obtain ⟨a1, a2, a3, a4, a5⟩ := ten_parts oka; obtain ⟨c1, c2, c3, c4, c5⟩ := ten_parts okc; simp at hi
    refine wq_idx hl1 (by rfl) (by omega) (by omega) ?_
    try simp
    refine wq_tensor hl1 (by omega) fun da ta hda hta => ?_
    try simp
    refine wq_idx hl1 (by rfl) (by omega) (by omega) ?_
    try simp
    refine wq_tensor hl1 (by omega) fun dc tc hdc htc => ?_
    try simp
    refine wp_call (ref1_Pick (s := a) (t := c) (holds_ten hda hta) (holds_ten hdc htc) oka okc (good_num G (.inr rfl)) hi.1.1 hi.1.2 _ (by omega)) fun v5 h5 ⟨o5, T5⟩ => ?_
    (try simp only at o5 T5); obtain ⟨vd', vt', rfl⟩ := T5.agg; have l5 := o5.1; have r5 := r1.old o5 (by omega); (try simp); refine wq_put r5 (by omega) (vs := [vd', vt']) (fun _ => by rw [cellsK_agg]) (by rfl) (by simp) fun h6 l6 k6 b6 => ?_; simp at b6; (try simp); refine wq_ptrs b6 (by simp) ?_; (try simp); exact wp_some ⟨(o1.trans (o5.mono (by omega))).trans (old_put l6 k6 (by omega) (by omega)), (T5.but l6 k6 (by omega)).mono (by omega)⟩
end
end Go.AM

/- A node's value: the program's. -/
namespace Go.AM
set_option maxRecDepth 20000
set_option maxHeartbeats 1000000
attribute [local simp] layAt
attribute [local irreducible] lenK sliceK idxK fldK cutK storeK appK copyK clearK mapAtK callK loopH readK readK1 guardK grdK fnK nilK fieldK extrK strK nextK joinK iteK intK boolK cellsK castK castL castEnv binK unK intBin layParts execN runOpsN runItemsN denN call loop blockK
section
variable {R : Type} {Q : R → Prop} {h : Heap}
theorem kernel_Do {k n : Int} {d : List Int} {vd vl : AV} {ls : List tensor.den} {x : List Int} (hd : In h ints d [vd]) (hl : In h tensors ls [vl]) (hn : -9223372036854775808 ≤ n ∧ n ≤ 9223372036854775807) (G : Good k n d ls x) (b : Nat) (hb : b ≤ h.length) :
    WP (call prog b 123 [.int .i64 k, .int .i64 n, vd, vl] h) fun r => Old h.length h r.2 ∧ ∃ v, r.1 = .tup [v, .int .i64 0] ∧ TenAt h.length r.2 (doT k n d ls) v := by
  have hm := formOk_many G.form
  have hk := formOk_kind G.form
  have hlen : ls.length ≤ 2 := by
    simp [many] at hm
    split at hm
    · omega
    · split at hm <;> omega
  refine wp_enter (fn := C.kernel_Do) rfl ?_
  dsimp only [bodyN, C.kernel_Do, C.kernel_Do_l0]; simp
  generalize hh : h ++ [AObj.cells 0 1 [AV.nil, AV.nil]] = h1
  have o1 : Old h.length h h1 := hh ▸ Old.app
  have l1 : h1.length = h.length + 1 := by rw [← hh]; simp
  have r1 : Box h1 h.length [AV.nil, AV.nil] := by rw [← hh]; simp [Box]
  refine wq_len hl ?_
  try simp
  refine wp_loop (I := fun m e h' => Old h1.length h1 h' ∧ ∃ (i : Nat) (v : AV), e = (ea 0 (.int .i64 k) <| ea 1 (.int .i64 n) <| ea 2 vd <| ea 3 vl <| ea 8 (.ptr h.length 0 0) <| ea 10 v <| ea 13 vl <| ea 14 (.int .i64 ls.length) <| ea 15 (.int .i64 (i : Nat)) e0) ∧ i + m = ls.length ∧ AccP 0 h1.length h' ints v ((ls.take i).map (·.1))) ?_ ⟨Old.refl (Nat.le_refl _), 0, .nil, rfl, Nat.zero_add _, AccP.nil⟩
  rintro N m e' h2 ⟨o2, i, v, rfl, him, acc⟩ next
  have l2 := o2.1
  have o02 := o1.trans (o2.mono (by omega))
  have hl2 : Holds (fun j => j < h1.length) h2 tensors ls [vl] := (In.old o1 hl).frame fun j hj => ⟨hj, o2.2 j hj⟩
  dsimp only [C.kernel_Do_b0]; simp
  refine wp_dec (fun hi => ?_) fun hi => ?_
  · have wi := succ64 (i := i) (n := 2) (by omega) (by omega)
    try simp
    refine wq_idx hl2 (by rfl) (by omega) (by omega) ?_
    try simp
    refine wq_tensor hl2 hi fun dd tt hdd htt => ?_
    try simp
    refine wq_init (by omega) (by rfl) (by rfl) fun h3 o3 b3 lt3 => ?_
    have l3 := o3.1
    try simp
    refine wq_ptr b3 rfl ?_
    try simp
    refine wp_cells hdd.one1 ?_
    simp [layAt]
    have acc3 := (acc.keep o3).keep (h' := h3 ++ [AObj.cells 0 1 [dd]]) Old.app
    have o23 : Old h2.length h2 (h3 ++ [AObj.cells 0 1 [dd]]) := o3.trans (Old.app.mono (by omega))
    have o13 : Old h1.length h1 (h3 ++ [AObj.cells 0 1 [dd]]) := o2.trans (o23.mono l2)
    refine wp_push (x := ls[i].1) (bytes := 24) acc3 (Holds.beside hdd acc3 (o23.mono l2)) rfl (by omega) (by simp; omega) (by simp; omega) (by simp; omega) fun v' h4 _ o4 acc4 => ?_
    simp [wi]
    exact next (m - 1) _ _ (by omega) ⟨o13.trans o4, i + 1, v', by simp, by omega, by rw [map_take_succ (·.1) hi]; exact acc4⟩
  · have ei : i = ls.length := by omega
    rw [ei, List.take_length] at acc
    have n1 := G.leaf.1
    have n2 := G.leaf.2
    have hall := acc.in (Nat.zero_le _)
    have hd2 := In.old o02 hd
    have r2 := r1.old o2 (by omega)
    have kall : ls.all tenOk = true := List.all_eq_true.2 G.ok
    simp [n1, n2]
    refine wp_call (shape_All (In.old o02 hl) _ (by omega)) fun v3 h3 ⟨o3, e3⟩ => ?_
    simp only at o3 e3
    rw [kall] at e3
    subst e3
    have l3 := o3.1
    have o03 := o02.trans (o3.mono (by omega))
    have r3 := r2.old o3 (by omega)
    try simp
    rw [callK_eq (kernel_form (In.old o3 hd2) (In.old o3 hall) k n _), G.form]
    have o04 := o03
    have r4 := r3
    have lr3 := r3.lt
    have hl3 := In.old o03 hl
    have hd3 := In.old o03 hd
    try simp
    refine wp_dec (fun h3 => ?_) fun h3 => ?_
    · have e3 : doT k n d ls = (d, List.replicate (prodI d).toNat n) := by rw [h3]; simp [doT]
      rw [e3]
      refine wp_call (shape_Fill hd3 (good_d G (by rw [h3]; rfl)) hn b (by omega)) fun v5 h5 ⟨o5, v6, e5, T5⟩ => ?_
      simp only at o5 e5 T5; subst e5; obtain ⟨vd', vt', rfl⟩ := T5.agg; have l5 := o5.1; have r5 := r4.old o5 (by omega); (try simp); refine wq_put r5 (by omega) (vs := [vd', vt']) (fun _ => by rw [cellsK_agg]) (by rfl) (by simp) fun h6 l6 k6 b6 => ?_; simp at b6; (try simp); refine wq_ptrs b6 (by simp) ?_; (try simp); exact wp_some ⟨(o04.trans (o5.mono (by omega))).trans (old_put l6 k6 (by omega) (by omega)), _, rfl, (T5.but l6 k6 (by omega)).mono (by omega)⟩
    · try simp
      refine wq_len hl3 ?_
      try simp
      refine wp_dec (fun hz => ?_) fun hz => ?_
      · have hz : ls.length = 2 := by omega
        have els : ls = [ls[0], ls[1]] := by
          obtain ⟨a, c, e⟩ := len2 hz
          subst e
          rfl
        try simp
        refine wq_idx hl3 (by rfl) (by omega) (by omega) ?_
        try simp
        refine wq_tensor hl3 (by omega) fun da ta hda hta => ?_
        try simp
        refine wq_idx hl3 (by rfl) (by omega) (by omega) ?_
        try simp
        refine wq_tensor hl3 (by omega) fun dc tc hdc htc => ?_
        try simp
        have eT : doT k n d [ls[0], ls[1]] = doT k n d ls := by rw [← els]
        have G2 : Good k n d [ls[0], ls[1]] x := els ▸ G
        rw [← eT]
        refine wp_call (kernel_double (holds_ten hda hta) (holds_ten hdc htc) G2 _ (by omega)) fun v5 h5 ⟨o5, v6, e5, T5⟩ => ?_
        simp only at o5 e5 T5; subst e5; obtain ⟨vd', vt', rfl⟩ := T5.agg; have l5 := o5.1; have r5 := r4.old o5 (by omega); (try simp); refine wq_put r5 (by omega) (vs := [vd', vt']) (fun _ => by rw [cellsK_agg]) (by rfl) (by simp) fun h6 l6 k6 b6 => ?_; simp at b6; (try simp); refine wq_ptrs b6 (by simp) ?_; (try simp); exact wp_some ⟨(o04.trans (o5.mono (by omega))).trans (old_put l6 k6 (by omega) (by omega)), _, rfl, (T5.but l6 k6 (by omega)).mono (by omega)⟩
      · have hz : ls.length = 1 := by
          simp [many] at hm
          split at hm
          · have := G.leaf
            omega
          · split at hm <;> omega
        have els : ls = [ls[0]] := by
          obtain ⟨a, e⟩ := len1 hz
          subst e
          rfl
        try simp
        refine wq_idx hl3 (by rfl) (by omega) (by omega) ?_
        try simp
        refine wq_tensor hl3 (by omega) fun da ta hda hta => ?_
        try simp
        have eT : doT k n d [ls[0]] = doT k n d ls := by rw [← els]
        have G2 : Good k n d [ls[0]] x := els ▸ G
        rw [← eT]
        refine wp_call (kernel_single hd3 (holds_ten hda hta) G2 _ (by omega)) fun v5 h5 ⟨o5, v6, e5, T5⟩ => ?_
        simp only at o5 e5 T5; subst e5; obtain ⟨vd', vt', rfl⟩ := T5.agg; have l5 := o5.1; have r5 := r4.old o5 (by omega); (try simp); refine wq_put r5 (by omega) (vs := [vd', vt']) (fun _ => by rw [cellsK_agg]) (by rfl) (by simp) fun h6 l6 k6 b6 => ?_; simp at b6; (try simp); refine wq_ptrs b6 (by simp) ?_; (try simp); exact wp_some ⟨(o04.trans (o5.mono (by omega))).trans (old_put l6 k6 (by omega) (by omega)), _, rfl, (T5.but l6 k6 (by omega)).mono (by omega)⟩
end
end Go.AM

/- All values, plainly. -/
namespace Go.AM
set_option maxRecDepth 20000
set_option maxHeartbeats 1000000
attribute [local simp] layAt
attribute [local irreducible] lenK sliceK idxK fldK cutK storeK appK copyK clearK mapAtK callK loopH readK readK1 guardK grdK fnK nilK fieldK extrK strK nextK joinK iteK intK boolK cellsK castK castL castEnv binK unK intBin layParts execN runOpsN runItemsN denN call loop blockK
def noT : tensor.den := ([], [])
def leafK (k : Int) : Bool := decide (k = 1) || decide (k = 2)
def nodeAt (l : List node.den) (i : Nat) : node.den := l.getD i (bs [], 0, [], [], 0)
def leafAt (l : List node.den) (x : List tensor.den) (i : Nat) : tensor.den := x.getD ((ends l).idxOf (i : Int)) noT
def askD (x : node.den) : List Int := if asked x.2.1 = true then x.2.2.2.1 else []
def partsOf (v : List tensor.den) (args : List Int) : List tensor.den := args.map fun a => v.getD a.toNat noT
def valAt (l : List node.den) (x v : List tensor.den) (i : Nat) : tensor.den :=
  if leafK (nodeAt l i).2.1 = true then leafAt l x i else doT (nodeAt l i).2.1 (nodeAt l i).2.2.2.2 (askD (nodeAt l i)) (partsOf v (nodeAt l i).2.2.1)
def valsTo (l : List node.den) (x : List tensor.den) : Nat → List tensor.den
  | 0 => []
  | i + 1 => valsTo l x i ++ [valAt l x (valsTo l x i) i]
def valuesL (l : List node.den) (x : List tensor.den) : List tensor.den := valsTo l x l.length
def fitsL (l : List node.den) (x : List tensor.den) : Bool := decide ((ends l).map (dimsAt l) = x.map (·.1))
def checkL (l : List node.den) (x : List tensor.den) : Int := if mayL l && x.all tenOk then (if fitsL l x then 0 else 4) else 1
theorem valsTo_len (l : List node.den) (x : List tensor.den) : ∀ i, (valsTo l x i).length = i
  | 0 => rfl
  | i + 1 => by simp [valsTo, valsTo_len l x i]
theorem nodeAt_at {l : List node.den} {i : Nat} (hi : i < l.length) : nodeAt l i = l[i] := by
  rw [nodeAt, List.getD_eq_getElem?_getD, List.getElem?_eq_getElem hi]
  rfl
theorem ofKind_mem {l : List node.den} {k : Int} : ∀ {n : Nat} {i : Nat}, i < n → (hi : i < l.length) → l[i].2.1 = k → (i : Int) ∈ ofKind l k n
  | 0, _, h, _, _ => absurd h (Nat.not_lt_zero _)
  | n + 1, i, h, hi, hk => by
      rw [ofKind, List.mem_append]
      rcases Nat.lt_or_ge i n with h1 | h1
      · exact .inl (ofKind_mem h1 hi hk)
      · obtain rfl : i = n := by omega
        refine .inr ?_
        rw [List.getElem?_eq_getElem hi]
        simp only
        rw [if_pos hk]
        simp
theorem dimsAt_get {l : List node.den} {i : Int} (h : i.toNat < l.length) : dimsAt l i = l[i.toNat].2.2.2.1 := by
  rw [dimsAt, List.getElem?_eq_getElem h]
  rfl
theorem ends_mem {l : List node.den} {i : Nat} (hi : i < l.length) (hk : leafK l[i].2.1 = true) : (i : Int) ∈ ends l := by
  simp only [leafK, Bool.or_eq_true, decide_eq_true_eq] at hk
  rw [ends, List.mem_append]
  rcases hk with h | h
  · exact .inl (ofKind_mem hi hi h)
  · exact .inr (ofKind_mem hi hi h)
/-- A leaf's value. -/
theorem leafAt_ok {l : List node.den} {x : List tensor.den} (hf : fitsL l x = true) (hx : x.all tenOk = true) {i : Nat} (hi : i < l.length) (hk : leafK l[i].2.1 = true) : (leafAt l x i).1 = l[i].2.2.2.1 ∧ tenOk (leafAt l x i) = true := by
  have hm := ends_mem hi hk
  have hj := List.idxOf_lt_length_of_mem hm
  have hlen : (ends l).length = x.length := by
    have := congrArg List.length (of_decide_eq_true hf)
    simpa using this
  have hjx : (ends l).idxOf (i : Int) < x.length := by omega
  have he : leafAt l x i = x[(ends l).idxOf (i : Int)] := by rw [leafAt, List.getD_eq_getElem?_getD, List.getElem?_eq_getElem hjx]; rfl
  rw [he]
  refine ⟨?_, List.all_eq_true.1 hx _ (List.getElem_mem hjx)⟩
  have h1 := congrArg (fun z => z[(ends l).idxOf (i : Int)]?) (of_decide_eq_true hf)
  simp only [List.getElem?_map, List.getElem?_eq_getElem hj, List.getElem?_eq_getElem hjx, Option.map_some, Option.some.injEq] at h1
  rw [← h1, List.getElem_idxOf, dimsAt_get (by simpa using hi)]
  rfl
/-- What stands of it, as far as a node. -/
structure ValsOk (l : List node.den) (v : List tensor.den) (i : Nat) : Prop where
  len : i ≤ v.length
  at_ : ∀ q (hq : q < i) (hl : q < l.length), (v.getD q noT).1 = l[q].2.2.2.1 ∧ tenOk (v.getD q noT) = true
theorem parts_good {l : List node.den} (hm : mayL l = true) {v : List tensor.den} {i : Nat} (hi : i < l.length) (hv : ValsOk l v i) (hk : leafK l[i].2.1 = false) : Good l[i].2.1 l[i].2.2.2.2 (askD l[i]) (partsOf v l[i].2.2.1) l[i].2.2.2.1 := by
  obtain ⟨p1, p2, p3⟩ := nodeOk_parts (mayL_at hm hi)
  have e : (partsOf v l[i].2.2.1).map (·.1) = l[i].2.2.1.map (dimsAt (l.take i)) := by
    rw [partsOf, List.map_map]
    apply List.map_congr_left
    intro a ha
    obtain ⟨h0, h1⟩ := argsOk_at p1 ha
    have ht : a.toNat < (l.take i).length := by omega
    have hl : a.toNat < l.length := by simp at ht; omega
    have hq : a.toNat < i := by simp at ht; omega
    rw [dimsAt_get ht, Function.comp, (hv.at_ _ hq hl).1, List.getElem_take]
  refine ⟨by rw [e]; exact p2, by rw [e]; exact p3, ?_, ?_⟩
  · intro t ht
    obtain ⟨a, ha, rfl⟩ := List.mem_map.1 ht
    obtain ⟨h0, h1⟩ := argsOk_at p1 ha
    simp at h1
    exact (hv.at_ _ (by omega) (by omega)).2
  · simp [leafK] at hk
    exact hk
theorem valAt_ok {l : List node.den} {x : List tensor.den} (hm : mayL l = true) (hf : fitsL l x = true) (hx : x.all tenOk = true) {v : List tensor.den} {i : Nat} (hi : i < l.length) (hv : ValsOk l v i) : (valAt l x v i).1 = l[i].2.2.2.1 ∧ tenOk (valAt l x v i) = true := by
  rw [valAt, nodeAt_at hi]
  by_cases hk : leafK l[i].2.1 = true
  · rw [if_pos hk]
    exact leafAt_ok hf hx hi hk
  · rw [if_neg hk]
    exact doT_ok (parts_good hm hi hv (by simpa using hk))
theorem getD_app_left {α : Type} {l m : List α} {d : α} {q : Nat} (h : q < l.length) : (l ++ m).getD q d = l.getD q d := by
  rw [List.getD_eq_getElem?_getD, List.getD_eq_getElem?_getD, List.getElem?_append_left h]
theorem getD_app_right {α : Type} {l : List α} {x d : α} {q : Nat} (h : q = l.length) : (l ++ [x]).getD q d = x := by
  subst h
  simp [List.getD_eq_getElem?_getD]
theorem valsTo_ok {l : List node.den} {x : List tensor.den} (hm : mayL l = true) (hf : fitsL l x = true) (hx : x.all tenOk = true) : ∀ {i}, i ≤ l.length → ValsOk l (valsTo l x i) i
  | 0, _ => ⟨Nat.zero_le _, fun q hq => absurd hq (Nat.not_lt_zero _)⟩
  | i + 1, hi => by
      have ih := valsTo_ok hm hf hx (i := i) (by omega)
      have hl := valsTo_len l x i
      refine ⟨by rw [valsTo_len]; omega, fun q hq hql => ?_⟩
      rw [valsTo]
      rcases Nat.lt_or_ge q i with h | h
      · rw [getD_app_left (by omega)]
        exact ih.at_ q h hql
      · obtain rfl : q = i := by omega
        rw [getD_app_right hl.symm]
        exact valAt_ok hm hf hx hi ih
end Go.AM

/- Values that fit; a tensor of one's own. -/
namespace Go.AM
set_option maxRecDepth 20000
set_option maxHeartbeats 1000000
attribute [local simp] layAt
attribute [local irreducible] lenK sliceK idxK fldK cutK storeK appK copyK clearK mapAtK callK loopH readK readK1 guardK grdK fnK nilK fieldK extrK strK nextK joinK iteK intK boolK cellsK castK castL castEnv binK unK intBin layParts execN runOpsN runItemsN denN call loop blockK
section
variable {R : Type} {Q : R → Prop} {h : Heap}
theorem eval_fits {vl vx : AV} {l : List node.den} {x : List tensor.den} (hl : In h nodes l [vl]) (hx : In h tensors x [vx]) (hlen : l.length ≤ 1000000) (b : Nat) (hb : b ≤ h.length) :
    WP (call prog b 119 [vl, vx] h) fun r => Old h.length h r.2 ∧ r.1 = .bool (fitsL l x) := by
  have hel : (ends l).length ≤ 2000000 := by
    have h1 := ofKind_len l 1 l.length
    have h2 := ofKind_len l 2 l.length
    simp [ends]
    omega
  refine wp_enter (fn := C.eval_fits) rfl ?_
  dsimp only [bodyN, C.eval_fits, C.eval_fits_l0]; simp
  refine wp_call (graph_Ends hl hlen b hb) fun ve h2 ⟨o2, a2⟩ => ?_
  simp only at o2 a2
  have he := a2.in (Nat.le_refl _)
  have hl2 := In.old o2 hl
  have hx2 := In.old o2 hx
  try simp
  refine wq_len he ?_
  try simp
  refine wq_len hx2 ?_
  try simp
  refine wp_ndec (fun hne => ?_) fun hne => ?_
  · refine wp_some ⟨o2, ?_⟩
    have : fitsL l x = false := by
      rw [fitsL, decide_eq_false_iff_not]
      intro e
      have := congrArg List.length e
      simp at this
      omega
    rw [this]
  · try simp
    refine wq_len he ?_
    try simp
    refine wp_loop (I := fun m e h' => h' = h2 ∧ ∃ (i : Nat), e = (ea 0 vl <| ea 1 vx <| ea 15 ve <| ea 16 (.int .i64 (ends l).length) <| ea 17 (.int .i64 (i : Nat)) e0) ∧ i + m = (ends l).length ∧ ∀ q, q < i → ((ends l).map (dimsAt l))[q]? = (x.map (·.1))[q]?) ?_ ⟨rfl, 0, rfl, Nat.zero_add _, fun q hq => absurd hq (Nat.not_lt_zero _)⟩
    rintro N m e' _ ⟨rfl, i, rfl, him, hq⟩ next
    dsimp only [C.eval_fits_b0]; simp
    refine wp_dec (fun hi => ?_) fun hi => ?_
    · have hix : i < x.length := by omega
      have wi := succ64 (i := i) (n := 2000000) (by omega) (by omega)
      obtain ⟨p0, p1, p2, _⟩ := mem_ends' (List.getElem_mem hi)
      try simp
      refine wq_idx he (by rfl) (by omega) (by omega) ?_
      try simp
      refine wq_int he hi ?_
      try simp
      refine wq_idx hl2 (by rfl) p0 p1 ?_
      try simp
      refine wq_dims hl2 p2 fun u hu => ?_
      try simp
      refine wq_idx hx2 (by rfl) (by omega) (by omega) ?_
      try simp
      refine wq_tdims hx2 hix fun w hw => ?_
      try simp
      rw [callK_eq (slices_Equal_int hu hw _)]
      try simp
      have e1 : ((ends l).map (dimsAt l))[i]? = some l[(ends l)[i].toNat].2.2.2.1 := by
        rw [List.getElem?_map, List.getElem?_eq_getElem hi, Option.map_some, dimsAt_get p2]
      have e2 : (x.map (·.1))[i]? = some x[i].1 := by rw [List.getElem?_map, List.getElem?_eq_getElem hix]; rfl
      refine wp_ndec (fun hc => ?_) fun hc => ?_
      · try simp
        refine wp_some ⟨o2, ?_⟩
        have : fitsL l x = false := by
          rw [fitsL, decide_eq_false_iff_not]
          intro e
          rw [e, e2] at e1
          exact hc (Option.some.inj e1).symm
        rw [this]
      · simp [wi]
        refine next (m - 1) _ _ (by omega) ⟨rfl, i + 1, by simp, by omega, fun q hq' => ?_⟩
        by_cases c : q = i
        · rw [c, e1, e2, hc]
        · exact hq q (by omega)
    · try simp
      refine wp_some ⟨o2, ?_⟩
      have : fitsL l x = true := by
        rw [fitsL, decide_eq_true_eq]
        apply List.ext_getElem?
        intro q
        rcases Nat.lt_or_ge q i with h1 | h1
        · exact hq q h1
        · rw [List.getElem?_eq_none (by simp; omega), List.getElem?_eq_none (by simp; omega)]
      rw [this]
theorem mayL_len {l : List node.den} (H : mayL l = true) : l.length ≤ 240 := by
  simp only [mayL, Bool.and_eq_true, decide_eq_true_eq] at H
  exact H.1
theorem eval_Check {vl vx : AV} {l : List node.den} {x : List tensor.den} (hl : In h nodes l [vl]) (hx : In h tensors x [vx]) (hsm : Small l) (b : Nat) (hb : b ≤ h.length) :
    WP (call prog b 89 [vl, vx] h) fun r => Old h.length h r.2 ∧ r.1 = .int .i64 (checkL l x) := by
  refine wp_enter (fn := C.eval_Check) rfl ?_
  dsimp only [bodyN, C.eval_Check]; simp
  refine wp_call (graph_May hl hsm b hb) fun v2 h2 ⟨o2, e2⟩ => ?_
  simp only at o2 e2
  subst e2
  have l2 := o2.1
  cases hm : mayL l
  · try simp
    exact wp_some ⟨o2, by simp [checkL, hm]⟩
  · try simp
    refine wp_call (shape_All (In.old o2 hx) _ (by omega)) fun v3 h3 ⟨o3, e3⟩ => ?_
    simp only at o3 e3
    subst e3
    have l3 := o3.1
    have o03 := o2.trans (o3.mono l2)
    cases ht : x.all tenOk
    · try simp
      exact wp_some ⟨o03, by simp [checkL, ht]⟩
    · try simp
      refine wp_call (eval_fits (In.old o03 hl) (In.old o03 hx) (by have := mayL_len hm; omega) b (by omega)) fun v4 h4 ⟨o4, e4⟩ => ?_
      simp only at o4 e4
      subst e4
      have o04 := o03.trans (o4.mono (by omega))
      cases hf : fitsL l x
      · try simp
        exact wp_some ⟨o04, by simp [checkL, hm, ht, hf]⟩
      · try simp
        exact wp_some ⟨o04, by simp [checkL, hm, ht, hf]⟩
theorem eval_Own {t : tensor.den} {cs : List AV} (ht : In h tensor t cs) (hd : t.1.length ≤ 1000000) (hl : t.2.length ≤ 1000000) (b : Nat) (hb : b ≤ h.length) : WP (call prog b 135 [.agg cs] h) fun r => Old h.length h r.2 ∧ TenAt h.length r.2 t r.1 := by
  obtain ⟨vd, vt, rfl, hvd, hvt⟩ := holds_tensor ht
  refine wp_enter (fn := C.eval_Own) rfl ?_
  dsimp only [bodyN, C.eval_Own]; simp
  generalize hh : h ++ [AObj.cells 0 1 [vd, vt], AObj.cells 0 1 [AV.nil, AV.nil]] = h1
  have o1 : Old h.length h h1 := hh ▸ Old.app
  have l1 : h1.length = h.length + 2 := by rw [← hh]; simp
  have b1 : Box h1 h.length [vd, vt] := by rw [← hh]; simp [Box]
  have r1 : Box h1 (h.length + 1) [AV.nil, AV.nil] := by rw [← hh]; simp [Box]
  refine wq_ptr b1 rfl ?_
  try simp
  refine wp_call (slices_Clone_int (In.old o1 hvd) (by omega) _ (by omega)) fun v2 h2 ⟨o2, a2⟩ => ?_
  simp only at o2 a2
  have l2 := o2.1
  have lb1 := b1.lt
  have lr1 := r1.lt
  have b2 := b1.old o2 (by omega)
  have r2 := r1.old o2 (by omega)
  have o02 := o1.trans (o2.mono (by omega))
  try simp
  refine wq_ptr b2 rfl ?_
  try simp
  refine wp_call (slices_Clone_int (In.old o02 hvt) (by omega) _ (by omega)) fun v3 h3 ⟨o3, a3⟩ => ?_
  simp only at o3 a3
  have l3 := o3.1
  have r3 := r2.old o3 (by omega)
  have a23 := a2.keep o3
  try simp
  refine wp_cells a2.one ?_
  try simp
  refine wp_cells a3.one ?_
  simp [layAt]
  refine wq_put r3 (by omega) (vs := [v2, v3]) (fun _ => by rw [cellsK_agg]) (by rfl) (by simp) fun h6 l6 k6 b6 => ?_
  simp at b6
  try simp
  refine wq_ptrs b6 (by simp) ?_
  try simp
  refine wp_some ⟨(o02.trans (o3.mono (by omega))).trans (old_put l6 k6 (by omega) (by omega)), v2, v3, h2.length, rfl, (a23.but l6 k6 (by omega) (by omega)).mono (by omega) (by omega), fun j hj => ?_, by omega, by simp only; omega, a3.but l6 k6 (by omega) (by omega)⟩
  obtain ⟨_, ac, _⟩ := a2
  exact (ac.lt hj).2
end
end Go.AM

/- Given values; the parts of a node. -/
namespace Go.AM
set_option maxRecDepth 20000
set_option maxHeartbeats 1000000
attribute [local simp] layAt
attribute [local irreducible] lenK sliceK idxK fldK cutK storeK appK copyK clearK mapAtK callK loopH readK readK1 guardK grdK fnK nilK fieldK extrK strK nextK joinK iteK intK boolK cellsK castK castL castEnv binK unK intBin layParts execN runOpsN runItemsN denN call loop blockK
/-- Laid at the leaves' places, as far as one. -/
def giveTo (l : List node.den) (x : List tensor.den) : Nat → List tensor.den
  | 0 => List.replicate l.length noT
  | i + 1 => (giveTo l x i).set ((ends l).getD i 0).toNat (x.getD i noT)
theorem giveTo_len (l : List node.den) (x : List tensor.den) : ∀ i, (giveTo l x i).length = l.length
  | 0 => by simp [giveTo]
  | i + 1 => by simp [giveTo, giveTo_len l x i]
def givenL (l : List node.den) (x : List tensor.den) : List tensor.den := giveTo l x (ends l).length
theorem ofKind_pair (l : List node.den) (k : Int) : ∀ n, (ofKind l k n).Pairwise (· < ·)
  | 0 => by simp [ofKind]
  | n + 1 => by
      have ih := ofKind_pair l k n
      rw [ofKind, List.pairwise_append]
      refine ⟨ih, ?_, fun a ha b hb => ?_⟩
      · split
        · split <;> simp
        · simp
      · obtain ⟨i, hi, rfl, _, hn⟩ := mem_ofKind ha
        have : b = (n : Int) := by
          split at hb
          · split at hb <;> simp at hb
            exact hb
          · simp at hb
        omega
theorem ends_nodup (l : List node.den) : (ends l).Nodup := by
  rw [ends, List.nodup_append]
  refine ⟨(ofKind_pair l 1 l.length).imp fun h => by omega, (ofKind_pair l 2 l.length).imp fun h => by omega, fun a ha b hb e => ?_⟩
  obtain ⟨i, hi, rfl, h1, _⟩ := mem_ofKind ha
  obtain ⟨j, hj, rfl, h2, _⟩ := mem_ofKind hb
  obtain rfl : i = j := by omega
  exact absurd (h1.symm.trans h2) (by decide)
theorem idxOf_nodup {l : List Int} (hn : l.Nodup) {q : Nat} (hq : q < l.length) : l.idxOf l[q] = q := by
  have h1 : l.idxOf l[q] < l.length := List.idxOf_lt_length_of_mem (List.getElem_mem hq)
  have h2 : l[l.idxOf l[q]] = l[q] := List.getElem_idxOf h1
  exact (List.getElem_inj hn).1 h2
theorem giveTo_at {l : List node.den} {x : List tensor.den} : ∀ {j : Nat}, j ≤ (ends l).length → ∀ i : Nat, i < l.length → (giveTo l x j).getD i noT = if (i : Int) ∈ (ends l).take j then leafAt l x i else noT
  | 0, _, i, hi => by
      rw [giveTo, List.getD_eq_getElem?_getD, List.getElem?_replicate, if_pos hi]
      simp
  | j + 1, hj, i, hi => by
      have ih := giveTo_at (x := x) (j := j) (by omega) i hi
      obtain ⟨p0, p1, p2, _⟩ := mem_ends' (List.getElem_mem (show j < (ends l).length from hj))
      have eg : (ends l).getD j 0 = (ends l)[j] := by rw [List.getD_eq_getElem?_getD, List.getElem?_eq_getElem hj]; rfl
      have hlen := giveTo_len l x j
      rw [giveTo, eg, List.getD_eq_getElem?_getD, List.getElem?_set]
      by_cases c : (ends l)[j].toNat = i
      · rw [if_pos c, if_pos (by omega)]
        have e1 : (i : Int) = (ends l)[j] := by omega
        have hm : (i : Int) ∈ (ends l).take (j + 1) := by
          rw [e1, List.take_succ_eq_append_getElem hj, List.mem_append]
          exact .inr List.mem_cons_self
        rw [if_pos hm, leafAt, e1, idxOf_nodup (ends_nodup l) hj]
        rfl
      · rw [if_neg c, ← List.getD_eq_getElem?_getD, ih]
        have hm : (i : Int) ∈ (ends l).take (j + 1) ↔ (i : Int) ∈ (ends l).take j := by
          rw [List.take_succ_eq_append_getElem hj, List.mem_append]
          refine ⟨fun h => ?_, .inl⟩
          rcases h with h | h
          · exact h
          · have := List.mem_singleton.1 h
            omega
        by_cases c2 : (i : Int) ∈ (ends l).take j
        · rw [if_pos c2, if_pos (hm.2 c2)]
        · rw [if_neg c2, if_neg (fun h => c2 (hm.1 h))]
theorem givenL_len (l : List node.den) (x : List tensor.den) : (givenL l x).length = l.length := giveTo_len l x _
/-- At a leaf. -/
theorem givenL_at {l : List node.den} {x : List tensor.den} {i : Nat} (hi : i < l.length) (hk : leafK l[i].2.1 = true) : (givenL l x).getD i noT = leafAt l x i := by
  rw [givenL, giveTo_at (Nat.le_refl _) i hi, List.take_length, if_pos (ends_mem hi hk)]
section
variable {R : Type} {Q : R → Prop} {h : Heap}
theorem TenAt.own {n0 : Nat} {t : tensor.den} {v : AV} (H : TenAt n0 h t v) : ∃ vd vt, v = .agg [vd, vt] ∧ Holds (fun j => n0 ≤ j ∧ j < h.length) h tensor t [vd, vt] := by
  obtain ⟨vd, vt, k, rfl, a1, a2, a3, a4, a5⟩ := H
  exact ⟨vd, vt, rfl, holds_ten ((a1.holds (Nat.le_refl _)).mono fun j hj => hj) ((a5.holds (Nat.le_refl _)).mono fun j hj => ⟨Nat.le_trans a3 hj.1, hj.2⟩)⟩
theorem AccP.low {f n0 : Nat} {p : PT} {v : AV} {l : List p.den} (H : AccP f n0 h p v l) {j : Nat} (hj : v.blk = some j) : n0 ≤ j ∧ j < h.length := by
  obtain ⟨_, ac, _⟩ := H
  exact ac.lt hj
/-- A tensor of one's own is laid into a slice of such. -/
theorem wp_putTen {base n0 k : Nat} {v u : AV} {l : List tensor.den} {t : tensor.den} (H : AccP n0 n0 h tensor v l) (T : TenAt k h t u) (hk : n0 ≤ k) (hv : ∀ j, v.blk = some j → j < k) (hb : base ≤ n0) (hn : n0 ≤ h.length) {i : Nat} (hi : i < l.length) {K : Heap → Option R}
    (kk : ∀ h', But v h h' → h'.length = h.length → Old n0 h h' → AccP n0 n0 h' tensor v (l.set i t) → WP (K h') Q) : WP (storeK base 2 h (addrOf v 2 i 0) u K) Q := by
  obtain ⟨vd, vt, rfl, ht⟩ := T.own
  exact wp_put (p := tensor) (x := t) (ys := [vd, vt]) H (ht.mono fun j hj => ⟨by omega, hj.2, fun e => by have := hv j e; omega⟩) (fun _ => by rw [cellsK_agg]) rfl hb hn hi kk
theorem eval_Given {vl vx : AV} {l : List node.den} {x : List tensor.den} (hl : In h nodes l [vl]) (hx : In h tensors x [vx]) (hlen : l.length ≤ 1000000) (hxl : x.length = (ends l).length) (hok : ∀ t ∈ x, tenOk t = true) (b : Nat) (hb : b ≤ h.length) :
    WP (call prog b 120 [vl, vx] h) fun r => Old h.length h r.2 ∧ AccP h.length h.length r.2 tensor r.1 (givenL l x) ∧ ∀ j, r.1.blk = some j → j = h.length := by
  have hel : (ends l).length ≤ 2000000 := by
    have h1 := ofKind_len l 1 l.length
    have h2 := ofKind_len l 2 l.length
    simp [ends]
    omega
  refine wp_enter (fn := C.eval_Given) rfl ?_
  dsimp only [bodyN, C.eval_Given, C.eval_Given_l0]; simp
  refine wq_len hl ?_
  try simp
  refine wp_guard (by omega) ?_
  have mk := accp_make (h := h) (p := tensor) (n := l.length) (x := noT) (zs := [.nil, .nil]) (fun _ _ => holds_ten in_nil in_nil) (by omega)
  simp [PT.sz] at mk
  have o1 : Old h.length h (h ++ [AObj.cells 0 2 (List.replicate l.length [AV.nil, AV.nil]).flatten]) := Old.app
  have l1 : (h ++ [AObj.cells 0 2 (List.replicate l.length [AV.nil, AV.nil]).flatten]).length = h.length + 1 := by simp
  try simp
  generalize h ++ [AObj.cells 0 2 (List.replicate l.length [AV.nil, AV.nil]).flatten] = h1 at *
  refine wp_call (graph_Ends (In.old o1 hl) hlen b (by omega)) fun ve h2 ⟨o2, a2⟩ => ?_
  simp only at o2 a2
  have l2 := o2.1
  have he := a2.in (Nat.le_refl _)
  have o02 := o1.trans (o2.mono (by omega))
  have mk2 := mk.keep o2
  have ve2 : ∀ j, ve.blk = some j → h1.length ≤ j ∧ j < h2.length := fun j hj => a2.low hj
  try simp
  refine wq_len he ?_
  try simp
  refine wp_loop (I := fun m e h' => Old h.length h h' ∧ h2.length ≤ h'.length ∧ ∃ (i : Nat), e = (ea 1 vx <| ea 5 (.ref h.length 0 0 l.length) <| ea 12 ve <| ea 13 (.int .i64 (ends l).length) <| ea 14 (.int .i64 (i : Nat)) e0) ∧ i + m = (ends l).length ∧ In h' ints (ends l) [ve] ∧ AccP h1.length h1.length h' int ve (ends l) ∧ AccP h.length h.length h' tensor (.ref h.length 0 0 l.length) (giveTo l x i)) ?_ ⟨o02, Nat.le_refl _, 0, rfl, Nat.zero_add _, he, a2, mk2⟩
  rintro N m e' h3 ⟨o3, l3, i, rfl, him, he3, a3, acc⟩ next
  dsimp only [C.eval_Given_b0]; simp
  refine wp_dec (fun hi => ?_) fun hi => ?_
  · have hix : i < x.length := by omega
    have wi := succ64 (i := i) (n := 2000000) (by omega) (by omega)
    have hx3 := In.old o3 hx
    obtain ⟨p0, p1, p2, _⟩ := mem_ends' (List.getElem_mem hi)
    obtain ⟨s1, s2, s3, s4, s5⟩ := ten_parts (hok _ (List.getElem_mem hix))
    have glen := giveTo_len l x i
    try simp
    refine wq_idx he3 (by rfl) (by omega) (by omega) ?_
    try simp
    refine wq_int he3 hi ?_
    try simp
    refine wq_idx hx3 (by rfl) (by omega) (by omega) ?_
    try simp
    refine wq_tensor hx3 hix fun dd tt hdd htt => ?_
    try simp
    refine wp_call (eval_Own (holds_ten hdd htt) (by omega) (by omega) b (by omega)) fun v4 h4 ⟨o4, T4⟩ => ?_
    simp only at o4 T4
    have l4 := o4.1
    have acc4 := acc.keep o4
    have a4 := a3.keep o4
    try simp
    refine wq_idx (acc4.in (Nat.le_refl _)) (by rfl) p0 (by omega) ?_
    try simp
    refine wp_putTen acc4 T4 (by omega) (fun j hj => by cases hj; omega) hb (by omega) (by omega) fun h5 but5 l5 o5 acc5 => ?_
    simp [wi]
    have e1 : giveTo l x (i + 1) = (giveTo l x i).set (ends l)[i].toNat x[i] := by
      rw [giveTo, List.getD_eq_getElem?_getD, List.getD_eq_getElem?_getD, List.getElem?_eq_getElem hi, List.getElem?_eq_getElem hix]
      rfl
    have a5 := a4.flatI but5 (fun j hj => by cases hj; omega)
    exact next (m - 1) _ _ (by omega) ⟨o3.trans ((o4.mono (by omega)).trans o5), by omega, i + 1, by simp, by omega, a5.in (Nat.le_refl _), a5, by rw [e1]; exact acc5⟩
  · have ei : i = (ends l).length := by omega
    rw [ei] at acc
    try simp
    exact wp_some ⟨o3, acc, fun j hj => by cases hj; rfl⟩
theorem eval_Of {vv : AV} {V : List tensor.den} {x : node.den} {cs : List AV} (hv : In h tensors V [vv]) (hx : In h node x cs) (ha : argsOk V.length x.2.2.1 = true) (hsz : x.2.2.1.length ≤ 1000000) (b : Nat) (hb : b ≤ h.length) :
    WP (call prog b 122 [vv, .agg cs] h) fun r => Old h.length h r.2 ∧ In r.2 tensors (partsOf V x.2.2.1) [r.1] := by
  obtain ⟨va, vd, rfl, hva, hvd, _⟩ := hx.node
  refine wp_enter (fn := C.eval_Of) rfl ?_
  dsimp only [bodyN, C.eval_Of, C.eval_Of_l0]; simp
  generalize hh : h ++ [AObj.cells 0 1 [AV.str x.1, AV.int IntKind.i64 x.2.1, va, vd, AV.int IntKind.i64 x.2.2.2.2]] = h1
  have o1 : Old h.length h h1 := hh ▸ Old.app
  have l1 : h1.length = h.length + 1 := by rw [← hh]; simp
  have b1 : Box h1 h.length [AV.str x.1, AV.int IntKind.i64 x.2.1, va, vd, AV.int IntKind.i64 x.2.2.2.2] := by rw [← hh]; simp [Box]
  have hva1 := In.old o1 hva
  have hv1 := In.old o1 hv
  refine wq_ptr b1 rfl ?_
  try simp
  refine wq_len hva1 ?_
  try simp
  refine wp_loop (I := fun m e h' => Old h1.length h1 h' ∧ ∃ (i : Nat) (w : AV), e = (ea 0 vv <| ea 4 w <| ea 8 va <| ea 9 (.int .i64 x.2.2.1.length) <| ea 10 (.int .i64 (i : Nat)) e0) ∧ i + m = x.2.2.1.length ∧ AccP 0 h1.length h' tensor w (partsOf V (x.2.2.1.take i))) ?_ ⟨Old.refl (Nat.le_refl _), 0, .nil, rfl, Nat.zero_add _, AccP.nil⟩
  rintro N m e' h2 ⟨o2, i, w, rfl, him, acc⟩ next
  have l2 := o2.1
  have hva2 := In.old o2 hva1
  have hv2 : Holds (fun j => j < h1.length) h2 tensors V [vv] := hv1.frame fun j hj => ⟨hj, o2.2 j hj⟩
  dsimp only [C.eval_Of_b0]; simp
  refine wp_dec (fun hi => ?_) fun hi => ?_
  · have wi := succ64 (i := i) (n := 1000000) (by omega) (by omega)
    obtain ⟨p0, p1⟩ := argsOk_at ha (List.getElem_mem hi)
    have p2 : x.2.2.1[i].toNat < V.length := by omega
    have plen : (partsOf V (x.2.2.1.take i)).length = i := by simp [partsOf]; omega
    try simp
    refine wq_idx hva2 (by rfl) (by omega) (by omega) ?_
    try simp
    refine wq_int hva2 hi ?_
    try simp
    refine wq_idx hv2 (by rfl) p0 p1 ?_
    try simp
    refine wq_tensor hv2 p2 fun dd tt hdd htt => ?_
    simp [layAt]
    have acc2 := acc.keep (h' := h2 ++ [AObj.cells 0 2 [dd, tt]]) Old.app
    have o23 : Old h2.length h2 (h2 ++ [AObj.cells 0 2 [dd, tt]]) := Old.app
    refine wp_push (p := tensor) (x := V[x.2.2.1[i].toNat]) (bytes := 48) acc2 (Holds.beside (holds_ten hdd htt) acc2 (o23.mono l2)) rfl (by omega) (by simp; omega) (by omega) (by omega) fun w' h3 _ o3 acc3 => ?_
    simp [wi]
    have e1 : partsOf V (x.2.2.1.take (i + 1)) = partsOf V (x.2.2.1.take i) ++ [V[x.2.2.1[i].toNat]] := by
      rw [partsOf, map_take_succ _ hi, partsOf, List.getD_eq_getElem?_getD, List.getElem?_eq_getElem p2]
      rfl
    exact next (m - 1) _ _ (by omega) ⟨o2.trans ((o23.mono l2).trans o3), i + 1, w', by simp, by omega, by rw [e1]; exact acc3⟩
  · have ei : i = x.2.2.1.length := by omega
    rw [ei, List.take_length] at acc
    try simp
    exact wp_some ⟨o1.trans (o2.mono (by omega)), acc.in (Nat.zero_le _)⟩
end
end Go.AM

/- All values: the program's. -/
namespace Go.AM
set_option maxRecDepth 20000
set_option maxHeartbeats 1000000
attribute [local simp] layAt
attribute [local irreducible] lenK sliceK idxK fldK cutK storeK appK copyK clearK mapAtK callK loopH readK readK1 guardK grdK fnK nilK fieldK extrK strK nextK joinK iteK intK boolK cellsK castK castL castEnv binK unK intBin layParts execN runOpsN runItemsN denN call loop blockK
/-- Values as far as a node, behind them what is given. -/
def soFar (l : List node.den) (x : List tensor.den) (i : Nat) : List tensor.den := valsTo l x i ++ (givenL l x).drop i
theorem soFar_len {l : List node.den} {x : List tensor.den} {i : Nat} (hi : i ≤ l.length) : (soFar l x i).length = l.length := by
  rw [soFar, List.length_append, valsTo_len, List.length_drop, givenL_len]
  omega
theorem soFar_at {l : List node.den} {x : List tensor.den} {i q : Nat} (hq : q < i) : (soFar l x i).getD q noT = (valsTo l x i).getD q noT := by
  rw [soFar, getD_app_left (by rw [valsTo_len]; exact hq)]
theorem soFar_ok {l : List node.den} {x : List tensor.den} (hm : mayL l = true) (hf : fitsL l x = true) (hx : x.all tenOk = true) {i : Nat} (hi : i ≤ l.length) : ValsOk l (soFar l x i) i := by
  refine ⟨by rw [soFar_len hi]; exact hi, fun q hq hl => ?_⟩
  rw [soFar_at hq]
  exact (valsTo_ok hm hf hx hi).at_ q hq hl
theorem soFar_parts {l : List node.den} {x : List tensor.den} {i : Nat} {args : List Int} (ha : argsOk i args = true) : partsOf (soFar l x i) args = partsOf (valsTo l x i) args := by
  apply List.map_congr_left
  intro a h
  obtain ⟨h0, h1⟩ := argsOk_at ha h
  exact soFar_at (by omega)
theorem soFar_set {l : List node.den} {x : List tensor.den} {i : Nat} (hi : i < l.length) (t : tensor.den) : (soFar l x i).set i t = valsTo l x i ++ [t] ++ (givenL l x).drop (i + 1) := by
  have hl := valsTo_len l x i
  rw [soFar, List.set_append, if_neg (by omega), hl, Nat.sub_self, List.drop_eq_getElem_cons (by rw [givenL_len]; exact hi), List.set_cons_zero, List.append_assoc]
  rfl
theorem soFar_next {l : List node.den} {x : List tensor.den} {i : Nat} (hi : i < l.length) : (soFar l x i).set i (valAt l x (valsTo l x i) i) = soFar l x (i + 1) := by
  rw [soFar_set hi, soFar, valsTo]
theorem soFar_leaf {l : List node.den} {x : List tensor.den} {i : Nat} (hi : i < l.length) (hk : leafK l[i].2.1 = true) : soFar l x i = soFar l x (i + 1) := by
  have hg := givenL_at (x := x) hi hk
  have hl : i < (givenL l x).length := by rw [givenL_len]; exact hi
  rw [List.getD_eq_getElem?_getD, List.getElem?_eq_getElem hl] at hg
  have hg : (givenL l x)[i] = leafAt l x i := hg
  rw [soFar, soFar, valsTo, List.drop_eq_getElem_cons hl, hg, valAt, nodeAt_at hi, if_pos hk]
  simp
theorem valAt_do {l : List node.den} {x v : List tensor.den} {i : Nat} (hi : i < l.length) (hk : leafK l[i].2.1 = false) : valAt l x v i = doT l[i].2.1 l[i].2.2.2.2 (askD l[i]) (partsOf v l[i].2.2.1) := by
  rw [valAt, nodeAt_at hi, if_neg (by simp [hk])]
section
variable {R : Type} {Q : R → Prop} {h : Heap}
@[simp] theorem eval_Leaf (b : Nat) (k : Int) (K : AV → Heap → Option R) : callK (call prog) b 121 [.int .i64 k] h K = K (.bool (leafK k)) h := by
  have e : call prog b 121 [.int .i64 k] h = some (.bool (leafK k), h) := by
    refine wp_iff.1 (wp_enter (fn := C.eval_Leaf) rfl ?_)
    dsimp only [bodyN, C.eval_Leaf]; simp
    by_cases h1 : k = 1
    · simp [h1, leafK]
      exact wp_some rfl
    · simp [h1, leafK]
      exact wp_some rfl
  rw [callK_eq e]
theorem eval_Values {vl vx : AV} {l : List node.den} {x : List tensor.den} (hl : In h nodes l [vl]) (hx : In h tensors x [vx]) (hsm : Small l) (hm : mayL l = true) (hf : fitsL l x = true) (hok : x.all tenOk = true) (b : Nat) (hb : b ≤ h.length) :
    WP (call prog b 90 [vl, vx] h) fun r => Old h.length h r.2 ∧ AccP h.length h.length r.2 tensor r.1 (valuesL l x) := by
  have hlen := mayL_len hm
  have hxl : x.length = (ends l).length := by
    have := congrArg List.length (of_decide_eq_true hf)
    simpa using this.symm
  refine wp_enter (fn := C.eval_Values) rfl ?_
  dsimp only [bodyN, C.eval_Values, C.eval_Values_l0]; simp
  refine wp_call (eval_Given hl hx (by omega) hxl (List.all_eq_true.1 hok) b hb) fun v h1 ⟨o1, a1, v1⟩ => ?_
  simp only at o1 a1 v1
  have l1 := o1.1
  try simp
  refine wq_len hl ?_
  try simp
  refine wp_loop (I := fun m e h' => Old h.length h h' ∧ ∃ (i : Nat), e = (ea 5 v <| ea 11 vl <| ea 12 (.int .i64 l.length) <| ea 13 (.int .i64 (i : Nat)) e0) ∧ i + m = l.length ∧ AccP h.length h.length h' tensor v (soFar l x i)) ?_ ⟨o1, 0, rfl, Nat.zero_add _, a1⟩
  rintro N m e' h2 ⟨o2, i, rfl, him, acc⟩ next
  have l2 := o2.1
  have hl2 := In.old o2 hl
  dsimp only [C.eval_Values_b0]; simp
  refine wp_dec (fun hi => ?_) fun hi => ?_
  · have wi := succ64 (i := i) (n := 240) (by omega) (by omega)
    try simp
    refine wq_idx hl2 (by rfl) (by omega) (by omega) ?_
    try simp
    refine wq_node hl2 hi fun va vd hva hvd hnode => ?_
    try simp
    refine wq_init (by omega) (by rfl) (by rfl) fun h3 o3 b3 lt3 => ?_
    have l3 := o3.1
    have acc3 := acc.keep o3
    have o03 := o2.trans (o3.mono l2)
    try simp
    refine wq_ptr b3 rfl ?_
    try simp
    refine wp_iteK (fun hk => ?_) fun hk => ?_
    · have hk : leafK l[i].2.1 = false := by simpa using hk
      obtain ⟨p1, p2, p3⟩ := nodeOk_parts (mayL_at hm hi)
      have p1 : argsOk i l[i].2.2.1 = true := by rwa [List.length_take, Nat.min_eq_left (by omega)] at p1
      have pl := soFar_len (x := x) (i := i) (by omega) (l := l)
      have hi2 : l[i].2.2.1.length ≤ 1000000 := by
        have := formOk_many p2
        rw [List.length_map] at this
        simp [many] at this
        split at this
        · omega
        · split at this <;> omega
      have G := parts_good hm hi (soFar_ok hm hf hok (by omega)) hk
      have hn3 := In.old o3 hnode
      obtain ⟨_, _, _, _, _, _, hnum, _⟩ := hnode.node
      try simp
      refine wq_ptr b3 rfl ?_
      try simp
      refine wq_ptr b3 rfl ?_
      try simp
      refine wq_ptrs b3 (by simp) ?_
      try simp
      refine wp_call (graph_Asked hn3 _ (Nat.le_refl _)) fun vq h4 ⟨o4, hq4⟩ => ?_
      simp only at o4 hq4
      have l4 := o4.1
      have b4 := b3.old o4 b3.lt
      have acc4 := acc3.keep o4
      try simp
      refine wq_ptrs b4 (by simp) ?_
      try simp
      refine wp_call (eval_Of (acc4.in (Nat.le_refl _)) (In.old o4 hn3) (argsOk_mono (by omega) p1) hi2 _ (by omega)) fun vo h5 ⟨o5, ho5⟩ => ?_
      simp only at o5 ho5
      have l5 := o5.1
      have acc5 := acc4.keep o5
      try simp
      refine wp_call (kernel_Do (d := askD l[i]) (In.old o5 (In.old o4 hq4)) ho5 hnum G _ (by omega)) fun v6 h6 ⟨o6, v7, e6, T6⟩ => ?_
      simp only at o6 e6 T6
      subst e6
      have l6 := o6.1
      have acc6 := acc5.keep o6
      rw [soFar_parts p1, ← valAt_do (x := x) hi hk] at T6
      try simp
      refine wq_idx (acc6.in (Nat.le_refl _)) (by rfl) (by omega) (by omega) ?_
      try simp
      refine wp_putTen acc6 T6 (by omega) (fun j hj => by have := v1 j hj; omega) hb (by omega) (by rw [pl]; exact hi) fun h7 _ l7 o7 acc7 => ?_
      simp [wi]
      rw [soFar_next hi] at acc7
      exact next (m - 1) _ _ (by omega) ⟨(o03.trans ((o4.trans ((o5.trans (o6.mono l5)).mono l4)).mono (by omega))).trans o7, i + 1, by simp, by omega, acc7⟩
    · have hk : leafK l[i].2.1 = true := by simpa using hk
      simp [wi]
      rw [soFar_leaf hi hk] at acc3
      exact next (m - 1) _ _ (by omega) ⟨o03, i + 1, by simp, by omega, acc3⟩
  · have ei : i = l.length := by omega
    have e1 : soFar l x l.length = valuesL l x := by rw [soFar, List.drop_of_length_le (by rw [givenL_len]; exact Nat.le_refl _), List.append_nil, valuesL]
    rw [ei, e1] at acc
    try simp
    exact wp_some ⟨o2, acc⟩
end
end Go.AM

/- What eval's laws are handed: too heavy? The loss. -/
namespace Go.AM
set_option maxRecDepth 20000
set_option maxHeartbeats 1000000
attribute [local simp] layAt
attribute [local irreducible] lenK sliceK idxK fldK cutK storeK appK copyK clearK mapAtK callK loopH readK readK1 guardK grdK fnK nilK fieldK extrK strK nextK joinK iteK intK boolK cellsK castK castL castEnv binK unK intBin layParts execN runOpsN runItemsN denN call loop blockK
section
variable {R : Type} {Q : R → Prop} {S : Nat → Prop} {h : Heap}
theorem law0_TensorsWeight {v : AV} {l : List tensor.den} (hl : Holds S h tensors l [v]) (b : Nat) :
    WP (call prog b 88 [v] h) fun r => r.2 = h ∧ ∃ n : Int, r.1 = .int .i64 n := by
  have hle := holds_le hl
  refine wp_enter (fn := C.law0_TensorsWeight) rfl ?_
  dsimp only [bodyN, C.law0_TensorsWeight, C.law0_TensorsWeight_l0]; simp
  refine wq_len hl ?_
  try simp
  refine wp_loop (I := fun m e h' => h' = h ∧ ∃ (i : Nat) (n : Int), e = (ea 0 v <| ea 3 (.int .i64 n) <| ea 4 (.int .i64 (i : Nat)) e0) ∧ i + m = l.length) ?_ ⟨rfl, 0, _, rfl, Nat.zero_add _⟩
  rintro N m e _ ⟨rfl, i, n, rfl, him⟩ next
  dsimp only [C.law0_TensorsWeight_b0]; simp
  refine wq_len hl ?_
  try simp
  refine wp_dec (fun hi => ?_) fun hi => ?_
  · have wi := succ64 hi hle
    try simp
    refine wp_dec (fun h2 => ?_) fun h2 => wp_some ⟨rfl, n, rfl⟩
    try simp
    refine wq_idx hl (by rfl) (by omega) (by omega) ?_
    try simp
    refine wq_tdims hl hi fun u hu => ?_
    try simp
    refine wq_len hu ?_
    try simp
    refine wq_idx hl (by rfl) (by omega) (by omega) ?_
    try simp
    refine wq_tdata hl hi fun u2 hu2 => ?_
    try simp
    refine wq_len hu2 ?_
    simp [wi]
    exact next (m - 1) _ _ (by omega) ⟨rfl, i + 1, _, rfl, by omega⟩
  · try simp
    exact wp_some ⟨rfl, n, rfl⟩
theorem holds_ask10 {y : ask10.den} {as : List AV} (H : Holds S h ask10 y as) : ∃ a8 vl vn vd vx vv, as = [vl, vn, vd, vx, vv] ∧ a8 = [vl, vn, vd] ∧ Holds S h ask8 y.1 a8 ∧ Holds S h (.slice nodes) y.1.1 [vl] ∧ Holds S h (.slice tensors) y.2.1 [vx] ∧ Holds S h (.slice tensors) y.2.2 [vv] := by
  obtain ⟨c1, c2, rfl, h8, c3, c4, rfl, hx, hv⟩ := H
  obtain ⟨vl, vn, vd, rfl, hl, hn, hd⟩ := holds_ask8 h8
  obtain ⟨vx, _, rfl, _⟩ := id hx
  obtain ⟨vv, _, rfl, _⟩ := id hv
  exact ⟨_, vl, vn, vd, vx, vv, rfl, rfl, h8, hl, hx, hv⟩
theorem law10_Heavy {y : ask10.den} {as : List AV} (H : In h ask10 y as) (b : Nat) (hb : b ≤ h.length) : WP (call prog b 36 [.agg as] h) (Weighed h (light8 y.1)) := by
  obtain ⟨_, vl, vn, vd, vx, vv, rfl, rfl, h8, hl, hx, hv⟩ := holds_ask10 H
  have bx := holds_le hx
  have bv := holds_le hv
  refine wp_enter (fn := C.law10_Heavy) rfl ?_
  dsimp only [bodyN, C.law10_Heavy, C.law10_Heavy_l0, C.law10_Heavy_l1]; simp
  generalize hh : h ++ [AObj.cells 0 1 [vl, vn, vd, vx, vv]] = h1
  have o1 : Old h.length h h1 := hh ▸ Old.app
  have b1 : Box h1 h.length [vl, vn, vd, vx, vv] := by rw [← hh]; simp [Box]
  have l1 := o1.1
  have hx1 := In.old o1 hx
  have hv1 := In.old o1 hv
  refine wq_ptr b1 rfl ?_
  try simp
  refine wq_len hx1 ?_
  try simp
  refine wq_ptr b1 rfl ?_
  try simp
  refine wq_len hv1 ?_
  try simp
  refine wp_loop (I := fun m e h' => h' = h1 ∧ ∃ (i : Nat) (n : Int), e = (ea 1 (.ptr h.length 0 0) <| ea 3 (.int .i64 n) <| ea 4 (.int .i64 (i : Nat)) e0) ∧ i + m = y.2.1.length) ?_ ⟨rfl, 0, _, rfl, Nat.zero_add _⟩
  rintro N m e h3 ⟨rfl, i, n, rfl, him⟩ next
  dsimp only [C.law10_Heavy_b0]; simp
  refine wq_ptr b1 rfl ?_
  try simp
  refine wq_len hx1 ?_
  try simp
  refine wp_dec (fun hi => ?_) fun hi => ?_
  · have wi := succ64 hi bx
    try simp
    refine wp_dec (fun h2 => ?_) fun h2 => ?_
    · try simp
      refine wq_ptr b1 rfl ?_
      try simp
      refine wq_idx hx1 (by rfl) (by omega) (by omega) ?_
      try simp
      refine wq_sub hx1 hi fun u hu => ?_
      try simp
      refine wp_call (law0_TensorsWeight hu _) fun v3 h5 ⟨e3, n3, e3'⟩ => ?_
      simp only at e3 e3'
      subst e3 e3'
      simp [wi]
      exact next (m - 1) _ _ (by omega) ⟨rfl, i + 1, _, rfl, by omega⟩
    · try simp
      refine wp_loop (I := fun m e h' => h' = h3 ∧ ∃ (i : Nat) (n : Int), e = (ea 1 (.ptr h.length 0 0) <| ea 3 (.int .i64 n) <| ea 5 (.int .i64 (i : Nat)) e0) ∧ i + m = y.2.2.length) ?_ ⟨rfl, 0, _, rfl, Nat.zero_add _⟩
      rintro N2 m2 e2 _ ⟨rfl, i2, n2, rfl, him2⟩ next2
      dsimp only [C.law10_Heavy_b1]; simp
      refine wq_ptr b1 rfl ?_
      try simp
      refine wq_len hv1 ?_
      try simp
      refine wp_dec (fun hi2 => ?_) fun hi2 => ?_
      · have wi := succ64 hi2 bv
        try simp
        refine wp_dec (fun h2 => ?_) fun h2 => ?_
        · try simp
          refine wq_ptr b1 rfl ?_
          try simp
          refine wq_idx hv1 (by rfl) (by omega) (by omega) ?_
          try simp
          refine wq_sub hv1 hi2 fun u hu => ?_
          try simp
          refine wp_call (law0_TensorsWeight hu _) fun v3 h5 ⟨e3, n3, e3'⟩ => ?_
          simp only at e3 e3'
          subst e3 e3'
          simp [wi]
          exact next2 (m2 - 1) _ _ (by omega) ⟨rfl, i2 + 1, _, rfl, by omega⟩
        · (try simp); refine wp_dec (fun h9 => by (try simp); exact wp_some ⟨o1, _, rfl, fun hq => by simp at hq⟩) fun h9 => ?_; (try simp); refine wq_ptrs b1 (by simp) ?_; (try simp); refine wp_call (law8_Heavy (In.old o1 h8) _ (by omega)) fun v9 h9 ⟨o9, q, e9, lt9⟩ => ?_; simp only at o9 e9; subst e9; (try simp); exact wp_some ⟨o1.trans (o9.mono l1), q, rfl, lt9⟩
      · (try simp); refine wp_dec (fun h9 => by (try simp); exact wp_some ⟨o1, _, rfl, fun hq => by simp at hq⟩) fun h9 => ?_; (try simp); refine wq_ptrs b1 (by simp) ?_; (try simp); refine wp_call (law8_Heavy (In.old o1 h8) _ (by omega)) fun v9 h9 ⟨o9, q, e9, lt9⟩ => ?_; simp only at o9 e9; subst e9; (try simp); exact wp_some ⟨o1.trans (o9.mono l1), q, rfl, lt9⟩
  · try simp
    refine wp_loop (I := fun m e h' => h' = h3 ∧ ∃ (i : Nat) (n : Int), e = (ea 1 (.ptr h.length 0 0) <| ea 3 (.int .i64 n) <| ea 5 (.int .i64 (i : Nat)) e0) ∧ i + m = y.2.2.length) ?_ ⟨rfl, 0, _, rfl, Nat.zero_add _⟩
    rintro N2 m2 e2 _ ⟨rfl, i2, n2, rfl, him2⟩ next2
    dsimp only [C.law10_Heavy_b1]; simp
    refine wq_ptr b1 rfl ?_
    try simp
    refine wq_len hv1 ?_
    try simp
    refine wp_dec (fun hi2 => ?_) fun hi2 => ?_
    · have wi := succ64 hi2 bv
      try simp
      refine wp_dec (fun h2 => ?_) fun h2 => ?_
      · try simp
        refine wq_ptr b1 rfl ?_
        try simp
        refine wq_idx hv1 (by rfl) (by omega) (by omega) ?_
        try simp
        refine wq_sub hv1 hi2 fun u hu => ?_
        try simp
        refine wp_call (law0_TensorsWeight hu _) fun v3 h5 ⟨e3, n3, e3'⟩ => ?_
        simp only at e3 e3'
        subst e3 e3'
        simp [wi]
        exact next2 (m2 - 1) _ _ (by omega) ⟨rfl, i2 + 1, _, rfl, by omega⟩
      · (try simp); refine wp_dec (fun h9 => by (try simp); exact wp_some ⟨o1, _, rfl, fun hq => by simp at hq⟩) fun h9 => ?_; (try simp); refine wq_ptrs b1 (by simp) ?_; (try simp); refine wp_call (law8_Heavy (In.old o1 h8) _ (by omega)) fun v9 h9 ⟨o9, q, e9, lt9⟩ => ?_; simp only at o9 e9; subst e9; (try simp); exact wp_some ⟨o1.trans (o9.mono l1), q, rfl, lt9⟩
    · (try simp); refine wp_dec (fun h9 => by (try simp); exact wp_some ⟨o1, _, rfl, fun hq => by simp at hq⟩) fun h9 => ?_; (try simp); refine wq_ptrs b1 (by simp) ?_; (try simp); refine wp_call (law8_Heavy (In.old o1 h8) _ (by omega)) fun v9 h9 ⟨o9, q, e9, lt9⟩ => ?_; simp only at o9 e9; subst e9; (try simp); exact wp_some ⟨o1.trans (o9.mono l1), q, rfl, lt9⟩
end
end Go.AM

/- The loss; whether eval wakes. -/
namespace Go.AM
set_option maxRecDepth 20000
set_option maxHeartbeats 1000000
attribute [local simp] layAt
attribute [local irreducible] lenK sliceK idxK fldK cutK storeK appK copyK clearK mapAtK callK loopH readK readK1 guardK grdK fnK nilK fieldK extrK strK nextK joinK iteK intK boolK cellsK castK castL castEnv binK unK intBin layParts execN runOpsN runItemsN denN call loop blockK
theorem checkL_parts {l : List node.den} {x : List tensor.den} (h0 : checkL l x = 0) : mayL l = true ∧ x.all tenOk = true ∧ fitsL l x = true := by
  by_cases c1 : (mayL l && x.all tenOk) = true
  · by_cases c2 : fitsL l x = true
    · simp only [Bool.and_eq_true] at c1
      exact ⟨c1.1, c1.2, c2⟩
    · rw [checkL, if_pos c1, if_neg c2] at h0
      omega
  · rw [checkL, if_neg c1] at h0
    omega
theorem isL_ne {l : List node.den} (h : isL l = true) : 1 ≤ l.length := by
  simp only [isL, Bool.and_eq_true, decide_eq_true_eq] at h
  exact h.1.1.1.1.1
theorem valuesL_len (l : List node.den) (x : List tensor.den) : (valuesL l x).length = l.length := valsTo_len l x _
section
variable {R : Type} {Q : R → Prop} {h : Heap}
@[simp] theorem law10_num (b : Nat) (n : Int) (K : AV → Heap → Option R) : callK (call prog) b 38 [.int .i64 n] h K = K (.int .i64 n) h :=
  callK_eq (wp_iff.1 (wp_enter (fn := C.law10_num) rfl (by
    dsimp only [bodyN, C.law10_num]; simp
    exact wp_some rfl))) _
end
end Go.AM

/- Tensors, held against each other; leaves: the page's. -/
namespace Go.AM
set_option maxRecDepth 20000
set_option maxHeartbeats 1000000
attribute [local simp] layAt
attribute [local irreducible] lenK sliceK idxK fldK cutK storeK appK copyK clearK mapAtK callK loopH readK readK1 guardK grdK fnK nilK fieldK extrK strK nextK joinK iteK intK boolK cellsK castK castL castEnv binK unK intBin layParts execN runOpsN runItemsN denN call loop blockK
section
variable {R : Type} {Q : R → Prop} {h : Heap}
theorem ref0_EqTensor {s t : tensor.den} {cs ct : List AV} (hs : In h tensor s cs) (ht : In h tensor t ct) (b : Nat) (hb : b ≤ h.length) : WP (call prog b 41 [.agg cs, .agg ct] h) fun r => Old h.length h r.2 ∧ r.1 = .bool (decide (s = t)) := by
  obtain ⟨sd, st, rfl, hsd, hst⟩ := holds_tensor hs
  obtain ⟨td, tt, rfl, htd, htt⟩ := holds_tensor ht
  refine wp_enter (fn := C.ref0_EqTensor) rfl ?_
  dsimp only [bodyN, C.ref0_EqTensor]; simp
  generalize hh : h ++ [AObj.cells 0 1 [sd, st], AObj.cells 0 1 [td, tt]] = h1
  have o1 : Old h.length h h1 := hh ▸ Old.app
  have b1 : Box h1 h.length [sd, st] := by rw [← hh]; simp [Box]
  have c1 : Box h1 (h.length + 1) [td, tt] := by rw [← hh]; simp [Box]
  refine wq_ptr b1 rfl ?_
  try simp
  refine wq_ptr c1 rfl ?_
  try simp
  rw [callK_eq (ref0_EqNumbers (In.old o1 hsd) (In.old o1 htd) _)]
  try simp
  refine wp_dec (fun hk => ?_) fun hk => ?_
  · try simp
    refine wq_ptr b1 rfl ?_
    try simp
    refine wq_ptr c1 rfl ?_
    try simp
    rw [callK_eq (ref0_EqNumbers (In.old o1 hst) (In.old o1 htt) _)]
    try simp
    exact wp_some ⟨o1, by simp [Prod.ext_iff, hk]⟩
  · try simp
    exact wp_some ⟨o1, by simp [Prod.ext_iff, hk]⟩
theorem ref0_EqTensors {va vb : AV} {x y : List tensor.den} (hx : In h tensors x [va]) (hy : In h tensors y [vb]) (b : Nat) (hb : b ≤ h.length) : WP (call prog b 233 [va, vb] h) fun r => Old h.length h r.2 ∧ r.1 = .bool (decide (x = y)) := by
  have bx := holds_le hx
  refine wp_enter (fn := C.ref0_EqTensors) rfl ?_
  dsimp only [bodyN, C.ref0_EqTensors, C.ref0_EqTensors_l0]; simp
  refine wq_len hx ?_
  try simp
  refine wq_len hy ?_
  try simp
  refine wp_ndec (fun hne => ?_) fun hne => ?_
  · try simp
    exact wp_some ⟨Old.refl (Nat.le_refl _), by simp; intro e; rw [e] at hne; exact hne rfl⟩
  have hne : x.length = y.length := by omega
  try simp
  refine wp_loop (I := fun m e h' => Old h.length h h' ∧ ∃ (i : Nat), e = (ea 0 va <| ea 1 vb <| ea 5 (.int .i64 (i : Nat)) e0) ∧ i + m = x.length ∧ ∀ q, q < i → x[q]? = y[q]?) ?_ ⟨Old.refl (Nat.le_refl _), 0, rfl, Nat.zero_add _, fun q hq => absurd hq (Nat.not_lt_zero _)⟩
  rintro N m e h2 ⟨o2, i, rfl, him, hq⟩ next
  have l2 := o2.1
  have hx2 := In.old o2 hx
  have hy2 := In.old o2 hy
  dsimp only [C.ref0_EqTensors_b0]; simp
  refine wq_len hx2 ?_
  try simp
  refine wp_dec (fun hi => ?_) fun hi => ?_
  · have wi := succ64 hi bx
    have hiy : i < y.length := by omega
    try simp
    refine wq_idx hx2 (by rfl) (by omega) (by omega) ?_
    try simp
    refine wq_tensor hx2 hi fun da ta hda hta => ?_
    try simp
    refine wq_idx hy2 (by rfl) (by omega) (by omega) ?_
    try simp
    refine wq_tensor hy2 hiy fun dc tc hdc htc => ?_
    try simp
    refine wp_call (ref0_EqTensor (s := x[i]) (t := y[i]) (holds_ten hda hta) (holds_ten hdc htc) _ (Nat.le_refl _)) fun v3 h3 ⟨o3, e3⟩ => ?_
    simp only at o3 e3
    subst e3
    have o03 := o2.trans (o3.mono l2)
    try simp
    refine wp_ndec (fun hc => ?_) fun hc => ?_
    · try simp
      exact wp_some ⟨o03, by simp; intro e; subst e; exact hc rfl⟩
    · simp [wi]
      refine next (m - 1) _ _ (by omega) ⟨o03, i + 1, by simp, by omega, fun q hq' => ?_⟩
      by_cases c : q = i
      · rw [c, List.getElem?_eq_getElem hi, List.getElem?_eq_getElem hiy, hc]
      · exact hq q (by omega)
  · try simp
    refine wp_some ⟨o2, ?_⟩
    have : x = y := by
      apply List.ext_getElem?
      intro q
      rcases Nat.lt_or_ge q i with h1 | h1
      · exact hq q h1
      · rw [List.getElem?_eq_none (by omega), List.getElem?_eq_none (by omega)]
    simp [this]
theorem ref7_Leaves {vl : AV} {l : List node.den} (hl : In h nodes l [vl]) (hlen : l.length ≤ 1000000) (b : Nat) (hb : b ≤ h.length) :
    WP (call prog b 40 [vl] h) fun r => Old h.length h r.2 ∧ AccP 0 h.length r.2 int r.1 (ends l) := by
  refine wp_enter (fn := C.ref7_Leaves) rfl ?_
  dsimp only [bodyN, C.ref7_Leaves, C.ref7_Leaves_l1]; simp
  refine wp_loop (I := fun m e h' => Old h.length h h' ∧ ∃ (k : Nat) (v : AV), e = (ea 0 vl <| ea 3 v <| ea 4 (.int .i64 ((k : Int) + 1)) e0) ∧ k + m = 2 ∧ AccP 0 h.length h' int v (endsAt l k)) ?_ (m := 2) ⟨Old.refl (Nat.le_refl _), 0, .nil, by simp, rfl, AccP.nil⟩
  rintro N m e h2 ⟨o2, k, v, rfl, hkm, acc⟩ next
  dsimp only [C.ref7_Leaves_b1, C.ref7_Leaves_l0]; simp
  refine wp_dec (fun hk => ?_) fun hk => ?_
  · have ek : endsAt l (k + 1) = endsAt l k ++ ofKind l ((k : Int) + 1) l.length := by
      have : k = 0 ∨ k = 1 := by omega
      rcases this with rfl | rfl <;> simp [endsAt, ends]
    have w2 : IntKind.i64.wrap ((k : Int) + 1 + 1) = (k : Int) + 1 + 1 := w64_id (by omega) (by omega)
    try simp
    refine wp_loop (I := fun m e h' => Old h.length h h' ∧ ∃ (i : Nat) (w : AV), e = (ea 0 vl <| ea 3 w <| ea 4 (.int .i64 ((k : Int) + 1)) <| ea 5 (.int .i64 (i : Nat)) e0) ∧ i + m = l.length ∧ AccP 0 h.length h' int w (endsAt l k ++ ofKind l ((k : Int) + 1) i)) ?_ (m := l.length) ⟨o2, 0, v, rfl, Nat.zero_add _, by rw [ofKind, List.append_nil]; exact acc⟩
    rintro N2 m2 e2 h3 ⟨o3, i, w, rfl, him, acc3⟩ next2
    have l3 := o3.1
    have hl3 := In.old o3 hl
    have hlk : (endsAt l k).length ≤ 1000000 := by
      have h1 := ofKind_len l 1 l.length
      have : k = 0 ∨ k = 1 := by omega
      rcases this with rfl | rfl <;> simp [endsAt] <;> omega
    have hli := ofKind_len l ((k : Int) + 1) i
    dsimp only [C.ref7_Leaves_b0]; simp
    refine wq_len hl3 ?_
    try simp
    refine wp_dec (fun hi => ?_) fun hi => ?_
    · have wi := succ64 (i := i) (n := 1000000) (by omega) (by omega)
      try simp
      refine wq_idx hl3 (by rfl) (by omega) (by omega) ?_
      try simp
      refine wq_kind hl3 hi ?_
      try simp
      refine wp_dec (fun hc => ?_) fun hc => ?_
      · try simp [layAt]
        refine wp_pushI acc3 (x := (i : Int)) (by omega) (by omega) l3 (by rw [List.length_append]; omega) fun w' h4 o4 acc4 => ?_
        simp [wi]
        refine next2 (m2 - 1) _ _ (by omega) ⟨o3.trans o4, i + 1, w', by simp, by omega, ?_⟩
        rw [ofKind, List.getElem?_eq_getElem hi, ← List.append_assoc]
        simp only [hc, if_true]
        exact acc4
      · simp [wi]
        refine next2 (m2 - 1) _ _ (by omega) ⟨o3, i + 1, w, by simp, by omega, ?_⟩
        rw [ofKind, List.getElem?_eq_getElem hi]
        simp only [hc, if_false, List.append_nil]
        exact acc3
    · have ei : i = l.length := by omega
      rw [ei, ← ek] at acc3
      simp [w2]
      exact next (m - 1) _ _ (by omega) ⟨o3, k + 1, w, by simp, by omega, acc3⟩
  · have ek : k = 2 := by omega
    subst ek
    try simp
    exact wp_some ⟨o2, acc⟩
end
end Go.AM

/- Values at nodes. -/
namespace Go.AM
set_option maxRecDepth 20000
set_option maxHeartbeats 1000000
attribute [local simp] layAt
attribute [local irreducible] lenK sliceK idxK fldK cutK storeK appK copyK clearK mapAtK callK loopH readK readK1 guardK grdK fnK nilK fieldK extrK strK nextK joinK iteK intK boolK cellsK castK castL castEnv binK unK intBin layParts execN runOpsN runItemsN denN call loop blockK
theorem fits_len {l : List node.den} {x : List tensor.den} (hf : fitsL l x = true) : (ends l).length = x.length := by
  have := congrArg List.length (of_decide_eq_true hf)
  simpa using this
theorem ends_len (l : List node.den) : (ends l).length ≤ 2 * l.length := by
  have h1 := ofKind_len l 1 l.length
  have h2 := ofKind_len l 2 l.length
  simp [ends]
  omega
end Go.AM

/- What fits: the page's. -/
namespace Go.AM
set_option maxRecDepth 20000
set_option maxHeartbeats 1000000
attribute [local simp] layAt
attribute [local irreducible] lenK sliceK idxK fldK cutK storeK appK copyK clearK mapAtK callK loopH readK readK1 guardK grdK fnK nilK fieldK extrK strK nextK joinK iteK intK boolK cellsK castK castL castEnv binK unK intBin layParts execN runOpsN runItemsN denN call loop blockK
section
variable {R : Type} {Q : R → Prop} {h : Heap}
end
end Go.AM

/- All values: the page's. -/
namespace Go.AM
set_option maxRecDepth 20000
set_option maxHeartbeats 1000000
attribute [local simp] layAt
attribute [local irreducible] lenK sliceK idxK fldK cutK storeK appK copyK clearK mapAtK callK loopH readK readK1 guardK grdK fnK nilK fieldK extrK strK nextK joinK iteK intK boolK cellsK castK castL castEnv binK unK intBin layParts execN runOpsN runItemsN denN call loop blockK
theorem idxFrom_idxOf {i : Int} : ∀ {l : List Int} {n : Nat}, i ∈ l → idxFrom n (l.map fun x => decide (x = i)) = ((n + l.idxOf i : Nat) : Int)
  | [], _, h => by simp at h
  | a :: l, n, h => by
      by_cases c : a = i
      · subst c
        simp [idxFrom]
      · have hm : i ∈ l := by
          rcases List.mem_cons.1 h with h | h
          · exact absurd h.symm c
          · exact h
        have ih := idxFrom_idxOf (n := n + 1) hm
        simp only [List.map_cons, c, decide_false, idxFrom, ih, List.idxOf_cons]
        have : (a == i) = false := by simpa using c
        rw [this]
        simp
        omega
theorem leafAt_get {l : List node.den} {x : List tensor.den} (hf : fitsL l x = true) {i : Nat} (hi : i < l.length) (hk : leafK l[i].2.1 = true) : ∃ hj : (ends l).idxOf (i : Int) < x.length, leafAt l x i = x[(ends l).idxOf (i : Int)] := by
  have hj := List.idxOf_lt_length_of_mem (ends_mem hi hk)
  have hlen := fits_len hf
  have hjx : (ends l).idxOf (i : Int) < x.length := by omega
  exact ⟨hjx, by rw [leafAt, List.getD_eq_getElem?_getD, List.getElem?_eq_getElem hjx]; rfl⟩
section
variable {R : Type} {Q : R → Prop} {h : Heap}
theorem ref10_Leaf {vl vx : AV} {l : List node.den} {x : List tensor.den} (hl : In h nodes l [vl]) (hx : In h tensors x [vx]) (hlen : l.length ≤ 240) (hf : fitsL l x = true) (hok : x.all tenOk = true) {i : Nat} (hi : i < l.length) (hk : leafK l[i].2.1 = true) (b : Nat) (hb : b ≤ h.length) :
    WP (call prog b 241 [vl, vx, .int .i64 (i : Nat)] h) fun r => Old h.length h r.2 ∧ TenAt h.length r.2 (leafAt l x i) r.1 := by
  have hm := ends_mem hi hk
  obtain ⟨hj, ej⟩ := leafAt_get hf hi hk
  obtain ⟨s1, s2, s3, s4, s5⟩ := ten_parts (List.all_eq_true.1 hok _ (List.getElem_mem hj))
  have eI : idxFrom 0 ((ends l).map fun x => decide (x = (i : Int))) = ((ends l).idxOf (i : Int) : Int) := by
    have := idxFrom_idxOf (n := 0) hm
    simpa using this
  rw [ej]
  refine wp_enter (fn := C.ref10_Leaf) rfl ?_
  dsimp only [bodyN, C.ref10_Leaf]; simp
  generalize hh : h ++ [AObj.cells 0 1 [AV.nil, AV.nil]] = h1
  have o1 : Old h.length h h1 := hh ▸ Old.app
  have l1 : h1.length = h.length + 1 := by rw [← hh]; simp
  have r1 : Box h1 h.length [AV.nil, AV.nil] := by rw [← hh]; simp [Box]
  have lr1 := r1.lt
  refine wp_call (ref7_Leaves (In.old o1 hl) (by omega) b (by omega)) fun ve h2 ⟨o2, a2⟩ => ?_
  simp only at o2 a2
  have l2 := o2.1
  have he := a2.in (Nat.zero_le _)
  have o02 := o1.trans (o2.mono (by omega))
  have hx2 := In.old o02 hx
  have r2 := r1.old o2 (by omega)
  try simp
  rw [callK_eq (ref0_In he _ _), eI]
  try simp
  refine wq_idx hx2 (by rfl) (by omega) (by omega) ?_
  try simp
  refine wq_tensor hx2 hj fun dd tt hdd htt => ?_
  try simp
  refine wp_call (ref0_CopyTensor (t := x[(ends l).idxOf (i : Int)]) (holds_ten hdd htt) (by omega) (by omega) b (by omega)) fun v3 h3 ⟨o3, T3⟩ => ?_
  simp only at o3 T3
  have l3 := o3.1
  have r3 := r2.old o3 (by omega)
  obtain ⟨vd', vt', rfl⟩ := T3.agg
  try simp
  refine wq_put r3 (by omega) (vs := [vd', vt']) (fun _ => by rw [cellsK_agg]) (by rfl) (by simp) fun h6 l6 k6 b6 => ?_
  simp at b6
  try simp
  refine wq_ptrs b6 (by simp) ?_
  try simp
  exact wp_some ⟨(o02.trans (o3.mono (by omega))).trans (old_put l6 k6 (by omega) (by omega)), (T3.but l6 k6 (by omega)).mono (by omega)⟩
theorem ref10_of {vv va : AV} {V : List tensor.den} {args : List Int} (hv : In h tensors V [vv]) (ha : In h ints args [va]) (hok : argsOk V.length args = true) (hsz : args.length ≤ 1000000) (b : Nat) (hb : b ≤ h.length) :
    WP (call prog b 242 [vv, va] h) fun r => Old h.length h r.2 ∧ In r.2 tensors (partsOf V args) [r.1] := by
  refine wp_enter (fn := C.ref10_of) rfl ?_
  dsimp only [bodyN, C.ref10_of, C.ref10_of_l0]; simp
  refine wp_loop (I := fun m e h' => Old h.length h h' ∧ ∃ (i : Nat) (w : AV), e = (ea 0 vv <| ea 1 va <| ea 5 w <| ea 6 (.int .i64 (i : Nat)) e0) ∧ i + m = args.length ∧ AccP 0 h.length h' tensor w (partsOf V (args.take i))) ?_ ⟨Old.refl (Nat.le_refl _), 0, .nil, rfl, Nat.zero_add _, AccP.nil⟩
  rintro N m e' h2 ⟨o2, i, w, rfl, him, acc⟩ next
  have l2 := o2.1
  have hva2 := In.old o2 ha
  have hv2 : Holds (fun j => j < h.length) h2 tensors V [vv] := hv.frame fun j hj => ⟨hj, o2.2 j hj⟩
  dsimp only [C.ref10_of_b0]; simp
  refine wq_len hva2 ?_
  try simp
  refine wp_dec (fun hi => ?_) fun hi => ?_
  · have wi := succ64 (i := i) (n := 1000000) (by omega) (by omega)
    obtain ⟨p0, p1⟩ := argsOk_at hok (List.getElem_mem hi)
    have p2 : args[i].toNat < V.length := by omega
    have plen : (partsOf V (args.take i)).length = i := by simp [partsOf]; omega
    try simp
    refine wq_idx hva2 (by rfl) (by omega) (by omega) ?_
    try simp
    refine wq_int hva2 hi ?_
    try simp
    refine wq_idx hv2 (by rfl) p0 p1 ?_
    try simp
    refine wq_tensor hv2 p2 fun dd tt hdd htt => ?_
    simp [layAt]
    have acc2 := acc.keep (h' := h2 ++ [AObj.cells 0 2 [dd, tt]]) Old.app
    have o23 : Old h2.length h2 (h2 ++ [AObj.cells 0 2 [dd, tt]]) := Old.app
    refine wp_push (p := tensor) (x := V[args[i].toNat]) (bytes := 48) acc2 (Holds.beside (holds_ten hdd htt) acc2 (o23.mono l2)) rfl (by omega) (by simp; omega) (by omega) (by omega) fun w' h3 _ o3 acc3 => ?_
    simp [wi]
    have e1 : partsOf V (args.take (i + 1)) = partsOf V (args.take i) ++ [V[args[i].toNat]] := by
      rw [partsOf, map_take_succ _ hi, partsOf, List.getD_eq_getElem?_getD, List.getElem?_eq_getElem p2]
      rfl
    exact next (m - 1) _ _ (by omega) ⟨o2.trans ((o23.mono l2).trans o3), i + 1, w', by simp, by omega, by rw [e1]; exact acc3⟩
  · have ei : i = args.length := by omega
    rw [ei, List.take_length] at acc
    try simp
    exact wp_some ⟨o2, acc.in (Nat.zero_le _)⟩
theorem ref10_Made {n : node.den} {cs : List AV} {va : AV} {ls : List tensor.den} {x : List Int} (hn : In h node n cs) (ha : In h tensors ls [va]) (G : Good n.2.1 n.2.2.2.2 (askD n) ls x) (b : Nat) (hb : b ≤ h.length) :
    WP (call prog b 243 [.agg cs, va] h) fun r => Old h.length h r.2 ∧ TenAt h.length r.2 (doT n.2.1 n.2.2.2.2 (askD n) ls) r.1 := by
  obtain ⟨vA, vD, rfl, hA, hD, _, hnum, _⟩ := hn.node
  refine wp_enter (fn := C.ref10_Made) rfl ?_
  dsimp only [bodyN, C.ref10_Made]; simp
  generalize hh : h ++ [AObj.cells 0 1 [AV.str n.1, AV.int IntKind.i64 n.2.1, vA, vD, AV.int IntKind.i64 n.2.2.2.2], AObj.cells 0 1 [AV.nil, AV.nil]] = h1
  have o1 : Old h.length h h1 := hh ▸ Old.app
  have l1 : h1.length = h.length + 2 := by rw [← hh]; simp
  have b1 : Box h1 h.length [AV.str n.1, AV.int IntKind.i64 n.2.1, vA, vD, AV.int IntKind.i64 n.2.2.2.2] := by rw [← hh]; simp [Box]
  have r1 : Box h1 (h.length + 1) [AV.nil, AV.nil] := by rw [← hh]; simp [Box]
  have lr1 := r1.lt
  have fin : ∀ (w : AV) (K : AV → Heap → Option (AV × Heap)), In h1 ints (askD n) [w] → (∀ v h2, Old h1.length h1 h2 → TenAt h1.length h2 (doT n.2.1 n.2.2.2.2 (askD n) ls) v → WP (K v h2) fun r => Old h.length h r.2 ∧ TenAt h.length r.2 (doT n.2.1 n.2.2.2.2 (askD n) ls) r.1) → WP (callK (call prog) b 250 [.int .i64 n.2.1, .int .i64 n.2.2.2.2, w, va] h1 K) fun r => Old h.length h r.2 ∧ TenAt h.length r.2 (doT n.2.1 n.2.2.2.2 (askD n) ls) r.1 := fun w K hw hK =>
    wp_call (ref1_Do hw (In.old o1 ha) hnum G b (by omega)) fun v h2 ⟨o2, T2⟩ => hK v h2 o2 T2
  refine wq_ptr b1 rfl ?_
  try simp
  refine wp_iteK (fun hk => ?_) fun hk => ?_
  · have eA : askD n = n.2.2.2.1 := by rw [askD, if_pos hk]
    try simp
    refine wq_ptr b1 rfl ?_
    try simp
    refine wq_ptr b1 rfl ?_
    try simp
    refine wq_ptr b1 rfl ?_
    try simp
    refine fin vD _ (by rw [eA]; exact In.old o1 hD) fun v2 h2 o2 T2 => ?_
    obtain ⟨vd', vt', rfl⟩ := T2.agg
    have l2 := o2.1
    have r2 := r1.old o2 (by omega)
    try simp
    refine wq_put r2 (by omega) (vs := [vd', vt']) (fun _ => by rw [cellsK_agg]) (by rfl) (by simp) fun h6 l6 k6 b6 => ?_
    simp at b6
    try simp
    refine wq_ptrs b6 (by simp) ?_
    try simp
    exact wp_some ⟨(o1.trans (o2.mono (by omega))).trans (old_put l6 k6 (by omega) (by omega)), (T2.but l6 k6 (by omega)).mono (by omega)⟩
  · have eA : askD n = [] := by rw [askD, if_neg (by rw [hk]; simp)]
    try simp
    refine wq_ptr b1 rfl ?_
    try simp
    refine wq_ptr b1 rfl ?_
    try simp
    refine fin .nil _ (by rw [eA]; exact in_nil) fun v2 h2 o2 T2 => ?_
    obtain ⟨vd', vt', rfl⟩ := T2.agg
    have l2 := o2.1
    have r2 := r1.old o2 (by omega)
    try simp
    refine wq_put r2 (by omega) (vs := [vd', vt']) (fun _ => by rw [cellsK_agg]) (by rfl) (by simp) fun h6 l6 k6 b6 => ?_
    simp at b6
    try simp
    refine wq_ptrs b6 (by simp) ?_
    try simp
    exact wp_some ⟨(o1.trans (o2.mono (by omega))).trans (old_put l6 k6 (by omega) (by omega)), (T2.but l6 k6 (by omega)).mono (by omega)⟩
end
end Go.AM
