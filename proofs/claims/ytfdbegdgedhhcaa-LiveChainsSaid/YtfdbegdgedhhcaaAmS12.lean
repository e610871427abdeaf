/- Leaves. -/
import Derived.Test.YtfdbegdgedhhcaaAmAuto
set_option linter.all false
namespace Go.AM
set_option maxRecDepth 20000
set_option maxHeartbeats 400000
/-- Where nodes of a kind are, up to a place. -/
def ofKind (l : List node.den) (k : Int) : Nat → List Int
  | 0 => []
  | i + 1 => ofKind l k i ++ (match l[i]? with | some x => if x.2.1 = k then [(i : Int)] else [] | none => [])
theorem ofKind_len (l : List node.den) (k : Int) : ∀ i, (ofKind l k i).length ≤ i
  | 0 => Nat.le_refl _
  | i + 1 => by
      have := ofKind_len l k i
      rw [ofKind, List.length_append]
      split
      · split <;> simp <;> omega
      · simp; omega
/-- Inputs, then parameters. -/
def ends (l : List node.den) : List Int := ofKind l 1 l.length ++ ofKind l 2 l.length
def endsAt (l : List node.den) : Nat → List Int
  | 0 => []
  | 1 => ofKind l 1 l.length
  | _ => ends l
section
variable {h : Heap}
theorem graph_Ends {vl : AV} {l : List node.den} (hl : In h nodes l [vl]) (hlen : l.length ≤ 1000000) (b : Nat) (hb : b ≤ h.length) :
    WP (call prog b 69 [vl] h) fun r => Old h.length h r.2 ∧ AccP h.length h.length r.2 int r.1 (ends l) := by
  obtain ⟨dl, sl, cl, bl⟩ := hl.nodes
  refine wp_enter (fn := C.graph_Ends) rfl ?_
  dsimp only [bodyN, C.graph_Ends, C.graph_Ends_l1]; simp [layAt]
  generalize hh : h ++ [AObj.cells 0 1 [AV.int IntKind.i64 1, AV.int IntKind.i64 2]] = h1
  have o1 : Old h.length h h1 := hh ▸ Old.app
  have hnew := AccP.newInts (h := h) (l := [1, 2]) (by simp) (by intro x hx; simp at hx; omega)
  have hk : In h1 ints [1, 2] [.ref h.length 0 0 2] := hh ▸ (hnew.holds (Nat.le_refl _)).mono fun j hj => hj.2
  obtain ⟨dk, sk, ck, _, _⟩ := hk.ints
  have sl1 := sl.old o1 (Nat.le_refl _)
  refine wp_loop (I := fun m e h' => Old h1.length h1 h' ∧ ∃ j v, e = (ea 0 vl <| ea 2 v <| ea 7 (.ref h.length 0 0 2) <| ea 8 (.int .i64 2) <| ea 9 (.int .i64 (j : Nat)) e0) ∧ j + m = 2 ∧ AccP h1.length h1.length h' int v (endsAt l j)) ?_ ⟨Old.refl (Nat.le_refl _), 0, .nil, rfl, Nat.zero_add _, AccP.nil⟩
  rintro N m e h' ⟨old, j, v, rfl, hjm, acc⟩ next
  have o2 := o1.trans (old.mono o1.1)
  dsimp only [C.graph_Ends_b1, C.graph_Ends_l0]; simp
  refine wp_dec (fun hj => ?_) fun hj => ?_
  · try simp
    have hj2 : j < [(1 : Int), 2].length := by simp; omega
    have sk' := sk.old old (Nat.le_refl _)
    refine wp_idx sk' rfl hj2 ?_
    try simp
    refine wp_cell sk' hj2 (ck j hj2) rfl ?_
    try simp
    have sl2 := sl.old o2 (Nat.le_refl _)
    refine wp_len sl2 ?_
    try simp
    generalize hkk : [(1 : Int), 2][j] = kk
    have hsum : endsAt l (j + 1) = endsAt l j ++ ofKind l kk l.length := by
      have : j = 0 ∨ j = 1 := by omega
      rcases this with rfl | rfl <;> (simp at hkk; subst hkk; simp [endsAt, ends])
    have hel : (endsAt l j).length ≤ 1000000 := by
      have : j = 0 ∨ j = 1 := by omega
      rcases this with rfl | rfl
      · simp [endsAt]
      · have := ofKind_len l 1 l.length
        simp only [endsAt]
        omega
    refine wp_loop (I := fun m2 e h2 => Old h1.length h1 h2 ∧ ∃ i v', e = (ea 0 vl <| ea 2 v' <| ea 4 (.int .i64 kk) <| ea 7 (.ref h.length 0 0 2) <| ea 8 (.int .i64 2) <| ea 9 (.int .i64 (j : Nat)) <| ea 13 vl <| ea 14 (.int .i64 l.length) <| ea 15 (.int .i64 (i : Nat)) e0) ∧ i + m2 = l.length ∧ AccP h1.length h1.length h2 int v' (endsAt l j ++ ofKind l kk i)) ?_ ⟨old, 0, v, rfl, Nat.zero_add _, by simpa [ofKind] using acc⟩
    rintro N2 m2 e h2 ⟨old2, i, v', rfl, him, acc2⟩ next2
    have o3 := o1.trans (old2.mono o1.1)
    have sl3 := sl.old o3 (Nat.le_refl _)
    dsimp only [C.graph_Ends_b0]; simp [layAt]
    refine wp_dec (fun hi => ?_) fun hi => ?_
    · try simp
      obtain ⟨a, d, e, ha, hd, hn⟩ := cl i hi
      refine wp_idx sl3 rfl hi ?_
      try simp
      refine wp_elem sl3 hi e ?_
      try simp
      refine wp_init (Nat.le_trans hb o3.1) (by rfl) (by rfl) ?_
      try simp
      generalize hh3 : h2 ++ [AObj.cells 0 1 [AV.str l[i].fst, AV.int IntKind.i64 l[i].snd.fst, a, d, AV.int IntKind.i64 l[i].snd.snd.snd.snd]] = h3
      have o23 : Old h2.length h2 h3 := hh3 ▸ Old.app
      have hbx : h3[h2.length]? = some (.cells 0 1 [AV.str l[i].fst, AV.int IntKind.i64 l[i].snd.fst, a, d, AV.int IntKind.i64 l[i].snd.snd.snd.snd]) := by rw [← hh3]; simp
      have old3 := old2.trans (o23.mono old2.1)
      have acc3 := acc2.keep o23
      have hil := ofKind_len l kk i
      refine wp_ptr1 hbx rfl ?_
      try simp
      refine wp_dec (fun hq => ?_) fun hq => ?_
      · simp [layAt]
        refine wp_pushI acc3 (by omega) (Nat.le_trans hb o1.1) old3.1 (by rw [List.length_append]; omega) fun v4 h4 o4 acc4 => ?_
        try simp
        rw [succ64 hi bl]
        refine next2 (m2 - 1) _ _ (by omega) ⟨old3.trans o4, i + 1, _, rfl, by omega, ?_⟩
        rw [ofKind, List.getElem?_eq_getElem hi, ← List.append_assoc]
        simpa [hq] using acc4
      · try simp
        rw [succ64 hi bl]
        refine next2 (m2 - 1) _ _ (by omega) ⟨old3, i + 1, _, rfl, by omega, ?_⟩
        rw [ofKind, List.getElem?_eq_getElem hi]
        simpa [hq] using acc3
    · try simp
      rw [succ64 (n := 2) (by omega) (by omega)]
      have : i = l.length := by omega
      subst this
      exact next (m - 1) _ _ (by omega) ⟨old2, j + 1, _, rfl, by omega, by rw [hsum]; exact acc2⟩
  · try simp
    have : j = 2 := by omega
    subst this
    exact wp_some ⟨o2, acc.mono o1.1 o1.1⟩
end
end Go.AM
