/- From when to when. -/
import Derived.Test.YtfdbegdgedhhcaaAmS21
set_option linter.all false
namespace Go.AM
set_option maxRecDepth 20000
set_option maxHeartbeats 1000000
attribute [local simp] layAt
attribute [local irreducible] lenK sliceK idxK fldK cutK storeK appK copyK clearK mapAtK callK loopH readK readK1 guardK grdK fnK nilK fieldK extrK strK nextK joinK iteK intK boolK cellsK castK castL castEnv binK unK intBin layParts execN runOpsN runItemsN denN call loop blockK
/-- Those told, each once. -/
def toldL (a : List Int) : List Int → List Int
  | [] => a
  | g :: r => if g ∈ a then toldL a r else toldL (a ++ [g]) r
def toldOf (x : joint.den) : List Int := toldL [x.2.1] x.2.2
theorem toldL_mem {a g : List Int} : ∀ {y : Int}, y ∈ toldL a g → y ∈ a ∨ y ∈ g := by
  induction g generalizing a with
  | nil => intro y h; exact .inl h
  | cons z r ih =>
    intro y h
    rw [toldL] at h
    split at h
    · rcases ih h with h | h
      · exact .inl h
      · exact .inr (List.mem_cons_of_mem _ h)
    · rcases ih h with h | h
      · rcases List.mem_append.1 h with h | h
        · exact .inl h
        · simp at h
          exact .inr (by rw [h]; exact List.mem_cons_self)
      · exact .inr (List.mem_cons_of_mem _ h)
theorem toldL_len (a g : List Int) : (toldL a g).length ≤ a.length + g.length := by
  induction g generalizing a with
  | nil => exact Nat.le_refl _
  | cons z r ih =>
    rw [toldL]
    split
    · have := ih a
      simp only [List.length_cons]
      omega
    · have := ih (a ++ [z])
      simp only [List.length_append, List.length_cons, List.length_nil] at this ⊢
      omega
/-- All that stand for gradients are there. -/
theorem gUp_there {l : List node.den} {g : List Int} : ∀ {i k : Nat}, gUp l g i = some k → ∀ j, j < k → there l.length (g.getD j 0) = true
  | 0, k, h, j, hj => by simp [gUp] at h; omega
  | i + 1, k, h, j, hj => by
      rw [gUp, Option.bind_eq_some_iff] at h
      obtain ⟨k', h1, h2⟩ := h
      split at h2
      · split at h2
        · split at h2
          · rename_i hc
            cases h2
            rcases Nat.eq_or_lt_of_le (Nat.le_of_lt_succ hj) with e | e
            · rw [e]; exact hc.2.1
            · exact gUp_there h1 j e
          · cases h2
        · cases h2
          exact gUp_there h1 j hj
      · cases h2
        exact gUp_there h1 j hj
theorem mayJ_parts {x : joint.den} (hm : mayJ x = true) : mayL x.1 = true ∧ x.1.length ≤ 240 ∧ there x.1.length x.2.1 = true ∧ prodW (dimsAt x.1 x.2.1) = 1 ∧ gUp x.1 x.2.2 x.1.length = some x.2.2.length ∧ x.2.2.length ≤ 240 ∧ ∀ a ∈ x.2.2, there x.1.length a = true := by
  simp only [mayJ, Bool.and_eq_true, decide_eq_true_eq] at hm
  obtain ⟨⟨⟨h1, h2⟩, h3⟩, h4⟩ := hm
  have hl : x.1.length ≤ 240 := by
    have := h1
    simp only [mayL, Bool.and_eq_true, decide_eq_true_eq] at this
    omega
  have hg := gUp_le _ _ h4
  refine ⟨h1, hl, h2, h3, h4, by omega, fun a ha => ?_⟩
  obtain ⟨i, hi, rfl⟩ := List.getElem_of_mem ha
  have := gUp_there h4 i hi
  rwa [List.getD_eq_getElem?_getD, List.getElem?_eq_getElem hi] at this
theorem told_there {x : joint.den} (hm : mayJ x = true) : ∀ a ∈ toldOf x, there x.1.length a = true := fun a ha => by
  obtain ⟨_, _, h2, _, _, _, h5⟩ := mayJ_parts hm
  rcases toldL_mem ha with h | h
  · simp at h
    rw [h]
    exact h2
  · exact h5 a h
/-- Till when, as far as the nodes up to a place tell. -/
def toUp (l : List node.den) (k : Nat) : Nat → Int
  | 0 => (k : Int) + 1
  | i + 1 => if (k : Int) ∈ argsAt l i then (i : Int) + 1 else toUp l k i
theorem args_lt {l : List node.den} (hm : mayL l = true) {i : Nat} {a : Int} (ha : a ∈ argsAt l i) : 0 ≤ a ∧ a < (i : Int) := by
  rcases Nat.lt_or_ge i l.length with hi | hi
  · rw [argsAt_at hi] at ha
    have := argsOk_at (nodeOk_parts (mayL_at hm hi)).1 ha
    rw [List.length_take] at this
    omega
  · rw [argsAt, List.getElem?_eq_none hi] at ha
    simp at ha
theorem toUp_self {l : List node.den} (hm : mayL l = true) {k : Nat} : ∀ {n : Nat}, n ≤ k + 1 → toUp l k n = (k : Int) + 1
  | 0, _ => rfl
  | n + 1, hn => by
      rw [toUp, if_neg (fun h => by have := args_lt hm h; omega)]
      exact toUp_self hm (by omega)
theorem toUp_range (l : List node.den) (k : Nat) : ∀ n : Nat, (k : Int) + 1 ≤ toUp l k n ∨ 1 ≤ toUp l k n
  | 0 => .inl (Int.le_refl _)
  | n + 1 => by
      rw [toUp]
      split
      · exact .inr (by omega)
      · exact toUp_range l k n
theorem toUp_le (l : List node.den) (k : Nat) : ∀ n m : Nat, k < m → n ≤ m → 1 ≤ toUp l k n ∧ toUp l k n ≤ (m : Int)
  | 0, m, h, _ => by rw [toUp]; omega
  | n + 1, m, h, h2 => by
      rw [toUp]
      split
      · omega
      · exact toUp_le l k n m h (by omega)
/-- A node's cells. -/
def sizeAt (l : List node.den) (k : Nat) : Int := prodW (dimsAt l (k : Int))
def lifeAt (x : joint.den) (k : Nat) : life.den := ((k : Int), (if (k : Int) ∈ toldOf x then (x.1.length : Int) else toUp x.1 k x.1.length), sizeAt x.1 k)
def livesL (x : joint.den) : List life.den := (List.range x.1.length).map (lifeAt x)
theorem livesL_len (x : joint.den) : (livesL x).length = x.1.length := by simp [livesL]
theorem wrap_range (n : Int) : -9223372036854775808 ≤ w64 n ∧ w64 n ≤ 9223372036854775807 := by
  simp [w64, IntKind.wrap, IntKind.bits, IntKind.signed]
  omega
theorem prodW_range (d : List Int) : -9223372036854775808 ≤ prodW d ∧ prodW d ≤ 9223372036854775807 := by
  have key : ∀ (d : List Int) (n : Int), (-9223372036854775808 ≤ n ∧ n ≤ 9223372036854775807) → -9223372036854775808 ≤ d.foldl (fun n x => w64 (n * x)) n ∧ d.foldl (fun n x => w64 (n * x)) n ≤ 9223372036854775807 := fun d => by
    induction d with
    | nil => intro n h; exact h
    | cons y d ih => intro n _; exact ih _ (wrap_range _)
  exact key d 1 (by omega)
section
variable {h : Heap}
theorem live_Told {x : joint.den} {cs : List AV} (hx : In h joint x cs) (hgl : x.2.2.length ≤ 1000000) (b : Nat) (hb : b ≤ h.length) : WP (call prog b 109 [.agg cs] h) fun r => Old h.length h r.2 ∧ AccP h.length h.length r.2 int r.1 (toldOf x) := by
  obtain ⟨vn, vg, rfl, hn, hg, hl⟩ := holds_joint hx
  refine wp_enter (fn := C.live_Told) rfl ?_
  dsimp only [bodyN, C.live_Told, C.live_Told_l0]; simp
  refine wp_new1 rfl ?_
  try simp
  have H1 := (AccP.newInts (h := h ++ [AObj.cells 0 1 [vn, AV.int IntKind.i64 x.snd.fst, vg]]) (l := [x.2.1]) (by simp) (by intro y hy; simp at hy; rw [hy]; exact hl)).mono (m0 := h.length) (by simp) (by simp)
  simp at H1
  generalize hh : h ++ [AObj.cells 0 1 [vn, AV.int IntKind.i64 x.snd.fst, vg], AObj.cells 0 1 [AV.int IntKind.i64 x.snd.fst]] = h1 at *
  have o1 : Old h.length h h1 := hh ▸ Old.app
  have b1 : Box h1 h.length [vn, AV.int IntKind.i64 x.snd.fst, vg] := by rw [← hh]; simp [Box]
  repeat ((first | refine wq_len (by assumption) ?_ | refine wq_idx (by assumption) (by rfl) (by omega) (by omega) ?_ | refine wq_int (by assumption) (by omega) ?_ | refine wq_kind (by assumption) (by omega) ?_ | refine wq_num (by assumption) (by omega) ?_ | refine wq_name (by assumption) (by omega) ?_ | refine wq_ptr (by assumption) rfl ?_ | refine wp_new1 rfl ?_ | refine wq_from (by assumption) (by omega) ?_ | refine wq_to (by assumption) (by omega) ?_ | refine wq_size (by assumption) (by omega) ?_ | refine wq_life (by assumption) (by omega) ?_ | refine wp_guard (by omega) ?_ | refine wq_cells (by assumption) ?_); (try simp))
  refine wp_loop (I := fun m e h' => Old h.length h h' ∧ ∃ (i : Nat) (v : AV) (A : List Int), e = (ea 3 v <| ea 10 vg <| ea 11 (.int .i64 x.2.2.length) <| ea 12 (.int .i64 (i : Nat)) e0) ∧ i + m = x.2.2.length ∧ AccP h.length h.length h' int v A ∧ toldOf x = toldL A (x.2.2.drop i) ∧ A.length ≤ i + 1) ?_ ⟨o1, 0, _, _, rfl, Nat.zero_add _, H1, rfl, by simp⟩
  rintro N m e h' ⟨old, i, v, A, rfl, him, acc, ht, hA⟩ next
  have hg' := In.old old hg
  have w1 : ∀ (hi : i < x.2.2.length), IntKind.i64.wrap ((i : Int) + 1) = ((i + 1 : Nat) : Int) := fun hi => succ64 hi (by omega)
  dsimp only [C.live_Told_b0]; simp
  refine wp_dec (fun hi => ?_) fun hi => ?_
  · try simp
    repeat ((first | refine wq_len (by assumption) ?_ | refine wq_idx (by assumption) (by rfl) (by omega) (by omega) ?_ | refine wq_int (by assumption) (by omega) ?_ | refine wq_kind (by assumption) (by omega) ?_ | refine wq_num (by assumption) (by omega) ?_ | refine wq_name (by assumption) (by omega) ?_ | refine wq_ptr (by assumption) rfl ?_ | refine wp_new1 rfl ?_ | refine wq_from (by assumption) (by omega) ?_ | refine wq_to (by assumption) (by omega) ?_ | refine wq_size (by assumption) (by omega) ?_ | refine wq_life (by assumption) (by omega) ?_ | refine wp_guard (by omega) ?_ | refine wq_cells (by assumption) ?_); (try simp))
    rw [callK_eq (slices_Contains_int (acc.in (Nat.le_refl _)) _ _)]
    try simp
    rw [List.drop_eq_getElem_cons hi, toldL] at ht
    refine wp_ndec (fun hq => ?_) fun hq => ?_
    · try simp
      rw [if_neg hq] at ht
      refine wp_pushI acc (holds_range hg hi) hb old.1 (by omega) fun v2 h2 o2 a2 => ?_
      simp [w1 hi]
      exact next (m - 1) _ _ (by omega) ⟨old.trans o2, i + 1, v2, _, rfl, by omega, a2, ht, by simp; omega⟩
    · simp [w1 hi]
      rw [if_pos hq] at ht
      exact next (m - 1) _ _ (by omega) ⟨old, i + 1, v, A, rfl, by omega, acc, ht, by omega⟩
  · try simp
    rw [List.drop_of_length_le (by omega)] at ht
    exact wp_some ⟨old, by rw [ht]; exact acc⟩
end
end Go.AM
