/- Names: a text's runes, one by one. -/
import Derived.Test.YtfdbegdgedhhcaaAmS9
set_option linter.all false
namespace Go.AM
set_option maxRecDepth 20000
section
variable {R : Type} {Q : R → Prop}
/-- The next rune. -/
theorem wp_next {base l pos : Nat} {h : Heap} {s : ByteArray} (hb : base ≤ l) (hh : h[l]? = some (.iter s pos)) {K : AV → Heap → Option R}
    (k1 : pos < s.size → WP (K (.tup [.bool true, .int .i64 (pos : Int), .int .i32 ((Utf8.decode s pos).1 : Int)]) (h.set l (.iter s (pos + (Utf8.decode s pos).2)))) Q) (k2 : ¬ pos < s.size → WP (K (.tup [.bool false]) h) Q) : WP (nextK base h (.iter l) K) Q := by
  unfold nextK
  dsimp only
  refine wp_guard hb ?_
  rw [hh]
  dsimp only
  split
  · rename_i hp; exact k1 hp
  · rename_i hp; exact k2 hp
end
theorem decode_pos (s : ByteArray) (i : Nat) : 1 ≤ (Utf8.decode s i).2 := by
  unfold Utf8.decode
  dsimp only
  repeat' split
  all_goals simp
/-- A letter, a digit. -/
def isLetter (r : Int) : Bool := (decide (97 ≤ r) && decide (r ≤ 122)) || (decide (945 ≤ r) && decide (r ≤ 969))
def isDigit (r : Int) : Bool := decide (48 ≤ r) && decide (r ≤ 57)
/-- From a place on, with so many runes ahead: is it a name? -/
def nameFrom (s : ByteArray) : Nat → Nat → Nat → Bool
  | 0, _, n => decide (1 ≤ n) && decide (n ≤ 6)
  | f + 1, pos, n =>
    if pos < s.size then
      (if isLetter (Utf8.decode s pos).1 = true ∨ (n ≠ 0 ∧ isDigit (Utf8.decode s pos).1 = true) then nameFrom s f (pos + (Utf8.decode s pos).2) (n + 1) else false)
    else decide (1 ≤ n) && decide (n ≤ 6)
def isName (s : ByteArray) : Bool := nameFrom s s.size 0 0
section
variable {R : Type} (b : Nat) (h : Heap) (K : AV → Heap → Option R)
@[simp] theorem word_letter (r : Int) : callK (call prog) b 148 [.int .i32 r] h K = K (.bool (isLetter r)) h :=
  callK_eq (wp_iff.1 (wp_enter (fn := C.word_letter) rfl (by
    dsimp only [bodyN, C.word_letter]; simp [wp_some_iff]
    repeat' (first | (refine wp_dec (fun _ => ?_) fun _ => ?_) | (refine wp_ndec (fun _ => ?_) fun _ => ?_) | (refine wp_iteK (fun _ => ?_) fun _ => ?_) | simp only [wp_some_iff] | simp [wp_some_iff])
    all_goals simp_all [isLetter]
    all_goals omega))) K
@[simp] theorem word_digit (r : Int) : callK (call prog) b 149 [.int .i32 r] h K = K (.bool (isDigit r)) h :=
  callK_eq (wp_iff.1 (wp_enter (fn := C.word_digit) rfl (by
    dsimp only [bodyN, C.word_digit]; simp [wp_some_iff]
    repeat' (first | (refine wp_dec (fun _ => ?_) fun _ => ?_) | (refine wp_ndec (fun _ => ?_) fun _ => ?_) | (refine wp_iteK (fun _ => ?_) fun _ => ?_) | simp only [wp_some_iff] | simp [wp_some_iff])
    all_goals simp_all [isDigit]
    all_goals omega))) K
end
theorem word_IsName {h : Heap} {s : ByteArray} (hs : s.size ≤ 140737488355328) (b : Nat) (hb : b ≤ h.length) :
    WP (call prog b 129 [.str s] h) fun r => Old h.length h r.2 ∧ r.1 = .bool (isName s) := by
  refine wp_enter (fn := C.word_IsName) rfl ?_
  dsimp only [bodyN, C.word_IsName, C.word_IsName_l0]; simp
  refine wp_loop (I := fun m e h' => Old h.length h h' ∧ ∃ pos n, e = (ea 3 (.int .i64 (n : Nat)) <| ea 7 (.iter h.length) e0) ∧ h'[h.length]? = some (.iter s pos) ∧ pos + m ≥ s.size ∧ n + m ≤ s.size ∧ isName s = nameFrom s m pos n) ?_ ⟨Old.app, 0, 0, rfl, by simp, by omega, by omega, rfl⟩
  rintro N m e h' ⟨old, pos, n, rfl, hit, hpm, hnm, heq⟩ next
  dsimp only [C.word_IsName_b0]; simp
  refine wp_next hb hit (fun hp => ?_) fun hp => ?_
  · obtain ⟨m', rfl⟩ : ∃ m', m = m' + 1 := ⟨m - 1, by omega⟩
    rw [nameFrom, if_pos hp] at heq
    have hlt := (List.getElem?_eq_some_iff.1 hit).1
    have o2 : Old h.length h (h'.set h.length (.iter s (pos + (Utf8.decode s pos).2))) := old.trans (Old.set old.1 (Nat.le_refl _))
    have hit2 : (h'.set h.length (.iter s (pos + (Utf8.decode s pos).2)))[h.length]? = some (.iter s (pos + (Utf8.decode s pos).2)) := List.getElem?_set_self hlt
    have hd := decode_pos s pos
    have go : (isLetter ((Utf8.decode s pos).1 : Int) = true ∨ (n ≠ 0 ∧ isDigit ((Utf8.decode s pos).1 : Int) = true)) → WP (N (ea 3 (.int .i64 ((n + 1 : Nat) : Int)) <| ea 7 (.iter h.length) e0) (h'.set h.length (.iter s (pos + (Utf8.decode s pos).2)))) (fun r => Old h.length h r.2 ∧ r.1 = .bool (isName s)) := fun hc => by
      rw [if_pos hc] at heq
      exact next m' _ _ (by omega) ⟨o2, _, n + 1, rfl, hit2, by omega, by omega, heq⟩
    try simp
    cases hl : isLetter ((Utf8.decode s pos).1 : Int) with
    | true =>
      simp [hl]
      rw [succ64 (n := s.size) (by omega) hs]
      exact go (.inl hl)
    | false =>
      simp [hl]
      by_cases h0 : n = 0
      · subst h0
        simp
        exact wp_some ⟨o2, by rw [heq, if_neg (by simp [hl])]⟩
      · simp [h0]
        cases hdg : isDigit ((Utf8.decode s pos).1 : Int) with
        | true =>
          simp [hdg]
          rw [succ64 (n := s.size) (by omega) hs]
          exact go (.inr ⟨h0, hdg⟩)
        | false =>
          simp [hdg]
          exact wp_some ⟨o2, by rw [heq, if_neg (by simp [hl, hdg])]⟩
  · have hres : isName s = (decide (1 ≤ n) && decide (n ≤ 6)) := by
      rw [heq]
      cases m with
      | zero => rfl
      | succ m => rw [nameFrom, if_neg hp]
    try simp
    rw [hres]
    refine wp_dec (fun h1 => ?_) fun h1 => ?_
    · try simp
      refine wp_some ⟨old, ?_⟩
      have : 1 ≤ n := by omega
      simp [this]
      omega
    · try simp
      refine wp_some ⟨old, ?_⟩
      have : ¬ 1 ≤ n := by omega
      simp [this]
end Go.AM
