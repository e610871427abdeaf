/- What the small functions tell: numbers alone. -/
import Derived.Test.YtfdbegdgedhhcaaAmMine
set_option linter.all false
namespace Go.AM
/-- Kinds that name their dims. -/
def asked (k : Int) : Bool := (decide (1 ≤ k) && decide (k ≤ 3)) || (decide (11 ≤ k) && decide (k ≤ 13))
/-- How many a kind is made of. -/
def many (k : Int) : Int := if k = 1 ∨ k = 2 ∨ k = 3 then 0 else if k = 4 ∨ k = 5 ∨ k = 6 ∨ k = 9 ∨ k = 16 ∨ k = 17 then 2 else 1
/-- The same; -1: there is no such kind. -/
def manyR (k : Int) : Int := if k = 1 ∨ k = 2 ∨ k = 3 then 0 else if k = 4 ∨ k = 5 ∨ k = 6 ∨ k = 9 ∨ k = 16 ∨ k = 17 then 2 else if 7 ≤ k ∧ k ≤ 15 then 1 else -1
/-- A kind's number. -/
def numberOk (k n : Int) : Bool := if k = 3 ∨ k = 8 then true else if k = 15 ∨ k = 17 then decide (1 ≤ n) && decide (n ≤ 8) else decide (n = 0)
section
variable {R : Type} (b : Nat) (h : Heap) (K : AV → Heap → Option R)
@[simp] theorem ref0_Between (n lo hi : Int) : callK (call prog) b 66 [.int .i64 n, .int .i64 lo, .int .i64 hi] h K = K (.bool (decide (lo ≤ n) && decide (n ≤ hi))) h :=
  callK_eq (wp_iff.1 (wp_enter (fn := C.ref0_Between) rfl (by
    dsimp only [bodyN, C.ref0_Between]; simp [wp_some_iff]
    repeat' (first | (refine wp_dec (fun _ => ?_) fun _ => ?_) | (refine wp_ndec (fun _ => ?_) fun _ => ?_) | (refine wp_iteK (fun _ => ?_) fun _ => ?_) | simp only [wp_some_iff] | simp [wp_some_iff])
    all_goals simp_all []
    all_goals omega))) K
end
theorem kernel_Many' (b : Nat) (h : Heap) (k : Int) : call prog b 142 [.int .i64 k] h = some (.int .i64 (many k), h) := by
  refine wp_iff.1 (wp_enter (fn := C.kernel_Many) rfl ?_)
  dsimp only [bodyN, C.kernel_Many]
  by_cases h1 : k = 1
  · subst h1; simp [wp_some_iff, many]
  by_cases h2 : k = 2
  · subst h2; simp [wp_some_iff, many]
  by_cases h3 : k = 3
  · subst h3; simp [wp_some_iff, many]
  by_cases h4 : k = 4
  · subst h4; simp [wp_some_iff, many]
  by_cases h5 : k = 5
  · subst h5; simp [wp_some_iff, many]
  by_cases h6 : k = 6
  · subst h6; simp [wp_some_iff, many]
  by_cases h9 : k = 9
  · subst h9; simp [wp_some_iff, many]
  by_cases h16 : k = 16
  · subst h16; simp [wp_some_iff, many]
  by_cases h17 : k = 17
  · subst h17; simp [wp_some_iff, many]
  simp [wp_some_iff, many, h1, h2, h3, h4, h5, h6, h9, h16, h17]
theorem ref1_Many' (b : Nat) (h : Heap) (k : Int) : call prog b 100 [.int .i64 k] h = some (.int .i64 (manyR k), h) := by
  refine wp_iff.1 (wp_enter (fn := C.ref1_Many) rfl ?_)
  dsimp only [bodyN, C.ref1_Many]
  by_cases h1 : k = 1
  · subst h1; simp [wp_some_iff, manyR]
  by_cases h2 : k = 2
  · subst h2; simp [wp_some_iff, manyR]
  by_cases h3 : k = 3
  · subst h3; simp [wp_some_iff, manyR]
  by_cases h4 : k = 4
  · subst h4; simp [wp_some_iff, manyR]
  by_cases h5 : k = 5
  · subst h5; simp [wp_some_iff, manyR]
  by_cases h6 : k = 6
  · subst h6; simp [wp_some_iff, manyR]
  by_cases h9 : k = 9
  · subst h9; simp [wp_some_iff, manyR]
  by_cases h16 : k = 16
  · subst h16; simp [wp_some_iff, manyR]
  by_cases h17 : k = 17
  · subst h17; simp [wp_some_iff, manyR]
  simp [wp_some_iff, manyR, h1, h2, h3, h4, h5, h6, h9, h16, h17]
  refine wp_iteK (fun h7 => wp_some ?_) fun h7 => ?_
  · simp at h7
    simp [h7]
  · try simp
    refine wp_some ?_
    simp at h7
    rw [if_neg (by omega)]
section
variable {R : Type} (b : Nat) (h : Heap) (K : AV → Heap → Option R)
@[simp] theorem ref0_Num (n hi : Int) : callK (call prog) b 14 [.int .i64 n, .int .i64 hi] h K = K (.bool (decide (0 ≤ n) && decide (n ≤ hi))) h :=
  callK_eq (wp_iff.1 (wp_enter (fn := C.ref0_Num) rfl (by
    dsimp only [bodyN, C.ref0_Num]; simp [wp_some_iff]
    repeat' (first | (refine wp_dec (fun _ => ?_) fun _ => ?_) | (refine wp_ndec (fun _ => ?_) fun _ => ?_) | (refine wp_iteK (fun _ => ?_) fun _ => ?_) | simp only [wp_some_iff] | simp [wp_some_iff])
    all_goals simp_all []
    all_goals omega))) K
@[simp] theorem law8_num (n : Int) : callK (call prog) b 4 [.int .i64 n] h K = K (.int .i64 n) h :=
  callK_eq (wp_iff.1 (wp_enter (fn := C.law8_num) rfl (by
    dsimp only [bodyN, C.law8_num]; simp [wp_some_iff]
    repeat' (first | (refine wp_dec (fun _ => ?_) fun _ => ?_) | (refine wp_ndec (fun _ => ?_) fun _ => ?_) | (refine wp_iteK (fun _ => ?_) fun _ => ?_) | simp only [wp_some_iff] | simp [wp_some_iff])
    all_goals simp_all []
    all_goals omega))) K
@[simp] theorem law13_num (n : Int) : callK (call prog) b 19 [.int .i64 n] h K = K (.int .i64 n) h :=
  callK_eq (wp_iff.1 (wp_enter (fn := C.law13_num) rfl (by
    dsimp only [bodyN, C.law13_num]; simp [wp_some_iff]
    repeat' (first | (refine wp_dec (fun _ => ?_) fun _ => ?_) | (refine wp_ndec (fun _ => ?_) fun _ => ?_) | (refine wp_iteK (fun _ => ?_) fun _ => ?_) | simp only [wp_some_iff] | simp [wp_some_iff])
    all_goals simp_all []
    all_goals omega))) K
@[simp] theorem ref1_Asked (k : Int) : callK (call prog) b 96 [.int .i64 k] h K = K (.bool (asked k)) h :=
  callK_eq (wp_iff.1 (wp_enter (fn := C.ref1_Asked) rfl (by
    dsimp only [bodyN, C.ref1_Asked]; simp [wp_some_iff]
    repeat' (first | (refine wp_dec (fun _ => ?_) fun _ => ?_) | (refine wp_ndec (fun _ => ?_) fun _ => ?_) | (refine wp_iteK (fun _ => ?_) fun _ => ?_) | simp only [wp_some_iff] | simp [wp_some_iff])
    all_goals simp_all [asked]
    all_goals omega))) K
@[simp] theorem kernel_Named (k : Int) : callK (call prog) b 126 [.int .i64 k] h K = K (.bool (asked k)) h :=
  callK_eq (wp_iff.1 (wp_enter (fn := C.kernel_Named) rfl (by
    dsimp only [bodyN, C.kernel_Named]; simp [wp_some_iff]
    repeat' (first | (refine wp_dec (fun _ => ?_) fun _ => ?_) | (refine wp_ndec (fun _ => ?_) fun _ => ?_) | (refine wp_iteK (fun _ => ?_) fun _ => ?_) | simp only [wp_some_iff] | simp [wp_some_iff])
    all_goals simp_all [asked]
    all_goals omega))) K
@[simp] theorem kernel_Many (k : Int) : callK (call prog) b 142 [.int .i64 k] h K = K (.int .i64 (many k)) h :=
  callK_eq (kernel_Many' b h k) K
@[simp] theorem ref1_Many (k : Int) : callK (call prog) b 100 [.int .i64 k] h K = K (.int .i64 (manyR k)) h :=
  callK_eq (ref1_Many' b h k) K
@[simp] theorem kernel_number (k n : Int) : callK (call prog) b 144 [.int .i64 k, .int .i64 n] h K = K (.bool (numberOk k n)) h :=
  callK_eq (wp_iff.1 (wp_enter (fn := C.kernel_number) rfl (by
    dsimp only [bodyN, C.kernel_number]; simp [wp_some_iff]
    repeat' (first | (refine wp_dec (fun _ => ?_) fun _ => ?_) | (refine wp_ndec (fun _ => ?_) fun _ => ?_) | (refine wp_iteK (fun _ => ?_) fun _ => ?_) | simp only [wp_some_iff] | simp [wp_some_iff])
    all_goals simp_all [numberOk]
    all_goals omega))) K
@[simp] theorem shape_May_1 (n : Int) : callK (call prog) b 178 [.int .i64 n] h K = K (.bool (decide (n < 1) || decide (8 < n))) h :=
  callK_eq (wp_iff.1 (wp_enter (fn := C.shape_May_1) rfl (by
    dsimp only [bodyN, C.shape_May_1]; simp [wp_some_iff]
    repeat' (first | (refine wp_dec (fun _ => ?_) fun _ => ?_) | (refine wp_ndec (fun _ => ?_) fun _ => ?_) | (refine wp_iteK (fun _ => ?_) fun _ => ?_) | simp only [wp_some_iff] | simp [wp_some_iff])
    all_goals simp_all []
    all_goals omega))) K
end
end Go.AM
