import Derived.Test.YtfdbegdgedhhcaaGreatAmMine
set_option linter.all false
/- What the small functions tell: numbers alone. -/
namespace Go.AM
/-- Kinds that name their dims. -/
def asked (k : Int) : Bool := (decide (1 ≤ k) && decide (k ≤ 3)) || (decide (11 ≤ k) && decide (k ≤ 13))
/-- How many a kind is made of. -/
def many (k : Int) : Int := if k = 1 ∨ k = 2 ∨ k = 3 then 0 else if k = 4 ∨ k = 5 ∨ k = 6 ∨ k = 9 ∨ k = 16 ∨ k = 17 then 2 else 1
/-- The same; -1: there is no such kind. -/
def manyR (k : Int) : Int := if k = 1 ∨ k = 2 ∨ k = 3 then 0 else if k = 4 ∨ k = 5 ∨ k = 6 ∨ k = 9 ∨ k = 16 ∨ k = 17 then 2 else if 7 ≤ k ∧ k ≤ 15 then 1 else -1
/-- A kind's number. -/
def numberOk (k n : Int) : Bool := if k = 3 ∨ k = 8 then true else if k = 15 ∨ k = 17 then decide (1 ≤ n) && decide (n ≤ 8) else decide (n = 0)
section
variable {R : Type} (b : Nat) (h : Heap) (K : AV → Heap → Option R)
@[simp] theorem ref0_Between (n lo hi : Int) : callK (call prog) b 66 [.int .i64 n, .int .i64 lo, .int .i64 hi] h K = K (.bool (decide (lo ≤ n) && decide (n ≤ hi))) h :=
  callK_eq (wp_iff.1 (wp_enter (fn := C.ref0_Between) rfl (by
    dsimp only [bodyN, C.ref0_Between]; simp [wp_some_iff]
    repeat' (first | (refine wp_dec (fun _ => ?_) fun _ => ?_) | (refine wp_ndec (fun _ => ?_) fun _ => ?_) | (refine wp_iteK (fun _ => ?_) fun _ => ?_) | simp only [wp_some_iff] | simp [wp_some_iff])
    all_goals simp_all []
    all_goals omega))) K
end
theorem kernel_Many' (b : Nat) (h : Heap) (k : Int) : call prog b 142 [.int .i64 k] h = some (.int .i64 (many k), h) := by
  refine wp_iff.1 (wp_enter (fn := C.kernel_Many) rfl ?_)
  dsimp only [bodyN, C.kernel_Many]
  by_cases h1 : k = 1
  · subst h1; simp [wp_some_iff, many]
  by_cases h2 : k = 2
  · subst h2; simp [wp_some_iff, many]
  by_cases h3 : k = 3
  · subst h3; simp [wp_some_iff, many]
  by_cases h4 : k = 4
  · subst h4; simp [wp_some_iff, many]
  by_cases h5 : k = 5
  · subst h5; simp [wp_some_iff, many]
  by_cases h6 : k = 6
  · subst h6; simp [wp_some_iff, many]
  by_cases h9 : k = 9
  · subst h9; simp [wp_some_iff, many]
  by_cases h16 : k = 16
  · subst h16; simp [wp_some_iff, many]
  by_cases h17 : k = 17
  · subst h17; simp [wp_some_iff, many]
  simp [wp_some_iff, many, h1, h2, h3, h4, h5, h6, h9, h16, h17]
theorem ref1_Many' (b : Nat) (h : Heap) (k : Int) : call prog b 100 [.int .i64 k] h = some (.int .i64 (manyR k), h) := by
  refine wp_iff.1 (wp_enter (fn := C.ref1_Many) rfl ?_)
  dsimp only [bodyN, C.ref1_Many]
  by_cases h1 : k = 1
  · subst h1; simp [wp_some_iff, manyR]
  by_cases h2 : k = 2
  · subst h2; simp [wp_some_iff, manyR]
  by_cases h3 : k = 3
  · subst h3; simp [wp_some_iff, manyR]
  by_cases h4 : k = 4
  · subst h4; simp [wp_some_iff, manyR]
  by_cases h5 : k = 5
  · subst h5; simp [wp_some_iff, manyR]
  by_cases h6 : k = 6
  · subst h6; simp [wp_some_iff, manyR]
  by_cases h9 : k = 9
  · subst h9; simp [wp_some_iff, manyR]
  by_cases h16 : k = 16
  · subst h16; simp [wp_some_iff, manyR]
  by_cases h17 : k = 17
  · subst h17; simp [wp_some_iff, manyR]
  simp [wp_some_iff, manyR, h1, h2, h3, h4, h5, h6, h9, h16, h17]
  refine wp_iteK (fun h7 => wp_some ?_) fun h7 => ?_
  · simp at h7
    simp [h7]
  · try simp
    refine wp_some ?_
    simp at h7
    rw [if_neg (by omega)]
section
variable {R : Type} (b : Nat) (h : Heap) (K : AV → Heap → Option R)
@[simp] theorem ref0_Num (n hi : Int) : callK (call prog) b 14 [.int .i64 n, .int .i64 hi] h K = K (.bool (decide (0 ≤ n) && decide (n ≤ hi))) h :=
  callK_eq (wp_iff.1 (wp_enter (fn := C.ref0_Num) rfl (by
    dsimp only [bodyN, C.ref0_Num]; simp [wp_some_iff]
    repeat' (first | (refine wp_dec (fun _ => ?_) fun _ => ?_) | (refine wp_ndec (fun _ => ?_) fun _ => ?_) | (refine wp_iteK (fun _ => ?_) fun _ => ?_) | simp only [wp_some_iff] | simp [wp_some_iff])
    all_goals simp_all []
    all_goals omega))) K
@[simp] theorem law8_num (n : Int) : callK (call prog) b 4 [.int .i64 n] h K = K (.int .i64 n) h :=
  callK_eq (wp_iff.1 (wp_enter (fn := C.law8_num) rfl (by
    dsimp only [bodyN, C.law8_num]; simp [wp_some_iff]
    repeat' (first | (refine wp_dec (fun _ => ?_) fun _ => ?_) | (refine wp_ndec (fun _ => ?_) fun _ => ?_) | (refine wp_iteK (fun _ => ?_) fun _ => ?_) | simp only [wp_some_iff] | simp [wp_some_iff])
    all_goals simp_all []
    all_goals omega))) K
@[simp] theorem law13_num (n : Int) : callK (call prog) b 19 [.int .i64 n] h K = K (.int .i64 n) h :=
  callK_eq (wp_iff.1 (wp_enter (fn := C.law13_num) rfl (by
    dsimp only [bodyN, C.law13_num]; simp [wp_some_iff]
    repeat' (first | (refine wp_dec (fun _ => ?_) fun _ => ?_) | (refine wp_ndec (fun _ => ?_) fun _ => ?_) | (refine wp_iteK (fun _ => ?_) fun _ => ?_) | simp only [wp_some_iff] | simp [wp_some_iff])
    all_goals simp_all []
    all_goals omega))) K
@[simp] theorem ref1_Asked (k : Int) : callK (call prog) b 96 [.int .i64 k] h K = K (.bool (asked k)) h :=
  callK_eq (wp_iff.1 (wp_enter (fn := C.ref1_Asked) rfl (by
    dsimp only [bodyN, C.ref1_Asked]; simp [wp_some_iff]
    repeat' (first | (refine wp_dec (fun _ => ?_) fun _ => ?_) | (refine wp_ndec (fun _ => ?_) fun _ => ?_) | (refine wp_iteK (fun _ => ?_) fun _ => ?_) | simp only [wp_some_iff] | simp [wp_some_iff])
    all_goals simp_all [asked]
    all_goals omega))) K
@[simp] theorem kernel_Named (k : Int) : callK (call prog) b 126 [.int .i64 k] h K = K (.bool (asked k)) h :=
  callK_eq (wp_iff.1 (wp_enter (fn := C.kernel_Named) rfl (by
    dsimp only [bodyN, C.kernel_Named]; simp [wp_some_iff]
    repeat' (first | (refine wp_dec (fun _ => ?_) fun _ => ?_) | (refine wp_ndec (fun _ => ?_) fun _ => ?_) | (refine wp_iteK (fun _ => ?_) fun _ => ?_) | simp only [wp_some_iff] | simp [wp_some_iff])
    all_goals simp_all [asked]
    all_goals omega))) K
@[simp] theorem kernel_Many (k : Int) : callK (call prog) b 142 [.int .i64 k] h K = K (.int .i64 (many k)) h :=
  callK_eq (kernel_Many' b h k) K
@[simp] theorem ref1_Many (k : Int) : callK (call prog) b 100 [.int .i64 k] h K = K (.int .i64 (manyR k)) h :=
  callK_eq (ref1_Many' b h k) K
@[simp] theorem kernel_number (k n : Int) : callK (call prog) b 144 [.int .i64 k, .int .i64 n] h K = K (.bool (numberOk k n)) h :=
  callK_eq (wp_iff.1 (wp_enter (fn := C.kernel_number) rfl (by
    dsimp only [bodyN, C.kernel_number]; simp [wp_some_iff]
    repeat' (first | (refine wp_dec (fun _ => ?_) fun _ => ?_) | (refine wp_ndec (fun _ => ?_) fun _ => ?_) | (refine wp_iteK (fun _ => ?_) fun _ => ?_) | simp only [wp_some_iff] | simp [wp_some_iff])
    all_goals simp_all [numberOk]
    all_goals omega))) K
@[simp] theorem shape_May_1 (n : Int) : callK (call prog) b 178 [.int .i64 n] h K = K (.bool (decide (n < 1) || decide (8 < n))) h :=
  callK_eq (wp_iff.1 (wp_enter (fn := C.shape_May_1) rfl (by
    dsimp only [bodyN, C.shape_May_1]; simp [wp_some_iff]
    repeat' (first | (refine wp_dec (fun _ => ?_) fun _ => ?_) | (refine wp_ndec (fun _ => ?_) fun _ => ?_) | (refine wp_iteK (fun _ => ?_) fun _ => ?_) | simp only [wp_some_iff] | simp [wp_some_iff])
    all_goals simp_all []
    all_goals omega))) K
end
end Go.AM

/- What the functions over numbers' slices tell that make nothing. -/
namespace Go.AM
/-- The product, as 64 bits hold it. -/
def prodW (d : List Int) : Int := d.foldl (fun n x => w64 (n * x)) 1
section
variable {S T : Nat → Prop} {h : Heap}
theorem shape_Product {v : AV} {d : List Int} (hd : Holds S h ints d [v]) (b : Nat) : call prog b 106 [v] h = some (.int .i64 (prodW d), h) := by
  obtain ⟨ds, hs, hc, _, hb⟩ := hd.ints
  refine wp_iff.1 (wp_enter (fn := C.shape_Product) rfl ?_)
  dsimp only [bodyN, C.shape_Product, C.shape_Product_l0]; simp
  refine wp_len hs ?_
  refine wp_loop (I := fun m e h' => h' = h ∧ ∃ i p, e = (ea 3 (.int .i64 p) <| ea 6 v <| ea 7 (.int .i64 d.length) <| ea 8 (.int .i64 (i : Nat)) e0) ∧ i + m = d.length ∧ p = prodW (d.take i)) ?_ ⟨rfl, 0, 1, rfl, Nat.zero_add _, rfl⟩
  rintro N m e _ ⟨rfl, i, p, rfl, him, rfl⟩ next
  dsimp only [C.shape_Product_b0]; simp
  refine wp_dec (fun hi => ?_) fun hi => ?_
  · refine wp_idx hs rfl hi ?_
    refine wp_cell hs hi (hc i hi) rfl ?_
    try simp
    rw [succ64 hi hb]
    exact next (m - 1) _ _ (by omega) ⟨rfl, i + 1, _, rfl, by omega, (foldl_take_succ (fun n x => w64 (n * x)) 1 hi).symm⟩
  · refine wp_some ?_
    rw [List.take_of_length_le (by omega)]
theorem ref1_Cells {v : AV} {d : List Int} (hd : Holds S h ints d [v]) (b : Nat) : call prog b 78 [v] h = some (.int .i64 (prodW d), h) := by
  obtain ⟨ds, hs, hc, _, hb⟩ := hd.ints
  refine wp_iff.1 (wp_enter (fn := C.ref1_Cells) rfl ?_)
  dsimp only [bodyN, C.ref1_Cells, C.ref1_Cells_l0]; simp
  refine wp_loop (I := fun m e h' => h' = h ∧ ∃ i p, e = (ea 0 v <| ea 3 (.int .i64 p) <| ea 4 (.int .i64 (i : Nat)) e0) ∧ i + m = d.length ∧ p = prodW (d.take i)) ?_ ⟨rfl, 0, 1, rfl, Nat.zero_add _, rfl⟩
  rintro N m e _ ⟨rfl, i, p, rfl, him, rfl⟩ next
  dsimp only [C.ref1_Cells_b0]; simp
  refine wp_len hs ?_
  try simp
  refine wp_dec (fun hi => ?_) fun hi => ?_
  · refine wp_idx hs rfl hi ?_
    refine wp_cell hs hi (hc i hi) rfl ?_
    try simp
    rw [succ64 hi hb]
    exact next (m - 1) _ _ (by omega) ⟨rfl, i + 1, _, rfl, by omega, (foldl_take_succ (fun n x => w64 (n * x)) 1 hi).symm⟩
  · refine wp_some ?_
    rw [List.take_of_length_le (by omega)]
theorem take_eq_succ {α : Type} {a b : List α} {i : Nat} (ha : i < a.length) (hb : i < b.length) (h : a.take i = b.take i) (e : a[i] = b[i]) : a.take (i + 1) = b.take (i + 1) := by
  rw [List.take_add_one, List.take_add_one, h, List.getElem?_eq_getElem ha, List.getElem?_eq_getElem hb, e]
theorem ref0_EqNumbers {va vb : AV} {x y : List Int} (hx : Holds S h ints x [va]) (hy : Holds T h ints y [vb]) (b : Nat) : call prog b 5 [va, vb] h = some (.bool (decide (x = y)), h) := by
  obtain ⟨ds, hs, hc, _, hb⟩ := hx.ints
  obtain ⟨ds', hs', hc', _, hb'⟩ := hy.ints
  refine wp_iff.1 (wp_enter (fn := C.ref0_EqNumbers) rfl ?_)
  dsimp only [bodyN, C.ref0_EqNumbers, C.ref0_EqNumbers_l0]; simp
  refine wp_len hs ?_; (try simp); refine wp_len hs' ?_
  try simp
  refine wp_ndec (fun hl => ?_) fun hl => ?_
  · refine wp_some ?_
    rw [decide_eq_false (fun e => hl (by rw [e]))]
  refine wp_loop (I := fun m e h' => h' = h ∧ ∃ i, e = (ea 0 va <| ea 1 vb <| ea 5 (.int .i64 (i : Nat)) e0) ∧ i + m = x.length ∧ x.take i = y.take i) ?_ ⟨rfl, 0, rfl, Nat.zero_add _, rfl⟩
  rintro N m e _ ⟨rfl, i, rfl, him, heq⟩ next
  dsimp only [C.ref0_EqNumbers_b0]; simp
  refine wp_len hs ?_
  try simp
  refine wp_dec (fun hi => ?_) fun hi => ?_
  · refine wp_idx hs rfl hi ?_
    refine wp_cell hs hi (hc i hi) rfl ?_
    refine wp_idx hs' rfl (by omega) ?_
    refine wp_cell hs' (by omega) (hc' i (by omega)) rfl ?_
    try simp
    refine wp_ndec (fun hn => ?_) fun hn => ?_
    · refine wp_some ?_
      rw [decide_eq_false (fun e => hn (by simp [e]))]
    · rw [succ64 hi hb]
      exact next (m - 1) _ _ (by omega) ⟨rfl, i + 1, rfl, by omega, take_eq_succ hi (by omega) heq hn⟩
  · refine wp_some ?_
    rw [List.take_of_length_le (by omega), List.take_of_length_le (by omega)] at heq
    rw [decide_eq_true heq]
theorem slices_Equal_int {va vb : AV} {x y : List Int} (hx : Holds S h ints x [va]) (hy : Holds T h ints y [vb]) (b : Nat) : call prog b 98 [va, vb] h = some (.bool (decide (x = y)), h) := by
  obtain ⟨ds, hs, hc, _, hb⟩ := hx.ints
  obtain ⟨ds', hs', hc', _, hb'⟩ := hy.ints
  refine wp_iff.1 (wp_enter (fn := C.slices_Equal_int) rfl ?_)
  dsimp only [bodyN, C.slices_Equal_int, C.slices_Equal_int_l0]; simp
  refine wp_len hs ?_; (try simp); refine wp_len hs' ?_
  try simp
  refine wp_ndec (fun hl => ?_) fun hl => ?_
  · refine wp_some ?_
    rw [decide_eq_false (fun e => hl (by rw [e]))]
  refine wp_len hs ?_
  refine wp_loop (I := fun m e h' => h' = h ∧ ∃ i, e = (ea 0 va <| ea 1 vb <| ea 12 (.int .i64 x.length) <| ea 13 (.int .i64 (i : Nat)) e0) ∧ i + m = x.length ∧ x.take i = y.take i) ?_ ⟨rfl, 0, rfl, Nat.zero_add _, rfl⟩
  rintro N m e _ ⟨rfl, i, rfl, him, heq⟩ next
  dsimp only [C.slices_Equal_int_b0]; simp
  refine wp_dec (fun hi => ?_) fun hi => ?_
  · refine wp_idx hs rfl hi ?_
    refine wp_cell hs hi (hc i hi) rfl ?_
    refine wp_idx hs' rfl (by omega) ?_
    refine wp_cell hs' (by omega) (hc' i (by omega)) rfl ?_
    try simp
    refine wp_ndec (fun hn => ?_) fun hn => ?_
    · refine wp_some ?_
      rw [decide_eq_false (fun e => hn (by simp [e]))]
    · rw [succ64 hi hb]
      exact next (m - 1) _ _ (by omega) ⟨rfl, i + 1, rfl, by omega, take_eq_succ hi (by omega) heq hn⟩
  · refine wp_some ?_
    rw [List.take_of_length_le (by omega), List.take_of_length_le (by omega)] at heq
    rw [decide_eq_true heq]
/-- Where the first true one is, from i on; -1: nowhere. -/
def idxFrom (i : Nat) : List Bool → Int
  | [] => -1
  | true :: _ => (i : Int)
  | false :: r => idxFrom (i + 1) r
theorem idxFrom_nn : ∀ (l : List Bool) (i : Nat), 0 ≤ idxFrom i l ↔ l.any id = true
  | [], _ => by simp [idxFrom]
  | true :: r, i => by simp [idxFrom]
  | false :: r, i => by
      have := idxFrom_nn r (i + 1)
      rw [show idxFrom i (false :: r) = idxFrom (i + 1) r from rfl, this]
      simp
theorem idxFrom_any (l : List Bool) (i : Nat) : decide (0 ≤ idxFrom i l) = l.any id := by
  rw [Bool.eq_iff_iff, decide_eq_true_iff, idxFrom_nn]
theorem idxFrom_drop {l : List Bool} {i : Nat} (hi : i < l.length) : idxFrom i (l.drop i) = if l[i] = true then (i : Int) else idxFrom (i + 1) (l.drop (i + 1)) := by
  rw [List.drop_eq_getElem_cons hi]
  cases l[i] <;> rfl
theorem slices_IndexFunc_int {v : AV} {ds : List AV} {bs : List Bool} (hs : SliceAt S h v 1 bs.length ds) {el : Nat → AV} (hc : ∀ i, i < bs.length → (ds.drop (i * 1)).take 1 = [el i]) {g : Nat} {cap : List AV} (b : Nat) (hf : ∀ (i : Nat) (hi : i < bs.length), call prog b g (el i :: cap) h = some (.bool bs[i], h)) :
    call prog b 110 [v, .fn g cap] h = some (.int .i64 (idxFrom 0 bs), h) := by
  have hb := hs.1
  refine wp_iff.1 (wp_enter (fn := C.slices_IndexFunc_int) rfl ?_)
  dsimp only [bodyN, C.slices_IndexFunc_int, C.slices_IndexFunc_int_l0]; simp
  refine wp_len hs ?_
  refine wp_loop (I := fun m e h' => h' = h ∧ ∃ i, e = (ea 0 v <| ea 1 (.fn g cap) <| ea 7 (.int .i64 bs.length) <| ea 8 (.int .i64 (i : Nat)) e0) ∧ i + m = bs.length ∧ idxFrom 0 bs = idxFrom i (bs.drop i)) ?_ ⟨rfl, 0, rfl, Nat.zero_add _, rfl⟩
  rintro N m e _ ⟨rfl, i, rfl, him, heq⟩ next
  dsimp only [C.slices_IndexFunc_int_b0]; simp
  refine wp_dec (fun hi => ?_) fun hi => ?_
  · refine wp_idx hs rfl hi ?_
    refine wp_cell hs hi (hc i hi) rfl ?_
    try simp
    rw [callK_eq (hf i hi)]
    rw [idxFrom_drop hi] at heq
    try simp
    rw [succ64 hi hb]
    refine wp_iteK (fun hn => ?_) fun hn => ?_
    · refine wp_some ?_
      rw [heq, if_pos hn]
    · refine next (m - 1) _ _ (by omega) ⟨rfl, i + 1, rfl, by omega, ?_⟩
      rw [heq, if_neg (by simp [hn])]
  · refine wp_some ?_
    rw [heq, List.drop_of_length_le (by omega)]
    rfl
theorem slices_ContainsFunc_int {v : AV} {ds : List AV} {bs : List Bool} (hs : SliceAt S h v 1 bs.length ds) {el : Nat → AV} (hc : ∀ i, i < bs.length → (ds.drop (i * 1)).take 1 = [el i]) {g : Nat} {cap : List AV} (b : Nat) (hf : ∀ (i : Nat) (hi : i < bs.length), call prog b g (el i :: cap) h = some (.bool bs[i], h)) :
    call prog b 75 [v, .fn g cap] h = some (.bool (bs.any id), h) := by
  refine enter (fn := C.slices_ContainsFunc_int) rfl ?_
  dsimp only [bodyN, C.slices_ContainsFunc_int]; simp
  rw [callK_eq (slices_IndexFunc_int hs hc b hf)]
  simp [idxFrom_any]
theorem slices_IndexFunc_ints {v : AV} {ds : List AV} {bs : List Bool} (hs : SliceAt S h v 1 bs.length ds) {el : Nat → AV} (hc : ∀ i, i < bs.length → (ds.drop (i * 1)).take 1 = [el i]) {g : Nat} {cap : List AV} (b : Nat) (hf : ∀ (i : Nat) (hi : i < bs.length), call prog b g (el i :: cap) h = some (.bool bs[i], h)) :
    call prog b 179 [v, .fn g cap] h = some (.int .i64 (idxFrom 0 bs), h) := by
  have hb := hs.1
  refine wp_iff.1 (wp_enter (fn := C.slices_IndexFunc_ints) rfl ?_)
  dsimp only [bodyN, C.slices_IndexFunc_ints, C.slices_IndexFunc_ints_l0]; simp
  refine wp_len hs ?_
  refine wp_loop (I := fun m e h' => h' = h ∧ ∃ i, e = (ea 0 v <| ea 1 (.fn g cap) <| ea 7 (.int .i64 bs.length) <| ea 8 (.int .i64 (i : Nat)) e0) ∧ i + m = bs.length ∧ idxFrom 0 bs = idxFrom i (bs.drop i)) ?_ ⟨rfl, 0, rfl, Nat.zero_add _, rfl⟩
  rintro N m e _ ⟨rfl, i, rfl, him, heq⟩ next
  dsimp only [C.slices_IndexFunc_ints_b0]; simp
  refine wp_dec (fun hi => ?_) fun hi => ?_
  · refine wp_idx hs rfl hi ?_
    refine wp_cell hs hi (hc i hi) rfl ?_
    try simp
    rw [callK_eq (hf i hi)]
    rw [idxFrom_drop hi] at heq
    try simp
    rw [succ64 hi hb]
    refine wp_iteK (fun hn => ?_) fun hn => ?_
    · refine wp_some ?_
      rw [heq, if_pos hn]
    · refine next (m - 1) _ _ (by omega) ⟨rfl, i + 1, rfl, by omega, ?_⟩
      rw [heq, if_neg (by simp [hn])]
  · refine wp_some ?_
    rw [heq, List.drop_of_length_le (by omega)]
    rfl
theorem slices_ContainsFunc_ints {v : AV} {ds : List AV} {bs : List Bool} (hs : SliceAt S h v 1 bs.length ds) {el : Nat → AV} (hc : ∀ i, i < bs.length → (ds.drop (i * 1)).take 1 = [el i]) {g : Nat} {cap : List AV} (b : Nat) (hf : ∀ (i : Nat) (hi : i < bs.length), call prog b g (el i :: cap) h = some (.bool bs[i], h)) :
    call prog b 143 [v, .fn g cap] h = some (.bool (bs.any id), h) := by
  refine enter (fn := C.slices_ContainsFunc_ints) rfl ?_
  dsimp only [bodyN, C.slices_ContainsFunc_ints]; simp
  rw [callK_eq (slices_IndexFunc_ints hs hc b hf)]
  simp [idxFrom_any]
theorem slices_IndexFunc_Node {v : AV} {ds : List AV} {bs : List Bool} (hs : SliceAt S h v 5 bs.length ds) {cs : Nat → List AV} (hc : ∀ i, i < bs.length → (ds.drop (i * 5)).take 5 = cs i) {g : Nat} {cap : List AV} (b : Nat) (hf : ∀ (i : Nat) (hi : i < bs.length), call prog b g (.agg (cs i) :: cap) h = some (.bool bs[i], h)) :
    call prog b 130 [v, .fn g cap] h = some (.int .i64 (idxFrom 0 bs), h) := by
  have hb := hs.1
  refine wp_iff.1 (wp_enter (fn := C.slices_IndexFunc_Node) rfl ?_)
  dsimp only [bodyN, C.slices_IndexFunc_Node, C.slices_IndexFunc_Node_l0]; simp
  refine wp_len hs ?_
  refine wp_loop (I := fun m e h' => h' = h ∧ ∃ i, e = (ea 0 v <| ea 1 (.fn g cap) <| ea 7 (.int .i64 bs.length) <| ea 8 (.int .i64 (i : Nat)) e0) ∧ i + m = bs.length ∧ idxFrom 0 bs = idxFrom i (bs.drop i)) ?_ ⟨rfl, 0, rfl, Nat.zero_add _, rfl⟩
  rintro N m e _ ⟨rfl, i, rfl, him, heq⟩ next
  dsimp only [C.slices_IndexFunc_Node_b0]; simp
  refine wp_dec (fun hi => ?_) fun hi => ?_
  · refine wp_idx hs rfl hi ?_
    refine wp_elem hs hi (hc i hi) ?_
    try simp
    rw [callK_eq (hf i hi)]
    rw [idxFrom_drop hi] at heq
    try simp
    rw [succ64 hi hb]
    refine wp_iteK (fun hn => ?_) fun hn => ?_
    · refine wp_some ?_
      rw [heq, if_pos hn]
    · refine next (m - 1) _ _ (by omega) ⟨rfl, i + 1, rfl, by omega, ?_⟩
      rw [heq, if_neg (by simp [hn])]
  · refine wp_some ?_
    rw [heq, List.drop_of_length_le (by omega)]
    rfl
theorem slices_ContainsFunc_Node {v : AV} {ds : List AV} {bs : List Bool} (hs : SliceAt S h v 5 bs.length ds) {cs : Nat → List AV} (hc : ∀ i, i < bs.length → (ds.drop (i * 5)).take 5 = cs i) {g : Nat} {cap : List AV} (b : Nat) (hf : ∀ (i : Nat) (hi : i < bs.length), call prog b g (.agg (cs i) :: cap) h = some (.bool bs[i], h)) :
    call prog b 105 [v, .fn g cap] h = some (.bool (bs.any id), h) := by
  refine enter (fn := C.slices_ContainsFunc_Node) rfl ?_
  dsimp only [bodyN, C.slices_ContainsFunc_Node]; simp
  rw [callK_eq (slices_IndexFunc_Node hs hc b hf)]
  simp [idxFrom_any]
theorem slices_IndexFunc_Tensor {v : AV} {ds : List AV} {bs : List Bool} (hs : SliceAt S h v 2 bs.length ds) {cs : Nat → List AV} (hc : ∀ i, i < bs.length → (ds.drop (i * 2)).take 2 = cs i) {g : Nat} {cap : List AV} (b : Nat) (hf : ∀ (i : Nat) (hi : i < bs.length), call prog b g (.agg (cs i) :: cap) h = some (.bool bs[i], h)) :
    call prog b 150 [v, .fn g cap] h = some (.int .i64 (idxFrom 0 bs), h) := by
  have hb := hs.1
  refine wp_iff.1 (wp_enter (fn := C.slices_IndexFunc_Tensor) rfl ?_)
  dsimp only [bodyN, C.slices_IndexFunc_Tensor, C.slices_IndexFunc_Tensor_l0]; simp
  refine wp_len hs ?_
  refine wp_loop (I := fun m e h' => h' = h ∧ ∃ i, e = (ea 0 v <| ea 1 (.fn g cap) <| ea 7 (.int .i64 bs.length) <| ea 8 (.int .i64 (i : Nat)) e0) ∧ i + m = bs.length ∧ idxFrom 0 bs = idxFrom i (bs.drop i)) ?_ ⟨rfl, 0, rfl, Nat.zero_add _, rfl⟩
  rintro N m e _ ⟨rfl, i, rfl, him, heq⟩ next
  dsimp only [C.slices_IndexFunc_Tensor_b0]; simp
  refine wp_dec (fun hi => ?_) fun hi => ?_
  · refine wp_idx hs rfl hi ?_
    refine wp_elem hs hi (hc i hi) ?_
    try simp
    rw [callK_eq (hf i hi)]
    rw [idxFrom_drop hi] at heq
    try simp
    rw [succ64 hi hb]
    refine wp_iteK (fun hn => ?_) fun hn => ?_
    · refine wp_some ?_
      rw [heq, if_pos hn]
    · refine next (m - 1) _ _ (by omega) ⟨rfl, i + 1, rfl, by omega, ?_⟩
      rw [heq, if_neg (by simp [hn])]
  · refine wp_some ?_
    rw [heq, List.drop_of_length_le (by omega)]
    rfl
theorem slices_ContainsFunc_Tensor {v : AV} {ds : List AV} {bs : List Bool} (hs : SliceAt S h v 2 bs.length ds) {cs : Nat → List AV} (hc : ∀ i, i < bs.length → (ds.drop (i * 2)).take 2 = cs i) {g : Nat} {cap : List AV} (b : Nat) (hf : ∀ (i : Nat) (hi : i < bs.length), call prog b g (.agg (cs i) :: cap) h = some (.bool bs[i], h)) :
    call prog b 133 [v, .fn g cap] h = some (.bool (bs.any id), h) := by
  refine enter (fn := C.slices_ContainsFunc_Tensor) rfl ?_
  dsimp only [bodyN, C.slices_ContainsFunc_Tensor]; simp
  rw [callK_eq (slices_IndexFunc_Tensor hs hc b hf)]
  simp [idxFrom_any]
theorem slices_Index_int {v : AV} {l : List Int} (hd : Holds S h ints l [v]) (n : Int) (b : Nat) : call prog b 107 [v, .int .i64 n] h = some (.int .i64 (idxFrom 0 (l.map fun x => decide (n = x))), h) := by
  obtain ⟨ds, hs, hc, _, hb⟩ := hd.ints
  refine wp_iff.1 (wp_enter (fn := C.slices_Index_int) rfl ?_)
  dsimp only [bodyN, C.slices_Index_int, C.slices_Index_int_l0]; simp
  refine wp_len hs ?_
  refine wp_loop (I := fun m e h' => h' = h ∧ ∃ i, e = (ea 0 v <| ea 1 (.int .i64 n) <| ea 7 (.int .i64 l.length) <| ea 8 (.int .i64 (i : Nat)) e0) ∧ i + m = l.length ∧ idxFrom 0 (l.map fun x => decide (n = x)) = idxFrom i ((l.map fun x => decide (n = x)).drop i)) ?_ ⟨rfl, 0, rfl, Nat.zero_add _, rfl⟩
  rintro N m e _ ⟨rfl, i, rfl, him, heq⟩ next
  dsimp only [C.slices_Index_int_b0]; simp
  refine wp_dec (fun hi => ?_) fun hi => ?_
  · refine wp_idx hs rfl hi ?_
    refine wp_cell hs hi (hc i hi) rfl ?_
    try simp
    rw [idxFrom_drop (by simpa using hi)] at heq
    rw [succ64 hi hb]
    refine wp_dec (fun hn => ?_) fun hn => ?_
    · refine wp_some ?_
      rw [heq]
      simp [hn]
    · refine next (m - 1) _ _ (by omega) ⟨rfl, i + 1, rfl, by omega, ?_⟩
      rw [heq]
      simp [hn]
  · refine wp_some ?_
    rw [heq, List.drop_of_length_le (by simp; omega)]
    rfl
theorem ref0_In {v : AV} {l : List Int} (hd : Holds S h ints l [v]) (n : Int) (b : Nat) : call prog b 80 [v, .int .i64 n] h = some (.int .i64 (idxFrom 0 (l.map fun x => decide (x = n))), h) := by
  obtain ⟨ds, hs, hc, _, hb⟩ := hd.ints
  refine wp_iff.1 (wp_enter (fn := C.ref0_In) rfl ?_)
  dsimp only [bodyN, C.ref0_In, C.ref0_In_l0]; simp
  refine wp_loop (I := fun m e h' => h' = h ∧ ∃ i, e = (ea 0 v <| ea 1 (.int .i64 n) <| ea 5 (.int .i64 (i : Nat)) e0) ∧ i + m = l.length ∧ idxFrom 0 (l.map fun x => decide (x = n)) = idxFrom i ((l.map fun x => decide (x = n)).drop i)) ?_ ⟨rfl, 0, rfl, Nat.zero_add _, rfl⟩
  rintro N m e _ ⟨rfl, i, rfl, him, heq⟩ next
  dsimp only [C.ref0_In_b0]; simp
  refine wp_len hs ?_
  try simp
  refine wp_dec (fun hi => ?_) fun hi => ?_
  · refine wp_idx hs rfl hi ?_
    refine wp_cell hs hi (hc i hi) rfl ?_
    try simp
    rw [idxFrom_drop (by simpa using hi)] at heq
    rw [succ64 hi hb]
    refine wp_dec (fun hn => ?_) fun hn => ?_
    · refine wp_some ?_
      rw [heq]
      simp [hn]
    · refine next (m - 1) _ _ (by omega) ⟨rfl, i + 1, rfl, by omega, ?_⟩
      rw [heq]
      simp [hn]
  · refine wp_some ?_
    rw [heq, List.drop_of_length_le (by simp; omega)]
    rfl
/-- Dims that may be laid out over others. -/
def wider : List Int → List Int → Bool
  | [], [] => true
  | a :: r, b :: s => (decide (a = 1) || decide (a = b)) && wider r s
  | _, _ => false
theorem wider_ne : ∀ {x y : List Int}, ¬ x.length = y.length → wider x y = false
  | [], [], h => absurd rfl h
  | [], _ :: _, _ => rfl
  | _ :: _, [], _ => rfl
  | a :: r, b :: s, h => by rw [wider, wider_ne (fun e => h (by simp [e])), Bool.and_false]
/-- Dims that may be. -/
def dimsOk (d : List Int) : Bool := decide (1 ≤ d.length) && decide (d.length ≤ 3) && d.all (fun n => decide (1 ≤ n) && decide (n ≤ 8)) && decide (prodW d ≤ 64)
theorem shape_May {v : AV} {d : List Int} (hd : Holds S h ints d [v]) (b : Nat) : call prog b 145 [v] h = some (.bool (dimsOk d), h) := by
  obtain ⟨ds, hs, hc, _, hb⟩ := hd.ints
  refine wp_iff.1 (wp_enter (fn := C.shape_May) rfl ?_)
  dsimp only [bodyN, C.shape_May]; simp
  refine wp_len hs ?_
  try simp
  refine wp_dec (fun h1 => wp_some ?_) fun h1 => ?_
  · have : ¬ 1 ≤ d.length := by omega
    simp [dimsOk, this]
  refine wp_len hs ?_
  try simp
  refine wp_dec (fun h2 => wp_some ?_) fun h2 => ?_
  · have : ¬ d.length ≤ 3 := by omega
    simp [dimsOk, this]
  rw [callK_eq (slices_ContainsFunc_int (bs := d.map fun n => decide (n < 1) || decide (8 < n)) (el := fun i => .int .i64 (d[i]?.getD 0)) (by simpa using hs) (fun i hi => by
    have hi : i < d.length := by simpa using hi
    rw [hc i hi, List.getElem?_eq_getElem hi]
    rfl) b fun i hi => by
      have hi : i < d.length := by simpa using hi
      have := shape_May_1 (R := AV × Heap) b h (fun v h => some (v, h)) (d[i]?.getD 0)
      rw [callK_some] at this
      rw [this, List.getElem?_eq_getElem hi]
      simp)]
  have e : (d.map fun n => decide (n < 1) || decide (8 < n)).any id = !(d.all (fun n => decide (1 ≤ n) && decide (n ≤ 8))) := by
    rw [List.any_map, List.not_all_eq_any_not]
    congr 1
    funext n
    by_cases h1 : n < 1 <;> by_cases h2 : 8 < n <;> simp [h1, h2] <;> omega
  rw [e]
  simp
  have h3 : decide (1 ≤ d.length) = true := by simp; omega
  have h4 : decide (d.length ≤ 3) = true := by simp; omega
  refine wp_iteK (fun hn => wp_some ?_) fun hn => ?_
  · simp only [Bool.not_eq_true'] at hn
    rw [dimsOk, h3, h4, hn]
    rfl
  · simp only [Bool.not_eq_false'] at hn
    rw [callK_eq (shape_Product hd b)]
    simp
    refine wp_some ?_
    rw [dimsOk, h3, h4, hn]
    rfl
theorem ref1_Wider {va vb : AV} {x y : List Int} (hx : Holds S h ints x [va]) (hy : Holds T h ints y [vb]) (b : Nat) : call prog b 101 [va, vb] h = some (.bool (wider x y), h) := by
  obtain ⟨ds, hs, hc, _, hb⟩ := hx.ints
  obtain ⟨ds', hs', hc', _, hb'⟩ := hy.ints
  refine wp_iff.1 (wp_enter (fn := C.ref1_Wider) rfl ?_)
  dsimp only [bodyN, C.ref1_Wider, C.ref1_Wider_l0]; simp
  refine wp_len hs ?_; (try simp); refine wp_len hs' ?_
  try simp
  refine wp_ndec (fun hl => ?_) fun hl => ?_
  · refine wp_some ?_
    rw [wider_ne (by omega)]
  refine wp_loop (I := fun m e h' => h' = h ∧ ∃ i, e = (ea 0 va <| ea 1 vb <| ea 5 (.int .i64 (i : Nat)) e0) ∧ i + m = x.length ∧ wider x y = wider (x.drop i) (y.drop i)) ?_ ⟨rfl, 0, rfl, Nat.zero_add _, rfl⟩
  rintro N m e _ ⟨rfl, i, rfl, him, heq⟩ next
  dsimp only [C.ref1_Wider_b0]; simp
  refine wp_len hs ?_
  try simp
  refine wp_dec (fun hi => ?_) fun hi => ?_
  · have hi' : i < y.length := by omega
    rw [List.drop_eq_getElem_cons hi, List.drop_eq_getElem_cons hi', wider] at heq
    refine wp_idx hs rfl hi ?_; (try simp); refine wp_cell hs hi (hc i hi) rfl ?_
    refine wp_idx hs' rfl hi' ?_; (try simp); refine wp_cell hs' hi' (hc' i hi') rfl ?_
    try simp
    refine wp_ndec (fun hn => ?_) fun hn => ?_
    · refine wp_idx hs rfl hi ?_; (try simp); refine wp_cell hs hi (hc i hi) rfl ?_
      try simp
      rw [succ64 hi hb]
      refine wp_ndec (fun h1 => wp_some ?_) fun h1 => ?_
      · rw [heq]; simp [hn, h1]
      · exact next (m - 1) _ _ (by omega) ⟨rfl, i + 1, rfl, by omega, by rw [heq]; simp [h1]⟩
    · try simp
      rw [succ64 hi hb]
      exact next (m - 1) _ _ (by omega) ⟨rfl, i + 1, rfl, by omega, by rw [heq]; simp [hn]⟩
  · refine wp_some ?_
    rw [heq, List.drop_of_length_le (by omega), List.drop_of_length_le (by omega)]
    rfl
theorem shape_Grows {va vb : AV} {x y : List Int} (hx : Holds S h ints x [va]) (hy : Holds T h ints y [vb]) (b : Nat) : call prog b 146 [va, vb] h = some (.bool (wider x y), h) := by
  obtain ⟨ds, hs, hc, _, hb⟩ := hx.ints
  obtain ⟨ds', hs', hc', _, hb'⟩ := hy.ints
  refine wp_iff.1 (wp_enter (fn := C.shape_Grows) rfl ?_)
  dsimp only [bodyN, C.shape_Grows, C.shape_Grows_l0]; simp
  refine wp_len hs ?_; (try simp); refine wp_len hs' ?_
  try simp
  refine wp_ndec (fun hl => ?_) fun hl => ?_
  · refine wp_some ?_
    rw [wider_ne (by omega)]
  refine wp_len hs ?_
  refine wp_loop (I := fun m e h' => h' = h ∧ ∃ i, e = (ea 1 vb <| ea 12 va <| ea 13 (.int .i64 x.length) <| ea 14 (.int .i64 (i : Nat)) e0) ∧ i + m = x.length ∧ wider x y = wider (x.drop i) (y.drop i)) ?_ ⟨rfl, 0, rfl, Nat.zero_add _, rfl⟩
  rintro N m e _ ⟨rfl, i, rfl, him, heq⟩ next
  dsimp only [C.shape_Grows_b0]; simp
  refine wp_dec (fun hi => ?_) fun hi => ?_
  · have hi' : i < y.length := by omega
    rw [List.drop_eq_getElem_cons hi, List.drop_eq_getElem_cons hi', wider] at heq
    refine wp_idx hs rfl hi ?_; (try simp); refine wp_cell hs hi (hc i hi) rfl ?_
    try simp
    refine wp_ndec (fun hn => ?_) fun hn => ?_
    · refine wp_idx hs' rfl hi' ?_; (try simp); refine wp_cell hs' hi' (hc' i hi') rfl ?_
      try simp
      rw [succ64 hi hb]
      refine wp_ndec (fun h1 => wp_some ?_) fun h1 => ?_
      · rw [heq]; simp [hn, h1]
      · exact next (m - 1) _ _ (by omega) ⟨rfl, i + 1, rfl, by omega, by rw [heq]; simp [h1]⟩
    · try simp
      rw [succ64 hi hb]
      exact next (m - 1) _ _ (by omega) ⟨rfl, i + 1, rfl, by omega, by rw [heq]; simp [hn]⟩
  · refine wp_some ?_
    rw [heq, List.drop_of_length_le (by omega), List.drop_of_length_le (by omega)]
    rfl
end
end Go.AM

/- A slice of the function's own: it grows, it is written. -/
namespace Go.AM
/-- Which block a slice is of. -/
def AV.blk : AV → Option Nat
  | .ref l _ _ _ => some l
  | _ => none
/-- A slice of n elements that was made behind the floor: it is nil, or it covers its block. -/
def Acc (n0 : Nat) (h : Heap) (s : Nat) (v : AV) (cs : List AV) (n : Nat) : Prop :=
  n ≤ 140737488355328 ∧ ((v = .nil ∧ cs = [] ∧ n = 0) ∨ ∃ l g, v = .ref l g 0 n ∧ n0 ≤ l ∧ h[l]? = some (.cells g s cs) ∧ cs.length = n * s)
theorem Acc.nil {n0 : Nat} {h : Heap} {s : Nat} : Acc n0 h s .nil [] 0 := ⟨Nat.zero_le _, .inl ⟨rfl, rfl, rfl⟩⟩
theorem Acc.new {n0 : Nat} {h : Heap} {s n : Nat} {cs : List AV} (hn : n0 ≤ h.length) (hl : cs.length = n * s) (hm : n ≤ 140737488355328) : Acc n0 (h ++ [.cells 0 s cs]) s (.ref h.length 0 0 n) cs n :=
  ⟨hm, .inr ⟨h.length, 0, rfl, hn, by simp, hl⟩⟩
theorem Acc.one {n0 : Nat} {h : Heap} {s n : Nat} {v : AV} {cs : List AV} (H : Acc n0 h s v cs n) : v.one = true := by
  rcases H.2 with ⟨rfl, _⟩ | ⟨l, g, rfl, _⟩ <;> rfl
/-- Its block stands as it was. -/
theorem Acc.keep {n0 : Nat} {h h' : Heap} {s n : Nat} {v : AV} {cs : List AV} (H : Acc n0 h s v cs n) (hk : ∀ l, v.blk = some l → h'[l]? = h[l]?) : Acc n0 h' s v cs n := by
  refine ⟨H.1, ?_⟩
  rcases H.2 with h1 | ⟨l, g, rfl, h2, h3, h4⟩
  · exact .inl h1
  · exact .inr ⟨l, g, rfl, h2, by rw [hk l rfl]; exact h3, h4⟩
theorem Acc.lt {n0 : Nat} {h : Heap} {s n : Nat} {v : AV} {cs : List AV} (H : Acc n0 h s v cs n) {l : Nat} (hl : v.blk = some l) : n0 ≤ l ∧ l < h.length := by
  rcases H.2 with ⟨rfl, _⟩ | ⟨l', g, rfl, h2, h3, h4⟩
  · cases hl
  · cases hl
    exact ⟨h2, (List.getElem?_eq_some_iff.1 h3).1⟩
theorem Acc.app {n0 : Nat} {h : Heap} {s n : Nat} {v : AV} {cs : List AV} (H : Acc n0 h s v cs n) (t : List AObj) : Acc n0 (h ++ t) s v cs n :=
  H.keep fun l hl => List.getElem?_append_left (H.lt hl).2
theorem Acc.slice {n0 : Nat} {h : Heap} {s n : Nat} {v : AV} {cs : List AV} (H : Acc n0 h s v cs n) {S : Nat → Prop} (hS : ∀ l, v.blk = some l → S l) : SliceAt S h v s n cs := by
  refine ⟨H.1, ?_⟩
  rcases H.2 with ⟨rfl, rfl, rfl⟩ | ⟨l, g, rfl, h2, h3, h4⟩
  · exact ⟨rfl, rfl⟩
  · exact ⟨hS l rfl, rfl, h4, cs, h3, by rw [h4]; omega, by simp [← h4]⟩
theorem Acc.len {n0 : Nat} {h : Heap} {s n : Nat} {v : AV} {cs : List AV} (H : Acc n0 h s v cs n) : cs.length = n * s := by
  rcases H.2 with ⟨rfl, rfl, rfl⟩ | ⟨l, g, rfl, h2, h3, h4⟩
  · simp
  · exact h4

/-- Blocks between. -/
abbrev Btw (a b : Nat) : Nat → Prop := fun l => a ≤ l ∧ l < b
theorem SliceAt.mono {S T : Nat → Prop} {h : Heap} {v : AV} {s n : Nat} {ds : List AV} (H : SliceAt S h v s n ds) (hs : ∀ l, S l → T l) : SliceAt T h v s n ds := H.frame fun l hl => ⟨hs l hl, rfl⟩
theorem Holds.mono {S T : Nat → Prop} {h : Heap} {p : PT} {x : p.den} {cs : List AV} (H : Holds S h p x cs) (hs : ∀ l, S l → T l) : Holds T h p x cs := H.frame fun l hl => ⟨hs l hl, rfl⟩
theorem Holds.old {n m : Nat} {h h' : Heap} (o : Old n h h') (hm : m ≤ n) {p : PT} {x : p.den} {cs : List AV} (H : Holds (fun l => l < m) h p x cs) : Holds (fun l => l < m) h' p x cs :=
  H.frame fun l hl => ⟨hl, o.2 l (by omega)⟩
theorem SliceAt.old {n m : Nat} {h h' : Heap} (o : Old n h h') (hm : m ≤ n) {v : AV} {s k : Nat} {ds : List AV} (H : SliceAt (fun l => l < m) h v s k ds) : SliceAt (fun l => l < m) h' v s k ds :=
  H.frame fun l hl => ⟨hl, o.2 l (by omega)⟩
theorem Acc.ints {n0 : Nat} {h : Heap} {v : AV} {l : List Int} (H : Acc n0 h 1 v (l.map (.int .i64)) l.length) (hr : ∀ x ∈ l, -9223372036854775808 ≤ x ∧ x ≤ 9223372036854775807) : Holds (Btw n0 h.length) h ints l [v] := by
  refine ⟨v, _, rfl, H.slice fun k hk => H.lt hk, fun i x hi => ?_⟩
  simp only [PT.sz, Nat.mul_one, List.take_one, List.head?_drop, List.getElem?_map, hi]
  exact ⟨rfl, hr x (List.mem_of_getElem? hi)⟩

section
variable {R : Type} {Q : R → Prop}
/-- What is not the slice's block is as it was. -/
def But (v : AV) (h h' : Heap) : Prop := h.length ≤ h'.length ∧ ∀ l, l < h.length → v.blk ≠ some l → h'[l]? = h[l]?
theorem But.old {n0 n : Nat} {h h' : Heap} {s : Nat} {v : AV} {cs : List AV} (b : But v h h') (H : Acc n0 h s v cs n) (hn : n0 ≤ h.length) : Old n0 h h' :=
  ⟨Nat.le_trans hn b.1, fun l hl => b.2 l (by omega) fun e => by have := (H.lt e).1; omega⟩
theorem wp_app {base n0 s bytes n m : Nat} {h : Heap} {v : AV} {cs ys : List AV} (H : Acc n0 h s v cs n) (hb : base ≤ n0) (hn : n0 ≤ h.length) (hy : ys.length = m * s) (h1 : (n + m) * bytes ≤ 140737488355328) (h2 : n + m ≤ 140737488355328) {K : AV → Heap → Option R}
    (k : ∀ v' h', But v h h' → (∀ l, v'.blk = some l → v.blk = some l ∨ l = h.length) → Acc n0 h' s v' (cs ++ ys) (n + m) → WP (K v' h') Q) : WP (appK base s bytes h v ys m K) Q := by
  rcases H.2 with ⟨rfl, rfl, rfl⟩ | ⟨l, g, rfl, h3, h4, h5⟩
  · simp only [Nat.zero_add] at h1 h2
    simp only [appK]
    rw [if_pos ⟨h1, h2⟩]
    split
    · rename_i h0
      subst h0
      have : ys = [] := List.length_eq_zero_iff.1 (by simpa using hy)
      subst this
      exact k _ _ ⟨Nat.le_refl _, fun _ _ _ => rfl⟩ (fun l hl => by cases hl) Acc.nil
    · refine k _ _ ⟨by simp, fun l hl _ => List.getElem?_append_left hl⟩ (fun l hl => .inr (by cases hl; rfl)) ?_
      simp only [List.nil_append, Nat.zero_add]
      exact Acc.new hn hy h2
  · have hl := (List.getElem?_eq_some_iff.1 h4).1
    simp only [appK]
    rw [if_pos ⟨by omega, trivial, h1, h2⟩]
    unfold blockK
    rw [h4]
    simp only [if_true]
    rw [if_pos ⟨trivial, h5.symm⟩]
    refine k _ _ ⟨by simp, fun j hj hne => List.getElem?_set_ne (by intro e; subst e; exact hne rfl)⟩ (fun j hj => .inl (by cases hj; rfl)) ⟨h2, .inr ⟨l, g + 1, rfl, h3, ?_, ?_⟩⟩
    · rw [List.getElem?_set_self hl]
    · rw [List.length_append, h5, hy, Nat.add_mul]
/-- A list of what has a shape, in a slice of the function's own; what it is made of lies from f on, in other blocks. -/
def AccP (f n0 : Nat) (h : Heap) (p : PT) (v : AV) (l : List p.den) : Prop :=
  ∃ cs, Acc n0 h p.sz v cs l.length ∧ ∀ (i : Nat) (x : p.den), l[i]? = some x → Holds (fun j => f ≤ j ∧ j < h.length ∧ v.blk ≠ some j) h p x ((cs.drop (i * p.sz)).take p.sz)
theorem AccP.nil {f n0 : Nat} {h : Heap} {p : PT} : AccP f n0 h p .nil [] := ⟨[], Acc.nil, fun i x hi => by simp at hi⟩
theorem AccP.one {f n0 : Nat} {h : Heap} {p : PT} {v : AV} {l : List p.den} (H : AccP f n0 h p v l) : v.one = true := let ⟨_, a, _⟩ := H; a.one
theorem AccP.keep {f n0 : Nat} {h h' : Heap} {p : PT} {v : AV} {l : List p.den} (H : AccP f n0 h p v l) (ho : Old h.length h h') : AccP f n0 h' p v l := by
  obtain ⟨cs, a, e⟩ := H
  exact ⟨cs, a.keep fun l hl => ho.2 l (a.lt hl).2, fun i x hi => (e i x hi).frame fun j hj => ⟨⟨hj.1, Nat.lt_of_lt_of_le hj.2.1 ho.1, hj.2.2⟩, ho.2 j hj.2.1⟩⟩
theorem Acc.mono {n0 m0 : Nat} {h : Heap} {s n : Nat} {v : AV} {cs : List AV} (H : Acc n0 h s v cs n) (hm : m0 ≤ n0) : Acc m0 h s v cs n := by
  refine ⟨H.1, ?_⟩
  rcases H.2 with h1 | ⟨l, g, h1, h2, h3⟩
  · exact .inl h1
  · exact .inr ⟨l, g, h1, Nat.le_trans hm h2, h3⟩
theorem AccP.mono {f n0 m0 : Nat} {h : Heap} {p : PT} {v : AV} {l : List p.den} (H : AccP f n0 h p v l) (hm : m0 ≤ n0) (hf : m0 ≤ f) : AccP m0 m0 h p v l := by
  obtain ⟨cs, a, e⟩ := H
  exact ⟨cs, a.mono hm, fun i x hi => (e i x hi).mono fun j hj => ⟨Nat.le_trans hf hj.1, hj.2⟩⟩
theorem AccP.holds {f n0 : Nat} {h : Heap} {p : PT} {v : AV} {l : List p.den} (H : AccP f n0 h p v l) (hf : f ≤ n0) : Holds (Btw f h.length) h (.slice p) l [v] := by
  obtain ⟨cs, a, e⟩ := H
  exact ⟨v, cs, rfl, a.slice fun k hk => ⟨Nat.le_trans hf (a.lt hk).1, (a.lt hk).2⟩, fun i x hi => (e i x hi).mono fun j hj => ⟨hj.1, hj.2.1⟩⟩
theorem wp_push {base f n0 bytes s : Nat} {h : Heap} {p : PT} {v : AV} {l : List p.den} {x : p.den} {ys : List AV} (H : AccP f n0 h p v l) (hx : Holds (fun j => f ≤ j ∧ j < h.length ∧ v.blk ≠ some j) h p x ys) (hs : s = p.sz) (hb : base ≤ n0) (hn : n0 ≤ h.length)
    (h1 : (l.length + 1) * bytes ≤ 140737488355328) (h2 : l.length + 1 ≤ 140737488355328) {K : AV → Heap → Option R}
    (k : ∀ v' h', But v h h' → Old n0 h h' → AccP f n0 h' p v' (l ++ [x]) → WP (K v' h') Q) : WP (appK base s bytes h v ys 1 K) Q := by
  subst hs
  obtain ⟨cs, a, e⟩ := H
  have hcl := a.len
  refine wp_app a hb hn (by rw [hx.len, Nat.one_mul]) h1 h2 fun v' h' but hv a' => k v' h' but (but.old a hn) ⟨cs ++ ys, by simpa using a', fun i y hi => ?_⟩
  have fr : ∀ j, (f ≤ j ∧ j < h.length ∧ v.blk ≠ some j) → (f ≤ j ∧ j < h'.length ∧ v'.blk ≠ some j) ∧ h'[j]? = h[j]? := fun j hj => ⟨⟨hj.1, Nat.lt_of_lt_of_le hj.2.1 but.1, fun eq => by
    rcases hv j eq with e1 | e1
    · exact hj.2.2 e1
    · omega⟩, but.2 j hj.2.1 hj.2.2⟩
  rcases Nat.lt_or_ge i l.length with hil | hil
  · rw [List.getElem?_append_left hil] at hi
    have hle : (i + 1) * p.sz ≤ l.length * p.sz := Nat.mul_le_mul_right _ hil
    rw [Nat.add_mul, Nat.one_mul] at hle
    rw [List.drop_append_of_le_length (by omega), List.take_append_of_le_length (by rw [List.length_drop]; omega)]
    exact (e i y hi).frame fr
  · rw [List.getElem?_append_right hil] at hi
    have h0 : i = l.length := by
      rcases Nat.eq_or_lt_of_le hil with h0 | h0
      · exact h0.symm
      · rw [List.getElem?_eq_none (by simp; omega)] at hi
        cases hi
    subst h0
    simp at hi
    subst hi
    rw [← hcl, List.drop_left, List.take_of_length_le (Nat.le_of_eq hx.len)]
    exact hx.frame fr
theorem layAt_len {cs vs : List AV} {o : Nat} (h : o + vs.length ≤ cs.length) : (layAt cs o vs).length = cs.length := by
  unfold layAt
  simp
  omega
theorem wp_set {base n0 s n : Nat} {h : Heap} {v : AV} {cs : List AV} (H : Acc n0 h s v cs n) (hb : base ≤ n0) {i o m : Nat} (hi : i < n) (ho : o + m ≤ s) {x : AV} {vs : List AV} (hx : ∀ {R : Type} (K : List AV → Option R), cellsK x K = K vs) (hv : vs.length = m) {K : Heap → Option R}
    (k : ∀ h', But v h h' → h'.length = h.length → Acc n0 h' s v (layAt cs (i * s + o) vs) n → WP (K h') Q) : WP (storeK base m h (addrOf v s i o) x K) Q := by
  rcases H.2 with ⟨rfl, rfl, rfl⟩ | ⟨l, g, rfl, h3, h4, h5⟩
  · omega
  · have hl := (List.getElem?_eq_some_iff.1 h4).1
    have hb2 : i * s + o + m ≤ cs.length := by
      have : (i + 1) * s ≤ n * s := Nat.mul_le_mul_right s hi
      rw [Nat.add_mul, Nat.one_mul] at this
      omega
    simp only [addrOf, storeK, hx]
    rw [if_pos (by omega), if_pos hv]
    unfold blockK
    rw [h4]
    simp only [if_true, Nat.zero_add]
    rw [if_pos hb2]
    refine k _ ⟨by simp, fun j hj hne => List.getElem?_set_ne (by intro e; subst e; exact hne rfl)⟩ (by simp) ⟨H.1, .inr ⟨l, g, rfl, h3, ?_, ?_⟩⟩
    · rw [List.getElem?_set_self hl]
    · rw [layAt_len (by omega)]
      exact h5
theorem layAt_self {cs vs : List AV} {o : Nat} (h : o + vs.length ≤ cs.length) : ((layAt cs o vs).drop o).take vs.length = vs := by
  unfold layAt
  rw [List.append_assoc, List.drop_append, List.drop_of_length_le (by simp; omega)]
  simp only [List.length_take, List.nil_append]
  rw [show o - min o cs.length = 0 by omega]
  simp
theorem layAt_before {cs vs : List AV} {o a m : Nat} (h : o + vs.length ≤ cs.length) (ha : a + m ≤ o) : ((layAt cs o vs).drop a).take m = (cs.drop a).take m := by
  unfold layAt
  rw [List.append_assoc, List.drop_append_of_le_length (by simp; omega), List.take_append_of_le_length (by simp; omega), List.drop_take, List.take_take]
  congr 1
  omega
theorem layAt_behind {cs vs : List AV} {o a m : Nat} (h : o + vs.length ≤ cs.length) (ha : o + vs.length ≤ a) : ((layAt cs o vs).drop a).take m = (cs.drop a).take m := by
  unfold layAt
  rw [List.drop_append, List.drop_of_length_le (by simp; omega), List.nil_append, List.drop_drop]
  congr 2
  simp
  omega
theorem AccP.apart {f n0 : Nat} {h : Heap} {p : PT} {v : AV} {l : List p.den} (H : AccP f n0 h p v l) {j : Nat} (hj : j < n0) : v.blk ≠ some j := fun e => by
  obtain ⟨_, a, _⟩ := H
  have := (a.lt e).1
  omega
/-- What is old stands apart from a slice of one's own. -/
theorem Holds.beside {f n0 : Nat} {h h' : Heap} {p q : PT} {v : AV} {l : List p.den} {x : q.den} {cs : List AV} (hx : Holds (fun j => j < n0) h q x cs) (H : AccP f n0 h' p v l) (o : Old n0 h h') : Holds (fun j => 0 ≤ j ∧ j < h'.length ∧ v.blk ≠ some j) h' q x cs :=
  hx.frame fun j hj => ⟨⟨Nat.zero_le _, Nat.lt_of_lt_of_le hj o.1, H.apart hj⟩, o.2 j hj⟩
theorem Holds.one1 {S : Nat → Prop} {h : Heap} {p : PT} {l : List p.den} {v : AV} (H : Holds S h (.slice p) l [v]) : v.one = true := by
  obtain ⟨v', ds, e, hs, _⟩ := H
  cases e
  exact hs.one
/-- An element is written. -/
theorem wp_put {base f n0 s : Nat} {h : Heap} {p : PT} {v : AV} {l : List p.den} {x : p.den} {X : AV} {ys : List AV} (H : AccP f n0 h p v l) (hx : Holds (fun j => f ≤ j ∧ j < h.length ∧ v.blk ≠ some j) h p x ys) (hX : ∀ {R : Type} (K : List AV → Option R), cellsK X K = K ys) (hs : s = p.sz) (hb : base ≤ n0) (hn : n0 ≤ h.length)
    {i : Nat} (hi : i < l.length) {K : Heap → Option R} (k : ∀ h', But v h h' → h'.length = h.length → Old n0 h h' → AccP f n0 h' p v (l.set i x) → WP (K h') Q) : WP (storeK base s h (addrOf v s i 0) X K) Q := by
  subst hs
  obtain ⟨cs, a, e⟩ := H
  have hcl := a.len
  have hyl := hx.len
  have hle : (i + 1) * p.sz ≤ l.length * p.sz := Nat.mul_le_mul_right _ hi
  rw [Nat.add_mul, Nat.one_mul] at hle
  refine wp_set a hb hi (by omega) hX hyl fun h' but hl' a' => k h' but hl' (but.old a hn) ⟨_, by simpa using a', fun j y hj => ?_⟩
  have fr : ∀ j, (f ≤ j ∧ j < h.length ∧ v.blk ≠ some j) → (f ≤ j ∧ j < h'.length ∧ v.blk ≠ some j) ∧ h'[j]? = h[j]? := fun j hj => ⟨⟨hj.1, Nat.lt_of_lt_of_le hj.2.1 but.1, hj.2.2⟩, but.2 j hj.2.1 hj.2.2⟩
  try simp only [Nat.add_zero]
  by_cases hij : j = i
  · subst hij
    rw [List.getElem?_set_self hi] at hj
    cases hj
    have hself := layAt_self (cs := cs) (vs := ys) (o := j * p.sz) (by omega)
    rw [hyl] at hself
    rw [hself]
    exact hx.frame fr
  · rw [List.getElem?_set_ne (fun e => hij e.symm)] at hj
    have hjl := (List.getElem?_eq_some_iff.1 hj).1
    rcases Nat.lt_or_ge j i with h1 | h1
    · have : (j + 1) * p.sz ≤ i * p.sz := Nat.mul_le_mul_right _ h1
      rw [Nat.add_mul, Nat.one_mul] at this
      rw [layAt_before (by omega) this]
      exact (e j y hj).frame fr
    · have : (i + 1) * p.sz ≤ j * p.sz := Nat.mul_le_mul_right _ (by omega)
      rw [Nat.add_mul, Nat.one_mul] at this
      rw [layAt_behind (by omega) (by omega)]
      exact (e j y hj).frame fr
/-- Numbers of one's own. -/
theorem AccP.ints {f n0 : Nat} {h : Heap} {v : AV} {l : List Int} (H : AccP f n0 h (.int .i64) v l) : ∃ ds, SliceAt (Btw n0 h.length) h v 1 l.length ds ∧ (∀ (i : Nat) (hi : i < l.length), (ds.drop (i * 1)).take 1 = [.int .i64 l[i]]) ∧ (∀ x ∈ l, -9223372036854775808 ≤ x ∧ x ≤ 9223372036854775807) ∧ l.length ≤ 140737488355328 := by
  obtain ⟨cs, a, e⟩ := H
  refine ⟨cs, a.slice fun l hl => a.lt hl, fun i hi => (e i l[i] (List.getElem?_eq_getElem hi)).1, fun x hx => ?_, a.1⟩
  obtain ⟨i, hi, rfl⟩ := List.getElem_of_mem hx
  exact (e i l[i] (List.getElem?_eq_getElem hi)).2
/-- A part of a slice. -/
theorem wp_cut {S : Nat → Prop} {h : Heap} {p : PT} {v : AV} {l : List p.den} {s a b : Nat} (H : Holds S h (.slice p) l [v]) (hs : s = p.sz) (hab : a ≤ b) (hb : b ≤ l.length) {x y : Int} (hx : x = (a : Int)) (hy : y = (b : Int)) {K : AV → Option R}
    (k : ∀ v', Holds S h (.slice p) ((l.drop a).take (b - a)) [v'] → WP (K v') Q) : WP (cutK s h v x y K) Q := by
  subst hs hx hy
  obtain ⟨v0, ds, e, hs, hc⟩ := H
  cases e
  have hl := hs.len
  have hbs : b * p.sz ≤ l.length * p.sz := Nat.mul_le_mul_right _ hb
  have hba : (b - a) * p.sz + a * p.sz = b * p.sz := by rw [← Nat.add_mul, Nat.sub_add_cancel hab]
  have hlen : ((l.drop a).take (b - a)).length = b - a := by simp; omega
  have el : ∀ (i : Nat) (x : p.den), ((l.drop a).take (b - a))[i]? = some x → Holds S h p x (((((ds.drop (a * p.sz)).take ((b - a) * p.sz)).drop (i * p.sz))).take p.sz) := fun i x hi => by
    have hib : i < b - a := by
      have := (List.getElem?_eq_some_iff.1 hi).1
      omega
    rw [List.getElem?_take, if_pos hib, List.getElem?_drop] at hi
    have := hc (a + i) x hi
    have h1 : (i + 1) * p.sz ≤ (b - a) * p.sz := Nat.mul_le_mul_right _ hib
    rw [Nat.add_mul, Nat.one_mul] at h1
    rw [List.drop_take, List.drop_drop, List.take_take, ← Nat.add_mul, Nat.min_eq_left (by omega)]
    exact this
  have n1 := hs.1
  unfold SliceAt at hs
  replace hs := hs.2
  unfold cutK
  cases v with
  | nil =>
    have h0 : l.length = 0 := hs.1
    have e1 : (l.drop a).take (b - a) = [] := List.length_eq_zero_iff.1 (by omega)
    refine k .nil ?_
    rw [e1]
    exact ⟨.nil, [], rfl, ⟨Nat.zero_le _, rfl, rfl⟩, fun i x hi => by simp at hi⟩
  | imm m cs =>
    obtain ⟨rfl, rfl, h3⟩ := hs
    simp only [Int.toNat_natCast]
    exact k _ ⟨_, _, rfl, ⟨by omega, by rw [hlen], rfl, by rw [hlen, List.length_take, List.length_drop]; omega⟩, el⟩
  | ref r g off m =>
    obtain ⟨h1, rfl, h3, all, h4, h5, rfl⟩ := hs
    simp only [blockK, h4, if_true, Int.toNat_natCast]
    refine k _ ⟨_, _, rfl, ⟨by omega, h1, by rw [hlen], by rw [hlen, List.length_take, List.length_drop, List.length_take, List.length_drop]; omega, all, h4, by rw [hlen]; omega, ?_⟩, el⟩
    rw [hlen, List.drop_take, List.drop_drop, List.take_take, Nat.min_eq_left (by omega)]
  | undef => exact hs.elim
  | bool _ => exact hs.elim
  | int _ _ => exact hs.elim
  | str _ => exact hs.elim
  | ptr _ _ _ => exact hs.elim
  | iptr _ _ => exact hs.elim
  | agg _ => exact hs.elim
  | tup _ => exact hs.elim
  | fn _ _ => exact hs.elim
  | map _ => exact hs.elim
  | iter _ => exact hs.elim
/-- A new block, written whole. -/
theorem wp_init {b n : Nat} {h : Heap} {zs cs : List AV} (hb : b ≤ h.length) (hz : zs.length = n) (hc : cs.length = n) {K : Heap → Option R} (k : WP (K (h ++ [.cells 0 1 cs])) Q) : WP (storeK b n (h ++ [.cells 0 1 zs]) (.ptr h.length 0 0) (.agg cs) K) Q := by
  simp only [storeK, cellsK_agg]
  rw [if_pos hb, if_pos hc]
  unfold blockK
  simp only [List.getElem?_append_right (Nat.le_refl _), Nat.sub_self, List.getElem?_cons_zero, if_true, Nat.zero_add]
  rw [if_pos (by omega)]
  have e : layAt zs 0 cs = cs := by
    unfold layAt
    simp
    omega
  rw [e]
  simpa using k
@[simp] theorem lenK_ref {l g o n : Nat} (K : Nat → Option R) : lenK (.ref l g o n) K = K n := rfl
@[simp] theorem lenK_nil (K : Nat → Option R) : lenK .nil K = K 0 := rfl
@[simp] theorem sliceK_new {h : Heap} {s n : Nat} {cs : List AV} (K : List AV → Option R) : sliceK (h ++ [.cells 0 s cs]) s (.ref h.length 0 0 n) K = if n * s ≤ cs.length then K (cs.take (n * s)) else none := by
  simp [sliceK, blockK]
end
end Go.AM

/- What the functions that make numbers' slices tell. -/
namespace Go.AM
theorem take_succ_app {α : Type} {l : List α} {i : Nat} (hi : i < l.length) : l.take (i + 1) = l.take i ++ [l[i]] := by
  rw [List.take_add_one, List.getElem?_eq_getElem hi]
  rfl
theorem ref0_CopyNumbers {h : Heap} {v : AV} {d : List Int} (hd : In h ints d [v]) (hl : d.length * 8 ≤ 140737488355328) (b : Nat) (hb : b ≤ h.length) :
    WP (call prog b 25 [v] h) fun r => Old h.length h r.2 ∧ AccP h.length h.length r.2 int r.1 d := by
  obtain ⟨ds, hs, hc, hr, hb'⟩ := hd.ints
  refine wp_enter (fn := C.ref0_CopyNumbers) rfl ?_
  dsimp only [bodyN, C.ref0_CopyNumbers, C.ref0_CopyNumbers_l0]; simp
  refine wp_loop (I := fun m e h' => Old h.length h h' ∧ ∃ i a, e = (ea 0 v <| ea 3 a <| ea 4 (.int .i64 (i : Nat)) e0) ∧ i + m = d.length ∧ AccP h.length h.length h' int a (d.take i)) ?_ ⟨Old.refl (Nat.le_refl _), 0, .nil, rfl, Nat.zero_add _, AccP.nil⟩
  rintro N m e h' ⟨old, i, a, rfl, him, acc⟩ next
  have hs' := hs.old old (Nat.le_refl _)
  have ho := old.1
  dsimp only [C.ref0_CopyNumbers_b0]; simp [layAt]
  refine wp_len hs' ?_
  try simp
  refine wp_dec (fun hi => ?_) fun hi => ?_
  · refine wp_idx hs' rfl hi ?_; (try simp); refine wp_cell hs' hi (hc i hi) rfl ?_
    try simp
    refine wp_push (x := d[i]) (bytes := 8) (acc.keep Old.app) ⟨rfl, hr _ (List.getElem_mem hi)⟩ rfl hb (by simp; omega) (by simp; omega) (by simp; omega) fun a' h2 _ o2 acc' => ?_
    try simp
    rw [succ64 hi hb']
    exact next (m - 1) _ _ (by omega) ⟨old.trans ((Old.app.mono ho).trans o2), i + 1, _, rfl, by omega, by rw [take_succ_app hi]; exact acc'⟩
  · refine wp_some ⟨old, ?_⟩
    rwa [List.take_of_length_le (by omega)] at acc
theorem slices_Clone_int {h : Heap} {v : AV} {d : List Int} (hd : In h ints d [v]) (hl : d.length * 8 ≤ 140737488355328) (b : Nat) (hb : b ≤ h.length) :
    WP (call prog b 112 [v] h) fun r => Old h.length h r.2 ∧ AccP h.length h.length r.2 int r.1 d := by
  obtain ⟨ds, hs, hc, hr, hb'⟩ := hd.ints
  refine wp_enter (fn := C.slices_Clone_int) rfl ?_
  dsimp only [bodyN, C.slices_Clone_int]; simp
  refine wp_isnil hs fun q hq => ?_
  try simp
  refine wp_iteK (fun h0 => wp_some ⟨Old.refl (Nat.le_refl _), ?_⟩) fun _ => ?_
  · have : d = [] := List.length_eq_zero_iff.1 (hq h0)
    subst this
    exact AccP.nil
  have o1 : Old h.length h (h ++ [AObj.cells 0 1 []]) := Old.app
  have hs' := hs.old o1 (Nat.le_refl _)
  refine wp_slice hs' ?_; (try simp); refine wp_len hs' ?_
  try simp
  have hdl := hs.len
  refine wp_guard (by omega) ?_
  try simp
  refine wp_app (n0 := h.length) (Acc.new (n := 0) (cs := []) (s := 1) (Nat.le_refl _) (by simp) (by omega)) hb (by simp) hdl (by omega) (by omega) fun v' h' but _ a' => wp_some ⟨o1.trans (but.old (Acc.new (n := 0) (cs := []) (s := 1) (Nat.le_refl _) (by simp) (by omega)) (by simp)), ds, ?_, fun i x hi => ?_⟩
  · simpa [PT.sz] using a'
  · obtain ⟨hi', rfl⟩ := List.getElem?_eq_some_iff.1 hi
    simp only [PT.sz]
    rw [hc i hi']
    exact ⟨rfl, hr _ (List.getElem_mem hi')⟩
theorem quo_in {x n : Int} (hx : -9223372036854775808 ≤ x ∧ x ≤ 9223372036854775807) (hn : 1 ≤ n) : -9223372036854775808 ≤ x.tdiv n ∧ x.tdiv n ≤ 9223372036854775807 := by
  rcases Int.lt_or_le x 0 with h | h
  · have e : x.tdiv n = -((-x).tdiv n) := by rw [Int.neg_tdiv, Int.neg_neg]
    have h1 : (-x).tdiv n ≤ -x := Int.tdiv_le_self _ (by omega)
    have h2 : 0 ≤ (-x).tdiv n := Int.tdiv_nonneg (by omega) (by omega)
    omega
  · have h1 : x.tdiv n ≤ x := Int.tdiv_le_self _ h
    have h2 : 0 ≤ x.tdiv n := Int.tdiv_nonneg h (by omega)
    omega
/-- The last one, so many times less. -/
def lessD (d : List Int) (n : Int) : List Int := d.set (d.length - 1) ((d.getD (d.length - 1) 0).tdiv n)
theorem ref1_less {h : Heap} {v : AV} {d : List Int} (hd : In h ints d [v]) (hl : d.length * 8 ≤ 140737488355328) (h0 : d ≠ []) {n : Int} (hn : 1 ≤ n) (b : Nat) (hb : b ≤ h.length) :
    WP (call prog b 102 [v, .int .i64 n] h) fun r => Old h.length h r.2 ∧ AccP h.length h.length r.2 int r.1 (lessD d n) := by
  refine wp_enter (fn := C.ref1_less) rfl ?_
  dsimp only [bodyN, C.ref1_less]; simp
  refine wp_call (ref0_CopyNumbers hd hl b hb) fun v1 h1 ⟨o1, a1⟩ => ?_
  simp only at o1 a1
  obtain ⟨ds, hs, hc, hr, hbl⟩ := a1.ints
  have hp : 0 < d.length := List.length_pos_iff.2 h0
  have hw : IntKind.i64.wrap ((d.length : Int) - 1) = ((d.length - 1 : Nat) : Int) := by rw [w64_id (by omega) (by omega)]; omega
  refine wp_len hs ?_; (try simp); refine wp_len hs ?_
  try simp
  rw [hw]
  refine wp_idx hs rfl (by omega) ?_; (try simp); refine wp_cell hs (by omega) (hc (d.length - 1) (by omega)) rfl ?_
  try simp
  have hr1 := hr _ (List.getElem_mem (show d.length - 1 < d.length by omega))
  have hq := quo_in hr1 hn
  try simp
  refine wp_guard (by omega) ?_
  try simp
  rw [w64_id hq.1 hq.2]
  refine wp_idx hs rfl (by omega) ?_
  try simp
  refine wp_put (x := d[d.length - 1].tdiv n) a1 ⟨rfl, hq⟩ (fun _ => rfl) rfl hb o1.1 (by omega) fun h' _ _ o2 a2 => ?_
  try simp
  refine wp_some ⟨o1.trans o2, ?_⟩
  rw [lessD, List.getD_eq_getElem?_getD, List.getElem?_eq_getElem (by omega)]
  exact a2
/-- The last one. -/
def lastD (d : List Int) : Int := d.getD (d.length - 1) 0
theorem gate_Less {h : Heap} {v : AV} {d : List Int} (hd : In h ints d [v]) (hl : d.length * 8 ≤ 140737488355328) (h0 : d ≠ []) {n : Int} (hn : 1 ≤ n) (b : Nat) (hb : b ≤ h.length) :
    WP (call prog b 147 [v, .int .i64 n] h) fun r => Old h.length h r.2 ∧ ∃ v', r.1 = .tup [v', .bool (decide ((lastD d).tmod n = 0))] ∧ ((lastD d).tmod n = 0 → AccP h.length h.length r.2 int v' (lessD d n)) := by
  refine wp_enter (fn := C.gate_Less) rfl ?_
  dsimp only [bodyN, C.gate_Less]; simp
  refine wp_call (slices_Clone_int hd hl b hb) fun v1 h1 ⟨o1, a1⟩ => ?_
  simp only at o1 a1
  obtain ⟨ds, hs, hc, hr, hbl⟩ := a1.ints
  have hp : 0 < d.length := List.length_pos_iff.2 h0
  have hw : IntKind.i64.wrap ((d.length : Int) - 1) = ((d.length - 1 : Nat) : Int) := by rw [w64_id (by omega) (by omega)]; omega
  refine wp_len hs ?_
  try simp
  rw [hw]
  refine wp_idx hs rfl (by omega) ?_; (try simp); refine wp_cell hs (by omega) (hc (d.length - 1) (by omega)) rfl ?_
  try simp
  have hr1 := hr _ (List.getElem_mem (show d.length - 1 < d.length by omega))
  have hq := quo_in hr1 hn
  have hlast : lastD d = d[d.length - 1] := by rw [lastD, List.getD_eq_getElem?_getD, List.getElem?_eq_getElem (by omega)]; rfl
  try simp
  refine wp_guard (by omega) ?_
  try simp
  rw [hlast]
  refine wp_ndec (fun hne => wp_some ⟨o1, .nil, ?_, fun e => absurd e hne⟩) fun he => ?_
  · simp [hne]
  refine wp_idx hs rfl (by omega) ?_; (try simp); refine wp_cell hs (by omega) (hc (d.length - 1) (by omega)) rfl ?_
  try simp
  refine wp_guard (by omega) ?_
  try simp
  rw [w64_id hq.1 hq.2]
  refine wp_idx hs rfl (by omega) ?_
  try simp
  refine wp_put (x := d[d.length - 1].tdiv n) a1 ⟨rfl, hq⟩ (fun _ => rfl) rfl hb o1.1 (by omega) fun h' _ _ o2 a2 => ?_
  try simp
  refine wp_some ⟨o1.trans o2, v1, ?_, fun _ => ?_⟩
  · simp [he]
  · rw [lessD, ← lastD, hlast]
    exact a2
section
variable {S : Nat → Prop} {h : Heap}
/-- Lists of numbers: one by one. -/
theorem take1_drop {ds : List AV} {i : Nat} (hi : i < ds.length) : (ds.drop (i * 1)).take 1 = [ds[i]] := by
  rw [Nat.mul_one, List.drop_eq_getElem_cons hi]
  rfl
theorem Holds.lists {ls : List (List Int)} {v : AV} (H : Holds S h (.slice (.slice (.int .i64))) ls [v]) : ∃ (ds : List AV) (el : Nat → AV), SliceAt S h v 1 ls.length ds ∧ (∀ i, i < ls.length → (ds.drop (i * 1)).take 1 = [el i]) ∧ (∀ (i : Nat) (hi : i < ls.length), Holds S h (.slice (.int .i64)) ls[i] [el i]) ∧ ls.length ≤ 140737488355328 := by
  obtain ⟨ds, hs, hc⟩ := H.elem
  have hl := hs.len
  simp only [PT.sz] at hl hc
  have he : ∀ i (hi : i < ds.length), ds.getD i .undef = ds[i] := fun i hi => by rw [List.getD_eq_getElem?_getD, List.getElem?_eq_getElem hi]; rfl
  refine ⟨ds, fun i => ds.getD i .undef, hs, fun i hi => ?_, fun i hi => ?_, hs.1⟩
  · rw [take1_drop (by omega)]
    exact congrArg (· :: []) (he i (by omega)).symm
  · have := hc i ls[i] (List.getElem?_eq_getElem hi)
    rw [take1_drop (by omega)] at this
    rw [← he i (by omega)] at this
    exact this
theorem kernel_form_1 {v : AV} {d : List Int} (hd : Holds S h ints d [v]) (b : Nat) : call prog b 141 [v] h = some (.bool (!dimsOk d), h) := by
  refine enter (fn := C.kernel_form_1) rfl ?_
  dsimp only [bodyN, C.kernel_form_1]; simp
  rw [callK_eq (shape_May hd b)]
  try simp
/-- A node's form. -/
def formOk (k n : Int) (d : List Int) (ls : List (List Int)) : Bool :=
  decide (1 ≤ k) && decide (k ≤ 17) && decide ((ls.length : Int) = many k) && ls.all dimsOk && numberOk k n && (if asked k = true then dimsOk d else decide (d = []))
theorem kernel_form {vd vl : AV} {d : List Int} {ls : List (List Int)} {T : Nat → Prop} (hd : Holds T h ints d [vd]) (hl : Holds S h (.slice ints) ls [vl]) (k n : Int) (b : Nat) :
    call prog b 127 [.int .i64 k, .int .i64 n, vd, vl] h = some (.bool (formOk k n d ls), h) := by
  obtain ⟨ds, el, hs, hc, he, hbl⟩ := hl.lists
  obtain ⟨ds', hs', hc', _, _⟩ := hd.ints
  refine wp_iff.1 (wp_enter (fn := C.kernel_form) rfl ?_)
  dsimp only [bodyN, C.kernel_form]; simp
  refine wp_dec (fun h1 => wp_some ?_) fun h1 => ?_
  · simp [formOk]; omega
  try simp
  refine wp_dec (fun h2 => wp_some ?_) fun h2 => ?_
  · simp [formOk]; omega
  refine wp_len hs ?_
  try simp
  refine wp_ndec (fun h3 => wp_some ?_) fun h3 => ?_
  · simp [formOk, h3]
  rw [callK_eq (slices_ContainsFunc_ints (bs := ls.map fun d => !dimsOk d) (el := el) (by simpa using hs) (fun i hi => hc i (by simpa using hi)) b fun i hi => by
    have hi : i < ls.length := by simpa using hi
    rw [kernel_form_1 (he i hi) b]
    simp)]
  have e : (ls.map fun d => !dimsOk d).any id = !(ls.all dimsOk) := by rw [List.any_map, List.not_all_eq_any_not]; rfl
  rw [e]
  try simp
  refine wp_iteK (fun h4 => wp_some ?_) fun h4 => ?_
  · simp only [Bool.not_eq_true'] at h4
    simp [formOk, h4]
  simp only [Bool.not_eq_false'] at h4
  try simp
  refine wp_iteK (fun h5 => wp_some ?_) fun h5 => ?_
  · simp only [Bool.not_eq_true'] at h5
    simp [formOk, h5]
  simp only [Bool.not_eq_false'] at h5
  have hf : formOk k n d ls = (if asked k = true then dimsOk d else decide (d = [])) := by
    have h1' : 1 ≤ k := by omega
    have h2' : k ≤ 17 := by omega
    simp [formOk, h1', h2', h3, h4, h5]
  rw [hf]
  try simp
  refine wp_iteK (fun h6 => ?_) fun h6 => ?_
  · rw [callK_eq (shape_May hd b)]
    try simp
    exact wp_some (by simp [h6])
  · refine wp_len hs' ?_
    try simp
    refine wp_some ?_
    simp [h6]
end
end Go.AM

/- What would a node's dims be: the program's way, and the page's. -/
namespace Go.AM
set_option maxRecDepth 20000
/-- The dims of what is of its form; none: they do not go together. -/
def inferD (k n : Int) (d : List Int) (ls : List (List Int)) : Option (List Int) :=
  let a := ls.getD 0 []
  let c := ls.getD 1 []
  if k = 1 ∨ k = 2 ∨ k = 3 then some d
  else if k = 4 ∨ k = 5 ∨ k = 6 ∨ k = 16 then (if a = c then some a else none)
  else if k = 9 then (if a.length = 2 ∧ c.length = 2 ∧ a.getD 1 0 = c.getD 0 0 then some [a.getD 0 0, c.getD 1 0] else none)
  else if k = 10 then (if a.length = 2 then some [a.getD 1 0, a.getD 0 0] else none)
  else if k = 11 then (if prodW d = prodW a then some d else none)
  else if k = 12 then (if wider a d = true then some d else none)
  else if k = 13 then (if wider d a = true then some d else none)
  else if k = 15 then (if (lastD a).tmod n = 0 then some (lessD a n) else none)
  else if k = 17 then (if (lastD a).tmod n = 0 ∧ lessD a n = c then some a else none)
  else some a
theorem dimsOk_len {d : List Int} (h : dimsOk d = true) : 1 ≤ d.length ∧ d.length ≤ 3 := by
  simp [dimsOk] at h
  omega
theorem dimsOk_mem {d : List Int} (h : dimsOk d = true) {x : Int} (hx : x ∈ d) : 1 ≤ x ∧ x ≤ 8 := by
  simp [dimsOk] at h
  exact h.1.2 x hx
theorem len1 {α : Type} {l : List α} (h : l.length = 1) : ∃ a, l = [a] := by
  cases l with
  | nil => simp at h
  | cons a l => cases l with | nil => exact ⟨a, rfl⟩ | cons _ _ => simp at h
theorem len2 {α : Type} {l : List α} (h : l.length = 2) : ∃ a c, l = [a, c] := by
  cases l with
  | nil => simp at h
  | cons a l => cases l with
    | nil => simp at h
    | cons c l => cases l with | nil => exact ⟨a, c, rfl⟩ | cons _ _ => simp at h
theorem dimsOk_two {x y : Int} (hx : 1 ≤ x ∧ x ≤ 8) (hy : 1 ≤ y ∧ y ≤ 8) : dimsOk [x, y] = true := by
  have h1 : x * y ≤ 8 * 8 := Int.mul_le_mul hx.2 hy.2 (by omega) (by omega)
  have h2 : 1 * 1 ≤ x * y := Int.mul_le_mul hx.1 hy.1 (by omega) (by omega)
  have e : prodW [x, y] = x * y := by
    simp only [prodW, List.foldl_cons, List.foldl_nil, w64, Int.one_mul]
    rw [w64_id (n := x) (by omega) (by omega), w64_id (by omega) (by omega)]
  simp only [dimsOk, e]
  simp
  omega
/-- A new slice of numbers. -/
theorem AccP.newInts {h : Heap} {l : List Int} (hl : l.length ≤ 140737488355328) (hr : ∀ x ∈ l, -9223372036854775808 ≤ x ∧ x ≤ 9223372036854775807) : AccP h.length h.length (h ++ [.cells 0 1 (l.map (.int .i64))]) (.int .i64) (.ref h.length 0 0 l.length) l := by
  refine ⟨l.map (.int .i64), Acc.new (Nat.le_refl _) (by simp) hl, fun i x hi => ?_⟩
  obtain ⟨hil, rfl⟩ := List.getElem?_eq_some_iff.1 hi
  simp only [PT.sz]
  rw [take1_drop (by simpa using hil)]
  exact ⟨by simp, hr _ (List.getElem_mem hil)⟩
section
variable {h : Heap}
theorem kernel_dims {vd vl : AV} {k n : Int} {d : List Int} {ls : List (List Int)} (hd : In h ints d [vd]) (hl : In h (.slice ints) ls [vl]) (hf : formOk k n d ls = true) (b : Nat) (hb : b ≤ h.length) :
    WP (call prog b 128 [.int .i64 k, .int .i64 n, vd, vl] h) fun r => Old h.length h r.2 ∧ AccP h.length h.length r.2 int r.1 ((inferD k n d ls).getD []) := by
  obtain ⟨ds, el, hs, hc, he, hbl⟩ := hl.lists
  simp only [formOk, Bool.and_eq_true, decide_eq_true_eq, List.all_eq_true] at hf
  obtain ⟨⟨⟨⟨⟨hk1, hk2⟩, hlen⟩, hall⟩, hn⟩, hdd⟩ := hf
  have hdl : d.length * 8 ≤ 140737488355328 := by
    split at hdd
    · have := dimsOk_len hdd
      omega
    · simp at hdd
      subst hdd
      simp
  have hok : ∀ i (hi : i < ls.length), dimsOk ls[i] = true := fun i hi => hall _ (List.getElem_mem hi)
  refine wp_enter (fn := C.kernel_dims) rfl ?_
  dsimp only [bodyN, C.kernel_dims]
  have hk : k = 1 ∨ k = 2 ∨ k = 3 ∨ k = 4 ∨ k = 5 ∨ k = 6 ∨ k = 7 ∨ k = 8 ∨ k = 9 ∨ k = 10 ∨ k = 11 ∨ k = 12 ∨ k = 13 ∨ k = 14 ∨ k = 15 ∨ k = 16 ∨ k = 17 := by omega
  rcases hk with rfl | rfl | rfl | rfl | rfl | rfl | rfl | rfl | rfl | rfl | rfl | rfl | rfl | rfl | rfl | rfl | rfl
  all_goals simp [many] at hlen
  all_goals simp
  -- 1, 2, 3
  iterate 3
    · refine wp_call (slices_Clone_int hd hdl b hb) fun v' h' ⟨o, a⟩ => ?_
      try simp
      exact wp_some ⟨o, a⟩
  -- 4, 5, 6
  · obtain ⟨a, c, rfl⟩ := len2 (l := ls) (by omega); have ha : In h ints a [el 0] := he 0 (by simp); have hcc : In h ints c [el 1] := he 1 (by simp); have oka : dimsOk a = true := hok 0 (by simp); have okc : dimsOk c = true := hok 1 (by simp); have la := dimsOk_len oka; have lc := dimsOk_len okc; have sa : a.length * 8 ≤ 140737488355328 := by omega
    refine wp_idx hs rfl (by simp) ?_; (try simp); refine wp_cell hs (by simp) (hc 0 (by simp)) rfl ?_; (try simp)
    refine wp_idx hs rfl (by simp) ?_; (try simp); refine wp_cell hs (by simp) (hc 0 (by simp)) rfl ?_; (try simp)
    refine wp_idx hs rfl (by simp) ?_; (try simp); refine wp_cell hs (by simp) (hc 1 (by simp)) rfl ?_; (try simp)
    rw [callK_eq (slices_Equal_int ha hcc _)]
    try simp
    refine wp_ndec (fun hne => wp_some ⟨Old.refl (Nat.le_refl _), by first | exact AccP.nil | (simp [inferD, *]; exact AccP.nil)⟩) fun heq => ?_
    try simp
    refine wp_call (slices_Clone_int ha sa b hb) fun v' h' ⟨o, a'⟩ => ?_
    try simp
    exact wp_some ⟨o, by simpa [inferD, heq] using a'⟩
  · obtain ⟨a, c, rfl⟩ := len2 (l := ls) (by omega); have ha : In h ints a [el 0] := he 0 (by simp); have hcc : In h ints c [el 1] := he 1 (by simp); have oka : dimsOk a = true := hok 0 (by simp); have okc : dimsOk c = true := hok 1 (by simp); have la := dimsOk_len oka; have lc := dimsOk_len okc; have sa : a.length * 8 ≤ 140737488355328 := by omega
    refine wp_idx hs rfl (by simp) ?_; (try simp); refine wp_cell hs (by simp) (hc 0 (by simp)) rfl ?_; (try simp)
    refine wp_idx hs rfl (by simp) ?_; (try simp); refine wp_cell hs (by simp) (hc 0 (by simp)) rfl ?_; (try simp)
    refine wp_idx hs rfl (by simp) ?_; (try simp); refine wp_cell hs (by simp) (hc 1 (by simp)) rfl ?_; (try simp)
    rw [callK_eq (slices_Equal_int ha hcc _)]
    try simp
    refine wp_ndec (fun hne => wp_some ⟨Old.refl (Nat.le_refl _), by first | exact AccP.nil | (simp [inferD, *]; exact AccP.nil)⟩) fun heq => ?_
    try simp
    refine wp_call (slices_Clone_int ha sa b hb) fun v' h' ⟨o, a'⟩ => ?_
    try simp
    exact wp_some ⟨o, by simpa [inferD, heq] using a'⟩
  · obtain ⟨a, c, rfl⟩ := len2 (l := ls) (by omega); have ha : In h ints a [el 0] := he 0 (by simp); have hcc : In h ints c [el 1] := he 1 (by simp); have oka : dimsOk a = true := hok 0 (by simp); have okc : dimsOk c = true := hok 1 (by simp); have la := dimsOk_len oka; have lc := dimsOk_len okc; have sa : a.length * 8 ≤ 140737488355328 := by omega
    refine wp_idx hs rfl (by simp) ?_; (try simp); refine wp_cell hs (by simp) (hc 0 (by simp)) rfl ?_; (try simp)
    refine wp_idx hs rfl (by simp) ?_; (try simp); refine wp_cell hs (by simp) (hc 0 (by simp)) rfl ?_; (try simp)
    refine wp_idx hs rfl (by simp) ?_; (try simp); refine wp_cell hs (by simp) (hc 1 (by simp)) rfl ?_; (try simp)
    rw [callK_eq (slices_Equal_int ha hcc _)]
    try simp
    refine wp_ndec (fun hne => wp_some ⟨Old.refl (Nat.le_refl _), by first | exact AccP.nil | (simp [inferD, *]; exact AccP.nil)⟩) fun heq => ?_
    try simp
    refine wp_call (slices_Clone_int ha sa b hb) fun v' h' ⟨o, a'⟩ => ?_
    try simp
    exact wp_some ⟨o, by simpa [inferD, heq] using a'⟩
  -- 7, 8
  · obtain ⟨a, rfl⟩ := len1 (l := ls) (by omega); have ha : In h ints a [el 0] := he 0 (by simp); have oka : dimsOk a = true := hok 0 (by simp); have la := dimsOk_len oka; have sa : a.length * 8 ≤ 140737488355328 := by omega
    refine wp_idx hs rfl (by simp) ?_; (try simp); refine wp_cell hs (by simp) (hc 0 (by simp)) rfl ?_; (try simp)
    refine wp_call (slices_Clone_int ha sa b hb) fun v' h' ⟨o, a'⟩ => ?_
    try simp
    exact wp_some ⟨o, by simpa [inferD] using a'⟩
  · obtain ⟨a, rfl⟩ := len1 (l := ls) (by omega); have ha : In h ints a [el 0] := he 0 (by simp); have oka : dimsOk a = true := hok 0 (by simp); have la := dimsOk_len oka; have sa : a.length * 8 ≤ 140737488355328 := by omega
    refine wp_idx hs rfl (by simp) ?_; (try simp); refine wp_cell hs (by simp) (hc 0 (by simp)) rfl ?_; (try simp)
    refine wp_call (slices_Clone_int ha sa b hb) fun v' h' ⟨o, a'⟩ => ?_
    try simp
    exact wp_some ⟨o, by simpa [inferD] using a'⟩
  -- 9
  · obtain ⟨a, c, rfl⟩ := len2 (l := ls) (by omega); have ha : In h ints a [el 0] := he 0 (by simp); have hcc : In h ints c [el 1] := he 1 (by simp); have oka : dimsOk a = true := hok 0 (by simp); have okc : dimsOk c = true := hok 1 (by simp); have la := dimsOk_len oka; have lc := dimsOk_len okc; have sa : a.length * 8 ≤ 140737488355328 := by omega
    obtain ⟨da, sa1, ca, ra, _⟩ := ha.ints
    obtain ⟨dc, sc1, cc, rc, _⟩ := hcc.ints
    by_cases h2 : a.length = 2
    · obtain ⟨p, q, rfl⟩ := len2 h2
      refine wp_idx hs rfl (by simp) ?_; (try simp); refine wp_cell hs (by simp) (hc 0 (by simp)) rfl ?_; (try simp)
      refine wp_len sa1 ?_
      try simp
      refine wp_idx hs rfl (by simp) ?_; (try simp); refine wp_cell hs (by simp) (hc 1 (by simp)) rfl ?_; (try simp)
      refine wp_len sc1 ?_
      try simp
      by_cases h3 : c.length = 2
      · obtain ⟨r, t, rfl⟩ := len2 h3
        try simp
        refine wp_idx hs rfl (by simp) ?_; (try simp); refine wp_cell hs (by simp) (hc 0 (by simp)) rfl ?_; (try simp)
        refine wp_idx sa1 rfl (by simp) ?_; (try simp); refine wp_cell sa1 (by simp) (ca 1 (by simp)) rfl ?_; (try simp)
        refine wp_idx hs rfl (by simp) ?_; (try simp); refine wp_cell hs (by simp) (hc 1 (by simp)) rfl ?_; (try simp)
        refine wp_idx sc1 rfl (by simp) ?_; (try simp); refine wp_cell sc1 (by simp) (cc 0 (by simp)) rfl ?_; (try simp)
        refine wp_dec (fun h4 => ?_) fun h4 => ?_
        · try simp
          refine wp_idx hs rfl (by simp) ?_; (try simp); refine wp_cell hs (by simp) (hc 0 (by simp)) rfl ?_; (try simp)
          refine wp_idx sa1 rfl (by simp) ?_; (try simp); refine wp_cell sa1 (by simp) (ca 0 (by simp)) rfl ?_; (try simp)
          refine wp_idx hs rfl (by simp) ?_; (try simp); refine wp_cell hs (by simp) (hc 1 (by simp)) rfl ?_; (try simp)
          refine wp_idx sc1 rfl (by simp) ?_; (try simp); refine wp_cell sc1 (by simp) (cc 1 (by simp)) rfl ?_; (try simp)
          have hp := dimsOk_mem oka (x := p) (by simp)
          have ht := dimsOk_mem okc (x := t) (by simp)
          have hnew := AccP.newInts (h := h) (l := [p, t]) (by simp) (by intro x hx; simp at hx; omega)
          have hi : In (h ++ [AObj.cells 0 1 [AV.int IntKind.i64 p, AV.int IntKind.i64 t]]) ints [p, t] [.ref h.length 0 0 2] := (hnew.holds (Nat.le_refl _)).mono fun j hj => hj.2
          simp [layAt, h4]
          rw [callK_eq (shape_May hi _), dimsOk_two hp ht]
          try simp
          refine wp_call (slices_Clone_int hi (by simp) b (by simp; omega)) fun v' h' ⟨o, a'⟩ => ?_
          simp only at o a'
          try simp
          refine wp_some ⟨Old.app.trans (o.mono (by simp)), ?_⟩
          simp [inferD, h4]
          exact a'.mono (by simp) (by simp)
        · simp [h4]
          refine wp_some ⟨Old.refl (Nat.le_refl _), ?_⟩
          simp [inferD, h4]
          exact AccP.nil
      · have h3' : ¬ ((c.length : Int) = 2) := by omega
        simp [h3']
        exact wp_some ⟨Old.refl (Nat.le_refl _), by simp [inferD, h3]; exact AccP.nil⟩
    · have h2' : ¬ ((a.length : Int) = 2) := by omega
      refine wp_idx hs rfl (by simp) ?_; (try simp); refine wp_cell hs (by simp) (hc 0 (by simp)) rfl ?_; (try simp)
      refine wp_len sa1 ?_
      simp [h2']
      exact wp_some ⟨Old.refl (Nat.le_refl _), by simp [inferD, h2]; exact AccP.nil⟩
  -- 10
  · obtain ⟨a, rfl⟩ := len1 (l := ls) (by omega); have ha : In h ints a [el 0] := he 0 (by simp); have oka : dimsOk a = true := hok 0 (by simp); have la := dimsOk_len oka; have sa : a.length * 8 ≤ 140737488355328 := by omega
    obtain ⟨da, sa1, ca, ra, _⟩ := ha.ints
    by_cases h2 : a.length = 2
    · obtain ⟨p, q, rfl⟩ := len2 h2
      refine wp_idx hs rfl (by simp) ?_; (try simp); refine wp_cell hs (by simp) (hc 0 (by simp)) rfl ?_; (try simp)
      refine wp_len sa1 ?_
      try simp
      refine wp_idx hs rfl (by simp) ?_; (try simp); refine wp_cell hs (by simp) (hc 0 (by simp)) rfl ?_; (try simp)
      refine wp_idx sa1 rfl (by simp) ?_; (try simp); refine wp_cell sa1 (by simp) (ca 1 (by simp)) rfl ?_; (try simp)
      refine wp_idx hs rfl (by simp) ?_; (try simp); refine wp_cell hs (by simp) (hc 0 (by simp)) rfl ?_; (try simp)
      refine wp_idx sa1 rfl (by simp) ?_; (try simp); refine wp_cell sa1 (by simp) (ca 0 (by simp)) rfl ?_; (try simp)
      have hp := dimsOk_mem oka (x := p) (by simp)
      have ht := dimsOk_mem oka (x := q) (by simp)
      have hnew := AccP.newInts (h := h) (l := [q, p]) (by simp) (by intro x hx; simp at hx; omega)
      have hi : In (h ++ [AObj.cells 0 1 [AV.int IntKind.i64 q, AV.int IntKind.i64 p]]) ints [q, p] [.ref h.length 0 0 2] := (hnew.holds (Nat.le_refl _)).mono fun j hj => hj.2
      simp [layAt]
      refine wp_call (slices_Clone_int hi (by simp) b (by simp; omega)) fun v' h' ⟨o, a'⟩ => ?_
      simp only at o a'
      try simp
      refine wp_some ⟨Old.app.trans (o.mono (by simp)), ?_⟩
      simp [inferD]
      exact a'.mono (by simp) (by simp)
    · have h2' : ¬ ((a.length : Int) = 2) := by omega
      refine wp_idx hs rfl (by simp) ?_; (try simp); refine wp_cell hs (by simp) (hc 0 (by simp)) rfl ?_; (try simp)
      refine wp_len sa1 ?_
      simp [h2']
      exact wp_some ⟨Old.refl (Nat.le_refl _), by simp [inferD, h2]; exact AccP.nil⟩
  -- 11
  · obtain ⟨a, rfl⟩ := len1 (l := ls) (by omega); have ha : In h ints a [el 0] := he 0 (by simp); have oka : dimsOk a = true := hok 0 (by simp); have la := dimsOk_len oka; have sa : a.length * 8 ≤ 140737488355328 := by omega
    rw [callK_eq (shape_Product hd _)]
    try simp
    refine wp_idx hs rfl (by simp) ?_; (try simp); refine wp_cell hs (by simp) (hc 0 (by simp)) rfl ?_; (try simp)
    rw [callK_eq (shape_Product ha _)]
    try simp
    refine wp_ndec (fun hne => wp_some ⟨Old.refl (Nat.le_refl _), by first | exact AccP.nil | (simp [inferD, *]; exact AccP.nil)⟩) fun heq => ?_
    try simp
    refine wp_call (slices_Clone_int hd hdl b hb) fun v' h' ⟨o, a'⟩ => ?_
    try simp
    exact wp_some ⟨o, by simpa [inferD, heq] using a'⟩
  -- 12
  · obtain ⟨a, rfl⟩ := len1 (l := ls) (by omega); have ha : In h ints a [el 0] := he 0 (by simp); have oka : dimsOk a = true := hok 0 (by simp); have la := dimsOk_len oka; have sa : a.length * 8 ≤ 140737488355328 := by omega
    refine wp_idx hs rfl (by simp) ?_; (try simp); refine wp_cell hs (by simp) (hc 0 (by simp)) rfl ?_; (try simp)
    rw [callK_eq (shape_Grows ha hd _)]
    try simp
    refine wp_iteK (fun hne => wp_some ⟨Old.refl (Nat.le_refl _), by simp at hne; simp [inferD, hne]; exact AccP.nil⟩) fun heq => ?_
    try simp
    refine wp_call (slices_Clone_int hd hdl b hb) fun v' h' ⟨o, a'⟩ => ?_
    try simp
    simp at heq
    exact wp_some ⟨o, by simpa [inferD, heq] using a'⟩
  -- 13
  · obtain ⟨a, rfl⟩ := len1 (l := ls) (by omega); have ha : In h ints a [el 0] := he 0 (by simp); have oka : dimsOk a = true := hok 0 (by simp); have la := dimsOk_len oka; have sa : a.length * 8 ≤ 140737488355328 := by omega
    refine wp_idx hs rfl (by simp) ?_; (try simp); refine wp_cell hs (by simp) (hc 0 (by simp)) rfl ?_; (try simp)
    rw [callK_eq (shape_Grows hd ha _)]
    try simp
    refine wp_iteK (fun hne => wp_some ⟨Old.refl (Nat.le_refl _), by simp at hne; simp [inferD, hne]; exact AccP.nil⟩) fun heq => ?_
    try simp
    refine wp_call (slices_Clone_int hd hdl b hb) fun v' h' ⟨o, a'⟩ => ?_
    try simp
    simp at heq
    exact wp_some ⟨o, by simpa [inferD, heq] using a'⟩
  -- 14
  · obtain ⟨a, rfl⟩ := len1 (l := ls) (by omega); have ha : In h ints a [el 0] := he 0 (by simp); have oka : dimsOk a = true := hok 0 (by simp); have la := dimsOk_len oka; have sa : a.length * 8 ≤ 140737488355328 := by omega
    refine wp_idx hs rfl (by simp) ?_; (try simp); refine wp_cell hs (by simp) (hc 0 (by simp)) rfl ?_; (try simp)
    refine wp_call (slices_Clone_int ha sa b hb) fun v' h' ⟨o, a'⟩ => ?_
    try simp
    exact wp_some ⟨o, by simpa [inferD] using a'⟩
  -- 15
  · obtain ⟨a, rfl⟩ := len1 (l := ls) (by omega); have ha : In h ints a [el 0] := he 0 (by simp); have oka : dimsOk a = true := hok 0 (by simp); have la := dimsOk_len oka; have sa : a.length * 8 ≤ 140737488355328 := by omega
    refine wp_idx hs rfl (by simp) ?_; (try simp); refine wp_cell hs (by simp) (hc 0 (by simp)) rfl ?_; (try simp)
    have hn1 : 1 ≤ n := by simp [numberOk] at hn; omega
    refine wp_call (gate_Less ha sa (by intro e; simp [e] at la) hn1 b hb) fun v' h' ⟨o, v1, hv, hl⟩ => ?_
    simp only at o hv hl
    subst hv
    try simp
    refine wp_ndec (fun hne => wp_some ⟨o, by simp [inferD, hne]; exact AccP.nil⟩) fun heq => ?_
    try simp
    have hm := hl heq
    have hi : In h' ints (lessD a n) [v1] := (hm.holds (Nat.le_refl _)).mono fun j hj => hj.2
    refine wp_call (slices_Clone_int hi (by rw [lessD, List.length_set]; omega) b (Nat.le_trans hb o.1)) fun v'' h'' ⟨o', a'⟩ => ?_
    simp only at o' a'
    try simp
    refine wp_some ⟨o.trans (o'.mono o.1), ?_⟩
    simp [inferD, heq]
    exact a'.mono o.1 o.1
  -- 16
  · obtain ⟨a, c, rfl⟩ := len2 (l := ls) (by omega); have ha : In h ints a [el 0] := he 0 (by simp); have hcc : In h ints c [el 1] := he 1 (by simp); have oka : dimsOk a = true := hok 0 (by simp); have okc : dimsOk c = true := hok 1 (by simp); have la := dimsOk_len oka; have lc := dimsOk_len okc; have sa : a.length * 8 ≤ 140737488355328 := by omega
    refine wp_idx hs rfl (by simp) ?_; (try simp); refine wp_cell hs (by simp) (hc 0 (by simp)) rfl ?_; (try simp)
    refine wp_idx hs rfl (by simp) ?_; (try simp); refine wp_cell hs (by simp) (hc 0 (by simp)) rfl ?_; (try simp)
    refine wp_idx hs rfl (by simp) ?_; (try simp); refine wp_cell hs (by simp) (hc 1 (by simp)) rfl ?_; (try simp)
    rw [callK_eq (slices_Equal_int ha hcc _)]
    try simp
    refine wp_ndec (fun hne => wp_some ⟨Old.refl (Nat.le_refl _), by first | exact AccP.nil | (simp [inferD, *]; exact AccP.nil)⟩) fun heq => ?_
    try simp
    refine wp_call (slices_Clone_int ha sa b hb) fun v' h' ⟨o, a'⟩ => ?_
    try simp
    exact wp_some ⟨o, by simpa [inferD, heq] using a'⟩
  -- 17
  · obtain ⟨a, c, rfl⟩ := len2 (l := ls) (by omega); have ha : In h ints a [el 0] := he 0 (by simp); have hcc : In h ints c [el 1] := he 1 (by simp); have oka : dimsOk a = true := hok 0 (by simp); have okc : dimsOk c = true := hok 1 (by simp); have la := dimsOk_len oka; have lc := dimsOk_len okc; have sa : a.length * 8 ≤ 140737488355328 := by omega
    refine wp_idx hs rfl (by simp) ?_; (try simp); refine wp_cell hs (by simp) (hc 0 (by simp)) rfl ?_; (try simp)
    have hn1 : 1 ≤ n := by simp [numberOk] at hn; omega
    refine wp_call (gate_Less ha sa (by intro e; simp [e] at la) hn1 b hb) fun v' h' ⟨o, v1, hv, hl⟩ => ?_
    simp only at o hv hl
    subst hv
    try simp
    refine wp_dec (fun heq => ?_) fun hne => ?_
    · try simp
      have hm := hl heq
      have hi : In h' ints (lessD a n) [v1] := (hm.holds (Nat.le_refl _)).mono fun j hj => hj.2
      have hs' := hs.old o (Nat.le_refl _)
      refine wp_idx hs' rfl (by simp) ?_; (try simp); refine wp_cell hs' (by simp) (hc 1 (by simp)) rfl ?_; (try simp)
      rw [callK_eq (slices_Equal_int hi (In.old o hcc) _)]
      try simp
      refine wp_idx hs' rfl (by simp) ?_; (try simp); refine wp_cell hs' (by simp) (hc 0 (by simp)) rfl ?_; (try simp)
      refine wp_ndec (fun hne => ?_) fun he2 => ?_
      · refine wp_some ⟨o, ?_⟩
        simp [inferD, heq, hne]
        exact AccP.nil
      · try simp
        refine wp_call (slices_Clone_int (In.old o ha) sa b (Nat.le_trans hb o.1)) fun v'' h'' ⟨o', a'⟩ => ?_
        simp only at o' a'
        try simp
        refine wp_some ⟨o.trans (o'.mono o.1), ?_⟩
        simp [inferD, heq, he2]
        exact a'.mono o.1 o.1
    · try simp
      have hs' := hs.old o (Nat.le_refl _)
      refine wp_idx hs' rfl (by simp) ?_; (try simp); refine wp_cell hs' (by simp) (hc 0 (by simp)) rfl ?_; (try simp)
      exact wp_some ⟨o, by simp [inferD, hne]; exact AccP.nil⟩
end
end Go.AM
