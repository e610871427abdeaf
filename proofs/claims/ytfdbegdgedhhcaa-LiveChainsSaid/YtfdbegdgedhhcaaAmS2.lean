/- What the functions over numbers' slices tell that make nothing. -/
import Derived.Test.YtfdbegdgedhhcaaAmS1
set_option linter.all false
namespace Go.AM
/-- The product, as 64 bits hold it. -/
def prodW (d : List Int) : Int := d.foldl (fun n x => w64 (n * x)) 1
section
variable {S T : Nat → Prop} {h : Heap}
theorem shape_Product {v : AV} {d : List Int} (hd : Holds S h ints d [v]) (b : Nat) : call prog b 106 [v] h = some (.int .i64 (prodW d), h) := by
  obtain ⟨ds, hs, hc, _, hb⟩ := hd.ints
  refine wp_iff.1 (wp_enter (fn := C.shape_Product) rfl ?_)
  dsimp only [bodyN, C.shape_Product, C.shape_Product_l0]; simp
  refine wp_len hs ?_
  refine wp_loop (I := fun m e h' => h' = h ∧ ∃ i p, e = (ea 3 (.int .i64 p) <| ea 6 v <| ea 7 (.int .i64 d.length) <| ea 8 (.int .i64 (i : Nat)) e0) ∧ i + m = d.length ∧ p = prodW (d.take i)) ?_ ⟨rfl, 0, 1, rfl, Nat.zero_add _, rfl⟩
  rintro N m e _ ⟨rfl, i, p, rfl, him, rfl⟩ next
  dsimp only [C.shape_Product_b0]; simp
  refine wp_dec (fun hi => ?_) fun hi => ?_
  · refine wp_idx hs rfl hi ?_
    refine wp_cell hs hi (hc i hi) rfl ?_
    try simp
    rw [succ64 hi hb]
    exact next (m - 1) _ _ (by omega) ⟨rfl, i + 1, _, rfl, by omega, (foldl_take_succ (fun n x => w64 (n * x)) 1 hi).symm⟩
  · refine wp_some ?_
    rw [List.take_of_length_le (by omega)]
theorem ref1_Cells {v : AV} {d : List Int} (hd : Holds S h ints d [v]) (b : Nat) : call prog b 78 [v] h = some (.int .i64 (prodW d), h) := by
  obtain ⟨ds, hs, hc, _, hb⟩ := hd.ints
  refine wp_iff.1 (wp_enter (fn := C.ref1_Cells) rfl ?_)
  dsimp only [bodyN, C.ref1_Cells, C.ref1_Cells_l0]; simp
  refine wp_loop (I := fun m e h' => h' = h ∧ ∃ i p, e = (ea 0 v <| ea 3 (.int .i64 p) <| ea 4 (.int .i64 (i : Nat)) e0) ∧ i + m = d.length ∧ p = prodW (d.take i)) ?_ ⟨rfl, 0, 1, rfl, Nat.zero_add _, rfl⟩
  rintro N m e _ ⟨rfl, i, p, rfl, him, rfl⟩ next
  dsimp only [C.ref1_Cells_b0]; simp
  refine wp_len hs ?_
  try simp
  refine wp_dec (fun hi => ?_) fun hi => ?_
  · refine wp_idx hs rfl hi ?_
    refine wp_cell hs hi (hc i hi) rfl ?_
    try simp
    rw [succ64 hi hb]
    exact next (m - 1) _ _ (by omega) ⟨rfl, i + 1, _, rfl, by omega, (foldl_take_succ (fun n x => w64 (n * x)) 1 hi).symm⟩
  · refine wp_some ?_
    rw [List.take_of_length_le (by omega)]
theorem take_eq_succ {α : Type} {a b : List α} {i : Nat} (ha : i < a.length) (hb : i < b.length) (h : a.take i = b.take i) (e : a[i] = b[i]) : a.take (i + 1) = b.take (i + 1) := by
  rw [List.take_add_one, List.take_add_one, h, List.getElem?_eq_getElem ha, List.getElem?_eq_getElem hb, e]
theorem ref0_EqNumbers {va vb : AV} {x y : List Int} (hx : Holds S h ints x [va]) (hy : Holds T h ints y [vb]) (b : Nat) : call prog b 5 [va, vb] h = some (.bool (decide (x = y)), h) := by
  obtain ⟨ds, hs, hc, _, hb⟩ := hx.ints
  obtain ⟨ds', hs', hc', _, hb'⟩ := hy.ints
  refine wp_iff.1 (wp_enter (fn := C.ref0_EqNumbers) rfl ?_)
  dsimp only [bodyN, C.ref0_EqNumbers, C.ref0_EqNumbers_l0]; simp
  refine wp_len hs ?_; (try simp); refine wp_len hs' ?_
  try simp
  refine wp_ndec (fun hl => ?_) fun hl => ?_
  · refine wp_some ?_
    rw [decide_eq_false (fun e => hl (by rw [e]))]
  refine wp_loop (I := fun m e h' => h' = h ∧ ∃ i, e = (ea 0 va <| ea 1 vb <| ea 5 (.int .i64 (i : Nat)) e0) ∧ i + m = x.length ∧ x.take i = y.take i) ?_ ⟨rfl, 0, rfl, Nat.zero_add _, rfl⟩
  rintro N m e _ ⟨rfl, i, rfl, him, heq⟩ next
  dsimp only [C.ref0_EqNumbers_b0]; simp
  refine wp_len hs ?_
  try simp
  refine wp_dec (fun hi => ?_) fun hi => ?_
  · refine wp_idx hs rfl hi ?_
    refine wp_cell hs hi (hc i hi) rfl ?_
    refine wp_idx hs' rfl (by omega) ?_
    refine wp_cell hs' (by omega) (hc' i (by omega)) rfl ?_
    try simp
    refine wp_ndec (fun hn => ?_) fun hn => ?_
    · refine wp_some ?_
      rw [decide_eq_false (fun e => hn (by simp [e]))]
    · rw [succ64 hi hb]
      exact next (m - 1) _ _ (by omega) ⟨rfl, i + 1, rfl, by omega, take_eq_succ hi (by omega) heq hn⟩
  · refine wp_some ?_
    rw [List.take_of_length_le (by omega), List.take_of_length_le (by omega)] at heq
    rw [decide_eq_true heq]
theorem slices_Equal_int {va vb : AV} {x y : List Int} (hx : Holds S h ints x [va]) (hy : Holds T h ints y [vb]) (b : Nat) : call prog b 98 [va, vb] h = some (.bool (decide (x = y)), h) := by
  obtain ⟨ds, hs, hc, _, hb⟩ := hx.ints
  obtain ⟨ds', hs', hc', _, hb'⟩ := hy.ints
  refine wp_iff.1 (wp_enter (fn := C.slices_Equal_int) rfl ?_)
  dsimp only [bodyN, C.slices_Equal_int, C.slices_Equal_int_l0]; simp
  refine wp_len hs ?_; (try simp); refine wp_len hs' ?_
  try simp
  refine wp_ndec (fun hl => ?_) fun hl => ?_
  · refine wp_some ?_
    rw [decide_eq_false (fun e => hl (by rw [e]))]
  refine wp_len hs ?_
  refine wp_loop (I := fun m e h' => h' = h ∧ ∃ i, e = (ea 0 va <| ea 1 vb <| ea 12 (.int .i64 x.length) <| ea 13 (.int .i64 (i : Nat)) e0) ∧ i + m = x.length ∧ x.take i = y.take i) ?_ ⟨rfl, 0, rfl, Nat.zero_add _, rfl⟩
  rintro N m e _ ⟨rfl, i, rfl, him, heq⟩ next
  dsimp only [C.slices_Equal_int_b0]; simp
  refine wp_dec (fun hi => ?_) fun hi => ?_
  · refine wp_idx hs rfl hi ?_
    refine wp_cell hs hi (hc i hi) rfl ?_
    refine wp_idx hs' rfl (by omega) ?_
    refine wp_cell hs' (by omega) (hc' i (by omega)) rfl ?_
    try simp
    refine wp_ndec (fun hn => ?_) fun hn => ?_
    · refine wp_some ?_
      rw [decide_eq_false (fun e => hn (by simp [e]))]
    · rw [succ64 hi hb]
      exact next (m - 1) _ _ (by omega) ⟨rfl, i + 1, rfl, by omega, take_eq_succ hi (by omega) heq hn⟩
  · refine wp_some ?_
    rw [List.take_of_length_le (by omega), List.take_of_length_le (by omega)] at heq
    rw [decide_eq_true heq]
/-- Where the first true one is, from i on; -1: nowhere. -/
def idxFrom (i : Nat) : List Bool → Int
  | [] => -1
  | true :: _ => (i : Int)
  | false :: r => idxFrom (i + 1) r
theorem idxFrom_nn : ∀ (l : List Bool) (i : Nat), 0 ≤ idxFrom i l ↔ l.any id = true
  | [], _ => by simp [idxFrom]
  | true :: r, i => by simp [idxFrom]
  | false :: r, i => by
      have := idxFrom_nn r (i + 1)
      rw [show idxFrom i (false :: r) = idxFrom (i + 1) r from rfl, this]
      simp
theorem idxFrom_any (l : List Bool) (i : Nat) : decide (0 ≤ idxFrom i l) = l.any id := by
  rw [Bool.eq_iff_iff, decide_eq_true_iff, idxFrom_nn]
theorem idxFrom_lt : ∀ (l : List Bool) (i : Nat), idxFrom i l < i + l.length
  | [], i => by simp [idxFrom]; omega
  | true :: r, i => by simp [idxFrom]; omega
  | false :: r, i => by
      have := idxFrom_lt r (i + 1)
      simp only [idxFrom, List.length_cons]
      omega
theorem idxFrom_drop {l : List Bool} {i : Nat} (hi : i < l.length) : idxFrom i (l.drop i) = if l[i] = true then (i : Int) else idxFrom (i + 1) (l.drop (i + 1)) := by
  rw [List.drop_eq_getElem_cons hi]
  cases l[i] <;> rfl
theorem slices_IndexFunc_int {v : AV} {ds : List AV} {bs : List Bool} (hs : SliceAt S h v 1 bs.length ds) {el : Nat → AV} (hc : ∀ i, i < bs.length → (ds.drop (i * 1)).take 1 = [el i]) {g : Nat} {cap : List AV} (b : Nat) (hf : ∀ (i : Nat) (hi : i < bs.length), call prog b g (el i :: cap) h = some (.bool bs[i], h)) :
    call prog b 110 [v, .fn g cap] h = some (.int .i64 (idxFrom 0 bs), h) := by
  have hb := hs.1
  refine wp_iff.1 (wp_enter (fn := C.slices_IndexFunc_int) rfl ?_)
  dsimp only [bodyN, C.slices_IndexFunc_int, C.slices_IndexFunc_int_l0]; simp
  refine wp_len hs ?_
  refine wp_loop (I := fun m e h' => h' = h ∧ ∃ i, e = (ea 0 v <| ea 1 (.fn g cap) <| ea 7 (.int .i64 bs.length) <| ea 8 (.int .i64 (i : Nat)) e0) ∧ i + m = bs.length ∧ idxFrom 0 bs = idxFrom i (bs.drop i)) ?_ ⟨rfl, 0, rfl, Nat.zero_add _, rfl⟩
  rintro N m e _ ⟨rfl, i, rfl, him, heq⟩ next
  dsimp only [C.slices_IndexFunc_int_b0]; simp
  refine wp_dec (fun hi => ?_) fun hi => ?_
  · refine wp_idx hs rfl hi ?_
    refine wp_cell hs hi (hc i hi) rfl ?_
    try simp
    rw [callK_eq (hf i hi)]
    rw [idxFrom_drop hi] at heq
    try simp
    rw [succ64 hi hb]
    refine wp_iteK (fun hn => ?_) fun hn => ?_
    · refine wp_some ?_
      rw [heq, if_pos hn]
    · refine next (m - 1) _ _ (by omega) ⟨rfl, i + 1, rfl, by omega, ?_⟩
      rw [heq, if_neg (by simp [hn])]
  · refine wp_some ?_
    rw [heq, List.drop_of_length_le (by omega)]
    rfl
theorem slices_ContainsFunc_int {v : AV} {ds : List AV} {bs : List Bool} (hs : SliceAt S h v 1 bs.length ds) {el : Nat → AV} (hc : ∀ i, i < bs.length → (ds.drop (i * 1)).take 1 = [el i]) {g : Nat} {cap : List AV} (b : Nat) (hf : ∀ (i : Nat) (hi : i < bs.length), call prog b g (el i :: cap) h = some (.bool bs[i], h)) :
    call prog b 75 [v, .fn g cap] h = some (.bool (bs.any id), h) := by
  refine enter (fn := C.slices_ContainsFunc_int) rfl ?_
  dsimp only [bodyN, C.slices_ContainsFunc_int]; simp
  rw [callK_eq (slices_IndexFunc_int hs hc b hf)]
  simp [idxFrom_any]
theorem slices_IndexFunc_ints {v : AV} {ds : List AV} {bs : List Bool} (hs : SliceAt S h v 1 bs.length ds) {el : Nat → AV} (hc : ∀ i, i < bs.length → (ds.drop (i * 1)).take 1 = [el i]) {g : Nat} {cap : List AV} (b : Nat) (hf : ∀ (i : Nat) (hi : i < bs.length), call prog b g (el i :: cap) h = some (.bool bs[i], h)) :
    call prog b 179 [v, .fn g cap] h = some (.int .i64 (idxFrom 0 bs), h) := by
  have hb := hs.1
  refine wp_iff.1 (wp_enter (fn := C.slices_IndexFunc_ints) rfl ?_)
  dsimp only [bodyN, C.slices_IndexFunc_ints, C.slices_IndexFunc_ints_l0]; simp
  refine wp_len hs ?_
  refine wp_loop (I := fun m e h' => h' = h ∧ ∃ i, e = (ea 0 v <| ea 1 (.fn g cap) <| ea 7 (.int .i64 bs.length) <| ea 8 (.int .i64 (i : Nat)) e0) ∧ i + m = bs.length ∧ idxFrom 0 bs = idxFrom i (bs.drop i)) ?_ ⟨rfl, 0, rfl, Nat.zero_add _, rfl⟩
  rintro N m e _ ⟨rfl, i, rfl, him, heq⟩ next
  dsimp only [C.slices_IndexFunc_ints_b0]; simp
  refine wp_dec (fun hi => ?_) fun hi => ?_
  · refine wp_idx hs rfl hi ?_
    refine wp_cell hs hi (hc i hi) rfl ?_
    try simp
    rw [callK_eq (hf i hi)]
    rw [idxFrom_drop hi] at heq
    try simp
    rw [succ64 hi hb]
    refine wp_iteK (fun hn => ?_) fun hn => ?_
    · refine wp_some ?_
      rw [heq, if_pos hn]
    · refine next (m - 1) _ _ (by omega) ⟨rfl, i + 1, rfl, by omega, ?_⟩
      rw [heq, if_neg (by simp [hn])]
  · refine wp_some ?_
    rw [heq, List.drop_of_length_le (by omega)]
    rfl
theorem slices_ContainsFunc_ints {v : AV} {ds : List AV} {bs : List Bool} (hs : SliceAt S h v 1 bs.length ds) {el : Nat → AV} (hc : ∀ i, i < bs.length → (ds.drop (i * 1)).take 1 = [el i]) {g : Nat} {cap : List AV} (b : Nat) (hf : ∀ (i : Nat) (hi : i < bs.length), call prog b g (el i :: cap) h = some (.bool bs[i], h)) :
    call prog b 143 [v, .fn g cap] h = some (.bool (bs.any id), h) := by
  refine enter (fn := C.slices_ContainsFunc_ints) rfl ?_
  dsimp only [bodyN, C.slices_ContainsFunc_ints]; simp
  rw [callK_eq (slices_IndexFunc_ints hs hc b hf)]
  simp [idxFrom_any]
theorem slices_IndexFunc_Node {v : AV} {ds : List AV} {bs : List Bool} (hs : SliceAt S h v 5 bs.length ds) {cs : Nat → List AV} (hc : ∀ i, i < bs.length → (ds.drop (i * 5)).take 5 = cs i) {g : Nat} {cap : List AV} (b : Nat) (hf : ∀ (i : Nat) (hi : i < bs.length), call prog b g (.agg (cs i) :: cap) h = some (.bool bs[i], h)) :
    call prog b 130 [v, .fn g cap] h = some (.int .i64 (idxFrom 0 bs), h) := by
  have hb := hs.1
  refine wp_iff.1 (wp_enter (fn := C.slices_IndexFunc_Node) rfl ?_)
  dsimp only [bodyN, C.slices_IndexFunc_Node, C.slices_IndexFunc_Node_l0]; simp
  refine wp_len hs ?_
  refine wp_loop (I := fun m e h' => h' = h ∧ ∃ i, e = (ea 0 v <| ea 1 (.fn g cap) <| ea 7 (.int .i64 bs.length) <| ea 8 (.int .i64 (i : Nat)) e0) ∧ i + m = bs.length ∧ idxFrom 0 bs = idxFrom i (bs.drop i)) ?_ ⟨rfl, 0, rfl, Nat.zero_add _, rfl⟩
  rintro N m e _ ⟨rfl, i, rfl, him, heq⟩ next
  dsimp only [C.slices_IndexFunc_Node_b0]; simp
  refine wp_dec (fun hi => ?_) fun hi => ?_
  · refine wp_idx hs rfl hi ?_
    refine wp_elem hs hi (hc i hi) ?_
    try simp
    rw [callK_eq (hf i hi)]
    rw [idxFrom_drop hi] at heq
    try simp
    rw [succ64 hi hb]
    refine wp_iteK (fun hn => ?_) fun hn => ?_
    · refine wp_some ?_
      rw [heq, if_pos hn]
    · refine next (m - 1) _ _ (by omega) ⟨rfl, i + 1, rfl, by omega, ?_⟩
      rw [heq, if_neg (by simp [hn])]
  · refine wp_some ?_
    rw [heq, List.drop_of_length_le (by omega)]
    rfl
theorem slices_ContainsFunc_Node {v : AV} {ds : List AV} {bs : List Bool} (hs : SliceAt S h v 5 bs.length ds) {cs : Nat → List AV} (hc : ∀ i, i < bs.length → (ds.drop (i * 5)).take 5 = cs i) {g : Nat} {cap : List AV} (b : Nat) (hf : ∀ (i : Nat) (hi : i < bs.length), call prog b g (.agg (cs i) :: cap) h = some (.bool bs[i], h)) :
    call prog b 105 [v, .fn g cap] h = some (.bool (bs.any id), h) := by
  refine enter (fn := C.slices_ContainsFunc_Node) rfl ?_
  dsimp only [bodyN, C.slices_ContainsFunc_Node]; simp
  rw [callK_eq (slices_IndexFunc_Node hs hc b hf)]
  simp [idxFrom_any]
theorem slices_IndexFunc_Tensor {v : AV} {ds : List AV} {bs : List Bool} (hs : SliceAt S h v 2 bs.length ds) {cs : Nat → List AV} (hc : ∀ i, i < bs.length → (ds.drop (i * 2)).take 2 = cs i) {g : Nat} {cap : List AV} (b : Nat) (hf : ∀ (i : Nat) (hi : i < bs.length), call prog b g (.agg (cs i) :: cap) h = some (.bool bs[i], h)) :
    call prog b 150 [v, .fn g cap] h = some (.int .i64 (idxFrom 0 bs), h) := by
  have hb := hs.1
  refine wp_iff.1 (wp_enter (fn := C.slices_IndexFunc_Tensor) rfl ?_)
  dsimp only [bodyN, C.slices_IndexFunc_Tensor, C.slices_IndexFunc_Tensor_l0]; simp
  refine wp_len hs ?_
  refine wp_loop (I := fun m e h' => h' = h ∧ ∃ i, e = (ea 0 v <| ea 1 (.fn g cap) <| ea 7 (.int .i64 bs.length) <| ea 8 (.int .i64 (i : Nat)) e0) ∧ i + m = bs.length ∧ idxFrom 0 bs = idxFrom i (bs.drop i)) ?_ ⟨rfl, 0, rfl, Nat.zero_add _, rfl⟩
  rintro N m e _ ⟨rfl, i, rfl, him, heq⟩ next
  dsimp only [C.slices_IndexFunc_Tensor_b0]; simp
  refine wp_dec (fun hi => ?_) fun hi => ?_
  · refine wp_idx hs rfl hi ?_
    refine wp_elem hs hi (hc i hi) ?_
    try simp
    rw [callK_eq (hf i hi)]
    rw [idxFrom_drop hi] at heq
    try simp
    rw [succ64 hi hb]
    refine wp_iteK (fun hn => ?_) fun hn => ?_
    · refine wp_some ?_
      rw [heq, if_pos hn]
    · refine next (m - 1) _ _ (by omega) ⟨rfl, i + 1, rfl, by omega, ?_⟩
      rw [heq, if_neg (by simp [hn])]
  · refine wp_some ?_
    rw [heq, List.drop_of_length_le (by omega)]
    rfl
theorem slices_ContainsFunc_Tensor {v : AV} {ds : List AV} {bs : List Bool} (hs : SliceAt S h v 2 bs.length ds) {cs : Nat → List AV} (hc : ∀ i, i < bs.length → (ds.drop (i * 2)).take 2 = cs i) {g : Nat} {cap : List AV} (b : Nat) (hf : ∀ (i : Nat) (hi : i < bs.length), call prog b g (.agg (cs i) :: cap) h = some (.bool bs[i], h)) :
    call prog b 133 [v, .fn g cap] h = some (.bool (bs.any id), h) := by
  refine enter (fn := C.slices_ContainsFunc_Tensor) rfl ?_
  dsimp only [bodyN, C.slices_ContainsFunc_Tensor]; simp
  rw [callK_eq (slices_IndexFunc_Tensor hs hc b hf)]
  simp [idxFrom_any]
theorem slices_Index_int {v : AV} {l : List Int} (hd : Holds S h ints l [v]) (n : Int) (b : Nat) : call prog b 107 [v, .int .i64 n] h = some (.int .i64 (idxFrom 0 (l.map fun x => decide (n = x))), h) := by
  obtain ⟨ds, hs, hc, _, hb⟩ := hd.ints
  refine wp_iff.1 (wp_enter (fn := C.slices_Index_int) rfl ?_)
  dsimp only [bodyN, C.slices_Index_int, C.slices_Index_int_l0]; simp
  refine wp_len hs ?_
  refine wp_loop (I := fun m e h' => h' = h ∧ ∃ i, e = (ea 0 v <| ea 1 (.int .i64 n) <| ea 7 (.int .i64 l.length) <| ea 8 (.int .i64 (i : Nat)) e0) ∧ i + m = l.length ∧ idxFrom 0 (l.map fun x => decide (n = x)) = idxFrom i ((l.map fun x => decide (n = x)).drop i)) ?_ ⟨rfl, 0, rfl, Nat.zero_add _, rfl⟩
  rintro N m e _ ⟨rfl, i, rfl, him, heq⟩ next
  dsimp only [C.slices_Index_int_b0]; simp
  refine wp_dec (fun hi => ?_) fun hi => ?_
  · refine wp_idx hs rfl hi ?_
    refine wp_cell hs hi (hc i hi) rfl ?_
    try simp
    rw [idxFrom_drop (by simpa using hi)] at heq
    rw [succ64 hi hb]
    refine wp_dec (fun hn => ?_) fun hn => ?_
    · refine wp_some ?_
      rw [heq]
      simp [hn]
    · refine next (m - 1) _ _ (by omega) ⟨rfl, i + 1, rfl, by omega, ?_⟩
      rw [heq]
      simp [hn]
  · refine wp_some ?_
    rw [heq, List.drop_of_length_le (by simp; omega)]
    rfl
theorem slices_Contains_int {v : AV} {l : List Int} (hd : Holds S h ints l [v]) (n : Int) (b : Nat) : call prog b 70 [v, .int .i64 n] h = some (.bool (decide (n ∈ l)), h) := by
  refine enter (fn := C.slices_Contains_int) rfl ?_
  dsimp only [bodyN, C.slices_Contains_int]; simp
  rw [callK_eq (slices_Index_int hd n b)]
  simp [idxFrom_any, List.any_eq]
theorem ref0_In {v : AV} {l : List Int} (hd : Holds S h ints l [v]) (n : Int) (b : Nat) : call prog b 80 [v, .int .i64 n] h = some (.int .i64 (idxFrom 0 (l.map fun x => decide (x = n))), h) := by
  obtain ⟨ds, hs, hc, _, hb⟩ := hd.ints
  refine wp_iff.1 (wp_enter (fn := C.ref0_In) rfl ?_)
  dsimp only [bodyN, C.ref0_In, C.ref0_In_l0]; simp
  refine wp_loop (I := fun m e h' => h' = h ∧ ∃ i, e = (ea 0 v <| ea 1 (.int .i64 n) <| ea 5 (.int .i64 (i : Nat)) e0) ∧ i + m = l.length ∧ idxFrom 0 (l.map fun x => decide (x = n)) = idxFrom i ((l.map fun x => decide (x = n)).drop i)) ?_ ⟨rfl, 0, rfl, Nat.zero_add _, rfl⟩
  rintro N m e _ ⟨rfl, i, rfl, him, heq⟩ next
  dsimp only [C.ref0_In_b0]; simp
  refine wp_len hs ?_
  try simp
  refine wp_dec (fun hi => ?_) fun hi => ?_
  · refine wp_idx hs rfl hi ?_
    refine wp_cell hs hi (hc i hi) rfl ?_
    try simp
    rw [idxFrom_drop (by simpa using hi)] at heq
    rw [succ64 hi hb]
    refine wp_dec (fun hn => ?_) fun hn => ?_
    · refine wp_some ?_
      rw [heq]
      simp [hn]
    · refine next (m - 1) _ _ (by omega) ⟨rfl, i + 1, rfl, by omega, ?_⟩
      rw [heq]
      simp [hn]
  · refine wp_some ?_
    rw [heq, List.drop_of_length_le (by simp; omega)]
    rfl
/-- Dims that may be laid out over others. -/
def wider : List Int → List Int → Bool
  | [], [] => true
  | a :: r, b :: s => (decide (a = 1) || decide (a = b)) && wider r s
  | _, _ => false
theorem wider_ne : ∀ {x y : List Int}, ¬ x.length = y.length → wider x y = false
  | [], [], h => absurd rfl h
  | [], _ :: _, _ => rfl
  | _ :: _, [], _ => rfl
  | a :: r, b :: s, h => by rw [wider, wider_ne (fun e => h (by simp [e])), Bool.and_false]
/-- Dims that may be. -/
def dimsOk (d : List Int) : Bool := decide (1 ≤ d.length) && decide (d.length ≤ 3) && d.all (fun n => decide (1 ≤ n) && decide (n ≤ 8)) && decide (prodW d ≤ 64)
theorem shape_May {v : AV} {d : List Int} (hd : Holds S h ints d [v]) (b : Nat) : call prog b 145 [v] h = some (.bool (dimsOk d), h) := by
  obtain ⟨ds, hs, hc, _, hb⟩ := hd.ints
  refine wp_iff.1 (wp_enter (fn := C.shape_May) rfl ?_)
  dsimp only [bodyN, C.shape_May]; simp
  refine wp_len hs ?_
  try simp
  refine wp_dec (fun h1 => wp_some ?_) fun h1 => ?_
  · have : ¬ 1 ≤ d.length := by omega
    simp [dimsOk, this]
  refine wp_len hs ?_
  try simp
  refine wp_dec (fun h2 => wp_some ?_) fun h2 => ?_
  · have : ¬ d.length ≤ 3 := by omega
    simp [dimsOk, this]
  rw [callK_eq (slices_ContainsFunc_int (bs := d.map fun n => decide (n < 1) || decide (8 < n)) (el := fun i => .int .i64 (d[i]?.getD 0)) (by simpa using hs) (fun i hi => by
    have hi : i < d.length := by simpa using hi
    rw [hc i hi, List.getElem?_eq_getElem hi]
    rfl) b fun i hi => by
      have hi : i < d.length := by simpa using hi
      have := shape_May_1 (R := AV × Heap) b h (fun v h => some (v, h)) (d[i]?.getD 0)
      rw [callK_some] at this
      rw [this, List.getElem?_eq_getElem hi]
      simp)]
  have e : (d.map fun n => decide (n < 1) || decide (8 < n)).any id = !(d.all (fun n => decide (1 ≤ n) && decide (n ≤ 8))) := by
    rw [List.any_map, List.not_all_eq_any_not]
    congr 1
    funext n
    by_cases h1 : n < 1 <;> by_cases h2 : 8 < n <;> simp [h1, h2] <;> omega
  rw [e]
  simp
  have h3 : decide (1 ≤ d.length) = true := by simp; omega
  have h4 : decide (d.length ≤ 3) = true := by simp; omega
  refine wp_iteK (fun hn => wp_some ?_) fun hn => ?_
  · simp only [Bool.not_eq_true'] at hn
    rw [dimsOk, h3, h4, hn]
    rfl
  · simp only [Bool.not_eq_false'] at hn
    rw [callK_eq (shape_Product hd b)]
    simp
    refine wp_some ?_
    rw [dimsOk, h3, h4, hn]
    rfl
theorem ref1_Dims {v : AV} {d : List Int} (hd : Holds S h ints d [v]) (b : Nat) : call prog b 6 [v] h = some (.bool (dimsOk d), h) := by
  obtain ⟨ds, hs, hc, _, hb⟩ := hd.ints
  refine wp_iff.1 (wp_enter (fn := C.ref1_Dims) rfl ?_)
  dsimp only [bodyN, C.ref1_Dims, C.ref1_Dims_l0]; simp
  refine wp_len hs ?_
  have hnn : ∀ x ∈ d, (decide (1 ≤ x) && decide (x ≤ 8)) = false → dimsOk d = false := fun x hx hn => by
    have : (d.all fun n => decide (1 ≤ n) && decide (n ≤ 8)) = false := by
      rw [List.all_eq_false]
      exact ⟨x, hx, by simp [hn]⟩
    rw [dimsOk, this]
    simp
  try simp
  refine wp_iteK (fun h1 => wp_some ?_) fun h1 => ?_
  · have : (decide (1 ≤ d.length) && decide (d.length ≤ 3)) = false := by
      rw [Bool.eq_false_iff]
      intro h2
      simp at h1 h2
      omega
    rw [dimsOk, this]
    rfl
  have h34 : decide (1 ≤ d.length) = true ∧ decide (d.length ≤ 3) = true := by
    simp at h1 ⊢
    omega
  refine wp_loop (I := fun m e h' => h' = h ∧ ∃ i p, e = (ea 0 v <| ea 3 (.int .i64 p) <| ea 4 (.int .i64 (i : Nat)) e0) ∧ i + m = d.length ∧ p = prodW (d.take i) ∧ (d.take i).all (fun n => decide (1 ≤ n) && decide (n ≤ 8)) = true) ?_ ⟨rfl, 0, 1, rfl, Nat.zero_add _, rfl, rfl⟩
  rintro N m e _ ⟨rfl, i, p, rfl, him, rfl, hall⟩ next
  dsimp only [C.ref1_Dims_b0]; simp
  refine wp_len hs ?_
  try simp
  refine wp_dec (fun hi => ?_) fun hi => ?_
  · refine wp_idx hs rfl hi ?_
    refine wp_cell hs hi (hc i hi) rfl ?_
    try simp
    refine wp_iteK (fun hn => wp_some ?_) fun hn => ?_
    · rw [hnn d[i] (List.getElem_mem hi) (by simp at hn ⊢; omega)]
    · refine wp_idx hs rfl hi ?_
      refine wp_cell hs hi (hc i hi) rfl ?_
      try simp
      rw [succ64 hi hb]
      refine next (m - 1) _ _ (by omega) ⟨rfl, i + 1, _, rfl, by omega, (foldl_take_succ (fun n x => w64 (n * x)) 1 hi).symm, ?_⟩
      rw [List.take_add_one, List.getElem?_eq_getElem hi, List.all_append, hall]
      simp at hn ⊢
      omega
  · refine wp_some ?_
    rw [List.take_of_length_le (by omega)] at hall ⊢
    rw [dimsOk, h34.1, h34.2, hall]
    rfl
theorem ref1_Wider {va vb : AV} {x y : List Int} (hx : Holds S h ints x [va]) (hy : Holds T h ints y [vb]) (b : Nat) : call prog b 101 [va, vb] h = some (.bool (wider x y), h) := by
  obtain ⟨ds, hs, hc, _, hb⟩ := hx.ints
  obtain ⟨ds', hs', hc', _, hb'⟩ := hy.ints
  refine wp_iff.1 (wp_enter (fn := C.ref1_Wider) rfl ?_)
  dsimp only [bodyN, C.ref1_Wider, C.ref1_Wider_l0]; simp
  refine wp_len hs ?_; (try simp); refine wp_len hs' ?_
  try simp
  refine wp_ndec (fun hl => ?_) fun hl => ?_
  · refine wp_some ?_
    rw [wider_ne (by omega)]
  refine wp_loop (I := fun m e h' => h' = h ∧ ∃ i, e = (ea 0 va <| ea 1 vb <| ea 5 (.int .i64 (i : Nat)) e0) ∧ i + m = x.length ∧ wider x y = wider (x.drop i) (y.drop i)) ?_ ⟨rfl, 0, rfl, Nat.zero_add _, rfl⟩
  rintro N m e _ ⟨rfl, i, rfl, him, heq⟩ next
  dsimp only [C.ref1_Wider_b0]; simp
  refine wp_len hs ?_
  try simp
  refine wp_dec (fun hi => ?_) fun hi => ?_
  · have hi' : i < y.length := by omega
    rw [List.drop_eq_getElem_cons hi, List.drop_eq_getElem_cons hi', wider] at heq
    refine wp_idx hs rfl hi ?_; (try simp); refine wp_cell hs hi (hc i hi) rfl ?_
    refine wp_idx hs' rfl hi' ?_; (try simp); refine wp_cell hs' hi' (hc' i hi') rfl ?_
    try simp
    refine wp_ndec (fun hn => ?_) fun hn => ?_
    · refine wp_idx hs rfl hi ?_; (try simp); refine wp_cell hs hi (hc i hi) rfl ?_
      try simp
      rw [succ64 hi hb]
      refine wp_ndec (fun h1 => wp_some ?_) fun h1 => ?_
      · rw [heq]; simp [hn, h1]
      · exact next (m - 1) _ _ (by omega) ⟨rfl, i + 1, rfl, by omega, by rw [heq]; simp [h1]⟩
    · try simp
      rw [succ64 hi hb]
      exact next (m - 1) _ _ (by omega) ⟨rfl, i + 1, rfl, by omega, by rw [heq]; simp [hn]⟩
  · refine wp_some ?_
    rw [heq, List.drop_of_length_le (by omega), List.drop_of_length_le (by omega)]
    rfl
theorem shape_Grows {va vb : AV} {x y : List Int} (hx : Holds S h ints x [va]) (hy : Holds T h ints y [vb]) (b : Nat) : call prog b 146 [va, vb] h = some (.bool (wider x y), h) := by
  obtain ⟨ds, hs, hc, _, hb⟩ := hx.ints
  obtain ⟨ds', hs', hc', _, hb'⟩ := hy.ints
  refine wp_iff.1 (wp_enter (fn := C.shape_Grows) rfl ?_)
  dsimp only [bodyN, C.shape_Grows, C.shape_Grows_l0]; simp
  refine wp_len hs ?_; (try simp); refine wp_len hs' ?_
  try simp
  refine wp_ndec (fun hl => ?_) fun hl => ?_
  · refine wp_some ?_
    rw [wider_ne (by omega)]
  refine wp_len hs ?_
  refine wp_loop (I := fun m e h' => h' = h ∧ ∃ i, e = (ea 1 vb <| ea 12 va <| ea 13 (.int .i64 x.length) <| ea 14 (.int .i64 (i : Nat)) e0) ∧ i + m = x.length ∧ wider x y = wider (x.drop i) (y.drop i)) ?_ ⟨rfl, 0, rfl, Nat.zero_add _, rfl⟩
  rintro N m e _ ⟨rfl, i, rfl, him, heq⟩ next
  dsimp only [C.shape_Grows_b0]; simp
  refine wp_dec (fun hi => ?_) fun hi => ?_
  · have hi' : i < y.length := by omega
    rw [List.drop_eq_getElem_cons hi, List.drop_eq_getElem_cons hi', wider] at heq
    refine wp_idx hs rfl hi ?_; (try simp); refine wp_cell hs hi (hc i hi) rfl ?_
    try simp
    refine wp_ndec (fun hn => ?_) fun hn => ?_
    · refine wp_idx hs' rfl hi' ?_; (try simp); refine wp_cell hs' hi' (hc' i hi') rfl ?_
      try simp
      rw [succ64 hi hb]
      refine wp_ndec (fun h1 => wp_some ?_) fun h1 => ?_
      · rw [heq]; simp [hn, h1]
      · exact next (m - 1) _ _ (by omega) ⟨rfl, i + 1, rfl, by omega, by rw [heq]; simp [h1]⟩
    · try simp
      rw [succ64 hi hb]
      exact next (m - 1) _ _ (by omega) ⟨rfl, i + 1, rfl, by omega, by rw [heq]; simp [hn]⟩
  · refine wp_some ?_
    rw [heq, List.drop_of_length_le (by omega), List.drop_of_length_le (by omega)]
    rfl
end
end Go.AM
