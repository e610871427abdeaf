import Derived.Test.YtfdbegdgedhhcaaGreatAmS5
set_option linter.all false
/- Writing into one's own; the greatest of numbers. -/
namespace Go.AM
set_option maxRecDepth 20000
set_option maxHeartbeats 1000000
attribute [local simp] layAt
attribute [local irreducible] lenK sliceK idxK fldK cutK storeK appK copyK clearK mapAtK callK loopH readK readK1 guardK grdK fnK nilK fieldK extrK strK nextK joinK iteK intK boolK cellsK castK castL castEnv binK unK intBin layParts execN runOpsN runItemsN denN call loop blockK
theorem wrap_range (n : Int) : -9223372036854775808 ≤ w64 n ∧ w64 n ≤ 9223372036854775807 := by
  simp [w64, IntKind.wrap, IntKind.bits, IntKind.signed]
  omega
def maxF (a b : Int) : Int := if b > a then b else a
/-- The greatest. -/
def maxL (l : List Int) : Int := (l.drop 1).foldl maxF (l.getD 0 0)
section
variable {R : Type} {Q : R → Prop} {S : Nat → Prop} {h : Heap}
theorem wp_putI {base f n0 : Nat} {v : AV} {l : List Int} {x : Int} (H : AccP f n0 h int v l) (hx : -9223372036854775808 ≤ x ∧ x ≤ 9223372036854775807) (hb : base ≤ n0) (hn : n0 ≤ h.length) {i : Nat} (hi : i < l.length) {K : Heap → Option R}
    (k : ∀ h', But v h h' → h'.length = h.length → Old n0 h h' → AccP f n0 h' int v (l.set i x) → WP (K h') Q) : WP (storeK base 1 h (addrOf v 1 i 0) (.int .i64 x) K) Q :=
  wp_put (p := int) (x := x) H (holds_int hx) (fun _ => by rw [cellsK_int]) rfl hb hn hi k
theorem flat_rep {zs : List AV} : ∀ {n i : Nat}, i < n → (((List.replicate n zs).flatten).drop (i * zs.length)).take zs.length = zs
  | 0, i, hi => by omega
  | n + 1, 0, _ => by rw [List.replicate_succ, List.flatten_cons, Nat.zero_mul, List.drop_zero, List.take_left]
  | n + 1, i + 1, hi => by rw [List.replicate_succ, List.flatten_cons, Nat.add_mul, Nat.one_mul, Nat.add_comm, ← List.drop_drop, List.drop_left, flat_rep (by omega)]
/-- A new slice of as many of the same. -/
theorem accp_make {p : PT} {n : Nat} {x : p.den} {zs : List AV} (hz : ∀ (S : Nat → Prop) (h : Heap), Holds S h p x zs) (hn : n ≤ 140737488355328) : AccP h.length h.length (h ++ [.cells 0 p.sz ((List.replicate n zs).flatten)]) p (.ref h.length 0 0 n) (List.replicate n x) := by
  have hl := (hz (fun _ => True) h).len
  refine ⟨(List.replicate n zs).flatten, ?_, fun i y hi => ?_⟩
  · rw [List.length_replicate]
    exact Acc.new (Nat.le_refl _) (by simp [hl]) hn
  · have hin : i < n := by
      have := (List.getElem?_eq_some_iff.1 hi).1
      simpa using this
    rw [List.getElem?_replicate, if_pos hin] at hi
    cases hi
    rw [← hl, flat_rep hin]
    exact hz _ _
theorem AccP.flat {h' : Heap} {f n0 : Nat} {p : PT} {v : AV} {l : List p.den} (H : AccP f n0 h p v l) (hp : ∀ (S S' : Nat → Prop) (x : p.den) (cs : List AV), Holds S h p x cs → Holds S' h' p x cs) (hk : ∀ j, v.blk = some j → h'[j]? = h[j]?) : AccP f n0 h' p v l := by
  obtain ⟨cs, a, e⟩ := H
  exact ⟨cs, a.keep hk, fun i x hi => hp _ _ _ _ (e i x hi)⟩
theorem AccP.flatI {h' : Heap} {f n0 : Nat} {v w : AV} {l : List Int} (H : AccP f n0 h int v l) (but : But w h h') (hw : ∀ j, w.blk = some j → j < n0) : AccP f n0 h' int v l :=
  H.flat (fun _ _ _ _ h => h) fun j hj => by
    obtain ⟨_, a, _⟩ := H
    have := a.lt hj
    exact but.2 j this.2 fun e => by have := hw j e; omega
theorem AccP.flatO {h' : Heap} {f n0 k : Nat} {v : AV} {l : List Int} (H : AccP f n0 h int v l) (o : Old k h h') (hv : ∀ j, v.blk = some j → j < k) : AccP f n0 h' int v l :=
  H.flat (fun _ _ _ _ h => h) fun j hj => o.2 j (hv j hj)
theorem slices_Max_int {v : AV} {l : List Int} (hl : In h ints l [v]) (h0 : l ≠ []) (b : Nat) : call prog b 73 [v] h = some (.int .i64 (maxL l), h) := by
  have hp : 0 < l.length := List.length_pos_iff.2 h0
  have bl := holds_le hl
  refine wp_iff.1 (wp_enter (fn := C.slices_Max_int) rfl ?_)
  dsimp only [bodyN, C.slices_Max_int, C.slices_Max_int_l0]; simp
  refine wq_len hl ?_
  have n1 : ¬ ((l.length : Int) < 1) := by omega
  simp [n1]
  refine wq_idx hl (by rfl) (by omega) (by omega) ?_
  try simp
  refine wq_int hl hp ?_
  try simp
  refine wp_loop (I := fun m e h' => h' = h ∧ ∃ (i : Nat) (a : Int), e = (ea 0 v <| ea 3 (.int .i64 a) <| ea 4 (.int .i64 (i : Nat)) e0) ∧ i + m = l.length ∧ 1 ≤ i ∧ a = ((l.drop 1).take (i - 1)).foldl maxF (l.getD 0 0)) ?_ (m := l.length - 1) ⟨rfl, 1, l[0], rfl, by omega, Nat.le_refl _, by rw [List.getD_eq_getElem?_getD, List.getElem?_eq_getElem hp]; rfl⟩
  rintro N m e _ ⟨rfl, i, a, rfl, him, hi1, ha⟩ next
  dsimp only [C.slices_Max_int_b0]; simp
  refine wq_len hl ?_
  try simp
  refine wp_dec (fun hi => ?_) fun hi => ?_
  · try simp
    refine wq_idx hl (by rfl) (by omega) (by omega) ?_
    try simp
    refine wq_int hl hi ?_
    have w1 := succ64 hi bl
    simp [w1]
    refine next (m - 1) _ _ (by omega) ⟨rfl, i + 1, _, rfl, by omega, by omega, ?_⟩
    obtain ⟨d, rfl⟩ : ∃ d, i = d + 1 := ⟨i - 1, by omega⟩
    have hd : d < (l.drop 1).length := by simp; omega
    rw [Nat.add_sub_cancel, foldl_take_succ _ _ hd]
    rw [Nat.add_sub_cancel] at ha
    rw [← ha, List.getElem_drop, maxF]
    simp [Nat.add_comm]
  · try simp
    have ei : i = l.length := by omega
    refine wp_some ?_
    rw [ha, ei, List.take_of_length_le (by simp), maxL]
end
end Go.AM

/- A slice of one's own whose parts lie where one says: for slices that stand in boxes. -/
namespace Go.AM
set_option maxRecDepth 20000
set_option maxHeartbeats 1000000
attribute [local simp] layAt
attribute [local irreducible] lenK sliceK idxK fldK cutK storeK appK copyK clearK mapAtK callK loopH readK readK1 guardK grdK fnK nilK fieldK extrK strK nextK joinK iteK intK boolK cellsK castK castL castEnv binK unK intBin layParts execN runOpsN runItemsN denN call loop blockK
section
variable {R : Type} {Q : R → Prop} {S : Nat → Prop} {h : Heap}
/-- As AccP; the parts lie in blocks that F lets. -/
def AccF (F : Nat → Prop) (n0 : Nat) (h : Heap) (p : PT) (v : AV) (l : List p.den) : Prop :=
  ∃ cs, Acc n0 h p.sz v cs l.length ∧ ∀ (i : Nat) (x : p.den), l[i]? = some x → Holds (fun j => F j ∧ j < h.length ∧ v.blk ≠ some j) h p x ((cs.drop (i * p.sz)).take p.sz)
theorem AccF.nil {F : Nat → Prop} {n0 : Nat} {p : PT} : AccF F n0 h p .nil [] := ⟨[], Acc.nil, fun i x hi => by simp at hi⟩
theorem AccF.one {F : Nat → Prop} {n0 : Nat} {p : PT} {v : AV} {l : List p.den} (H : AccF F n0 h p v l) : v.one = true := let ⟨_, a, _⟩ := H; a.one
theorem AccF.in {F : Nat → Prop} {n0 : Nat} {p : PT} {v : AV} {l : List p.den} (H : AccF F n0 h p v l) : In h (.slice p) l [v] := by
  obtain ⟨cs, a, e⟩ := H
  exact ⟨v, cs, rfl, a.slice fun k hk => (a.lt hk).2, fun i x hi => (e i x hi).mono fun j hj => hj.2.1⟩
theorem AccF.keep {F : Nat → Prop} {n0 : Nat} {h' : Heap} {p : PT} {v : AV} {l : List p.den} (H : AccF F n0 h p v l) (ho : Old h.length h h') : AccF F n0 h' p v l := by
  obtain ⟨cs, a, e⟩ := H
  exact ⟨cs, a.keep fun l hl => ho.2 l (a.lt hl).2, fun i x hi => (e i x hi).frame fun j hj => ⟨⟨hj.1, Nat.lt_of_lt_of_le hj.2.1 ho.1, hj.2.2⟩, ho.2 j hj.2.1⟩⟩
theorem AccF.lt {F : Nat → Prop} {n0 : Nat} {p : PT} {v : AV} {l : List p.den} (H : AccF F n0 h p v l) {j : Nat} (hj : v.blk = some j) : n0 ≤ j ∧ j < h.length := let ⟨_, a, _⟩ := H; a.lt hj
/-- A block is written where nothing of it lies. -/
theorem AccF.but {h' : Heap} {F : Nat → Prop} {n0 l0 : Nat} {p : PT} {v : AV} {l : List p.den} (H : AccF F n0 h p v l) (hl : h.length ≤ h'.length) (hk : ∀ j, j < h.length → j ≠ l0 → h'[j]? = h[j]?) (hf : ¬ F l0) (hn : v.blk ≠ some l0) : AccF F n0 h' p v l := by
  obtain ⟨cs, a, e⟩ := H
  exact ⟨cs, a.keep fun j hj => hk j (a.lt hj).2 (fun e => hn (e ▸ hj)), fun i x hi => (e i x hi).frame fun j hj => ⟨⟨hj.1, by omega, hj.2.2⟩, hk j hj.2.1 (fun e => hf (e ▸ hj.1))⟩⟩
theorem AccF.ofP {F : Nat → Prop} {f n0 : Nat} {p : PT} {v : AV} {l : List p.den} (H : AccP f n0 h p v l) (hF : ∀ j, f ≤ j → j < h.length → F j) : AccF F n0 h p v l := by
  obtain ⟨cs, a, e⟩ := H
  exact ⟨cs, a, fun i x hi => (e i x hi).mono fun j hj => ⟨hF j hj.1 hj.2.1, hj.2⟩⟩
theorem AccF.mono {F G : Nat → Prop} {n0 : Nat} {p : PT} {v : AV} {l : List p.den} (H : AccF F n0 h p v l) (hF : ∀ j, F j → j < h.length → G j) : AccF G n0 h p v l := by
  obtain ⟨cs, a, e⟩ := H
  exact ⟨cs, a, fun i x hi => (e i x hi).mono fun j hj => ⟨hF j hj.1 hj.2.1, hj.2⟩⟩
theorem wp_pushF {base n0 bytes s : Nat} {F : Nat → Prop} {p : PT} {v : AV} {l : List p.den} {x : p.den} {ys : List AV} (H : AccF F n0 h p v l) (hx : Holds (fun j => F j ∧ j < h.length ∧ v.blk ≠ some j) h p x ys) (hs : s = p.sz) (hb : base ≤ n0) (hn : n0 ≤ h.length)
    (h1 : (l.length + 1) * bytes ≤ 140737488355328) (h2 : l.length + 1 ≤ 140737488355328) {K : AV → Heap → Option R}
    (k : ∀ v' h', But v h h' → Old n0 h h' → (∀ j, v'.blk = some j → v.blk = some j ∨ j = h.length) → AccF F n0 h' p v' (l ++ [x]) → WP (K v' h') Q) : WP (appK base s bytes h v ys 1 K) Q := by
  subst hs
  obtain ⟨cs, a, e⟩ := H
  have hcl := a.len
  refine wp_app a hb hn (by rw [hx.len, Nat.one_mul]) h1 h2 fun v' h' but hv a' => k v' h' but (but.old a hn) hv ⟨cs ++ ys, by simpa using a', fun i y hi => ?_⟩
  have fr : ∀ j, (F j ∧ j < h.length ∧ v.blk ≠ some j) → (F j ∧ j < h'.length ∧ v'.blk ≠ some j) ∧ h'[j]? = h[j]? := fun j hj => ⟨⟨hj.1, Nat.lt_of_lt_of_le hj.2.1 but.1, fun eq => by
    rcases hv j eq with e1 | e1
    · exact hj.2.2 e1
    · omega⟩, but.2 j hj.2.1 hj.2.2⟩
  rcases Nat.lt_or_ge i l.length with hil | hil
  · rw [List.getElem?_append_left hil] at hi
    have hle : (i + 1) * p.sz ≤ l.length * p.sz := Nat.mul_le_mul_right _ hil
    rw [Nat.add_mul, Nat.one_mul] at hle
    rw [List.drop_append_of_le_length (by omega), List.take_append_of_le_length (by rw [List.length_drop]; omega)]
    exact (e i y hi).frame fr
  · rw [List.getElem?_append_right hil] at hi
    have h0 : i = l.length := by
      rcases Nat.eq_or_lt_of_le hil with h0 | h0
      · exact h0.symm
      · rw [List.getElem?_eq_none (by simp; omega)] at hi
        cases hi
    subst h0
    simp at hi
    subst hi
    rw [← hcl, List.drop_left, List.take_of_length_le (Nat.le_of_eq hx.len)]
    exact hx.frame fr
end
end Go.AM

/- Places in dims: plain numbers. -/
namespace Go.AM
/-- The product, plainly. -/
def prodI : List Int → Int
  | [] => 1
  | d :: r => d * prodI r
/-- All above 0. -/
def Pos (d : List Int) : Prop := ∀ x ∈ d, 1 ≤ x
theorem Pos.tail {x : Int} {d : List Int} (h : Pos (x :: d)) : Pos d := fun y hy => h y (List.mem_cons_of_mem _ hy)
theorem Pos.head {x : Int} {d : List Int} (h : Pos (x :: d)) : 1 ≤ x := h x List.mem_cons_self
theorem prodI_pos : ∀ {d : List Int}, Pos d → 1 ≤ prodI d
  | [], _ => by simp [prodI]
  | x :: d, h => by
      have h1 := prodI_pos h.tail
      have h2 := h.head
      have : 1 * 1 ≤ x * prodI d := Int.mul_le_mul h2 h1 (by omega) (by omega)
      simpa [prodI] using this
def strides : List Int → List Int
  | [] => []
  | _ :: r => prodI r :: strides r
/-- The numbers of a place, by strides. -/
def numbersI : List Int → Int → List Int
  | [], _ => []
  | s :: r, n => n / s :: numbersI r (n % s)
/-- The place of numbers, by strides. -/
def placeI : List Int → List Int → Int
  | s :: r, p :: q => s * p + placeI r q
  | _, _ => 0
/-- The page's: from behind. -/
def whereI : List Int → Int → List Int × Int
  | [], n => ([], n)
  | d :: r, n => ((whereI r n).2 % d :: (whereI r n).1, (whereI r n).2 / d)
def atI : List Int → List Int → Int → Int
  | d :: r, p :: q, n => atI r q (n * d + p)
  | _, _, n => n
theorem emod_mul_div {n a b : Int} (ha : 0 < a) (hb : 0 < b) : (n % (a * b)) / b = (n / b) % a := by
  have h1 : n % (a * b) = n - a * b * (n / (a * b)) := Int.emod_def n (a * b)
  have h2 : n / (a * b) = n / b / a := by rw [Int.mul_comm a b, Int.ediv_ediv_of_nonneg (Int.le_of_lt hb)]
  rw [h1, h2, Int.emod_def (n / b) a]
  have : n - a * b * (n / b / a) = n + b * (-(a * (n / b / a))) := by
    rw [Int.mul_neg, Int.mul_comm a b, Int.mul_assoc]
    omega
  rw [this, Int.add_mul_ediv_left _ _ (by omega)]
  omega
theorem whereI_eq : ∀ {d : List Int}, Pos d → ∀ n, whereI d n = (numbersI (strides d) (n % prodI d), n / prodI d)
  | [], _, n => by simp [whereI, strides, numbersI, prodI]
  | x :: d, h, n => by
      have ih := whereI_eq h.tail n
      have hp := prodI_pos h.tail
      have hx := h.head
      simp only [whereI, ih, strides, numbersI, prodI]
      rw [emod_mul_div (by omega) (by omega), Int.emod_emod_of_dvd n (Int.dvd_mul_left x (prodI d)), Int.mul_comm x, Int.ediv_ediv_of_nonneg (by omega)]
theorem atI_eq : ∀ {d p : List Int} (n : Int), p.length = d.length → atI d p n = n * prodI d + placeI (strides d) p
  | [], [], n, _ => by simp [atI, prodI, strides, placeI]
  | x :: d, y :: p, n, h => by
      have ih := atI_eq (d := d) (p := p) (n * x + y) (by simpa using h)
      simp only [atI, ih, strides, placeI, prodI]
      rw [Int.add_mul, Int.mul_assoc, Int.mul_comm y]
      omega
  | [], _ :: _, _, h => by simp at h
  | _ :: _, [], _, h => by simp at h
/-- Numbers within dims. -/
def Within : List Int → List Int → Prop
  | [], [] => True
  | d :: r, p :: q => 0 ≤ p ∧ p < d ∧ Within r q
  | _, _ => False
theorem Within.len : ∀ {d p : List Int}, Within d p → p.length = d.length
  | [], [], _ => rfl
  | _ :: d, _ :: p, h => by simp [Within.len h.2.2]
  | [], _ :: _, h => h.elim
  | _ :: _, [], h => h.elim
theorem numbersI_within : ∀ {d : List Int}, Pos d → ∀ {n : Int}, 0 ≤ n → n < prodI d → Within d (numbersI (strides d) n)
  | [], _, _, _, _ => trivial
  | x :: d, h, n, h0, h1 => by
      have hp := prodI_pos h.tail
      simp only [prodI] at h1
      refine ⟨Int.ediv_nonneg h0 (by omega), ?_, numbersI_within h.tail (Int.emod_nonneg _ (by omega)) (Int.emod_lt_of_pos _ (by omega))⟩
      exact Int.ediv_lt_of_lt_mul (by omega) h1
theorem placeI_range : ∀ {d p : List Int}, Pos d → Within d p → 0 ≤ placeI (strides d) p ∧ placeI (strides d) p < prodI d
  | [], [], _, _ => by simp [strides, placeI, prodI]
  | x :: d, y :: p, h, w => by
      have ih := placeI_range h.tail w.2.2
      have hp := prodI_pos h.tail
      have h1 : 0 ≤ prodI d * y := Int.mul_nonneg (by omega) w.1
      have h2 : prodI d * (y + 1) ≤ prodI d * x := Int.mul_le_mul_of_nonneg_left (by have := w.2.1; omega) (by omega)
      simp only [strides, placeI, prodI]
      rw [Int.mul_add, Int.mul_one] at h2
      rw [Int.mul_comm x]
      omega
  | [], _ :: _, _, w => w.elim
  | _ :: _, [], _, w => w.elim
/-- A place of wider dims in narrower ones: where these are 1 it is 0. -/
def narrowI : List Int → List Int → List Int
  | d :: r, p :: q => (if d = 1 then 0 else p) :: narrowI r q
  | _, p => p
theorem narrowI_within : ∀ {a g p : List Int}, Pos a → wider a g = true → Within g p → Within a (narrowI a p)
  | [], [], [], _, _, _ => trivial
  | x :: a, y :: g, z :: p, ha, hw, w => by
      rw [wider] at hw
      simp only [Bool.and_eq_true] at hw
      have ih := narrowI_within ha.tail hw.2 w.2.2
      have h1 := w.1
      have h2 := w.2.1
      have h3 := ha.head
      refine ⟨?_, ?_, ih⟩
      · split <;> omega
      · have := hw.1
        simp at this
        split <;> omega
  | [], _ :: _, _, _, hw, _ => by simp [wider] at hw
  | _ :: _, [], _, _, hw, _ => by simp [wider] at hw
  | [], [], _ :: _, _, _, w => w.elim
  | _ :: _, _ :: _, [], _, _, w => w.elim
/-- The place in lesser dims of a place in greater ones. -/
def lowI (a g : List Int) (n : Int) : Int := placeI (strides a) (narrowI a (numbersI (strides g) n))
theorem lowI_range {a g : List Int} {n : Int} (ha : Pos a) (hg : Pos g) (hw : wider a g = true) (h0 : 0 ≤ n) (h1 : n < prodI g) : 0 ≤ lowI a g n ∧ lowI a g n < prodI a :=
  placeI_range ha (narrowI_within ha hw (numbersI_within hg h0 h1))
theorem dimsOk_pos {d : List Int} (h : dimsOk d = true) : Pos d := fun _ hx => (dimsOk_mem h hx).1
theorem foldl_prodW : ∀ (d : List Int) (n : Int), Pos d → (∀ x ∈ d, x ≤ 8) → d.length ≤ 3 → 1 ≤ n → ∀ k : Nat, n ≤ 8 ^ k → k + d.length ≤ 6 → d.foldl (fun n x => w64 (n * x)) n = n * prodI d
  | [], n, _, _, _, _, _, _, _ => by simp [prodI]
  | x :: d, n, hp, h8, hl, hn, k, hk, hkl => by
      have hx := hp.head
      have hx8 := h8 x List.mem_cons_self
      have h1 : n * x ≤ 8 ^ k * 8 := Int.mul_le_mul hk hx8 (by omega) (Int.le_trans (by omega) hk)
      have h2 : 1 * 1 ≤ n * x := Int.mul_le_mul hn hx (by omega) (by omega)
      have h3 : (8 : Int) ^ k * 8 = 8 ^ (k + 1) := (Int.pow_succ 8 k).symm
      have h4 : (8 : Int) ^ (k + 1) ≤ 8 ^ 6 := by
        have : (8 : Nat) ^ (k + 1) ≤ 8 ^ 6 := Nat.pow_le_pow_right (by omega) (by simp at hkl; omega)
        exact_mod_cast this
      have h5 : (8 : Int) ^ 6 = 262144 := by decide
      simp only [List.foldl_cons, prodI]
      rw [w64, w64_id (by omega) (by omega), foldl_prodW d (n * x) hp.tail (fun y hy => h8 y (List.mem_cons_of_mem _ hy)) (by simp at hl; omega) (by omega) (k + 1) (by omega) (by simp at hkl; omega), Int.mul_assoc]
theorem prodW_eq {d : List Int} (hp : Pos d) (h8 : ∀ x ∈ d, x ≤ 8) (hl : d.length ≤ 3) : prodW d = prodI d := by
  have := foldl_prodW d 1 hp h8 hl (by omega) 0 (by simp) (by omega)
  rw [Int.one_mul] at this
  exact this
theorem dimsOk_prod {d : List Int} (h : dimsOk d = true) : prodW d = prodI d ∧ 1 ≤ prodI d ∧ prodI d ≤ 64 := by
  have e := prodW_eq (dimsOk_pos h) (fun x hx => (dimsOk_mem h hx).2) (dimsOk_len h).2
  refine ⟨e, prodI_pos (dimsOk_pos h), ?_⟩
  rw [← e]
  simp [dimsOk] at h
  omega
end Go.AM

/- Tensors: new ones; number by number. -/
namespace Go.AM
set_option maxRecDepth 20000
set_option maxHeartbeats 1000000
attribute [local simp] layAt
attribute [local irreducible] lenK sliceK idxK fldK cutK storeK appK copyK clearK mapAtK callK loopH readK readK1 guardK grdK fnK nilK fieldK extrK strK nextK joinK iteK intK boolK cellsK castK castL castEnv binK unK intBin layParts execN runOpsN runItemsN denN call loop blockK
/-- May a tensor be? -/
def tenOk (t : tensor.den) : Bool := dimsOk t.1 && decide ((t.2.length : Int) = prodW t.1)
/-- A tensor of one's own: its dims, its data, in blocks of their own. -/
def TenAt (n0 : Nat) (h : Heap) (t : tensor.den) (v : AV) : Prop :=
  ∃ vd vt k, v = .agg [vd, vt] ∧ AccP n0 n0 h int vd t.1 ∧ (∀ j, vd.blk = some j → j < k) ∧ n0 ≤ k ∧ k ≤ h.length ∧ AccP k k h int vt t.2
section
variable {h : Heap}
theorem TenAt.keep {h' : Heap} {n0 : Nat} {t : tensor.den} {v : AV} (H : TenAt n0 h t v) (o : Old h.length h h') : TenAt n0 h' t v := by
  obtain ⟨vd, vt, k, e, a1, a2, a3, a4, a5⟩ := H
  exact ⟨vd, vt, k, e, a1.keep o, a2, a3, Nat.le_trans a4 o.1, a5.keep o⟩
theorem TenAt.mono {n0 m0 : Nat} {t : tensor.den} {v : AV} (H : TenAt n0 h t v) (hm : m0 ≤ n0) : TenAt m0 h t v := by
  obtain ⟨vd, vt, k, e, a1, a2, a3, a4, a5⟩ := H
  exact ⟨vd, vt, k, e, a1.mono hm hm, a2, Nat.le_trans hm a3, a4, a5⟩
theorem TenAt.parts {n0 : Nat} {t : tensor.den} {v : AV} (H : TenAt n0 h t v) : ∃ vd vt, v = .agg [vd, vt] ∧ In h ints t.1 [vd] ∧ In h ints t.2 [vt] := by
  obtain ⟨vd, vt, k, e, a1, a2, a3, a4, a5⟩ := H
  exact ⟨vd, vt, e, a1.in (Nat.le_refl _), a5.in (Nat.le_refl _)⟩
theorem holds_ten {S : Nat → Prop} {t : tensor.den} {vd vt : AV} (hd : Holds S h ints t.1 [vd]) (ht : Holds S h ints t.2 [vt]) : Holds S h tensor t [vd, vt] := ⟨[vd], [vt], rfl, hd, ht⟩
theorem ten_parts {t : tensor.den} (H : tenOk t = true) : dimsOk t.1 = true ∧ (t.2.length : Int) = prodI t.1 ∧ 1 ≤ t.2.length ∧ t.2.length ≤ 64 ∧ t.1.length ≤ 3 := by
  simp only [tenOk, Bool.and_eq_true, decide_eq_true_eq] at H
  obtain ⟨h1, h2, h3⟩ := dimsOk_prod H.1
  refine ⟨H.1, by omega, by omega, by omega, (dimsOk_len H.1).2⟩
theorem shape_Is {t : tensor.den} {cs : List AV} (ht : In h tensor t cs) (b : Nat) (hb : b ≤ h.length) : WP (call prog b 151 [.agg cs] h) fun r => Old h.length h r.2 ∧ r.1 = .bool (tenOk t) := by
  obtain ⟨vd, vt, rfl, hd, hdt⟩ := holds_tensor ht
  refine wp_enter (fn := C.shape_Is) rfl ?_
  dsimp only [bodyN, C.shape_Is]; simp
  have o1 : Old h.length h (h ++ [AObj.cells 0 1 [vd, vt]]) := Old.app
  refine wp_new1 rfl ?_
  try simp
  rw [callK_eq (shape_May (In.old o1 hd) _)]
  try simp
  refine wp_iteK (fun h1 => ?_) fun h1 => ?_
  · try simp
    refine wp_new1 rfl ?_
    try simp
    refine wq_len hdt ?_
    try simp
    refine wp_new1 rfl ?_
    try simp
    rw [callK_eq (shape_Product (In.old o1 hd) _)]
    try simp
    exact wp_some ⟨o1, by simp [tenOk, h1]⟩
  · try simp
    exact wp_some ⟨o1, by simp [tenOk, h1]⟩
theorem shape_New {vd : AV} {d : List Int} (hd : In h ints d [vd]) (hok : dimsOk d = true) (b : Nat) (hb : b ≤ h.length) : WP (call prog b 152 [vd] h) fun r => Old h.length h r.2 ∧ TenAt h.length r.2 (d, List.replicate (prodI d).toNat 0) r.1 := by
  obtain ⟨p1, p2, p3⟩ := dimsOk_prod hok
  have dl := dimsOk_len hok
  refine wp_enter (fn := C.shape_New) rfl ?_
  dsimp only [bodyN, C.shape_New]; simp
  generalize hh : h ++ [AObj.cells 0 1 [AV.nil, AV.nil]] = h1
  have o1 : Old h.length h h1 := hh ▸ Old.app
  have l1 : h1.length = h.length + 1 := by rw [← hh]; simp
  have b1 : Box h1 h.length [AV.nil, AV.nil] := by rw [← hh]; simp [Box]
  refine wp_call (slices_Clone_int (In.old o1 hd) (by omega) b (by omega)) fun v2 h2 ⟨o2, a2⟩ => ?_
  simp only at o2 a2
  have l2 := o2.1
  have b2 := b1.old o2 b1.lt
  have o12 := o1.trans (o2.mono o1.1)
  try simp
  rw [callK_eq (shape_Product (In.old o12 hd) _), p1]
  try simp
  refine wp_guard (by omega) ?_
  have mk := accp_make (h := h2) (p := int) (n := (prodI d).toNat) (x := 0) (zs := [.int .i64 0]) (fun _ _ => holds_int (by omega)) (by omega)
  simp [PT.sz] at mk
  have o23 : Old h2.length h2 (h2 ++ [AObj.cells 0 1 (List.replicate (prodI d).toNat (AV.int IntKind.i64 0))]) := Old.app
  have l3 : (h2 ++ [AObj.cells 0 1 (List.replicate (prodI d).toNat (AV.int IntKind.i64 0))]).length = h2.length + 1 := by simp
  try simp
  generalize h2 ++ [AObj.cells 0 1 (List.replicate (prodI d).toNat (AV.int IntKind.i64 0))] = h3 at *
  have b3 := b2.old o23 b2.lt
  have a3 := a2.keep o23
  refine wp_cells a2.one ?_
  try simp
  refine wq_put b3 (by omega) (vs := [v2, AV.ref h2.length 0 0 (prodI d).toNat]) (fun _ => by rw [cellsK_agg]) (by rfl) (by simp) fun h4 l4 k4 b4 => ?_
  simp at b4
  try simp
  refine wq_ptrs b4 (by simp) ?_
  try simp
  have a4 := a3.but l4 k4 (by omega) (by omega)
  have mk4 := mk.but l4 k4 (by omega) (by omega)
  refine wp_some ⟨(o12.trans (o23.mono (by omega))).trans (old_put l4 k4 (by omega) (by omega)), v2, _, h2.length, rfl, a4.mono (by omega) (by omega), fun j hj => ?_, by omega, by simp only; omega, mk4⟩
  obtain ⟨_, ac, _⟩ := a2
  exact (ac.lt hj).2
theorem slices_IndexFunc_TensorM {v : AV} {ds : List AV} {bs : List Bool} (hs : SliceAt (fun l => l < h.length) h v 2 bs.length ds) {cs : Nat → List AV} (hc : ∀ i, i < bs.length → (ds.drop (i * 2)).take 2 = cs i) {g : Nat} {cap : List AV} (b : Nat) (hb0 : b ≤ h.length) (hf : ∀ (i : Nat) (hi : i < bs.length), Tests g cap h (.agg (cs i)) bs[i]) :
    WP (call prog b 150 [v, .fn g cap] h) fun r => Old h.length h r.2 ∧ r.1 = .int .i64 (idxFrom 0 bs) := by
  have hb := hs.1
  refine wp_enter (fn := C.slices_IndexFunc_Tensor) rfl ?_
  dsimp only [bodyN, C.slices_IndexFunc_Tensor, C.slices_IndexFunc_Tensor_l0]; simp
  refine wp_len hs ?_
  try simp
  refine wp_loop (I := fun m e h' => Old h.length h h' ∧ ∃ i, e = (ea 0 v <| ea 1 (.fn g cap) <| ea 7 (.int .i64 bs.length) <| ea 8 (.int .i64 (i : Nat)) e0) ∧ i + m = bs.length ∧ idxFrom 0 bs = idxFrom i (bs.drop i)) ?_ ⟨Old.refl (Nat.le_refl _), 0, rfl, Nat.zero_add _, rfl⟩
  rintro N m e h' ⟨old, i, rfl, him, heq⟩ next
  have hs' := hs.old old (Nat.le_refl _)
  dsimp only [C.slices_IndexFunc_Tensor_b0]; simp
  refine wp_dec (fun hi => ?_) fun hi => ?_
  · try simp
    refine wp_idx hs' rfl hi ?_
    try simp
    refine wp_elem hs' hi (hc i hi) ?_
    try simp
    refine wp_call (hf i hi b h' (Nat.le_trans hb0 old.1) old) fun v2 h2 ⟨o2, e2⟩ => ?_
    simp only at o2 e2
    subst e2
    have o12 := old.trans (o2.mono old.1)
    rw [idxFrom_drop hi] at heq
    try simp
    refine wp_iteK (fun hn => ?_) fun hn => ?_
    · refine wp_some ⟨o12, ?_⟩
      rw [heq, if_pos hn]
    · try simp
      rw [succ64 hi hb]
      refine next (m - 1) _ _ (by omega) ⟨o12, i + 1, rfl, by omega, ?_⟩
      rw [heq, if_neg (by simp [hn])]
  · refine wp_some ⟨old, ?_⟩
    rw [heq, List.drop_of_length_le (by omega)]
    rfl
theorem slices_ContainsFunc_TensorM {v : AV} {ds : List AV} {bs : List Bool} (hs : SliceAt (fun l => l < h.length) h v 2 bs.length ds) {cs : Nat → List AV} (hc : ∀ i, i < bs.length → (ds.drop (i * 2)).take 2 = cs i) {g : Nat} {cap : List AV} (b : Nat) (hb0 : b ≤ h.length) (hf : ∀ (i : Nat) (hi : i < bs.length), Tests g cap h (.agg (cs i)) bs[i]) :
    WP (call prog b 133 [v, .fn g cap] h) fun r => Old h.length h r.2 ∧ r.1 = .bool (bs.any id) := by
  refine wp_enter (fn := C.slices_ContainsFunc_Tensor) rfl ?_
  dsimp only [bodyN, C.slices_ContainsFunc_Tensor]; simp
  refine wp_call (slices_IndexFunc_TensorM hs hc b hb0 hf) fun v2 h2 ⟨o2, e2⟩ => ?_
  simp only at o2 e2
  subst e2
  try simp
  exact wp_some ⟨o2, by rw [idxFrom_any]⟩
theorem shape_All_1 {t : tensor.den} {cs : List AV} (ht : In h tensor t cs) (b : Nat) (hb : b ≤ h.length) : WP (call prog b 134 [.agg cs] h) fun r => Old h.length h r.2 ∧ r.1 = .bool (!tenOk t) := by
  obtain ⟨vd, vt, rfl, hd, hdt⟩ := holds_tensor ht
  refine wp_enter (fn := C.shape_All_1) rfl ?_
  dsimp only [bodyN, C.shape_All_1]; simp
  generalize hh : h ++ [AObj.cells 0 1 [vd, vt]] = h1
  have o1 : Old h.length h h1 := hh ▸ Old.app
  have b1 : Box h1 h.length [vd, vt] := by rw [← hh]; simp [Box]
  have l1 := o1.1
  refine wq_ptrs b1 (by simp) ?_
  try simp
  refine wp_call (shape_Is (In.old o1 ht) b (by omega)) fun v2 h2 ⟨o2, e2⟩ => ?_
  simp only at o2 e2
  subst e2
  try simp
  exact wp_some ⟨o1.trans (o2.mono l1), rfl⟩
theorem shape_All {v : AV} {l : List tensor.den} (hl : In h tensors l [v]) (b : Nat) (hb : b ≤ h.length) : WP (call prog b 118 [v] h) fun r => Old h.length h r.2 ∧ r.1 = .bool (l.all tenOk) := by
  obtain ⟨ds, hs, hc⟩ := hl.elem
  refine wp_enter (fn := C.shape_All) rfl ?_
  dsimp only [bodyN, C.shape_All]; simp
  refine wp_call (slices_ContainsFunc_TensorM (g := 134) (cap := []) (bs := l.map fun t => !tenOk t) (by rw [List.length_map]; exact hs) (cs := fun i => (ds.drop (i * 2)).take 2) (fun _ _ => rfl) b hb (fun i hi b' h' hb' old' => by
    have hi : i < l.length := by simpa using hi
    have hx := hc i l[i] (List.getElem?_eq_getElem hi)
    have := shape_All_1 (In.old old' hx) b' hb'
    simp only [List.getElem_map]
    exact this)) fun v5 h5 ⟨o5, e5⟩ => ?_
  simp only at o5 e5
  subst e5
  have e : (l.map fun t => !tenOk t).any id = !(l.all tenOk) := by rw [List.any_map, List.not_all_eq_any_not]; rfl
  rw [e]
  try simp
  exact wp_some ⟨o5, by simp⟩
/-- Two tensors that go together number by number. -/
theorem ring_pair {s t : tensor.den} {cs ct : List AV} (hs : In h tensor s cs) (ht : In h tensor t ct) (ks : tenOk s = true) (kt : tenOk t = true) (e : s.1 = t.1) (b : Nat) (hb : b ≤ h.length) : WP (call prog b 194 [.agg cs, .agg ct] h) fun r => Old h.length h r.2 ∧ r.1 = .int .i64 0 := by
  obtain ⟨sd, st, rfl, hsd, hst⟩ := holds_tensor hs
  obtain ⟨td, tt, rfl, htd, htt⟩ := holds_tensor ht
  refine wp_enter (fn := C.ring_pair) rfl ?_
  dsimp only [bodyN, C.ring_pair]; simp
  generalize hh : h ++ [AObj.cells 0 1 [sd, st], AObj.cells 0 1 [td, tt]] = h1
  have o1 : Old h.length h h1 := hh ▸ Old.app
  have b1 : Box h1 h.length [sd, st] := by rw [← hh]; simp [Box]
  have c1 : Box h1 (h.length + 1) [td, tt] := by rw [← hh]; simp [Box]
  have l1 := o1.1
  refine wq_ptrs b1 (by simp) ?_
  try simp
  refine wq_ptrs c1 (by simp) ?_
  try simp
  have H2 := in_new (h := h1) (s := 2) (n := 2) (l := [s, t]) (p := tensor) ⟨_, _, rfl, In.old o1 hs, _, [], (List.append_nil _).symm, In.old o1 ht, rfl⟩ (by simp) (by rfl) (by simp)
  simp at H2
  have o2 : Old h1.length h1 (h1 ++ [AObj.cells 0 2 [sd, st, td, tt]]) := Old.app
  generalize h1 ++ [AObj.cells 0 2 [sd, st, td, tt]] = h2 at *
  have l2 := o2.1
  refine wp_call (shape_All H2 b (by omega)) fun v3 h3 ⟨o3, e3⟩ => ?_
  simp only at o3 e3
  simp [ks, kt] at e3
  subst e3
  have o13 := o1.trans ((o2.trans (o3.mono l2)).mono l1)
  have b3 := (b1.old o2 b1.lt).old o3 (by have := b1.lt; omega)
  have c3 := (c1.old o2 c1.lt).old o3 (by have := c1.lt; omega)
  try simp
  refine wq_ptr b3 rfl ?_
  try simp
  refine wq_ptr c3 rfl ?_
  try simp
  rw [callK_eq (slices_Equal_int (In.old o13 hsd) (In.old o13 htd) _)]
  simp [e]
  exact wp_some ⟨o13, rfl⟩
end
end Go.AM

/- Number by number. -/
namespace Go.AM
set_option maxRecDepth 20000
set_option maxHeartbeats 1000000
attribute [local simp] layAt
attribute [local irreducible] lenK sliceK idxK fldK cutK storeK appK copyK clearK mapAtK callK loopH readK readK1 guardK grdK fnK nilK fieldK extrK strK nextK joinK iteK intK boolK cellsK castK castL castEnv binK unK intBin layParts execN runOpsN runItemsN denN call loop blockK
section
variable {h : Heap}
/-- A tensor of one's own stands while elsewhere is written. -/
theorem TenAt.at {n0 : Nat} {t : tensor.den} {v : AV} (H : TenAt n0 h t v) : True := trivial
theorem ring_two {s t : tensor.den} {cs ct : List AV} (hs : In h tensor s cs) (ht : In h tensor t ct) (ks : tenOk s = true) (kt : tenOk t = true) (e : s.1 = t.1) {g : Nat} {cap : List AV} (op : Int → Int → Int) (hr : ∀ x y, -9223372036854775808 ≤ op x y ∧ op x y ≤ 9223372036854775807)
    (hop : ∀ h' b x y, Old h.length h h' → call prog b g (.int .i64 x :: .int .i64 y :: cap) h' = some (.int .i64 (op x y), h')) (b : Nat) (hb : b ≤ h.length) :
    WP (call prog b 180 [.agg cs, .agg ct, .fn g cap] h) fun r => Old h.length h r.2 ∧ ∃ v, r.1 = .tup [v, .int .i64 0] ∧ TenAt h.length r.2 (s.1, List.zipWith op s.2 t.2) v := by
  obtain ⟨sd, st, rfl, hsd, hst⟩ := holds_tensor hs
  obtain ⟨td, tt, rfl, htd, htt⟩ := holds_tensor ht
  obtain ⟨s1, s2, s3, s4, s5⟩ := ten_parts ks
  obtain ⟨t1, t2, t3, t4, t5⟩ := ten_parts kt
  refine wp_enter (fn := C.ring_two) rfl ?_
  dsimp only [bodyN, C.ring_two, C.ring_two_l0]; simp
  generalize hh : h ++ [AObj.cells 0 1 [sd, st], AObj.cells 0 1 [td, tt], AObj.cells 0 1 [AV.nil, AV.nil]] = h1
  have o1 : Old h.length h h1 := hh ▸ Old.app
  have l1 : h1.length = h.length + 3 := by rw [← hh]; simp
  have b1 : Box h1 h.length [sd, st] := by rw [← hh]; simp [Box]
  have c1 : Box h1 (h.length + 1) [td, tt] := by rw [← hh]; simp [Box]
  have r1 : Box h1 (h.length + 2) [AV.nil, AV.nil] := by rw [← hh]; simp [Box]
  refine wq_ptrs b1 (by simp) ?_
  try simp
  refine wq_ptrs c1 (by simp) ?_
  try simp
  refine wp_call (ring_pair (In.old o1 hs) (In.old o1 ht) ks kt e b (by omega)) fun v2 h2 ⟨o12, e2⟩ => ?_
  simp only at o12 e2
  subst e2
  have o2 := o1.trans (o12.mono (by omega))
  have l2 := o12.1
  have b2 := b1.old o12 b1.lt
  have c2 := c1.old o12 c1.lt
  have r2 := r1.old o12 r1.lt
  try simp
  refine wq_ptr b2 rfl ?_
  try simp
  refine wp_call (shape_New (In.old o2 hsd) s1 b (by omega)) fun v3 h3 ⟨o23, T3⟩ => ?_
  simp only at o23 T3
  have l3 := o23.1
  have o3 := o2.trans (o23.mono (by omega))
  obtain ⟨vd, vt, k, rfl, ad, hk, hnk, hkl, at3⟩ := T3
  have b3 := b2.old o23 b2.lt
  have c3 := c2.old o23 c2.lt
  have r3 := r2.old o23 r2.lt
  try simp
  refine wq_init (by omega) (by rfl) (by rfl) fun h4 o34 b4 lt4 => ?_
  have l4 := o34.1
  have o4 := o3.trans (o34.mono (by omega))
  have at4 := at3.keep o34
  have ad4 := ad.keep o34
  have b34 := b3.old o34 b3.lt
  have c34 := c3.old o34 c3.lt
  have r34 := r3.old o34 r3.lt
  try simp
  refine wq_ptr b4 rfl ?_
  try simp
  refine wq_len (at4.in (Nat.le_refl _)) ?_
  have en : (prodI s.1).toNat = s.2.length := by omega
  rw [en] at at4
  simp [en]
  have vtb : ∀ j, vt.blk = some j → k ≤ j ∧ j < h3.length := fun j hj => by
    obtain ⟨_, ac, _⟩ := at3
    exact ac.lt hj
  refine wp_loop (I := fun m e h' => Old k h4 h' ∧ h4.length ≤ h'.length ∧ Box h' h3.length [vd, vt] ∧ ∃ (i : Nat) (D : List Int), e = (ea 2 (.fn g cap) <| ea 3 (.ptr h.length 0 0) <| ea 4 (.ptr (h.length + 1) 0 0) <| ea 6 (.ptr (h.length + 2) 0 0) <| ea 9 (.ptr h3.length 0 0) <| ea 23 (.int .i64 s.2.length) <| ea 24 (.int .i64 (i : Nat)) e0) ∧ i + m = s.2.length ∧ AccP k k h' int vt D ∧ D.length = s.2.length ∧ ∀ q, q < s.2.length → D[q]? = some (if q < i then op (s.2.getD q 0) (t.2.getD q 0) else 0)) ?_ ⟨Old.refl (by omega), Nat.le_refl _, b4, 0, _, rfl, Nat.zero_add _, at4, by simp, fun q hq => by rw [List.getElem?_replicate, if_pos hq, if_neg (by omega)]⟩
  rintro N m e' h5 ⟨o45, l5, b5, i, D, rfl, him, at5, hD, hDq⟩ next
  have o5 := o4.trans (o45.mono (by omega))
  have b35 := b34.old o45 (by have := b2.lt; omega)
  have c35 := c34.old o45 (by have := c2.lt; omega)
  have r35 := r34.old o45 (by have := r2.lt; omega)
  have hst5 := In.old o5 hst
  have htt5 := In.old o5 htt
  dsimp only [C.ring_two_b0]; simp
  refine wp_dec (fun hi => ?_) fun hi => ?_
  · have w1 := succ64 (i := i) (n := 64) (by omega) (by omega)
    have hit : i < t.2.length := by rw [e] at s2; omega
    try simp
    refine wq_ptr b5 rfl ?_
    try simp
    refine wq_ptr b35 rfl ?_
    try simp
    refine wq_idx hst5 (by rfl) (by omega) (by omega) ?_
    try simp
    refine wq_int hst5 hi ?_
    try simp
    refine wq_ptr c35 rfl ?_
    try simp
    refine wq_idx htt5 (by rfl) (by omega) (by omega) ?_
    try simp
    refine wq_int htt5 hit ?_
    try simp
    rw [callK_eq (hop _ _ _ _ o5)]
    try simp
    refine wq_idx (at5.in (Nat.le_refl _)) (by rfl) (by omega) (by omega) ?_
    try simp
    refine wp_putI at5 (hr _ _) (by omega) (by omega) (by omega) fun h6 but6 l6 o56 at6 => ?_
    simp [w1]
    have b6 : Box h6 h3.length _ := (but6.2 _ b5.lt (fun e => by have := (vtb _ e).2; omega)).trans b5
    refine next (m - 1) _ _ (by omega) ⟨o45.trans o56, by omega, b6, i + 1, _, rfl, by omega, at6, by simp [hD], fun q hq => ?_⟩
    rw [List.getElem?_set]
    by_cases c : i = q
    · subst c
      rw [if_pos rfl, if_pos (by omega), if_pos (by omega), List.getD_eq_getElem?_getD, List.getD_eq_getElem?_getD, List.getElem?_eq_getElem hi, List.getElem?_eq_getElem hit]
      rfl
    · rw [if_neg c, hDq q hq]
      by_cases c2 : q < i
      · rw [if_pos c2, if_pos (by omega)]
      · rw [if_neg c2, if_neg (by omega)]
  · have ei : i = s.2.length := by omega
    subst ei
    try simp
    refine wq_ptrs b5 (by simp) ?_
    try simp
    refine wq_put r35 (by omega) (vs := [vd, vt]) (fun _ => by rw [cellsK_agg]) (by rfl) (by simp) fun h6 l6 k6 b6 => ?_
    simp at b6
    try simp
    refine wq_ptrs b6 (by simp) ?_
    try simp
    have r2lt := r2.lt
    have ad5 := ad4.flatO o45 hk
    have ad6 := ad5.but l6 k6 (by omega) (by omega)
    have at6 := at5.but l6 k6 (by omega) (by omega)
    have eD : D = List.zipWith op s.2 t.2 := by
      apply List.ext_getElem?
      intro q
      have htl : t.2.length = s.2.length := by rw [e] at s2; omega
      rcases Nat.lt_or_ge q s.2.length with hq | hq
      · rw [hDq q hq, if_pos hq, List.getElem?_zipWith, List.getElem?_eq_getElem hq, List.getElem?_eq_getElem (by omega), List.getD_eq_getElem?_getD, List.getD_eq_getElem?_getD, List.getElem?_eq_getElem hq, List.getElem?_eq_getElem (by omega)]
        rfl
      · rw [List.getElem?_eq_none (by omega), List.getElem?_eq_none (by simp; omega)]
    refine wp_some ⟨o5.trans (old_put l6 k6 (by omega) (by omega)), _, rfl, vd, vt, k, rfl, ad6.mono (by omega) (by omega), hk, by omega, by simp only; omega, by rw [← eD]; exact at6⟩
end
end Go.AM

/- Number by number: the program's. -/
namespace Go.AM
set_option maxRecDepth 20000
set_option maxHeartbeats 1000000
attribute [local simp] layAt
attribute [local irreducible] lenK sliceK idxK fldK cutK storeK appK copyK clearK mapAtK callK loopH readK readK1 guardK grdK fnK nilK fieldK extrK strK nextK joinK iteK intK boolK cellsK castK castL castEnv binK unK intBin layParts execN runOpsN runItemsN denN call loop blockK
def scaleL (l : List Int) (n : Int) : List Int := l.map fun x => w64 (x * n)
section
variable {h : Heap}
theorem ring_Add_1 (x y : Int) (b : Nat) : call prog b 181 [.int .i64 x, .int .i64 y] h = some (.int .i64 (w64 (x + y)), h) := by
  refine enter (fn := C.ring_Add_1) rfl ?_
  dsimp only [bodyN, C.ring_Add_1]; simp
theorem ring_Add {s t : tensor.den} {cs ct : List AV} (hs : In h tensor s cs) (ht : In h tensor t ct) (ks : tenOk s = true) (kt : tenOk t = true) (e : s.1 = t.1) (b : Nat) (hb : b ≤ h.length) :
    WP (call prog b 153 [.agg cs, .agg ct] h) fun r => Old h.length h r.2 ∧ ∃ v, r.1 = .tup [v, .int .i64 0] ∧ TenAt h.length r.2 (s.1, List.zipWith (fun x y => w64 (x + y)) s.2 t.2) v := by
  obtain ⟨sd, st, rfl, hsd, hst⟩ := holds_tensor hs
  obtain ⟨td, tt, rfl, htd, htt⟩ := holds_tensor ht
  refine wp_enter (fn := C.ring_Add) rfl ?_
  dsimp only [bodyN, C.ring_Add]; simp
  generalize hh : h ++ [AObj.cells 0 1 [sd, st], AObj.cells 0 1 [td, tt], AObj.cells 0 1 [AV.nil, AV.nil]] = h1
  have o1 : Old h.length h h1 := hh ▸ Old.app
  have l1 : h1.length = h.length + 3 := by rw [← hh]; simp
  have b1 : Box h1 h.length [sd, st] := by rw [← hh]; simp [Box]
  have c1 : Box h1 (h.length + 1) [td, tt] := by rw [← hh]; simp [Box]
  have r1 : Box h1 (h.length + 2) [AV.nil, AV.nil] := by rw [← hh]; simp [Box]
  refine wq_ptrs b1 (by simp) ?_
  try simp
  refine wq_ptrs c1 (by simp) ?_
  try simp
  refine wp_call (ring_two (In.old o1 hs) (In.old o1 ht) ks kt e (g := 181) (cap := []) (fun x y => w64 (x + y)) (fun x y => wrap_range _) (fun h' b x y _ => ring_Add_1 x y b) b (by omega)) fun v2 h2 ⟨o2, v3, e2, T2⟩ => ?_
  simp only at o2 e2 T2
  subst e2
  obtain ⟨vd, vt, k, rfl, ad, hk, hnk, hkl, at3⟩ := T2
  have l2 := o2.1
  have r2 := r1.old o2 r1.lt
  have r1lt := r1.lt
  try simp
  refine wq_put r2 (by omega) (vs := [vd, vt]) (fun _ => by rw [cellsK_agg]) (by rfl) (by simp) fun h6 l6 k6 b6 => ?_
  simp at b6
  try simp
  refine wq_ptrs b6 (by simp) ?_
  try simp
  exact wp_some ⟨(o1.trans (o2.mono (by omega))).trans (old_put l6 k6 (by omega) (by omega)), _, rfl, vd, vt, k, rfl, (ad.but l6 k6 (by omega) (by omega)).mono (by omega) (by omega), hk, by omega, by simp only; omega, at3.but l6 k6 (by omega) (by omega)⟩
theorem ring_Sub_1 (x y : Int) (b : Nat) : call prog b 182 [.int .i64 x, .int .i64 y] h = some (.int .i64 (w64 (x - y)), h) := by
  refine enter (fn := C.ring_Sub_1) rfl ?_
  dsimp only [bodyN, C.ring_Sub_1]; simp
theorem ring_Sub {s t : tensor.den} {cs ct : List AV} (hs : In h tensor s cs) (ht : In h tensor t ct) (ks : tenOk s = true) (kt : tenOk t = true) (e : s.1 = t.1) (b : Nat) (hb : b ≤ h.length) :
    WP (call prog b 154 [.agg cs, .agg ct] h) fun r => Old h.length h r.2 ∧ ∃ v, r.1 = .tup [v, .int .i64 0] ∧ TenAt h.length r.2 (s.1, List.zipWith (fun x y => w64 (x - y)) s.2 t.2) v := by
  obtain ⟨sd, st, rfl, hsd, hst⟩ := holds_tensor hs
  obtain ⟨td, tt, rfl, htd, htt⟩ := holds_tensor ht
  refine wp_enter (fn := C.ring_Sub) rfl ?_
  dsimp only [bodyN, C.ring_Sub]; simp
  generalize hh : h ++ [AObj.cells 0 1 [sd, st], AObj.cells 0 1 [td, tt], AObj.cells 0 1 [AV.nil, AV.nil]] = h1
  have o1 : Old h.length h h1 := hh ▸ Old.app
  have l1 : h1.length = h.length + 3 := by rw [← hh]; simp
  have b1 : Box h1 h.length [sd, st] := by rw [← hh]; simp [Box]
  have c1 : Box h1 (h.length + 1) [td, tt] := by rw [← hh]; simp [Box]
  have r1 : Box h1 (h.length + 2) [AV.nil, AV.nil] := by rw [← hh]; simp [Box]
  refine wq_ptrs b1 (by simp) ?_
  try simp
  refine wq_ptrs c1 (by simp) ?_
  try simp
  refine wp_call (ring_two (In.old o1 hs) (In.old o1 ht) ks kt e (g := 182) (cap := []) (fun x y => w64 (x - y)) (fun x y => wrap_range _) (fun h' b x y _ => ring_Sub_1 x y b) b (by omega)) fun v2 h2 ⟨o2, v3, e2, T2⟩ => ?_
  simp only at o2 e2 T2
  subst e2
  obtain ⟨vd, vt, k, rfl, ad, hk, hnk, hkl, at3⟩ := T2
  have l2 := o2.1
  have r2 := r1.old o2 r1.lt
  have r1lt := r1.lt
  try simp
  refine wq_put r2 (by omega) (vs := [vd, vt]) (fun _ => by rw [cellsK_agg]) (by rfl) (by simp) fun h6 l6 k6 b6 => ?_
  simp at b6
  try simp
  refine wq_ptrs b6 (by simp) ?_
  try simp
  exact wp_some ⟨(o1.trans (o2.mono (by omega))).trans (old_put l6 k6 (by omega) (by omega)), _, rfl, vd, vt, k, rfl, (ad.but l6 k6 (by omega) (by omega)).mono (by omega) (by omega), hk, by omega, by simp only; omega, at3.but l6 k6 (by omega) (by omega)⟩
theorem ring_Mul_1 (x y : Int) (b : Nat) : call prog b 183 [.int .i64 x, .int .i64 y] h = some (.int .i64 (w64 (x * y)), h) := by
  refine enter (fn := C.ring_Mul_1) rfl ?_
  dsimp only [bodyN, C.ring_Mul_1]; simp
theorem ring_Mul {s t : tensor.den} {cs ct : List AV} (hs : In h tensor s cs) (ht : In h tensor t ct) (ks : tenOk s = true) (kt : tenOk t = true) (e : s.1 = t.1) (b : Nat) (hb : b ≤ h.length) :
    WP (call prog b 155 [.agg cs, .agg ct] h) fun r => Old h.length h r.2 ∧ ∃ v, r.1 = .tup [v, .int .i64 0] ∧ TenAt h.length r.2 (s.1, List.zipWith (fun x y => w64 (x * y)) s.2 t.2) v := by
  obtain ⟨sd, st, rfl, hsd, hst⟩ := holds_tensor hs
  obtain ⟨td, tt, rfl, htd, htt⟩ := holds_tensor ht
  refine wp_enter (fn := C.ring_Mul) rfl ?_
  dsimp only [bodyN, C.ring_Mul]; simp
  generalize hh : h ++ [AObj.cells 0 1 [sd, st], AObj.cells 0 1 [td, tt], AObj.cells 0 1 [AV.nil, AV.nil]] = h1
  have o1 : Old h.length h h1 := hh ▸ Old.app
  have l1 : h1.length = h.length + 3 := by rw [← hh]; simp
  have b1 : Box h1 h.length [sd, st] := by rw [← hh]; simp [Box]
  have c1 : Box h1 (h.length + 1) [td, tt] := by rw [← hh]; simp [Box]
  have r1 : Box h1 (h.length + 2) [AV.nil, AV.nil] := by rw [← hh]; simp [Box]
  refine wq_ptrs b1 (by simp) ?_
  try simp
  refine wq_ptrs c1 (by simp) ?_
  try simp
  refine wp_call (ring_two (In.old o1 hs) (In.old o1 ht) ks kt e (g := 183) (cap := []) (fun x y => w64 (x * y)) (fun x y => wrap_range _) (fun h' b x y _ => ring_Mul_1 x y b) b (by omega)) fun v2 h2 ⟨o2, v3, e2, T2⟩ => ?_
  simp only at o2 e2 T2
  subst e2
  obtain ⟨vd, vt, k, rfl, ad, hk, hnk, hkl, at3⟩ := T2
  have l2 := o2.1
  have r2 := r1.old o2 r1.lt
  have r1lt := r1.lt
  try simp
  refine wq_put r2 (by omega) (vs := [vd, vt]) (fun _ => by rw [cellsK_agg]) (by rfl) (by simp) fun h6 l6 k6 b6 => ?_
  simp at b6
  try simp
  refine wq_ptrs b6 (by simp) ?_
  try simp
  exact wp_some ⟨(o1.trans (o2.mono (by omega))).trans (old_put l6 k6 (by omega) (by omega)), _, rfl, vd, vt, k, rfl, (ad.but l6 k6 (by omega) (by omega)).mono (by omega) (by omega), hk, by omega, by simp only; omega, at3.but l6 k6 (by omega) (by omega)⟩
theorem ring_Scale {s : tensor.den} {cs : List AV} (hs : In h tensor s cs) (ks : tenOk s = true) {n : Int} (b : Nat) (hb : b ≤ h.length) :
    WP (call prog b 160 [.agg cs, .int .i64 n] h) fun r => Old h.length h r.2 ∧ ∃ v, r.1 = .tup [v, .int .i64 0] ∧ TenAt h.length r.2 (s.1, scaleL s.2 n) v := by
  obtain ⟨sd, st, rfl, hsd, hst⟩ := holds_tensor hs
  refine wp_enter (fn := C.ring_Scale) rfl ?_
  dsimp only [bodyN, C.ring_Scale]; simp
  generalize hh : h ++ [AObj.cells 0 1 [sd, st], AObj.cells 0 1 [AV.int IntKind.i64 n], AObj.cells 0 1 [AV.nil, AV.nil]] = h1
  have o1 : Old h.length h h1 := hh ▸ Old.app
  have l1 : h1.length = h.length + 3 := by rw [← hh]; simp
  have b1 : Box h1 h.length [sd, st] := by rw [← hh]; simp [Box]
  have c1 : Box h1 (h.length + 1) [AV.int IntKind.i64 n] := by rw [← hh]; simp [Box]
  have r1 : Box h1 (h.length + 2) [AV.nil, AV.nil] := by rw [← hh]; simp [Box]
  refine wq_ptrs b1 (by simp) ?_
  try simp
  refine wq_ptrs b1 (by simp) ?_
  try simp
  refine wp_call (ring_two (In.old o1 hs) (In.old o1 hs) ks ks rfl (g := 186) (cap := [.ptr (h.length + 1) 0 0]) (fun x _ => w64 (x * n)) (fun x y => wrap_range _) (fun h' b x y o => by
    have c' := c1.old o c1.lt
    refine wp_iff.1 (wp_enter (fn := C.ring_Scale_1) rfl ?_)
    dsimp only [bodyN, C.ring_Scale_1]; simp
    refine wq_ptr c' rfl ?_
    try simp
    exact wp_some rfl) b (by omega)) fun v2 h2 ⟨o2, v3, e2, T2⟩ => ?_
  simp only at o2 e2 T2
  subst e2
  have ez : List.zipWith (fun x (_ : Int) => w64 (x * n)) s.2 s.2 = scaleL s.2 n := by
    unfold scaleL
    generalize s.2 = l
    induction l with
    | nil => rfl
    | cons a l ih => simp only [List.zipWith_cons_cons, List.map_cons, ih]
  rw [ez] at T2
  obtain ⟨vd, vt, k, rfl, ad, hk, hnk, hkl, at3⟩ := T2
  have l2 := o2.1
  have r2 := r1.old o2 r1.lt
  have r1lt := r1.lt
  try simp
  refine wq_put r2 (by omega) (vs := [vd, vt]) (fun _ => by rw [cellsK_agg]) (by rfl) (by simp) fun h6 l6 k6 b6 => ?_
  simp at b6
  try simp
  refine wq_ptrs b6 (by simp) ?_
  try simp
  exact wp_some ⟨(o1.trans (o2.mono (by omega))).trans (old_put l6 k6 (by omega) (by omega)), _, rfl, vd, vt, k, rfl, (ad.but l6 k6 (by omega) (by omega)).mono (by omega) (by omega), hk, by omega, by simp only; omega, at3.but l6 k6 (by omega) (by omega)⟩
theorem ring_Neg {s : tensor.den} {cs : List AV} (hs : In h tensor s cs) (ks : tenOk s = true) (b : Nat) (hb : b ≤ h.length) :
    WP (call prog b 159 [.agg cs] h) fun r => Old h.length h r.2 ∧ ∃ v, r.1 = .tup [v, .int .i64 0] ∧ TenAt h.length r.2 (s.1, scaleL s.2 (-1)) v := by
  obtain ⟨sd, st, rfl, hsd, hst⟩ := holds_tensor hs
  refine wp_enter (fn := C.ring_Neg) rfl ?_
  dsimp only [bodyN, C.ring_Neg]; simp
  generalize hh : h ++ [AObj.cells 0 1 [sd, st], AObj.cells 0 1 [AV.nil, AV.nil]] = h1
  have o1 : Old h.length h h1 := hh ▸ Old.app
  have l1 : h1.length = h.length + 2 := by rw [← hh]; simp
  have b1 : Box h1 h.length [sd, st] := by rw [← hh]; simp [Box]
  have r1 : Box h1 (h.length + 1) [AV.nil, AV.nil] := by rw [← hh]; simp [Box]
  refine wq_ptrs b1 (by simp) ?_
  try simp
  refine wp_call (ring_Scale (In.old o1 hs) ks b (by omega)) fun v2 h2 ⟨o2, v3, e2, T2⟩ => ?_
  simp only at o2 e2 T2
  subst e2
  obtain ⟨vd, vt, k, rfl, ad, hk, hnk, hkl, at3⟩ := T2
  have l2 := o2.1
  have r2 := r1.old o2 r1.lt
  have r1lt := r1.lt
  try simp
  refine wq_put r2 (by omega) (vs := [vd, vt]) (fun _ => by rw [cellsK_agg]) (by rfl) (by simp) fun h6 l6 k6 b6 => ?_
  simp at b6
  try simp
  refine wq_ptrs b6 (by simp) ?_
  try simp
  exact wp_some ⟨(o1.trans (o2.mono (by omega))).trans (old_put l6 k6 (by omega) (by omega)), _, rfl, vd, vt, k, rfl, (ad.but l6 k6 (by omega) (by omega)).mono (by omega) (by omega), hk, by omega, by simp only; omega, at3.but l6 k6 (by omega) (by omega)⟩
end
end Go.AM

/- A tensor in a box, while it is written. -/
namespace Go.AM
set_option maxRecDepth 20000
set_option maxHeartbeats 1000000
attribute [local simp] layAt
attribute [local irreducible] lenK sliceK idxK fldK cutK storeK appK copyK clearK mapAtK callK loopH readK readK1 guardK grdK fnK nilK fieldK extrK strK nextK joinK iteK intK boolK cellsK castK castL castEnv binK unK intBin layParts execN runOpsN runItemsN denN call loop blockK
/-- A tensor of one's own in a box, with its data so far. -/
structure TB (n0 k lt : Nat) (d D : List Int) (vd vt : AV) (h : Heap) : Prop where
  box : Box h lt [vd, vt]
  dims : AccP n0 n0 h int vd d
  low : ∀ j, vd.blk = some j → j < k
  le : n0 ≤ k
  data : AccP k k h int vt D
  hi : ∀ j, vt.blk = some j → j < lt
  kl : k ≤ lt
section
variable {R : Type} {Q : R → Prop} {h : Heap}
theorem TB.lt {n0 k lt : Nat} {d D : List Int} {vd vt : AV} (H : TB n0 k lt d D vd vt h) : lt < h.length := H.box.lt
theorem TB.old {h' : Heap} {n0 k lt : Nat} {d D : List Int} {vd vt : AV} (H : TB n0 k lt d D vd vt h) (o : Old h.length h h') : TB n0 k lt d D vd vt h' :=
  ⟨H.box.old o H.box.lt, H.dims.keep o, H.low, H.le, H.data.keep o, H.hi, H.kl⟩
theorem TB.in {n0 k lt : Nat} {d D : List Int} {vd vt : AV} (H : TB n0 k lt d D vd vt h) : In h ints D [vt] := H.data.in (Nat.le_refl _)
/-- Laid into a new box. -/
theorem wp_initT {b n0 : Nat} {t : tensor.den} {v : AV} (H : TenAt n0 h t v) (hb : b ≤ h.length) {K : Heap → Option R}
    (k : ∀ vd vt k' h', v = .agg [vd, vt] → Old h.length h h' → h.length < h'.length → TB n0 k' h.length t.1 t.2 vd vt h' → WP (K h') Q) : WP (storeK b 2 (h ++ [.cells 0 1 [.nil, .nil]]) (.ptr h.length 0 0) v K) Q := by
  obtain ⟨vd, vt, k', rfl, a1, a2, a3, a4, a5⟩ := H
  refine wq_init hb (by rfl) (by rfl) fun h' o b' lt' => k vd vt k' h' rfl o lt' ⟨b', a1.keep o, a2, a3, a5.keep o, fun j hj => ?_, a4⟩
  obtain ⟨_, ac, _⟩ := a5
  exact (ac.lt hj).2
/-- A number of its data is written. -/
theorem wp_putT {base n0 k lt : Nat} {d D : List Int} {vd vt : AV} (H : TB n0 k lt d D vd vt h) {x : Int} (hx : -9223372036854775808 ≤ x ∧ x ≤ 9223372036854775807) (hb : base ≤ k) (hk : k ≤ h.length) {i : Nat} (hi : i < D.length) {K : Heap → Option R}
    (kk : ∀ h', Old k h h' → h'.length = h.length → (∀ j, lt ≤ j → j < h.length → h'[j]? = h[j]?) → TB n0 k lt d (D.set i x) vd vt h' → WP (K h') Q) : WP (storeK base 1 h (addrOf vt 1 i 0) (.int .i64 x) K) Q := by
  refine wp_putI H.data hx hb hk hi fun h' but l o a => kk h' o l (fun j hj hl => but.2 j hl fun e => by have := H.hi j e; omega) ⟨(but.2 _ H.lt fun e => by have := H.hi _ e; omega).trans H.box, H.dims.flatO o H.low, H.low, H.le, a, H.hi, H.kl⟩
/-- Handed on, by a cell of results that was there ahead. -/
theorem TB.told {h' : Heap} {n0 k lt r : Nat} {d D : List Int} {vd vt : AV} (H : TB n0 k lt d D vd vt h) (hl : h'.length = h.length) (hk : ∀ j, j ≠ r → h'[j]? = h[j]?) (hr : r < n0) : TenAt n0 h' (d, D) (.agg [vd, vt]) := by
  have := H.le
  have := H.lt
  have := H.kl
  exact ⟨vd, vt, k, rfl, H.dims.but hl hk (by omega) (by omega), H.low, H.le, by omega, H.data.but hl hk (by omega) (by omega)⟩
theorem shape_Fill {vd : AV} {d : List Int} (hd : In h ints d [vd]) (hok : dimsOk d = true) {n : Int} (hn : -9223372036854775808 ≤ n ∧ n ≤ 9223372036854775807) (b : Nat) (hb : b ≤ h.length) :
    WP (call prog b 136 [vd, .int .i64 n] h) fun r => Old h.length h r.2 ∧ ∃ v, r.1 = .tup [v, .int .i64 0] ∧ TenAt h.length r.2 (d, List.replicate (prodI d).toNat n) v := by
  obtain ⟨p1, p2, p3⟩ := dimsOk_prod hok
  refine wp_enter (fn := C.shape_Fill) rfl ?_
  dsimp only [bodyN, C.shape_Fill, C.shape_Fill_l0]; simp
  generalize hh : h ++ [AObj.cells 0 1 [AV.nil, AV.nil]] = h1
  have o1 : Old h.length h h1 := hh ▸ Old.app
  have l1 : h1.length = h.length + 1 := by rw [← hh]; simp
  have r1 : Box h1 h.length [AV.nil, AV.nil] := by rw [← hh]; simp [Box]
  rw [callK_eq (shape_May (In.old o1 hd) _), hok]
  try simp
  refine wp_call (shape_New (In.old o1 hd) hok b (by omega)) fun v2 h2 ⟨o2, T2⟩ => ?_
  simp only at o2 T2
  have l2 := o2.1
  try simp
  refine wp_initT T2 (by omega) fun vD vT k h3 e3 o3 lt3 B3 => ?_
  subst e3
  have l3 := o3.1
  have kl := B3.kl
  have kle := B3.le
  have r3 := (r1.old o2 r1.lt).old o3 (by have := r1.lt; omega)
  try simp
  refine wq_ptr B3.box rfl ?_
  try simp
  refine wq_len B3.in ?_
  try simp
  refine wp_loop (I := fun m e h' => Old k h3 h' ∧ h'.length = h3.length ∧ ∃ (i : Nat) (D : List Int), e = (ea 1 (.int .i64 n) <| ea 4 (.ptr h.length 0 0) <| ea 6 (.ptr h2.length 0 0) <| ea 16 (.int .i64 ((prodI d).toNat : Nat)) <| ea 17 (.int .i64 (i : Nat)) e0) ∧ i + m = (prodI d).toNat ∧ TB h1.length k h2.length d D vD vT h' ∧ D.length = (prodI d).toNat ∧ ∀ q, q < (prodI d).toNat → D[q]? = some (if q < i then n else 0)) ?_ ⟨Old.refl (by omega), rfl, 0, _, by simp, Nat.zero_add _, B3, by simp, fun q hq => by simp [List.getElem?_replicate, hq]⟩
  rintro N m e h4 ⟨o4, l4, i, D, rfl, him, B4, hD, hDq⟩ next
  have r4 := r3.old o4 (by have := r1.lt; omega)
  dsimp only [C.shape_Fill_b0]; simp
  refine wp_dec (fun hi => ?_) fun hi => ?_
  · have hi : i < (prodI d).toNat := by omega
    have w1 := succ64 (i := i) (n := 64) (by omega) (by omega)
    try simp
    refine wq_ptr B4.box rfl ?_
    try simp
    refine wq_idx B4.in (by rfl) (by omega) (by omega) ?_
    try simp
    refine wp_putT B4 hn (by omega) (by omega) (by omega) fun h5 o5 l5 _ B5 => ?_
    simp [w1]
    refine next (m - 1) _ _ (by omega) ⟨o4.trans o5, by omega, i + 1, _, by simp, by omega, B5, by simp [hD], fun q hq => ?_⟩
    rw [List.getElem?_set]
    by_cases c : i = q
    · subst c
      rw [if_pos rfl, if_pos (by omega), if_pos (by omega)]
    · rw [if_neg c, hDq q hq]
      by_cases c2 : q < i
      · rw [if_pos c2, if_pos (by omega)]
      · rw [if_neg c2, if_neg (by omega)]
  · have ei : i = (prodI d).toNat := by omega
    try simp
    refine wq_ptrs B4.box (by simp) ?_
    try simp
    refine wq_put r4 (by omega) (vs := [vD, vT]) (fun _ => by rw [cellsK_agg]) (by rfl) (by simp) fun h6 l6 k6 b6 => ?_
    simp at b6
    try simp
    refine wq_ptrs b6 (by simp) ?_
    try simp
    have eD : D = List.replicate (prodI d).toNat n := by
      apply List.ext_getElem?
      intro q
      rcases Nat.lt_or_ge q (prodI d).toNat with hq | hq
      · rw [hDq q hq, if_pos (by omega), List.getElem?_replicate, if_pos hq]
      · rw [List.getElem?_eq_none (by omega), List.getElem?_eq_none (by simp; omega)]
    rw [eD] at B4
    exact wp_some ⟨(o1.trans ((o2.trans ((o3.mono (by omega)).trans (o4.mono (by omega)))).mono (by omega))).trans (old_put l6 k6 (by omega) (by omega)), _, rfl, (B4.told l6 k6 (by omega)).mono (by omega)⟩
end
end Go.AM

/- The page's tensors: copies, fills, number by number. -/
namespace Go.AM
set_option maxRecDepth 20000
set_option maxHeartbeats 1000000
attribute [local simp] layAt
attribute [local irreducible] lenK sliceK idxK fldK cutK storeK appK copyK clearK mapAtK callK loopH readK readK1 guardK grdK fnK nilK fieldK extrK strK nextK joinK iteK intK boolK cellsK castK castL castEnv binK unK intBin layParts execN runOpsN runItemsN denN call loop blockK
section
variable {R : Type} {Q : R → Prop} {h : Heap}
theorem ref0_CopyTensor {t : tensor.den} {cs : List AV} (ht : In h tensor t cs) (hd : t.1.length ≤ 1000000) (hl : t.2.length ≤ 1000000) (b : Nat) (hb : b ≤ h.length) : WP (call prog b 235 [.agg cs] h) fun r => Old h.length h r.2 ∧ TenAt h.length r.2 t r.1 := by
  obtain ⟨vd, vt, rfl, hvd, hvt⟩ := holds_tensor ht
  refine wp_enter (fn := C.ref0_CopyTensor) rfl ?_
  dsimp only [bodyN, C.ref0_CopyTensor]; simp
  generalize hh : h ++ [AObj.cells 0 1 [vd, vt], AObj.cells 0 1 [AV.nil, AV.nil]] = h1
  have o1 : Old h.length h h1 := hh ▸ Old.app
  have l1 : h1.length = h.length + 2 := by rw [← hh]; simp
  have b1 : Box h1 h.length [vd, vt] := by rw [← hh]; simp [Box]
  have r1 : Box h1 (h.length + 1) [AV.nil, AV.nil] := by rw [← hh]; simp [Box]
  refine wq_ptrs b1 (by simp) ?_
  try simp
  refine wq_init (by omega) (by rfl) (by rfl) fun h2 o12 c2 lt2 => ?_
  have l2 := o12.1
  have b2 := b1.old o12 b1.lt
  have r2 := r1.old o12 r1.lt
  have o2 := o1.trans (o12.mono (by omega))
  try simp
  refine wq_ptr b2 rfl ?_
  try simp
  refine wp_call (ref0_CopyNumbers (In.old o2 hvd) (by omega) b (by omega)) fun v3 h3 ⟨o23, a3⟩ => ?_
  simp only at o23 a3
  have l3 := o23.1
  have c3 := c2.old o23 lt2
  have b3 := b2.old o23 b2.lt
  have r3 := r2.old o23 r2.lt
  have lb2 := b2.lt
  have lr2 := r2.lt
  have o3 := o2.trans (o23.mono (by omega))
  try simp
  refine wq_put c3 (by omega) (vs := [v3]) (fun K => cells_one a3.one K) rfl (by simp) fun h4 l4 k4 c4 => ?_
  simp at c4
  have b4 : Box h4 h.length _ := (k4 _ (by omega)).trans b3
  have r4 : Box h4 (h.length + 1) _ := (k4 _ (by omega)).trans r3
  have o4 := o3.trans (old_put l4 k4 (by omega) (by omega))
  have a4 := a3.but l4 k4 (by omega) (by omega)
  try simp
  refine wq_ptr b4 rfl ?_
  try simp
  refine wp_call (ref0_CopyNumbers (In.old o4 hvt) (by omega) b (by omega)) fun v5 h5 ⟨o45, a5⟩ => ?_
  simp only at o45 a5
  have l5 := o45.1
  have c5 := c4.old o45 c4.lt
  have r5 := r4.old o45 r4.lt
  have a45 := a4.keep o45
  try simp
  refine wq_put c5 (by omega) (vs := [v5]) (fun K => cells_one a5.one K) rfl (by simp) fun h6 l6 k6 c6 => ?_
  simp at c6
  have r6 : Box h6 (h.length + 1) _ := (k6 _ (by omega)).trans r5
  have a46 := a45.but l6 k6 (by omega) (by omega)
  have a56 := a5.but l6 k6 (by omega) (by omega)
  try simp
  refine wq_ptrs c6 (by simp) ?_
  try simp
  refine wq_put r6 (by omega) (vs := [v3, v5]) (fun _ => by rw [cellsK_agg]) (by rfl) (by simp) fun h7 l7 k7 c7 => ?_
  simp at c7
  try simp
  refine wq_ptrs c7 (by simp) ?_
  try simp
  refine wp_some ⟨(o4.trans (o45.mono (by omega))).trans ((old_put l6 k6 (by omega) (by omega)).trans (old_put l7 k7 (by omega) (by omega))), v3, v5, h4.length, rfl, (a46.but l7 k7 (by omega) (by omega)).mono (by omega) (by omega), fun j hj => ?_, by omega, by simp only; omega, a56.but l7 k7 (by omega) (by omega)⟩
  obtain ⟨_, ac, _⟩ := a3
  have := (ac.lt hj).2
  omega
theorem ref1_Fill {vd : AV} {d : List Int} (hd : In h ints d [vd]) (hok : dimsOk d = true) {n : Int} (hn : -9223372036854775808 ≤ n ∧ n ≤ 9223372036854775807) (b : Nat) (hb : b ≤ h.length) :
    WP (call prog b 240 [vd, .int .i64 n] h) fun r => Old h.length h r.2 ∧ TenAt h.length r.2 (d, List.replicate (prodI d).toNat n) r.1 := by
  obtain ⟨p1, p2, p3⟩ := dimsOk_prod hok
  have dl := dimsOk_len hok
  refine wp_enter (fn := C.ref1_Fill) rfl ?_
  dsimp only [bodyN, C.ref1_Fill, C.ref1_Fill_l0]; simp
  generalize hh : h ++ [AObj.cells 0 1 [AV.nil, AV.nil]] = h1
  have o1 : Old h.length h h1 := hh ▸ Old.app
  have l1 : h1.length = h.length + 1 := by rw [← hh]; simp
  have r1 : Box h1 h.length [AV.nil, AV.nil] := by rw [← hh]; simp [Box]
  refine wp_call (ref0_CopyNumbers (In.old o1 hd) (by omega) b (by omega)) fun v2 h2 ⟨o2, a2⟩ => ?_
  simp only at o2 a2
  have l2 := o2.1
  have r2 := r1.old o2 r1.lt
  have lr2 := r2.lt
  try simp
  refine wp_cells a2.one ?_
  try simp
  refine wq_init (by omega) (by rfl) (by rfl) fun h3 o3 b3 lt3 => ?_
  have l3 := o3.1
  have r3 := r2.old o3 r2.lt
  have a3 := a2.keep o3
  have v2b : ∀ j, v2.blk = some j → j < h2.length := fun j hj => by
    obtain ⟨_, ac, _⟩ := a2
    exact (ac.lt hj).2
  have o13 := o1.trans ((o2.trans (o3.mono l2)).mono (by omega))
  have hd3 := Holds.old o13 (Nat.le_refl _) hd
  try simp
  refine wp_loop (I := fun m e h' => Old h2.length h3 h' ∧ h2.length + 1 ≤ h'.length ∧ ∃ (i : Nat) (va : AV), e = (ea 0 vd <| ea 1 (.int .i64 n) <| ea 4 (.ptr h.length 0 0) <| ea 5 (.ptr h2.length 0 0) <| ea 6 (.int .i64 (i : Nat)) e0) ∧ i + m = (prodI d).toNat ∧ Box h' h2.length [v2, va] ∧ AccP (h2.length + 1) (h2.length + 1) h' int va (List.replicate i n)) ?_ ⟨Old.refl (by omega), by omega, 0, .nil, rfl, Nat.zero_add _, by simpa using b3, AccP.nil⟩
  rintro N m e h4 ⟨o4, l4, i, va, rfl, him, b4, acc⟩ next
  have r4 := r3.old o4 (by omega)
  have hd4 := Holds.old o4 (by omega) hd3
  dsimp only [C.ref1_Fill_b0]; simp
  rw [callK_eq (ref1_Cells hd4 _), p1]
  try simp
  refine wp_dec (fun hi => ?_) fun hi => ?_
  · have w1 := succ64 (i := i) (n := 64) (by omega) (by omega)
    try simp
    refine wq_ptr b4 rfl ?_
    try simp
    refine wp_pushI acc hn (by omega) l4 (by simp; omega) fun v5 h5 o5 a5 => ?_
    have l5 := o5.1
    have b5 := b4.old o5 (by omega)
    try simp
    refine wq_put b5 (by omega) (vs := [v5]) (fun K => cells_one a5.one K) rfl (by simp) fun h6 l6 k6 b6 => ?_
    simp at b6
    simp [w1]
    exact next (m - 1) _ _ (by omega) ⟨o4.trans ((o5.mono (by omega)).trans (old_put l6 k6 (by omega) (by omega))), by omega, i + 1, v5, by simp, by omega, b6, by rw [List.replicate_succ']; exact a5.but l6 k6 (by omega) (by omega)⟩
  · have ei : i = (prodI d).toNat := by omega
    subst ei
    try simp
    refine wq_ptrs b4 (by simp) ?_
    try simp
    refine wq_put r4 (by omega) (vs := [v2, va]) (fun _ => by rw [cellsK_agg]) (by rfl) (by simp) fun h6 l6 k6 b6 => ?_
    simp at b6
    try simp
    refine wq_ptrs b6 (by simp) ?_
    try simp
    have a4 := a3.flatO o4 v2b
    refine wp_some ⟨(o13.trans (o4.mono (by omega))).trans (old_put l6 k6 (by omega) (by omega)), v2, va, h2.length + 1, rfl, (a4.but l6 k6 (by omega) (by omega)).mono (by omega) (by omega), fun j hj => Nat.lt_succ_of_lt (v2b j hj), by omega, by simp only; omega, acc.but l6 k6 (by omega) (by omega)⟩
end
end Go.AM

/- The page's tensors: number by number; what goes through. -/
namespace Go.AM
set_option maxRecDepth 20000
set_option maxHeartbeats 1000000
attribute [local simp] layAt
attribute [local irreducible] lenK sliceK idxK fldK cutK storeK appK copyK clearK mapAtK callK loopH readK readK1 guardK grdK fnK nilK fieldK extrK strK nextK joinK iteK intK boolK cellsK castK castL castEnv binK unK intBin layParts execN runOpsN runItemsN denN call loop blockK
/-- What goes through where the first one's are above 0. -/
def stepV (x y : Int) : Int := if 0 < x then y else 0
def stepL (a b : List Int) : List Int := List.zipWith stepV a b
section
variable {R : Type} {Q : R → Prop} {h : Heap}
theorem ref1_Each0 {s t : tensor.den} {cs ct : List AV} (hs : In h tensor s cs) (ht : In h tensor t ct) (ks : tenOk s = true) (hl : t.2.length = s.2.length) (b : Nat) (hb : b ≤ h.length) :
    WP (call prog b 246 [.agg cs, .agg ct, .int .i64 0] h) fun r => Old h.length h r.2 ∧ TenAt h.length r.2 (s.1, List.zipWith (fun x y => w64 (x + y)) s.2 t.2) r.1 := by
  obtain ⟨sd, st, rfl, hsd, hst⟩ := holds_tensor hs
  obtain ⟨td, tt, rfl, htd, htt⟩ := holds_tensor ht
  obtain ⟨s1, s2, s3, s4, s5⟩ := ten_parts ks
  refine wp_enter (fn := C.ref1_Each) rfl ?_
  dsimp only [bodyN, C.ref1_Each, C.ref1_Each_l0]; simp
  generalize hh : h ++ [AObj.cells 0 1 [sd, st], AObj.cells 0 1 [td, tt], AObj.cells 0 1 [AV.nil, AV.nil]] = h1
  have o1 : Old h.length h h1 := hh ▸ Old.app
  have l1 : h1.length = h.length + 3 := by rw [← hh]; simp
  have b1 : Box h1 h.length [sd, st] := by rw [← hh]; simp [Box]
  have c1 : Box h1 (h.length + 1) [td, tt] := by rw [← hh]; simp [Box]
  have r1 : Box h1 (h.length + 2) [AV.nil, AV.nil] := by rw [← hh]; simp [Box]
  refine wq_ptrs b1 (by simp) ?_
  try simp
  refine wp_call (ref0_CopyTensor (In.old o1 hs) (by omega) (by omega) b (by omega)) fun v2 h2 ⟨o12, T2⟩ => ?_
  simp only at o12 T2
  have l2 := o12.1
  try simp
  refine wp_initT T2 (by omega) fun vD vT k h3 e3 o23 lt3 B3 => ?_
  subst e3
  have l3 := o23.1
  have kl := B3.kl
  have kle := B3.le
  have o13 := o12.trans (o23.mono l2)
  have b3 := b1.old o13 b1.lt
  have c3 := c1.old o13 c1.lt
  have r3 := r1.old o13 r1.lt
  have o3 := o1.trans (o13.mono (by omega))
  have lr1 := r1.lt
  try simp
  refine wp_loop (I := fun m e h' => Old k h3 h' ∧ h'.length = h3.length ∧ ∃ (i : Nat) (D : List Int), e = (ea 2 (.int .i64 0) <| ea 3 (.ptr h.length 0 0) <| ea 4 (.ptr (h.length + 1) 0 0) <| ea 6 (.ptr (h.length + 2) 0 0) <| ea 7 (.ptr h2.length 0 0) <| ea 8 (.int .i64 (i : Nat)) e0) ∧ i + m = s.2.length ∧ TB h1.length k h2.length s.1 D vD vT h' ∧ D.length = s.2.length ∧ ∀ q, q < s.2.length → D[q]? = some (if q < i then w64 (s.2.getD q 0 + t.2.getD q 0) else s.2.getD q 0)) ?_ ⟨Old.refl (by omega), rfl, 0, _, rfl, Nat.zero_add _, B3, rfl, fun q hq => by rw [if_neg (by omega), List.getElem?_eq_getElem hq, List.getD_eq_getElem?_getD, List.getElem?_eq_getElem hq]; rfl⟩
  rintro N m e h4 ⟨o4, l4, i, D, rfl, him, B4, hD, hDq⟩ next
  have b4 := b3.old o4 (by have := b1.lt; omega)
  have c4 := c3.old o4 (by have := c1.lt; omega)
  have r4 := r3.old o4 (by omega)
  have o5 := o3.trans (o4.mono (by omega))
  have hst4 := In.old o5 hst
  have htt4 := In.old o5 htt
  dsimp only [C.ref1_Each_b0]; simp
  refine wq_ptr B4.box rfl ?_
  try simp
  refine wq_len B4.in ?_
  simp [hD]
  refine wp_dec (fun hi => ?_) fun hi => ?_
  · have w1 := succ64 (i := i) (n := 64) (by omega) (by omega)
    have hit : i < t.2.length := by omega
    try simp
    refine wq_ptr B4.box rfl ?_
    try simp
    refine wq_ptr b4 rfl ?_
    try simp
    refine wq_idx hst4 (by rfl) (by omega) (by omega) ?_
    try simp
    refine wq_int hst4 hi ?_
    try simp
    refine wq_ptr c4 rfl ?_
    try simp
    refine wq_idx htt4 (by rfl) (by omega) (by omega) ?_
    try simp
    refine wq_int htt4 hit ?_
    try simp
    refine wq_idx B4.in (by rfl) (by omega) (by omega) ?_
    try simp
    refine wp_putT B4 (wrap_range _) (by omega) (by omega) (by omega) fun h5 o45 l5 _ B5 => ?_
    simp [w1]
    refine next (m - 1) _ _ (by omega) ⟨o4.trans o45, by omega, i + 1, _, by simp, by omega, B5, by simp [hD], fun q hq => ?_⟩
    rw [List.getElem?_set]
    by_cases c : i = q
    · subst c
      rw [if_pos rfl, if_pos (by omega), if_pos (by omega), List.getD_eq_getElem?_getD, List.getD_eq_getElem?_getD, List.getElem?_eq_getElem hi, List.getElem?_eq_getElem hit]
      rfl
    · rw [if_neg c, hDq q hq]
      by_cases c2 : q < i
      · rw [if_pos c2, if_pos (by omega)]
      · rw [if_neg c2, if_neg (by omega)]
  · have ei : i = s.2.length := by omega
    try simp
    refine wq_ptrs B4.box (by simp) ?_
    try simp
    refine wq_put r4 (by omega) (vs := [vD, vT]) (fun _ => by rw [cellsK_agg]) (by rfl) (by simp) fun h6 l6 k6 b6 => ?_
    simp at b6
    try simp
    refine wq_ptrs b6 (by simp) ?_
    try simp
    have eD : D = List.zipWith (fun x y => w64 (x + y)) s.2 t.2 := by
      apply List.ext_getElem?
      intro q
      rcases Nat.lt_or_ge q s.2.length with hq | hq
      · rw [hDq q hq, if_pos (by omega), List.getElem?_zipWith, List.getElem?_eq_getElem hq, List.getElem?_eq_getElem (by omega), List.getD_eq_getElem?_getD, List.getD_eq_getElem?_getD, List.getElem?_eq_getElem hq, List.getElem?_eq_getElem (by omega)]
        rfl
      · rw [List.getElem?_eq_none (by omega), List.getElem?_eq_none (by simp; omega)]
    rw [eD] at B4
    exact wp_some ⟨o5.trans (old_put l6 k6 (by omega) (by omega)), (B4.told l6 k6 (by omega)).mono (by omega)⟩
theorem ref1_Each1 {s t : tensor.den} {cs ct : List AV} (hs : In h tensor s cs) (ht : In h tensor t ct) (ks : tenOk s = true) (hl : t.2.length = s.2.length) (b : Nat) (hb : b ≤ h.length) :
    WP (call prog b 246 [.agg cs, .agg ct, .int .i64 1] h) fun r => Old h.length h r.2 ∧ TenAt h.length r.2 (s.1, List.zipWith (fun x y => w64 (x - y)) s.2 t.2) r.1 := by
  obtain ⟨sd, st, rfl, hsd, hst⟩ := holds_tensor hs
  obtain ⟨td, tt, rfl, htd, htt⟩ := holds_tensor ht
  obtain ⟨s1, s2, s3, s4, s5⟩ := ten_parts ks
  refine wp_enter (fn := C.ref1_Each) rfl ?_
  dsimp only [bodyN, C.ref1_Each, C.ref1_Each_l0]; simp
  generalize hh : h ++ [AObj.cells 0 1 [sd, st], AObj.cells 0 1 [td, tt], AObj.cells 0 1 [AV.nil, AV.nil]] = h1
  have o1 : Old h.length h h1 := hh ▸ Old.app
  have l1 : h1.length = h.length + 3 := by rw [← hh]; simp
  have b1 : Box h1 h.length [sd, st] := by rw [← hh]; simp [Box]
  have c1 : Box h1 (h.length + 1) [td, tt] := by rw [← hh]; simp [Box]
  have r1 : Box h1 (h.length + 2) [AV.nil, AV.nil] := by rw [← hh]; simp [Box]
  refine wq_ptrs b1 (by simp) ?_
  try simp
  refine wp_call (ref0_CopyTensor (In.old o1 hs) (by omega) (by omega) b (by omega)) fun v2 h2 ⟨o12, T2⟩ => ?_
  simp only at o12 T2
  have l2 := o12.1
  try simp
  refine wp_initT T2 (by omega) fun vD vT k h3 e3 o23 lt3 B3 => ?_
  subst e3
  have l3 := o23.1
  have kl := B3.kl
  have kle := B3.le
  have o13 := o12.trans (o23.mono l2)
  have b3 := b1.old o13 b1.lt
  have c3 := c1.old o13 c1.lt
  have r3 := r1.old o13 r1.lt
  have o3 := o1.trans (o13.mono (by omega))
  have lr1 := r1.lt
  try simp
  refine wp_loop (I := fun m e h' => Old k h3 h' ∧ h'.length = h3.length ∧ ∃ (i : Nat) (D : List Int), e = (ea 2 (.int .i64 1) <| ea 3 (.ptr h.length 0 0) <| ea 4 (.ptr (h.length + 1) 0 0) <| ea 6 (.ptr (h.length + 2) 0 0) <| ea 7 (.ptr h2.length 0 0) <| ea 8 (.int .i64 (i : Nat)) e0) ∧ i + m = s.2.length ∧ TB h1.length k h2.length s.1 D vD vT h' ∧ D.length = s.2.length ∧ ∀ q, q < s.2.length → D[q]? = some (if q < i then w64 (s.2.getD q 0 - t.2.getD q 0) else s.2.getD q 0)) ?_ ⟨Old.refl (by omega), rfl, 0, _, rfl, Nat.zero_add _, B3, rfl, fun q hq => by rw [if_neg (by omega), List.getElem?_eq_getElem hq, List.getD_eq_getElem?_getD, List.getElem?_eq_getElem hq]; rfl⟩
  rintro N m e h4 ⟨o4, l4, i, D, rfl, him, B4, hD, hDq⟩ next
  have b4 := b3.old o4 (by have := b1.lt; omega)
  have c4 := c3.old o4 (by have := c1.lt; omega)
  have r4 := r3.old o4 (by omega)
  have o5 := o3.trans (o4.mono (by omega))
  have hst4 := In.old o5 hst
  have htt4 := In.old o5 htt
  dsimp only [C.ref1_Each_b0]; simp
  refine wq_ptr B4.box rfl ?_
  try simp
  refine wq_len B4.in ?_
  simp [hD]
  refine wp_dec (fun hi => ?_) fun hi => ?_
  · have w1 := succ64 (i := i) (n := 64) (by omega) (by omega)
    have hit : i < t.2.length := by omega
    try simp
    refine wq_ptr B4.box rfl ?_
    try simp
    refine wq_ptr b4 rfl ?_
    try simp
    refine wq_idx hst4 (by rfl) (by omega) (by omega) ?_
    try simp
    refine wq_int hst4 hi ?_
    try simp
    refine wq_ptr c4 rfl ?_
    try simp
    refine wq_idx htt4 (by rfl) (by omega) (by omega) ?_
    try simp
    refine wq_int htt4 hit ?_
    try simp
    refine wq_idx B4.in (by rfl) (by omega) (by omega) ?_
    try simp
    refine wp_putT B4 (wrap_range _) (by omega) (by omega) (by omega) fun h5 o45 l5 _ B5 => ?_
    simp [w1]
    refine next (m - 1) _ _ (by omega) ⟨o4.trans o45, by omega, i + 1, _, by simp, by omega, B5, by simp [hD], fun q hq => ?_⟩
    rw [List.getElem?_set]
    by_cases c : i = q
    · subst c
      rw [if_pos rfl, if_pos (by omega), if_pos (by omega), List.getD_eq_getElem?_getD, List.getD_eq_getElem?_getD, List.getElem?_eq_getElem hi, List.getElem?_eq_getElem hit]
      rfl
    · rw [if_neg c, hDq q hq]
      by_cases c2 : q < i
      · rw [if_pos c2, if_pos (by omega)]
      · rw [if_neg c2, if_neg (by omega)]
  · have ei : i = s.2.length := by omega
    try simp
    refine wq_ptrs B4.box (by simp) ?_
    try simp
    refine wq_put r4 (by omega) (vs := [vD, vT]) (fun _ => by rw [cellsK_agg]) (by rfl) (by simp) fun h6 l6 k6 b6 => ?_
    simp at b6
    try simp
    refine wq_ptrs b6 (by simp) ?_
    try simp
    have eD : D = List.zipWith (fun x y => w64 (x - y)) s.2 t.2 := by
      apply List.ext_getElem?
      intro q
      rcases Nat.lt_or_ge q s.2.length with hq | hq
      · rw [hDq q hq, if_pos (by omega), List.getElem?_zipWith, List.getElem?_eq_getElem hq, List.getElem?_eq_getElem (by omega), List.getD_eq_getElem?_getD, List.getD_eq_getElem?_getD, List.getElem?_eq_getElem hq, List.getElem?_eq_getElem (by omega)]
        rfl
      · rw [List.getElem?_eq_none (by omega), List.getElem?_eq_none (by simp; omega)]
    rw [eD] at B4
    exact wp_some ⟨o5.trans (old_put l6 k6 (by omega) (by omega)), (B4.told l6 k6 (by omega)).mono (by omega)⟩
theorem ref1_Each2 {s t : tensor.den} {cs ct : List AV} (hs : In h tensor s cs) (ht : In h tensor t ct) (ks : tenOk s = true) (hl : t.2.length = s.2.length) (b : Nat) (hb : b ≤ h.length) :
    WP (call prog b 246 [.agg cs, .agg ct, .int .i64 2] h) fun r => Old h.length h r.2 ∧ TenAt h.length r.2 (s.1, List.zipWith (fun x y => w64 (x * y)) s.2 t.2) r.1 := by
  obtain ⟨sd, st, rfl, hsd, hst⟩ := holds_tensor hs
  obtain ⟨td, tt, rfl, htd, htt⟩ := holds_tensor ht
  obtain ⟨s1, s2, s3, s4, s5⟩ := ten_parts ks
  refine wp_enter (fn := C.ref1_Each) rfl ?_
  dsimp only [bodyN, C.ref1_Each, C.ref1_Each_l0]; simp
  generalize hh : h ++ [AObj.cells 0 1 [sd, st], AObj.cells 0 1 [td, tt], AObj.cells 0 1 [AV.nil, AV.nil]] = h1
  have o1 : Old h.length h h1 := hh ▸ Old.app
  have l1 : h1.length = h.length + 3 := by rw [← hh]; simp
  have b1 : Box h1 h.length [sd, st] := by rw [← hh]; simp [Box]
  have c1 : Box h1 (h.length + 1) [td, tt] := by rw [← hh]; simp [Box]
  have r1 : Box h1 (h.length + 2) [AV.nil, AV.nil] := by rw [← hh]; simp [Box]
  refine wq_ptrs b1 (by simp) ?_
  try simp
  refine wp_call (ref0_CopyTensor (In.old o1 hs) (by omega) (by omega) b (by omega)) fun v2 h2 ⟨o12, T2⟩ => ?_
  simp only at o12 T2
  have l2 := o12.1
  try simp
  refine wp_initT T2 (by omega) fun vD vT k h3 e3 o23 lt3 B3 => ?_
  subst e3
  have l3 := o23.1
  have kl := B3.kl
  have kle := B3.le
  have o13 := o12.trans (o23.mono l2)
  have b3 := b1.old o13 b1.lt
  have c3 := c1.old o13 c1.lt
  have r3 := r1.old o13 r1.lt
  have o3 := o1.trans (o13.mono (by omega))
  have lr1 := r1.lt
  try simp
  refine wp_loop (I := fun m e h' => Old k h3 h' ∧ h'.length = h3.length ∧ ∃ (i : Nat) (D : List Int), e = (ea 2 (.int .i64 2) <| ea 3 (.ptr h.length 0 0) <| ea 4 (.ptr (h.length + 1) 0 0) <| ea 6 (.ptr (h.length + 2) 0 0) <| ea 7 (.ptr h2.length 0 0) <| ea 8 (.int .i64 (i : Nat)) e0) ∧ i + m = s.2.length ∧ TB h1.length k h2.length s.1 D vD vT h' ∧ D.length = s.2.length ∧ ∀ q, q < s.2.length → D[q]? = some (if q < i then w64 (s.2.getD q 0 * t.2.getD q 0) else s.2.getD q 0)) ?_ ⟨Old.refl (by omega), rfl, 0, _, rfl, Nat.zero_add _, B3, rfl, fun q hq => by rw [if_neg (by omega), List.getElem?_eq_getElem hq, List.getD_eq_getElem?_getD, List.getElem?_eq_getElem hq]; rfl⟩
  rintro N m e h4 ⟨o4, l4, i, D, rfl, him, B4, hD, hDq⟩ next
  have b4 := b3.old o4 (by have := b1.lt; omega)
  have c4 := c3.old o4 (by have := c1.lt; omega)
  have r4 := r3.old o4 (by omega)
  have o5 := o3.trans (o4.mono (by omega))
  have hst4 := In.old o5 hst
  have htt4 := In.old o5 htt
  dsimp only [C.ref1_Each_b0]; simp
  refine wq_ptr B4.box rfl ?_
  try simp
  refine wq_len B4.in ?_
  simp [hD]
  refine wp_dec (fun hi => ?_) fun hi => ?_
  · have w1 := succ64 (i := i) (n := 64) (by omega) (by omega)
    have hit : i < t.2.length := by omega
    try simp
    refine wq_ptr B4.box rfl ?_
    try simp
    refine wq_ptr b4 rfl ?_
    try simp
    refine wq_idx hst4 (by rfl) (by omega) (by omega) ?_
    try simp
    refine wq_int hst4 hi ?_
    try simp
    refine wq_ptr c4 rfl ?_
    try simp
    refine wq_idx htt4 (by rfl) (by omega) (by omega) ?_
    try simp
    refine wq_int htt4 hit ?_
    try simp
    refine wq_idx B4.in (by rfl) (by omega) (by omega) ?_
    try simp
    refine wp_putT B4 (wrap_range _) (by omega) (by omega) (by omega) fun h5 o45 l5 _ B5 => ?_
    simp [w1]
    refine next (m - 1) _ _ (by omega) ⟨o4.trans o45, by omega, i + 1, _, by simp, by omega, B5, by simp [hD], fun q hq => ?_⟩
    rw [List.getElem?_set]
    by_cases c : i = q
    · subst c
      rw [if_pos rfl, if_pos (by omega), if_pos (by omega), List.getD_eq_getElem?_getD, List.getD_eq_getElem?_getD, List.getElem?_eq_getElem hi, List.getElem?_eq_getElem hit]
      rfl
    · rw [if_neg c, hDq q hq]
      by_cases c2 : q < i
      · rw [if_pos c2, if_pos (by omega)]
      · rw [if_neg c2, if_neg (by omega)]
  · have ei : i = s.2.length := by omega
    try simp
    refine wq_ptrs B4.box (by simp) ?_
    try simp
    refine wq_put r4 (by omega) (vs := [vD, vT]) (fun _ => by rw [cellsK_agg]) (by rfl) (by simp) fun h6 l6 k6 b6 => ?_
    simp at b6
    try simp
    refine wq_ptrs b6 (by simp) ?_
    try simp
    have eD : D = List.zipWith (fun x y => w64 (x * y)) s.2 t.2 := by
      apply List.ext_getElem?
      intro q
      rcases Nat.lt_or_ge q s.2.length with hq | hq
      · rw [hDq q hq, if_pos (by omega), List.getElem?_zipWith, List.getElem?_eq_getElem hq, List.getElem?_eq_getElem (by omega), List.getD_eq_getElem?_getD, List.getD_eq_getElem?_getD, List.getElem?_eq_getElem hq, List.getElem?_eq_getElem (by omega)]
        rfl
      · rw [List.getElem?_eq_none (by omega), List.getElem?_eq_none (by simp; omega)]
    rw [eD] at B4
    exact wp_some ⟨o5.trans (old_put l6 k6 (by omega) (by omega)), (B4.told l6 k6 (by omega)).mono (by omega)⟩
end
end Go.AM

/- What goes through; scaled. -/
namespace Go.AM
set_option maxRecDepth 20000
set_option maxHeartbeats 1000000
attribute [local simp] layAt
attribute [local irreducible] lenK sliceK idxK fldK cutK storeK appK copyK clearK mapAtK callK loopH readK readK1 guardK grdK fnK nilK fieldK extrK strK nextK joinK iteK intK boolK cellsK castK castL castEnv binK unK intBin layParts execN runOpsN runItemsN denN call loop blockK
section
variable {R : Type} {Q : R → Prop} {h : Heap}
theorem ref1_Scale {s : tensor.den} {cs : List AV} (hs : In h tensor s cs) (ks : tenOk s = true) (n : Int) (b : Nat) (hb : b ≤ h.length) :
    WP (call prog b 254 [.agg cs, .int .i64 n] h) fun r => Old h.length h r.2 ∧ TenAt h.length r.2 (s.1, scaleL s.2 n) r.1 := by
  obtain ⟨sd, st, rfl, hsd, hst⟩ := holds_tensor hs
  obtain ⟨s1, s2, s3, s4, s5⟩ := ten_parts ks
  refine wp_enter (fn := C.ref1_Scale) rfl ?_
  dsimp only [bodyN, C.ref1_Scale, C.ref1_Scale_l0]; simp
  generalize hh : h ++ [AObj.cells 0 1 [sd, st], AObj.cells 0 1 [AV.nil, AV.nil]] = h1
  have o1 : Old h.length h h1 := hh ▸ Old.app
  have l1 : h1.length = h.length + 2 := by rw [← hh]; simp
  have b1 : Box h1 h.length [sd, st] := by rw [← hh]; simp [Box]
  have r1 : Box h1 (h.length + 1) [AV.nil, AV.nil] := by rw [← hh]; simp [Box]
  refine wq_ptrs b1 (by simp) ?_
  try simp
  refine wp_call (ref0_CopyTensor (In.old o1 hs) (by omega) (by omega) b (by omega)) fun v2 h2 ⟨o12, T2⟩ => ?_
  simp only at o12 T2
  have l2 := o12.1
  try simp
  refine wp_initT T2 (by omega) fun vD vT k h3 e3 o23 lt3 B3 => ?_
  subst e3
  have l3 := o23.1
  have kl := B3.kl
  have kle := B3.le
  have o13 := o12.trans (o23.mono l2)
  have r3 := r1.old o13 r1.lt
  have o3 := o1.trans (o13.mono (by omega))
  have lr1 := r1.lt
  try simp
  refine wp_loop (I := fun m e h' => Old k h3 h' ∧ h'.length = h3.length ∧ ∃ (i : Nat) (D : List Int), e = (ea 1 (.int .i64 n) <| ea 4 (.ptr (h.length + 1) 0 0) <| ea 5 (.ptr h2.length 0 0) <| ea 6 (.int .i64 (i : Nat)) e0) ∧ i + m = s.2.length ∧ TB h1.length k h2.length s.1 D vD vT h' ∧ D.length = s.2.length ∧ ∀ q, q < s.2.length → D[q]? = some (if q < i then w64 (s.2.getD q 0 * n) else s.2.getD q 0)) ?_ ⟨Old.refl (by omega), rfl, 0, _, rfl, Nat.zero_add _, B3, rfl, fun q hq => by rw [if_neg (by omega), List.getElem?_eq_getElem hq, List.getD_eq_getElem?_getD, List.getElem?_eq_getElem hq]; rfl⟩
  rintro N m e h4 ⟨o4, l4, i, D, rfl, him, B4, hD, hDq⟩ next
  have r4 := r3.old o4 (by omega)
  have o5 := o3.trans (o4.mono (by omega))
  dsimp only [C.ref1_Scale_b0]; simp
  refine wq_ptr B4.box rfl ?_
  try simp
  refine wq_len B4.in ?_
  simp [hD]
  refine wp_dec (fun hi => ?_) fun hi => ?_
  · have w1 := succ64 (i := i) (n := 64) (by omega) (by omega)
    have hiD : i < D.length := by omega
    have eq := hDq i (by omega)
    rw [List.getElem?_eq_getElem hiD, if_neg (by omega)] at eq
    have eq := Option.some.inj eq
    try simp
    refine wq_ptr B4.box rfl ?_
    try simp
    refine wq_ptr B4.box rfl ?_
    try simp
    refine wq_idx B4.in (by rfl) (by omega) (by omega) ?_
    try simp
    refine wq_int B4.in hiD ?_
    try simp
    refine wq_idx B4.in (by rfl) (by omega) (by omega) ?_
    try simp
    refine wp_putT B4 (wrap_range _) (by omega) (by omega) (by omega) fun h5 o45 l5 _ B5 => ?_
    simp [w1]
    refine next (m - 1) _ _ (by omega) ⟨o4.trans o45, by omega, i + 1, _, by simp, by omega, B5, by simp [hD], fun q hq => ?_⟩
    rw [List.getElem?_set]
    by_cases c : i = q
    · subst c
      rw [if_pos rfl, if_pos (by omega), if_pos (by omega), eq]
    · rw [if_neg c, hDq q hq]
      by_cases c2 : q < i
      · rw [if_pos c2, if_pos (by omega)]
      · rw [if_neg c2, if_neg (by omega)]
  · have ei : i = s.2.length := by omega
    try simp
    refine wq_ptrs B4.box (by simp) ?_
    try simp
    refine wq_put r4 (by omega) (vs := [vD, vT]) (fun _ => by rw [cellsK_agg]) (by rfl) (by simp) fun h6 l6 k6 b6 => ?_
    simp at b6
    try simp
    refine wq_ptrs b6 (by simp) ?_
    try simp
    have eD : D = scaleL s.2 n := by
      apply List.ext_getElem?
      intro q
      rcases Nat.lt_or_ge q s.2.length with hq | hq
      · rw [hDq q hq, if_pos (by omega), scaleL, List.getElem?_map, List.getElem?_eq_getElem hq, List.getD_eq_getElem?_getD, List.getElem?_eq_getElem hq]
        rfl
      · rw [List.getElem?_eq_none (by omega), List.getElem?_eq_none (by simp [scaleL]; omega)]
    rw [eD] at B4
    exact wp_some ⟨o5.trans (old_put l6 k6 (by omega) (by omega)), (B4.told l6 k6 (by omega)).mono (by omega)⟩
theorem ref1_Gate {s t : tensor.den} {cs ct : List AV} (hs : In h tensor s cs) (ht : In h tensor t ct) (kt : tenOk t = true) (hl : s.2.length = t.2.length) (b : Nat) (hb : b ≤ h.length) :
    WP (call prog b 247 [.agg cs, .agg ct] h) fun r => Old h.length h r.2 ∧ TenAt h.length r.2 (t.1, stepL s.2 t.2) r.1 := by
  obtain ⟨sd, st, rfl, hsd, hst⟩ := holds_tensor hs
  obtain ⟨td, tt, rfl, htd, htt⟩ := holds_tensor ht
  obtain ⟨s1, s2, s3, s4, s5⟩ := ten_parts kt
  refine wp_enter (fn := C.ref1_Gate) rfl ?_
  dsimp only [bodyN, C.ref1_Gate, C.ref1_Gate_l0]; simp
  generalize hh : h ++ [AObj.cells 0 1 [sd, st], AObj.cells 0 1 [td, tt], AObj.cells 0 1 [AV.nil, AV.nil]] = h1
  have o1 : Old h.length h h1 := hh ▸ Old.app
  have l1 : h1.length = h.length + 3 := by rw [← hh]; simp
  have b1 : Box h1 h.length [sd, st] := by rw [← hh]; simp [Box]
  have c1 : Box h1 (h.length + 1) [td, tt] := by rw [← hh]; simp [Box]
  have r1 : Box h1 (h.length + 2) [AV.nil, AV.nil] := by rw [← hh]; simp [Box]
  refine wq_ptrs c1 (by simp) ?_
  try simp
  refine wp_call (ref0_CopyTensor (In.old o1 ht) (by omega) (by omega) b (by omega)) fun v2 h2 ⟨o12, T2⟩ => ?_
  simp only at o12 T2
  have l2 := o12.1
  try simp
  refine wp_initT T2 (by omega) fun vD vT k h3 e3 o23 lt3 B3 => ?_
  subst e3
  have l3 := o23.1
  have kl := B3.kl
  have kle := B3.le
  have o13 := o12.trans (o23.mono l2)
  have b3 := b1.old o13 b1.lt
  have c3 := c1.old o13 c1.lt
  have r3 := r1.old o13 r1.lt
  have o3 := o1.trans (o13.mono (by omega))
  have lr1 := r1.lt
  try simp
  refine wp_loop (I := fun m e h' => Old k h3 h' ∧ h'.length = h3.length ∧ ∃ (i : Nat) (D : List Int), e = (ea 2 (.ptr h.length 0 0) <| ea 4 (.ptr (h.length + 2) 0 0) <| ea 5 (.ptr h2.length 0 0) <| ea 6 (.int .i64 (i : Nat)) e0) ∧ i + m = t.2.length ∧ TB h1.length k h2.length t.1 D vD vT h' ∧ D.length = t.2.length ∧ ∀ q, q < t.2.length → D[q]? = some (if q < i then stepV (s.2.getD q 0) (t.2.getD q 0) else t.2.getD q 0)) ?_ ⟨Old.refl (by omega), rfl, 0, _, rfl, Nat.zero_add _, B3, rfl, fun q hq => by rw [if_neg (by omega), List.getElem?_eq_getElem hq, List.getD_eq_getElem?_getD, List.getElem?_eq_getElem hq]; rfl⟩
  rintro N m e h4 ⟨o4, l4, i, D, rfl, him, B4, hD, hDq⟩ next
  have b4 := b3.old o4 (by have := b1.lt; omega)
  have r4 := r3.old o4 (by omega)
  have o5 := o3.trans (o4.mono (by omega))
  have hst4 := In.old o5 hst
  dsimp only [C.ref1_Gate_b0]; simp
  refine wq_ptr B4.box rfl ?_
  try simp
  refine wq_len B4.in ?_
  simp [hD]
  refine wp_dec (fun hi => ?_) fun hi => ?_
  · have w1 := succ64 (i := i) (n := 64) (by omega) (by omega)
    have his : i < s.2.length := by omega
    have gs : s.2.getD i 0 = s.2[i] := by rw [List.getD_eq_getElem?_getD, List.getElem?_eq_getElem his]; rfl
    try simp
    refine wq_ptr b4 rfl ?_
    try simp
    refine wq_idx hst4 (by rfl) (by omega) (by omega) ?_
    try simp
    refine wq_int hst4 his ?_
    try simp
    refine wp_dec (fun hz => ?_) fun hz => ?_
    · try simp
      refine wq_ptr B4.box rfl ?_
      try simp
      refine wq_idx B4.in (by rfl) (by omega) (by omega) ?_
      try simp
      refine wp_putT B4 (x := 0) (by omega) (by omega) (by omega) (by omega) fun h5 o45 l5 _ B5 => ?_
      simp [w1]
      refine next (m - 1) _ _ (by omega) ⟨o4.trans o45, by omega, i + 1, _, by simp, by omega, B5, by simp [hD], fun q hq => ?_⟩
      rw [List.getElem?_set]
      by_cases c : i = q
      · subst c
        rw [if_pos rfl, if_pos (by omega), if_pos (by omega), gs, stepV, if_neg (by omega)]
      · rw [if_neg c, hDq q hq]
        by_cases c2 : q < i
        · rw [if_pos c2, if_pos (by omega)]
        · rw [if_neg c2, if_neg (by omega)]
    · simp [w1]
      refine next (m - 1) _ _ (by omega) ⟨o4, by omega, i + 1, D, by simp, by omega, B4, hD, fun q hq => ?_⟩
      rw [hDq q hq]
      by_cases c : i = q
      · subst c
        rw [if_neg (by omega), if_pos (by omega), gs, stepV, if_pos (by omega)]
      · by_cases c2 : q < i
        · rw [if_pos c2, if_pos (by omega)]
        · rw [if_neg c2, if_neg (by omega)]
  · have ei : i = t.2.length := by omega
    try simp
    refine wq_ptrs B4.box (by simp) ?_
    try simp
    refine wq_put r4 (by omega) (vs := [vD, vT]) (fun _ => by rw [cellsK_agg]) (by rfl) (by simp) fun h6 l6 k6 b6 => ?_
    simp at b6
    try simp
    refine wq_ptrs b6 (by simp) ?_
    try simp
    have eD : D = stepL s.2 t.2 := by
      apply List.ext_getElem?
      intro q
      rcases Nat.lt_or_ge q t.2.length with hq | hq
      · rw [hDq q hq, if_pos (by omega), stepL, List.getElem?_zipWith, List.getElem?_eq_getElem hq, List.getElem?_eq_getElem (by omega), List.getD_eq_getElem?_getD, List.getD_eq_getElem?_getD, List.getElem?_eq_getElem hq, List.getElem?_eq_getElem (by omega)]
        rfl
      · rw [List.getElem?_eq_none (by omega), List.getElem?_eq_none (by simp [stepL]; omega)]
    rw [eD] at B4
    exact wp_some ⟨o5.trans (old_put l6 k6 (by omega) (by omega)), (B4.told l6 k6 (by omega)).mono (by omega)⟩
end
end Go.AM
