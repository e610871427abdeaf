/- The row: the law SlopeScale returns true for each argument, and its argument reads as it read before. No condition. -/
import Derived.Test.YtfdbegdgedhhcaaGreatRows
import Derived.Test.YtfdbegdgedhhcaaGreatAmEnter
import Derived.Test.YtfdbegdgedhhcaaGreatAmSeatOf
import Derived.Test.YtfdbegdgedhhcaaGreatAmFacts
import Derived.Test.YtfdbegdgedhhcaaGreatAmVSlopeScale
import Derived.WalkKit
import Derived.ProofKit
import Derived.OpenShut
import Derived.ShutString
import Derived.ChangeOld
import Derived.Below
import Derived.SizedLaws
import Derived.KernelRfl
import Derived.Carry
namespace Go.Proofs.YtfdbegdgedhhcaaGreat.slopeScale
open Go.ChangeShapes Go.WideShapes Go.ChangeAt Go.RowKit
set_option linter.all false
set_option maxRecDepth 100000
/-- The seat's numbers, and mine. -/
def table : List (Nat × Nat) := [(20, 223), (29, 36), (31, 213), (32, 214), (33, 215), (34, 216), (35, 218), (36, 231), (40, 232), (41, 233), (43, 88), (44, 0), (47, 235), (48, 236), (49, 237), (50, 238), (51, 239), (52, 100), (53, 96), (54, 65), (55, 63), (56, 25), (57, 40), (58, 240), (59, 89), (60, 90), (61, 68), (62, 241), (63, 243), (64, 242), (65, 41), (66, 58), (67, 59), (70, 5), (71, 120), (72, 121), (73, 245), (74, 122), (75, 246), (76, 247), (77, 248), (78, 249), (79, 66), (80, 78), (81, 101), (82, 102), (83, 61), (84, 118), (85, 119), (86, 123), (87, 97), (88, 103), (89, 104), (90, 105), (91, 106), (92, 80), (93, 250), (97, 69), (98, 135), (99, 152), (100, 153), (101, 157), (102, 251), (103, 158), (104, 252), (105, 253), (106, 62), (107, 98), (108, 133), (109, 134), (110, 151), (111, 127), (112, 136), (113, 137), (114, 138), (115, 126), (116, 129), (117, 130), (118, 254), (119, 255), (120, 256), (121, 257), (122, 258), (125, 112), (126, 180), (127, 181), (128, 166), (129, 155), (130, 184), (131, 185), (132, 99), (133, 150), (134, 145), (135, 141), (136, 142), (137, 143), (138, 144), (139, 154), (140, 156), (141, 159), (142, 160), (143, 161), (144, 162), (145, 163), (146, 164), (147, 165), (148, 148), (149, 149), (150, 261), (151, 260), (152, 259), (153, 194), (154, 73), (155, 183), (156, 147), (157, 107), (158, 128), (159, 75), (160, 178), (161, 179), (162, 182), (163, 186), (164, 146), (165, 187), (166, 110), (167, 195), (168, 196), (169, 198)]
theorem tells (W : World) : AM.Seat Tryz.prog (AM.look table) AM.prog W :=
  AM.seat_of table W (by kernel_rfl) (by kernel_rfl) (by kernel_rfl)
theorem own : ownKnob Tryz.prog.godebug = none := by kernel_rfl
theorem laidOut : laidOutB Tryz.prog = true := by kernel_rfl
theorem shaped : AM.okPT Tryz.prog 12 AM.ask10 29 = true := by kernel_rfl
theorem lifted (os : Os) (started : os.Started) (H : Type) (enc : TypeId × Value → H) :
    ReturnsInHanded {} Tryz.checked os 20 .any (Rows.slopeScaleSpec.pre6 enc Tryz.prog Tryz.f20 Rows.slopeScaleRow.domain false) (Rows.slopeScaleSpec.post enc Tryz.prog Tryz.f20 false true false false) := by
  refine returnsInHanded_of_change_sized (C := Tryz.checked) own started (by kernel_rfl) Tryz.func20
    (ChangeSpec.witness6 (enc := enc) (C := Tryz.checked) false ⟨#[], #[.agg #[.slice none 0 0, .slice none 0 0, .slice none 0 0, .slice none 0 0, .slice none 0 0]], []⟩ 8 (by kernel_rfl) (by kernel_rfl) (by kernel_rfl) (by kernel_rfl)) ?_
  intro W base args ds gs before hval0 hW hcnd hsz0 _
  have hsz : (DataW.weightsEach Tryz.prog (Tryz.f20.params.toList ++ Rows.slopeScaleSpec.plain.varTypes Tryz.prog) (ds ++ gs)).all (· ≤ reachBytes) = true := hsz0
  have hval : ∀ (j : Nat) t v, Tryz.f20.params[j]? = some t → args[j]? = some v → Value.okWide Tryz.prog W .any base t v := hval0
  have hW' := hW
  obtain ⟨p, q, hA0, hV, rfl, hfz, hnd⟩ := hW
  have hA : DataW.TrodAll enc Tryz.prog W 0 (fun _ => true) true Tryz.f20.params.toList args.toList ds p := hA0
  rw [Tryz.params20] at hA hval hsz
  obtain ⟨v0, vs0, d0, ds0, p0, q0, hargs, rfl, rfl, h0, r0⟩ := trodAll_cons hA
  obtain ⟨rfl, rfl, rfl⟩ := trodAll_nil r0
  obtain rfl : args = #[v0] := by cases args; simp_all
  obtain ⟨rfl, rfl⟩ := trodVars_none hV
  obtain ⟨cs, rfl, _⟩ := okWide_struct Tryz.underlying29 (hval 0 29 v0 rfl rfl)
  have k0 := h0
  have lt0 : ∀ x ∈ p0, x.block < W.heap.size := by obtain ⟨m, hm⟩ := k0; exact DataW.trod_lt m _ _ _ hm
  have hall : AM.All Tryz.prog 29 d0 := fun x hx => by
    have := List.all_eq_true.1 hsz x (DataW.weights_mem_each (j := 0) (t := 29) (d := d0) rfl rfl x hx)
    simpa using this
  refine (AM.law_calls (tells W) (f := 20) (g := 223) (by kernel_rfl) shaped h0 hall AM.Laws.SlopeScale).mono fun e W' ⟨he, bel⟩ => ?_
  subst he
  exact ⟨_, rfl, _, _, _, [], _, [], hW', trodAll_mk1 (shut_bool Tryz.underlying4 _), (trodAll_cons_mk (Below.trod laidOut (by kernel_rfl) (of_decide_eq_true (by kernel_rfl)) k0 bel lt0) trodAll_mk0), rfl, bel.frame _, fun h => by cases h⟩
theorem closed : joinedFacts Tryz.prog 20 Tryz.f20 Rows.slopeScaleSpec Rows.slopeScaleRow = true := by
  unfold joinedFacts
  rw [facts.enters, facts.makes, facts.lifts]
  kernel_rfl
theorem over : Rows.slopeScaleRow.holds Tryz.pinned (OpenSpec.ofChange Rows.slopeScaleSpec) :=
  OpenClaim.holds_of_wide 20 Tryz.f20 rfl rfl rfl rfl rfl rfl rfl ⟨rfl, rfl, rfl, rfl, rfl⟩ rfl rfl rfl rfl rfl (by kernel_rfl) Tryz.func20 closed
    (of_decide_eq_true (by kernel_rfl)) (by unfold Func.isWrapper; first | (rw [if_pos (by decide +kernel)]; kernel_rfl) | (rw [if_neg (by decide +kernel)]; exact ⟨rfl, rfl⟩))
    (fun os started H enc _ => lifted os started H enc)
theorem proved : Rows.SlopeScaleSaid := over
end Go.Proofs.YtfdbegdgedhhcaaGreat.slopeScale
namespace Go.Proofs.YtfdbegdgedhhcaaGreat
/-- The row, under a short name, for the claim. -/
theorem slopeScale_holds : Rows.SlopeScaleSaid := slopeScale.proved
#print axioms slopeScale_holds
end Go.Proofs.YtfdbegdgedhhcaaGreat
