/- The row: the law EvalDims returns true for each argument, and its argument reads as it read before. No condition. -/
import Derived.Test.YtfdbegdgedhhcaaRows
import Derived.Test.YtfdbegdgedhhcaaAmEnter
import Derived.Test.YtfdbegdgedhhcaaAmSeatOf
import Derived.Test.YtfdbegdgedhhcaaAmVEvalDims
import Derived.WalkKit
import Derived.ProofKit
import Derived.OpenShut
import Derived.ShutString
import Derived.ChangeOld
import Derived.Below
import Derived.SizedLaws
import Derived.KernelRfl
import Derived.Carry
namespace Go.Proofs.Ytfdbegdgedhhcaa.evalDims
open Go.ChangeShapes Go.WideShapes Go.ChangeAt Go.RowKit
set_option linter.all false
set_option maxRecDepth 100000
/-- The seat's numbers, and mine. -/
def table : List (Nat × Nat) := [(9, 43), (13, 0), (18, 5), (19, 6), (43, 36), (44, 37), (45, 38), (46, 39), (47, 40), (48, 41), (49, 42), (61, 58), (62, 59), (64, 61), (65, 62), (69, 66), (71, 68), (72, 69), (76, 73), (78, 75), (81, 78), (92, 88), (93, 89), (94, 90), (95, 91), (101, 97), (102, 98), (103, 99), (107, 103), (108, 104), (109, 105), (110, 106), (111, 107), (114, 110), (116, 112), (121, 118), (122, 119), (123, 120), (124, 121), (125, 123), (126, 122), (129, 126), (130, 127), (131, 128), (132, 129), (133, 130), (136, 133), (137, 134), (138, 151), (139, 135), (140, 136), (141, 137), (142, 138), (145, 141), (146, 145), (147, 142), (148, 143), (149, 144), (150, 146), (151, 147), (152, 148), (153, 149), (154, 150), (155, 152), (156, 153), (157, 154), (158, 155), (159, 156), (160, 157), (161, 158), (162, 159), (163, 160), (164, 161), (165, 162), (166, 163), (167, 164), (168, 165), (169, 166), (181, 178), (182, 179), (183, 180), (184, 181), (185, 182), (186, 183), (187, 184), (188, 185), (189, 186), (190, 187), (197, 194), (198, 195), (199, 196), (201, 198)]
theorem tells (W : World) : AM.Seat Try.prog (AM.look table) AM.prog W :=
  AM.seat_of table W (by kernel_rfl) (by kernel_rfl) (by kernel_rfl)
theorem own : ownKnob Try.prog.godebug = none := by kernel_rfl
theorem laidOut : laidOutB Try.prog = true := by kernel_rfl
theorem shaped : AM.okPT Try.prog 12 AM.ask10 69 = true := by kernel_rfl
theorem lifted (os : Os) (started : os.Started) (H : Type) (enc : TypeId × Value → H) :
    ReturnsInHanded {} Try.checked os 9 .any (Rows.evalDimsSpec.pre6 enc Try.prog Try.f9 Rows.evalDimsRow.domain false) (Rows.evalDimsSpec.post enc Try.prog Try.f9 false true false false) := by
  refine returnsInHanded_of_change_sized (C := Try.checked) own started (by kernel_rfl) Try.func9
    (ChangeSpec.witness6 (enc := enc) (C := Try.checked) false ⟨#[], #[.agg #[.slice none 0 0, .slice none 0 0, .slice none 0 0, .slice none 0 0, .slice none 0 0]], []⟩ 8 (by kernel_rfl) (by kernel_rfl) (by kernel_rfl) (by kernel_rfl)) ?_
  intro W base args ds gs before hval0 hW hcnd hsz0 _
  have hsz : (DataW.weightsEach Try.prog (Try.f9.params.toList ++ Rows.evalDimsSpec.plain.varTypes Try.prog) (ds ++ gs)).all (· ≤ reachBytes) = true := hsz0
  have hval : ∀ (j : Nat) t v, Try.f9.params[j]? = some t → args[j]? = some v → Value.okWide Try.prog W .any base t v := hval0
  have hW' := hW
  obtain ⟨p, q, hA0, hV, rfl, hfz, hnd⟩ := hW
  have hA : DataW.TrodAll enc Try.prog W 0 (fun _ => true) true Try.f9.params.toList args.toList ds p := hA0
  rw [Try.params9] at hA hval hsz
  obtain ⟨v0, vs0, d0, ds0, p0, q0, hargs, rfl, rfl, h0, r0⟩ := trodAll_cons hA
  obtain ⟨rfl, rfl, rfl⟩ := trodAll_nil r0
  obtain rfl : args = #[v0] := by cases args; simp_all
  obtain ⟨rfl, rfl⟩ := trodVars_none hV
  obtain ⟨cs, rfl, _⟩ := okWide_struct Try.underlying69 (hval 0 69 v0 rfl rfl)
  have k0 := h0
  have lt0 : ∀ x ∈ p0, x.block < W.heap.size := by obtain ⟨m, hm⟩ := k0; exact DataW.trod_lt m _ _ _ hm
  have hall : AM.All Try.prog 69 d0 := fun x hx => by
    have := List.all_eq_true.1 hsz x (DataW.weights_mem_each (j := 0) (t := 69) (d := d0) rfl rfl x hx)
    simpa using this
  refine (AM.law_calls (tells W) (f := 9) (g := 43) (by kernel_rfl) shaped h0 hall AM.Laws.EvalDims).mono fun e W' ⟨he, bel⟩ => ?_
  subst he
  exact ⟨_, rfl, _, _, _, [], _, [], hW', trodAll_mk1 (shut_bool Try.underlying4 _), (trodAll_cons_mk (Below.trod laidOut (by kernel_rfl) (of_decide_eq_true (by kernel_rfl)) k0 bel lt0) trodAll_mk0), rfl, bel.frame _, fun h => by cases h⟩
theorem over : Rows.evalDimsRow.holds Try.pinned (OpenSpec.ofChange Rows.evalDimsSpec) :=
  OpenClaim.holds_of_wide 9 Try.f9 rfl rfl rfl rfl rfl rfl rfl ⟨rfl, rfl, rfl, rfl, rfl⟩ rfl rfl rfl rfl rfl (by kernel_rfl) Try.func9 (by kernel_rfl)
    (of_decide_eq_true (by kernel_rfl)) (by unfold Func.isWrapper; first | (rw [if_pos (by decide +kernel)]; kernel_rfl) | (rw [if_neg (by decide +kernel)]; exact ⟨rfl, rfl⟩))
    (fun os started H enc _ => lifted os started H enc)
theorem proved : Rows.EvalDimsSaid := over
end Go.Proofs.Ytfdbegdgedhhcaa.evalDims
namespace Go.Proofs.Ytfdbegdgedhhcaa
/-- The row, under a short name, for the claim. -/
theorem evalDims_holds : Rows.EvalDimsSaid := evalDims.proved
#print axioms evalDims_holds
end Go.Proofs.Ytfdbegdgedhhcaa
