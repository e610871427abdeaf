/- The row: the law GraphLimits returns true for each argument, and its argument reads as it read before. No condition. -/
import Derived.Test.YtfdbegdgedhhcaaRows
import Derived.Test.YtfdbegdgedhhcaaAmEnter
import Derived.Test.YtfdbegdgedhhcaaAmSeatOf
import Derived.Test.YtfdbegdgedhhcaaAmVGraphLimits
import Derived.WalkKit
import Derived.ProofKit
import Derived.OpenShut
import Derived.ShutString
import Derived.ChangeOld
import Derived.Below
import Derived.SizedLaws
import Derived.KernelRfl
import Derived.Carry
namespace Go.Proofs.Ytfdbegdgedhhcaa.graphLimits
open Go.ChangeShapes Go.WideShapes Go.ChangeAt Go.RowKit
set_option linter.all false
set_option maxRecDepth 100000
/-- The seat's numbers, and mine. -/
def table : List (Nat × Nat) := [(4, 12), (17, 4), (20, 7), (21, 9), (22, 10), (23, 11), (24, 13), (34, 25), (64, 61), (65, 62), (70, 67), (71, 68), (72, 69), (78, 75), (101, 97), (102, 98), (103, 99), (107, 103), (108, 104), (109, 105), (110, 106), (114, 110), (116, 112), (129, 126), (130, 127), (131, 128), (132, 129), (133, 130), (145, 141), (146, 145), (147, 142), (148, 143), (149, 144), (150, 146), (151, 147), (152, 148), (153, 149), (181, 178), (182, 179)]
theorem tells (W : World) : AM.Seat Try.prog (AM.look table) AM.prog W :=
  AM.seat_of table W (by kernel_rfl) (by kernel_rfl) (by kernel_rfl)
theorem own : ownKnob Try.prog.godebug = none := by kernel_rfl
theorem laidOut : laidOutB Try.prog = true := by kernel_rfl
theorem shaped : AM.okPT Try.prog 12 AM.ask8 26 = true := by kernel_rfl
theorem lifted (os : Os) (started : os.Started) (H : Type) (enc : TypeId × Value → H) :
    ReturnsInHanded {} Try.checked os 4 .any (Rows.graphLimitsSpec.pre6 enc Try.prog Try.f4 Rows.graphLimitsRow.domain false) (Rows.graphLimitsSpec.post enc Try.prog Try.f4 false true false false) := by
  refine returnsInHanded_of_change_sized (C := Try.checked) own started (by kernel_rfl) Try.func4
    (ChangeSpec.witness6 (enc := enc) (C := Try.checked) false ⟨#[], #[.agg #[.slice none 0 0, .slice none 0 0, .slice none 0 0]], []⟩ 8 (by kernel_rfl) (by kernel_rfl) (by kernel_rfl) (by kernel_rfl)) ?_
  intro W base args ds gs before hval0 hW hcnd hsz0 _
  have hsz : (DataW.weightsEach Try.prog (Try.f4.params.toList ++ Rows.graphLimitsSpec.plain.varTypes Try.prog) (ds ++ gs)).all (· ≤ reachBytes) = true := hsz0
  have hval : ∀ (j : Nat) t v, Try.f4.params[j]? = some t → args[j]? = some v → Value.okWide Try.prog W .any base t v := hval0
  have hW' := hW
  obtain ⟨p, q, hA0, hV, rfl, hfz, hnd⟩ := hW
  have hA : DataW.TrodAll enc Try.prog W 0 (fun _ => true) true Try.f4.params.toList args.toList ds p := hA0
  rw [Try.params4] at hA hval hsz
  obtain ⟨v0, vs0, d0, ds0, p0, q0, hargs, rfl, rfl, h0, r0⟩ := trodAll_cons hA
  obtain ⟨rfl, rfl, rfl⟩ := trodAll_nil r0
  obtain rfl : args = #[v0] := by cases args; simp_all
  obtain ⟨rfl, rfl⟩ := trodVars_none hV
  obtain ⟨cs, rfl, _⟩ := okWide_struct Try.underlying26 (hval 0 26 v0 rfl rfl)
  have k0 := h0
  have lt0 : ∀ x ∈ p0, x.block < W.heap.size := by obtain ⟨m, hm⟩ := k0; exact DataW.trod_lt m _ _ _ hm
  have hall : AM.All Try.prog 26 d0 := fun x hx => by
    have := List.all_eq_true.1 hsz x (DataW.weights_mem_each (j := 0) (t := 26) (d := d0) rfl rfl x hx)
    simpa using this
  refine (AM.law_calls (tells W) (f := 4) (g := 12) (by kernel_rfl) shaped h0 hall AM.Laws.GraphLimits).mono fun e W' ⟨he, bel⟩ => ?_
  subst he
  exact ⟨_, rfl, _, _, _, [], _, [], hW', trodAll_mk1 (shut_bool Try.underlying4 _), (trodAll_cons_mk (Below.trod laidOut (by kernel_rfl) (of_decide_eq_true (by kernel_rfl)) k0 bel lt0) trodAll_mk0), rfl, bel.frame _, fun h => by cases h⟩
theorem over : Rows.graphLimitsRow.holds Try.pinned (OpenSpec.ofChange Rows.graphLimitsSpec) :=
  OpenClaim.holds_of_wide 4 Try.f4 rfl rfl rfl rfl rfl rfl rfl ⟨rfl, rfl, rfl, rfl, rfl⟩ rfl rfl rfl rfl rfl (by kernel_rfl) Try.func4 (by kernel_rfl)
    (of_decide_eq_true (by kernel_rfl)) (by unfold Func.isWrapper; first | (rw [if_pos (by decide +kernel)]; kernel_rfl) | (rw [if_neg (by decide +kernel)]; exact ⟨rfl, rfl⟩))
    (fun os started H enc _ => lifted os started H enc)
theorem proved : Rows.GraphLimitsSaid := over
end Go.Proofs.Ytfdbegdgedhhcaa.graphLimits
namespace Go.Proofs.Ytfdbegdgedhhcaa
/-- The row, under a short name, for the claim. -/
theorem graphLimits_holds : Rows.GraphLimitsSaid := graphLimits.proved
#print axioms graphLimits_holds
end Go.Proofs.Ytfdbegdgedhhcaa
