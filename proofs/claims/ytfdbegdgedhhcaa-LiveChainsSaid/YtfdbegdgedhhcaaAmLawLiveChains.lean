/- The row: the law LiveChains returns true for each argument, and its argument reads as it read before. No condition. -/
import Derived.Test.YtfdbegdgedhhcaaRows
import Derived.Test.YtfdbegdgedhhcaaAmEnter
import Derived.Test.YtfdbegdgedhhcaaAmSeatOf
import Derived.Test.YtfdbegdgedhhcaaAmVLiveChains
import Derived.WalkKit
import Derived.ProofKit
import Derived.OpenShut
import Derived.ShutString
import Derived.ChangeOld
import Derived.Below
import Derived.SizedLaws
import Derived.KernelRfl
import Derived.Carry
namespace Go.Proofs.Ytfdbegdgedhhcaa.liveChains
open Go.ChangeShapes Go.WideShapes Go.ChangeAt Go.RowKit
set_option linter.all false
set_option maxRecDepth 100000
/-- The seat's numbers, and mine. -/
def table : List (Nat × Nat) := [(6, 22), (27, 17), (28, 18), (29, 19), (30, 20), (31, 21), (52, 47), (64, 61), (65, 62), (73, 70), (74, 71), (75, 72), (76, 73), (77, 74), (78, 75), (79, 76), (97, 93), (101, 97), (102, 98), (103, 99), (110, 106), (111, 107), (112, 108), (113, 109), (114, 110), (116, 112), (129, 126), (130, 127), (131, 128), (145, 141), (146, 145), (147, 142), (148, 143), (149, 144), (150, 146), (151, 147), (181, 178), (182, 179)]
theorem tells (W : World) : AM.Seat Try.prog (AM.look table) AM.prog W :=
  AM.seat_of table W (by kernel_rfl) (by kernel_rfl) (by kernel_rfl)
theorem own : ownKnob Try.prog.godebug = none := by kernel_rfl
theorem laidOut : laidOutB Try.prog = true := by kernel_rfl
theorem shaped : AM.okPT Try.prog 12 AM.ask13 49 = true := by kernel_rfl
theorem lifted (os : Os) (started : os.Started) (H : Type) (enc : TypeId × Value → H) :
    ReturnsInHanded {} Try.checked os 6 .any (Rows.liveChainsSpec.pre6 enc Try.prog Try.f6 Rows.liveChainsRow.domain false) (Rows.liveChainsSpec.post enc Try.prog Try.f6 false true false false) := by
  refine returnsInHanded_of_change_sized (C := Try.checked) own started (by kernel_rfl) Try.func6
    (ChangeSpec.witness6 (enc := enc) (C := Try.checked) false ⟨#[], #[.agg #[.slice none 0 0, .slice none 0 0]], []⟩ 8 (by kernel_rfl) (by kernel_rfl) (by kernel_rfl) (by kernel_rfl)) ?_
  intro W base args ds gs before hval0 hW hcnd hsz0 _
  have hsz : (DataW.weightsEach Try.prog (Try.f6.params.toList ++ Rows.liveChainsSpec.plain.varTypes Try.prog) (ds ++ gs)).all (· ≤ reachBytes) = true := hsz0
  have hval : ∀ (j : Nat) t v, Try.f6.params[j]? = some t → args[j]? = some v → Value.okWide Try.prog W .any base t v := hval0
  have hW' := hW
  obtain ⟨p, q, hA0, hV, rfl, hfz, hnd⟩ := hW
  have hA : DataW.TrodAll enc Try.prog W 0 (fun _ => true) true Try.f6.params.toList args.toList ds p := hA0
  rw [Try.params6] at hA hval hsz
  obtain ⟨v0, vs0, d0, ds0, p0, q0, hargs, rfl, rfl, h0, r0⟩ := trodAll_cons hA
  obtain ⟨rfl, rfl, rfl⟩ := trodAll_nil r0
  obtain rfl : args = #[v0] := by cases args; simp_all
  obtain ⟨rfl, rfl⟩ := trodVars_none hV
  obtain ⟨cs, rfl, _⟩ := okWide_struct Try.underlying49 (hval 0 49 v0 rfl rfl)
  have k0 := h0
  have lt0 : ∀ x ∈ p0, x.block < W.heap.size := by obtain ⟨m, hm⟩ := k0; exact DataW.trod_lt m _ _ _ hm
  have hall : AM.All Try.prog 49 d0 := fun x hx => by
    have := List.all_eq_true.1 hsz x (DataW.weights_mem_each (j := 0) (t := 49) (d := d0) rfl rfl x hx)
    simpa using this
  refine (AM.law_calls (tells W) (f := 6) (g := 22) (by kernel_rfl) shaped h0 hall AM.Laws.LiveChains).mono fun e W' ⟨he, bel⟩ => ?_
  subst he
  exact ⟨_, rfl, _, _, _, [], _, [], hW', trodAll_mk1 (shut_bool Try.underlying4 _), (trodAll_cons_mk (Below.trod laidOut (by kernel_rfl) (of_decide_eq_true (by kernel_rfl)) k0 bel lt0) trodAll_mk0), rfl, bel.frame _, fun h => by cases h⟩
theorem over : Rows.liveChainsRow.holds Try.pinned (OpenSpec.ofChange Rows.liveChainsSpec) :=
  OpenClaim.holds_of_wide 6 Try.f6 rfl rfl rfl rfl rfl rfl rfl ⟨rfl, rfl, rfl, rfl, rfl⟩ rfl rfl rfl rfl rfl (by kernel_rfl) Try.func6 (by kernel_rfl)
    (of_decide_eq_true (by kernel_rfl)) (by unfold Func.isWrapper; first | (rw [if_pos (by decide +kernel)]; kernel_rfl) | (rw [if_neg (by decide +kernel)]; exact ⟨rfl, rfl⟩))
    (fun os started H enc _ => lifted os started H enc)
theorem proved : Rows.LiveChainsSaid := over
end Go.Proofs.Ytfdbegdgedhhcaa.liveChains
namespace Go.Proofs.Ytfdbegdgedhhcaa
/-- The row, under a short name, for the claim. -/
theorem liveChains_holds : Rows.LiveChainsSaid := liveChains.proved
#print axioms liveChains_holds
end Go.Proofs.Ytfdbegdgedhhcaa
