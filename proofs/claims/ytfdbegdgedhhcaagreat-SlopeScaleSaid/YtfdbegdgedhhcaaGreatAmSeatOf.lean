import Derived.Test.YtfdbegdgedhhcaaGreatAmRun
import Derived.Test.YtfdbegdgedhhcaaGreatAmMine
set_option linter.all false
/- What a seat owes: a table of numbers, and two tests that the kernel reckons. -/
namespace Go.AM
def look : List (Nat × Nat) → Nat → Option Nat
  | [], _ => none
  | x :: r, f => if x.1 = f then some x.2 else look r f
def okAt (P : Program) (L : List (Nat × Nat)) (x : Nat × Nat) : Bool :=
  match fnsT x.2 with
  | some a => okFunc P (look L) a x.1
  | none => true
theorem look_mem : ∀ {L : List (Nat × Nat)} {f g : Nat}, look L f = some g → (f, g) ∈ L
  | [], _, _, h => by cases h
  | x :: r, f, g, h => by
      unfold look at h
      split at h
      · rename_i e
        cases h
        subst e
        exact List.mem_cons_self
      · exact List.mem_cons_of_mem _ (look_mem h)
theorem seat_of {P : Program} (L : List (Nat × Nat)) (W : World) (h1 : P.follows .mixedOrders = true) (h2 : L.all (fun x => okFn P x.1) = true) (h3 : L.all (okAt P L) = true) : Seat P (look L) prog W where
  mixed := h1
  fns := fun f g h => by
    have := List.all_eq_true.1 h2 _ (look_mem h)
    unfold okFn at this
    split at this
    · rename_i fn hfn
      simp only [Bool.and_eq_true, Bool.not_eq_true'] at this
      exact ⟨fn, hfn, this.1, this.2⟩
    · cases this
  ok := fun f g fn h hg => by
    have := List.all_eq_true.1 h3 _ (look_mem h)
    unfold okAt at this
    rw [show fnsT g = some fn from hg] at this
    exact this
  ext := fun f g _ _ as h p hp => by cases hp
  extX := fun g as h p hp => by cases hp
end Go.AM
