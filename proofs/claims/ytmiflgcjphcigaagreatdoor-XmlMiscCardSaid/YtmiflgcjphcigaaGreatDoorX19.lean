/-
  A part of the proof of statements on the element reader of package xml (X19): lemmas on what its functions come to; their conditions stand in each theorem.
-/
import Derived.Test.YtmiflgcjphcigaaGreatDoorX18
set_option linter.unusedVariables false
set_option linter.unusedSimpArgs false
namespace Go.Proofs.YtmiflgcjphcigaaGreatDoor
open Go.RowKit
theorem elem_zero : ElemOK 0 := fun _ _ _ _ _ _ _ _ _ _ _ hne => absurd rfl hne
theorem elem_cont : ∀ k, k ≤ 1000000000 → ElemOK k ∧ ContOK k := by
  intro k
  induction k using Nat.strongRecOn with
  | _ k ih =>
    intro hk
    have hC : ContOK k := cont_any k hk fun k1 h => (ih k1 h (by omega)).1
    refine ⟨?_, hC⟩
    cases k with
    | zero => exact elem_zero
    | succ k => exact elem_any k (by omega) (ih k (by omega) (by omega)).2
theorem elem_all (k : Nat) (hk : k ≤ 1000000000) : ElemOK k := (elem_cont k hk).1
end Go.Proofs.YtmiflgcjphcigaaGreatDoor
