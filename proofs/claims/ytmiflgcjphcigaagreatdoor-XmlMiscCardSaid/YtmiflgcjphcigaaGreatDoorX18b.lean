/-
  A part of the proof of statements on the element reader of package xml (X18b): lemmas on what its functions come to; their conditions stand in each theorem.
-/
import Derived.Test.YtmiflgcjphcigaaGreatDoorX18a
set_option linter.unusedVariables false
set_option linter.unusedSimpArgs false
namespace Go
section
variable {P : Program} {w : World} {md : Region.Mode}
/-- A region that draws, in the midst of it: what is left only reads. -/
theorem StillG.mid {l : List Oper} {Q : Exit → Act → World → Prop} {a : Act} {listed : Array Bool} {fuel : Nat} (n : Nat) (hf : (l.drop n).length = fuel) (hs : Region.noSelect l.toArray = true) (hB : Region.lexFrom md l.toArray fuel n listed = true)
    (h : StillG P l.toArray w (fun a' => Q .normal a' w) (l.drop n) a) : wpAny P md l.toArray Q fuel listed a w := by
  subst hf
  refine wpAny_of_still (Q := fun a' => Q .normal a' w) (fun _ h => h) _ _ _ ?_
  exact wpAnyS_lex hs (l.drop n) n listed a (fun j => by simp) hB h.out
end
end Go
