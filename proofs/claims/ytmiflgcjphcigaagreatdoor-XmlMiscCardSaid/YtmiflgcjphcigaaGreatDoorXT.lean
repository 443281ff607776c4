/-
  A part of the proof of statements on the element reader of package xml (XT): lemmas on what its functions come to; their conditions stand in each theorem.
-/
import Derived.StillTailTactics
set_option linter.unusedVariables false
set_option linter.unusedSimpArgs false
namespace Go
/-- 'wpStill' behind a name that nothing opens. -/
structure StillG (P : Program) (ops : Array Oper) (w : World) (Q : Act → Prop) (l : List Oper) (a : Act) : Prop where
  out : wpStill P ops w Q l a
section
variable {P : Program} {ops : Array Oper} {w : World} {Q : Act → Prop} {a : Act} {o : Oper} {rest : List Oper}
theorem StillG.nil (h : Q a) : StillG P ops w Q [] a := ⟨h⟩
theorem StillG.skip (hw : Region.wanted o (yielded ops a.tmps) = false) (h : StillG P ops w Q rest (a.put o.dst undef)) : StillG P ops w Q (o :: rest) a :=
  ⟨wpStill_step fun K hK => by rw [if_neg (by rw [hw]; exact Bool.false_ne_true)]; exact hK _ h.out⟩
theorem StillG.want (hw : Region.wanted o (yielded ops a.tmps) = true) (h : ∀ K : Act → Prop, (∀ a, StillG P ops w Q rest a → K a) → o.still P a w K) : StillG P ops w Q (o :: rest) a :=
  ⟨wpStill_step fun K hK => by rw [if_pos hw]; exact h K (fun a ha => hK a ha.out)⟩
theorem StillG.tail {id : Nat} {Q : Exit → Act → World → Prop} {l : List Oper} (n : Nat) (hm : P.follows .mixedOrders = true) (hB : Region.lexTailB .any l.toArray n = true)
    (h : StillG P l.toArray w.drew (fun a' => wpList P l.toArray Q (l.drop n) a' w.drew) (l.take n) a) : (Code.region id l.toArray true).wp P Q a w :=
  wp_region_still_tail n hm hB h.out
end
end Go
