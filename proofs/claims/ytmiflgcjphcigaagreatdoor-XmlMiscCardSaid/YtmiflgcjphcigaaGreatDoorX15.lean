/-
  A part of the proof of statements on the element reader of package xml (X15): lemmas on what its functions come to; their conditions stand in each theorem.
-/
import Derived.Test.YtmiflgcjphcigaaGreatDoorX14
import Derived.Test.YtmiflgcjphcigaaGreatDoorXQ
set_option linter.unusedVariables false
set_option linter.unusedSimpArgs false
namespace Go.Proofs.YtmiflgcjphcigaaGreatDoor
open Go.RowKit Go.Proofs.YtmiflgcjphcigaaGreatDoorW.PrintWords
set_option maxHeartbeats 400000 in
theorem flush_no (Z tb lb : Nat) (w : World) (hS : Lib.IsBuilderF 86 5 Z tb (Lib.byteCells []) w) :
    Calls Tryz.prog 73 #[.pointer (some ⟨tb, 0, none⟩), .pointer (some ⟨lb, 0, none⟩)] w fun e w' => e = .returned (.tuple #[]) ∧ w' = w := by
  have hd : decide (((0 : Int)) < ((Lib.byteCells []).length : Int)) = false := by simp [Lib.byteCells]
  have hd2 : ¬ 0 < (Lib.byteCells []).length := by simp [Lib.byteCells]
  have HS := Lib.hid hS
  clear hS
  go_enter Tryz.func73, Tryz.ntmps73
  go_wp2_with fail
  refine (Tryz.Builder_Len_f Z tb (Lib.byteCells []) _ HS.out).mono ?_
  rintro e w1 ⟨rfl, rfl⟩
  go_wp2
  go_end0
  exact ⟨rfl, rfl⟩
theorem flush_any (Z tb lb : Nat) (acc : B) (vl : Value) (l : List E) (b : Nat) (s : ByteArray) (r : B) (m : Nat) (w : World) (hA : At w b s r m) (hbz : b < Z) (hS : Lib.IsBuilderF 86 5 Z tb (Lib.byteCells acc) w) (hL : Blk w lb [vl] 24) (hlz : Z ≤ lb) (hltb : lb ≠ tb) (hK : Kids w Z vl l)
    (hz : Z ≤ w.heap.size) (hal : acc.length < 4294967296) (hll : l.length < 4294967296) :
    Calls Tryz.prog 73 #[.pointer (some ⟨tb, 0, none⟩), .pointer (some ⟨lb, 0, none⟩)] w fun e w' => e = .returned (.tuple #[]) ∧ ∃ vl', Lib.IsBuilderF 86 5 Z tb [] w' ∧ Blk w' lb [vl'] 24 ∧ Kids w' Z vl' (flushP' acc l) ∧ Below Z w w' := by
  by_cases h : acc = []
  · subst h
    refine (flush_no Z tb lb w hS).mono ?_
    rintro e w' ⟨rfl, rfl⟩
    exact ⟨rfl, vl, hS, hL, by simpa [flushP'] using hK, Below.refl _ _⟩
  · refine (flush_yes Z tb lb acc vl l b s r m w hA hbz hS hL hlz hltb hK hz (by have := List.length_pos_iff.2 h; omega) hal hll).mono ?_
    rintro e w' ⟨rfl, vl', h1, h2, h3, h4⟩
    exact ⟨rfl, vl', h1, h2, by simpa [flushP', h] using h3, h4⟩
end Go.Proofs.YtmiflgcjphcigaaGreatDoor
