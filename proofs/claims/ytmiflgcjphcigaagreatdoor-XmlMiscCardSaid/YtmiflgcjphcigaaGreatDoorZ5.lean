/-
  A part of the proof of statements on the element reader of package xml (Z5): lemmas on what its functions come to; their conditions stand in each theorem.
-/
import Derived.Test.YtmiflgcjphcigaaGreatDoorZ4
set_option linter.unusedVariables false
set_option linter.unusedSimpArgs false
namespace Go.Proofs.YtmiflgcjphcigaaGreatDoor
open Go.RowKit Go.Proofs.YtmiflgcjphcigaaGreatDoorW.PrintWords
/-! ## XmlEnds: any arguments -/
theorem bs_self (s : ByteArray) : bs s.data.toList = s := by
  apply ByteArray.ext
  simp [bs]
theorem letters_call {s : ByteArray} {b : Bool} (h : lettersB s.data.toList = b) (hs : s.size ≤ 9223372036854775807) (w : World) :
    Calls Tryz.prog 12 #[.string s] w fun e w' => e = .returned (.bool b) ∧ w = w' := by
  rw [← h]; exact letters_any s w hs
theorem ends_any (s t : ByteArray) (hs : s.size ≤ 9223372036854775807) (ht : t.size ≤ 9223372036854775807) (short : Bool) (w : World) (hgl : ∃ x, w.cell? ⟨5, 0, none⟩ = some (.int .i64 x)) (h6 : 5 < w.heap.size) :
    Calls Tryz.prog 6 #[.string s, .string t, .bool short] w fun e w' => e = .returned (.bool true) ∧ Below w.heap.size w w' := by
  cases ha : lettersB s.data.toList with
  | true =>
    cases hb : lettersB t.data.toList with
    | true =>
      have h := ends_walk _ _ ha hb short w hgl h6
      rw [bs_self, bs_self] at h
      exact h
    | false =>
      have La := Lib.hid (fun w => letters_call ha hs w)
      have Lb := Lib.hid (fun w => letters_call hb ht w)
      clear ha hb
      go_enter Tryz.func6, Tryz.ntmps6
      go_wp2_with fail
      refine (La.out _).mono ?_
      rintro e w1 ⟨rfl, rfl⟩
      go_wp2_with fail
      refine (Lb.out _).mono ?_
      rintro e w1 ⟨rfl, rfl⟩
      go_wp2_with fail
      refine (known_any _ hgl h6).mono ?_
      rintro e w2 ⟨rfl, hb2⟩
      go_wp2
      go_ret
      exact ⟨rfl, hb2⟩
  | false =>
    have La := Lib.hid (fun w => letters_call ha hs w)
    clear ha
    go_enter Tryz.func6, Tryz.ntmps6
    go_wp2_with fail
    refine (La.out _).mono ?_
    rintro e w1 ⟨rfl, rfl⟩
    go_wp2_with fail
    refine (known_any _ hgl h6).mono ?_
    rintro e w2 ⟨rfl, hb2⟩
    go_wp2
    go_ret
    exact ⟨rfl, hb2⟩
end Go.Proofs.YtmiflgcjphcigaaGreatDoor
