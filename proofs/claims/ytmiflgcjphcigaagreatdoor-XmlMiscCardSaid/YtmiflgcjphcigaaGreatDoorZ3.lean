/-
  A part of the proof of statements on the element reader of package xml (Z3): lemmas on what its functions come to; their conditions stand in each theorem.
-/
import Derived.Test.YtmiflgcjphcigaaGreatDoorZ0
import Derived.Test.YtmiflgcjphcigaaGreatDoorY2
set_option linter.unusedVariables false
set_option linter.unusedSimpArgs false
namespace Go.Proofs.YtmiflgcjphcigaaGreatDoor
open Go.RowKit
/-! ## letters -/
theorem letters_no {s : ByteArray} {j : Nat} (hj : j < s.size) (h : lowB s[j] = false) : lettersB s.data.toList = false := by
  have h2 : j < s.data.toList.length := by rw [← Lib.size_eq]; exact hj
  have hm : s.data.toList[j] ∈ s.data.toList := List.getElem_mem h2
  have hx : lowB s.data.toList[j] = false := h
  unfold lettersB
  rw [Bool.and_eq_false_iff]
  left
  rw [List.all_eq_false]
  exact ⟨_, hm, by rw [hx]; decide⟩
set_option maxHeartbeats 1000000 in
theorem letters_any (s : ByteArray) (w : World) (hs : s.size ≤ 9223372036854775807) :
    Calls Tryz.prog 12 #[.string s] w fun e w' => e = .returned (.bool (lettersB s.data.toList)) ∧ w = w' := by
  obtain ⟨R, hR⟩ : ∃ R, R = lettersB s.data.toList := ⟨_, rfl⟩
  rw [← hR]
  have HR := Lib.hid hR
  clear hR
  go_enter Tryz.func12, Tryz.ntmps12
  go_wp2
  go_loopg [3] s.size (fun k i wr => Aside (∃ j : Nat, i = .int .i64 j ∧ w = wr ∧ j + k = s.size ∧ (s.data.toList.take j).all lowB = true))
  case atStart => exact ⟨0, rfl, rfl, by omega, by simp⟩
  case round =>
    obtain ⟨j, rfl, rfl, hj, hall⟩ := hrel.out
    clear hrel
    have Hall := Lib.hid hall
    clear hall
    by_cases hlt : j < s.size
    · have hd : decide ((j : Int) < (s.size : Int)) = true := by simp; omega
      by_cases h1 : s[j].toNat < 97
      · have d1 : decide ((s[j].toNat : Int) < 97) = true := by simp; omega
        have hRf : R = false := by rw [HR.out]; exact letters_no hlt (by unfold lowB; simp; omega)
        subst hRf
        clear HR
        go_wp2
        go_ret
        exact ⟨rfl, rfl⟩
      · have d1 : decide ((s[j].toNat : Int) < 97) = false := by simp; omega
        by_cases h2 : 122 < s[j].toNat
        · have d2 : decide ((s[j].toNat : Int) > 122) = true := by simp; omega
          have d2' : 122 < (s[j].toNat : Int) := by omega
          have hRf : R = false := by rw [HR.out]; exact letters_no hlt (by unfold lowB; simp; omega)
          subst hRf
          clear HR
          go_wp2
          go_ret
          exact ⟨rfl, rfl⟩
        · have d2 : decide ((s[j].toNat : Int) > 122) = false := by simp; omega
          have d2' : ¬ 122 < (s[j].toNat : Int) := by omega
          have hx : Hid ((s.data.toList.take (j + 1)).all lowB = true) := by
            have h3 : j < s.data.toList.length := by rw [← Lib.size_eq]; exact hlt
            have hxx : lowB s.data.toList[j] = true := by show lowB s[j] = true; unfold lowB; simp; omega
            refine Lib.hid ?_
            rw [List.take_succ_eq_append_getElem h3, List.all_append, Hall.out]
            show (true && (lowB s.data.toList[j] && true)) = true
            rw [hxx]
            rfl
          go_wp2
          go_roundg (s.size - (j + 1))
          case measure => omega
          case rel => exact ⟨j + 1, by go_num, rfl, by omega, hx.out⟩
    · have hd : decide ((j : Int) < (s.size : Int)) = false := by simp; omega
      have hR2 : Hid (R = decide (0 < s.size ∧ s.size < 50)) := by
        rw [HR.out]
        unfold lettersB
        have h3 : s.data.toList.take j = s.data.toList := List.take_of_length_le (by rw [← Lib.size_eq]; omega)
        rw [h3] at Hall
        rw [Hall.out, Bool.true_and, ← Lib.size_eq]
        exact Lib.hid rfl
      clear HR Hall
      by_cases h1 : 0 < s.size
      · have d1 : decide ((s.size : Int) > 0) = true := by simp; omega
        have d1' : (0 : Int) < (s.size : Int) := by omega
        by_cases h2 : s.size < 50
        · have d2 : decide ((s.size : Int) < 50) = true := by simp; omega
          go_wp2
          go_ret
          exact ⟨ret_bool (by rw [hR2.out]; simp; omega), rfl⟩
        · have d2 : decide ((s.size : Int) < 50) = false := by simp; omega
          go_wp2
          go_ret
          exact ⟨ret_bool (by rw [hR2.out]; simp; omega), rfl⟩
      · have d1 : decide ((s.size : Int) > 0) = false := decide_eq_false (by omega)
        have d1' : ¬ (0 : Int) < (s.size : Int) := by omega
        obtain rfl : R = false := by rw [hR2.out]; exact decide_eq_false (fun h => h1 h.1)
        clear hR2
        go_wp2
        go_ret
        exact ⟨rfl, rfl⟩
end Go.Proofs.YtmiflgcjphcigaaGreatDoor
