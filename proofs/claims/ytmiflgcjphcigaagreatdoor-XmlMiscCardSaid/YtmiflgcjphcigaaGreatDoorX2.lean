/-
  A part of the proof of statements on the element reader of package xml (X2): lemmas on what its functions come to; their conditions stand in each theorem.
-/
import Derived.Test.YtmiflgcjphcigaaGreatDoorXS
set_option linter.unusedVariables false
set_option linter.unusedSimpArgs false
namespace Go.Proofs.YtmiflgcjphcigaaGreatDoor
open Go.RowKit
set_option maxHeartbeats 400000 in
theorem has_any (b : Nat) (s : ByteArray) (r : List UInt8) (m : Nat) (t : ByteArray) (w : World) (hA : At w b s r m) :
    Calls Tryz.prog 52 #[.pointer (some ⟨b, 0, none⟩), .string t] w fun e w' => e = .returned (.bool (Lib.hasPrefix r t.data.toList)) ∧ ∃ n, w' = w.drewN n := by
  obtain ⟨a, ha, hr, hR⟩ := hA.rd
  have hs := hA.sz
  have h0 := hR.c0
  have h1 := hR.c1
  clear hR hA
  have Hr := Lib.hid hr
  clear hr
  go_enter Tryz.func52, Tryz.ntmps52
  go_wp2
  go_quiet ((go_at_call 28; exact Calls.quiet_of_same (Tryz.strings_HasPrefix _ _ _)))
  go_wp2
  go_ret
  refine ⟨?_, nq, rfl⟩
  rw [← Hr.out, ← extract_rest]
  rfl
set_option maxHeartbeats 400000 in
theorem take_yes (b : Nat) (s : ByteArray) (r : List UInt8) (m : Nat) (t : ByteArray) (w : World) (hA : At w b s (t.data.toList ++ r) m) :
    Calls Tryz.prog 49 #[.pointer (some ⟨b, 0, none⟩), .string t] w fun e w' => e = .returned (.bool true) ∧ At w' b s r m ∧ Kp b w w' := by
  obtain ⟨a, ha, hr, hR⟩ := hA.rd
  have hs := hA.sz
  have h1 := hR.c1
  have hf := hR.fr 1
  have hl : a + t.size ≤ s.size := by
    have := drop_len hr
    rw [List.length_append, ← Lib.size_eq] at this
    omega
  have hp : Lib.hasPrefix (t.data.toList ++ r) t.data.toList = true := by simp [Lib.hasPrefix]
  have HR := Lib.hid hR
  have HA := Lib.hid hA
  have Hr := Lib.hid hr
  have Hp := Lib.hid hp
  clear hR hA hr hp
  go_enter Tryz.func49, Tryz.ntmps49
  go_wp2_with fail
  refine (has_any _ _ _ _ _ _ HA.out).mono ?_
  rintro e w1 ⟨rfl, n, rfl⟩
  rw [Hp.out]
  go_wp2
  go_ret
  have e : (((a + t.size : Nat)) : Int) = (a : Int) + (t.size : Int) := by omega
  have hset := (HR.out.drewN n).set1 (a + t.size)
  have hk := ((Kp.refl b w).drewN n).set 1 (.int .i64 ((a + t.size : Nat) : Int))
  rw [e] at hset hk
  refine ⟨rfl, HA.out.goes hk hl ?_ hset, hk⟩
  rw [← List.drop_drop, Hr.out, Lib.size_eq, List.drop_left]
set_option maxHeartbeats 400000 in
theorem take_no (b : Nat) (s : ByteArray) (r : List UInt8) (m : Nat) (t : ByteArray) (w : World) (hA : At w b s r m) (hp : Lib.hasPrefix r t.data.toList = false) :
    Calls Tryz.prog 49 #[.pointer (some ⟨b, 0, none⟩), .string t] w fun e w' => e = .returned (.bool false) ∧ At w' b s r m ∧ Kp b w w' := by
  have HA := Lib.hid hA
  have Hp := Lib.hid hp
  clear hA hp
  go_enter Tryz.func49, Tryz.ntmps49
  go_wp2_with fail
  refine (has_any _ _ _ _ _ _ HA.out).mono ?_
  rintro e w1 ⟨rfl, n, rfl⟩
  rw [Hp.out]
  go_wp2
  go_ret
  exact ⟨rfl, HA.out.drewN n, (Kp.refl b w).drewN n⟩
set_option maxHeartbeats 400000 in
theorem wants_yes (b : Nat) (s : ByteArray) (r : List UInt8) (m : Nat) (t : ByteArray) (w : World) (hA : At w b s (t.data.toList ++ r) m) :
    Calls Tryz.prog 46 #[.pointer (some ⟨b, 0, none⟩), .string t] w fun e w' => e = .returned (.tuple #[]) ∧ At w' b s r m ∧ Kp b w w' := by
  have HA := Lib.hid hA
  clear hA
  go_enter Tryz.func46, Tryz.ntmps46
  go_wp2_with fail
  refine (take_yes _ _ _ _ _ _ HA.out).mono ?_
  rintro e w1 ⟨rfl, hA1, hk1⟩
  go_wp2_with fail
  refine (must_ok _ _).mono ?_
  rintro e w2 ⟨rfl, rfl⟩
  go_wp2
  go_end0
  exact ⟨rfl, hA1, hk1⟩
set_option maxHeartbeats 400000 in
theorem wants_no (b : Nat) (s : ByteArray) (r : List UInt8) (m : Nat) (t : ByteArray) (w : World) (hA : At w b s r m) (hp : Lib.hasPrefix r t.data.toList = false) :
    Calls Tryz.prog 46 #[.pointer (some ⟨b, 0, none⟩), .string t] w fun e w' => e = .panicked (failure 10) ∧ At w' b s r m ∧ Kp b w w' := by
  have HA := Lib.hid hA
  have Hp := Lib.hid hp
  clear hA hp
  go_enter Tryz.func46, Tryz.ntmps46
  go_wp2_with fail
  refine (take_no _ _ _ _ _ _ HA.out Hp.out).mono ?_
  rintro e w1 ⟨rfl, hA1, hk1⟩
  go_wp2_with fail
  refine (must_no _ _).mono ?_
  rintro e w2 ⟨rfl, rfl⟩
  go_wp2
  exact ⟨rfl, rfl, hA1, hk1⟩
/-! ### bytes of names -/
theorem ret_bool {a c : Bool} (h : a = c) : Ending.returned (.bool a) = .returned (.bool c) := by rw [h]
theorem ret_str {a c : ByteArray} (h : a = c) : Ending.returned (.string a) = .returned (.string c) := by rw [h]
theorem ret_int {k : IntKind} {a c : Int} (h : a = c) : Ending.returned (.int k a) = .returned (.int k c) := by rw [h]
theorem isFirst_any (c : UInt8) (w : World) : Calls Tryz.prog 34 #[.int .u8 c.toNat] w fun e w' => e = .returned (.bool (isFirstB c)) ∧ w' = w := by
  go_enter Tryz.func34, Tryz.ntmps34
  go_wp2
  all_goals
    go_ret
    refine ⟨ret_bool ?_, rfl⟩
    rw [Bool.eq_iff_iff]
    simp [isFirstB]
    omega
theorem isNext_any (c : UInt8) (w : World) : Calls Tryz.prog 29 #[.int .u8 c.toNat] w fun e w' => e = .returned (.bool (isNextB c)) ∧ w' = w := by
  go_enter Tryz.func29, Tryz.ntmps29
  go_wp2_with fail
  refine (isFirst_any c _).mono ?_
  rintro e w1 ⟨rfl, rfl⟩
  cases h : isFirstB c
  all_goals
    have H := Lib.hid h
    clear h
    go_wp2
    all_goals
      go_ret
      refine ⟨ret_bool ?_, rfl⟩
      rw [Bool.eq_iff_iff]
      simp [isNextB, H.out]
      try omega
end Go.Proofs.YtmiflgcjphcigaaGreatDoor
