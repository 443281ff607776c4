/-
  A part of the proof of statements on the element reader of package xml (X5): lemmas on what its functions come to; their conditions stand in each theorem.
-/
import Derived.Test.YtmiflgcjphcigaaGreatDoorX4
set_option linter.unusedVariables false
set_option linter.unusedSimpArgs false
namespace Go.Proofs.YtmiflgcjphcigaaGreatDoor
open Go.RowKit
theorem index_fits : ∀ (s t : List UInt8), 0 ≤ Lib.index s t → (Lib.index s t).toNat + t.length ≤ s.length
  | [], t, h => by
    unfold Lib.index at h ⊢
    cases t with
    | nil => simp
    | cons => simp at h
  | c :: l, t, h => by
    unfold Lib.index at h ⊢
    by_cases hp : t.isPrefixOf (c :: l) = true
    · rw [if_pos hp]
      have := (List.isPrefixOf_iff_prefix.1 hp).length_le
      simpa using this
    · rw [if_neg hp] at h ⊢
      by_cases hm : (Lib.index l t == -1) = true
      · rw [if_pos hm] at h
        exact absurd h (by decide)
      · rw [if_neg hm] at h ⊢
        have hne : Lib.index l t ≠ -1 := fun e => hm (by rw [e]; rfl)
        have hge := Lib.index_ge l t
        have ih := index_fits l t (by omega)
        simp only [List.length_cons]
        omega
set_option maxHeartbeats 1000000 in
set_option maxRecDepth 100000 in
theorem upto_no (b : Nat) (s : ByteArray) (r : List UInt8) (m : Nat) (t : ByteArray) (w : World) (hA : At w b s r m) (hi : Lib.index r t.data.toList < 0) :
    Calls Tryz.prog 51 #[.pointer (some ⟨b, 0, none⟩), .string t] w fun e w' => e = .panicked (failure 10) ∧ At w' b s r m ∧ Kp b w w' := by
  obtain ⟨a, ha, hr, hR⟩ := hA.rd
  obtain ⟨x, hx⟩ := hA.gl
  have hs := hA.sz
  have h0 := hR.c0
  have h1 := hR.c1
  have HA := Lib.hid hA
  have Hr := Lib.hid hr
  have Hi : Hid (Lib.index (s.extract a s.size).data.toList t.data.toList = -1) := by
    rw [extract_rest, hr]
    have := Lib.index_ge r t.data.toList
    show _ = _
    omega
  have he : (s.extract a s.size).size < 4294967281 := by rw [Lib.size_eq, extract_rest, List.length_drop, ← Lib.size_eq]; omega
  clear hR hA hr hi
  go_enter Tryz.func51, Tryz.ntmps51
  go_wp2
  go_quiet ((go_at_call 61; exact Calls.quiet_of_same (Tryz.strings_Index _ _ x _ he hx)))
  rw [Hi.out]
  go_wp2_with fail
  refine (must_no _ _).mono ?_
  rintro e w2 ⟨rfl, rfl⟩
  go_wp2
  exact ⟨rfl, rfl, HA.out.drewN _, (Kp.refl b w).drewN _⟩
set_option maxHeartbeats 1000000 in
set_option maxRecDepth 100000 in
theorem upto_yes (b : Nat) (s : ByteArray) (r : List UInt8) (m i : Nat) (t : ByteArray) (w : World) (hA : At w b s r m) (hi : Lib.index r t.data.toList = i) :
    Calls Tryz.prog 51 #[.pointer (some ⟨b, 0, none⟩), .string t] w fun e w' => e = .returned (.string (bs (r.take i))) ∧ At w' b s (r.drop (i + t.size)) m ∧ Kp b w w' := by
  obtain ⟨a, ha, hr, hR⟩ := hA.rd
  obtain ⟨x, hx⟩ := hA.gl
  have hs := hA.sz
  have hf := hR.fr 1
  have h0 := hR.c0
  have h1 := hR.c1
  have HA := Lib.hid hA
  have HR := Lib.hid hR
  have Hr := Lib.hid hr
  have hfit := index_fits r t.data.toList (by omega)
  rw [hi, drop_len hr, ← Lib.size_eq] at hfit
  have hfit' : a + i + t.size ≤ s.size := by omega
  clear hfit
  have Hi : Hid (Lib.index (s.extract a s.size).data.toList t.data.toList = (i : Int)) := by rw [extract_rest, hr]; exact hi
  have hd : decide (0 ≤ Lib.index (s.extract a s.size).data.toList t.data.toList) = true := by rw [Hi.out]; simp
  have he : (s.extract a s.size).size < 4294967281 := by rw [Lib.size_eq, extract_rest, List.length_drop, ← Lib.size_eq]; omega
  clear hR hA hr hi
  go_enter Tryz.func51, Tryz.ntmps51
  go_wp2
  go_quiet ((go_at_call 61; exact Calls.quiet_of_same (Tryz.strings_Index _ _ x _ he hx)))
  rw [Hi.out]
  clear hd
  go_wp2_with fail
  refine (must_ok _ _).mono ?_
  rintro e w2 ⟨rfl, rfl⟩
  have hw : IntKind.i64.wrap ((a : Int) + (i : Int)) = (a : Int) + (i : Int) := IntWalk.i64_in _ (by omega)
  have hw0 : (0 : Int) ≤ (a : Int) + (i : Int) := by omega
  have hw1 : ((a : Int) + (i : Int)).toNat = a + i := by omega
  have hw2 : (a : Int) + (i : Int) ≤ (s.size : Int) := by omega
  have hw3 : (a : Int) ≤ (a : Int) + (i : Int) := by omega
  go_wp2
  go_quiet (fail)
  clear hw hw0 hw1 hw2 hw3
  go_wp2
  go_ret
  have e : (a : Int) + ((i : Int) + (t.size : Int)) = ((a + (i + t.size) : Nat) : Int) := by omega
  rw [e]
  refine ⟨ret_str (extract_bs ?_), HA.out.goes (((Kp.refl b w).drewN _).set 1 _) (a := a + (i + t.size)) (by omega) ?_ ((HR.out.drewN _).set1 _), ((Kp.refl b w).drewN _).set 1 _⟩
  · rw [Hr.out, show a + i - a = i by omega]
  · rw [← List.drop_drop, Hr.out]
/-! ### qualified: name, or prefix, ':' and name -/
set_option maxHeartbeats 1000000 in
theorem qualified_no (b : Nat) (s : ByteArray) (r : List UInt8) (m : Nat) (w : World) (hA : At w b s r m) (hf : isFirstB (r.headD 0) = false) :
    Calls Tryz.prog 54 #[.pointer (some ⟨b, 0, none⟩)] w fun e w' => e = .panicked (failure 10) ∧ At w' b s r m ∧ Kp b w w' := by
  have HA := Lib.hid hA
  have Hf := Lib.hid hf
  clear hA hf
  go_enter Tryz.func54, Tryz.ntmps54
  go_wp2_with fail
  refine (name_no _ _ _ _ _ HA.out Hf.out).mono ?_
  rintro e w1 ⟨rfl, hA1, hk1⟩
  go_wp2
  exact ⟨rfl, rfl, hA1, hk1⟩
set_option maxHeartbeats 1000000 in
theorem qualified_plain (b : Nat) (s : ByteArray) (r : List UInt8) (m : Nat) (w : World) (hA : At w b s r m) (hf : isFirstB (r.headD 0) = true) (hc : Lib.hasPrefix (r.dropWhile isNextB) [58] = false) :
    Calls Tryz.prog 54 #[.pointer (some ⟨b, 0, none⟩)] w fun e w' => e = .returned (.tuple #[.string ⟨#[]⟩, .string (bs (r.takeWhile isNextB))]) ∧ At w' b s (r.dropWhile isNextB) m ∧ Kp b w w' := by
  have HA := Lib.hid hA
  have Hf := Lib.hid hf
  have Hc := Lib.hid hc
  clear hA hf hc
  go_enter Tryz.func54, Tryz.ntmps54
  go_wp2_with fail
  refine (name_yes _ _ _ _ _ HA.out Hf.out).mono ?_
  rintro e w1 ⟨rfl, hA1, hk1⟩
  have HA1 := Lib.hid hA1
  have HK1 := Lib.hid hk1
  clear hA1 hk1
  go_wp2_with fail
  refine (take_no _ _ _ _ _ _ HA1.out Hc.out).mono ?_
  rintro e w2 ⟨rfl, hA2, hk2⟩
  go_wp2
  go_ret2
  exact ⟨rfl, hA2, HK1.out.trans hk2⟩
set_option maxHeartbeats 1000000 in
theorem qualified_pair (b : Nat) (s : ByteArray) (r r2 : List UInt8) (m : Nat) (w : World) (hA : At w b s r m) (hf : isFirstB (r.headD 0) = true) (hc : r.dropWhile isNextB = 58 :: r2) (hf2 : isFirstB (r2.headD 0) = true) :
    Calls Tryz.prog 54 #[.pointer (some ⟨b, 0, none⟩)] w fun e w' => e = .returned (.tuple #[.string (bs (r.takeWhile isNextB)), .string (bs (r2.takeWhile isNextB))]) ∧ At w' b s (r2.dropWhile isNextB) m ∧ Kp b w w' := by
  have HA := Lib.hid hA
  have Hf := Lib.hid hf
  have Hc := Lib.hid hc
  have Hf2 := Lib.hid hf2
  clear hA hf hc hf2
  go_enter Tryz.func54, Tryz.ntmps54
  go_wp2_with fail
  refine (name_yes _ _ _ _ _ HA.out Hf.out).mono ?_
  rintro e w1 ⟨rfl, hA1, hk1⟩
  have HA1 : Hid (At w1 b s ((⟨#[58]⟩ : ByteArray).data.toList ++ r2) m) := by rw [Hc.out] at hA1; exact hA1
  have HK1 := Lib.hid hk1
  clear hA1 hk1
  go_wp2_with fail
  refine (take_yes _ _ _ _ _ _ HA1.out).mono ?_
  rintro e w2 ⟨rfl, hA2, hk2⟩
  have HA2 := Lib.hid hA2
  have HK2 := Lib.hid hk2
  clear hA2 hk2
  go_wp2_with fail
  refine (name_yes _ _ _ _ _ HA2.out Hf2.out).mono ?_
  rintro e w3 ⟨rfl, hA3, hk3⟩
  go_wp2
  go_ret2
  exact ⟨rfl, hA3, (HK1.out.trans HK2.out).trans hk3⟩
set_option maxHeartbeats 1000000 in
theorem qualified_pair_no (b : Nat) (s : ByteArray) (r r2 : List UInt8) (m : Nat) (w : World) (hA : At w b s r m) (hf : isFirstB (r.headD 0) = true) (hc : r.dropWhile isNextB = 58 :: r2) (hf2 : isFirstB (r2.headD 0) = false) :
    Calls Tryz.prog 54 #[.pointer (some ⟨b, 0, none⟩)] w fun e w' => e = .panicked (failure 10) ∧ At w' b s r2 m ∧ Kp b w w' := by
  have HA := Lib.hid hA
  have Hf := Lib.hid hf
  have Hc := Lib.hid hc
  have Hf2 := Lib.hid hf2
  clear hA hf hc hf2
  go_enter Tryz.func54, Tryz.ntmps54
  go_wp2_with fail
  refine (name_yes _ _ _ _ _ HA.out Hf.out).mono ?_
  rintro e w1 ⟨rfl, hA1, hk1⟩
  have HA1 : Hid (At w1 b s ((⟨#[58]⟩ : ByteArray).data.toList ++ r2) m) := by rw [Hc.out] at hA1; exact hA1
  have HK1 := Lib.hid hk1
  clear hA1 hk1
  go_wp2_with fail
  refine (take_yes _ _ _ _ _ _ HA1.out).mono ?_
  rintro e w2 ⟨rfl, hA2, hk2⟩
  have HA2 := Lib.hid hA2
  have HK2 := Lib.hid hk2
  clear hA2 hk2
  go_wp2_with fail
  refine (name_no _ _ _ _ _ HA2.out Hf2.out).mono ?_
  rintro e w3 ⟨rfl, hA3, hk3⟩
  go_wp2
  exact ⟨rfl, rfl, hA3, (HK1.out.trans HK2.out).trans hk3⟩
end Go.Proofs.YtmiflgcjphcigaaGreatDoor
