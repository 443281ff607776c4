/-
  A part of the proof of statements on the element reader of package xml (Z7): lemmas on what its functions come to; their conditions stand in each theorem.
-/
import Derived.Test.YtmiflgcjphcigaaGreatDoorZ5
import Derived.Test.YtmiflgcjphcigaaGreatDoorY4
import Derived.Deep.CutBlock
set_option linter.unusedVariables false
set_option linter.unusedSimpArgs false
namespace Go.Proofs.YtmiflgcjphcigaaGreatDoor
open Go.RowKit Go.Proofs.YtmiflgcjphcigaaGreatDoorW.PrintWords
/-! ## XmlTwice: the walk -/
theorem twice_text1 {a b : B} (ha : lettersB a = true) (hb : lettersB b = true) : (((bs [60, 101, 32, 120, 109, 108, 110, 115, 58, 112, 61, 39, 117, 39, 32, 120, 109, 108, 110, 115, 58, 113, 61, 39, 117, 39, 32, 112, 58] ++ bs a) ++ bs [61, 39, 49, 39, 32, 113, 58]) ++ bs b) ++ bs [61, 39, 50, 39, 47, 62] = bs (twiceB 1 a b) := by
  obtain ⟨x, a, rfl, _⟩ := letters_cons ha
  obtain ⟨y, b, rfl, _⟩ := letters_cons hb
  rw [bs_append, bs_append, bs_append, bs_append]
  congr 1
  simp [twiceB, twiceL, attrsT, attrT, qualT, xmlnsB]
theorem twice_text2 {a b : B} (ha : lettersB a = true) (hb : lettersB b = true) : (((bs [60, 101, 32, 120, 109, 108, 110, 115, 58, 112, 61, 39, 117, 39, 32, 120, 109, 108, 110, 115, 58, 113, 61, 39, 118, 39, 32, 112, 58] ++ bs a) ++ bs [61, 39, 49, 39, 32, 113, 58]) ++ bs b) ++ bs [61, 39, 50, 39, 47, 62] = bs (twiceB 2 a b) := by
  obtain ⟨x, a, rfl, _⟩ := letters_cons ha
  obtain ⟨y, b, rfl, _⟩ := letters_cons hb
  rw [bs_append, bs_append, bs_append, bs_append]
  congr 1
  simp [twiceB, twiceL, attrsT, attrT, qualT, xmlnsB]
theorem twice_text3 {a b : B} (ha : lettersB a = true) (hb : lettersB b = true) : (((bs [60, 101, 32, 120, 109, 108, 110, 115, 61, 39, 117, 39, 32] ++ bs a) ++ bs [61, 39, 49, 39, 32]) ++ bs b) ++ bs [61, 39, 50, 39, 47, 62] = bs (twiceB 3 a b) := by
  obtain ⟨x, a, rfl, _⟩ := letters_cons ha
  obtain ⟨y, b, rfl, _⟩ := letters_cons hb
  rw [bs_append, bs_append, bs_append, bs_append]
  congr 1
  simp [twiceB, twiceL, attrsT, attrT, qualT, xmlnsB]
theorem twiceL_else {n : Nat} (h1 : n ≠ 1) (h2 : n ≠ 2) (h3 : n ≠ 3) (a b : B) : twiceL n a b = [(39, [], a, [49]), (39, [], b, [50])] := by
  unfold twiceL
  split
  · exact absurd rfl h1
  · exact absurd rfl h2
  · exact absurd rfl h3
  · rfl
theorem twice_text0 {a b : B} (ha : lettersB a = true) (hb : lettersB b = true) {n : Nat} (h1 : n ≠ 1) (h2 : n ≠ 2) (h3 : n ≠ 3) : (((bs [60, 101, 32] ++ bs a) ++ bs [61, 39, 49, 39, 32]) ++ bs b) ++ bs [61, 39, 50, 39, 47, 62] = bs (twiceB n a b) := by
  obtain ⟨x, a, rfl, _⟩ := letters_cons ha
  obtain ⟨y, b, rfl, _⟩ := letters_cons hb
  rw [bs_append, bs_append, bs_append, bs_append]
  congr 1
  simp [twiceB, twiceL_else h1 h2 h3, attrsT, attrT, qualT]
theorem twice_len (a b : B) (ha : a.length < 50) (hb : b.length < 50) (n : Nat) : (twiceB n a b).length < 4294967281 := by
  unfold twiceB twiceL
  split <;> (simp [attrsT, attrT, qualT, xmlnsB]; repeat' split) <;> (try simp) <;> omega
set_option maxHeartbeats 4000000 in
set_option maxRecDepth 100000 in
theorem twice_walk (a b : B) (ha : lettersB a = true) (hb : lettersB b = true) (way : Int) (w : World) (hgl : ∃ x, w.cell? ⟨5, 0, none⟩ = some (.int .i64 x)) (h6 : 5 < w.heap.size) :
    Calls Tryz.prog 5 #[.string (bs a), .string (bs b), .int .i64 way] w fun e w' => e = .returned (.bool true) ∧ Below w.heap.size w w' := by
  have hla := letters_len ha
  have hlb := letters_len hb
  have Ha := Lib.hid ha
  have Hb := Lib.hid hb
  have Hgl := Lib.hid hgl
  have sa : (bs a).size ≤ 50 := by rw [bs_size]; omega
  have sb : (bs b).size ≤ 50 := by rw [bs_size]; omega
  have HLa := Lib.hid (fun w => letters_call (b := true) (s := bs a) ha (by omega) w)
  have HLb := Lib.hid (fun w => letters_call (b := true) (s := bs b) hb (by omega) w)
  clear hgl ha hb
  obtain ⟨Wn, hWn⟩ : ∃ Wn, Wn = bits .and .i64 way 3 := ⟨_, rfl⟩
  have HWn := Lib.hid hWn
  clear hWn
  go_enter Tryz.func5, Tryz.ntmps5
  go_wp2_with fail
  refine (HLa.out _).mono ?_
  rintro e w1 ⟨rfl, rfl⟩
  go_wp2_with fail
  refine (HLb.out _).mono ?_
  rintro e w1 ⟨rfl, rfl⟩
  clear HLa HLb
  go_upto_block 0 with fail
  go_cut [7] from 27 to 50 (fun s wx => s = .string (bs (twiceB Wn.toNat a b)) ∧ w = wx)
  case first =>
    have m1 := twice_text1 Ha.out Hb.out
    have m2 := twice_text2 Ha.out Hb.out
    have m3 := twice_text3 Ha.out Hb.out
    by_cases h1 : Wn = 1
    · subst h1
      have e1 : (bits .and .i64 way 3 == 1) = true := by rw [← HWn.out]; rfl
      go_wp2_with fail
      go_meet
      case rel => exact ⟨congrArg Value.string m1, rfl⟩
    · have e1 : (bits .and .i64 way 3 == 1) = false := by rw [← HWn.out]; simpa using h1
      by_cases h2 : Wn = 2
      · subst h2
        have e2 : (bits .and .i64 way 3 == 2) = true := by rw [← HWn.out]; rfl
        go_wp2_with fail
        go_meet
        case rel => exact ⟨congrArg Value.string m2, rfl⟩
      · have e2 : (bits .and .i64 way 3 == 2) = false := by rw [← HWn.out]; simpa using h2
        by_cases h3 : Wn = 3
        · subst h3
          have e3 : (bits .and .i64 way 3 == 3) = true := by rw [← HWn.out]; rfl
          go_wp2_with fail
          go_meet
          case rel => exact ⟨congrArg Value.string m3, rfl⟩
        · have e3 : (bits .and .i64 way 3 == 3) = false := by rw [← HWn.out]; simpa using h3
          have m0 := twice_text0 Ha.out Hb.out (n := Wn.toNat) (by omega) (by omega) (by omega)
          go_wp2_with fail
          go_meet
          case rel => exact ⟨congrArg Value.string m0, rfl⟩
  case rest =>
    obtain ⟨rfl, rfl⟩ := hcut
    have hlen := twice_len a b hla.2 hlb.2 Wn.toNat
    have hr := read_text 10 (by omega) (twiceB Wn.toNat a b) w Hgl.out h6 hlen (twice_known Ha.out Hb.out _)
    have hconv := conv_text w (twiceB Wn.toNat a b) _ rfl
    have HR := Lib.hid hr
    clear hr
    by_cases hax : a = xmlnsB
    · have x1 : ((bs a).toList == [120, 109, 108, 110, 115]) = true := by rw [bs_toList, hax]; rfl
      clear hax
      cases hz : readZ 10 (twiceB Wn.toNat a b) with
      | unk => exact absurd hz (twice_known Ha.out Hb.out _)
      | fail c =>
        rw [hz] at HR
        clear hz
        go_wp2_with fail
        refine HR.out.mono ?_
        rintro e w1 ⟨rfl, hb1⟩
        have HB := Lib.hid (hb1.alloc hb1.size (.cells #[.string ⟨#[]⟩, .string ⟨#[]⟩, .string ⟨#[]⟩, .slice none 0 0, .slice none 0 0] 26))
        clear hb1 HR hconv
        go_wp2_with fail
        refine (known_any _ (gl_below HB.out h6 Hgl.out) (Nat.lt_of_lt_of_le h6 HB.out.size)).mono ?_
        rintro e w3 ⟨rfl, hb3⟩
        go_wp2
        go_ret
        exact ⟨rfl, HB.out.trans (hb3.mono HB.out.size)⟩
      | ok y r m =>
        rw [hz] at HR
        clear hz
        go_wp2_with fail
        refine HR.out.mono ?_
        rintro e w1 ⟨cs, rfl, hx, hb1⟩
        obtain ⟨sp, nm, tx, A1, n1, c1, A2, n2, c2, rfl⟩ := hx.cells
        have HB := Lib.hid (hb1.alloc hb1.size (.cells #[.string (bs sp), .string (bs nm), .string (bs tx), .slice A1 n1 c1, .slice A2 n2 c2] 26))
        clear hb1 HR hconv hx
        go_wp2_with fail
        refine (known_any _ (gl_below HB.out h6 Hgl.out) (Nat.lt_of_lt_of_le h6 HB.out.size)).mono ?_
        rintro e w3 ⟨rfl, hb3⟩
        go_wp2
        go_ret
        exact ⟨rfl, HB.out.trans (hb3.mono HB.out.size)⟩
    · have x1 : ((bs a).toList == [120, 109, 108, 110, 115]) = false := by rw [bs_toList]; simpa [xmlnsB] using hax
      by_cases hbx : b = xmlnsB
      · have x2 : ((bs b).toList == [120, 109, 108, 110, 115]) = true := by rw [bs_toList, hbx]; rfl
        clear hax hbx
        cases hz : readZ 10 (twiceB Wn.toNat a b) with
        | unk => exact absurd hz (twice_known Ha.out Hb.out _)
        | fail c =>
          rw [hz] at HR
          clear hz
          go_wp2_with fail
          refine HR.out.mono ?_
          rintro e w1 ⟨rfl, hb1⟩
          have HB := Lib.hid (hb1.alloc hb1.size (.cells #[.string ⟨#[]⟩, .string ⟨#[]⟩, .string ⟨#[]⟩, .slice none 0 0, .slice none 0 0] 26))
          clear hb1 HR hconv
          go_wp2_with fail
          refine (known_any _ (gl_below HB.out h6 Hgl.out) (Nat.lt_of_lt_of_le h6 HB.out.size)).mono ?_
          rintro e w3 ⟨rfl, hb3⟩
          go_wp2
          go_ret
          exact ⟨rfl, HB.out.trans (hb3.mono HB.out.size)⟩
        | ok y r m =>
          rw [hz] at HR
          clear hz
          go_wp2_with fail
          refine HR.out.mono ?_
          rintro e w1 ⟨cs, rfl, hx, hb1⟩
          obtain ⟨sp, nm, tx, A1, n1, c1, A2, n2, c2, rfl⟩ := hx.cells
          have HB := Lib.hid (hb1.alloc hb1.size (.cells #[.string (bs sp), .string (bs nm), .string (bs tx), .slice A1 n1 c1, .slice A2 n2 c2] 26))
          clear hb1 HR hconv hx
          go_wp2_with fail
          refine (known_any _ (gl_below HB.out h6 Hgl.out) (Nat.lt_of_lt_of_le h6 HB.out.size)).mono ?_
          rintro e w3 ⟨rfl, hb3⟩
          go_wp2
          go_ret
          exact ⟨rfl, HB.out.trans (hb3.mono HB.out.size)⟩
      · have x2 : ((bs b).toList == [120, 109, 108, 110, 115]) = false := by rw [bs_toList]; simpa [xmlnsB] using hbx
        by_cases hsame : a = b ∧ Wn.toNat ≠ 2
        · obtain ⟨rfl, h2⟩ := hsame
          have e1 : ((bs a).toList == (bs a).toList) = true := by simp
          have e2 : (bits .and .i64 way 3 != 2) = true := by rw [← HWn.out]; simp; omega
          rw [twice_same Ha.out hax _ h2] at HR
          clear hax hbx h2
          go_wp2_with fail
          refine HR.out.mono ?_
          rintro e w1 ⟨rfl, hb1⟩
          have HB := Lib.hid (hb1.alloc hb1.size (.cells #[.string ⟨#[]⟩, .string ⟨#[]⟩, .string ⟨#[]⟩, .slice none 0 0, .slice none 0 0] 26))
          clear hb1 HR hconv
          go_wp2_with fail
          refine (known_any _ (gl_below HB.out h6 Hgl.out) (Nat.lt_of_lt_of_le h6 HB.out.size)).mono ?_
          rintro e w3 ⟨rfl, hb3⟩
          go_wp2
          go_ret
          exact ⟨rfl, HB.out.trans (hb3.mono HB.out.size)⟩
        · obtain ⟨sp, s0, s1, hz⟩ := twice_other Ha.out Hb.out hax hbx Wn.toNat (by by_cases h : a = b; exact Or.inr (by simpa [h] using hsame); exact Or.inl h)
          rw [hz] at HR
          have Hsame := Lib.hid hsame
          clear hz hax hbx hsame
          have s1 : ((bs a).toList == (bs a).toList) = true := by simp
          have s2 : ((bs b).toList == (bs b).toList) = true := by simp
          by_cases hab : a = b
          · have hW2 : Wn.toNat = 2 := by
              by_cases h : Wn.toNat = 2
              · exact h
              · exact absurd ⟨hab, h⟩ Hsame.out
            have e1 : ((bs a).toList == (bs b).toList) = true := by rw [hab]; simp
            have e2 : (bits .and .i64 way 3 != 2) = false := by rw [← HWn.out]; simp; omega
            clear hab hW2
            go_wp2_with fail
            refine HR.out.mono ?_
            rintro e w1 ⟨cs, rfl, hx, hb1⟩
            obtain ⟨A1, c1, A2, c2, inner, rfl, hrw, hc1, _, _⟩ := hx.open
            obtain ⟨g1, rfl, _, hv1, _⟩ := hrw 0 _ rfl
            obtain ⟨g1', hg, _, hv2, _⟩ := hrw 1 _ rfl
            obtain rfl : g1 = g1' := by injection hg with hg; injection hg
            have hg1 := cell_lt hv1
            have HB := Lib.hid (hb1.alloc hb1.size (.cells #[.string (bs sp), .string (bs [101]), .string (bs []), .slice (some ⟨g1, 0, none⟩) 2 c1, .slice A2 0 c2] 26))
            clear hb1 HR hconv hx hrw hg
            
            go_wp2_with fail
            refine (known_any _ (gl_below HB.out h6 Hgl.out) (Nat.lt_of_lt_of_le h6 HB.out.size)).mono ?_
            rintro e w3 ⟨rfl, hb3⟩
            go_wp2
            go_ret
            exact ⟨rfl, HB.out.trans (hb3.mono HB.out.size)⟩
          · have e1 : ((bs a).toList == (bs b).toList) = false := by rw [bs_toList, bs_toList]; exact beq_eq_false_iff_ne.2 hab
            clear hab
            go_wp2_with fail
            refine HR.out.mono ?_
            rintro e w1 ⟨cs, rfl, hx, hb1⟩
            obtain ⟨A1, c1, A2, c2, inner, rfl, hrw, hc1, _, _⟩ := hx.open
            obtain ⟨g1, rfl, _, hv1, _⟩ := hrw 0 _ rfl
            obtain ⟨g1', hg, _, hv2, _⟩ := hrw 1 _ rfl
            obtain rfl : g1 = g1' := by injection hg with hg; injection hg
            have hg1 := cell_lt hv1
            have HB := Lib.hid (hb1.alloc hb1.size (.cells #[.string (bs sp), .string (bs [101]), .string (bs []), .slice (some ⟨g1, 0, none⟩) 2 c1, .slice A2 0 c2] 26))
            clear hb1 HR hconv hx hrw hg
            
            go_wp2_with fail
            refine (known_any _ (gl_below HB.out h6 Hgl.out) (Nat.lt_of_lt_of_le h6 HB.out.size)).mono ?_
            rintro e w3 ⟨rfl, hb3⟩
            go_wp2
            go_ret
            exact ⟨rfl, HB.out.trans (hb3.mono HB.out.size)⟩
theorem twice_any (s t : ByteArray) (way : Int) (hs : s.size ≤ 9223372036854775807) (ht : t.size ≤ 9223372036854775807) (w : World) (hgl : ∃ x, w.cell? ⟨5, 0, none⟩ = some (.int .i64 x)) (h6 : 5 < w.heap.size) :
    Calls Tryz.prog 5 #[.string s, .string t, .int .i64 way] w fun e w' => e = .returned (.bool true) ∧ Below w.heap.size w w' := by
  cases ha : lettersB s.data.toList with
  | true =>
    cases hb : lettersB t.data.toList with
    | true =>
      have h := twice_walk _ _ ha hb way w hgl h6
      rw [bs_self, bs_self] at h
      exact h
    | false =>
      have La := Lib.hid (fun w => letters_call ha hs w)
      have Lb := Lib.hid (fun w => letters_call hb ht w)
      clear ha hb
      go_enter Tryz.func5, Tryz.ntmps5
      go_wp2_with fail
      refine (La.out _).mono ?_
      rintro e w1 ⟨rfl, rfl⟩
      go_wp2_with fail
      refine (Lb.out _).mono ?_
      rintro e w1 ⟨rfl, rfl⟩
      go_wp2_with fail
      refine (known_any _ hgl h6).mono ?_
      rintro e w2 ⟨rfl, hb2⟩
      go_wp2
      go_ret
      exact ⟨rfl, hb2⟩
  | false =>
    have La := Lib.hid (fun w => letters_call ha hs w)
    clear ha
    go_enter Tryz.func5, Tryz.ntmps5
    go_wp2_with fail
    refine (La.out _).mono ?_
    rintro e w1 ⟨rfl, rfl⟩
    go_wp2_with fail
    refine (known_any _ hgl h6).mono ?_
    rintro e w2 ⟨rfl, hb2⟩
    go_wp2
    go_ret
    exact ⟨rfl, hb2⟩
end Go.Proofs.YtmiflgcjphcigaaGreatDoor
