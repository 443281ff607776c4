/-
  A part of the proof of statements on the element reader of package xml (X7): lemmas on what its functions come to; their conditions stand in each theorem.
-/
import Derived.Test.YtmiflgcjphcigaaGreatDoorX6
set_option linter.unusedVariables false
set_option linter.unusedSimpArgs false
namespace Go.Proofs.YtmiflgcjphcigaaGreatDoor
open Go.RowKit
theorem ascii_take {s : ByteArray} {r : B} {m b : Nat} {w : World} (hA : At w b s r m) (l : B) (h : ∀ c ∈ l, c ∈ r) : ∀ (j : Nat) (x : UInt8), (bs l).data.toList[j]? = some x → x.toNat < 128 := by
  intro j x hx
  rw [bs_data] at hx
  have h1 := h x (List.mem_of_getElem? hx)
  obtain ⟨a, _, hr, _⟩ := hA.rd
  rw [← hr] at h1
  exact hA.asc x (List.mem_of_mem_drop h1)
theorem ascii_xml : ∀ (j : Nat) (x : UInt8), (⟨#[120, 109, 108]⟩ : ByteArray).data.toList[j]? = some x → x.toNat < 128 := by
  intro j x hx
  have := List.mem_of_getElem? hx
  simp at this
  rcases this with rfl | rfl | rfl <;> decide
theorem bs_beq (l k : B) : ((bs l).toList == k) = (l == k) := by rw [bs_toList]
theorem rest_size {s : ByteArray} {r : B} {m b : Nat} {w : World} (hA : At w b s r m) : r.length < 4294967281 := by
  obtain ⟨a, _, hr, _⟩ := hA.rd
  have := drop_len hr
  have := hA.sz
  omega
set_option maxHeartbeats 1000000 in
theorem instr_any (b : Nat) (s : ByteArray) (first : Bool) (r : B) (m : Nat) (w : World) (hA : At w b s r m) (hne : instrP first r m ≠ .unk) : Calls Tryz.prog 31 #[.pointer (some ⟨b, 0, none⟩), .bool first] w (Post b s w unitV (instrP first r m)) := by
  obtain ⟨o, ho⟩ : ∃ o, o = instrP first r m := ⟨_, rfl⟩
  rw [← ho] at hne ⊢
  unfold instrP at ho
  have HA := Lib.hid hA
  have Ho := Lib.hid ho
  clear hA ho
  go_enter Tryz.func31, Tryz.ntmps31
  go_wp2_with fail
  refine (wants_any b s r m w _ HA.out).mono ?_
  intro e w1 hp
  change Post b s w unitV (wantP [60, 63] r m) e w1 at hp
  cases h1 : wantP [60, 63] r m with
  | unk => exact absurd (by rw [Ho.out, h1]; rfl) hne
  | fail c =>
    rw [h1] at hp
    obtain ⟨rfl, hk⟩ := hp
    have HoF : Hid (o = .fail c) := by rw [Ho.out, h1]; rfl
    go_wp2
    exact ⟨rfl, post_fail HoF (hk)⟩
  | ok x1 r1 m1 =>
    rw [h1] at hp
    obtain ⟨he, hA1, hk1⟩ := hp
    replace he : e = .returned (.tuple #[]) := he
    subst he
    have Ho1 : Hid (o = (nameP r1 m1).then fun n r m =>
        if Lib.equalFold n [120, 109, 108] && !(first && n == [120, 109, 108]) then .fail 10 else
        if Lib.hasPrefix r [63, 62] then .ok () (r.drop 2) m else
        if isBlank (r.headD 0) then (uptoP [63, 62] (r.dropWhile isBlank) m).then fun _ r m => .ok () r m else .fail 10) := by rw [Ho.out, h1]; rfl
    have HA1 := Lib.hid hA1
    have HK1 := Lib.hid hk1
    clear hA1 hk1
    go_wp2_with fail
    refine (name_any b s r1 m1 w1 HA1.out).mono ?_
    intro e w2 hp
    change Post b s w1 strV (nameP r1 m1) e w2 at hp
    cases h2 : nameP r1 m1 with
    | unk => exact absurd (by rw [Ho1.out, h2]; rfl) hne
    | fail c =>
      rw [h2] at hp
      obtain ⟨rfl, hk⟩ := hp
      have HoF : Hid (o = .fail c) := by rw [Ho1.out, h2]; rfl
      go_wp2
      exact ⟨rfl, post_fail HoF (HK1.out.trans hk)⟩
    | ok x2 r2 m2 =>
      rw [h2] at hp
      obtain ⟨he, hA2, hk2⟩ := hp
      replace he : e = .returned (.string (bs x2)) := he
      subst he
      have Ho2 : Hid (o = if Lib.equalFold x2 [120, 109, 108] && !(first && x2 == [120, 109, 108]) then .fail 10 else
          if Lib.hasPrefix r2 [63, 62] then .ok () (r2.drop 2) m2 else
          if isBlank (r2.headD 0) then (uptoP [63, 62] (r2.dropWhile isBlank) m2).then fun _ r m => .ok () r m else .fail 10) := by rw [Ho1.out, h2]; rfl
      have HA2 := Lib.hid hA2
      have HK2 := Lib.hid hk2
      clear hA2 hk2
      have hef := ascii_take HA1.out x2 (by
        unfold nameP at h2
        split at h2
        · injection h2 with e1 e2 e3
          rw [← e1]
          exact fun c hc => (List.takeWhile_sublist _).subset hc
        · cases h2)
      have hsz : (bs x2).size < 4294967281 := by
        rw [bs_size]
        have hr := rest_size HA1.out
        unfold nameP at h2
        split at h2
        · injection h2 with e1 e2 e3
          rw [← e1]
          have := (List.takeWhile_sublist (p := isNextB) (l := r1)).length_le
          omega
        · cases h2
      have Hef := Lib.hid hef
      clear hef
      go_wp2_with fail
      refine (Tryz.strings_EqualFold (bs x2) _ _ hsz Hef.out ascii_xml).mono ?_
      rintro e w3 ⟨rfl, rfl⟩
      rw [show Lib.equalFold (bs x2).data.toList (⟨#[120, 109, 108]⟩ : ByteArray).data.toList = Lib.equalFold x2 [120, 109, 108] from rfl]
      have hbq := bs_beq x2 [120, 109, 108]
      have Hbq := Lib.hid hbq
      clear hbq
      cases hc : (Lib.equalFold x2 [120, 109, 108] && !(first && x2 == [120, 109, 108])) with
      | true =>
        have HoF : Hid (o = .fail 10) := by rw [Ho2.out, if_pos hc]; rfl
        have hc1 : Lib.equalFold x2 [120, 109, 108] = true := by cases h : Lib.equalFold x2 [120, 109, 108] <;> rw [h] at hc <;> first | rfl | exact hc
        rw [hc1] at hc ⊢
        cases first with
        | false =>
          clear hc hc1
          go_wp2_with fail
          refine (must_no _ _).mono ?_
          rintro e w4 ⟨rfl, rfl⟩
          go_wp2
          exact ⟨rfl, post_fail HoF ((HK1.out).trans HK2.out)⟩
        | true =>
          have hx : ((bs x2).toList == [120, 109, 108]) = false := by rw [Hbq.out]; simpa using hc
          clear hc hc1
          go_wp2_with fail
          refine (must_no _ _).mono ?_
          rintro e w4 ⟨rfl, rfl⟩
          go_wp2
          exact ⟨rfl, post_fail HoF ((HK1.out).trans HK2.out)⟩
      | false =>
        have Ho3 : Hid (o = if Lib.hasPrefix r2 [63, 62] then .ok () (r2.drop 2) m2 else
          if isBlank (r2.headD 0) then (uptoP [63, 62] (r2.dropWhile isBlank) m2).then fun _ r m => .ok () r m else .fail 10) := by rw [Ho2.out, if_neg (by rw [hc]; decide)]; rfl
        clear Ho2
        have Hc := Lib.hid hc
        clear hc
        have hgo : ∀ (w3 : World) (K : Ending → World → Prop), (Calls Tryz.prog 26 #[.bool true, .int .i64 10] w3 K → Calls Tryz.prog 26 #[.bool true, .int .i64 10] w3 K) := fun _ _ h => h
        clear hgo
        cases hfl : Lib.equalFold x2 [120, 109, 108] with
        | true =>
          have hf : first = true := by
            have := Hc.out
            rw [hfl] at this
            cases first with
            | true => rfl
            | false => simp at this
          subst hf
          have hx : ((bs x2).toList == [120, 109, 108]) = true := by
            rw [Hbq.out]
            have := Hc.out
            rw [hfl] at this
            simpa using this
          clear hfl
          go_wp2_with fail
          refine (must_ok _ _).mono ?_
          rintro e w4 ⟨rfl, rfl⟩
          go_wp2_with fail
          refine (take_any b s r2 m2 _ _ HA2.out).mono ?_
          rintro e w4 ⟨rfl, hA4, hk4⟩
          have HK4 := Lib.hid hk4
          clear hk4
          change At w4 b s (if Lib.hasPrefix r2 [63, 62] = true then r2.drop 2 else r2) m2 at hA4
          rw [show Lib.hasPrefix r2 (⟨#[63, 62]⟩ : ByteArray).data.toList = Lib.hasPrefix r2 [63, 62] from rfl]
          cases hp : Lib.hasPrefix r2 [63, 62] with
          | true =>
            have Ho4 : Hid (o = .ok () (r2.drop 2) m2) := by rw [Ho3.out, if_pos hp]; rfl
            rw [if_pos hp] at hA4
            clear hp
            go_wp2
            go_end0
            exact post_ok Ho4 rfl hA4 ((HK1.out.trans HK2.out).trans HK4.out)
          | false =>
            have Ho4 : Hid (o = if isBlank (r2.headD 0) then (uptoP [63, 62] (r2.dropWhile isBlank) m2).then fun _ r m => .ok () r m else .fail 10) := by rw [Ho3.out, if_neg (by rw [hp]; decide)]; rfl
            rw [if_neg (by rw [hp]; decide)] at hA4
            have HA4 := Lib.hid hA4
            clear hp hA4
            go_wp2_with fail
            refine (blank_any b s r2 m2 _ HA4.out).mono ?_
            rintro e w5 ⟨rfl, hA5, hk5⟩
            have HA6 := Lib.hid hA5
            have HK6 := Lib.hid hk5
            clear hA5 hk5
            cases hb : isBlank (r2.headD 0) with
            | false =>
              have HoF : Hid (o = .fail 10) := by rw [Ho4.out, if_neg (by rw [hb]; decide)]; rfl
              clear hb
              go_wp2_with fail
              refine (must_no _ _).mono ?_
              rintro e w6 ⟨rfl, rfl⟩
              go_wp2
              exact ⟨rfl, post_fail HoF (((HK1.out.trans HK2.out).trans HK4.out).trans HK6.out)⟩
            | true =>
              have Ho6 : Hid (o = (uptoP [63, 62] (r2.dropWhile isBlank) m2).then fun _ r m => .ok () r m) := by rw [Ho4.out, if_pos hb]; rfl
              clear hb
              go_wp2_with fail
              refine (must_ok _ _).mono ?_
              rintro e w6 ⟨rfl, rfl⟩
              go_wp2_with fail
              refine (upto_any b s _ m2 w6 _ HA6.out).mono ?_
              intro e w7 hp
              change Post b s w6 strV (uptoP [63, 62] (r2.dropWhile isBlank) m2) e w7 at hp
              cases h7 : uptoP [63, 62] (r2.dropWhile isBlank) m2 with
              | unk => exact absurd (by rw [Ho6.out, h7]; rfl) hne
              | fail c =>
                rw [h7] at hp
                obtain ⟨rfl, hk⟩ := hp
                have HoF : Hid (o = .fail c) := by rw [Ho6.out, h7]; rfl
                go_wp2
                exact ⟨rfl, post_fail HoF ((((HK1.out.trans HK2.out).trans HK4.out).trans HK6.out).trans hk)⟩
              | ok x7 r7 m7 =>
                rw [h7] at hp
                obtain ⟨he, hA7, hk7⟩ := hp
                replace he : e = .returned (.string (bs x7)) := he
                subst he
                have Ho7 : Hid (o = .ok () r7 m7) := by rw [Ho6.out, h7]; rfl
                have HA7 := Lib.hid hA7
                have HK7 := Lib.hid hk7
                clear hA7 hk7
                go_wp2
                go_end0
                exact post_ok Ho7 rfl HA7.out ((((HK1.out.trans HK2.out).trans HK4.out).trans HK6.out).trans HK7.out)
        | false =>
          clear hfl
          go_wp2_with fail
          refine (must_ok _ _).mono ?_
          rintro e w4 ⟨rfl, rfl⟩
          go_wp2_with fail
          refine (take_any b s r2 m2 _ _ HA2.out).mono ?_
          rintro e w4 ⟨rfl, hA4, hk4⟩
          have HK4 := Lib.hid hk4
          clear hk4
          change At w4 b s (if Lib.hasPrefix r2 [63, 62] = true then r2.drop 2 else r2) m2 at hA4
          rw [show Lib.hasPrefix r2 (⟨#[63, 62]⟩ : ByteArray).data.toList = Lib.hasPrefix r2 [63, 62] from rfl]
          cases hp : Lib.hasPrefix r2 [63, 62] with
          | true =>
            have Ho4 : Hid (o = .ok () (r2.drop 2) m2) := by rw [Ho3.out, if_pos hp]; rfl
            rw [if_pos hp] at hA4
            clear hp
            go_wp2
            go_end0
            exact post_ok Ho4 rfl hA4 ((HK1.out.trans HK2.out).trans HK4.out)
          | false =>
            have Ho4 : Hid (o = if isBlank (r2.headD 0) then (uptoP [63, 62] (r2.dropWhile isBlank) m2).then fun _ r m => .ok () r m else .fail 10) := by rw [Ho3.out, if_neg (by rw [hp]; decide)]; rfl
            rw [if_neg (by rw [hp]; decide)] at hA4
            have HA4 := Lib.hid hA4
            clear hp hA4
            go_wp2_with fail
            refine (blank_any b s r2 m2 _ HA4.out).mono ?_
            rintro e w5 ⟨rfl, hA5, hk5⟩
            have HA6 := Lib.hid hA5
            have HK6 := Lib.hid hk5
            clear hA5 hk5
            cases hb : isBlank (r2.headD 0) with
            | false =>
              have HoF : Hid (o = .fail 10) := by rw [Ho4.out, if_neg (by rw [hb]; decide)]; rfl
              clear hb
              go_wp2_with fail
              refine (must_no _ _).mono ?_
              rintro e w6 ⟨rfl, rfl⟩
              go_wp2
              exact ⟨rfl, post_fail HoF (((HK1.out.trans HK2.out).trans HK4.out).trans HK6.out)⟩
            | true =>
              have Ho6 : Hid (o = (uptoP [63, 62] (r2.dropWhile isBlank) m2).then fun _ r m => .ok () r m) := by rw [Ho4.out, if_pos hb]; rfl
              clear hb
              go_wp2_with fail
              refine (must_ok _ _).mono ?_
              rintro e w6 ⟨rfl, rfl⟩
              go_wp2_with fail
              refine (upto_any b s _ m2 w6 _ HA6.out).mono ?_
              intro e w7 hp
              change Post b s w6 strV (uptoP [63, 62] (r2.dropWhile isBlank) m2) e w7 at hp
              cases h7 : uptoP [63, 62] (r2.dropWhile isBlank) m2 with
              | unk => exact absurd (by rw [Ho6.out, h7]; rfl) hne
              | fail c =>
                rw [h7] at hp
                obtain ⟨rfl, hk⟩ := hp
                have HoF : Hid (o = .fail c) := by rw [Ho6.out, h7]; rfl
                go_wp2
                exact ⟨rfl, post_fail HoF ((((HK1.out.trans HK2.out).trans HK4.out).trans HK6.out).trans hk)⟩
              | ok x7 r7 m7 =>
                rw [h7] at hp
                obtain ⟨he, hA7, hk7⟩ := hp
                replace he : e = .returned (.string (bs x7)) := he
                subst he
                have Ho7 : Hid (o = .ok () r7 m7) := by rw [Ho6.out, h7]; rfl
                have HA7 := Lib.hid hA7
                have HK7 := Lib.hid hk7
                clear hA7 hk7
                go_wp2
                go_end0
                exact post_ok Ho7 rfl HA7.out ((((HK1.out.trans HK2.out).trans HK4.out).trans HK6.out).trans HK7.out)
end Go.Proofs.YtmiflgcjphcigaaGreatDoor
