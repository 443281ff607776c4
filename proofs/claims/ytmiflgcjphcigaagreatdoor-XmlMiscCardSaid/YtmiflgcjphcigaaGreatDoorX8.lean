/-
  A part of the proof of statements on the element reader of package xml (X8): lemmas on what its functions come to; their conditions stand in each theorem.
-/
import Derived.Test.YtmiflgcjphcigaaGreatDoorX7
set_option linter.unusedVariables false
set_option linter.unusedSimpArgs false
namespace Go.Proofs.YtmiflgcjphcigaaGreatDoor
open Go.RowKit
set_option maxHeartbeats 1000000 in
theorem misc_any (b : Nat) (s : ByteArray) (ahead : Bool) (k0 : Nat) (r : B) (m : Nat) (w : World) (hA : At w b s r m) (hne : miscP ahead k0 r m ≠ .unk) : Calls Tryz.prog 32 #[.pointer (some ⟨b, 0, none⟩), .bool ahead] w (Post b s w unitV (miscP ahead k0 r m)) := by
  obtain ⟨o, ho⟩ : ∃ o, o = miscP ahead k0 r m := ⟨_, rfl⟩
  rw [← ho] at hne ⊢
  have HA := Lib.hid hA
  have Ho := Lib.hid ho
  clear hA ho
  go_enter Tryz.func32, Tryz.ntmps32
  go_wp2
  go_loopg [] k0 (fun k wr => Aside (∃ r' m', At wr b s r' m' ∧ Kp b w wr ∧ o = miscP ahead k r' m'))
  case atStart => exact ⟨r, m, HA.out, Kp.refl b w, Ho.out⟩
  case round =>
    obtain ⟨r', m', hA', hk', ho'⟩ := hrel.out
    clear hrel
    cases gk with
    | zero => exact absurd ho' hne
    | succ k1 =>
      unfold miscP at ho'
      have HA' := Lib.hid hA'
      have HK' := Lib.hid hk'
      have Ho' := Lib.hid ho'
      clear hA' hk' ho'
      go_wp2_with fail
      refine (blank_any b s r' m' _ HA'.out).mono ?_
      rintro e w1 ⟨rfl, hA1, hk1⟩
      have HK1 := Lib.hid hk1
      clear hk1
      cases hb : isBlank (r'.headD 0) with
      | true =>
        have Ho1 : Hid (o = miscP ahead k1 (r'.dropWhile isBlank) m') := by rw [Ho'.out, if_pos hb]; rfl
        clear hb
        go_wp2
        go_roundg k1
        case measure => omega
        case rel => exact ⟨_, _, hA1, HK'.out.trans HK1.out, Ho1.out⟩
      | false =>
        rw [dropWhile_stop r' hb] at hA1
        have HA1 := Lib.hid hA1
        have Ho1 : Hid (o = if Lib.hasPrefix r' [60, 33, 45, 45] then (remarkP r' m').then fun _ r m => miscP ahead k1 r m else
    if Lib.hasPrefix r' [60, 63] then (instrP false r' m').then fun _ r m => miscP ahead k1 r m else
    if ahead && Lib.hasPrefix r' [60, 33, 68, 79, 67, 84, 89, 80, 69] then .fail 13 else .ok () r' m') := by rw [Ho'.out, if_neg (by rw [hb]; decide)]; rfl
        clear hb hA1
        go_wp2_with fail
        refine (has_any b s r' m' _ _ HA1.out).mono ?_
        rintro e w2 ⟨rfl, n2, rfl⟩
        rw [show Lib.hasPrefix r' (⟨#[60, 33, 45, 45]⟩ : ByteArray).data.toList = Lib.hasPrefix r' [60, 33, 45, 45] from rfl]
        have HA2 := Lib.hid (HA1.out.drewN n2)
        cases hp2 : Lib.hasPrefix r' [60, 33, 45, 45] with
        | true =>
          have Ho2 : Hid (o = (remarkP r' m').then fun _ r m => miscP ahead k1 r m) := by rw [Ho1.out, if_pos hp2]; rfl
          clear hp2
          go_wp2_with fail
          refine (remark_any b s r' m' _ HA2.out (then_ne (by rw [← Ho2.out]; exact hne))).mono ?_
          intro e w3 hp
          cases h3 : remarkP r' m' with
          | unk => exact absurd (by rw [Ho2.out, h3]; rfl) hne
          | fail c =>
            rw [h3] at hp
            obtain ⟨rfl, hk⟩ := hp
            have HoF : Hid (o = .fail c) := by rw [Ho2.out, h3]; rfl
            go_wp2
            exact ⟨rfl, post_fail HoF (((HK'.out.trans HK1.out).drewN n2).trans hk)⟩
          | ok x3 r3 m3 =>
            rw [h3] at hp
            obtain ⟨he, hA3, hk3⟩ := hp
            replace he : e = .returned (.tuple #[]) := he
            subst he
            have Ho3 : Hid (o = miscP ahead k1 r3 m3) := by rw [Ho2.out, h3]; rfl
            go_wp2
            go_roundg k1
            case measure => omega
            case rel => exact ⟨_, _, hA3, ((HK'.out.trans HK1.out).drewN n2).trans hk3, Ho3.out⟩
        | false =>
          have Ho2 : Hid (o = if Lib.hasPrefix r' [60, 63] then (instrP false r' m').then fun _ r m => miscP ahead k1 r m else
    if ahead && Lib.hasPrefix r' [60, 33, 68, 79, 67, 84, 89, 80, 69] then .fail 13 else .ok () r' m') := by rw [Ho1.out, if_neg (by rw [hp2]; decide)]; rfl
          clear hp2
          go_wp2_with fail
          refine (has_any b s r' m' _ _ HA2.out).mono ?_
          rintro e w3 ⟨rfl, n3, rfl⟩
          rw [show Lib.hasPrefix r' (⟨#[60, 63]⟩ : ByteArray).data.toList = Lib.hasPrefix r' [60, 63] from rfl]
          have HA3 := Lib.hid (HA1.out.drewN (n2 + n3))
          cases hp3 : Lib.hasPrefix r' [60, 63] with
          | true =>
            have Ho3 : Hid (o = (instrP false r' m').then fun _ r m => miscP ahead k1 r m) := by rw [Ho2.out, if_pos hp3]; rfl
            clear hp3
            go_wp2_with fail
            refine (instr_any b s false r' m' _ HA3.out (then_ne (by rw [← Ho3.out]; exact hne))).mono ?_
            intro e w4 hp
            cases h4 : instrP false r' m' with
            | unk => exact absurd (by rw [Ho3.out, h4]; rfl) hne
            | fail c =>
              rw [h4] at hp
              obtain ⟨rfl, hk⟩ := hp
              have HoF : Hid (o = .fail c) := by rw [Ho3.out, h4]; rfl
              go_wp2
              exact ⟨rfl, post_fail HoF (((HK'.out.trans HK1.out).drewN (n2 + n3)).trans hk)⟩
            | ok x4 r4 m4 =>
              rw [h4] at hp
              obtain ⟨he, hA4, hk4⟩ := hp
              replace he : e = .returned (.tuple #[]) := he
              subst he
              have Ho4 : Hid (o = miscP ahead k1 r4 m4) := by rw [Ho3.out, h4]; rfl
              go_wp2
              go_roundg k1
              case measure => omega
              case rel => exact ⟨_, _, hA4, ((HK'.out.trans HK1.out).drewN (n2 + n3)).trans hk4, Ho4.out⟩
          | false =>
            have Ho3 : Hid (o = if ahead && Lib.hasPrefix r' [60, 33, 68, 79, 67, 84, 89, 80, 69] then .fail 13 else .ok () r' m') := by rw [Ho2.out, if_neg (by rw [hp3]; decide)]; rfl
            clear hp3
            cases ahead with
            | false =>
              have Ho4 : Hid (o = .ok () r' m') := by rw [Ho3.out]; rfl
              go_wp2
              go_end0
              exact post_ok Ho4 rfl HA3.out ((HK'.out.trans HK1.out).drewN (n2 + n3))
            | true =>
              go_wp2_with fail
              refine (has_any b s r' m' _ _ HA3.out).mono ?_
              rintro e w4 ⟨rfl, n4, rfl⟩
              rw [show Lib.hasPrefix r' (⟨#[60, 33, 68, 79, 67, 84, 89, 80, 69]⟩ : ByteArray).data.toList = Lib.hasPrefix r' [60, 33, 68, 79, 67, 84, 89, 80, 69] from rfl]
              cases hp4 : Lib.hasPrefix r' [60, 33, 68, 79, 67, 84, 89, 80, 69] with
              | true =>
                have HoF : Hid (o = .fail 13) := by rw [Ho3.out, hp4]; rfl
                clear hp4
                go_wp2_with fail
                refine (must_no _ _).mono ?_
                rintro e w5 ⟨rfl, rfl⟩
                go_wp2
                exact ⟨rfl, post_fail HoF ((HK'.out.trans HK1.out).drewN _)⟩
              | false =>
                have Ho4 : Hid (o = .ok () r' m') := by rw [Ho3.out, hp4]; rfl
                clear hp4
                go_wp2
                go_end0
                exact post_ok Ho4 rfl (HA1.out.drewN _) ((HK'.out.trans HK1.out).drewN _)
end Go.Proofs.YtmiflgcjphcigaaGreatDoor
