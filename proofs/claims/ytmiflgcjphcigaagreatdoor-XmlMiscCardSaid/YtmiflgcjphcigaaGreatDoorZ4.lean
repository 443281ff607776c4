/-
  A part of the proof of statements on the element reader of package xml (Z4): lemmas on what its functions come to; their conditions stand in each theorem.
-/
import Derived.Test.YtmiflgcjphcigaaGreatDoorZ3
set_option linter.unusedVariables false
set_option linter.unusedSimpArgs false
namespace Go.Proofs.YtmiflgcjphcigaaGreatDoor
open Go.RowKit Go.Proofs.YtmiflgcjphcigaaGreatDoorW.PrintWords
/-! ## XmlEnds: the walk -/
theorem ends_text (a b : B) : (((bs [60] ++ bs a) ++ bs [62, 60, 47]) ++ bs b) ++ bs [32, 62] = bs (endsB a b) := by
  rw [bs_append, bs_append, bs_append, bs_append]
  unfold endsB
  simp
theorem short_text (a : B) : (bs [60] ++ bs a) ++ bs [32, 47, 62] = bs (shortB a) := by
  rw [bs_append, bs_append]
  unfold shortB
  simp
set_option maxHeartbeats 4000000 in
set_option maxRecDepth 100000 in
theorem ends_walk (a b : B) (ha : lettersB a = true) (hb : lettersB b = true) (short : Bool) (w : World) (hgl : ∃ x, w.cell? ⟨5, 0, none⟩ = some (.int .i64 x)) (h6 : 5 < w.heap.size) :
    Calls Tryz.prog 6 #[.string (bs a), .string (bs b), .bool short] w fun e w' => e = .returned (.bool true) ∧ Below w.heap.size w w' := by
  have hla := letters_len ha
  have hlb := letters_len hb
  have Ha := Lib.hid ha
  have Hb := Lib.hid hb
  have Hgl := Lib.hid hgl
  have sa : (bs a).size ≤ 50 := by rw [bs_size]; omega
  have sb : (bs b).size ≤ 50 := by rw [bs_size]; omega
  have La : ∀ w, Calls Tryz.prog 12 #[.string (bs a)] w fun e w' => e = .returned (.bool true) ∧ w = w' := fun w => by rw [← ha]; exact letters_any (bs a) w (by omega)
  have Lb : ∀ w, Calls Tryz.prog 12 #[.string (bs b)] w fun e w' => e = .returned (.bool true) ∧ w = w' := fun w => by rw [← hb]; exact letters_any (bs b) w (by omega)
  have HLa := Lib.hid La
  have HLb := Lib.hid Lb
  clear hgl ha hb La Lb
  go_enter Tryz.func6, Tryz.ntmps6
  go_wp2_with fail
  refine (HLa.out _).mono ?_
  rintro e w1 ⟨rfl, rfl⟩
  go_wp2_with fail
  refine (HLb.out _).mono ?_
  rintro e w1 ⟨rfl, rfl⟩
  clear HLa HLb
  have hconv := conv_text w (endsB a b) (⟨#[60]⟩ ++ bs a ++ ⟨#[62, 60, 47]⟩ ++ bs b ++ ⟨#[32, 62]⟩) (ends_text a b)
  have hrd := ends_read Ha.out Hb.out
  by_cases hba : b = a
  · subst hba
    rw [if_pos rfl] at hrd
    have hr := read_text 10 (by omega) (endsB b b) w Hgl.out h6 (by unfold endsB; simp; omega) (by rw [hrd]; simp)
    rw [hrd] at hr
    have HR := Lib.hid hr
    clear hr hrd
    go_wp2_with fail
    refine HR.out.mono ?_
    rintro e w1 ⟨cs, rfl, hx, hb1⟩
    obtain ⟨A1, c1, A2, c2, inner, rfl, _, _, _, _⟩ := hx.open
    clear hx
    obtain ⟨tb, htb⟩ : ∃ tb, tb = w1.heap.size := ⟨_, rfl⟩
    obtain ⟨W1, hW1⟩ : ∃ W, W = w1.alloc (.cells #[.string (bs []), .string (bs b), .string (bs []), .slice A1 0 c1, .slice A2 0 c2] 26) := ⟨_, rfl⟩
    have hv := TV.new [.string (bs []), .string (bs b), .string (bs []), .slice A1 0 c1, .slice A2 0 c2] hb1
    rw [show w1.alloc (.cells ([.string (bs []), .string (bs b), .string (bs []), .slice A1 0 c1, .slice A2 0 c2] : List Value).toArray 26) = W1 from hW1.symm, ← htb] at hv
    have HV := Lib.hid hv
    clear hv hb1 HR hconv
    cases short with
    | true =>
      go_upto_if 29 with fail
      rw [← htb, ← hW1]
      clear htb hW1
      have hg2 := gl_below HV.out.L h6 Hgl.out
      have Hgl2 := Lib.hid hg2
      have h62 : 5 < W1.heap.size := Nat.lt_of_lt_of_le h6 HV.out.L.size
      have hconv2 := conv_text W1 (shortB b) (⟨#[60]⟩ ++ bs b ++ ⟨#[32, 47, 62]⟩) (short_text b)
      have hr2 := read_text 10 (by omega) (shortB b) W1 Hgl2.out h62 (by unfold shortB; simp; omega) (by rw [short_read Ha.out]; simp)
      rw [short_read Ha.out] at hr2
      have HR2 := Lib.hid hr2
      clear hg2 hr2
      go_wp2_with fail
      refine HR2.out.mono ?_
      rintro e w2 ⟨cs2, rfl, hx2, hb2⟩
      have HV2 := Lib.hid (HV.out.lower hb2)
      obtain ⟨A3, c3, A4, c4, inner2, rfl, _, _, _, _⟩ := hx2.open
      have q0 : w2.cell? ⟨tb, 0, none⟩ = some _ := HV2.out.X.cell 0
      have q1 : w2.cell? ⟨tb, 1, none⟩ = some _ := HV2.out.X.cell 1
      have q2 : w2.cell? ⟨tb, 2, none⟩ = some _ := HV2.out.X.cell 2
      have q3 : w2.cell? ⟨tb, 3, none⟩ = some _ := HV2.out.X.cell 3
      have q4 : w2.cell? ⟨tb, 4, none⟩ = some _ := HV2.out.X.cell 4
      have f0 := HV2.out.X.fr 0
      have f1 := HV2.out.X.fr 1
      have f2 := HV2.out.X.fr 2
      have f3 := HV2.out.X.fr 3
      have f4 := HV2.out.X.fr 4
      have HV3 := Lib.hid (HV2.out.put (.string (bs [])) (.string (bs b)) (.string (bs [])) (.slice A3 0 c3) (.slice A4 0 c4))
      have Hgl3 := Lib.hid (gl_below HV3.out.L h6 Hgl.out)
      have h63 := Nat.lt_of_lt_of_le h6 HV3.out.L.size
      clear HV HV2 HR2 hx2 hb2 hconv2
      go_wp2_with fail
      refine (known_any _ Hgl3.out h63).mono ?_
      rintro e w3 ⟨rfl, hb3⟩
      go_wp2
      go_ret
      exact ⟨rfl, HV3.out.L.trans (hb3.mono HV3.out.L.size)⟩
    | false =>
      have q1 : W1.cell? ⟨tb, 1, none⟩ = some (.string (bs b)) := HV.out.X.cell 1
      have q4 : W1.cell? ⟨tb, 4, none⟩ = some (.slice A2 0 c2) := HV.out.X.cell 4
      have Hgl3 := Lib.hid (gl_below HV.out.L h6 Hgl.out)
      have h63 := Nat.lt_of_lt_of_le h6 HV.out.L.size
      go_upto_if 29 with fail
      rw [← htb, ← hW1]
      clear htb hW1
      go_wp2_with fail
      refine (known_any _ Hgl3.out h63).mono ?_
      rintro e w3 ⟨rfl, hb3⟩
      go_wp2
      go_ret
      exact ⟨rfl, HV.out.L.trans (hb3.mono HV.out.L.size)⟩
  · rw [if_neg hba] at hrd
    have hr := read_text 10 (by omega) (endsB a b) w Hgl.out h6 (by unfold endsB; simp; omega) (by rw [hrd]; simp)
    rw [hrd] at hr
    have HR := Lib.hid hr
    have e1 : ((bs a).toList == (bs b).toList) = false := by rw [bs_toList, bs_toList]; exact beq_eq_false_iff_ne.2 (Ne.symm hba)
    have e2 : ((bs a).toList != (bs b).toList) = true := by rw [bs_toList, bs_toList]; exact bne_iff_ne.2 (Ne.symm hba)
    clear hr hrd
    go_wp2_with fail
    refine HR.out.mono ?_
    rintro e w1 ⟨rfl, hb1⟩
    obtain ⟨tb, htb⟩ : ∃ tb, tb = w1.heap.size := ⟨_, rfl⟩
    obtain ⟨W1, hW1⟩ : ∃ W, W = w1.alloc (.cells #[.string ⟨#[]⟩, .string ⟨#[]⟩, .string ⟨#[]⟩, .slice none 0 0, .slice none 0 0] 26) := ⟨_, rfl⟩
    have hv := TV.new [.string ⟨#[]⟩, .string ⟨#[]⟩, .string ⟨#[]⟩, .slice none 0 0, .slice none 0 0] hb1
    rw [show w1.alloc (.cells ([.string ⟨#[]⟩, .string ⟨#[]⟩, .string ⟨#[]⟩, .slice none 0 0, .slice none 0 0] : List Value).toArray 26) = W1 from hW1.symm, ← htb] at hv
    have HV := Lib.hid hv
    clear hv hb1 HR hconv
    cases short with
    | true =>
      go_upto_if 29 with fail
      rw [← htb, ← hW1]
      clear htb hW1 e1 e2
      have hg2 := gl_below HV.out.L h6 Hgl.out
      have Hgl2 := Lib.hid hg2
      have h62 : 5 < W1.heap.size := Nat.lt_of_lt_of_le h6 HV.out.L.size
      have hconv2 := conv_text W1 (shortB a) (⟨#[60]⟩ ++ bs a ++ ⟨#[32, 47, 62]⟩) (short_text a)
      have hr2 := read_text 10 (by omega) (shortB a) W1 Hgl2.out h62 (by unfold shortB; simp; omega) (by rw [short_read Ha.out]; simp)
      rw [short_read Ha.out] at hr2
      have HR2 := Lib.hid hr2
      clear hg2 hr2
      go_wp2_with fail
      refine HR2.out.mono ?_
      rintro e w2 ⟨cs2, rfl, hx2, hb2⟩
      have HV2 := Lib.hid (HV.out.lower hb2)
      obtain ⟨A3, c3, A4, c4, inner2, rfl, _, _, _, _⟩ := hx2.open
      have q0 : w2.cell? ⟨tb, 0, none⟩ = some _ := HV2.out.X.cell 0
      have q1 : w2.cell? ⟨tb, 1, none⟩ = some _ := HV2.out.X.cell 1
      have q2 : w2.cell? ⟨tb, 2, none⟩ = some _ := HV2.out.X.cell 2
      have q3 : w2.cell? ⟨tb, 3, none⟩ = some _ := HV2.out.X.cell 3
      have q4 : w2.cell? ⟨tb, 4, none⟩ = some _ := HV2.out.X.cell 4
      have f0 := HV2.out.X.fr 0
      have f1 := HV2.out.X.fr 1
      have f2 := HV2.out.X.fr 2
      have f3 := HV2.out.X.fr 3
      have f4 := HV2.out.X.fr 4
      have HV3 := Lib.hid (HV2.out.put (.string (bs [])) (.string (bs a)) (.string (bs [])) (.slice A3 0 c3) (.slice A4 0 c4))
      have Hgl3 := Lib.hid (gl_below HV3.out.L h6 Hgl.out)
      have h63 := Nat.lt_of_lt_of_le h6 HV3.out.L.size
      clear HV HV2 HR2 hx2 hb2 hconv2
      go_wp2_with fail
      refine (known_any _ Hgl3.out h63).mono ?_
      rintro e w3 ⟨rfl, hb3⟩
      go_wp2
      go_ret
      exact ⟨rfl, HV3.out.L.trans (hb3.mono HV3.out.L.size)⟩
    | false =>
      have q1 : W1.cell? ⟨tb, 1, none⟩ = some (.string ⟨#[]⟩) := HV.out.X.cell 1
      have Hgl3 := Lib.hid (gl_below HV.out.L h6 Hgl.out)
      have h63 := Nat.lt_of_lt_of_le h6 HV.out.L.size
      go_upto_if 29 with fail
      rw [← htb, ← hW1]
      clear htb hW1
      go_wp2_with fail
      refine (known_any _ Hgl3.out h63).mono ?_
      rintro e w3 ⟨rfl, hb3⟩
      go_wp2
      go_ret
      exact ⟨rfl, HV.out.L.trans (hb3.mono HV.out.L.size)⟩
end Go.Proofs.YtmiflgcjphcigaaGreatDoor
