/-
  A part of the proof of statements on the element reader of package xml (Z9): lemmas on what its functions come to; their conditions stand in each theorem.
-/
import Derived.Test.YtmiflgcjphcigaaGreatDoorZ5
import Derived.Test.YtmiflgcjphcigaaGreatDoorY5
set_option linter.unusedVariables false
set_option linter.unusedSimpArgs false
namespace Go.Proofs.YtmiflgcjphcigaaGreatDoor
open Go.RowKit Go.Proofs.YtmiflgcjphcigaaGreatDoorW.PrintWords
/-! ## XmlSpaces: the walk -/
theorem sp_l0 : (⟨#[60, 114]⟩ : ByteArray) = bs [60, 114] := rfl
theorem sp_l1 : (⟨#[62, 60, 112, 58, 97]⟩ : ByteArray) = bs [62, 60, 112, 58, 97] := rfl
theorem sp_l2 : (⟨#[32, 120, 109, 108, 110, 115, 58, 112, 61, 34]⟩ : ByteArray) = bs [32, 120, 109, 108, 110, 115, 58, 112, 61, 34] := rfl
theorem sp_l3 : (⟨#[34]⟩ : ByteArray) = bs [34] := rfl
theorem sp_l4 : (⟨#[32, 112, 58, 120, 61, 34, 49, 34, 47, 62, 60, 47, 114, 62]⟩ : ByteArray) = bs [32, 112, 58, 120, 61, 34, 49, 34, 47, 62, 60, 47, 114, 62] := rfl
theorem spaces_text00 (o i : B) : (⟨#[60, 114]⟩ ++ ⟨#[62, 60, 112, 58, 97]⟩) ++ ⟨#[32, 112, 58, 120, 61, 34, 49, 34, 47, 62, 60, 47, 114, 62]⟩ = bs (spacesB false false o i) := by
  rw [sp_l0, sp_l1, sp_l4]
  repeat rw [bs_append]
  congr 1
theorem spaces_text01 (o i : B) : ((((⟨#[60, 114]⟩ ++ ⟨#[62, 60, 112, 58, 97]⟩) ++ ⟨#[32, 120, 109, 108, 110, 115, 58, 112, 61, 34]⟩) ++ bs i) ++ ⟨#[34]⟩) ++ ⟨#[32, 112, 58, 120, 61, 34, 49, 34, 47, 62, 60, 47, 114, 62]⟩ = bs (spacesB false true o i) := by
  rw [sp_l0, sp_l1, sp_l2, sp_l3, sp_l4]
  repeat rw [bs_append]
  congr 1
  simp [spacesB, sp1, sp2, attrsT, attrT, qualT, xmlnsB]
theorem spaces_text10 (o i : B) : ((((⟨#[60, 114]⟩ ++ ⟨#[32, 120, 109, 108, 110, 115, 58, 112, 61, 34]⟩) ++ bs o) ++ ⟨#[34]⟩) ++ ⟨#[62, 60, 112, 58, 97]⟩) ++ ⟨#[32, 112, 58, 120, 61, 34, 49, 34, 47, 62, 60, 47, 114, 62]⟩ = bs (spacesB true false o i) := by
  rw [sp_l0, sp_l1, sp_l2, sp_l3, sp_l4]
  repeat rw [bs_append]
  congr 1
  simp [spacesB, sp1, sp2, attrsT, attrT, qualT, xmlnsB]
theorem spaces_text11 (o i : B) : (((((((⟨#[60, 114]⟩ ++ ⟨#[32, 120, 109, 108, 110, 115, 58, 112, 61, 34]⟩) ++ bs o) ++ ⟨#[34]⟩) ++ ⟨#[62, 60, 112, 58, 97]⟩) ++ ⟨#[32, 120, 109, 108, 110, 115, 58, 112, 61, 34]⟩) ++ bs i) ++ ⟨#[34]⟩) ++ ⟨#[32, 112, 58, 120, 61, 34, 49, 34, 47, 62, 60, 47, 114, 62]⟩ = bs (spacesB true true o i) := by
  rw [sp_l0, sp_l1, sp_l2, sp_l3, sp_l4]
  repeat rw [bs_append]
  congr 1
  simp [spacesB, sp1, sp2, attrsT, attrT, qualT, xmlnsB]
theorem spaces_len (told again : Bool) (o i : B) (h : o.length + i.length ≤ 200) : (spacesB told again o i).length < 4294967281 := by
  unfold spacesB sp1 sp2
  cases told <;> cases again <;> simp [attrsT, attrT, qualT, xmlnsB] <;> omega
theorem vis_snoc {X : ByteArray} {j : Nat} (hj : j < X.size) (hall : (X.data.toList.take j).all visB = true) (hx : visB X[j] = true) : (X.data.toList.take (j + 1)).all visB = true := by
  have h3 : j < X.data.toList.length := by rw [← Lib.size_eq]; exact hj
  have hxx : visB X.data.toList[j] = true := hx
  rw [List.take_succ_eq_append_getElem h3, List.all_append, hall]
  show (true && (visB X.data.toList[j] && true)) = true
  rw [hxx]
  rfl
set_option maxHeartbeats 4000000 in
set_option maxRecDepth 100000 in
theorem spaces_walk (o i : B) (hsz : o.length + i.length ≤ 200) (told again : Bool) (w : World) (hgl : ∃ x, w.cell? ⟨5, 0, none⟩ = some (.int .i64 x)) (h6 : 5 < w.heap.size) :
    Calls Tryz.prog 4 #[.string (bs o), .string (bs i), .bool told, .bool again] w fun e w' => e = .returned (.bool true) ∧ Below w.heap.size w w' := by
  have Hgl := Lib.hid hgl
  have Hsz := Lib.hid hsz
  obtain ⟨s, hs⟩ : ∃ s, s = bs o := ⟨_, rfl⟩
  obtain ⟨t, ht⟩ : ∃ t, t = bs i := ⟨_, rfl⟩
  have so : s.size = o.length := by rw [hs, bs_size]
  have si : t.size = i.length := by rw [ht, bs_size]
  have hXl : (s ++ t).data.toList = o ++ i := by rw [hs, ht, bs_append]; simp [bs]
  have sX : (s ++ t).size = s.size + t.size := ByteArray.size_append
  have d0 : decide ((s.size : Int) + (t.size : Int) > 200) = false := decide_eq_false (by omega)
  have d0' : ¬ (200 < (s.size : Int) + (t.size : Int)) := by omega
  have so2 : s.size ≤ 200 := by omega
  have si2 : t.size ≤ 200 := by omega
  rw [← hs, ← ht]
  have Hs := Lib.hid hs
  have Ht := Lib.hid ht
  have HXl := Lib.hid hXl
  have HsX := Lib.hid sX
  clear hgl hXl hsz so si sX hs ht
  go_enter Tryz.func4, Tryz.ntmps4
  go_wp2_with fail
  go_loopg [9] (s.size + t.size) (fun k v wr => Aside (∃ j : Nat, v = .int .i64 j ∧ w = wr ∧ j + k = s.size + t.size ∧ ((s ++ t).data.toList.take j).all visB = true))
  case atStart => exact ⟨0, rfl, rfl, by omega, by simp⟩
  case round =>
    obtain ⟨j, rfl, rfl, hj, hall⟩ := hrel.out
    clear hrel
    have Hall := Lib.hid hall
    clear hall
    by_cases hlt0 : j < s.size + t.size
    · have hd : decide ((j : Int) < (s.size : Int) + (t.size : Int)) = true := by simp; omega
      have hd' : (j : Int) < (s.size : Int) + (t.size : Int) := by omega
      have hlt : j < (s ++ t).size := by rw [HsX.out]; exact hlt0
      by_cases c1 : (s ++ t)[j].toNat ≤ 32
      · have bc1 : decide (((s ++ t)[j].toNat : Int) ≤ 32) = true := by simp; omega
        clear Hall HXl
        go_wp2_with fail
        refine (known_any _ Hgl.out h6).mono ?_
        rintro e w3 ⟨rfl, hb3⟩
        go_wp2
        go_ret
        exact ⟨rfl, hb3⟩
      · have bc1 : decide (((s ++ t)[j].toNat : Int) ≤ 32) = false := by simp; omega
        by_cases c2 : 126 < (s ++ t)[j].toNat
        · have bc2 : decide (((s ++ t)[j].toNat : Int) > 126) = true := by simp; omega
          clear Hall HXl
          go_wp2_with fail
          refine (known_any _ Hgl.out h6).mono ?_
          rintro e w3 ⟨rfl, hb3⟩
          go_wp2
          go_ret
          exact ⟨rfl, hb3⟩
        · have bc2 : decide (((s ++ t)[j].toNat : Int) > 126) = false := by simp; omega
          by_cases c3 : (s ++ t)[j].toNat = 34
          · have bc3 : (((s ++ t)[j].toNat : Int) == 34) = true := by simp; omega
            clear Hall HXl
            go_wp2_with fail
            refine (known_any _ Hgl.out h6).mono ?_
            rintro e w3 ⟨rfl, hb3⟩
            go_wp2
            go_ret
            exact ⟨rfl, hb3⟩
          · have bc3 : (((s ++ t)[j].toNat : Int) == 34) = false := by simp; omega
            by_cases c4 : (s ++ t)[j].toNat = 60
            · have bc4 : (((s ++ t)[j].toNat : Int) == 60) = true := by simp; omega
              clear Hall HXl
              go_wp2_with fail
              refine (known_any _ Hgl.out h6).mono ?_
              rintro e w3 ⟨rfl, hb3⟩
              go_wp2
              go_ret
              exact ⟨rfl, hb3⟩
            · have bc4 : (((s ++ t)[j].toNat : Int) == 60) = false := by simp; omega
              by_cases c5 : (s ++ t)[j].toNat = 38
              · have bc5 : (((s ++ t)[j].toNat : Int) == 38) = true := by simp; omega
                clear Hall HXl
                go_wp2_with fail
                refine (known_any _ Hgl.out h6).mono ?_
                rintro e w3 ⟨rfl, hb3⟩
                go_wp2
                go_ret
                exact ⟨rfl, hb3⟩
              · have bc5 : (((s ++ t)[j].toNat : Int) == 38) = false := by simp; omega
                have hx : visB (s ++ t)[j] = true := by
                  unfold visB
                  simp only [Bool.and_eq_true, Bool.not_eq_true', decide_eq_false_iff_not, bne_iff_ne, ne_eq]
                  refine ⟨⟨⟨⟨c1, c2⟩, ?_⟩, ?_⟩, ?_⟩
                  · intro h; rw [h] at c3; exact c3 rfl
                  · intro h; rw [h] at c4; exact c4 rfl
                  · intro h; rw [h] at c5; exact c5 rfl
                have Hx := Lib.hid (vis_snoc hlt Hall.out hx)
                clear hx Hall
                go_wp2
                go_roundg (s.size + t.size - (j + 1))
                case measure => omega
                case rel => exact ⟨j + 1, by go_num, rfl, by omega, Hx.out⟩
    · have hd : decide ((j : Int) < (s.size : Int) + (t.size : Int)) = false := by simp; omega
      have hd' : ¬ ((j : Int) < (s.size : Int) + (t.size : Int)) := by omega
      have hv : o.all visB = true ∧ i.all visB = true := by
        have h3 : (s ++ t).data.toList.take j = (s ++ t).data.toList := List.take_of_length_le (by rw [← Lib.size_eq, HsX.out]; omega)
        have h4 := Hall.out
        rw [h3, HXl.out, List.all_append, Bool.and_eq_true] at h4
        exact h4
      have Hv := Lib.hid hv
      clear hv Hall HXl
      obtain rfl := Hs.out
      obtain rfl := Ht.out
      clear HsX Hs Ht
      cases told with
      | false =>
        cases again with
        | false =>
          have hr := read_text 20 (by omega) (spacesB false false o i) w Hgl.out h6 (spaces_len _ _ _ _ Hsz.out) (by rw [spaces_law Hv.out.1 Hv.out.2]; (repeat' split) <;> simp)
          have hconv := conv_text w (spacesB false false o i) _ (spaces_text00 o i)
          have hlaw := spaces_law Hv.out.1 Hv.out.2 false false
          rw [if_neg (by simp), if_pos (by simp)] at hlaw
          rw [hlaw] at hr
          have HR := Lib.hid hr
          clear hr hlaw
          go_wp2_with fail
          refine HR.out.mono ?_
          rintro e w1 ⟨rfl, hb1⟩
          have HB := Lib.hid (hb1.alloc hb1.size (.cells #[.string ⟨#[]⟩, .string ⟨#[]⟩, .string ⟨#[]⟩, .slice none 0 0, .slice none 0 0] 26))
          clear hb1 HR hconv
          go_wp2_with fail
          refine (known_any _ (gl_below HB.out h6 Hgl.out) (Nat.lt_of_lt_of_le h6 HB.out.size)).mono ?_
          rintro e w3 ⟨rfl, hb3⟩
          go_wp2
          go_ret
          exact ⟨rfl, HB.out.trans (hb3.mono HB.out.size)⟩
        | true =>
          have hr := read_text 20 (by omega) (spacesB false true o i) w Hgl.out h6 (spaces_len _ _ _ _ Hsz.out) (by rw [spaces_law Hv.out.1 Hv.out.2]; (repeat' split) <;> simp)
          have hconv := conv_text w (spacesB false true o i) _ (spaces_text01 o i)
          have hlaw := spaces_law Hv.out.1 Hv.out.2 false true
          by_cases hi : i = []
          · have zi : ((bs i).toList == []) = true := by rw [bs_toList, hi]; rfl
            have yi : ((bs i).toList != []) = false := by rw [bs_toList, hi]; rfl
            rw [if_pos (by simp [hi])] at hlaw
            rw [hlaw] at hr
            have HR := Lib.hid hr
            clear hr hlaw hi
            go_wp2_with fail
            refine HR.out.mono ?_
            rintro e w1 ⟨rfl, hb1⟩
            have HB := Lib.hid (hb1.alloc hb1.size (.cells #[.string ⟨#[]⟩, .string ⟨#[]⟩, .string ⟨#[]⟩, .slice none 0 0, .slice none 0 0] 26))
            clear hb1 HR hconv
            go_wp2_with fail
            refine (known_any _ (gl_below HB.out h6 Hgl.out) (Nat.lt_of_lt_of_le h6 HB.out.size)).mono ?_
            rintro e w3 ⟨rfl, hb3⟩
            go_wp2
            go_ret
            exact ⟨rfl, HB.out.trans (hb3.mono HB.out.size)⟩
          · have zi : ((bs i).toList == []) = false := by rw [bs_toList]; simpa using hi
            have yi : ((bs i).toList != []) = true := by rw [bs_toList]; simpa using hi
            rw [if_neg (by simp [hi]), if_neg (by simp)] at hlaw
            simp only [if_true, if_false, Bool.false_eq_true] at hlaw
            rw [hlaw] at hr
            have HR := Lib.hid hr
            clear hr hlaw hi
            have q1 : ((bs i).toList == (bs i).toList) = true := by simp
            go_wp2_with fail
            refine HR.out.mono ?_
            rintro e w1 ⟨cs, rfl, hx, hb1⟩
            obtain ⟨A1, c1, A2, c2, inner, rfl, _, _, hown, hks⟩ := hx.open
            obtain ⟨B1, d1, B2, d2, inner2, hk, hrw2, hd1, _, _⟩ := (hks 0 _ rfl).open
            obtain ⟨i0, i1, i2, i3, i4⟩ := kid_cells hk
            obtain ⟨g2, rfl, _, hg2, _, hkc⟩ := kids_cell hown (Nat.zero_lt_succ _)
            have k0 := hkc 0 _ i0
            have k3 := hkc 3 _ i3
            obtain ⟨g1, rfl, hv0, _, _⟩ := hrw2 0 _ rfl
            have hg1 := cell_lt hv0
            have HB := Lib.hid (hb1.alloc hb1.size (.cells #[.string (bs []), .string (bs [114]), .string (bs []), .slice A1 0 c1, .slice (some ⟨g2, 0, none⟩) 1 c2] 26))
            clear hb1 HR hconv hx hks hown hkc hk hrw2 i0 i1 i2 i3 i4
            go_wp2_with fail
            refine (known_any _ (gl_below HB.out h6 Hgl.out) (Nat.lt_of_lt_of_le h6 HB.out.size)).mono ?_
            rintro e w3 ⟨rfl, hb3⟩
            go_wp2
            go_ret
            exact ⟨rfl, HB.out.trans (hb3.mono HB.out.size)⟩
      | true =>
        cases again with
        | false =>
          have hr := read_text 20 (by omega) (spacesB true false o i) w Hgl.out h6 (spaces_len _ _ _ _ Hsz.out) (by rw [spaces_law Hv.out.1 Hv.out.2]; (repeat' split) <;> simp)
          have hconv := conv_text w (spacesB true false o i) _ (spaces_text10 o i)
          have hlaw := spaces_law Hv.out.1 Hv.out.2 true false
          by_cases ho : o = []
          · have zo : ((bs o).toList == []) = true := by rw [bs_toList, ho]; rfl
            have yo : ((bs o).toList != []) = false := by rw [bs_toList, ho]; rfl
            rw [if_pos (by simp [ho])] at hlaw
            rw [hlaw] at hr
            have HR := Lib.hid hr
            clear hr hlaw ho
            go_wp2_with fail
            refine HR.out.mono ?_
            rintro e w1 ⟨rfl, hb1⟩
            have HB := Lib.hid (hb1.alloc hb1.size (.cells #[.string ⟨#[]⟩, .string ⟨#[]⟩, .string ⟨#[]⟩, .slice none 0 0, .slice none 0 0] 26))
            clear hb1 HR hconv
            go_wp2_with fail
            refine (known_any _ (gl_below HB.out h6 Hgl.out) (Nat.lt_of_lt_of_le h6 HB.out.size)).mono ?_
            rintro e w3 ⟨rfl, hb3⟩
            go_wp2
            go_ret
            exact ⟨rfl, HB.out.trans (hb3.mono HB.out.size)⟩
          · have zo : ((bs o).toList == []) = false := by rw [bs_toList]; simpa using ho
            have yo : ((bs o).toList != []) = true := by rw [bs_toList]; simpa using ho
            rw [if_neg (by simp [ho]), if_neg (by simp)] at hlaw
            simp only [if_true, if_false, Bool.false_eq_true] at hlaw
            rw [hlaw] at hr
            have HR := Lib.hid hr
            clear hr hlaw ho
            have q1 : ((bs o).toList == (bs o).toList) = true := by simp
            go_wp2_with fail
            refine HR.out.mono ?_
            rintro e w1 ⟨cs, rfl, hx, hb1⟩
            obtain ⟨A1, c1, A2, c2, inner, rfl, _, _, hown, hks⟩ := hx.open
            obtain ⟨B1, d1, B2, d2, inner2, hk, hrw2, hd1, _, _⟩ := (hks 0 _ rfl).open
            obtain ⟨i0, i1, i2, i3, i4⟩ := kid_cells hk
            obtain ⟨g2, rfl, _, hg2, _, hkc⟩ := kids_cell hown (Nat.zero_lt_succ _)
            have k0 := hkc 0 _ i0
            have k3 := hkc 3 _ i3
            obtain ⟨g1, rfl, hv0, _, _⟩ := hrw2 0 _ rfl
            have hg1 := cell_lt hv0
            have HB := Lib.hid (hb1.alloc hb1.size (.cells #[.string (bs []), .string (bs [114]), .string (bs []), .slice A1 0 c1, .slice (some ⟨g2, 0, none⟩) 1 c2] 26))
            clear hb1 HR hconv hx hks hown hkc hk hrw2 i0 i1 i2 i3 i4
            go_wp2_with fail
            refine (known_any _ (gl_below HB.out h6 Hgl.out) (Nat.lt_of_lt_of_le h6 HB.out.size)).mono ?_
            rintro e w3 ⟨rfl, hb3⟩
            go_wp2
            go_ret
            exact ⟨rfl, HB.out.trans (hb3.mono HB.out.size)⟩
        | true =>
          have hr := read_text 20 (by omega) (spacesB true true o i) w Hgl.out h6 (spaces_len _ _ _ _ Hsz.out) (by rw [spaces_law Hv.out.1 Hv.out.2]; (repeat' split) <;> simp)
          have hconv := conv_text w (spacesB true true o i) _ (spaces_text11 o i)
          have hlaw := spaces_law Hv.out.1 Hv.out.2 true true
          by_cases ho : o = []
          · have zo : ((bs o).toList == []) = true := by rw [bs_toList, ho]; rfl
            have yo : ((bs o).toList != []) = false := by rw [bs_toList, ho]; rfl
            rw [if_pos (by simp [ho])] at hlaw
            rw [hlaw] at hr
            have HR := Lib.hid hr
            clear hr hlaw ho
            go_wp2_with fail
            refine HR.out.mono ?_
            rintro e w1 ⟨rfl, hb1⟩
            have HB := Lib.hid (hb1.alloc hb1.size (.cells #[.string ⟨#[]⟩, .string ⟨#[]⟩, .string ⟨#[]⟩, .slice none 0 0, .slice none 0 0] 26))
            clear hb1 HR hconv
            go_wp2_with fail
            refine (known_any _ (gl_below HB.out h6 Hgl.out) (Nat.lt_of_lt_of_le h6 HB.out.size)).mono ?_
            rintro e w3 ⟨rfl, hb3⟩
            go_wp2
            go_ret
            exact ⟨rfl, HB.out.trans (hb3.mono HB.out.size)⟩
          · have zo : ((bs o).toList == []) = false := by rw [bs_toList]; simpa using ho
            have yo : ((bs o).toList != []) = true := by rw [bs_toList]; simpa using ho
            by_cases hi : i = []
            · have zi : ((bs i).toList == []) = true := by rw [bs_toList, hi]; rfl
              have yi : ((bs i).toList != []) = false := by rw [bs_toList, hi]; rfl
              rw [if_pos (by simp [hi])] at hlaw
              rw [hlaw] at hr
              have HR := Lib.hid hr
              clear hr hlaw hi ho
              go_wp2_with fail
              refine HR.out.mono ?_
              rintro e w1 ⟨rfl, hb1⟩
              have HB := Lib.hid (hb1.alloc hb1.size (.cells #[.string ⟨#[]⟩, .string ⟨#[]⟩, .string ⟨#[]⟩, .slice none 0 0, .slice none 0 0] 26))
              clear hb1 HR hconv
              go_wp2_with fail
              refine (known_any _ (gl_below HB.out h6 Hgl.out) (Nat.lt_of_lt_of_le h6 HB.out.size)).mono ?_
              rintro e w3 ⟨rfl, hb3⟩
              go_wp2
              go_ret
              exact ⟨rfl, HB.out.trans (hb3.mono HB.out.size)⟩
            · have zi : ((bs i).toList == []) = false := by rw [bs_toList]; simpa using hi
              have yi : ((bs i).toList != []) = true := by rw [bs_toList]; simpa using hi
              rw [if_neg (by simp [ho, hi]), if_neg (by simp)] at hlaw
              simp only [if_true, if_false, Bool.false_eq_true] at hlaw
              rw [hlaw] at hr
              have HR := Lib.hid hr
              clear hr hlaw ho hi
              have q1 : ((bs i).toList == (bs i).toList) = true := by simp
              go_wp2_with fail
              refine HR.out.mono ?_
              rintro e w1 ⟨cs, rfl, hx, hb1⟩
              obtain ⟨A1, c1, A2, c2, inner, rfl, _, _, hown, hks⟩ := hx.open
              obtain ⟨B1, d1, B2, d2, inner2, hk, hrw2, hd1, _, _⟩ := (hks 0 _ rfl).open
              obtain ⟨i0, i1, i2, i3, i4⟩ := kid_cells hk
              obtain ⟨g2, rfl, _, hg2, _, hkc⟩ := kids_cell hown (Nat.zero_lt_succ _)
              have k0 := hkc 0 _ i0
              have k3 := hkc 3 _ i3
              obtain ⟨g1, rfl, hv0, _, _⟩ := hrw2 0 _ rfl
              have hg1 := cell_lt hv0
              have HB := Lib.hid (hb1.alloc hb1.size (.cells #[.string (bs []), .string (bs [114]), .string (bs []), .slice A1 0 c1, .slice (some ⟨g2, 0, none⟩) 1 c2] 26))
              clear hb1 HR hconv hx hks hown hkc hk hrw2 i0 i1 i2 i3 i4
              go_wp2_with fail
              refine (known_any _ (gl_below HB.out h6 Hgl.out) (Nat.lt_of_lt_of_le h6 HB.out.size)).mono ?_
              rintro e w3 ⟨rfl, hb3⟩
              go_wp2
              go_ret
              exact ⟨rfl, HB.out.trans (hb3.mono HB.out.size)⟩
theorem spaces_any (s t : ByteArray) (told again : Bool) (hs : s.size ≤ 140737488351232) (ht : t.size ≤ 140737488351232) (w : World) (hgl : ∃ x, w.cell? ⟨5, 0, none⟩ = some (.int .i64 x)) (h6 : 5 < w.heap.size) :
    Calls Tryz.prog 4 #[.string s, .string t, .bool told, .bool again] w fun e w' => e = .returned (.bool true) ∧ Below w.heap.size w w' := by
  by_cases h : s.size + t.size ≤ 200
  · have h2 := spaces_walk s.data.toList t.data.toList (by rw [← Lib.size_eq, ← Lib.size_eq]; exact h) told again w hgl h6
    rw [bs_self, bs_self] at h2
    exact h2
  · have d0 : decide ((s.size : Int) + (t.size : Int) > 200) = true := by simp; omega
    have d0' : 200 < (s.size : Int) + (t.size : Int) := by omega
    go_enter Tryz.func4, Tryz.ntmps4
    go_wp2
    go_ret
    exact ⟨rfl, Below.refl _ _⟩
end Go.Proofs.YtmiflgcjphcigaaGreatDoor
