/-
  A part of the proof of statements on the element reader of package xml (ZB): lemmas on what its functions come to; their conditions stand in each theorem.
-/
import Derived.Test.YtmiflgcjphcigaaGreatDoorZ5
import Derived.Test.YtmiflgcjphcigaaGreatDoorY6
set_option linter.unusedVariables false
set_option linter.unusedSimpArgs false
namespace Go.Proofs.YtmiflgcjphcigaaGreatDoor
open Go.RowKit Go.Proofs.YtmiflgcjphcigaaGreatDoorW.PrintWords
/-! ## XmlMisc: the walk -/
def IntsAt (w : World) (A : Option Addr) (zs : List Int) : Prop := ∀ j x, zs[j]? = some x → ∃ b o, A = some ⟨b, o, none⟩ ∧ b < w.heap.size ∧ w.cell? ⟨b, o + j, none⟩ = some (.int .i64 x)
def someW (w : World) : World := w.alloc (.cells #[.string ⟨#[32]⟩, .string ⟨#[10]⟩, .string ⟨#[60, 33, 45, 45, 32, 97, 45, 98, 32, 45, 45, 62]⟩, .string ⟨#[60, 63, 112, 32, 113, 63, 62]⟩, .string ⟨#[60, 63, 112, 63, 62]⟩, .string ⟨#[60, 33, 45, 45, 45, 45, 62]⟩, .string ⟨#[120]⟩, .string ⟨#[38, 97, 109, 112, 59]⟩, .string ⟨#[60, 33, 68, 79, 67, 84, 89, 80, 69, 32, 97, 62]⟩, .string ⟨#[60, 33, 91, 67, 68, 65, 84, 65, 91, 93, 93, 62]⟩] 9)
theorem someW_below (w : World) : Below w.heap.size w (someW w) := (Below.refl _ w).alloc (Nat.le_refl _) _
theorem someW_size (w : World) : (someW w).heap.size = w.heap.size + 1 := by simp [someW, World.alloc, -World.alloc_eq]
theorem someW_cell (w : World) (k : Nat) (hk : k < 10) : (someW w).cell? ⟨w.heap.size, k, none⟩ = some (.string (bs (item k))) := by
  have h : (someW w).heap[w.heap.size]? = some (.cells #[.string ⟨#[32]⟩, .string ⟨#[10]⟩, .string ⟨#[60, 33, 45, 45, 32, 97, 45, 98, 32, 45, 45, 62]⟩, .string ⟨#[60, 63, 112, 32, 113, 63, 62]⟩, .string ⟨#[60, 63, 112, 63, 62]⟩, .string ⟨#[60, 33, 45, 45, 45, 45, 62]⟩, .string ⟨#[120]⟩, .string ⟨#[38, 97, 109, 112, 59]⟩, .string ⟨#[60, 33, 68, 79, 67, 84, 89, 80, 69, 32, 97, 62]⟩, .string ⟨#[60, 33, 91, 67, 68, 65, 84, 65, 91, 93, 93, 62]⟩] 9) := by simp [someW, World.alloc, -World.alloc_eq]
  simp only [World.cell?, h]
  by_cases h6 : k < 6
  · rcases low_cases h6 with rfl | rfl | rfl | rfl | rfl | rfl <;> rfl
  · rcases bad_cases (by omega) hk with rfl | rfl | rfl | rfl <;> rfl
theorem miscT_snoc (k : Nat) : ∀ ks : List Nat, miscT (ks ++ [k]) [] = miscT ks [] ++ item k := by
  intro ks
  induction ks with
  | nil => simp [miscT]
  | cons x ks ih => show item x ++ miscT (ks ++ [k]) [] = item x ++ miscT ks [] ++ item k; rw [ih]; simp
theorem miscT_cat (r : B) : ∀ ks : List Nat, miscT ks r = miscT ks [] ++ r := by
  intro ks
  induction ks with
  | nil => rfl
  | cons x ks ih => show item x ++ miscT ks r = item x ++ miscT ks [] ++ r; rw [ih]; simp
theorem firstBad_snoc (k : Nat) : ∀ ks : List Nat, firstBad (ks ++ [k]) = if firstBad ks = 0 then (if 6 ≤ k then k else 0) else firstBad ks := by
  intro ks
  induction ks with
  | nil => simp [firstBad]
  | cons x ks ih =>
    by_cases hx : 6 ≤ x
    · have hx0 : x ≠ 0 := by omega
      simp [firstBad, hx, hx0]
    · simp [firstBad, hx, ih]
def worstL (ks : List Nat) : Nat := ks.foldl max 0
theorem worstL_snoc (ks : List Nat) (k : Nat) : worstL (ks ++ [k]) = max (worstL ks) k := by simp [worstL]
theorem worst_bad : ∀ (ks : List Nat) (a : Nat), (6 ≤ ks.foldl max a) ↔ (6 ≤ a ∨ firstBad ks ≠ 0) := by
  intro ks
  induction ks with
  | nil => intro a; simp [firstBad]
  | cons x ks ih =>
    intro a
    rw [List.foldl_cons, ih]
    by_cases hx : 6 ≤ x
    · simp [firstBad, hx]; omega
    · simp [firstBad, hx]; omega
def ksOf (zs : List Int) : List Nat := zs.map kOf
theorem ksOf_lt (zs : List Int) : ∀ k ∈ ksOf zs, k < 10 := by
  intro k hk
  obtain ⟨z, _, rfl⟩ := List.mem_map.1 hk
  exact kOf_lt z
theorem ksOf_take {zs : List Int} {j : Nat} {z : Int} (h : zs[j]? = some z) : ksOf (zs.take (j + 1)) = ksOf (zs.take j) ++ [kOf z] := by
  obtain ⟨hj, rfl⟩ := List.getElem?_eq_some_iff.1 h
  rw [List.take_succ_eq_append_getElem hj]
  simp only [ksOf, List.map_append, List.map_cons, List.map_nil]
theorem ksOf_len (zs : List Int) (j : Nat) : (ksOf (zs.take j)).length ≤ zs.length := by simp [ksOf]; omega
theorem IntsAt.below {w w' : World} {A : Option Addr} {zs : List Int} (h : IntsAt w A zs) (hb : Below w.heap.size w w') : IntsAt w' A zs := by
  intro j x hx
  obtain ⟨b, o, h1, h2, h3⟩ := h j x hx
  exact ⟨b, o, h1, Nat.lt_of_lt_of_le h2 hb.size, by rw [hb.cell h2]; exact h3⟩
set_option maxHeartbeats 4000000 in
set_option maxRecDepth 100000 in
theorem misc_walk (A A2 : Option Addr) (n c n2 c2 : Nat) (zs ys : List Int) (w : World) (hz : IntsAt w A zs) (hy : IntsAt w A2 ys) (hn : n = zs.length) (hn2 : n2 = ys.length) (l1 : n ≤ 20) (l2 : n2 ≤ 20) (hgl : ∃ x, w.cell? ⟨5, 0, none⟩ = some (.int .i64 x)) (h6 : 5 < w.heap.size) :
    Calls Tryz.prog 7 #[.slice A n c, .slice A2 n2 c2] w fun e w' => e = .returned (.bool true) ∧ Below w.heap.size w w' := by
  have Hgl := Lib.hid hgl
  have d1 : decide ((n : Int) > 20) = false := by simp; omega
  have d2 : decide ((n2 : Int) > 20) = false := by simp; omega
  have d1' : ¬ (20 < (n : Int)) := by omega
  have d2' : ¬ (20 < (n2 : Int)) := by omega
  obtain ⟨W1, hW1⟩ : ∃ W1, W1 = someW w := ⟨_, rfl⟩
  have HW := Lib.hid hW1
  have hb1 : Below w.heap.size w W1 := by rw [hW1]; exact someW_below w
  have hz1 := hz.below hb1
  have hy1 := hy.below hb1
  have hc1 : ∀ k, k < 10 → W1.cell? ⟨w.heap.size, k, none⟩ = some (.string (bs (item k))) := by rw [hW1]; exact someW_cell w
  have hg1 : w.heap.size < W1.heap.size := by rw [hW1, someW_size]; omega
  have Hz := Lib.hid hz1
  have Hy := Lib.hid hy1
  have HB1 := Lib.hid hb1
  have Hc := Lib.hid hc1
  have Hn := Lib.hid hn
  have Hn2 := Lib.hid hn2
  clear hz hy hz1 hy1 hb1 hgl hW1 hc1 hn hn2
  go_enter Tryz.func7, Tryz.ntmps7
  go_wp2_with fail
  go_loopg [6, 7, 9] n (fun k s f i wr => Aside (∃ j : Nat, i = .int .i64 j ∧ W1 = wr ∧ j + k = n ∧ s = .string (bs (miscT (ksOf (zs.take j)) [])) ∧ f = .int .i64 (firstBad (ksOf (zs.take j)) : Nat)))
  case atStart => exact ⟨0, rfl, HW.out, by omega, rfl, rfl⟩
  case round =>
    obtain ⟨j, rfl, rfl, hj, rfl, rfl⟩ := hrel.out
    clear hrel
    obtain ⟨T, hT⟩ : ∃ T, T = miscT (ksOf (zs.take j)) [] := ⟨_, rfl⟩
    obtain ⟨F, hF⟩ : ∃ F, F = firstBad (ksOf (zs.take j)) := ⟨_, rfl⟩
    have hTs : (bs T).size ≤ 240 := by
      have h1 := miscT_len [] (ksOf (zs.take j)) (ksOf_lt _)
      have h2 := ksOf_len zs j
      have h3 := Hn.out
      rw [bs_size, hT]
      simp only [List.length_nil] at h1
      omega
    rw [← hT, ← hF]
    have HT := Lib.hid hT
    have HF := Lib.hid hF
    clear hT hF
    by_cases hlt : j < n
    · have hd : decide ((j : Int) < (n : Int)) = true := by simp; omega
      have hd' : (j : Int) < (n : Int) := by omega
      obtain ⟨z, hz⟩ : ∃ z, zs[j]? = some z := ⟨_, List.getElem?_eq_getElem (by rw [← Hn.out]; exact hlt)⟩
      have Htk := Lib.hid (ksOf_take hz)
      obtain ⟨b, o, rfl, hb, hcell⟩ := Hz.out j z hz
      obtain ⟨K, hK⟩ : ∃ K, K = kOf z := ⟨_, rfl⟩
      have hKe := kOf_eq z
      have hK10 := kOf_lt z
      have hKc := Hc.out (kOf z) hK10
      have hKs : (bs (item (kOf z))).size ≤ 12 := by rw [bs_size]; exact item_len hK10
      rw [← hK] at hKe hK10 hKc hKs Htk
      have HK := Lib.hid hK
      have hK0 : (0 : Int) ≤ (K : Int) := by omega
      have hK1 : (K : Int) < 10 := by omega
      clear hz hK
      by_cases h6k : 6 ≤ K
      · have e1 : decide ((K : Int) ≥ 6) = true := by simp; omega
        have e1' : (6 : Int) ≤ (K : Int) := by omega
        by_cases hF0 : F = 0
        · have e2 : ((F : Int) == 0) = true := by simp; omega
          go_wp2
          go_roundg (n - (j + 1))
          case measure => omega
          case rel =>
            refine ⟨j + 1, by go_num, rfl, by omega, ?_, ?_⟩
            · rw [Htk.out, miscT_snoc, ← HT.out, ← bs_append]
            · rw [Htk.out, firstBad_snoc, ← HF.out, if_pos hF0, if_pos h6k]
        · have e2 : ((F : Int) == 0) = false := by simp; omega
          go_wp2
          go_roundg (n - (j + 1))
          case measure => omega
          case rel =>
            refine ⟨j + 1, by go_num, rfl, by omega, ?_, ?_⟩
            · rw [Htk.out, miscT_snoc, ← HT.out, ← bs_append]
            · rw [Htk.out, firstBad_snoc, ← HF.out, if_neg hF0]
      · have e1 : decide ((K : Int) ≥ 6) = false := by simp; omega
        have e1' : ¬ ((6 : Int) ≤ (K : Int)) := by omega
        go_wp2
        go_roundg (n - (j + 1))
        case measure => omega
        case rel =>
          refine ⟨j + 1, by go_num, rfl, by omega, ?_, ?_⟩
          · rw [Htk.out, miscT_snoc, ← HT.out, ← bs_append]
          · rw [Htk.out, firstBad_snoc, ← HF.out]
            by_cases hF0 : F = 0
            · rw [if_pos hF0, if_neg h6k, hF0]
            · rw [if_neg hF0]
    · have hd : decide ((j : Int) < (n : Int)) = false := by simp; omega
      have hd' : ¬ ((j : Int) < (n : Int)) := by omega
      have hall : zs.take j = zs := List.take_of_length_le (by rw [← Hn.out]; omega)
      rw [hall] at HT HF
      go_wp2_with fail
      go_loopg [6, 8, 11] n2 (fun k s v i wr => Aside (∃ j : Nat, i = .int .i64 j ∧ W1 = wr ∧ j + k = n2 ∧ s = .string (bs (T ++ abB ++ miscT (ksOf (ys.take j)) [])) ∧ v = .int .i64 (worstL (ksOf (ys.take j)) : Nat)))
      case atStart =>
        refine ⟨0, rfl, rfl, by omega, ?_, rfl⟩
        show Value.string (bs T ++ bs abB) = _
        rw [bs_append, List.take_zero]
        show _ = Value.string (bs (T ++ abB ++ []))
        rw [List.append_nil]
      case round =>
        clear hlt hj hd hd' hall
        obtain ⟨j, rfl, rfl, hj, rfl, rfl⟩ := hrel.out
        clear hrel
        obtain ⟨S, hS⟩ : ∃ S, S = T ++ abB ++ miscT (ksOf (ys.take j)) [] := ⟨_, rfl⟩
        obtain ⟨V, hV⟩ : ∃ V, V = worstL (ksOf (ys.take j)) := ⟨_, rfl⟩
        have hSs : (bs S).size ≤ 500 := by
          have h1 := miscT_len [] (ksOf (ys.take j)) (ksOf_lt _)
          have h2 := ksOf_len ys j
          have h3 := Hn2.out
          have h4 : T.length ≤ 240 := by rw [← bs_size]; exact hTs
          rw [bs_size, hS]
          simp only [List.length_nil, List.length_append] at h1 ⊢
          have h5 : abB.length = 11 := rfl
          omega
        rw [← hS, ← hV]
        have HS := Lib.hid hS
        have HV := Lib.hid hV
        clear hS hV
        by_cases hlt : j < n2
        · have hd : decide ((j : Int) < (n2 : Int)) = true := by simp; omega
          have hd' : (j : Int) < (n2 : Int) := by omega
          obtain ⟨z, hz⟩ : ∃ z, ys[j]? = some z := ⟨_, List.getElem?_eq_getElem (by rw [← Hn2.out]; exact hlt)⟩
          have Htk := Lib.hid (ksOf_take hz)
          obtain ⟨b, o, rfl, hb, hcell⟩ := Hy.out j z hz
          obtain ⟨K, hK⟩ : ∃ K, K = kOf z := ⟨_, rfl⟩
          have hKe := kOf_eq z
          have hK10 := kOf_lt z
          have hKc := Hc.out (kOf z) hK10
          have hKs : (bs (item (kOf z))).size ≤ 12 := by rw [bs_size]; exact item_len hK10
          rw [← hK] at hKe hK10 hKc hKs Htk
          have HK := Lib.hid hK
          have hK0 : (0 : Int) ≤ (K : Int) := by omega
          have hK1 : (K : Int) < 10 := by omega
          clear hz hK
          go_wp2
          go_roundg (n2 - (j + 1))
          case measure => omega
          case rel =>
            refine ⟨j + 1, by go_num, rfl, by omega, ?_, ?_⟩
            · rw [Htk.out, miscT_snoc, ← List.append_assoc, ← HS.out, ← bs_append]
            · rw [Htk.out, worstL_snoc, ← HV.out]
              exact congrArg (Value.int IntKind.i64) (by omega)
        · have hd : decide ((j : Int) < (n2 : Int)) = false := by simp; omega
          have hd' : ¬ ((j : Int) < (n2 : Int)) := by omega
          have hall : ys.take j = ys := List.take_of_length_le (by rw [← Hn2.out]; omega)
          rw [hall] at HS HV
          have hSm : S = miscB (ksOf zs) (ksOf ys) := by
            rw [HS.out, HT.out, miscB, miscT_cat (abB ++ _)]
            simp
          have hlaw := misc_law (ksOf zs) (ksOf ys) (ksOf_lt zs) (ksOf_lt ys) (by rw [ksOf, List.length_map, ← Hn.out]; exact l1) (by rw [ksOf, List.length_map, ← Hn2.out]; exact l2)
          rw [← hSm, ← HF.out] at hlaw
          have hVw : 6 ≤ V ↔ firstBad (ksOf ys) ≠ 0 := by
            rw [HV.out]
            have h := worst_bad (ksOf ys) 0
            simpa [worstL] using h
          have hFl : F < 10 := by
            rw [HF.out]
            by_cases h : firstBad (ksOf zs) = 0
            · omega
            · exact ksOf_lt zs _ (firstBad_bad _ h).2
          have hSl : S.length ≤ 500 := by rw [← bs_size]; exact hSs
          have h61 := Nat.lt_of_lt_of_le h6 HB1.out.size
          have hr := read_text 50 (by omega) S W1 (gl_below HB1.out h6 Hgl.out) h61 (by omega) (by rw [hlaw]; (repeat' split) <;> simp)
          have hconv := conv_text W1 S (bs S) rfl
          clear hSm HS HT HV HF Hz Hy Hc hall hj hlt Hn Hn2 hTs
          by_cases h8 : F = 8
          · rw [if_pos h8] at hlaw
            rw [hlaw] at hr
            have HR := Lib.hid hr
            clear hr hlaw
            have e8 : ((F : Int) == 8) = true := by simp; omega
            clear h8 hVw
            go_wp2_with fail
            refine HR.out.mono ?_
            rintro e w1 ⟨rfl, hb1⟩
            have HB := Lib.hid ((HB1.out.trans (hb1.mono HB1.out.size)).alloc (Nat.le_trans HB1.out.size hb1.size) (.cells #[.string ⟨#[]⟩, .string ⟨#[]⟩, .string ⟨#[]⟩, .slice none 0 0, .slice none 0 0] 26))
            clear hb1 HR hconv
            go_wp2_with fail
            refine (known_any _ (gl_below HB.out h6 Hgl.out) (Nat.lt_of_lt_of_le h6 HB.out.size)).mono ?_
            rintro e w3 ⟨rfl, hb3⟩
            go_wp2
            go_ret
            exact ⟨rfl, HB.out.trans (hb3.mono HB.out.size)⟩
          · rw [if_neg h8] at hlaw
            have e8 : ((F : Int) == 8) = false := by simp; omega
            by_cases hF0 : F = 0
            · have e0 : decide ((F : Int) > 0) = false := decide_eq_false (by omega)
              have e0' : ¬ (0 < (F : Int)) := by omega
              by_cases hV6 : 6 ≤ V
              · rw [if_pos (Or.inr (hVw.1 hV6))] at hlaw
                rw [hlaw] at hr
                have HR := Lib.hid hr
                clear hr hlaw
                have e6 : decide ((V : Int) ≥ 6) = true := by simp; omega
                have e6' : (6 : Int) ≤ (V : Int) := by omega
                clear h8 hVw hF0 hV6
                go_wp2_with fail
                refine HR.out.mono ?_
                rintro e w1 ⟨rfl, hb1⟩
                have HB := Lib.hid ((HB1.out.trans (hb1.mono HB1.out.size)).alloc (Nat.le_trans HB1.out.size hb1.size) (.cells #[.string ⟨#[]⟩, .string ⟨#[]⟩, .string ⟨#[]⟩, .slice none 0 0, .slice none 0 0] 26))
                clear hb1 HR hconv
                go_wp2_with fail
                refine (known_any _ (gl_below HB.out h6 Hgl.out) (Nat.lt_of_lt_of_le h6 HB.out.size)).mono ?_
                rintro e w3 ⟨rfl, hb3⟩
                go_wp2
                go_ret
                exact ⟨rfl, HB.out.trans (hb3.mono HB.out.size)⟩
              · rw [if_neg (by rw [← hVw]; omega)] at hlaw
                rw [hlaw] at hr
                have HR := Lib.hid hr
                clear hr hlaw
                have e6 : decide ((V : Int) ≥ 6) = false := by simp; omega
                have e6' : ¬ ((6 : Int) ≤ (V : Int)) := by omega
                have s3 : ((bs [97]).toList == [97]) = true := by rw [bs_toList]; rfl
                clear h8 hVw hF0 hV6
                go_wp2_with fail
                refine HR.out.mono ?_
                rintro e w1 ⟨cs, rfl, hx, hb1⟩
                obtain ⟨A3, c3, A4, c4, inner, rfl, _, _, _, _⟩ := IsE.open (sp := []) (nm := [97]) (tx := []) (at_ := []) (ks := [.mk [] [98] [] [] []]) hx
                have HB := Lib.hid ((HB1.out.trans (hb1.mono HB1.out.size)).alloc (Nat.le_trans HB1.out.size hb1.size) (.cells #[.string (bs []), .string (bs [97]), .string (bs []), .slice A3 0 c3, .slice A4 1 c4] 26))
                clear hb1 HR hconv hx
                go_wp2_with fail
                refine (known_any _ (gl_below HB.out h6 Hgl.out) (Nat.lt_of_lt_of_le h6 HB.out.size)).mono ?_
                rintro e w3 ⟨rfl, hb3⟩
                go_wp2
                go_ret
                exact ⟨rfl, HB.out.trans (hb3.mono HB.out.size)⟩
            · rw [if_pos (Or.inl hF0)] at hlaw
              rw [hlaw] at hr
              have HR := Lib.hid hr
              clear hr hlaw
              have e0 : decide ((F : Int) > 0) = true := decide_eq_true (by omega)
              have e0' : 0 < (F : Int) := by omega
              clear h8 hVw hF0
              go_wp2_with fail
              refine HR.out.mono ?_
              rintro e w1 ⟨rfl, hb1⟩
              have HB := Lib.hid ((HB1.out.trans (hb1.mono HB1.out.size)).alloc (Nat.le_trans HB1.out.size hb1.size) (.cells #[.string ⟨#[]⟩, .string ⟨#[]⟩, .string ⟨#[]⟩, .slice none 0 0, .slice none 0 0] 26))
              clear hb1 HR hconv
              go_wp2_with fail
              refine (known_any _ (gl_below HB.out h6 Hgl.out) (Nat.lt_of_lt_of_le h6 HB.out.size)).mono ?_
              rintro e w3 ⟨rfl, hb3⟩
              go_wp2
              go_ret
              exact ⟨rfl, HB.out.trans (hb3.mono HB.out.size)⟩
theorem xmisc_any (A A2 : Option Addr) (n c n2 c2 : Nat) (zs ys : List Int) (w : World) (hz : IntsAt w A zs) (hy : IntsAt w A2 ys) (hn : n = zs.length) (hn2 : n2 = ys.length) (hgl : ∃ x, w.cell? ⟨5, 0, none⟩ = some (.int .i64 x)) (h6 : 5 < w.heap.size) :
    Calls Tryz.prog 7 #[.slice A n c, .slice A2 n2 c2] w fun e w' => e = .returned (.bool true) ∧ Below w.heap.size w w' := by
  by_cases h1 : n ≤ 20
  · by_cases h2 : n2 ≤ 20
    · exact misc_walk A A2 n c n2 c2 zs ys w hz hy hn hn2 h1 h2 hgl h6
    · have d1 : decide ((n : Int) > 20) = false := by simp; omega
      have d1' : ¬ (20 < (n : Int)) := by omega
      have d2 : decide ((n2 : Int) > 20) = true := by simp; omega
      have d2' : 20 < (n2 : Int) := by omega
      go_enter Tryz.func7, Tryz.ntmps7
      go_wp2
      go_ret
      exact ⟨rfl, Below.refl _ _⟩
  · have d1 : decide ((n : Int) > 20) = true := by simp; omega
    have d1' : 20 < (n : Int) := by omega
    go_enter Tryz.func7, Tryz.ntmps7
    go_wp2
    go_ret
    exact ⟨rfl, Below.refl _ _⟩
end Go.Proofs.YtmiflgcjphcigaaGreatDoor
