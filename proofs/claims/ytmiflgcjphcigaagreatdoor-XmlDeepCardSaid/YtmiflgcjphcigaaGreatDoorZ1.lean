/-
  A part of the proof of statements on the element reader of package xml (Z1): lemmas on what its functions come to; their conditions stand in each theorem.
-/
import Derived.Test.YtmiflgcjphcigaaGreatDoorZ0
set_option linter.unusedVariables false
set_option linter.unusedSimpArgs false
namespace Go.Proofs.YtmiflgcjphcigaaGreatDoor
open Go.RowKit Go.Proofs.YtmiflgcjphcigaaGreatDoorW.PrintWords
/-! ## XmlDeep: the walk -/
theorem opens_snoc (i : Nat) : opens i [] ++ [60, 97, 62] = opens (i + 1) [] := by
  have h : ∀ (i : Nat) (r : B), opens i r = opens i [] ++ r := by
    intro i
    induction i with
    | zero => intro r; rfl
    | succ i ih => intro r; simp only [opens, List.cons_append]; rw [ih]
  have h2 : ∀ (i : Nat) (r : B), opens i (60 :: 97 :: 62 :: r) = opens (i + 1) r := by
    intro i
    induction i with
    | zero => intro r; rfl
    | succ i ih => intro r; simp only [opens] at ih ⊢; rw [ih]
  rw [← h, h2]
theorem opens_size (j : Nat) : (bs (opens j [])).size = 3 * j := by
  rw [bs_size]
  induction j with
  | zero => rfl
  | succ j ih => simp only [opens, List.length_cons, ih]; omega
theorem closes_size (j : Nat) : (bs (closes j [])).size = 4 * j := by
  rw [bs_size]
  induction j with
  | zero => rfl
  | succ j ih => simp only [closes, List.length_cons, ih]; omega
theorem closes_snoc (i : Nat) : closes i [] ++ [60, 47, 97, 62] = closes (i + 1) [] := by
  have h : ∀ (i : Nat) (r : B), closes i r = closes i [] ++ r := by
    intro i
    induction i with
    | zero => intro r; rfl
    | succ i ih => intro r; simp only [closes, List.cons_append]; rw [ih]
  rw [← h, ← closes_succ]
theorem deep_text (n : Nat) : opens n [] ++ closes n [] = deepB n := by
  have h : ∀ (i : Nat) (r : B), opens i r = opens i [] ++ r := by
    intro i
    induction i with
    | zero => intro r; rfl
    | succ i ih => intro r; simp only [opens, List.cons_append]; rw [ih]
  rw [deepB, ← h]
set_option maxHeartbeats 4000000 in
set_option maxRecDepth 100000 in
theorem deep_walk (n : Int) (hn1 : 1 ≤ n) (hn2 : n ≤ 300) (w : World) (hgl : ∃ x, w.cell? ⟨5, 0, none⟩ = some (.int .i64 x)) (h6 : 5 < w.heap.size) :
    Calls Tryz.prog 3 #[.int .i64 n] w fun e w' => e = .returned (.bool true) ∧ Below w.heap.size w w' := by
  obtain ⟨N, rfl⟩ : ∃ N : Nat, n = N := ⟨n.toNat, by omega⟩
  have d1 : decide ((N : Int) < 1) = false := by simp; omega
  have d2 : decide ((N : Int) > 300) = false := by simp; omega
  have Hgl := Lib.hid hgl
  clear hgl
  go_enter Tryz.func3, Tryz.ntmps3
  go_wp2_with fail
  go_loopg [3, 4, 5] N (fun k s t i wr => Aside (∃ j : Nat, i = .int .i64 j ∧ w = wr ∧ j + k = N ∧ s = .string (bs (opens j [])) ∧ t = .string (bs (closes j []))))
  case atStart => exact ⟨0, rfl, rfl, by omega, rfl, rfl⟩
  case round =>
    obtain ⟨j, rfl, rfl, hj, rfl, rfl⟩ := hrel.out
    clear hrel
    have ho := opens_size j
    have hc := closes_size j
    have z1 : ¬ 9223372036854775807 < (bs (opens j [])).size + 3 := by omega
    have z2 : ¬ 9223372036854775807 < (bs (closes j [])).size + 4 := by omega
    have z3 : ¬ 9223372036854775807 < (bs (opens j [])).size + (bs (closes j [])).size := by omega
    clear ho hc
    by_cases hlt : j < N
    · have hd : decide ((j : Int) < (N : Int)) = true := by simp; omega
      go_wp2
      go_roundg (N - (j + 1))
      case measure => omega
      case rel =>
        refine ⟨j + 1, by go_num, rfl, by omega, ?_, ?_⟩
        · show Value.string (bs (opens j []) ++ bs [60, 97, 62]) = _
          rw [bs_append, opens_snoc]
        · show Value.string (bs (closes j []) ++ bs [60, 47, 97, 62]) = _
          rw [bs_append, closes_snoc]
    · have hd : decide ((j : Int) < (N : Int)) = false := by simp; omega
      obtain rfl : j = N := by omega
      obtain ⟨M, rfl⟩ : ∃ M, j = M + 1 := ⟨j - 1, by omega⟩
      have Ht : Hid (bs (opens (M + 1) []) ++ bs (closes (M + 1) []) = bs (deepB (M + 1))) := Lib.hid (by rw [bs_append, deep_text])
      have hconv := conv_text w (deepB (M + 1)) _ Ht.out
      have hrd := deep_read M 700 (by omega) (by omega)
      by_cases h257 : M < 257
      · rw [if_pos h257] at hrd
        have hr := read_text 700 (by omega) (deepB (M + 1)) w Hgl.out h6 (by rw [deepB_len]; omega) (by rw [hrd]; simp)
        rw [hrd] at hr
        have HR := Lib.hid hr
        have d3 : decide (((M + 1 : Nat) : Int) > 257) = false := by simp; omega
        have d3' : ¬ (257 < ((M + 1 : Nat) : Int)) := by omega
        clear hr hrd
        go_wp2_with fail
        refine HR.out.mono ?_
        rintro e w1 ⟨cs, rfl, hx, hb1⟩
        have HD := Lib.hid (DSt.new hx hb1)
        clear hb1 HR
        obtain ⟨sp, nm, tx, A1, n1, c1, A2, n2, c2, rfl⟩ := hx.cells
        clear hx
        have hz1 : w.heap.size ≤ w1.heap.size := HD.out.le
        go_wp2_with fail
        obtain ⟨tb, htb⟩ : ∃ tb, tb = w1.heap.size := ⟨_, rfl⟩
        obtain ⟨W2, hW2⟩ : ∃ W2, W2 = w1.alloc (.cells #[.string (bs sp), .string (bs nm), .string (bs tx), .slice A1 n1 c1, .slice A2 n2 c2] 26) := ⟨_, rfl⟩
        rw [show (w1.alloc (.cells ([.string (bs sp), .string (bs nm), .string (bs tx), .slice A1 n1 c1, .slice A2 n2 c2] : List Value).toArray 26)) = W2 from hW2.symm, ← htb] at HD
        rw [← htb, ← hW2]
        clear hW2 htb hz1
        go_loopg [8] M (fun k i W => Aside (∃ j : Nat, i = .int .i64 ((j : Int) + 1) ∧ j + k = M ∧ DSt w tb W (nest k)))
        case atStart => exact ⟨0, rfl, by omega, HD.out⟩
        case round =>
          obtain ⟨j, rfl, hjk, hD⟩ := hrel.out
          clear hrel HD
          obtain ⟨cs, hB, hxx⟩ := hD.ex
          have hbw := hD.below
          have HB := Lib.hid hB
          have HD := Lib.hid hD
          clear hB hD
          cases gk with
          | zero =>
            have hj : decide ((j : Int) + 1 < (M : Int) + 1) = false := by simp; omega
            have hj' : ¬ ((j : Int) + 1 < (M : Int) + 1) := by omega
            obtain ⟨A1, c1, A2, c2, inner, rfl, _, _, _, _⟩ := IsE.open (sp := []) (nm := [97]) (tx := []) (at_ := []) (ks := []) hxx
            have q1 : wr.cell? ⟨tb, 1, none⟩ = some (.string (bs [97])) := HB.out.cell 1
            have q4 : wr.cell? ⟨tb, 4, none⟩ = some (.slice A2 0 c2) := HB.out.cell 4
            have s3 : ((bs [97]).toList == [97]) = true := by rw [bs_toList]; rfl
            have Hb := Lib.hid hbw
            have Hgl1 := Lib.hid (gl_below hbw h6 Hgl.out)
            have h61 : 5 < wr.heap.size := Nat.lt_of_lt_of_le h6 hbw.size
            clear hxx HB hbw
            go_wp2_with fail
            refine (known_any _ Hgl1.out h61).mono ?_
            rintro e w2 ⟨rfl, hb2⟩
            go_wp2
            go_ret
            exact ⟨rfl, Hb.out.trans (hb2.mono Hb.out.size)⟩
          | succ k =>
            have hj : decide ((j : Int) + 1 < (M : Int) + 1) = true := by simp; omega
            have hj' : (j : Int) + 1 < (M : Int) + 1 := by omega
            obtain ⟨A1, c1, A2, c2, inner, rfl, _, _, hown, hks⟩ := IsE.open (sp := []) (nm := [97]) (tx := []) (at_ := []) (ks := [nest k]) hxx
            have hy := hks 0 (nest k) rfl
            obtain ⟨sp, nm, tx, A3, n3, c3, A4, n4, c4, hcs⟩ := hy.cells
            rw [hcs] at hy
            obtain ⟨i0, i1, i2, i3, i4⟩ := kid_cells hcs
            obtain ⟨g2, rfl, _, hg2, _, hkc⟩ := kids_cell hown (Nat.zero_lt_succ _)
            have k0 := hkc 0 _ i0
            have k1 := hkc 1 _ i1
            have k2 := hkc 2 _ i2
            have k3 := hkc 3 _ i3
            have k4 := hkc 4 _ i4
            have q0 : wr.cell? ⟨tb, 0, none⟩ = some (.string (bs [])) := HB.out.cell 0
            have q1 : wr.cell? ⟨tb, 1, none⟩ = some (.string (bs [97])) := HB.out.cell 1
            have q2 : wr.cell? ⟨tb, 2, none⟩ = some (.string (bs [])) := HB.out.cell 2
            have q3 : wr.cell? ⟨tb, 3, none⟩ = some (.slice A1 0 c1) := HB.out.cell 3
            have q4 : wr.cell? ⟨tb, 4, none⟩ = some (.slice (some ⟨g2, 0, none⟩) 1 c2) := HB.out.cell 4
            have f0 := HB.out.fr 0
            have f1 := HB.out.fr 1
            have f2 := HB.out.fr 2
            have f3 := HB.out.fr 3
            have f4 := HB.out.fr 4
            have HD2 := Lib.hid (HD.out.put hy)
            clear hxx hks hown hkc hcs hy i0 i1 i2 i3 i4 HB HD hbw
            go_wp2
            go_roundg k
            case measure => omega
            case rel => exact ⟨j + 1, by go_num, by omega, HD2.out⟩
      · rw [if_neg h257] at hrd
        have hr := read_text 700 (by omega) (deepB (M + 1)) w Hgl.out h6 (by rw [deepB_len]; omega) (by rw [hrd]; simp)
        rw [hrd] at hr
        have HR := Lib.hid hr
        have d3 : decide (((M + 1 : Nat) : Int) > 257) = true := by simp; omega
        clear hr hrd
        go_wp2_with fail
        refine HR.out.mono ?_
        rintro e w1 ⟨rfl, hb1⟩
        have HB := Lib.hid (hb1.alloc hb1.size (.cells #[.string ⟨#[]⟩, .string ⟨#[]⟩, .string ⟨#[]⟩, .slice none 0 0, .slice none 0 0] 26))
        clear hb1 HR
        have Hgl1 := Lib.hid (gl_below HB.out h6 Hgl.out)
        have h61 : 5 < (w1.alloc (.cells #[.string ⟨#[]⟩, .string ⟨#[]⟩, .string ⟨#[]⟩, .slice none 0 0, .slice none 0 0] 26)).heap.size := Nat.lt_of_lt_of_le h6 HB.out.size
        go_wp2_with fail
        refine (known_any _ Hgl1.out h61).mono ?_
        rintro e w2 ⟨rfl, hb2⟩
        go_wp2
        go_ret
        exact ⟨rfl, HB.out.trans (hb2.mono HB.out.size)⟩
theorem deep_any (n : Int) (w : World) (hgl : ∃ x, w.cell? ⟨5, 0, none⟩ = some (.int .i64 x)) (h6 : 5 < w.heap.size) :
    Calls Tryz.prog 3 #[.int .i64 n] w fun e w' => e = .returned (.bool true) ∧ Below w.heap.size w w' := by
  by_cases h1 : n < 1
  · have d1 : decide (n < 1) = true := by simp; omega
    go_enter Tryz.func3, Tryz.ntmps3
    go_wp2_with fail
    refine (known_any _ hgl h6).mono ?_
    rintro e w2 ⟨rfl, hb2⟩
    go_wp2
    go_ret
    exact ⟨rfl, hb2⟩
  · by_cases h2 : n ≤ 300
    · exact deep_walk n (by omega) h2 w hgl h6
    · have d1 : decide (n < 1) = false := by simp; omega
      have d2 : decide (n > 300) = true := by simp; omega
      have d2' : 300 < n := by omega
      go_enter Tryz.func3, Tryz.ntmps3
      go_wp2_with fail
      refine (known_any _ hgl h6).mono ?_
      rintro e w2 ⟨rfl, hb2⟩
      go_wp2
      go_ret
      exact ⟨rfl, hb2⟩
end Go.Proofs.YtmiflgcjphcigaaGreatDoor
