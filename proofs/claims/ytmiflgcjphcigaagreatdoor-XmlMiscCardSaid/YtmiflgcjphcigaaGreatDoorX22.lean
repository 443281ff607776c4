/-
  A part of the proof of statements on the element reader of package xml (X22): lemmas on what its functions come to; their conditions stand in each theorem.
-/
import Derived.Test.YtmiflgcjphcigaaGreatDoorX21
set_option linter.unusedVariables false
set_option linter.unusedSimpArgs false
namespace Go.Proofs.YtmiflgcjphcigaaGreatDoor
open Go.RowKit
theorem asc_take {l : List UInt8} (h : ∀ b ∈ l, b.toNat < 128) (n : Nat) : ∀ b ∈ l.take n, b.toNat < 128 := fun b hb => h b (List.mem_of_mem_take hb)
theorem asc_drop {l : List UInt8} (h : ∀ b ∈ l, b.toNat < 128) (n : Nat) : ∀ b ∈ l.drop n, b.toNat < 128 := fun b hb => h b (List.mem_of_mem_drop hb)
theorem word_zero {l : List UInt8} (h : ∀ b ∈ l, b.toNat < 128) (h8 : 8 ≤ l.length) : Lib.leNat (l.take 8) &&& 9259542123273814144 = 0 := by
  have h1 := Lib.leNat_mask (l.take 8)
  rw [show (l.take 8).length = 8 by rw [List.length_take]; omega, Lib.maskN8] at h1
  exact h1.2 (asc_take h 8)
theorem word_lt8 (l : List UInt8) : Lib.leNat (l.take 8) < 18446744073709551616 := by
  have h := Lib.leNat_lt (l.take 8)
  have h2 : (l.take 8).length ≤ 8 := by rw [List.length_take]; omega
  exact Nat.lt_of_lt_of_le h (Nat.pow_le_pow_right (by decide) h2)
theorem Row.back {w W : World} {n bk o : Nat} {l : List UInt8} (h : Row W bk o l) (e : W = w.drewN n) : Row w bk o l := by subst e; exact ⟨h.at_⟩
theorem mask_zero {A : Nat} {l : List UInt8} (hA : A = Lib.leNat (l.take 8)) (h : ∀ b ∈ l, b.toNat < 128) (h8 : 8 ≤ l.length) : bits .and .u64 (A : Int) 9259542123273814144 = 0 := by
  have h1 := u64_and_nat A 9259542123273814144 (by rw [hA]; exact word_lt8 l) (by omega)
  rw [show (A &&& 9259542123273814144) = 0 by rw [hA]; exact word_zero h h8] at h1
  exact h1
theorem mask2_zero {A B : Nat} {l : List UInt8} (hA : A = Lib.leNat (l.take 8)) (hB : B = Lib.leNat ((l.drop 8).take 8)) (h : ∀ b ∈ l, b.toNat < 128) (h8 : 16 ≤ l.length) : bits .and .u64 (bits .or .u64 (A : Int) (B : Int)) 9259542123273814144 = 0 := by
  have lA : A < 18446744073709551616 := by rw [hA]; exact word_lt8 l
  have lB : B < 18446744073709551616 := by rw [hB]; exact word_lt8 (l.drop 8)
  have lo : A ||| B < 18446744073709551616 := Nat.or_lt_two_pow (n := 64) lA lB
  have z : (A ||| B) &&& 9259542123273814144 = 0 := (Lib.or_mask A B _).2 ⟨by rw [hA]; exact word_zero h (by omega), by rw [hB]; exact word_zero (asc_drop h 8) (by rw [List.length_drop]; omega)⟩
  have h1 := u64_and_nat (A ||| B) 9259542123273814144 lo (by omega)
  rw [z] at h1
  rw [u64_or_nat A B lA lB]
  exact h1
theorem mask4_zero {A B C D : Nat} {l : List UInt8} (hA : A = Lib.leNat (l.take 8)) (hB : B = Lib.leNat ((l.drop 8).take 8)) (hC : C = Lib.leNat ((l.drop 16).take 8)) (hD : D = Lib.leNat ((l.drop 24).take 8)) (h : ∀ b ∈ l, b.toNat < 128) (h8 : 32 ≤ l.length) :
    bits .and .u64 (bits .or .u64 (bits .or .u64 (A : Int) (B : Int)) (bits .or .u64 (C : Int) (D : Int))) 9259542123273814144 = 0 := by
  have lA : A < 18446744073709551616 := by rw [hA]; exact word_lt8 l
  have lB : B < 18446744073709551616 := by rw [hB]; exact word_lt8 (l.drop 8)
  have lC : C < 18446744073709551616 := by rw [hC]; exact word_lt8 (l.drop 16)
  have lD : D < 18446744073709551616 := by rw [hD]; exact word_lt8 (l.drop 24)
  have lo : A ||| B < 18446744073709551616 := Nat.or_lt_two_pow (n := 64) lA lB
  have lo2 : C ||| D < 18446744073709551616 := Nat.or_lt_two_pow (n := 64) lC lD
  have lo3 : (A ||| B) ||| (C ||| D) < 18446744073709551616 := Nat.or_lt_two_pow (n := 64) lo lo2
  have z : ((A ||| B) ||| (C ||| D)) &&& 9259542123273814144 = 0 :=
    (Lib.or_mask _ _ _).2 ⟨(Lib.or_mask A B _).2 ⟨by rw [hA]; exact word_zero h (by omega), by rw [hB]; exact word_zero (asc_drop h 8) (by rw [List.length_drop]; omega)⟩,
      (Lib.or_mask C D _).2 ⟨by rw [hC]; exact word_zero (asc_drop h 16) (by rw [List.length_drop]; omega), by rw [hD]; exact word_zero (asc_drop h 24) (by rw [List.length_drop]; omega)⟩⟩
  have h1 := u64_and_nat ((A ||| B) ||| (C ||| D)) 9259542123273814144 lo3 (by omega)
  rw [z] at h1
  rw [u64_or_nat A B lA lB, u64_or_nat C D lC lD, u64_or_nat _ _ lo lo2]
  exact h1
set_option maxHeartbeats 16000000 in
set_option maxRecDepth 1000000 in
theorem valid_asc (bk n c : Nat) (l : List UInt8) (w : World) (hR : Row w bk 0 l) (hasc : ∀ b ∈ l, b.toNat < 128) (hn : n = l.length) (hc : l.length ≤ c) (hl : l.length < 4294967296) :
    Calls Tryz.prog 58 #[.slice (some ⟨bk, 0, none⟩) n c] w fun e w' => e = .returned (.bool true) ∧ ∃ q, w' = w.drewN q := by
  have HR := Lib.hid hR
  have HA := Lib.hid hasc
  have hnl := Lib.hid hn
  obtain ⟨N, rfl⟩ : ∃ N, n = N := ⟨_, rfl⟩
  have hnc : n ≤ c := by omega
  have hnb : n < 4294967296 := by omega
  clear hR hasc hn hc
  go_enter Tryz.func58, Tryz.ntmps58
  go_wp2
  go_loopg [0] (n + 1) (fun gk s0 wx => Aside (∃ (q o : Nat) (t : List UInt8), s0 = .slice (some ⟨bk, o, none⟩) t.length t.length ∧ wx = w.drewN q ∧ Row w bk o t ∧ (∀ b ∈ t, b.toNat < 128) ∧ t.length < gk ∧ o + t.length ≤ n))
  case atStart => exact ⟨0, 0, l, by rw [hnl.out], rfl, HR.out, HA.out, by rw [hnl.out]; omega, by rw [hnl.out]; omega⟩
  case round =>
    obtain ⟨q, o, t, rfl, rfl, hRt, hat, htg, hot⟩ := hrel.out
    clear hrel
    cases t with
    | nil =>
      go_wp2
      go_ret
      exact ⟨rfl, q, rfl⟩
    | cons x t1 =>
      have c0 : w.cell? ⟨bk, o, none⟩ = some (.int .u8 x.toNat) := hRt.at_ 0 x rfl
      have hx : x.toNat < 128 := hat x (by simp)
      have hxz : decide ((x.toNat : Int) < 128) = true := by simp; omega
      have HRt : Hid (Row w bk (o + 1) t1) := Lib.hid (hRt.drop 1)
      have HAt : Hid (∀ b ∈ t1, b.toNat < 128) := Lib.hid fun b hb => hat b (by simp [hb])
      rw [List.length_cons] at htg hot
      obtain ⟨N1, hN1⟩ : ∃ N1, N1 = t1.length := ⟨_, rfl⟩
      have HN1 := Lib.hid hN1
      rw [← hN1] at htg hot
      rw [List.length_cons, ← hN1]
      obtain ⟨N0, hN0⟩ : ∃ N0, N0 = N1 + 1 := ⟨_, rfl⟩
      rw [← hN0] at htg hot ⊢
      have h0z : (0 : Int) < (N0 : Int) := by omega
      have h0n : 0 < N0 := by omega
      clear hRt hat hN1
      have HN0 := Lib.hid hN0
      clear hN0
      obtain ⟨g', rfl⟩ : ∃ g', gk = g' + 1 := ⟨gk - 1, by omega⟩
      by_cases c8 : 8 < N0 - 1
      · have c8z : (8 : Int) < ((N0 - 1 : Nat) : Int) := by omega
        have h1 : ¬ N0 = 1 := by omega
        have h1n : 1 < N0 := by omega
        have h1z : (1 : Int) < (N0 : Int) := by omega
        have HR1 : Hid (Row w bk (o + 1) t1) := HRt
        have HL1 : Hid (N0 - 1 = t1.length) := Lib.hid (by have := HN0.out; have := HN1.out; omega)
        obtain ⟨A1, hA1⟩ : ∃ A1, A1 = Lib.leNat (t1.take 8) := ⟨_, rfl⟩
        have hand1 : bits .and .u64 (A1 : Int) 9259542123273814144 = 0 := mask_zero hA1 HAt.out (by have := HL1.out; omega)
        have cW1 : ∀ k, Calls Tryz.prog 76 #[.slice (some ⟨bk, o + 1, none⟩) (N0 - 1) (N0 - 1)] (w.drewN k) fun e w' => e = .returned (.int .u64 A1) ∧ ∃ m, w' = (w.drewN k).drewN m := fun k => by
          rw [hA1]; exact word_row bk (o + 1) (N0 - 1) (N0 - 1) t1 _ (HR1.out.drewN k) (by have := HL1.out; omega) HL1.out (by have := HL1.out; omega)
        have HW1 := Lib.hid cW1
        clear cW1 hA1
        go_wp2_with fail
        refine (HW1.out _).mono ?_
        rintro e w6 ⟨rfl, m6, rfl⟩
        clear HW1
        obtain ⟨W1, hW1⟩ : ∃ W, W = w.drewN (q + m6) := ⟨_, rfl⟩
        rw [World.drewN_drewN, ← hW1]
        have HW := Lib.hid hW1
        have HR1 : Hid (Row W1 bk (o + 1) t1) := by rw [hW1]; exact Lib.hid (HR1.out.drewN _)
        clear hW1
        obtain ⟨t2, ht2⟩ : ∃ t2, t2 = t1.drop 8 := ⟨_, rfl⟩
        have HR2 : Hid (Row W1 bk (o + 1 + 8) t2) := by rw [ht2]; exact Lib.hid (HR1.out.drop 8)
        have HA2 : Hid (∀ b ∈ t2, b.toNat < 128) := by rw [ht2]; exact Lib.hid (asc_drop HAt.out 8)
        have HL2 : Hid (N0 - 1 - 8 = t2.length) := by rw [ht2]; exact Lib.hid (by rw [List.length_drop, ← HL1.out])
        clear ht2
        by_cases c16 : 16 < N0 - 1 - 8
        · have c16z : (16 : Int) < ((N0 - 1 - 8 : Nat) : Int) := by omega
          have c16s : (8 : Int) ≤ ((N0 - 1 - 8 : Nat) : Int) := by omega
          have c16t : ¬ N0 - 1 - 8 = 8 := by omega
          obtain ⟨A2, hA2⟩ : ∃ A2, A2 = Lib.leNat (t2.take 8) := ⟨_, rfl⟩
          obtain ⟨A3, hA3⟩ : ∃ A3, A3 = Lib.leNat ((t2.drop 8).take 8) := ⟨_, rfl⟩
          have hM2 := mask2_zero hA2 hA3 HA2.out (by have := HL2.out; omega)
          have cW2 : ∀ k, Calls Tryz.prog 76 #[.slice (some ⟨bk, o + 1 + 8, none⟩) (N0 - 1 - 8) (N0 - 1 - 8)] (W1.drewN k) fun e w' => e = .returned (.int .u64 A2) ∧ ∃ m, w' = (W1.drewN k).drewN m := fun k => by
            rw [hA2]; exact word_row bk (o + 1 + 8) _ _ t2 _ (HR2.out.drewN k) (by have := HL2.out; omega) HL2.out (by have := HL2.out; omega)
          have cW3 : ∀ k, Calls Tryz.prog 76 #[.slice (some ⟨bk, o + 1 + 8 + 8, none⟩) (N0 - 1 - 8 - 8) (N0 - 1 - 8 - 8)] (W1.drewN k) fun e w' => e = .returned (.int .u64 A3) ∧ ∃ m, w' = (W1.drewN k).drewN m := fun k => by
            rw [hA3]; exact word_row bk (o + 1 + 8 + 8) _ _ (t2.drop 8) _ ((HR2.out.drop 8).drewN k) (by rw [List.length_drop]; have := HL2.out; omega) (by rw [List.length_drop, ← HL2.out]) (by rw [List.length_drop]; have := HL2.out; omega)
          obtain ⟨O2, hO2⟩ : ∃ O2, O2 = bits .or .u64 (A2 : Int) (A3 : Int) := ⟨_, rfl⟩
          have hor : bits .or .u64 (A2 : Int) (A3 : Int) = O2 := hO2.symm
          rw [← hO2] at hM2
          have HW2 := Lib.hid cW2
          have HW3 := Lib.hid cW3
          clear cW2 cW3 hA2 hA3 hO2
          go_wp2_with fail
          go_quiet (first | (go_at_call 76; with_reducible exact Calls.quiet_of (HW2.out _)) | (go_at_call 76; with_reducible exact Calls.quiet_of (HW3.out _)))
          clear hM2 hor HW2 HW3
          have c16u : ¬ N0 - 1 - 8 = 16 := by omega
          have c16v : (16 : Int) ≤ ((N0 - 1 - 8 : Nat) : Int) := by omega
          go_wp2
          go_loopg [0] (n + 1) (fun g2 s0 wx => Aside (∃ (q2 o2 : Nat) (t4 : List UInt8), s0 = .slice (some ⟨bk, o2, none⟩) t4.length t4.length ∧ wx = w.drewN q2 ∧ Row w bk o2 t4 ∧ (∀ b ∈ t4, b.toNat < 128) ∧ t4.length < g2 ∧ o2 + t4.length ≤ n ∧ t4.length < N0))
          case atStart =>
            refine ⟨q + m6 + nq, o + 1 + 8 + 16, t2.drop 16, by rw [List.length_drop, ← HL2.out], by rw [HW.out, World.drewN_drewN], (HR2.out.back HW.out).drop 16, asc_drop HA2.out 16, ?_, ?_, ?_⟩
            all_goals (rw [List.length_drop, ← HL2.out]; omega)
          case round =>
            obtain ⟨q2, o2, t4, rfl, rfl, hR4, hA4, hg4, ho4, hl4⟩ := hrel.out
            clear hrel
            have HA4 := Lib.hid hA4
            obtain ⟨g3, rfl⟩ : ∃ g3, gk = g3 + 1 := ⟨gk - 1, by omega⟩
            obtain ⟨N4, hN4⟩ : ∃ N, N = t4.length := ⟨_, rfl⟩
            have HN4 := Lib.hid hN4
            rw [← hN4] at hg4 ho4 hl4 ⊢
            clear hN4 hA4
            obtain ⟨W4, hW4⟩ : ∃ W, W = w.drewN q2 := ⟨_, rfl⟩
            rw [← hW4]
            have HW4 := Lib.hid hW4
            have HR4 : Hid (Row W4 bk o2 t4) := by rw [hW4]; exact Lib.hid (hR4.drewN _)
            clear hW4 hR4
            by_cases c32 : 32 < N4
            · have c32z : (32 : Int) < (N4 : Int) := by omega
              have s8 : (8 : Int) ≤ (N4 : Int) := by omega
              have s16 : (16 : Int) ≤ (N4 : Int) := by omega
              have s24 : (24 : Int) ≤ (N4 : Int) := by omega
              have s32 : (32 : Int) ≤ (N4 : Int) := by omega
              have e8 : ¬ N4 = 8 := by omega
              have e16 : ¬ N4 = 16 := by omega
              have e24 : ¬ N4 = 24 := by omega
              have e32 : ¬ N4 = 32 := by omega
              obtain ⟨B0, hB0⟩ : ∃ A, A = Lib.leNat (t4.take 8) := ⟨_, rfl⟩
              obtain ⟨B1, hB1⟩ : ∃ A, A = Lib.leNat ((t4.drop 8).take 8) := ⟨_, rfl⟩
              obtain ⟨B2, hB2⟩ : ∃ A, A = Lib.leNat ((t4.drop 16).take 8) := ⟨_, rfl⟩
              obtain ⟨B3, hB3⟩ : ∃ A, A = Lib.leNat ((t4.drop 24).take 8) := ⟨_, rfl⟩
              have hM4 := mask4_zero hB0 hB1 hB2 hB3 HA4.out (by have := HN4.out; omega)
              have cB0 : ∀ k, Calls Tryz.prog 76 #[.slice (some ⟨bk, o2, none⟩) N4 N4] (W4.drewN k) fun e w' => e = .returned (.int .u64 B0) ∧ ∃ m, w' = (W4.drewN k).drewN m := fun k => by
                rw [hB0]; exact word_row bk o2 _ _ t4 _ (HR4.out.drewN k) (by have := HN4.out; omega) HN4.out (by have := HN4.out; omega)
              have cB1 : ∀ k, Calls Tryz.prog 76 #[.slice (some ⟨bk, o2 + 8, none⟩) (N4 - 8) (N4 - 8)] (W4.drewN k) fun e w' => e = .returned (.int .u64 B1) ∧ ∃ m, w' = (W4.drewN k).drewN m := fun k => by
                rw [hB1]; exact word_row bk (o2 + 8) _ _ (t4.drop 8) _ ((HR4.out.drop 8).drewN k) (by rw [List.length_drop]; have := HN4.out; omega) (by rw [List.length_drop, ← HN4.out]) (by rw [List.length_drop]; have := HN4.out; omega)
              have cB2 : ∀ k, Calls Tryz.prog 76 #[.slice (some ⟨bk, o2 + 16, none⟩) (N4 - 16) (N4 - 16)] (W4.drewN k) fun e w' => e = .returned (.int .u64 B2) ∧ ∃ m, w' = (W4.drewN k).drewN m := fun k => by
                rw [hB2]; exact word_row bk (o2 + 16) _ _ (t4.drop 16) _ ((HR4.out.drop 16).drewN k) (by rw [List.length_drop]; have := HN4.out; omega) (by rw [List.length_drop, ← HN4.out]) (by rw [List.length_drop]; have := HN4.out; omega)
              have cB3 : ∀ k, Calls Tryz.prog 76 #[.slice (some ⟨bk, o2 + 24, none⟩) (N4 - 24) (N4 - 24)] (W4.drewN k) fun e w' => e = .returned (.int .u64 B3) ∧ ∃ m, w' = (W4.drewN k).drewN m := fun k => by
                rw [hB3]; exact word_row bk (o2 + 24) _ _ (t4.drop 24) _ ((HR4.out.drop 24).drewN k) (by rw [List.length_drop]; have := HN4.out; omega) (by rw [List.length_drop, ← HN4.out]) (by rw [List.length_drop]; have := HN4.out; omega)
              obtain ⟨P1, hP1⟩ : ∃ O, bits .or .u64 (B0 : Int) (B1 : Int) = O := ⟨_, rfl⟩
              obtain ⟨P2, hP2⟩ : ∃ O, bits .or .u64 (B2 : Int) (B3 : Int) = O := ⟨_, rfl⟩
              rw [hP1, hP2] at hM4
              obtain ⟨P3, hP3⟩ : ∃ O, bits .or .u64 P1 P2 = O := ⟨_, rfl⟩
              rw [hP3] at hM4
              have HB0 := Lib.hid cB0
              have HB1 := Lib.hid cB1
              have HB2 := Lib.hid cB2
              have HB3 := Lib.hid cB3
              clear cB0 cB1 cB2 cB3 hB0 hB1 hB2 hB3
              go_wp2_with fail
              go_quiet (first | (go_at_call 76; with_reducible exact Calls.quiet_of (HB0.out _)) | (go_at_call 76; with_reducible exact Calls.quiet_of (HB1.out _)) | (go_at_call 76; with_reducible exact Calls.quiet_of (HB2.out _)) | (go_at_call 76; with_reducible exact Calls.quiet_of (HB3.out _)))
              clear hM4 hP1 hP2 hP3 HB0 HB1 HB2 HB3
              go_wp2
              go_roundg g3
              case measure => omega
              case rel =>
                refine ⟨q2 + nq, o2 + 32, t4.drop 32, by rw [List.length_drop, ← HN4.out], by rw [HW4.out, World.drewN_drewN], (HR4.out.back HW4.out).drop 32, asc_drop HA4.out 32, ?_, ?_, ?_⟩
                all_goals (rw [List.length_drop, ← HN4.out]; omega)
            · have c32d : decide ((32 : Int) < (N4 : Int)) = false := by simp; omega
              have c32z : ¬ ((32 : Int) < (N4 : Int)) := by omega
              go_wp2_with fail
              go_quiet (fail)
              go_wp2
              go_roundg g'
              case measure => omega
              case rel =>
                exact ⟨q2 + nq, o2, t4, by rw [← HN4.out], by rw [HW4.out, World.drewN_drewN], HR4.out.back HW4.out, HA4.out, by rw [← HN4.out]; omega, by rw [← HN4.out]; omega⟩
        · have c16d : decide ((16 : Int) < ((N0 - 1 - 8 : Nat) : Int)) = false := by simp; omega
          have c16z : ¬ ((16 : Int) < ((N0 - 1 - 8 : Nat) : Int)) := by omega
          go_wp2_with fail
          go_quiet (fail)
          go_wp2
          go_roundg g'
          case measure => omega
          case rel => exact ⟨q + m6 + nq, o + 1 + 8, t2, by rw [← HL2.out], by rw [HW.out, World.drewN_drewN], HR2.out.back HW.out, HA2.out, by rw [← HL2.out]; omega, by rw [← HL2.out]; omega⟩
      · have c8z : ¬ ((8 : Int) < ((N0 - 1 : Nat) : Int)) := by omega
        have H1 : Hid (N0 = 1 → t1 = []) := Lib.hid fun h => List.eq_nil_of_length_eq_zero (by have := HN0.out; have := HN1.out; omega)
        have HL : Hid (N0 - 1 = t1.length) := Lib.hid (by have := HN0.out; have := HN1.out; omega)
        go_wp2
        all_goals
          go_roundg g'
          case measure => omega
          case rel =>
            first
              | exact ⟨q, o, [], rfl, rfl, ⟨fun j y hy => by simp at hy⟩, fun b hb => by simp at hb, by simp; omega, by simp; omega⟩
              | exact ⟨q, o + 1, t1, by rw [← HL.out], rfl, HRt.out, HAt.out, by rw [← HL.out]; omega, by rw [← HL.out]; omega⟩
end Go.Proofs.YtmiflgcjphcigaaGreatDoor
