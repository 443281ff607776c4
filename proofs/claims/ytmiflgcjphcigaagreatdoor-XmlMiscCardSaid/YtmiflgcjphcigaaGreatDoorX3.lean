/-
  A part of the proof of statements on the element reader of package xml (X3): lemmas on what its functions come to; their conditions stand in each theorem.
-/
import Derived.Test.YtmiflgcjphcigaaGreatDoorX2
import Derived.IntWalk
import Derived.Deep.LoopGhost
set_option linter.unusedVariables false
set_option linter.unusedSimpArgs false
namespace Go.Proofs.YtmiflgcjphcigaaGreatDoor
open Go.RowKit
theorem getD_drop_data (s : ByteArray) (a n : Nat) (r : List UInt8) (hr : s.data.toList.drop a = r) (h : a + n < s.size) : r.getD n 0 = s[a + n] := by
  subst hr
  have h2 : a + n < s.data.toList.length := by rw [← Lib.size_eq]; exact h
  rw [List.getD_eq_getElem?_getD, List.getElem?_drop, List.getElem?_eq_getElem h2]
  rfl
theorem getD_drop_none (s : ByteArray) (a n : Nat) (r : List UInt8) (hr : s.data.toList.drop a = r) (h : s.size ≤ a + n) : r.getD n 0 = 0 := by
  subst hr
  have h2 : s.data.toList.length ≤ a + n := by rw [← Lib.size_eq]; exact h
  rw [List.getD_eq_getElem?_getD, List.getElem?_drop, List.getElem?_eq_none h2]
  rfl
set_option maxHeartbeats 400000 in
theorem byteAt_any (b : Nat) (s : ByteArray) (r : List UInt8) (m n : Nat) (w : World) (hA : At w b s r m) (hn : n < 100) :
    Calls Tryz.prog 30 #[.pointer (some ⟨b, 0, none⟩), .int .i64 n] w fun e w' => e = .returned (.int .u8 (r.getD n 0).toNat) ∧ ∃ n, w' = w.drewN n := by
  obtain ⟨a, ha, hr, hR⟩ := hA.rd
  have hs := hA.sz
  have h0 := hR.c0
  have h1 := hR.c1
  clear hR hA
  by_cases hlt : a + n < s.size
  · have hw : IntKind.i64.wrap ((a : Int) + (n : Int)) = (a : Int) + (n : Int) := IntWalk.i64_in _ (by omega)
    have hw0 : (0 : Int) ≤ (a : Int) + (n : Int) := by omega
    have hw1 : ((a : Int) + (n : Int)).toNat = a + n := by omega
    have hw2 : (a : Int) + (n : Int) < (s.size : Int) := by omega
    have hw3 : decide ((s.size : Int) ≤ (a : Int) + (n : Int)) = false := by simp; omega
    have Hg := Lib.hid (getD_drop_data s a n r hr hlt)
    clear hr
    go_enter Tryz.func30, Tryz.ntmps30
    go_wp2
    go_quiet (fail)
    go_wp2
    go_quiet (fail)
    go_wp2
    go_ret
    exact ⟨by rw [Hg.out]; rfl, _, World.drewN_drewN _ _ _⟩
  · have Hg := Lib.hid (getD_drop_none s a n r hr (by omega))
    clear hr
    go_enter Tryz.func30, Tryz.ntmps30
    go_wp2
    go_quiet (fail)
    go_wp2
    go_ret
    exact ⟨by rw [Hg.out]; rfl, nq, rfl⟩
/-! ### blank -/
theorem blank_index (c : UInt8) : decide (0 ≤ Lib.indexByte [32, 9, 10] c) = isBlank c := by
  unfold isBlank Lib.indexByte Lib.indexByte Lib.indexByte Lib.indexByte
  by_cases h1 : 32 = c
  · subst h1; rfl
  by_cases h2 : 9 = c
  · subst h2; rfl
  by_cases h3 : 10 = c
  · subst h3; rfl
  have e1 : (32 == c) = false := beq_eq_false_iff_ne.2 h1
  have e2 : (9 == c) = false := beq_eq_false_iff_ne.2 h2
  have e3 : (10 == c) = false := beq_eq_false_iff_ne.2 h3
  have f1 : (c == 32) = false := beq_eq_false_iff_ne.2 (Ne.symm h1)
  have f2 : (c == 9) = false := beq_eq_false_iff_ne.2 (Ne.symm h2)
  have f3 : (c == 10) = false := beq_eq_false_iff_ne.2 (Ne.symm h3)
  rw [e1, e2, e3, f1, f2, f3]
  rfl
theorem rest_cons {s : ByteArray} {a : Nat} {r : List UInt8} (hr : s.data.toList.drop a = r) (h : a < s.size) : r = s[a] :: s.data.toList.drop (a + 1) := by
  subst hr
  have h2 : a < s.data.toList.length := by rw [← Lib.size_eq]; exact h
  rw [List.drop_eq_getElem_cons h2]
  rfl
theorem blank_end {s : ByteArray} {a a' : Nat} {r r' : List UInt8} (hr : s.data.toList.drop a = r) (hr' : s.data.toList.drop a' = r') (ha : a ≤ s.size) (ha' : a' ≤ s.size)
    (hc : r' = r ∨ (isBlank (r.headD 0) = true ∧ r'.length < r.length)) (hb : isBlank (r'.headD 0) = false) : decide (a < a') = isBlank (r.headD 0) := by
  have h1 := drop_len hr
  have h2 := drop_len hr'
  rcases hc with h | ⟨h, hl⟩
  · subst h
    rw [hb]
    simp
    omega
  · rw [h]
    simp
    omega
theorem dropWhile_stop (r : List UInt8) (h : isBlank (r.headD 0) = false) : r.dropWhile isBlank = r := by
  cases r with
  | nil => rfl
  | cons c l => rw [List.dropWhile_cons, if_neg (by simpa using h)]
theorem at_step {w : World} {b : Nat} {s : ByteArray} {r : List UInt8} {m a : Nat} (hA : At w b s r m) (hR : Rd w b s a m) (h : a < s.size) (n : Nat) :
    At ((w.drewN n).setCell ⟨b, 1, none⟩ (.int .i64 ((a : Int) + 1))) b s (s.data.toList.drop (a + 1)) m ∧ Kp b w ((w.drewN n).setCell ⟨b, 1, none⟩ (.int .i64 ((a : Int) + 1))) := by
  have hk := ((Kp.refl b w).drewN n).set 1 (.int .i64 ((a : Int) + 1))
  exact ⟨hA.goes hk (a := a + 1) (by omega) rfl ((hR.drewN n).set1 (a + 1)), hk⟩
theorem u8_round (c : UInt8) : (c.toNat : Int).toNat.toUInt8 = c := by simp
set_option maxHeartbeats 1000000 in
theorem blank_any (b : Nat) (s : ByteArray) (r : List UInt8) (m : Nat) (w : World) (hA : At w b s r m) :
    Calls Tryz.prog 50 #[.pointer (some ⟨b, 0, none⟩)] w fun e w' => e = .returned (.bool (isBlank (r.headD 0))) ∧ At w' b s (r.dropWhile isBlank) m ∧ Kp b w w' := by
  obtain ⟨a, ha, hr, hR⟩ := hA.rd
  have hs := hA.sz
  have h1 := hR.c1
  have HR := Lib.hid hR
  have HA := Lib.hid hA
  have Hr := Lib.hid hr
  clear hR hA hr
  go_enter Tryz.func50, Tryz.ntmps50
  go_wp2
  go_loopg [] (r.length + 1) (fun k wr => Aside (∃ r', At wr b s r' m ∧ Kp b w wr ∧ r'.dropWhile isBlank = r.dropWhile isBlank ∧ r'.length < k ∧ (r' = r ∨ (isBlank (r.headD 0) = true ∧ r'.length < r.length))))
  case atStart => exact ⟨r, HA.out, Kp.refl b w, rfl, by omega, .inl rfl⟩
  case round =>
    obtain ⟨r', hA', hk', hd', hl', hc'⟩ := hrel.out
    clear hrel
    obtain ⟨a', ha', hr', hR'⟩ := hA'.rd
    have h0 := hR'.c0
    have h1 := hR'.c1
    have hf := hR'.fr 1
    have HR' := Lib.hid hR'
    have HA' := Lib.hid hA'
    have Hr' := Lib.hid hr'
    have HK := Lib.hid hk'
    have Hd' := Lib.hid hd'
    have Hc' := Lib.hid hc'
    clear hR' hA' hr' hk' hd' hc'
    by_cases hlt : a' < s.size
    · have Hrc := Lib.hid (rest_cons Hr'.out hlt)
      have hd1 : decide ((a' : Int) < (s.size : Int)) = true := by simp; omega
      by_cases hb : isBlank s[a'] = true
      · have Hb := Lib.hid hb
        have hix : decide (0 ≤ Lib.indexByte [32, 9, 10] s[a']) = true := by rw [blank_index]; exact hb
        clear hb
        go_wp2
        go_quiet ((go_at_call 66; exact Calls.quiet_of_same (Tryz.strings_IndexByte _ _ _)))
        rw [u8_round]
        go_wp2
        have hst := at_step HA'.out HR'.out hlt nq
        have hl2 := Hrc.out
        go_roundg ((s.data.toList.drop (a' + 1)).length + 1)
        case measure => rw [hl2, List.length_cons] at hl'; omega
        case rel =>
          refine ⟨_, hst.1, HK.out.trans hst.2, ?_, by omega, .inr ?_⟩
          · rw [← Hd'.out, hl2, List.dropWhile_cons, if_pos Hb.out]
          · rcases Hc'.out with h | h
            · subst h
              rw [hl2]
              exact ⟨Hb.out, by simp⟩
            · refine ⟨h.1, ?_⟩
              have := h.2
              rw [hl2, List.length_cons] at this
              omega
      · have Hb := Lib.hid (Bool.eq_false_iff.mpr hb)
        have hix : decide (0 ≤ Lib.indexByte [32, 9, 10] s[a']) = false := by rw [blank_index]; exact Hb.out
        clear hb
        go_wp2
        go_quiet ((go_at_call 66; exact Calls.quiet_of_same (Tryz.strings_IndexByte _ _ _)))
        rw [u8_round]
        go_wp2
        go_ret
        have hb0 : isBlank (r'.headD 0) = false := by rw [Hrc.out]; exact Hb.out
        refine ⟨ret_bool (blank_end Hr.out Hr'.out ha ha' Hc'.out hb0), ?_, HK.out.drewN _⟩
        rw [← Hd'.out, dropWhile_stop r' hb0]
        exact HA'.out.drewN _
    · have hd1 : decide ((a' : Int) < (s.size : Int)) = false := by simp; omega
      have hr0 : r' = [] := List.eq_nil_of_length_eq_zero (by have := drop_len Hr'.out; omega)
      have Hr0 := Lib.hid hr0
      clear hr0
      go_wp2
      go_quiet (fail)
      go_wp2
      go_ret
      have hb0 : isBlank (r'.headD 0) = false := by rw [Hr0.out]; rfl
      refine ⟨ret_bool (blank_end Hr.out Hr'.out ha ha' Hc'.out hb0), ?_, HK.out.drewN _⟩
      rw [← Hd'.out, dropWhile_stop r' hb0]
      exact HA'.out.drewN _
end Go.Proofs.YtmiflgcjphcigaaGreatDoor
