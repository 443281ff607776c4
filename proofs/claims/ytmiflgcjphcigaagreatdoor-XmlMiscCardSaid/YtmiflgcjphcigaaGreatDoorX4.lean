/-
  A part of the proof of statements on the element reader of package xml (X4): lemmas on what its functions come to; their conditions stand in each theorem.
-/
import Derived.Test.YtmiflgcjphcigaaGreatDoorX3
import Derived.Test.YtmiflgcjphcigaaGreatDoorXT
set_option linter.unusedVariables false
set_option linter.unusedSimpArgs false
namespace Go.Proofs.YtmiflgcjphcigaaGreatDoor
open Go.RowKit
/-- Bytes as a string. -/
def bs (l : List UInt8) : ByteArray := ⟨l.toArray⟩
theorem bs_data (l : List UInt8) : (bs l).data.toList = l := rfl
theorem bs_toList (l : List UInt8) : (bs l).toList = l := by rw [Lib.toList_data]; rfl
theorem bs_size (l : List UInt8) : (bs l).size = l.length := by rw [Lib.size_eq]; rfl
theorem extract_bs {s : ByteArray} {a a' : Nat} {l : List UInt8} (h : (s.data.toList.drop a).take (a' - a) = l) : s.extract a a' = bs l := by
  rw [Lib.extract_eq, h]; rfl
theorem takeWhile_split {p : UInt8 → Bool} (r r' : List UInt8) (n : Nat) (h : ∀ c ∈ r.take n, p c = true) (hn : r.drop n = r') (hp : p (r'.headD 0) = false) : r.takeWhile p = r.take n ∧ r.dropWhile p = r' := by
  subst hn
  have e : r = r.take n ++ r.drop n := (List.take_append_drop n r).symm
  have hd : (r.drop n).takeWhile p = [] ∧ (r.drop n).dropWhile p = r.drop n := by
    cases hc : r.drop n with
    | nil => exact ⟨rfl, rfl⟩
    | cons c l =>
      rw [hc] at hp
      have hp' : p c = false := hp
      simp [hp']
  constructor
  · conv => lhs; rw [e]
    rw [List.takeWhile_append_of_pos h, hd.1, List.append_nil]
  · conv => lhs; rw [e]
    rw [List.dropWhile_append_of_pos h, hd.2]
theorem take_more {s : ByteArray} {p : UInt8 → Bool} {a a' : Nat} {r : List UInt8} (hr : s.data.toList.drop a = r) (haa : a ≤ a') (hlt : a' < s.size) (h : ∀ c ∈ r.take (a' - a), p c = true) (hb : p s[a'] = true) :
    ∀ c ∈ r.take (a' + 1 - a), p c = true := by
  have h2 : a' < s.data.toList.length := by rw [← Lib.size_eq]; exact hlt
  have e : r[a' - a]? = some s[a'] := by
    rw [← hr, List.getElem?_drop, show a + (a' - a) = a' by omega, List.getElem?_eq_getElem h2]
    rfl
  intro c hc
  rw [show a' + 1 - a = (a' - a) + 1 by omega, List.take_add_one, e] at hc
  rcases List.mem_append.1 hc with hc | hc
  · exact h c hc
  · have : c = s[a'] := by simpa using hc
    rw [this]; exact hb
theorem name_end {s : ByteArray} {p : UInt8 → Bool} {a a' : Nat} {r : List UInt8} (hr : s.data.toList.drop a = r) (haa : a ≤ a') (ha' : a' ≤ s.size) (h : ∀ c ∈ r.take (a' - a), p c = true) (hb : p ((s.data.toList.drop a').headD 0) = false) :
    s.extract a a' = bs (r.takeWhile p) ∧ r.dropWhile p = s.data.toList.drop a' := by
  have hl := drop_len hr
  have hd : r.drop (a' - a) = s.data.toList.drop a' := by rw [← hr, List.drop_drop, show a + (a' - a) = a' by omega]
  have ht := takeWhile_split r (s.data.toList.drop a') (a' - a) h hd hb
  exact ⟨extract_bs (by rw [ht.1, hr]), ht.2⟩
set_option maxHeartbeats 1000000 in
set_option maxRecDepth 100000 in
theorem name_no (b : Nat) (s : ByteArray) (r : List UInt8) (m : Nat) (w : World) (hA : At w b s r m) (hf : isFirstB (r.headD 0) = false) :
    Calls Tryz.prog 47 #[.pointer (some ⟨b, 0, none⟩)] w fun e w' => e = .panicked (failure 10) ∧ At w' b s r m ∧ Kp b w w' := by
  obtain ⟨a, ha, hr, hR⟩ := hA.rd
  have hs := hA.sz
  have h0 := hR.c0
  have h1 := hR.c1
  have HA := Lib.hid hA
  have Hr := Lib.hid hr
  clear hR hA hr
  by_cases hlt : a < s.size
  · have hd1 : decide ((a : Int) < (s.size : Int)) = true := by simp; omega
    have Hf : Hid (isFirstB s[a] = false) := by rw [rest_cons Hr.out hlt] at hf; exact hf
    clear hf
    go_enter Tryz.func47, Tryz.ntmps47
    go_wp2
    refine StillG.tail 22 (by kernel_rfl) (by kernel_rfl) ?_
    simp only [List.take_succ_cons, List.take_zero, List.drop_succ_cons, List.drop_zero]
    iterate 20 (refine StillG.want rfl (fun K hK => ?_); go_simp; refine hK _ ?_; clear hK K)
    refine StillG.want rfl (fun K hK => ?_); go_simp; refine ⟨_, isFirst_any _ _, hK _ ?_⟩; clear hK K
    refine StillG.want rfl (fun K hK => ?_); go_simp; refine hK _ ?_; clear hK K
    refine StillG.nil ?_
    rw [Hf.out]
    go_wp2_with fail
    refine (must_no _ _).mono ?_
    rintro e w2 ⟨rfl, rfl⟩
    go_wp2
    exact ⟨rfl, rfl, HA.out.drewN 1, (Kp.refl b w).drewN 1⟩
  · have hd1 : decide ((a : Int) < (s.size : Int)) = false := by simp; omega
    clear hf
    go_enter Tryz.func47, Tryz.ntmps47
    go_wp2
    refine StillG.tail 22 (by kernel_rfl) (by kernel_rfl) ?_
    simp only [List.take_succ_cons, List.take_zero, List.drop_succ_cons, List.drop_zero]
    iterate 11 (refine StillG.want rfl (fun K hK => ?_); go_simp; refine hK _ ?_; clear hK K)
    iterate 10 (refine StillG.skip (by simp [Region.wanted, yielded, Act.put]) ?_)
    refine StillG.want rfl (fun K hK => ?_); go_simp; refine hK _ ?_; clear hK K
    refine StillG.nil ?_
    go_wp2_with fail
    refine (must_no _ _).mono ?_
    rintro e w2 ⟨rfl, rfl⟩
    go_wp2
    exact ⟨rfl, rfl, HA.out.drewN 1, (Kp.refl b w).drewN 1⟩
set_option maxHeartbeats 1000000 in
set_option maxRecDepth 100000 in
theorem name_yes (b : Nat) (s : ByteArray) (r : List UInt8) (m : Nat) (w : World) (hA : At w b s r m) (hf : isFirstB (r.headD 0) = true) :
    Calls Tryz.prog 47 #[.pointer (some ⟨b, 0, none⟩)] w fun e w' => e = .returned (.string (bs (r.takeWhile isNextB))) ∧ At w' b s (r.dropWhile isNextB) m ∧ Kp b w w' := by
  obtain ⟨a, ha, hr, hR⟩ := hA.rd
  have hs := hA.sz
  have h0 := hR.c0
  have h1 := hR.c1
  have HA := Lib.hid hA
  have Hr := Lib.hid hr
  clear hR hA hr
  have hlt : a < s.size := by
    rcases Nat.lt_or_ge a s.size with h | h
    · exact h
    · have := drop_len Hr.out
      have h0 : r = [] := List.eq_nil_of_length_eq_zero (by omega)
      rw [h0] at hf
      exact absurd hf (by decide)
  have hd1 : decide ((a : Int) < (s.size : Int)) = true := by simp; omega
  have Hf : Hid (isFirstB s[a] = true) := by rw [rest_cons Hr.out hlt] at hf; exact hf
  clear hf
  go_enter Tryz.func47, Tryz.ntmps47
  go_wp2
  refine StillG.tail 22 (by kernel_rfl) (by kernel_rfl) ?_
  simp only [List.take_succ_cons, List.take_zero, List.drop_succ_cons, List.drop_zero]
  iterate 20 (refine StillG.want rfl (fun K hK => ?_); go_simp; refine hK _ ?_; clear hK K)
  refine StillG.want rfl (fun K hK => ?_); go_simp; refine ⟨_, isFirst_any _ _, hK _ ?_⟩; clear hK K
  refine StillG.want rfl (fun K hK => ?_); go_simp; refine hK _ ?_; clear hK K
  refine StillG.nil ?_
  rw [Hf.out]
  clear hd1 h0 h1
  go_wp2_with fail
  refine (must_ok _ _).mono ?_
  rintro e w2 ⟨rfl, rfl⟩
  go_wp2
  go_loopg [] (r.length + 1) (fun k wr => Aside (∃ a' : Nat, a ≤ a' ∧ a' ≤ s.size ∧ At wr b s (s.data.toList.drop a') m ∧ Rd wr b s a' m ∧ Kp b w wr ∧ (∀ c ∈ r.take (a' - a), isNextB c = true) ∧ s.size - a' < k))
  case atStart =>
    obtain ⟨a0, ha0, hr0, hR0⟩ := HA.out.rd
    have : a0 = a := by have := drop_len hr0; have := drop_len Hr.out; omega
    subst this
    exact ⟨a0, Nat.le_refl _, ha, by rw [Hr.out]; exact HA.out.drewN 1, hR0, (Kp.refl b w).drewN 1, by simp, by have := drop_len Hr.out; omega⟩
  case round =>
    obtain ⟨a', haa, ha', hA', hR', hk', hall, hl'⟩ := hrel.out
    clear hrel
    have h0 := hR'.c0
    have h1 := hR'.c1
    have hf := hR'.fr 1
    have HR' := Lib.hid hR'
    have HA' := Lib.hid hA'
    have HK := Lib.hid hk'
    have Hall := Lib.hid hall
    clear hR' hA' hk' hall
    by_cases hlt' : a' < s.size
    · have hd1 : decide ((a' : Int) < (s.size : Int)) = true := by simp; omega
      have Hrc := Lib.hid (rest_cons (r := s.data.toList.drop a') rfl hlt')
      by_cases hb : isNextB s[a'] = true
      · have Hb := Lib.hid hb
        clear hb
        go_wp2
        go_quiet ((go_at_call 29; exact Calls.quiet_of_same (isNext_any _ _)))
        rw [Hb.out]
        go_wp2
        have hst := at_step HA'.out HR'.out hlt' nq
        go_roundg (s.size - (a' + 1) + 1)
        case measure => omega
        case rel =>
          refine ⟨a' + 1, by omega, by omega, hst.1, (HR'.out.drewN nq).set1 (a' + 1), HK.out.trans hst.2, ?_, by omega⟩
          exact take_more Hr.out haa hlt' Hall.out Hb.out
      · have Hb := Lib.hid (Bool.eq_false_iff.mpr hb)
        clear hb
        go_wp2
        go_quiet ((go_at_call 29; exact Calls.quiet_of_same (isNext_any _ _)))
        rw [Hb.out]
        go_wp2
        go_quiet (fail)
        go_wp2
        go_ret
        have hb0 : isNextB ((s.data.toList.drop a').headD 0) = false := by rw [Hrc.out]; exact Hb.out
        have he := name_end Hr.out haa ha' Hall.out hb0
        exact ⟨ret_str he.1, by rw [he.2]; exact (HA'.out.drewN _).drewN _, (HK.out.drewN _).drewN _⟩
    · have hd1 : decide ((a' : Int) < (s.size : Int)) = false := by simp; omega
      go_wp2
      go_quiet (fail)
      go_wp2
      go_quiet (fail)
      go_wp2
      go_ret
      have hb0 : isNextB ((s.data.toList.drop a').headD 0) = false := by
        rw [List.drop_eq_nil_of_le (by rw [← Lib.size_eq]; omega)]
        decide
      have he := name_end Hr.out haa ha' Hall.out hb0
      exact ⟨ret_str he.1, by rw [he.2]; exact (HA'.out.drewN _).drewN _, (HK.out.drewN _).drewN _⟩
end Go.Proofs.YtmiflgcjphcigaaGreatDoor
