/-
  A part of the proof of statements on the element reader of package xml (Y6): lemmas on what its functions come to; their conditions stand in each theorem.
-/
import Derived.Test.YtmiflgcjphcigaaGreatDoorY3
/-! ## The plain law of XmlMisc -/
set_option linter.unusedVariables false
set_option linter.unusedSimpArgs false
namespace Go.Proofs.YtmiflgcjphcigaaGreatDoor
def someL : List B := [[32], [10], [60, 33, 45, 45, 32, 97, 45, 98, 32, 45, 45, 62], [60, 63, 112, 32, 113, 63, 62], [60, 63, 112, 63, 62], [60, 33, 45, 45, 45, 45, 62], [120], [38, 97, 109, 112, 59],
  [60, 33, 68, 79, 67, 84, 89, 80, 69, 32, 97, 62], [60, 33, 91, 67, 68, 65, 84, 65, 91, 93, 93, 62]]
def item (k : Nat) : B := someL.getD k []
def miscT : List Nat → B → B
  | [], r => r
  | k :: ks, r => item k ++ miscT ks r
def firstBad : List Nat → Nat
  | [] => 0
  | k :: ks => if 6 ≤ k then k else firstBad ks
theorem low_cases {k : Nat} (h : k < 6) : k = 0 ∨ k = 1 ∨ k = 2 ∨ k = 3 ∨ k = 4 ∨ k = 5 := by omega
theorem bad_cases {k : Nat} (h : 6 ≤ k) (h2 : k < 10) : k = 6 ∨ k = 7 ∨ k = 8 ∨ k = 9 := by omega
theorem misc_blank (a : Bool) (c : UInt8) (hc : isBlank c = true) (r : B) (m n : Nat) (o : Out Unit) (h : ∀ j, n < j → miscP a j r m = o) : ∀ j, n + 1 < j → miscP a j (c :: r) m = o := by
  intro j hj
  obtain ⟨j, rfl⟩ : ∃ i, j = i + 1 := ⟨j - 1, by omega⟩
  have h1 : miscP a (j + 1) (c :: r) m = miscP a j (r.dropWhile isBlank) m := by
    rw [miscP, if_pos (show isBlank ((c :: r).headD 0) = true from hc), List.dropWhile_cons, hc]
    rfl
  rw [h1]
  by_cases hb : isBlank (r.headD 0) = true
  · have h2 := h (j + 1) (by omega)
    rw [miscP, if_pos hb] at h2
    exact h2
  · have hr : r.dropWhile isBlank = r := by
      cases r with
      | nil => rfl
      | cons d r =>
        have hd : isBlank d = false := by simpa using hb
        rw [List.dropWhile_cons, hd]
        rfl
    rw [hr]
    exact h j (by omega)
theorem misc_item (a : Bool) (k : Nat) (hk : 2 ≤ k) (hk2 : k < 6) (j : Nat) (r : B) (m : Nat) : miscP a (j + 1) (item k ++ r) m = miscP a j r m := by
  rcases low_cases hk2 with rfl | rfl | rfl | rfl | rfl | rfl
  · omega
  · omega
  · rfl
  · rfl
  · rfl
  · rfl
theorem misc_skip (a : Bool) (r : B) (m : Nat) (o : Out Unit) (h : ∀ j, 0 < j → miscP a j r m = o) : ∀ (ks : List Nat), (∀ k ∈ ks, k < 6) → ∀ j, ks.length < j → miscP a j (miscT ks r) m = o := by
  intro ks
  induction ks with
  | nil => intro _ j hj; exact h j hj
  | cons k ks ih =>
    intro hks
    have hi := ih fun k hk => hks k (by simp [hk])
    have hk := hks k (by simp)
    show ∀ j, ks.length + 1 < j → miscP a j (item k ++ miscT ks r) m = o
    by_cases h2 : 2 ≤ k
    · intro j hj
      obtain ⟨j, rfl⟩ : ∃ i, j = i + 1 := ⟨j - 1, by omega⟩
      rw [misc_item a k h2 hk]
      exact hi j (by omega)
    · have h3 : k = 0 ∨ k = 1 := by omega
      rcases h3 with rfl | rfl
      · exact misc_blank a 32 (by decide) _ m ks.length o hi
      · exact misc_blank a 10 (by decide) _ m ks.length o hi
theorem miscT_split : ∀ (ks : List Nat) (r : B), firstBad ks ≠ 0 → ∃ k1 k2, (∀ k ∈ k1, k < 6) ∧ k1.length < ks.length ∧ miscT ks r = miscT k1 (item (firstBad ks) ++ miscT k2 r) := by
  intro ks
  induction ks with
  | nil => intro r h; exact absurd rfl h
  | cons k ks ih =>
    intro r h
    by_cases hk : 6 ≤ k
    · refine ⟨[], ks, by simp, by simp, ?_⟩
      simp [firstBad, hk, miscT]
    · have hf : firstBad (k :: ks) = firstBad ks := by simp [firstBad, hk]
      rw [hf] at h ⊢
      obtain ⟨k1, k2, h1, h2, h3⟩ := ih r h
      refine ⟨k :: k1, k2, ?_, by simp; omega, ?_⟩
      · intro x hx
        rcases List.mem_cons.1 hx with rfl | hx
        · omega
        · exact h1 x hx
      · show item k ++ miscT ks r = item k ++ miscT k1 _
        rw [h3]
theorem firstBad_zero : ∀ (ks : List Nat), firstBad ks = 0 → ∀ k ∈ ks, k < 6 := by
  intro ks
  induction ks with
  | nil => intro _ k hk; cases hk
  | cons k ks ih =>
    intro h x hx
    by_cases hk : 6 ≤ k
    · simp [firstBad, hk] at h; omega
    · simp [firstBad, hk] at h
      rcases List.mem_cons.1 hx with rfl | hx
      · omega
      · exact ih h x hx
theorem firstBad_bad : ∀ (ks : List Nat), firstBad ks ≠ 0 → 6 ≤ firstBad ks ∧ firstBad ks ∈ ks := by
  intro ks
  induction ks with
  | nil => intro h; exact absurd rfl h
  | cons k ks ih =>
    intro h
    by_cases hk : 6 ≤ k
    · simp [firstBad, hk]
    · have hf : firstBad (k :: ks) = firstBad ks := by simp [firstBad, hk]
      rw [hf] at h ⊢
      exact ⟨(ih h).1, by simp [(ih h).2]⟩
theorem item_ok {k : Nat} (h : k < 10) : (item k).all okByte = true := by
  by_cases h6 : k < 6
  · rcases low_cases h6 with rfl | rfl | rfl | rfl | rfl | rfl <;> decide
  · rcases bad_cases (by omega) h with rfl | rfl | rfl | rfl <;> decide
theorem miscT_ok (r : B) (hr : r.all okByte = true) : ∀ ks : List Nat, (∀ k ∈ ks, k < 10) → (miscT ks r).all okByte = true := by
  intro ks
  induction ks with
  | nil => intro _; exact hr
  | cons k ks ih =>
    intro h
    show (item k ++ miscT ks r).all okByte = true
    rw [List.all_append, item_ok (h k (by simp)), ih fun k hk => h k (by simp [hk])]
    rfl
theorem item_len {k : Nat} (h : k < 10) : (item k).length ≤ 12 := by
  by_cases h6 : k < 6
  · rcases low_cases h6 with rfl | rfl | rfl | rfl | rfl | rfl <;> decide
  · rcases bad_cases (by omega) h with rfl | rfl | rfl | rfl <;> decide
theorem miscT_len (r : B) : ∀ ks : List Nat, (∀ k ∈ ks, k < 10) → (miscT ks r).length ≤ 12 * ks.length + r.length := by
  intro ks
  induction ks with
  | nil => intro _; simp [miscT]
  | cons k ks ih =>
    intro h
    have h1 := item_len (h k (by simp))
    have h2 := ih fun k hk => h k (by simp [hk])
    show (item k ++ miscT ks r).length ≤ _
    simp only [List.length_append, List.length_cons]
    omega
def abB : B := [60, 97, 62, 60, 98, 47, 62, 60, 47, 97, 62]
def miscB (ks ls : List Nat) : B := miscT ks (abB ++ miscT ls [])
def abE : E := .mk [] [97] [] [] [.mk [] [98] [] [] []]
theorem miscB_head (ks ls : List Nat) (h : ∀ k ∈ ks, k < 10) : Lib.hasPrefix (miscB ks ls) [60, 63, 120, 109, 108] = false := by
  cases ks with
  | nil => rfl
  | cons k ks =>
    have hk := h k (by simp)
    show Lib.hasPrefix (item k ++ miscT ks (abB ++ miscT ls [])) [60, 63, 120, 109, 108] = false
    by_cases h6 : k < 6
    · rcases low_cases h6 with rfl | rfl | rfl | rfl | rfl | rfl <;> rfl
    · rcases bad_cases (by omega) hk with rfl | rfl | rfl | rfl <;> rfl
theorem misc_bad_ahead {k : Nat} (h6 : 6 ≤ k) (hk : k < 10) (r : B) : ∀ j, 0 < j → miscP true j (item k ++ r) 0 = if k = 8 then .fail 13 else .ok () (item k ++ r) 0 := by
  intro j hj
  obtain ⟨j, rfl⟩ : ∃ i, j = i + 1 := ⟨j - 1, by omega⟩
  rcases bad_cases h6 hk with rfl | rfl | rfl | rfl <;> rfl
theorem misc_bad_behind {k : Nat} (h6 : 6 ≤ k) (hk : k < 10) (r : B) (m : Nat) : ∀ j, 0 < j → miscP false j (item k ++ r) m = .ok () (item k ++ r) m := by
  intro j hj
  obtain ⟨j, rfl⟩ : ∃ i, j = i + 1 := ⟨j - 1, by omega⟩
  rcases bad_cases h6 hk with rfl | rfl | rfl | rfl <;> rfl
theorem elem_bad {k : Nat} (h6 : 6 ≤ k) (hk : k < 10) (h8 : k ≠ 8) (r : B) (j : Nat) : elemQ (j + 1) scope0 0 (item k ++ r) 0 = .fail 10 := by
  rw [elemQ_succ]
  rcases bad_cases h6 hk with rfl | rfl | rfl | rfl
  · rfl
  · rfl
  · exact absurd rfl h8
  · rfl
theorem ab_elem (j : Nat) (r : B) : elemQ (j + 10) scope0 0 (abB ++ r) 0 = .ok abE r 2 := by
  show elemQ (j + 9 + 1) scope0 0 (60 :: 97 :: 62 :: 60 :: 98 :: 47 :: 62 :: 60 :: 47 :: 97 :: 62 :: r) 0 = _
  rw [elemQ_a _ _ _ _ _ (by decide) (by decide)]
  have hc : contQ (j + 9) scope0 0 [] [] (60 :: 98 :: 47 :: 62 :: 60 :: 47 :: 97 :: 62 :: r) 1 = .ok [.mk [] [98] [] [] []] (60 :: 47 :: 97 :: 62 :: r) 2 := by
    rw [contQ_succ]
    have hq := elemQ_short (j + 7) scope0 1 1 (p := []) (n := [98]) (by decide) (by decide) [] (by simp) (60 :: 47 :: 97 :: 62 :: r) (by decide) (by decide)
    show (elemQ (j + 8) scope0 1 (60 :: 98 :: 47 :: 62 :: 60 :: 47 :: 97 :: 62 :: r) 1).then (fun x r m => contQ (j + 8) scope0 0 ([] ++ [x]) [] r m) = _
    rw [show elemQ (j + 8) scope0 1 (60 :: 98 :: 47 :: 62 :: 60 :: 47 :: 97 :: 62 :: r) 1 = _ from hq]
    show contQ (j + 8) scope0 0 [.mk (scope0 []) [98] [] [] []] [] (60 :: 47 :: 97 :: 62 :: r) 2 = _
    rw [contQ_close]
    rfl
  rw [hc]
  exact close_a r 2 scope0 [.mk [] [98] [] [] []] (by decide)
theorem misc_law (ks ls : List Nat) (hk : ∀ k ∈ ks, k < 10) (hl : ∀ k ∈ ls, k < 10) (n1 : ks.length ≤ 20) (n2 : ls.length ≤ 20) : readZ 50 (miscB ks ls) =
    if firstBad ks = 8 then .fail 13 else if firstBad ks ≠ 0 ∨ firstBad ls ≠ 0 then .fail 10 else .ok abE [] 2 := by
  unfold readZ
  have hok : (miscB ks ls).all okByte = true := miscT_ok _ (by rw [List.all_append, miscT_ok [] rfl ls hl]; decide) ks hk
  rw [if_pos hok, if_neg (by rw [miscB_head ks ls hk]; decide)]
  by_cases hf : firstBad ks = 0
  · have hm : miscP true 50 (miscB ks ls) 0 = .ok () (abB ++ miscT ls []) 0 := by
      refine misc_skip true _ 0 _ ?_ ks (firstBad_zero ks hf) 50 (by omega)
      intro j hj
      obtain ⟨j, rfl⟩ : ∃ i, j = i + 1 := ⟨j - 1, by omega⟩
      rfl
    rw [hm, if_neg (by omega)]
    rw [then_ok, show elemQ 50 scope0 0 (abB ++ miscT ls []) 0 = _ from ab_elem 40 _, then_ok]
    by_cases hg : firstBad ls = 0
    · have hm2 : miscP false 50 (miscT ls []) 2 = .ok () [] 2 := by
        refine misc_skip false _ 2 _ ?_ ls (firstBad_zero ls hg) 50 (by omega)
        intro j hj
        obtain ⟨j, rfl⟩ : ∃ i, j = i + 1 := ⟨j - 1, by omega⟩
        rfl
      rw [if_neg (by simp [hf, hg])]
      rw [hm2]
      rfl
    · obtain ⟨l1, l2, h1, h2, h3⟩ := miscT_split ls [] hg
      have hb := firstBad_bad ls hg
      have hm2 : miscP false 50 (miscT ls []) 2 = .ok () (item (firstBad ls) ++ miscT l2 []) 2 := by
        rw [h3]
        exact misc_skip false _ 2 _ (misc_bad_behind hb.1 (hl _ hb.2) _ 2) l1 h1 50 (by omega)
      rw [if_pos (Or.inr hg)]
      rw [hm2, then_ok]
      show (if item (firstBad ls) ++ miscT l2 [] = [] then _ else _) = _
      rw [if_neg]
      intro h
      have h4 := (List.append_eq_nil_iff.1 h).1
      rcases bad_cases hb.1 (hl _ hb.2) with h5 | h5 | h5 | h5 <;> rw [h5] at h4 <;> cases h4
  · obtain ⟨k1, k2, h1, h2, h3⟩ := miscT_split ks (abB ++ miscT ls []) hf
    have hb := firstBad_bad ks hf
    have hm : miscP true 50 (miscB ks ls) 0 = if firstBad ks = 8 then .fail 13 else .ok () (item (firstBad ks) ++ miscT k2 (abB ++ miscT ls [])) 0 := by
      show miscP true 50 (miscT ks _) 0 = _
      rw [h3]
      exact misc_skip true _ 0 _ (misc_bad_ahead hb.1 (hk _ hb.2) _) k1 h1 50 (by omega)
    rw [hm]
    by_cases h8 : firstBad ks = 8
    · rw [if_pos h8, if_pos h8]
      rfl
    · rw [if_neg h8, if_neg h8, if_pos (Or.inl hf)]
      rw [then_ok, show elemQ 50 scope0 0 _ 0 = _ from elem_bad hb.1 (hk _ hb.2) h8 _ 49]
      rfl
/-- Which of the pieces a number stands for. -/
def kOf (z : Int) : Nat := ((bits .and .i64 z 1023).tmod 10).toNat
theorem and1023 (z : Int) : 0 ≤ bits .and .i64 z 1023 ∧ bits .and .i64 z 1023 ≤ 1023 := by
  have h : (BitVec.ofInt 64 z &&& BitVec.ofInt 64 1023).toNat ≤ 1023 := by
    rw [BitVec.toNat_and]
    exact Nat.and_le_right
  show 0 ≤ IntKind.i64.wrap (((BitVec.ofInt 64 z &&& BitVec.ofInt 64 1023).toNat : Nat) : Int) ∧ IntKind.i64.wrap (((BitVec.ofInt 64 z &&& BitVec.ofInt 64 1023).toNat : Nat) : Int) ≤ 1023
  generalize (BitVec.ofInt 64 z &&& BitVec.ofInt 64 1023).toNat = n at h ⊢
  simp [IntKind.wrap, IntKind.signed, IntKind.bits]
  omega
theorem kOf_lt (z : Int) : kOf z < 10 := by
  have h := and1023 z
  unfold kOf
  rw [Int.tmod_eq_emod_of_nonneg h.1]
  omega
theorem kOf_eq (z : Int) : (bits .and .i64 z 1023).tmod 10 = (kOf z : Int) := by
  have h := and1023 z
  unfold kOf
  rw [Int.tmod_eq_emod_of_nonneg h.1]
  omega
end Go.Proofs.YtmiflgcjphcigaaGreatDoor
