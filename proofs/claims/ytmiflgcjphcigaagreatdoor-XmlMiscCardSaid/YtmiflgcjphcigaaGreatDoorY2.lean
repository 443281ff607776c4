/-
  A part of the proof of statements on the element reader of package xml (Y2): lemmas on what its functions come to; their conditions stand in each theorem.
-/
import Derived.Test.YtmiflgcjphcigaaGreatDoorY1
/-! ## The plain law of XmlEnds -/
set_option linter.unusedVariables false
set_option linter.unusedSimpArgs false
namespace Go.Proofs.YtmiflgcjphcigaaGreatDoor
def lowB (c : UInt8) : Bool := decide (97 ≤ c.toNat ∧ c.toNat ≤ 122)
def lettersB (l : B) : Bool := l.all lowB && decide (0 < l.length ∧ l.length < 50)
theorem low_first {c : UInt8} (h : lowB c = true) : isFirstB c = true := by
  unfold lowB at h
  unfold isFirstB
  simp at h ⊢
  omega
theorem low_next {c : UInt8} (h : lowB c = true) : isNextB c = true := by
  unfold isNextB
  rw [low_first h]
  rfl
theorem low_ok {c : UInt8} (h : lowB c = true) : okByte c = true := by
  unfold lowB at h
  unfold okByte
  simp at h ⊢
  omega
theorem letters_all {a : B} (h : lettersB a = true) : ∀ c ∈ a, lowB c = true := by
  unfold lettersB at h
  rw [Bool.and_eq_true] at h
  exact fun c hc => List.all_eq_true.1 h.1 c hc
theorem letters_len {a : B} (h : lettersB a = true) : 0 < a.length ∧ a.length < 50 := by
  unfold lettersB at h
  rw [Bool.and_eq_true] at h
  exact of_decide_eq_true h.2
theorem letters_cons {a : B} (h : lettersB a = true) : ∃ x a', a = x :: a' ∧ lowB x = true := by
  cases a with
  | nil => have := letters_len h; simp at this
  | cons x a' => exact ⟨x, a', rfl, letters_all h x (by simp)⟩
theorem letters_ok {a : B} (h : lettersB a = true) (r : B) (hr : r.all okByte = true) : (a ++ r).all okByte = true := by
  rw [List.all_append, hr, Bool.and_true]
  exact List.all_eq_true.2 fun c hc => low_ok (letters_all h c hc)
theorem while_letters {a : B} (h : ∀ c ∈ a, lowB c = true) (c : UInt8) (hc : isNextB c = false) (r : B) : (a ++ c :: r).takeWhile isNextB = a ∧ (a ++ c :: r).dropWhile isNextB = c :: r := by
  induction a with
  | nil =>
    simp only [List.nil_append, List.takeWhile_cons, List.dropWhile_cons, hc]
    exact ⟨rfl, rfl⟩
  | cons x a ih =>
    have hx := low_next (h x (by simp))
    have hi := ih fun c hc => h c (by simp [hc])
    simp only [List.cons_append, List.takeWhile_cons, List.dropWhile_cons, hx, if_true, hi]
    exact ⟨trivial, trivial⟩
theorem nameP_letters {a : B} (h : lettersB a = true) (c : UInt8) (hc : isNextB c = false) (r : B) (m : Nat) : nameP (a ++ c :: r) m = .ok a (c :: r) m := by
  obtain ⟨x, a', rfl, hx⟩ := letters_cons h
  obtain ⟨h1, h2⟩ := while_letters (letters_all h) c hc r
  unfold nameP
  rw [h1, h2]
  rw [if_pos (show isFirstB ((x :: a' ++ c :: r).headD 0) = true from low_first hx)]
theorem qualP_letters {a : B} (h : lettersB a = true) (c : UInt8) (hc : isNextB c = false) (h58 : (58 == c) = false) (r : B) (m : Nat) : qualP (a ++ c :: r) m = .ok ([], a) (c :: r) m := by
  unfold qualP
  rw [nameP_letters h c hc]
  show (if Lib.hasPrefix (c :: r) [58] = true then _ else Out.ok ([], a) (c :: r) m) = _
  have hp : Lib.hasPrefix (c :: r) [58] = false := by simp [Lib.hasPrefix, List.isPrefixOf, h58]
  rw [if_neg (by rw [hp]; decide)]
/-- An element's first tag, up to its name. -/
theorem elemQ_name {a : B} (h : lettersB a = true) (k : Nat) (f : Sc) (deep m : Nat) (c : UInt8) (r : B) (hc : isNextB c = false) (h58 : (58 == c) = false) (hm : m < 16384) (hd : deep ≤ 256) :
    elemQ (k + 1) f deep (60 :: (a ++ c :: r)) m = (attrsP ((c :: r).length + 1) [] (c :: r) (m + 1)).then fun l r m => elem2 k f deep ([], a) l r m := by
  obtain ⟨x, a', rfl, hx⟩ := letters_cons h
  rw [elemQ_succ]
  have h1 : (Lib.hasPrefix (60 :: (x :: a' ++ c :: r)) [60] && isFirstB ((60 :: (x :: a' ++ c :: r)).getD 1 0)) = true := by
    show (true && isFirstB x) = true
    rw [low_first hx]
    rfl
  rw [if_pos h1]
  unfold elem1
  rw [if_pos (by simp [hm, hd])]
  have h2 : qualP ((60 :: (x :: a' ++ c :: r)).drop 1) (m + 1) = .ok ([], x :: a') (c :: r) (m + 1) := qualP_letters h c hc h58 r (m + 1)
  rw [h2]
  rfl
def endsB (a b : B) : B := 60 :: (a ++ 62 :: 60 :: 47 :: (b ++ [32, 62]))
def shortB (a : B) : B := 60 :: (a ++ [32, 47, 62])
theorem ends_elem {a b : B} (ha : lettersB a = true) (hb : lettersB b = true) (k : Nat) (f : Sc) (hf : f [] = []) : elemQ (k + 2) f 0 (endsB a b) 0 = if b = a then .ok (.mk [] a [] [] []) [] 1 else .fail 10 := by
  unfold endsB
  rw [elemQ_name ha (k + 1) f 0 0 62 _ (by decide) (by decide) (by decide) (by decide)]
  show elem2 (k + 1) f 0 ([], a) [] (62 :: 60 :: 47 :: (b ++ [32, 62])) 1 = _
  have h1 : elem2 (k + 1) f 0 ([], a) [] (62 :: 60 :: 47 :: (b ++ [32, 62])) 1 = (qualP (b ++ [32, 62]) 1).then fun qn r m =>
      if qn.1 == [] && qn.2 == a then (wantP [62] (r.dropWhile isBlank) m).then fun _ r m => .ok (.mk (f []) a [] [] []) r m else .fail 10 := rfl
  rw [h1, qualP_letters hb 32 (by decide) (by decide)]
  show (if ([] : B) == [] && b == a then _ else Out.fail 10) = _
  by_cases h : b = a
  · rw [if_pos (by simp [h]), if_pos h, hf]
    rfl
  · rw [if_neg (by simp [h]), if_neg h]
theorem short_elem {a : B} (ha : lettersB a = true) (k : Nat) (f : Sc) (hf : f [] = []) : elemQ (k + 1) f 0 (shortB a) 0 = .ok (.mk [] a [] [] []) [] 1 := by
  unfold shortB
  rw [elemQ_name ha k f 0 0 32 _ (by decide) (by decide) (by decide) (by decide)]
  show elem2 k f 0 ([], a) [] [47, 62] 1 = _
  have h1 : elem2 k f 0 ([], a) [] [47, 62] 1 = .ok (.mk (f []) a [] [] []) [] 1 := rfl
  rw [h1, hf]
/-- A text that is an element alone. -/
theorem read_elem (k : Nat) (r : B) (x : UInt8) (hx : lowB x = true) (hok : (60 :: x :: r).all okByte = true) (o : Out E) (ho : elemQ (k + 1) scope0 0 (60 :: x :: r) 0 = o) (hend : ∀ e r' m, o = .ok e r' m → r' = []) : readZ (k + 1) (60 :: x :: r) = o := by
  unfold readZ
  rw [if_pos hok]
  have hx33 : (33 == x) = false := by
    rw [beq_eq_false_iff_ne]; rintro rfl; exact absurd hx (by decide)
  have hx63 : (63 == x) = false := by
    rw [beq_eq_false_iff_ne]; rintro rfl; exact absurd hx (by decide)
  have hp : Lib.hasPrefix (60 :: x :: r) [60, 63, 120, 109, 108] = false := by simp [Lib.hasPrefix, List.isPrefixOf, hx63]
  rw [if_neg (by rw [hp]; decide)]
  have hm : miscP true (k + 1) (60 :: x :: r) 0 = .ok () (60 :: x :: r) 0 := by
    have p1 : Lib.hasPrefix (60 :: x :: r) [60, 33, 45, 45] = false := by simp [Lib.hasPrefix, List.isPrefixOf, hx33]
    have p2 : Lib.hasPrefix (60 :: x :: r) [60, 63] = false := by simp [Lib.hasPrefix, List.isPrefixOf, hx63]
    have p3 : Lib.hasPrefix (60 :: x :: r) [60, 33, 68, 79, 67, 84, 89, 80, 69] = false := by simp [Lib.hasPrefix, List.isPrefixOf, hx33]
    unfold miscP
    rw [if_neg (by show ¬ isBlank 60 = true; decide), if_neg (by rw [p1]; decide), if_neg (by rw [p2]; decide), if_neg (by rw [p3]; decide)]
  rw [hm]
  show (elemQ (k + 1) scope0 0 (60 :: x :: r) 0).then _ = _
  rw [ho]
  cases o with
  | unk => rfl
  | fail c => rfl
  | ok e r' m =>
    obtain rfl := hend e r' m rfl
    rfl
theorem ends_read {a b : B} (ha : lettersB a = true) (hb : lettersB b = true) : readZ 10 (endsB a b) = if b = a then .ok (.mk [] a [] [] []) [] 1 else .fail 10 := by
  have he := ends_elem ha hb 8 scope0 rfl
  have hok : (endsB a b).all okByte = true := by
    have hr : (62 :: 60 :: 47 :: (b ++ [32, 62])).all okByte = true := by
      show (okByte 62 && (okByte 60 && (okByte 47 && (b ++ [32, 62]).all okByte))) = true
      rw [letters_ok hb [32, 62] rfl]
      rfl
    show (okByte 60 && (a ++ 62 :: 60 :: 47 :: (b ++ [32, 62])).all okByte) = true
    rw [letters_ok ha _ hr]
    rfl
  obtain ⟨x, a', rfl, hx⟩ := letters_cons ha
  refine read_elem 9 _ x hx hok _ he ?_
  intro e r' m h
  split at h
  · injection h with _ h _; exact h.symm
  · cases h
theorem short_read {a : B} (ha : lettersB a = true) : readZ 10 (shortB a) = .ok (.mk [] a [] [] []) [] 1 := by
  have he := short_elem ha 9 scope0 rfl
  have hok : (shortB a).all okByte = true := by
    show (okByte 60 && (a ++ [32, 47, 62]).all okByte) = true
    rw [letters_ok ha _ rfl]
    rfl
  obtain ⟨x, a', rfl, hx⟩ := letters_cons ha
  refine read_elem 9 _ x hx hok _ he ?_
  intro e r' m h
  injection h with _ h _
  exact h.symm
end Go.Proofs.YtmiflgcjphcigaaGreatDoor
