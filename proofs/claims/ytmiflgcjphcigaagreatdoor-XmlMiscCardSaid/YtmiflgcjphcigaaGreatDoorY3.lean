/-
  A part of the proof of statements on the element reader of package xml (Y3): lemmas on what its functions come to; their conditions stand in each theorem.
-/
import Derived.Test.YtmiflgcjphcigaaGreatDoorY2
/-! ## What is read of an element's tag, however many attributes it has -/
set_option linter.unusedVariables false
set_option linter.unusedSimpArgs false
namespace Go.Proofs.YtmiflgcjphcigaaGreatDoor
def goodName (n : B) : Bool := isFirstB (n.headD 0) && n.all isNextB && n.all okByte
def goodVal (q : UInt8) (v : B) : Bool := v.all fun c => c != q && c != 60 && c != 38 && c != 9 && c != 10 && okByte c
def qualT (p n : B) (r : B) : B := if p = [] then n ++ r else p ++ 58 :: (n ++ r)
abbrev Att := UInt8 × B × B × B
def attrT (x : Att) (r : B) : B := 32 :: qualT x.2.1 x.2.2.1 (61 :: x.1 :: (x.2.2.2 ++ x.1 :: r))
def attrsT : List Att → B → B
  | [], r => r
  | x :: l, r => attrT x (attrsT l r)
theorem attrT_eq (x : Att) (r : B) : attrT x r = 32 :: qualT x.2.1 x.2.2.1 (61 :: x.1 :: (x.2.2.2 ++ x.1 :: r)) := rfl
theorem then_ok {α β : Type} (x : α) (r : B) (m : Nat) (f : α → B → Nat → Out β) : (Out.ok x r m).then f = f x r m := rfl
def goodAtt (x : Att) : Bool := (x.1 == 34 || x.1 == 39) && (x.2.1 == [] || goodName x.2.1) && goodName x.2.2.1 && goodVal x.1 x.2.2.2
theorem goodName_cons {n : B} (h : goodName n = true) : ∃ x n', n = x :: n' ∧ isFirstB x = true := by
  unfold goodName at h
  simp only [Bool.and_eq_true] at h
  cases n with
  | nil => exact absurd h.1.1 (by decide)
  | cons x n' => exact ⟨x, n', rfl, h.1.1⟩
theorem goodName_next {n : B} (h : goodName n = true) : ∀ c ∈ n, isNextB c = true := by
  unfold goodName at h
  simp only [Bool.and_eq_true] at h
  exact fun c hc => List.all_eq_true.1 h.1.2 c hc
theorem goodName_ok {n : B} (h : goodName n = true) : n.all okByte = true := by
  unfold goodName at h
  simp only [Bool.and_eq_true] at h
  exact h.2
theorem goodName_low {a : B} (h : lettersB a = true) : goodName a = true := by
  obtain ⟨x, a', rfl, hx⟩ := letters_cons h
  unfold goodName
  simp only [Bool.and_eq_true]
  exact ⟨⟨low_first hx, List.all_eq_true.2 fun c hc => low_next (letters_all h c hc)⟩, List.all_eq_true.2 fun c hc => low_ok (letters_all h c hc)⟩
theorem while_next {a : B} (h : ∀ c ∈ a, isNextB c = true) (c : UInt8) (hc : isNextB c = false) (r : B) : (a ++ c :: r).takeWhile isNextB = a ∧ (a ++ c :: r).dropWhile isNextB = c :: r := by
  induction a with
  | nil =>
    simp only [List.nil_append, List.takeWhile_cons, List.dropWhile_cons, hc]
    exact ⟨rfl, rfl⟩
  | cons x a ih =>
    have hx := h x (by simp)
    have hi := ih fun c hc => h c (by simp [hc])
    simp only [List.cons_append, List.takeWhile_cons, List.dropWhile_cons, hx, if_true, hi]
    exact ⟨trivial, trivial⟩
theorem nameP_good {a : B} (h : goodName a = true) (c : UInt8) (hc : isNextB c = false) (r : B) (m : Nat) : nameP (a ++ c :: r) m = .ok a (c :: r) m := by
  obtain ⟨x, a', rfl, hx⟩ := goodName_cons h
  obtain ⟨h1, h2⟩ := while_next (goodName_next h) c hc r
  unfold nameP
  rw [h1, h2]
  rw [if_pos (show isFirstB ((x :: a' ++ c :: r).headD 0) = true from hx)]
theorem qualP_good {p n : B} (hp : (p == [] || goodName p) = true) (hn : goodName n = true) (c : UInt8) (hc : isNextB c = false) (h58 : (58 == c) = false) (r : B) (m : Nat) : qualP (qualT p n (c :: r)) m = .ok (p, n) (c :: r) m := by
  unfold qualT qualP
  by_cases h : p = []
  · subst h
    rw [if_pos rfl, nameP_good hn c hc]
    show (if Lib.hasPrefix (c :: r) [58] = true then _ else Out.ok (([] : B), n) (c :: r) m) = _
    have hx : Lib.hasPrefix (c :: r) [58] = false := by simp [Lib.hasPrefix, List.isPrefixOf, h58]
    rw [if_neg (by rw [hx]; decide)]
  · rw [if_neg h]
    have hg : goodName p = true := by simpa [h] using hp
    rw [nameP_good hg 58 (by decide)]
    show (if Lib.hasPrefix (58 :: (n ++ c :: r)) [58] = true then (nameP (n ++ c :: r) m).then fun n2 r m => Out.ok (p, n2) r m else Out.ok (([] : B), p) (58 :: (n ++ c :: r)) m) = _
    rw [if_pos (by rfl), nameP_good hn c hc]
    rfl
theorem qualT_first {p n : B} (hp : (p == [] || goodName p) = true) (hn : goodName n = true) (r : B) : ∃ x r', qualT p n r = x :: r' ∧ isFirstB x = true := by
  unfold qualT
  by_cases h : p = []
  · subst h
    obtain ⟨x, a', rfl, hx⟩ := goodName_cons hn
    rw [if_pos rfl]
    exact ⟨x, a' ++ r, rfl, hx⟩
  · rw [if_neg h]
    have hg : goodName p = true := by simpa [h] using hp
    obtain ⟨x, a', rfl, hx⟩ := goodName_cons hg
    exact ⟨x, _, rfl, hx⟩
theorem first_blank {x : UInt8} (h : isFirstB x = true) : isBlank x = false := by
  unfold isFirstB at h
  unfold isBlank
  simp only [decide_eq_true_eq] at h
  simp only [Bool.or_eq_false_iff, beq_eq_false_iff_ne, ne_eq]
  refine ⟨⟨?_, ?_⟩, ?_⟩ <;> (rintro rfl; revert h; decide)
theorem valueP_good (q : UInt8) : ∀ (v : B) (k : Nat) (acc r : B) (m : Nat), goodVal q v = true → (q == 60) = false → v.length < k → valueP q k acc (v ++ q :: r) m = .ok (acc ++ v) r m := by
  intro v
  induction v with
  | nil =>
    intro k acc r m _ hq hk
    obtain ⟨k, rfl⟩ : ∃ j, k = j + 1 := ⟨k - 1, by simp at hk; omega⟩
    rw [List.nil_append, valueP, if_neg (by rw [hq]; decide), if_pos (by simp), List.append_nil]
  | cons c v ih =>
    intro k acc r m hv hq hk
    obtain ⟨k, rfl⟩ : ∃ j, k = j + 1 := ⟨k - 1, by simp at hk; omega⟩
    unfold goodVal at hv
    rw [List.all_cons, Bool.and_eq_true] at hv
    have hc := hv.1
    simp only [Bool.and_eq_true, bne_iff_ne, ne_eq] at hc
    obtain ⟨⟨⟨⟨⟨h1, h2⟩, h3⟩, h4⟩, h5⟩, _⟩ := hc
    rw [List.cons_append, valueP, if_neg (by simpa using h2), if_neg (by simpa using h1), if_neg (by simpa using h3), if_neg (by simp [h4, h5])]
    rw [ih k (acc ++ [c]) r m hv.2 hq (by simp at hk; omega)]
    simp
theorem qualT_len (p n r : B) : r.length ≤ (qualT p n r).length := by
  unfold qualT
  split
  · simp
  · simp; omega
theorem attrP_good {x : Att} (h : goodAtt x = true) (r : B) (m : Nat) : attrP (qualT x.2.1 x.2.2.1 (61 :: x.1 :: (x.2.2.2 ++ x.1 :: r))) m = .ok x.2 r m := by
  unfold goodAtt at h
  simp only [Bool.and_eq_true] at h
  obtain ⟨⟨⟨hq, hp⟩, hn⟩, hv⟩ := h
  unfold attrP
  rw [qualP_good hp hn 61 (by decide) (by decide)]
  have hb : isBlank x.1 = false := by
    rw [Bool.or_eq_true, beq_iff_eq, beq_iff_eq] at hq
    rcases hq with h | h <;> rw [h] <;> decide
  have h60 : (x.1 == 60) = false := by
    rw [Bool.or_eq_true, beq_iff_eq, beq_iff_eq] at hq
    rcases hq with h | h <;> rw [h] <;> decide
  have hd : (x.1 :: (x.2.2.2 ++ x.1 :: r)).dropWhile isBlank = x.1 :: (x.2.2.2 ++ x.1 :: r) := by rw [List.dropWhile_cons, hb]; rfl
  rw [then_ok]
  have hw : wantP [61] ((61 :: x.1 :: (x.2.2.2 ++ x.1 :: r)).dropWhile isBlank) m = .ok () (x.1 :: (x.2.2.2 ++ x.1 :: r)) m := rfl
  rw [hw, then_ok]
  show (if ((x.1 :: (x.2.2.2 ++ x.1 :: r)).dropWhile isBlank).headD 0 == 34 || ((x.1 :: (x.2.2.2 ++ x.1 :: r)).dropWhile isBlank).headD 0 == 39 then _ else _) = _
  rw [hd]
  show (if x.1 == 34 || x.1 == 39 then (valueP x.1 _ [] (x.2.2.2 ++ x.1 :: r) m).then _ else _) = _
  rw [if_pos hq, valueP_good x.1 x.2.2.2 _ [] r m hv h60 (by simp; omega)]
  rfl
theorem attrsP_good : ∀ (l : List Att) (k : Nat) (acc : List (B × B × B)) (c : UInt8) (r : B) (m : Nat), (∀ x ∈ l, goodAtt x = true) → isBlank c = false → l.length < k → attrsP k acc (attrsT l (c :: r)) m = .ok (acc ++ l.map (·.2)) (c :: r) m := by
  intro l
  induction l with
  | nil =>
    intro k acc c r m _ hc hk
    obtain ⟨k, rfl⟩ : ∃ j, k = j + 1 := ⟨k - 1, by simp at hk; omega⟩
    show attrsP (k + 1) acc (c :: r) m = _
    rw [attrsP, List.dropWhile_cons, show (c :: r).headD 0 = c from rfl, hc]
    simp
  | cons x l ih =>
    intro k acc c r m hl hc hk
    obtain ⟨k, rfl⟩ : ∃ j, k = j + 1 := ⟨k - 1, by simp at hk; omega⟩
    have hx := hl x (by simp)
    have hg := hx
    unfold goodAtt at hg
    simp only [Bool.and_eq_true] at hg
    obtain ⟨y, r', hy, hf⟩ := qualT_first hg.1.1.2 hg.1.2 (61 :: x.1 :: (x.2.2.2 ++ x.1 :: attrsT l (c :: r)))
    show attrsP (k + 1) acc (attrT x (attrsT l (c :: r))) m = _
    have ha := attrP_good hx (attrsT l (c :: r)) m
    rw [attrT_eq]
    rw [hy] at ha ⊢
    have hd : (32 :: y :: r').dropWhile isBlank = y :: r' := by
      rw [List.dropWhile_cons, show isBlank 32 = true from rfl, if_pos rfl, List.dropWhile_cons, first_blank hf]
      rfl
    rw [attrsP, hd, if_pos (by show (isBlank 32 && isFirstB y) = true; rw [hf]; rfl), ha]
    show attrsP k (acc ++ [x.2]) (attrsT l (c :: r)) m = _
    rw [ih k (acc ++ [x.2]) c r m (fun y hy => hl y (by simp [hy])) hc (by simp at hk; omega)]
    simp
theorem attrs_len (l : List Att) (r : B) : l.length + r.length ≤ (attrsT l r).length := by
  induction l with
  | nil => simp [attrsT]
  | cons x l ih =>
    show _ ≤ (attrT x (attrsT l r)).length
    rw [attrT_eq]
    have := qualT_len x.2.1 x.2.2.1 (61 :: x.1 :: (x.2.2.2 ++ x.1 :: attrsT l r))
    simp only [List.length_cons, List.length_append] at this ⊢
    omega
theorem attrs_first (l : List Att) (c : UInt8) (r : B) (hc : isNextB c = false) (h58 : (58 == c) = false) : ∃ d r', attrsT l (c :: r) = d :: r' ∧ isNextB d = false ∧ (58 == d) = false := by
  cases l with
  | nil => exact ⟨c, r, rfl, hc, h58⟩
  | cons x l => exact ⟨32, _, rfl, by decide, by decide⟩
/-- An element's first tag. -/
theorem elemQ_tag (k : Nat) (f : Sc) (deep m : Nat) {p n : B} (hp : (p == [] || goodName p) = true) (hn : goodName n = true) (l : List Att) (hl : ∀ x ∈ l, goodAtt x = true) (c : UInt8) (r : B) (hc : isNextB c = false) (h58 : (58 == c) = false) (hb : isBlank c = false)
    (hm : m < 16384) (hd : deep ≤ 256) : elemQ (k + 1) f deep (60 :: qualT p n (attrsT l (c :: r))) m = elem2 k f deep (p, n) (l.map (·.2)) (c :: r) (m + 1) := by
  obtain ⟨y, r', hy, hf⟩ := qualT_first hp hn (attrsT l (c :: r))
  obtain ⟨d, r2, hd2, hd3, hd4⟩ := attrs_first l c r hc h58
  have hq := qualP_good hp hn d hd3 hd4 r2 (m + 1)
  rw [← hd2, hy] at hq
  rw [hy, elemQ_succ, if_pos (by show (true && isFirstB y) = true; rw [hf]; rfl)]
  unfold elem1
  rw [if_pos (by simp [hm, hd]), show (60 :: y :: r').drop 1 = y :: r' from rfl, hq]
  show (attrsP ((attrsT l (c :: r)).length + 1) [] (attrsT l (c :: r)) (m + 1)).then _ = _
  rw [attrsP_good l _ [] c r (m + 1) hl hb (by have := attrs_len l (c :: r); omega)]
  rfl
theorem elemQ_short (k : Nat) (f : Sc) (deep m : Nat) {p n : B} (hp : (p == [] || goodName p) = true) (hn : goodName n = true) (l : List Att) (hl : ∀ x ∈ l, goodAtt x = true) (r : B) (hm : m < 16384) (hd : deep ≤ 256) :
    elemQ (k + 1) f deep (60 :: qualT p n (attrsT l (47 :: 62 :: r))) m = match spacedP f p (l.map (·.2)) with | .error e => .fail e | .ok (g, a) => .ok (.mk (g p) n [] a []) r (m + 1) := by
  rw [elemQ_tag k f deep m hp hn l hl 47 (62 :: r) (by decide) (by decide) (by decide) hm hd]
  rfl
theorem elemQ_long (k : Nat) (f : Sc) (deep m : Nat) {p n : B} (hp : (p == [] || goodName p) = true) (hn : goodName n = true) (l : List Att) (hl : ∀ x ∈ l, goodAtt x = true) (r : B) (hm : m < 16384) (hd : deep ≤ 256) :
    elemQ (k + 1) f deep (60 :: qualT p n (attrsT l (62 :: r))) m = elem3 k f deep (p, n) (l.map (·.2)) r (m + 1) := by
  rw [elemQ_tag k f deep m hp hn l hl 62 r (by decide) (by decide) (by decide) hm hd]
  rfl
theorem attrs_ok (l : List Att) (hl : ∀ x ∈ l, goodAtt x = true) (r : B) (hr : r.all okByte = true) : (attrsT l r).all okByte = true := by
  induction l with
  | nil => exact hr
  | cons x l ih =>
    have hi := ih fun y hy => hl y (by simp [hy])
    have hx := hl x (by simp)
    unfold goodAtt at hx
    simp only [Bool.and_eq_true] at hx
    obtain ⟨⟨⟨hq, hp⟩, hn⟩, hv⟩ := hx
    have hqo : okByte x.1 = true := by
      rw [Bool.or_eq_true, beq_iff_eq, beq_iff_eq] at hq
      rcases hq with h | h <;> rw [h] <;> decide
    have hvo : x.2.2.2.all okByte = true := by
      unfold goodVal at hv
      rw [List.all_eq_true] at hv ⊢
      intro c hc
      have := hv c hc
      simp only [Bool.and_eq_true] at this
      exact this.2
    have ht : (61 :: x.1 :: (x.2.2.2 ++ x.1 :: attrsT l r)).all okByte = true := by
      rw [List.all_cons, List.all_cons, List.all_append, List.all_cons, hqo, hvo, hi]
      decide
    show (attrT x (attrsT l r)).all okByte = true
    rw [attrT_eq]
    unfold qualT
    rw [List.all_cons]
    split
    · rw [List.all_append, goodName_ok hn, ht]
      decide
    · rename_i hne
      have hg : goodName x.2.1 = true := by simpa [hne] using hp
      rw [List.all_append, List.all_cons, List.all_append, goodName_ok hn, goodName_ok hg, ht]
      decide
end Go.Proofs.YtmiflgcjphcigaaGreatDoor
