/-
  A part of the proof of statements on the element reader of package xml (Y1): lemmas on what its functions come to; their conditions stand in each theorem.
-/
import Derived.Test.YtmiflgcjphcigaaGreatDoorX25
/-! ## The plain law of XmlDeep: what is read of so many elements within one another -/
set_option linter.unusedVariables false
set_option linter.unusedSimpArgs false
namespace Go.Proofs.YtmiflgcjphcigaaGreatDoor
def opens : Nat → B → B
  | 0, r => r
  | n + 1, r => 60 :: 97 :: 62 :: opens n r
def closes : Nat → B → B
  | 0, r => r
  | n + 1, r => 60 :: 47 :: 97 :: 62 :: closes n r
theorem closes_succ : ∀ (n : Nat) (r : B), closes (n + 1) r = closes n (60 :: 47 :: 97 :: 62 :: r)
  | 0, _ => rfl
  | n + 1, r => by
    show 60 :: 47 :: 97 :: 62 :: closes (n + 1) r = 60 :: 47 :: 97 :: 62 :: closes n (60 :: 47 :: 97 :: 62 :: r)
    rw [closes_succ n r]
def nest : Nat → E
  | 0 => .mk [] [97] [] [] []
  | n + 1 => .mk [] [97] [] [] [nest n]
theorem spacedP_nil (f : Sc) : spacedP f [] [] = .ok (f, []) := rfl
theorem elemQ_a (k : Nat) (f : Sc) (deep m : Nat) (r : B) (hm : m < 16384) (hd : deep ≤ 256) : elemQ (k + 1) f deep (60 :: 97 :: 62 :: r) m =
    (contQ k f deep [] [] r (m + 1)).then fun kids r m => (wantP [60, 47] r m).then fun _ r m => (qualP r m).then fun qn r m =>
      if qn.1 == [] && qn.2 == [97] then (wantP [62] (r.dropWhile isBlank) m).then fun _ r m => .ok (.mk (f []) [97] [] [] kids) r m else .fail 10 := by
  rw [elemQ_succ]
  have h1 : (Lib.hasPrefix (60 :: 97 :: 62 :: r) [60] && isFirstB ((60 :: 97 :: 62 :: r).getD 1 0)) = true := rfl
  rw [if_pos h1]
  unfold elem1
  rw [if_pos (by simp [hm, hd])]
  have h2 : qualP ((60 :: 97 :: 62 :: r).drop 1) (m + 1) = .ok ([], [97]) (62 :: r) (m + 1) := rfl
  rw [h2]
  rfl
theorem elemQ_full (k : Nat) (f : Sc) (deep m : Nat) (r : B) (h : ¬ (m < 16384 ∧ deep ≤ 256)) : elemQ (k + 1) f deep (60 :: 97 :: 62 :: r) m = .fail 6 := by
  rw [elemQ_succ]
  have h1 : (Lib.hasPrefix (60 :: 97 :: 62 :: r) [60] && isFirstB ((60 :: 97 :: 62 :: r).getD 1 0)) = true := rfl
  rw [if_pos h1]
  unfold elem1
  rw [if_neg (by simpa using h)]
theorem contQ_close (k : Nat) (f : Sc) (deep m : Nat) (l : List E) (r : B) : contQ (k + 1) f deep l [] (60 :: 47 :: r) m = .ok l (60 :: 47 :: r) m := by
  rw [contQ_succ]
  rfl
theorem contQ_elem (k : Nat) (f : Sc) (deep m : Nat) (l : List E) (r : B) : contQ (k + 1) f deep l [] (60 :: 97 :: r) m = (elemQ k f (deep + 1) (60 :: 97 :: r) m).then fun x r m => contQ k f deep (l ++ [x]) [] r m := by
  rw [contQ_succ]
  rfl
theorem close_a (r : B) (m : Nat) (f : Sc) (kids : List E) (hf : f [] = []) : ((wantP [60, 47] (60 :: 47 :: 97 :: 62 :: r) m).then fun _ r m => (qualP r m).then fun qn r m =>
      if qn.1 == [] && qn.2 == [97] then (wantP [62] (r.dropWhile isBlank) m).then fun _ r m => Out.ok (E.mk (f []) [97] [] [] kids) r m else .fail 10) = .ok (.mk [] [97] [] [] kids) r m := by
  rw [hf]
  rfl
theorem deep_ok (f : Sc) (hf : f [] = []) : ∀ (n k deep m : Nat) (r : B), 2 * n + 2 ≤ k → deep + n ≤ 256 → m + n < 16384 → elemQ k f deep (opens (n + 1) (closes (n + 1) r)) m = .ok (nest n) r (m + n + 1) := by
  intro n
  induction n with
  | zero =>
    intro k deep m r hk hd hm
    obtain ⟨k, rfl⟩ : ∃ j, k = j + 2 := ⟨k - 2, by omega⟩
    show elemQ (k + 1 + 1) f deep (60 :: 97 :: 62 :: 60 :: 47 :: 97 :: 62 :: r) m = _
    rw [elemQ_a _ _ _ _ _ (by omega) (by omega), contQ_close]
    exact close_a r (m + 1) f [] hf
  | succ n ih =>
    intro k deep m r hk hd hm
    obtain ⟨k, rfl⟩ : ∃ j, k = j + 3 := ⟨k - 3, by omega⟩
    rw [closes_succ (n + 1) r]
    have hi := ih (k + 1) (deep + 1) (m + 1) (60 :: 47 :: 97 :: 62 :: r) (by omega) (by omega) (by omega)
    show elemQ (k + 2 + 1) f deep (60 :: 97 :: 62 :: opens (n + 1) (closes (n + 1) (60 :: 47 :: 97 :: 62 :: r))) m = _
    rw [elemQ_a _ _ _ _ _ (by omega) (by omega)]
    have hc : contQ (k + 2) f deep [] [] (opens (n + 1) (closes (n + 1) (60 :: 47 :: 97 :: 62 :: r))) (m + 1) = .ok [nest n] (60 :: 47 :: 97 :: 62 :: r) (m + 1 + n + 1) := by
      show contQ (k + 1 + 1) f deep [] [] (60 :: 97 :: 62 :: opens n (closes (n + 1) (60 :: 47 :: 97 :: 62 :: r))) (m + 1) = _
      rw [contQ_elem]
      rw [show elemQ (k + 1) f (deep + 1) (60 :: 97 :: 62 :: opens n (closes (n + 1) (60 :: 47 :: 97 :: 62 :: r))) (m + 1) = _ from hi]
      exact contQ_close k f deep (m + 1 + n + 1) [nest n] (97 :: 62 :: r)
    rw [hc]
    rw [show m + (n + 1) + 1 = m + 1 + n + 1 by omega]
    exact close_a r (m + 1 + n + 1) f [nest n] hf
theorem deep_fail (f : Sc) : ∀ (n k deep m : Nat) (r : B), 2 * n + 2 ≤ k → 257 ≤ deep + n → deep ≤ 257 → m + n < 16384 → elemQ k f deep (opens (n + 1) r) m = .fail 6 := by
  intro n
  induction n with
  | zero =>
    intro k deep m r hk h1 h2 hm
    obtain ⟨k, rfl⟩ : ∃ j, k = j + 1 := ⟨k - 1, by omega⟩
    exact elemQ_full _ _ _ _ _ (by omega)
  | succ n ih =>
    intro k deep m r hk h1 h2 hm
    by_cases hd : deep ≤ 256
    · obtain ⟨k, rfl⟩ : ∃ j, k = j + 3 := ⟨k - 3, by omega⟩
      have hi := ih (k + 1) (deep + 1) (m + 1) r (by omega) (by omega) (by omega) (by omega)
      show elemQ (k + 2 + 1) f deep (60 :: 97 :: 62 :: opens (n + 1) r) m = _
      rw [elemQ_a _ _ _ _ _ (by omega) (by omega)]
      have hc : contQ (k + 2) f deep [] [] (opens (n + 1) r) (m + 1) = .fail 6 := by
        show contQ (k + 1 + 1) f deep [] [] (60 :: 97 :: 62 :: opens n r) (m + 1) = _
        rw [contQ_elem]
        rw [show elemQ (k + 1) f (deep + 1) (60 :: 97 :: 62 :: opens n r) (m + 1) = _ from hi]
        rfl
      rw [hc]
      rfl
    · obtain ⟨k, rfl⟩ : ∃ j, k = j + 1 := ⟨k - 1, by omega⟩
      exact elemQ_full _ _ _ _ _ (by omega)
def deepB (n : Nat) : B := opens n (closes n [])
theorem opens_ok : ∀ (n : Nat) (r : B), r.all okByte = true → (opens n r).all okByte = true
  | 0, _, h => h
  | n + 1, r, h => by
    show (okByte 60 && (okByte 97 && (okByte 62 && (opens n r).all okByte))) = true
    rw [opens_ok n r h]
    rfl
theorem closes_ok : ∀ (n : Nat) (r : B), r.all okByte = true → (closes n r).all okByte = true
  | 0, _, h => h
  | n + 1, r, h => by
    show (okByte 60 && (okByte 47 && (okByte 97 && (okByte 62 && (closes n r).all okByte)))) = true
    rw [closes_ok n r h]
    rfl
theorem deep_read (n : Nat) (k : Nat) (hk : 700 ≤ k) (hn : n < 300) : readZ k (deepB (n + 1)) = if n < 257 then .ok (nest n) [] (n + 1) else .fail 6 := by
  obtain ⟨k, rfl⟩ : ∃ j, k = j + 1 := ⟨k - 1, by omega⟩
  unfold readZ
  rw [if_pos (show (deepB (n + 1)).all okByte = true from opens_ok _ _ (closes_ok _ _ rfl))]
  have hp : Lib.hasPrefix (deepB (n + 1)) [60, 63, 120, 109, 108] = false := rfl
  rw [if_neg (by rw [hp]; decide)]
  have hm : miscP true (k + 1) (deepB (n + 1)) 0 = .ok () (deepB (n + 1)) 0 := by rfl
  rw [hm]
  show (elemQ (k + 1) scope0 0 (deepB (n + 1)) 0).then _ = _
  by_cases h : n < 257
  · rw [if_pos h, show elemQ (k + 1) scope0 0 (deepB (n + 1)) 0 = _ from deep_ok scope0 rfl n (k + 1) 0 0 [] (by omega) (by omega) (by omega)]
    rw [Nat.zero_add]
    rfl
  · rw [if_neg h, show elemQ (k + 1) scope0 0 (deepB (n + 1)) 0 = _ from deep_fail scope0 n (k + 1) 0 0 _ (by omega) (by omega) (by omega) (by omega)]
    rfl
theorem deepB_len (n : Nat) : (deepB n).length = 7 * n := by
  have ho : ∀ (n : Nat) (r : B), (opens n r).length = 3 * n + r.length := by
    intro n
    induction n with
    | zero => intro r; simp [opens]
    | succ n ih => intro r; simp only [opens, List.length_cons, ih]; omega
  have hc : ∀ (n : Nat) (r : B), (closes n r).length = 4 * n + r.length := by
    intro n
    induction n with
    | zero => intro r; simp [closes]
    | succ n ih => intro r; simp only [closes, List.length_cons, ih]; omega
  rw [deepB, ho, hc]
  simp
  omega
end Go.Proofs.YtmiflgcjphcigaaGreatDoor
