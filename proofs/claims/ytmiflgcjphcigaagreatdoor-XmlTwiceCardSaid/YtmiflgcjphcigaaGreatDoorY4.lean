/-
  A part of the proof of statements on the element reader of package xml (Y4): lemmas on what its functions come to; their conditions stand in each theorem.
-/
import Derived.Test.YtmiflgcjphcigaaGreatDoorY3
/-! ## The plain law of XmlTwice -/
set_option linter.unusedVariables false
set_option linter.unusedSimpArgs false
namespace Go.Proofs.YtmiflgcjphcigaaGreatDoor
def twiceL (way : Nat) (a b : B) : List Att :=
  match way with
  | 1 => [(39, xmlnsB, [112], [117]), (39, xmlnsB, [113], [117]), (39, [112], a, [49]), (39, [113], b, [50])]
  | 2 => [(39, xmlnsB, [112], [117]), (39, xmlnsB, [113], [118]), (39, [112], a, [49]), (39, [113], b, [50])]
  | 3 => [(39, [], xmlnsB, [117]), (39, [], a, [49]), (39, [], b, [50])]
  | _ => [(39, [], a, [49]), (39, [], b, [50])]
def twiceB (way : Nat) (a b : B) : B := 60 :: 101 :: attrsT (twiceL way a b) [47, 62]
theorem twiceL_good {a b : B} (ha : lettersB a = true) (hb : lettersB b = true) (way : Nat) : ∀ x ∈ twiceL way a b, goodAtt x = true := by
  have ga := goodName_low ha
  have gb := goodName_low hb
  have x1 : goodAtt (39, xmlnsB, [112], [117]) = true := by decide
  have x2 : goodAtt (39, xmlnsB, [113], [117]) = true := by decide
  have x3 : goodAtt (39, xmlnsB, [113], [118]) = true := by decide
  have x4 : goodAtt (39, [], xmlnsB, [117]) = true := by decide
  have v1 : goodVal 39 [49] = true := by decide
  have v2 : goodVal 39 [50] = true := by decide
  have g1 : goodName [112] = true := by decide
  have g2 : goodName [113] = true := by decide
  have y1 : goodAtt (39, [112], a, [49]) = true := by simp [goodAtt, ga, v1, g1]
  have y2 : goodAtt (39, [113], b, [50]) = true := by simp [goodAtt, gb, v2, g2]
  have y3 : goodAtt (39, [], a, [49]) = true := by simp [goodAtt, ga, v1]
  have y4 : goodAtt (39, [], b, [50]) = true := by simp [goodAtt, gb, v2]
  unfold twiceL
  split <;> simp [x1, x2, x3, x4, y1, y2, y3, y4]
theorem twice_read {a b : B} (ha : lettersB a = true) (hb : lettersB b = true) (way : Nat) : readZ 10 (twiceB way a b) =
    match spacedP scope0 [] ((twiceL way a b).map (·.2)) with | .error e => .fail e | .ok (g, l) => .ok (.mk (g []) [101] [] l []) [] 1 := by
  have hl := twiceL_good ha hb way
  have he := elemQ_short 9 scope0 0 0 (p := []) (n := [101]) (by decide) (by decide) _ hl [] (by decide) (by decide)
  have hok : (twiceB way a b).all okByte = true := by
    show (okByte 60 && (okByte 101 && (attrsT (twiceL way a b) [47, 62]).all okByte)) = true
    rw [attrs_ok _ hl _ (by decide)]
    decide
  refine read_elem 9 _ 101 (by decide) hok _ he ?_
  intro e r' m h
  split at h
  · cases h
  · injection h with _ h _; exact h.symm
theorem twice_known {a b : B} (ha : lettersB a = true) (hb : lettersB b = true) (way : Nat) : readZ 10 (twiceB way a b) ≠ .unk := by
  rw [twice_read ha hb]
  split <;> simp
theorem twice_same {a : B} (ha : lettersB a = true) (hx : a ≠ xmlnsB) (way : Nat) (hw : way ≠ 2) : readZ 10 (twiceB way a a) = .fail 8 := by
  rw [twice_read ha ha]
  have h : spacedP scope0 [] ((twiceL way a a).map (·.2)) = .error 8 := by
    unfold twiceL
    have hx' : a ≠ [120, 109, 108, 110, 115] := hx
    split
    · simp [spacedP, twiceP, twiceFrom, dup, spacesP, spacedAttrsP, xmlnsB, hx', Sc.set, xmlB]
    · exact absurd rfl hw
    · simp [spacedP, twiceP, twiceFrom, dup, spacesP, spacedAttrsP, xmlnsB, hx', Sc.set, xmlB, Ne.symm hx']
    · simp [spacedP, twiceP, twiceFrom, dup, spacesP, spacedAttrsP, xmlnsB, hx', Sc.set, xmlB]
  rw [h]
theorem twice_other {a b : B} (ha : lettersB a = true) (hb : lettersB b = true) (hx : a ≠ xmlnsB) (hy : b ≠ xmlnsB) (way : Nat) (h : a ≠ b ∨ way = 2) : ∃ sp s0 s1, readZ 10 (twiceB way a b) = .ok (.mk sp [101] [] [(s0, a, [49]), (s1, b, [50])] []) [] 1 := by
  rw [twice_read ha hb]
  have hx' : a ≠ [120, 109, 108, 110, 115] := hx
  have hy' : b ≠ [120, 109, 108, 110, 115] := hy
  have key : ∃ g s0 s1, spacedP scope0 [] ((twiceL way a b).map (·.2)) = .ok (g, [(s0, a, [49]), (s1, b, [50])]) := by
    unfold twiceL
    split
    · have hab : b ≠ a := by rcases h with h | h; exact Ne.symm h; exact absurd h (by decide)
      refine ⟨(scope0.set [112] [117]).set [113] [117], [117], [117], ?_⟩
      simp [spacedP, twiceP, twiceFrom, dup, spacesP, spacedAttrsP, xmlnsB, hab, Sc.set, xmlB]
    · refine ⟨(scope0.set [112] [117]).set [113] [118], [117], [118], ?_⟩
      simp [spacedP, twiceP, twiceFrom, dup, spacesP, spacedAttrsP, xmlnsB, Sc.set, xmlB]
    · have hab : b ≠ a := by rcases h with h | h; exact Ne.symm h; exact absurd h (by decide)
      refine ⟨scope0.set [] [117], [], [], ?_⟩
      simp [spacedP, twiceP, twiceFrom, dup, spacesP, spacedAttrsP, xmlnsB, hx', hy', hab, Sc.set, xmlB, Ne.symm hx', Ne.symm hy']
    · have hab : b ≠ a := by
        rcases h with h | h
        · exact Ne.symm h
        · rename_i h1 h2 h3; exact absurd h h2
      refine ⟨scope0, [], [], ?_⟩
      simp [spacedP, twiceP, twiceFrom, dup, spacesP, spacedAttrsP, xmlnsB, hx', hy', hab]
  obtain ⟨g, s0, s1, hk⟩ := key
  rw [hk]
  exact ⟨_, _, _, rfl⟩
end Go.Proofs.YtmiflgcjphcigaaGreatDoor
