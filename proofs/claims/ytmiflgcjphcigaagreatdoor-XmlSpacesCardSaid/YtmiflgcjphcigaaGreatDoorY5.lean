/-
  A part of the proof of statements on the element reader of package xml (Y5): lemmas on what its functions come to; their conditions stand in each theorem.
-/
import Derived.Test.YtmiflgcjphcigaaGreatDoorY3
/-! ## The plain law of XmlSpaces -/
set_option linter.unusedVariables false
set_option linter.unusedSimpArgs false
namespace Go.Proofs.YtmiflgcjphcigaaGreatDoor
def visB (c : UInt8) : Bool := !decide (c.toNat ≤ 32) && !decide (126 < c.toNat) && c != 34 && c != 60 && c != 38
theorem goodVal_vis {v : B} (h : v.all visB = true) : goodVal 34 v = true := by
  unfold goodVal
  rw [List.all_eq_true] at h ⊢
  intro c hc
  have h1 := h c hc
  unfold visB at h1
  simp only [Bool.and_eq_true, bne_iff_ne, ne_eq, Bool.not_eq_true', decide_eq_false_iff_not] at h1 ⊢
  obtain ⟨⟨⟨⟨h1, h2⟩, h3⟩, h4⟩, h5⟩ := h1
  refine ⟨⟨⟨⟨⟨h3, h4⟩, h5⟩, ?_⟩, ?_⟩, ?_⟩
  · rintro rfl; exact h1 (by decide)
  · rintro rfl; exact h1 (by decide)
  · unfold okByte
    simp
    omega
def sp1 (told : Bool) (o : B) : List Att := if told then [(34, xmlnsB, [112], o)] else []
def sp2 (again : Bool) (i : B) : List Att := (if again then [(34, xmlnsB, [112], i)] else []) ++ [(34, [112], [120], [49])]
def spacesB (told again : Bool) (o i : B) : B := 60 :: 114 :: attrsT (sp1 told o) (62 :: 60 :: 112 :: 58 :: 97 :: attrsT (sp2 again i) [47, 62, 60, 47, 114, 62])
theorem sp1_good {o : B} (h : o.all visB = true) (told : Bool) : ∀ x ∈ sp1 told o, goodAtt x = true := by
  have hv := goodVal_vis h
  have g1 : goodName xmlnsB = true := by decide
  have g2 : goodName [112] = true := by decide
  unfold sp1
  cases told <;> simp [goodAtt, hv, g1, g2]
theorem sp2_good {i : B} (h : i.all visB = true) (again : Bool) : ∀ x ∈ sp2 again i, goodAtt x = true := by
  have hv := goodVal_vis h
  have g1 : goodName xmlnsB = true := by decide
  have g2 : goodName [112] = true := by decide
  unfold sp2
  have g4 : goodName [120] = true := by decide
  have g5 : goodVal 34 [49] = true := by decide
  cases again <;> simp [goodAtt, hv, g1, g2, g4, g5]
theorem spaces_read {o i : B} (ho : o.all visB = true) (hi : i.all visB = true) (told again : Bool) : readZ 20 (spacesB told again o i) =
    match spacedP scope0 [] ((sp1 told o).map (·.2)) with
    | .error e => .fail e
    | .ok (g, a) => match spacedP g [112] ((sp2 again i).map (·.2)) with
      | .error e => .fail e
      | .ok (g2, a2) => .ok (.mk (g []) [114] [] a [.mk (g2 [112]) [97] [] a2 []]) [] 2 := by
  have h1 := sp1_good ho told
  have h2 := sp2_good hi again
  have he := elemQ_long 19 scope0 0 0 (p := []) (n := [114]) (by decide) (by decide) _ h1 (60 :: 112 :: 58 :: 97 :: attrsT (sp2 again i) [47, 62, 60, 47, 114, 62]) (by decide) (by decide)
  have hok : (spacesB told again o i).all okByte = true := by
    have h3 : (62 :: 60 :: 112 :: 58 :: 97 :: attrsT (sp2 again i) [47, 62, 60, 47, 114, 62]).all okByte = true := by
      show (okByte 62 && (okByte 60 && (okByte 112 && (okByte 58 && (okByte 97 && (attrsT (sp2 again i) [47, 62, 60, 47, 114, 62]).all okByte))))) = true
      rw [attrs_ok _ h2 _ (by decide)]
      decide
    show (okByte 60 && (okByte 114 && (attrsT (sp1 told o) _).all okByte)) = true
    rw [attrs_ok _ h1 _ h3]
    decide
  have he2 : elem3 19 scope0 0 ([], [114]) ((sp1 told o).map (·.2)) (60 :: 112 :: 58 :: 97 :: attrsT (sp2 again i) [47, 62, 60, 47, 114, 62]) 1 =
    match spacedP scope0 [] ((sp1 told o).map (·.2)) with
    | .error e => .fail e
    | .ok (g, a) => match spacedP g [112] ((sp2 again i).map (·.2)) with
      | .error e => .fail e
      | .ok (g2, a2) => .ok (.mk (g []) [114] [] a [.mk (g2 [112]) [97] [] a2 []]) [] 2 := by
    unfold elem3
    cases hs : spacedP scope0 [] ((sp1 told o).map (·.2)) with
    | error e => rfl
    | ok x =>
      obtain ⟨g, a⟩ := x
      have hq := elemQ_short 17 g 1 1 (p := [112]) (n := [97]) (by decide) (by decide) _ h2 [60, 47, 114, 62] (by decide) (by decide)
      have hc : contQ 19 g 0 [] [] (60 :: 112 :: 58 :: 97 :: attrsT (sp2 again i) [47, 62, 60, 47, 114, 62]) 1 = (elemQ 18 g 1 (60 :: qualT [112] [97] (attrsT (sp2 again i) [47, 62, 60, 47, 114, 62])) 1).then fun x r m => contQ 18 g 0 ([] ++ [x]) [] r m := by
        rw [contQ_succ]
        rfl
      show (contQ 19 g 0 [] [] _ 1).then _ = (match spacedP g [112] ((sp2 again i).map (·.2)) with
        | .error e => Out.fail e
        | .ok (g2, a2) => Out.ok (E.mk (g []) [114] [] a [E.mk (g2 [112]) [97] [] a2 []]) [] 2)
      rw [hc, hq]
      cases hs2 : spacedP g [112] ((sp2 again i).map (·.2)) with
      | error e => rfl
      | ok y =>
        obtain ⟨g2, a2⟩ := y
        show (contQ 18 g 0 [.mk (g2 [112]) [97] [] a2 []] [] [60, 47, 114, 62] 2).then _ = _
        rw [contQ_close]
        rfl
  refine read_elem 19 _ 114 (by decide) hok _ (he.trans he2) ?_
  intro e r' m h
  split at h
  · cases h
  · split at h
    · cases h
    · injection h with _ h _; exact h.symm
theorem spaces_law {o i : B} (ho : o.all visB = true) (hi : i.all visB = true) (told again : Bool) : readZ 20 (spacesB told again o i) =
    if (told = true ∧ o = []) ∨ (again = true ∧ i = []) then .fail 10 else
    if told = false ∧ again = false then .fail 12 else
    .ok (.mk [] [114] [] [] [.mk (if again then i else o) [97] [] [(if again then i else o, [120], [49])] []]) [] 2 := by
  rw [spaces_read ho hi]
  have x0 : scope0 [112] = [] := by decide
  have x1 : scope0 [] = [] := by decide
  cases told <;> cases again
  · simp [sp1, sp2, spacedP, twiceP, twiceFrom, dup, spacesP, spacedAttrsP, xmlnsB, x0]
  · by_cases h : i = []
    · subst h
      simp [sp1, sp2, spacedP, twiceP, twiceFrom, dup, spacesP, spacedAttrsP, xmlnsB]
    · simp [sp1, sp2, spacedP, twiceP, twiceFrom, dup, spacesP, spacedAttrsP, xmlnsB, x1, h, Sc.set, xmlB]
  · by_cases h : o = []
    · subst h
      simp [sp1, sp2, spacedP, twiceP, twiceFrom, dup, spacesP, spacedAttrsP, xmlnsB]
    · simp [sp1, sp2, spacedP, twiceP, twiceFrom, dup, spacesP, spacedAttrsP, xmlnsB, x1, h, Sc.set, xmlB]
  · by_cases h : o = []
    · subst h
      simp [sp1, sp2, spacedP, twiceP, twiceFrom, dup, spacesP, spacedAttrsP, xmlnsB]
    · by_cases h2 : i = []
      · subst h2
        simp [sp1, sp2, spacedP, twiceP, twiceFrom, dup, spacesP, spacedAttrsP, xmlnsB, h, Sc.set, xmlB]
      · simp [sp1, sp2, spacedP, twiceP, twiceFrom, dup, spacesP, spacedAttrsP, xmlnsB, x1, h, h2, Sc.set, xmlB]
end Go.Proofs.YtmiflgcjphcigaaGreatDoor
