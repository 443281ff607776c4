/-
  A part of the proof of statements on the element reader of package xml (X12): lemmas on what its functions come to; their conditions stand in each theorem.
-/
import Derived.Test.YtmiflgcjphcigaaGreatDoorXM
import Derived.Test.YtmiflgcjphcigaaGreatDoorWWords
set_option linter.unusedVariables false
set_option linter.unusedSimpArgs false
namespace Go.Proofs.YtmiflgcjphcigaaGreatDoor
open Go.RowKit Go.Proofs.YtmiflgcjphcigaaGreatDoorW.PrintWords
/-- A row of triples of the call's own. -/
def OwnT (e : TypeId) (w : World) (base : Nat) (v : Value) (l : List Trip) : Prop := OwnRow (fun p cs => cs = tripC p) e 3 w base v l
theorem own_rwn {e : TypeId} {w : World} {base : Nat} {v : Value} {l : List Trip} (h : OwnT e w base v l) : ∃ A cap, v = .slice A l.length cap ∧ l.length ≤ cap ∧ RwN w A l := by
  obtain ⟨inner, ⟨hlen, ho⟩, hr⟩ := h
  rcases ho with ⟨rfl, hn⟩ | ⟨g, cap, cur, rfl, hg, hh, hnc, hcm, hsz, htk⟩
  · have : l = [] := List.eq_nil_of_length_eq_zero hn
    subst this
    exact ⟨none, 0, rfl, Nat.le_refl _, fun i x hx => by simp at hx⟩
  · refine ⟨some ⟨g, 0, none⟩, cap, rfl, hnc, fun i x hx => ⟨g, rfl, ?_⟩⟩
    have hc := hr.2 i x hx
    have hi : i < l.length := by
      rcases Nat.lt_or_ge i l.length with h | h
      · exact h
      · rw [List.getElem?_eq_none h] at hx; cases hx
    have key : ∀ j, j < 3 → ∀ u, (tripC x)[j]? = some u → w.cell? ⟨g, i * 3 + j, none⟩ = some u := by
      intro j hj u hu
      rw [← hc, List.getElem?_take_of_lt hj, List.getElem?_drop, ← htk, List.getElem?_take_of_lt (by omega)] at hu
      simp only [World.cell?, hh]
      rw [← Array.getElem?_toList]
      exact hu
    exact ⟨key 0 (by decide) _ rfl, key 1 (by decide) _ rfl, key 2 (by decide) _ rfl⟩
theorem bsE {l : B} (h : l = []) : (bs l).toList = [] := by rw [bs_toList, h]
theorem bsN {l : B} (h : l ≠ []) : ¬ (bs l).toList = [] := by rw [bs_toList]; exact h
theorem bsI {l : B} (h : l ≠ []) : (bs l).toList.isEmpty = false := by
  rw [bs_toList]
  cases l with
  | nil => exact absurd rfl h
  | cons => rfl
theorem bsQ (l k : B) : ((bs l).toList == k) = (l == k) := by rw [bs_toList]
theorem spacesP_cons (f : Sc) (x : Trip) (l : List Trip) : spacesP f (x :: l) = if x.1 == [] && x.2.1 == xmlnsB then spacesP (f.set [] x.2.2) l else
    if x.1 == xmlnsB then (if x.2.2 != [] && x.2.1 != xmlnsB && x.2.1 != xmlB then spacesP (f.set x.2.1 x.2.2) l else none) else spacesP f l := rfl
theorem spacedAttrsP_cons (f : Sc) (x : Trip) (l : List Trip) : spacedAttrsP f (x :: l) = if x.1 == xmlnsB || x.1 == [] && x.2.1 == xmlnsB then spacedAttrsP f l else
    if x.1 == [] || f x.1 != [] then (spacedAttrsP f l).map fun l' => (if x.1 == [] then [] else f x.1, x.2.1, x.2.2) :: l' else none := rfl
def mapV (mb : Nat) : Value := .map (some mb)
/-- What 'spaced' comes to. -/
def PostS (w : World) (o : Except Int (Sc × List Trip)) (e : Ending) (w' : World) : Prop :=
  Below w.heap.size w w' ∧
  match o with
  | .error c => e = .panicked (failure c)
  | .ok (g, a) => ∃ mb l va, e = .returned (.tuple #[.map (some mb), va]) ∧ SM w' mb l ∧ lookL l = g ∧ w.heap.size ≤ mb ∧ OwnT 33 w' w.heap.size va a
theorem post_err {w w' : World} {o : Except Int (Sc × List Trip)} {c : Int} (ho : Hid (o = .error c)) (hb : Below w.heap.size w w') : PostS w o (.panicked (failure c)) w' := by
  rw [ho.out]; exact ⟨hb, rfl⟩
theorem post_okS {w w' : World} {o : Except Int (Sc × List Trip)} {g : Sc} {a : List Trip} {e : Ending} {mb : Nat} {l : List (B × B)} {va : Value} (ho : Hid (o = .ok (g, a))) (he : e = .returned (.tuple #[.map (some mb), va])) (hb : Below w.heap.size w w') (hS : SM w' mb l) (hl : lookL l = g) (hm : w.heap.size ≤ mb) (hO : OwnT 33 w' w.heap.size va a) : PostS w o e w' := by
  rw [ho.out]; exact ⟨hb, mb, l, va, he, hS, hl, hm, hO⟩
theorem append_at {P : Program} {ops : Array Oper} {rest : List Oper} {o : Oper} {a : Act} {Q : Exit → Act → World → Prop} {α : Type} {R : α → List Value → Prop} {w0 W : World} (base N : Nat) (hgd : o.guard = none) (s x : Operand) (t e : TypeId) (z : Value) (size bytes : Nat)
    (ho : o.op = .call { callee := .builtin .append, args := #[s, x], argTypes := #[t, t] })
    (ht : P.underlying t = some (.slice e)) (hinfo : (P.info? e).map (fun i => (i.zero, i.size, i.bytes)) = some (some z, size, bytes)) (hz : z.cells.size = size) (hs0 : 0 < size) (hb0 : 0 < bytes)
    (v : Value) (ps : List α) (p : α) (cs : List Value) (hs : a.eval s = v) (hx : a.eval x = .slice (some ⟨N, 0, none⟩) 1 1) (hN : N = W.heap.size) (hp : R p cs) (hcs : cs.length = size) (h1 : ∀ u ∈ cs, u.oneCell' = true)
    (HO : OwnRow R e size W base v ps) (HB : Below base w0 W) (hbase : base ≤ W.heap.size) (hl : (ps.length + 1) * bytes ≤ 140737488355328)
    (h : ∀ v1 w1, OwnRow R e size w1 base v1 (ps ++ [p]) → Below base w0 w1 → W.grownBy w1 v.ownBlock → (v1.ownBlock = v.ownBlock ∨ ∃ b, v1.ownBlock = some b ∧ W.heap.size ≤ b) → wpList P ops Q rest (a.put o.dst v1) w1) :
    wpList P ops Q (o :: rest) a (W.alloc (.cells cs.toArray e)) :=
  OwnRow.append base hgd s x t e z size bytes ho ht hinfo hz hs0 hb0 v ps p cs hs (by rw [hx, hN]) hp hcs h1 HO HB hbase hl h
theorem below_drewN {Z : Nat} {u v : World} (h : Below Z u v) (n : Nat) : Below Z u (v.drewN n) := ⟨h.os, h.tape, h.output, h.size, h.block⟩
set_option maxHeartbeats 4000000 in
set_option maxRecDepth 100000 in
theorem spaced_any (w : World) (mb : Nat) (lm : List (B × B)) (p : B) (l : List Trip) (A : Option Addr) (cap : Nat) (hM : SM w mb lm) (hl : RwN w A l) (hcap : l.length ≤ cap) (hn : l.length ≤ 4294967296) :
    Calls Tryz.prog 56 #[.map (some mb), .string (bs p), .slice A l.length cap] w (PostS w (spacedP (lookL lm) p l)) := by
  obtain ⟨o, ho⟩ : ∃ o, o = spacedP (lookL lm) p l := ⟨_, rfl⟩
  rw [← ho]
  unfold spacedP at ho
  have Ho := Lib.hid ho
  have HM := Lib.hid hM
  have HL := Lib.hid hl
  clear ho hM hl
  go_enter Tryz.func56, Tryz.ntmps56
  go_wp2
  go_loopg [23] l.length (fun k v wr => ∃ i : Nat, v = .int .i64 i ∧ Aside (i + k = l.length ∧ Below w.heap.size w wr ∧ twiceP l = twiceFrom (l.take i) (l.drop i)))
  case atStart => exact ⟨0, rfl, by omega, Below.refl _ _, rfl⟩
  case round =>
    obtain ⟨i, rfl, hA⟩ := hrel
    obtain ⟨hi, hb, ht⟩ := hA.out
    clear hA
    have HB := Lib.hid hb
    have HT := Lib.hid ht
    clear hb ht
    by_cases hlt : i < l.length
    · have hd1 : decide ((i : Int) < (l.length : Int)) = true := by simp; omega
      obtain ⟨y, hy⟩ : ∃ y, l[i]? = some y := ⟨_, List.getElem?_eq_getElem hlt⟩
      have HLr := Lib.hid (HL.out.below HB.out)
      obtain ⟨g, rfl, c0, c1, c2⟩ := HLr.out i y hy
      have Hy := Lib.hid hy
      clear hy
      go_wp2_with fail
      have HXb := Lib.hid (Blk.new wr (tripC y) 77)
      have HLt := Lib.hid ((HLr.out.below ((Below.refl _ _).alloc (Nat.le_refl _) (.cells #[.string (bs y.1), .string (bs y.2.1), .string (bs y.2.2)] 77))).take i)
      refine (has_77 y wr.heap.size _ cap i (l.take i) _ HXb.out HLt.out (by rw [List.length_take]; omega) (by rw [List.length_take]; omega)).mono ?_
      rintro e w1 ⟨rfl, hb1⟩
      have HB1 := Lib.hid (HB.out.trans (((Below.refl _ _).alloc (Nat.le_refl _) _).trans (hb1.mono (by simp)) |>.mono HB.out.size))
      have hdl : l.drop i = y :: l.drop (i + 1) := by
        have h2 := List.drop_eq_getElem_cons hlt
        rw [List.getElem?_eq_getElem hlt] at Hy
        have := Hy.out
        injection this with this
        rw [h2, this]
      have hT1 : twiceP l = ((l.take i).any (dup y) || twiceFrom (l.take (i + 1)) (l.drop (i + 1))) := by
        rw [HT.out, hdl]
        show (_ || _) = _
        rw [List.take_add_one, Hy.out]
        rfl
      have HT1 := Lib.hid hT1
      clear hb1 hdl hT1 c0 c1 c2
      cases ha : (l.take i).any (dup y) with
      | true =>
        have HoF : Hid (o = .error 8) := by rw [Ho.out, if_pos (by rw [HT1.out, ha]; rfl)]; rfl
        clear ha
        go_wp2_with fail
        refine (must_no _ _).mono ?_
        rintro e w2 ⟨rfl, rfl⟩
        go_wp2
        refine ⟨rfl, ?_⟩
        rw [HoF.out]
        exact ⟨HB1.out, rfl⟩
      | false =>
        have HT2 : Hid (twiceP l = twiceFrom (l.take (i + 1)) (l.drop (i + 1))) := by rw [HT1.out, ha]; rfl
        clear ha
        go_wp2_with fail
        refine (must_ok _ _).mono ?_
        rintro e w2 ⟨rfl, rfl⟩
        go_wp2
        go_roundg (l.length - (i + 1))
        case measure => omega
        case rel => exact ⟨i + 1, by go_num, by omega, HB1.out, HT2.out⟩
    · have hd1 : decide ((i : Int) < (l.length : Int)) = false := by simp; omega
      have ht0 : twiceP l = false := by
        rw [HT.out, List.drop_eq_nil_of_le (by omega)]
        rfl
      have ho1 := Ho.out
      rw [if_neg (by rw [ht0]; decide)] at ho1
      have Ho1 := Lib.hid ho1
      have HM1 := Lib.hid (HM.out.below HB.out HM.out.lt)
      clear ho1 ht0 HT Ho
      obtain ⟨oi, hri, hit⟩ := run_range (wr.alloc (.map #[] 0)) mb lm (HM1.out.below ((Below.refl _ _).alloc (Nat.le_refl _) _) HM1.out.lt)
      have hmk := run_makeMap62 wr
      have HIT := Lib.hid hit
      clear hit
      go_wp2_with fail
      have hmbw : mb < w.heap.size := HM.out.lt
      have hwr : w.heap.size ≤ wr.heap.size := HB.out.size
      have HIT : Hid (IT ((wr.alloc (.map #[] 0)).alloc oi) (wr.heap.size + 1) mb lm lm) := by
        have h := HIT.out
        have e : (wr.alloc (.map #[] 0)).heap.size = wr.heap.size + 1 := by simp
        rw [e] at h
        exact h
      have HN : Hid (SM ((wr.alloc (.map #[] 0)).alloc oi) wr.heap.size []) := (SM.new wr).move (Below.heap_alloc _ _ _ (by simp))
      have HB2 := Lib.hid ((HB.out.alloc HB.out.size (.map #[] 0)).alloc (by simp; omega) oi)
      clear hmk hri HM1 HB
      obtain ⟨nb, hnb⟩ : ∃ nb, nb = wr.heap.size := ⟨_, rfl⟩
      rw [← hnb] at HIT HN hwr ⊢
      have Hnb := Lib.hid hnb
      clear hnb
      go_loopg [] lm.length (fun k wr => Aside (∃ left c, IT wr (nb + 1) mb lm left ∧ SM wr nb c ∧ Cop lm left c ∧ Below w.heap.size w wr ∧ left.length = k))
      case atStart => exact ⟨lm, [], HIT.out, HN.out, Cop.start, HB2.out, rfl⟩
      case round =>
        clear HIT HN HB2
        obtain ⟨left, c, hI, hS, hC, hb, hk⟩ := hrel.out
        clear hrel
        have HI := Lib.hid hI
        have HS := Lib.hid hS
        have HC := Lib.hid hC
        have HB := Lib.hid hb
        have HK := Lib.hid hk
        clear hI hS hC hb hk
        by_cases hne : left = []
        · have HSc : Hid (lookL c = lookL lm) := by rw [hne] at HC; exact HC.out.done
          have hnx : ∀ ty, (Instr.next (.pointer (some ⟨nb + 1, 0, none⟩)) false ty).run Tryz.prog wr = .ok (.tuple #[.bool false]) wr := fun ty => run_next_end wr (nb + 1) mb lm (by rw [hne] at HI; exact HI.out) ty
          clear hne
          go_wp2_with fail
          clear hnx HI HC HK
          go_loopg [49] l.length (fun k v wr => ∃ i : Nat, v = .int .i64 i ∧ Aside (∃ c', SM wr nb c' ∧ i + k = l.length ∧ Below w.heap.size w wr ∧ spacesP (lookL lm) l = spacesP (lookL c') (l.drop i)))
          case atStart => exact ⟨0, rfl, c, HS.out, by omega, HB.out, by rw [HSc.out]; rfl⟩
          case round =>
            clear HSc HS HB
            obtain ⟨j, rfl, hA⟩ := hrel
            obtain ⟨c', hS, hj, hb, hsp⟩ := hA.out
            clear hA
            have HS := Lib.hid hS
            have HB := Lib.hid hb
            have HP := Lib.hid hsp
            clear hS hb hsp
            by_cases hlt : j < l.length
            · have hd1 : decide ((j : Int) < (l.length : Int)) = true := by simp; omega
              obtain ⟨y, hy⟩ : ∃ y, l[j]? = some y := ⟨_, List.getElem?_eq_getElem hlt⟩
              have HLr := Lib.hid (HL.out.below HB.out)
              obtain ⟨g, rfl, c0, c1, c2⟩ := HLr.out j y hy
              have hdl : l.drop j = y :: l.drop (j + 1) := by
                have h2 := List.drop_eq_getElem_cons hlt
                rw [List.getElem?_eq_getElem hlt] at hy
                injection hy with hy
                rw [h2, hy]
              have hp1 := HP.out
              rw [hdl] at hp1
              rw [spacesP_cons] at hp1
              have HP1 := Lib.hid hp1
              clear hdl hp1 hy HP
              obtain ⟨pf, nm, vl⟩ := y
              have HSb := Lib.hid (HS.out.below ((Below.refl _ _).alloc (Nat.le_refl _) (.cells #[.string (bs pf), .string (bs nm), .string (bs vl)] 77)) HS.out.lt)
              have HBb := Lib.hid (HB.out.alloc HB.out.size (.cells #[.string (bs pf), .string (bs nm), .string (bs vl)] 77))
              by_cases hpf : pf = []
              · have hE := bsE hpf
                by_cases hnm : nm = xmlnsB
                · have hX : ((bs nm).toList == [120, 109, 108, 110, 115]) = true := by rw [bsQ, hnm]; rfl
                  have HP2 : Hid (spacesP (lookL lm) l = spacesP (Sc.set (lookL c') [] vl) (l.drop (j + 1))) := by rw [HP1.out, hpf, hnm]; rfl
                  clear hpf hnm HP1
                  obtain ⟨o2, hup, hS2⟩ := run_mapUpdate (wr.alloc (.cells #[.string (bs pf), .string (bs nm), .string (bs vl)] 77)) nb c' [] vl HSb.out
                  have hup' : (Instr.mapUpdate 62 (.map (some nb)) (.string ⟨#[]⟩) (.string (bs vl))).run Tryz.prog (wr.alloc (.cells #[.string (bs pf), .string (bs nm), .string (bs vl)] 77)) = .ok () (setMap (wr.alloc (.cells #[.string (bs pf), .string (bs nm), .string (bs vl)] 77)) nb o2) := hup
                  have HS2 := Lib.hid hS2
                  have HB2 := Lib.hid (HBb.out.grown (setMap_grown (wr.alloc (.cells #[.string (bs pf), .string (bs nm), .string (bs vl)] 77)) nb o2) (by have := HB.out.size; simp; omega) (fun k e => by injection e with e; omega))
                  clear hup hS2
                  go_wp2_with fail
                  go_roundg (l.length - (j + 1))
                  case measure => omega
                  case rel => exact ⟨j + 1, by go_num, _, HS2.out, by omega, HB2.out, by rw [HP2.out, lookL_setL]⟩
                · have hX : ((bs nm).toList == [120, 109, 108, 110, 115]) = false := by rw [bsQ]; exact beq_eq_false_iff_ne.2 hnm
                  have HP2 : Hid (spacesP (lookL lm) l = spacesP (lookL c') (l.drop (j + 1))) := by
                    rw [HP1.out, if_neg (by simp [hnm]), if_neg (by simp [hpf, xmlnsB])]; rfl
                  clear hpf hnm HP1
                  go_wp2_with fail
                  go_roundg (l.length - (j + 1))
                  case measure => omega
                  case rel => exact ⟨j + 1, by go_num, c', HSb.out, by omega, HBb.out, HP2.out⟩
              · have hE := bsN hpf
                have hI := bsI hpf
                by_cases hpx : pf = xmlnsB
                · have hX : ((bs pf).toList == [120, 109, 108, 110, 115]) = true := by rw [bsQ, hpx]; rfl
                  cases hc : (vl != [] && nm != xmlnsB && nm != xmlB) with
                  | true =>
                    have HP2 : Hid (spacesP (lookL lm) l = spacesP (Sc.set (lookL c') nm vl) (l.drop (j + 1))) := by
                      rw [HP1.out, if_neg (by simp [hpf]), if_pos (by simp [hpx]), if_pos hc]; rfl
                    rw [Bool.and_eq_true, Bool.and_eq_true, bne_iff_ne, bne_iff_ne, bne_iff_ne] at hc
                    have hvE := bsN hc.1.1
                    have hvI := bsI hc.1.1
                    have hn1 : ((bs nm).toList == [120, 109, 108, 110, 115]) = false := by rw [bsQ]; exact beq_eq_false_iff_ne.2 hc.1.2
                    have hn2 : ((bs nm).toList == [120, 109, 108]) = false := by rw [bsQ]; exact beq_eq_false_iff_ne.2 hc.2
                    clear hc hpf hpx HP1
                    obtain ⟨o2, hup, hS2⟩ := run_mapUpdate (wr.alloc (.cells #[.string (bs pf), .string (bs nm), .string (bs vl)] 77)) nb c' nm vl HSb.out
                    have HS2 := Lib.hid hS2
                    have HB2 := Lib.hid (HBb.out.grown (setMap_grown (wr.alloc (.cells #[.string (bs pf), .string (bs nm), .string (bs vl)] 77)) nb o2) (by have := HB.out.size; simp; omega) (fun k e => by injection e with e; omega))
                    clear hS2
                    go_wp2_with fail
                    refine (must_ok _ _).mono ?_
                    rintro e w1 ⟨rfl, rfl⟩
                    go_wp2_with fail
                    go_roundg (l.length - (j + 1))
                    case measure => omega
                    case rel => exact ⟨j + 1, by go_num, _, HS2.out, by omega, HB2.out, by rw [HP2.out, lookL_setL]⟩
                  | false =>
                    have HoF : Hid (o = .error 10) := by
                      rw [Ho1.out, HP1.out, if_neg (by simp [hpf]), if_pos (by simp [hpx]), if_neg (by rw [hc]; decide)]; rfl
                    have hcc : vl = [] ∨ (vl ≠ [] ∧ nm = xmlnsB) ∨ (vl ≠ [] ∧ nm ≠ xmlnsB ∧ nm = xmlB) := by
                      by_cases h1 : vl = []
                      · exact .inl h1
                      · by_cases h2 : nm = xmlnsB
                        · exact .inr (.inl ⟨h1, h2⟩)
                        · by_cases h3 : nm = xmlB
                          · exact .inr (.inr ⟨h1, h2, h3⟩)
                          · simp [h1, h2, h3] at hc
                    clear hc hpf hpx HP1
                    rcases hcc with h1 | ⟨h1, h2⟩ | ⟨h1, h2, h3⟩
                    · have hv := bsE h1
                      clear h1
                      go_wp2_with fail
                      refine (must_no _ _).mono ?_
                      rintro e w1 ⟨rfl, rfl⟩
                      go_wp2
                      exact ⟨rfl, post_err HoF HBb.out⟩
                    · have hv := bsN h1
                      have hvI := bsI h1
                      have hn1 : ((bs nm).toList == [120, 109, 108, 110, 115]) = true := by rw [bsQ, h2]; rfl
                      clear h1 h2
                      go_wp2_with fail
                      refine (must_no _ _).mono ?_
                      rintro e w1 ⟨rfl, rfl⟩
                      go_wp2
                      exact ⟨rfl, post_err HoF HBb.out⟩
                    · have hv := bsN h1
                      have hvI := bsI h1
                      have hn1 : ((bs nm).toList == [120, 109, 108, 110, 115]) = false := by rw [bsQ]; exact beq_eq_false_iff_ne.2 h2
                      have hn2 : ((bs nm).toList == [120, 109, 108]) = true := by rw [bsQ, h3]; rfl
                      clear h1 h2 h3
                      go_wp2_with fail
                      refine (must_no _ _).mono ?_
                      rintro e w1 ⟨rfl, rfl⟩
                      go_wp2
                      exact ⟨rfl, post_err HoF HBb.out⟩
                · have hX : ((bs pf).toList == [120, 109, 108, 110, 115]) = false := by rw [bsQ]; exact beq_eq_false_iff_ne.2 hpx
                  have HP2 : Hid (spacesP (lookL lm) l = spacesP (lookL c') (l.drop (j + 1))) := by
                    rw [HP1.out, if_neg (by simp [hpf]), if_neg (by simp [hpx])]; rfl
                  clear hpf hpx HP1
                  go_wp2_with fail
                  go_roundg (l.length - (j + 1))
                  case measure => omega
                  case rel => exact ⟨j + 1, by go_num, c', HSb.out, by omega, HBb.out, HP2.out⟩
            · have hd1 : decide ((j : Int) < (l.length : Int)) = false := by simp; omega
              have hsp1 : spacesP (lookL lm) l = some (lookL c') := by
                rw [HP.out, List.drop_eq_nil_of_le (by omega)]; rfl
              have ho2 := Ho1.out
              rw [hsp1] at ho2
              have Ho2 : Hid (o = if p == [] || lookL c' p != [] then
                  match spacedAttrsP (lookL c') l with
                  | none => .error 12
                  | some a => if twiceP a then .error 8 else .ok (lookL c', a)
                else .error 12) := ho2
              have hlk := run_lookup wr nb c' p HS.out
              have hpc : p = [] ∨ (p ≠ [] ∧ lookL c' p ≠ []) ∨ (p ≠ [] ∧ lookL c' p = []) := by
                by_cases h1 : p = []
                · exact .inl h1
                · by_cases h2 : lookL c' p = []
                  · exact .inr (.inr ⟨h1, h2⟩)
                  · exact .inr (.inl ⟨h1, h2⟩)
              clear ho2 hsp1 HP Ho1
              obtain ⟨f, hf⟩ : ∃ f, f = lookL c' := ⟨_, rfl⟩
              rw [← hf] at Ho2 hlk hpc
              have Hf := Lib.hid hf
              clear hf
              rcases hpc with hp | ⟨hp, hfp⟩ | ⟨hp, hfp⟩
              · have hpE := bsE hp
                have Ho3 : Hid (o = match spacedAttrsP f l with
                  | none => .error 12
                  | some a => if twiceP a then .error 8 else .ok (f, a)) := by rw [Ho2.out, if_pos (by simp [hp])]; rfl
                clear Ho2 hp
                go_wp2_with fail
                refine (must_ok _ _).mono ?_
                rintro e w1 ⟨rfl, rfl⟩
                clear hlk
                go_wp2_with fail
                go_loopg [15, 100] l.length (fun k va v wr => ∃ i : Nat, v = .int .i64 i ∧ Aside (∃ acc, SM wr nb c' ∧ OwnT 33 wr w.heap.size va acc ∧ Below w.heap.size w wr ∧ i + k = l.length ∧ acc.length ≤ i ∧ spacedAttrsP f l = (spacedAttrsP f (l.drop i)).map (acc ++ ·)))
                case atStart => exact ⟨0, rfl, [], HS.out, OwnRow.none_ _ _ _ _ _, HB.out, by omega, Nat.le_refl _, by simp⟩
                case round =>
                  clear HS HB

                  obtain ⟨q, rfl, hA⟩ := hrel
                  obtain ⟨acc, hS, hO, hb, hq, haq, hsp⟩ := hA.out
                  clear hA
                  have HS := Lib.hid hS
                  have HO := Lib.hid hO
                  have HB := Lib.hid hb
                  have HP := Lib.hid hsp
                  clear hS hO hb hsp
                  by_cases hlt : q < l.length
                  · have hd1 : decide ((q : Int) < (l.length : Int)) = true := by simp; omega
                    obtain ⟨y, hy⟩ : ∃ y, l[q]? = some y := ⟨_, List.getElem?_eq_getElem hlt⟩
                    have HLr := Lib.hid (HL.out.below HB.out)
                    obtain ⟨g, rfl, c0, c1, c2⟩ := HLr.out q y hy
                    have hdl : l.drop q = y :: l.drop (q + 1) := by
                      have h2 := List.drop_eq_getElem_cons hlt
                      rw [List.getElem?_eq_getElem hlt] at hy
                      injection hy with hy
                      rw [h2, hy]
                    have hp1 := HP.out
                    rw [hdl, spacedAttrsP_cons] at hp1
                    have HP1 := Lib.hid hp1
                    clear hdl hp1 hy HP
                    obtain ⟨pf, nm, vl⟩ := y
                    have HSb := Lib.hid (HS.out.below ((Below.refl _ _).alloc (Nat.le_refl _) (.cells #[.string (bs pf), .string (bs nm), .string (bs vl)] 77)) HS.out.lt)
                    have HBb := Lib.hid (HB.out.alloc HB.out.size (.cells #[.string (bs pf), .string (bs nm), .string (bs vl)] 77))
                    have HOb := Lib.hid (HO.out.below ((Below.refl _ _).alloc (Nat.le_refl _) (.cells #[.string (bs pf), .string (bs nm), .string (bs vl)] 77)))
                    by_cases hpx : pf = xmlnsB
                    · have hX : ((bs pf).toList == [120, 109, 108, 110, 115]) = true := by rw [bsQ, hpx]; rfl
                      have HP2 : Hid (spacedAttrsP f l = (spacedAttrsP f (l.drop (q + 1))).map (acc ++ ·)) := by rw [HP1.out, if_pos (by simp [hpx])]; rfl
                      clear hpx HP1
                      go_wp2_with fail
                      go_roundg (l.length - (q + 1))
                      case measure => omega
                      case rel => exact ⟨q + 1, by go_num, acc, HSb.out, HOb.out, HBb.out, by omega, by omega, HP2.out⟩
                    · have hX : ((bs pf).toList == [120, 109, 108, 110, 115]) = false := by rw [bsQ]; exact beq_eq_false_iff_ne.2 hpx
                      by_cases hpf : pf = []
                      · have hE := bsE hpf
                        by_cases hnm : nm = xmlnsB
                        · have hN : ((bs nm).toList == [120, 109, 108, 110, 115]) = true := by rw [bsQ, hnm]; rfl
                          have HP2 : Hid (spacedAttrsP f l = (spacedAttrsP f (l.drop (q + 1))).map (acc ++ ·)) := by rw [HP1.out, if_pos (by simp [hpf, hnm])]; rfl
                          clear hpx hpf hnm HP1
                          go_wp2_with fail
                          go_roundg (l.length - (q + 1))
                          case measure => omega
                          case rel => exact ⟨q + 1, by go_num, acc, HSb.out, HOb.out, HBb.out, by omega, by omega, HP2.out⟩
                        · have hN : ((bs nm).toList == [120, 109, 108, 110, 115]) = false := by rw [bsQ]; exact beq_eq_false_iff_ne.2 hnm
                          have HP2 : Hid (spacedAttrsP f l = (spacedAttrsP f (l.drop (q + 1))).map ((acc ++ [([], nm, vl)]) ++ ·)) := by
                            rw [HP1.out, if_neg (by simp [hpx, hnm]), if_pos (by simp [hpf]), if_pos (by simp [hpf]), Option.map_map]
                            congr 1
                            funext z
                            simp
                          clear hpx hpf hnm HP1
                          go_wp2_with fail
                          refine (must_ok _ _).mono ?_
                          rintro e w2 ⟨rfl, rfl⟩
                          go_wp2_with (at_builtin; refine append_at (w0 := w) (R := fun p cs => cs = tripC p) w.heap.size (wr.heap.size + 1 + 1) rfl (.tmp 141) (.tmp 143) 23 33 (.agg #[.string ⟨#[]⟩, .string ⟨#[]⟩, .string ⟨#[]⟩]) 3 48 rfl Tryz.underlying23 (by kernel_rfl) rfl (by decide) (by decide) _ acc ([], nm, vl) [.string ⟨#[]⟩, .string (bs nm), .string (bs vl)] rfl rfl (by simp) rfl rfl (by simp [Value.oneCell']) (HOb.out.below ((Below.refl _ _).alloc (Nat.le_refl _) (.cells #[.string ⟨#[]⟩, .string (bs nm), .string (bs vl)] 33))) (HBb.out.alloc (by have := HB.out.size; simp; omega) (.cells #[.string ⟨#[]⟩, .string (bs nm), .string (bs vl)] 33)) (by have := HB.out.size; simp; omega) (by omega) ?_; intro va' w2 hO2 hb2 hg2 hat2)
                          have HO2 := Lib.hid hO2
                          have HB2 := Lib.hid hb2
                          have HS2 := Lib.hid ((HSb.out.below ((Below.refl _ _).alloc (Nat.le_refl _) (.cells #[.string ⟨#[]⟩, .string (bs nm), .string (bs vl)] 33)) HSb.out.lt).move (hg2.block nb (by have := HS.out.lt; simp; omega) (by
                            intro e
                            obtain ⟨inner, ho, _⟩ := HO.out
                            have := own_typed ho nb e.symm
                            obtain ⟨cells, hcells⟩ := this
                            obtain ⟨es, clock, hmm, _⟩ := HS.out
                            rw [hmm] at hcells
                            cases hcells)))
                          clear hO2 hb2 hg2 hat2
                          go_wp2_with fail
                          go_roundg (l.length - (q + 1))
                          case measure => omega
                          case rel => exact ⟨q + 1, by go_num, acc ++ [([], nm, vl)], HS2.out, HO2.out, HB2.out, by omega, by rw [List.length_append]; simp; omega, HP2.out⟩
                      · have hE := bsN hpf
                        have hI := bsI hpf
                        have hlk2 := run_lookup (wr.alloc (.cells #[.string (bs pf), .string (bs nm), .string (bs vl)] 77)) nb c' pf HSb.out
                        rw [← Hf.out] at hlk2
                        by_cases hfp : f pf = []
                        · have hfE := bsE hfp
                          have hsn : spacedAttrsP f l = none := by rw [HP1.out, if_neg (by simp [hpx, hpf]), if_neg (by simp [hpf, hfp])]; rfl
                          have HoF : Hid (o = .error 12) := by rw [Ho3.out, hsn]; rfl
                          clear hfp hpx hpf hsn HP1
                          go_wp2_with fail
                          refine (must_no _ _).mono ?_
                          rintro e w2 ⟨rfl, rfl⟩
                          go_wp2
                          exact ⟨rfl, post_err HoF HBb.out⟩
                        · have hfE := bsN hfp
                          have hfI := bsI hfp
                          have HP2 : Hid (spacedAttrsP f l = (spacedAttrsP f (l.drop (q + 1))).map ((acc ++ [(f pf, nm, vl)]) ++ ·)) := by
                            rw [HP1.out, if_neg (by simp [hpx, hpf]), if_pos (by simp [hfp]), if_neg (by simp [hpf]), Option.map_map]
                            congr 1
                            funext z
                            simp
                          clear hfp hpx hpf HP1
                          have hlk3 := run_lookup ((wr.alloc (.cells #[.string (bs pf), .string (bs nm), .string (bs vl)] 77)).alloc (.cells #[.string ⟨#[]⟩, .string (bs nm), .string (bs vl)] 33)) nb c' pf (HSb.out.below ((Below.refl _ _).alloc (Nat.le_refl _) (.cells #[.string ⟨#[]⟩, .string (bs nm), .string (bs vl)] 33)) HSb.out.lt)
                          rw [← Hf.out] at hlk3
                          go_wp2_with fail
                          refine (must_ok _ _).mono ?_
                          rintro e w2 ⟨rfl, rfl⟩
                          go_wp2_with (at_builtin; go_loud (refine append_at (w0 := w) (R := fun p cs => cs = tripC p) w.heap.size (wr.heap.size + 1 + 1) rfl (.tmp 141) (.tmp 143) 23 33 (.agg #[.string ⟨#[]⟩, .string ⟨#[]⟩, .string ⟨#[]⟩]) 3 48 rfl Tryz.underlying23 (by kernel_rfl) rfl (by decide) (by decide) _ acc (f pf, nm, vl) [.string (bs (f pf)), .string (bs nm), .string (bs vl)] rfl rfl (by simp) rfl rfl (by simp [Value.oneCell']) (HOb.out.below ((Below.refl _ _).alloc (Nat.le_refl _) (.cells #[.string (bs (f pf)), .string (bs nm), .string (bs vl)] 33))) (HBb.out.alloc (by have := HB.out.size; simp; omega) (.cells #[.string (bs (f pf)), .string (bs nm), .string (bs vl)] 33)) (by have := HB.out.size; simp; omega) (by omega) ?_); intro va' w2 hO2 hb2 hg2 hat2)
                          have HO2 := Lib.hid hO2
                          have HB2 := Lib.hid hb2
                          have HS2 := Lib.hid ((HSb.out.below ((Below.refl _ _).alloc (Nat.le_refl _) (.cells #[.string (bs (f pf)), .string (bs nm), .string (bs vl)] 33)) HSb.out.lt).move (hg2.block nb (by have := HS.out.lt; simp; omega) (by
                            intro e
                            obtain ⟨inner, ho, _⟩ := HO.out
                            have := own_typed ho nb e.symm
                            obtain ⟨cells, hcells⟩ := this
                            obtain ⟨es, clock, hmm, _⟩ := HS.out
                            rw [hmm] at hcells
                            cases hcells)))
                          clear hO2 hb2 hg2 hat2
                          go_wp2_with fail
                          go_roundg (l.length - (q + 1))
                          case measure => omega
                          case rel => exact ⟨q + 1, by go_num, acc ++ [(f pf, nm, vl)], HS2.out, HO2.out, HB2.out, by omega, by rw [List.length_append]; simp; omega, HP2.out⟩
                  · have hd1 : decide ((q : Int) < (l.length : Int)) = false := by simp; omega
                    have hsp1 : spacedAttrsP f l = some acc := by
                      rw [HP.out, List.drop_eq_nil_of_le (by omega)]
                      show some (acc ++ []) = _
                      rw [List.append_nil]
                    have ho4 := Ho3.out
                    rw [hsp1] at ho4
                    have Ho4 : Hid (o = if twiceP acc then .error 8 else .ok (f, acc)) := ho4
                    clear ho4 hsp1 HP Ho3
                    have hO := HO.out
                    obtain ⟨A2, cap2, rfl, hcc, hRw⟩ := own_rwn hO
                    have HRw := Lib.hid hRw
                    have hal : acc.length ≤ 4294967296 := by omega
                    clear hO hRw
                    go_wp2_with fail
                    go_loopg [148] acc.length (fun k v wr => ∃ i : Nat, v = .int .i64 i ∧ Aside (i + k = acc.length ∧ SM wr nb c' ∧ OwnT 33 wr w.heap.size (.slice A2 acc.length cap2) acc ∧ RwN wr A2 acc ∧ Below w.heap.size w wr ∧ twiceP acc = twiceFrom (acc.take i) (acc.drop i)))
                    case atStart => exact ⟨0, rfl, by omega, HS.out, HO.out, HRw.out, HB.out, rfl⟩
                    case round =>
                      clear HS HO HRw HB
                      obtain ⟨i2, rfl, hA⟩ := hrel
                      obtain ⟨hi2, hS, hO, hRw, hb, ht⟩ := hA.out
                      clear hA
                      have HS := Lib.hid hS
                      have HO := Lib.hid hO
                      have HRw := Lib.hid hRw
                      have HB := Lib.hid hb
                      have HT := Lib.hid ht
                      clear hS hO hRw hb ht
                      by_cases hlt : i2 < acc.length
                      · have hd2 : decide ((i2 : Int) < (acc.length : Int)) = true := by simp; omega
                        obtain ⟨y, hy⟩ : ∃ y, acc[i2]? = some y := ⟨_, List.getElem?_eq_getElem hlt⟩
                        obtain ⟨g2, rfl, c0, c1, c2⟩ := HRw.out i2 y hy
                        have Hy := Lib.hid hy
                        clear hy
                        go_wp2_with fail
                        have HXb := Lib.hid (Blk.new wr (tripC y) 33)
                        have hal2 : Below wr.heap.size wr (wr.alloc (.cells #[.string (bs y.1), .string (bs y.2.1), .string (bs y.2.2)] 33)) := (Below.refl _ _).alloc (Nat.le_refl _) _
                        have HLt := Lib.hid ((HRw.out.below hal2).take i2)
                        refine (has_33 y wr.heap.size _ cap2 i2 (acc.take i2) _ HXb.out HLt.out (by rw [List.length_take]; omega) (by rw [List.length_take]; omega)).mono ?_
                        rintro e w1 ⟨rfl, hb1⟩
                        have hb2 : Below wr.heap.size wr w1 := hal2.trans (hb1.mono (by simp))
                        have HB1 := Lib.hid (HB.out.trans (hb2.mono HB.out.size))
                        have HS1 := Lib.hid (HS.out.below hb2 HS.out.lt)
                        have HO1 := Lib.hid (OwnRow.below HO.out hb2)
                        have HR1 := Lib.hid (HRw.out.below hb2)
                        have hdl : acc.drop i2 = y :: acc.drop (i2 + 1) := by
                          have h2 := List.drop_eq_getElem_cons hlt
                          rw [List.getElem?_eq_getElem hlt] at Hy
                          have := Hy.out
                          injection this with this
                          rw [h2, this]
                        have hT1 : twiceP acc = ((acc.take i2).any (dup y) || twiceFrom (acc.take (i2 + 1)) (acc.drop (i2 + 1))) := by
                          rw [HT.out, hdl]
                          show (_ || _) = _
                          rw [List.take_add_one, Hy.out]
                          rfl
                        have HT1 := Lib.hid hT1
                        clear hb1 hb2 hal2 hdl hT1 c0 c1 c2
                        cases ha : (acc.take i2).any (dup y) with
                        | true =>
                          have HoF : Hid (o = .error 8) := by rw [Ho4.out, if_pos (by rw [HT1.out, ha]; rfl)]; rfl
                          clear ha
                          go_wp2_with fail
                          refine (must_no _ _).mono ?_
                          rintro e w2 ⟨rfl, rfl⟩
                          go_wp2
                          exact ⟨rfl, post_err HoF HB1.out⟩
                        | false =>
                          have HT2 : Hid (twiceP acc = twiceFrom (acc.take (i2 + 1)) (acc.drop (i2 + 1))) := by rw [HT1.out, ha]; rfl
                          clear ha
                          go_wp2_with fail
                          refine (must_ok _ _).mono ?_
                          rintro e w2 ⟨rfl, rfl⟩
                          go_wp2
                          go_roundg (acc.length - (i2 + 1))
                          case measure => omega
                          case rel => exact ⟨i2 + 1, by go_num, by omega, HS1.out, HO1.out, HR1.out, HB1.out, HT2.out⟩
                      · have hd2 : decide ((i2 : Int) < (acc.length : Int)) = false := by simp; omega
                        have ht0 : twiceP acc = false := by
                          rw [HT.out, List.drop_eq_nil_of_le (by omega)]
                          rfl
                        have Ho5 : Hid (o = .ok (f, acc)) := by rw [Ho4.out, if_neg (by rw [ht0]; decide)]; rfl
                        clear ht0
                        go_wp2
                        go_ret2
                        exact post_okS Ho5 rfl HB.out HS.out Hf.out.symm hwr HO.out
              · have hpE := bsN hp
                have hpI := bsI hp
                have hfE := bsN hfp
                have hfI := bsI hfp
                have Ho3 : Hid (o = match spacedAttrsP f l with
                  | none => .error 12
                  | some a => if twiceP a then .error 8 else .ok (f, a)) := by rw [Ho2.out, if_pos (by simp [hfp])]; rfl
                clear Ho2 hp hfp
                go_wp2_with fail
                refine (must_ok _ _).mono ?_
                rintro e w1 ⟨rfl, rfl⟩
                clear hlk
                go_wp2_with fail
                go_loopg [15, 100] l.length (fun k va v wr => ∃ i : Nat, v = .int .i64 i ∧ Aside (∃ acc, SM wr nb c' ∧ OwnT 33 wr w.heap.size va acc ∧ Below w.heap.size w wr ∧ i + k = l.length ∧ acc.length ≤ i ∧ spacedAttrsP f l = (spacedAttrsP f (l.drop i)).map (acc ++ ·)))
                case atStart => exact ⟨0, rfl, [], HS.out, OwnRow.none_ _ _ _ _ _, HB.out, by omega, Nat.le_refl _, by simp⟩
                case round =>
                  clear HS HB

                  obtain ⟨q, rfl, hA⟩ := hrel
                  obtain ⟨acc, hS, hO, hb, hq, haq, hsp⟩ := hA.out
                  clear hA
                  have HS := Lib.hid hS
                  have HO := Lib.hid hO
                  have HB := Lib.hid hb
                  have HP := Lib.hid hsp
                  clear hS hO hb hsp
                  by_cases hlt : q < l.length
                  · have hd1 : decide ((q : Int) < (l.length : Int)) = true := by simp; omega
                    obtain ⟨y, hy⟩ : ∃ y, l[q]? = some y := ⟨_, List.getElem?_eq_getElem hlt⟩
                    have HLr := Lib.hid (HL.out.below HB.out)
                    obtain ⟨g, rfl, c0, c1, c2⟩ := HLr.out q y hy
                    have hdl : l.drop q = y :: l.drop (q + 1) := by
                      have h2 := List.drop_eq_getElem_cons hlt
                      rw [List.getElem?_eq_getElem hlt] at hy
                      injection hy with hy
                      rw [h2, hy]
                    have hp1 := HP.out
                    rw [hdl, spacedAttrsP_cons] at hp1
                    have HP1 := Lib.hid hp1
                    clear hdl hp1 hy HP
                    obtain ⟨pf, nm, vl⟩ := y
                    have HSb := Lib.hid (HS.out.below ((Below.refl _ _).alloc (Nat.le_refl _) (.cells #[.string (bs pf), .string (bs nm), .string (bs vl)] 77)) HS.out.lt)
                    have HBb := Lib.hid (HB.out.alloc HB.out.size (.cells #[.string (bs pf), .string (bs nm), .string (bs vl)] 77))
                    have HOb := Lib.hid (HO.out.below ((Below.refl _ _).alloc (Nat.le_refl _) (.cells #[.string (bs pf), .string (bs nm), .string (bs vl)] 77)))
                    by_cases hpx : pf = xmlnsB
                    · have hX : ((bs pf).toList == [120, 109, 108, 110, 115]) = true := by rw [bsQ, hpx]; rfl
                      have HP2 : Hid (spacedAttrsP f l = (spacedAttrsP f (l.drop (q + 1))).map (acc ++ ·)) := by rw [HP1.out, if_pos (by simp [hpx])]; rfl
                      clear hpx HP1
                      go_wp2_with fail
                      go_roundg (l.length - (q + 1))
                      case measure => omega
                      case rel => exact ⟨q + 1, by go_num, acc, HSb.out, HOb.out, HBb.out, by omega, by omega, HP2.out⟩
                    · have hX : ((bs pf).toList == [120, 109, 108, 110, 115]) = false := by rw [bsQ]; exact beq_eq_false_iff_ne.2 hpx
                      by_cases hpf : pf = []
                      · have hE := bsE hpf
                        by_cases hnm : nm = xmlnsB
                        · have hN : ((bs nm).toList == [120, 109, 108, 110, 115]) = true := by rw [bsQ, hnm]; rfl
                          have HP2 : Hid (spacedAttrsP f l = (spacedAttrsP f (l.drop (q + 1))).map (acc ++ ·)) := by rw [HP1.out, if_pos (by simp [hpf, hnm])]; rfl
                          clear hpx hpf hnm HP1
                          go_wp2_with fail
                          go_roundg (l.length - (q + 1))
                          case measure => omega
                          case rel => exact ⟨q + 1, by go_num, acc, HSb.out, HOb.out, HBb.out, by omega, by omega, HP2.out⟩
                        · have hN : ((bs nm).toList == [120, 109, 108, 110, 115]) = false := by rw [bsQ]; exact beq_eq_false_iff_ne.2 hnm
                          have HP2 : Hid (spacedAttrsP f l = (spacedAttrsP f (l.drop (q + 1))).map ((acc ++ [([], nm, vl)]) ++ ·)) := by
                            rw [HP1.out, if_neg (by simp [hpx, hnm]), if_pos (by simp [hpf]), if_pos (by simp [hpf]), Option.map_map]
                            congr 1
                            funext z
                            simp
                          clear hpx hpf hnm HP1
                          go_wp2_with fail
                          refine (must_ok _ _).mono ?_
                          rintro e w2 ⟨rfl, rfl⟩
                          go_wp2_with (at_builtin; refine append_at (w0 := w) (R := fun p cs => cs = tripC p) w.heap.size (wr.heap.size + 1 + 1) rfl (.tmp 141) (.tmp 143) 23 33 (.agg #[.string ⟨#[]⟩, .string ⟨#[]⟩, .string ⟨#[]⟩]) 3 48 rfl Tryz.underlying23 (by kernel_rfl) rfl (by decide) (by decide) _ acc ([], nm, vl) [.string ⟨#[]⟩, .string (bs nm), .string (bs vl)] rfl rfl (by simp) rfl rfl (by simp [Value.oneCell']) (HOb.out.below ((Below.refl _ _).alloc (Nat.le_refl _) (.cells #[.string ⟨#[]⟩, .string (bs nm), .string (bs vl)] 33))) (HBb.out.alloc (by have := HB.out.size; simp; omega) (.cells #[.string ⟨#[]⟩, .string (bs nm), .string (bs vl)] 33)) (by have := HB.out.size; simp; omega) (by omega) ?_; intro va' w2 hO2 hb2 hg2 hat2)
                          have HO2 := Lib.hid hO2
                          have HB2 := Lib.hid hb2
                          have HS2 := Lib.hid ((HSb.out.below ((Below.refl _ _).alloc (Nat.le_refl _) (.cells #[.string ⟨#[]⟩, .string (bs nm), .string (bs vl)] 33)) HSb.out.lt).move (hg2.block nb (by have := HS.out.lt; simp; omega) (by
                            intro e
                            obtain ⟨inner, ho, _⟩ := HO.out
                            have := own_typed ho nb e.symm
                            obtain ⟨cells, hcells⟩ := this
                            obtain ⟨es, clock, hmm, _⟩ := HS.out
                            rw [hmm] at hcells
                            cases hcells)))
                          clear hO2 hb2 hg2 hat2
                          go_wp2_with fail
                          go_roundg (l.length - (q + 1))
                          case measure => omega
                          case rel => exact ⟨q + 1, by go_num, acc ++ [([], nm, vl)], HS2.out, HO2.out, HB2.out, by omega, by rw [List.length_append]; simp; omega, HP2.out⟩
                      · have hE := bsN hpf
                        have hI := bsI hpf
                        have hlk2 := run_lookup (wr.alloc (.cells #[.string (bs pf), .string (bs nm), .string (bs vl)] 77)) nb c' pf HSb.out
                        rw [← Hf.out] at hlk2
                        by_cases hfp : f pf = []
                        · have hfE := bsE hfp
                          have hsn : spacedAttrsP f l = none := by rw [HP1.out, if_neg (by simp [hpx, hpf]), if_neg (by simp [hpf, hfp])]; rfl
                          have HoF : Hid (o = .error 12) := by rw [Ho3.out, hsn]; rfl
                          clear hfp hpx hpf hsn HP1
                          go_wp2_with fail
                          refine (must_no _ _).mono ?_
                          rintro e w2 ⟨rfl, rfl⟩
                          go_wp2
                          exact ⟨rfl, post_err HoF HBb.out⟩
                        · have hfE := bsN hfp
                          have hfI := bsI hfp
                          have HP2 : Hid (spacedAttrsP f l = (spacedAttrsP f (l.drop (q + 1))).map ((acc ++ [(f pf, nm, vl)]) ++ ·)) := by
                            rw [HP1.out, if_neg (by simp [hpx, hpf]), if_pos (by simp [hfp]), if_neg (by simp [hpf]), Option.map_map]
                            congr 1
                            funext z
                            simp
                          clear hfp hpx hpf HP1
                          have hlk3 := run_lookup ((wr.alloc (.cells #[.string (bs pf), .string (bs nm), .string (bs vl)] 77)).alloc (.cells #[.string ⟨#[]⟩, .string (bs nm), .string (bs vl)] 33)) nb c' pf (HSb.out.below ((Below.refl _ _).alloc (Nat.le_refl _) (.cells #[.string ⟨#[]⟩, .string (bs nm), .string (bs vl)] 33)) HSb.out.lt)
                          rw [← Hf.out] at hlk3
                          go_wp2_with fail
                          refine (must_ok _ _).mono ?_
                          rintro e w2 ⟨rfl, rfl⟩
                          go_wp2_with (at_builtin; go_loud (refine append_at (w0 := w) (R := fun p cs => cs = tripC p) w.heap.size (wr.heap.size + 1 + 1) rfl (.tmp 141) (.tmp 143) 23 33 (.agg #[.string ⟨#[]⟩, .string ⟨#[]⟩, .string ⟨#[]⟩]) 3 48 rfl Tryz.underlying23 (by kernel_rfl) rfl (by decide) (by decide) _ acc (f pf, nm, vl) [.string (bs (f pf)), .string (bs nm), .string (bs vl)] rfl rfl (by simp) rfl rfl (by simp [Value.oneCell']) (HOb.out.below ((Below.refl _ _).alloc (Nat.le_refl _) (.cells #[.string (bs (f pf)), .string (bs nm), .string (bs vl)] 33))) (HBb.out.alloc (by have := HB.out.size; simp; omega) (.cells #[.string (bs (f pf)), .string (bs nm), .string (bs vl)] 33)) (by have := HB.out.size; simp; omega) (by omega) ?_); intro va' w2 hO2 hb2 hg2 hat2)
                          have HO2 := Lib.hid hO2
                          have HB2 := Lib.hid hb2
                          have HS2 := Lib.hid ((HSb.out.below ((Below.refl _ _).alloc (Nat.le_refl _) (.cells #[.string (bs (f pf)), .string (bs nm), .string (bs vl)] 33)) HSb.out.lt).move (hg2.block nb (by have := HS.out.lt; simp; omega) (by
                            intro e
                            obtain ⟨inner, ho, _⟩ := HO.out
                            have := own_typed ho nb e.symm
                            obtain ⟨cells, hcells⟩ := this
                            obtain ⟨es, clock, hmm, _⟩ := HS.out
                            rw [hmm] at hcells
                            cases hcells)))
                          clear hO2 hb2 hg2 hat2
                          go_wp2_with fail
                          go_roundg (l.length - (q + 1))
                          case measure => omega
                          case rel => exact ⟨q + 1, by go_num, acc ++ [(f pf, nm, vl)], HS2.out, HO2.out, HB2.out, by omega, by rw [List.length_append]; simp; omega, HP2.out⟩
                  · have hd1 : decide ((q : Int) < (l.length : Int)) = false := by simp; omega
                    have hsp1 : spacedAttrsP f l = some acc := by
                      rw [HP.out, List.drop_eq_nil_of_le (by omega)]
                      show some (acc ++ []) = _
                      rw [List.append_nil]
                    have ho4 := Ho3.out
                    rw [hsp1] at ho4
                    have Ho4 : Hid (o = if twiceP acc then .error 8 else .ok (f, acc)) := ho4
                    clear ho4 hsp1 HP Ho3
                    have hO := HO.out
                    obtain ⟨A2, cap2, rfl, hcc, hRw⟩ := own_rwn hO
                    have HRw := Lib.hid hRw
                    have hal : acc.length ≤ 4294967296 := by omega
                    clear hO hRw
                    go_wp2_with fail
                    go_loopg [148] acc.length (fun k v wr => ∃ i : Nat, v = .int .i64 i ∧ Aside (i + k = acc.length ∧ SM wr nb c' ∧ OwnT 33 wr w.heap.size (.slice A2 acc.length cap2) acc ∧ RwN wr A2 acc ∧ Below w.heap.size w wr ∧ twiceP acc = twiceFrom (acc.take i) (acc.drop i)))
                    case atStart => exact ⟨0, rfl, by omega, HS.out, HO.out, HRw.out, HB.out, rfl⟩
                    case round =>
                      clear HS HO HRw HB
                      obtain ⟨i2, rfl, hA⟩ := hrel
                      obtain ⟨hi2, hS, hO, hRw, hb, ht⟩ := hA.out
                      clear hA
                      have HS := Lib.hid hS
                      have HO := Lib.hid hO
                      have HRw := Lib.hid hRw
                      have HB := Lib.hid hb
                      have HT := Lib.hid ht
                      clear hS hO hRw hb ht
                      by_cases hlt : i2 < acc.length
                      · have hd2 : decide ((i2 : Int) < (acc.length : Int)) = true := by simp; omega
                        obtain ⟨y, hy⟩ : ∃ y, acc[i2]? = some y := ⟨_, List.getElem?_eq_getElem hlt⟩
                        obtain ⟨g2, rfl, c0, c1, c2⟩ := HRw.out i2 y hy
                        have Hy := Lib.hid hy
                        clear hy
                        go_wp2_with fail
                        have HXb := Lib.hid (Blk.new wr (tripC y) 33)
                        have hal2 : Below wr.heap.size wr (wr.alloc (.cells #[.string (bs y.1), .string (bs y.2.1), .string (bs y.2.2)] 33)) := (Below.refl _ _).alloc (Nat.le_refl _) _
                        have HLt := Lib.hid ((HRw.out.below hal2).take i2)
                        refine (has_33 y wr.heap.size _ cap2 i2 (acc.take i2) _ HXb.out HLt.out (by rw [List.length_take]; omega) (by rw [List.length_take]; omega)).mono ?_
                        rintro e w1 ⟨rfl, hb1⟩
                        have hb2 : Below wr.heap.size wr w1 := hal2.trans (hb1.mono (by simp))
                        have HB1 := Lib.hid (HB.out.trans (hb2.mono HB.out.size))
                        have HS1 := Lib.hid (HS.out.below hb2 HS.out.lt)
                        have HO1 := Lib.hid (OwnRow.below HO.out hb2)
                        have HR1 := Lib.hid (HRw.out.below hb2)
                        have hdl : acc.drop i2 = y :: acc.drop (i2 + 1) := by
                          have h2 := List.drop_eq_getElem_cons hlt
                          rw [List.getElem?_eq_getElem hlt] at Hy
                          have := Hy.out
                          injection this with this
                          rw [h2, this]
                        have hT1 : twiceP acc = ((acc.take i2).any (dup y) || twiceFrom (acc.take (i2 + 1)) (acc.drop (i2 + 1))) := by
                          rw [HT.out, hdl]
                          show (_ || _) = _
                          rw [List.take_add_one, Hy.out]
                          rfl
                        have HT1 := Lib.hid hT1
                        clear hb1 hb2 hal2 hdl hT1 c0 c1 c2
                        cases ha : (acc.take i2).any (dup y) with
                        | true =>
                          have HoF : Hid (o = .error 8) := by rw [Ho4.out, if_pos (by rw [HT1.out, ha]; rfl)]; rfl
                          clear ha
                          go_wp2_with fail
                          refine (must_no _ _).mono ?_
                          rintro e w2 ⟨rfl, rfl⟩
                          go_wp2
                          exact ⟨rfl, post_err HoF HB1.out⟩
                        | false =>
                          have HT2 : Hid (twiceP acc = twiceFrom (acc.take (i2 + 1)) (acc.drop (i2 + 1))) := by rw [HT1.out, ha]; rfl
                          clear ha
                          go_wp2_with fail
                          refine (must_ok _ _).mono ?_
                          rintro e w2 ⟨rfl, rfl⟩
                          go_wp2
                          go_roundg (acc.length - (i2 + 1))
                          case measure => omega
                          case rel => exact ⟨i2 + 1, by go_num, by omega, HS1.out, HO1.out, HR1.out, HB1.out, HT2.out⟩
                      · have hd2 : decide ((i2 : Int) < (acc.length : Int)) = false := by simp; omega
                        have ht0 : twiceP acc = false := by
                          rw [HT.out, List.drop_eq_nil_of_le (by omega)]
                          rfl
                        have Ho5 : Hid (o = .ok (f, acc)) := by rw [Ho4.out, if_neg (by rw [ht0]; decide)]; rfl
                        clear ht0
                        go_wp2
                        go_ret2
                        exact post_okS Ho5 rfl HB.out HS.out Hf.out.symm hwr HO.out
              · have hpE := bsN hp
                have hpI := bsI hp
                have hfE := bsE hfp
                have HoF : Hid (o = .error 12) := by rw [Ho2.out, if_neg (by simp [hp, hfp])]; rfl
                clear Ho2 hp hfp
                go_wp2_with fail
                refine (must_no _ _).mono ?_
                rintro e w1 ⟨rfl, rfl⟩
                go_wp2
                exact ⟨rfl, post_err HoF HB.out⟩
        · obtain ⟨x, ox, d, hx, hnx, hI2, hent⟩ := run_next_some wr (nb + 1) mb lm left HI.out hne 0
          have hlt := HS.out.lt
          obtain ⟨o2, hup, hS2⟩ := run_mapUpdate (setMap (wr.drewN d) (nb + 1) ox) nb c x.1 x.2 (by
            refine HS.out.move ?_
            exact (setMap_grown (wr.drewN d) (nb + 1) ox).block nb hlt (fun e => by injection e with e; omega))
          have hlt1 : nb + 1 < wr.heap.size := by
            obtain ⟨es, clock, seen, hb, he, hi, _⟩ := HI.out
            exact lt_of_block hi
          have hen := hent (setMap (wr.drewN d) (nb + 1) ox) (setMap_at ox hlt1) ((setMap_grown (wr.drewN d) (nb + 1) ox).block mb (by show mb < wr.heap.size; have := HB.out.size; omega) (fun e => by injection e with e; omega))
          have hnx2 : ∀ ty, (Instr.next (.pointer (some ⟨nb + 1, 0, none⟩)) false ty).run Tryz.prog wr = .ok (.tuple #[.bool true, .string (bs x.1), .string (bs x.2)]) (setMap (wr.drewN d) (nb + 1) ox) := fun ty => hnx
          have HS2 := Lib.hid hS2
          have HI2 : Hid (IT (setMap (setMap (wr.drewN d) (nb + 1) ox) nb o2) (nb + 1) mb lm (left.erase x)) := by
            refine hI2.move ?_ ?_
            · exact (setMap_grown _ nb o2).block (nb + 1) (by show nb + 1 < (wr.heap.setIfInBounds (nb + 1) ox).size; simpa using hlt1) (fun e => by injection e with e; omega)
            · exact (setMap_grown _ nb o2).block mb (by show mb < (wr.heap.setIfInBounds (nb + 1) ox).size; have := HB.out.size; simp; omega) (fun e => by injection e with e; omega)
          have HB2 : Hid (Below w.heap.size w (setMap (setMap (wr.drewN d) (nb + 1) ox) nb o2)) :=
            ((below_drewN HB.out d).grown (setMap_grown _ (nb + 1) ox) (by show w.heap.size ≤ wr.heap.size; exact HB.out.size) (fun k e => by injection e with e; omega)).grown (setMap_grown _ nb o2) (by show w.heap.size ≤ (wr.heap.setIfInBounds (nb + 1) ox).size; have := HB.out.size; simpa using this) (fun k e => by injection e with e; omega)
          have HX := Lib.hid hx
          have HNE := Lib.hid hne
          clear hS2 hI2 hnx hent hx hne
          go_wp2_with fail
          go_roundg (left.erase x).length
          case measure =>
            have := List.length_erase_of_mem HX.out
            have h2 := List.length_pos_of_mem HX.out
            have := HK.out
            omega
          case rel =>
            have hsub := HI.out.sub
            exact ⟨left.erase x, setL c x.1 x.2, HI2.out, HS2.out, HC.out.step HX.out hsub.2.1 hsub.2.2 (hsub.1 x HX.out), HB2.out, rfl⟩
end Go.Proofs.YtmiflgcjphcigaaGreatDoor
