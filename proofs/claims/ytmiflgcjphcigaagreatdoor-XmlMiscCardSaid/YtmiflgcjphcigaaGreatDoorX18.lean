/-
  A part of the proof of statements on the element reader of package xml (X18): lemmas on what its functions come to; their conditions stand in each theorem.
-/
import Derived.Test.YtmiflgcjphcigaaGreatDoorX18c
set_option linter.unusedVariables false
set_option linter.unusedSimpArgs false
namespace Go.Proofs.YtmiflgcjphcigaaGreatDoor
open Go.RowKit Go.Proofs.YtmiflgcjphcigaaGreatDoorW.PrintWords
set_option maxHeartbeats 4000000 in
set_option maxRecDepth 100000 in
theorem elem_any (k : Nat) (hk0 : k ≤ 1000000000) (IH : ContOK k) : ElemOK (k + 1) := by
  intro b s r m w mb lm deep hA hM hd hne
  obtain ⟨o, ho⟩ : ∃ o, o = elemQ (k + 1) (lookL lm) deep r m := ⟨_, rfl⟩
  rw [← ho] at hne ⊢
  rw [elemQ_succ] at ho
  have hbl : b < w.heap.size := hA.lt
  have hb5 := hA.b5
  have HE0 := Lib.hid (ESt.new hA)
  have HM := Lib.hid hM
  have Ho := Lib.hid ho
  have Hss := Lib.hid hA.sz
  have HIH := Lib.hid IH
  have hmb : mb ≠ b := by
    rintro rfl
    obtain ⟨es, cl, h1, _⟩ := hM
    obtain ⟨a, _, _, hR⟩ := hA.rd
    unfold Rd at hR
    rw [hR] at h1
    cases h1
  have hml := hM.lt
  clear hA hM ho IH
  go_enter Tryz.func33, Tryz.ntmps33
  go_wp2_with fail
  refine (has_any b s r m _ _ HE0.out.A).mono ?_
  rintro e w1 ⟨rfl, n1, rfl⟩
  rw [show Lib.hasPrefix r (⟨#[60]⟩ : ByteArray).data.toList = Lib.hasPrefix r [60] from rfl]
  have HE1 := Lib.hid (HE0.out.drewN n1)
  cases hp : Lib.hasPrefix r [60] with
  | false =>
    have HoF : Hid (o = .fail 10) := by rw [Ho.out, hp]; rfl
    clear hp Ho
    go_wp2_with fail
    refine (must_no _ _).mono ?_
    rintro e w2 ⟨rfl, rfl⟩
    go_wp2
    exact ⟨rfl, postE_fail HoF HE1.out.K⟩
  | true =>
    have Hr : Hid (r = 60 :: r.drop 1) := Lib.hid (prefix_split hp)
    have Hp := Lib.hid hp
    clear hp
    go_wp2_with fail
    refine (byteAt_any b s r m 1 _ HE1.out.A (by omega)).mono ?_
    rintro e w2 ⟨he, n2, rfl⟩
    obtain ⟨c, hc⟩ : ∃ c, c = r.getD 1 0 := ⟨_, rfl⟩
    rw [← hc] at he
    have Hc := Lib.hid hc
    clear hc
    subst he
    have HE2 := Lib.hid (HE0.out.drewN (n1 + n2))
    clear HE1 HE0
    go_wp2_with fail
    refine (isFirst_any _ _).mono ?_
    rintro e w3 ⟨rfl, rfl⟩
    cases hf : isFirstB c with
    | false =>
      have HoF : Hid (o = .fail 10) := by rw [Ho.out, Hp.out, ← Hc.out, hf]; rfl
      clear hf Ho Hc Hp Hr
      go_wp2_with fail
      refine (must_no _ _).mono ?_
      rintro e w3 ⟨rfl, rfl⟩
      go_wp2
      exact ⟨rfl, postE_fail HoF HE2.out.K⟩
    | true =>
      have Ho1 : Hid (o = elem1 k (lookL lm) deep r m) := by rw [Ho.out, Hp.out, ← Hc.out, hf]; rfl
      clear hf Ho Hc Hp
      go_wp2_with fail
      refine (must_ok _ _).mono ?_
      rintro e w3 ⟨rfl, rfl⟩
      --PART2
      obtain ⟨W1, hW1⟩ : ∃ W, W = (w.alloc (Obj.cells zeroE.toArray 26)).drewN (n1 + n2) := ⟨_, rfl⟩
      rw [← hW1] at HE2 ⊢
      clear hW1
      obtain ⟨a, ha, hra, hRd⟩ := HE2.out.A.rd
      have hc2 := hRd.c2
      have hf2 := hRd.fr 2
      have HST := Lib.hid (at_many HE2.out.A hRd ha hra)
      clear hRd hra
      by_cases hm : m < 16384
      · have hd1 : decide ((m : Int) < 16384) = true := by simp; omega
        by_cases hdp : deep ≤ 256
        · have hd2 : decide ((deep : Int) ≤ 256) = true := by simp; omega
          have Ho2 : Hid (o = (qualP (r.drop 1) (m + 1)).then fun pn r m => (attrsP (r.length + 1) [] r m).then fun l r m => elem2 k (lookL lm) deep pn l r m) := by rw [Ho1.out]; unfold elem1; rw [if_pos (by simp; omega)]; rfl
          go_wp2_with fail
          refine (must_ok _ _).mono ?_
          rintro e w3 ⟨rfl, rfl⟩
          go_wp2_with fail
          have HE3 := Lib.hid (HE2.out.kp hbl HST.out.1 HST.out.2)
          --PART3
          clear HST hc2 hf2 hd1 hd2 Ho1
          have HE3' : Hid (At (w3.setCell ⟨b, 2, none⟩ (.int .i64 ((m : Int) + 1))) b s ((⟨#[60]⟩ : ByteArray).data.toList ++ r.drop 1) (m + 1)) := by
            have h := HE3.out.A
            rw [Hr.out] at h
            exact h
          refine (wants_yes b s (r.drop 1) (m + 1) ⟨#[60]⟩ _ HE3'.out).mono ?_
          rintro e w4 ⟨rfl, hA4, hk4⟩
          have HE4 := Lib.hid (HE3.out.kp hbl hA4 hk4)
          clear hA4 hk4 HE3 HE3' HE2
          obtain ⟨r1, hr1⟩ : ∃ r1, r1 = r.drop 1 := ⟨_, rfl⟩
          rw [← hr1] at Ho2 HE4
          clear hr1 Hr
          go_wp2_with fail
          refine (qual_any b s r1 (m + 1) _ HE4.out.A).mono ?_
          intro e w5 hp
          cases h5 : qualP r1 (m + 1) with
          | unk => exact absurd (by rw [Ho2.out, h5]; rfl) hne
          | fail cc =>
            rw [h5] at hp
            obtain ⟨rfl, hk⟩ := hp
            have HoF : Hid (o = .fail cc) := by rw [Ho2.out, h5]; rfl
            clear h5 Ho2
            go_wp2
            exact ⟨rfl, postE_fail HoF (HE4.out.K.trans hk)⟩
          | ok pn r5 m5 =>
            rw [h5] at hp
            obtain ⟨he, hA5, hk5⟩ := hp
            replace he : e = .returned (.tuple #[.string (bs pn.1), .string (bs pn.2)]) := he
            subst he
            have Ho5 : Hid (o = (attrsP (r5.length + 1) [] r5 m5).then fun l r m => elem2 k (lookL lm) deep pn l r m) := by rw [Ho2.out, h5]; rfl
            have HE5 := Lib.hid (HE4.out.kp hbl hA5 hk5)
            clear hA5 hk5 h5 Ho2 HE4
            obtain ⟨pf, nm⟩ := pn
            have Hl5 : Hid (r5.length + 1 < 4294967283) := by have := rest_size HE5.out.A; exact Lib.hid (by omega)
            go_upto_block 0 with fail
            go_cut [9] from 48 to 78 (fun s9 wx => Aside (∃ r' m' l, ASt b s w wx r' m' s9 l ∧ l.length ≤ r5.length + 1 ∧ o = elem2 k (lookL lm) deep (pf, nm) l r' m'))
            case first =>
              go_wp2_with fail
              go_loopg [9] (r5.length + 1) (fun k1 s9 wx => Aside (∃ r' m' l, ASt b s w wx r' m' s9 l ∧ l.length + k1 ≤ r5.length + 1 ∧ o = (attrsP k1 l r' m').then fun l r m => elem2 k (lookL lm) deep (pf, nm) l r m))
              case atStart => exact ⟨r5, m5, [], ⟨HE5.out, OwnRow.none_ _ _ _ _ _⟩, by simp, Ho5.out⟩
              case round =>
                obtain ⟨r', m', l, hAS, hll, ho'⟩ := hrel.out
                clear hrel Ho5 HE5
                cases gk with
                | zero => exact absurd (by rw [ho']; rfl) hne
                | succ k1 =>
                  rw [attrsP_succ] at ho'
                  have Ho' := Lib.hid ho'
                  have HS := Lib.hid (hAS.drewN 1)
                  obtain ⟨r2, hr2⟩ : ∃ r2, r2 = r'.dropWhile isBlank := ⟨_, rfl⟩
                  rw [← hr2] at ho'
                  have Ho' := Lib.hid ho'
                  clear ho' hAS
                  cases hb : isBlank (r'.headD 0) with
                  | false =>
                    have hrr : r2 = r' := by rw [hr2]; exact dropWhile_stop r' hb
                    have Ho6 : Hid (o = elem2 k (lookL lm) deep (pf, nm) l r2 m') := by rw [Ho'.out, hb]; rfl
                    have Hb := Lib.hid hb
                    have Hr2 := Lib.hid hr2
                    clear hb Ho' hrr hr2
                    go_wp2_with fail
                    refine wp_region_any (by kernel_rfl) ?_
                    change wpAny _ _ _ _ _ _ _ (World.drew _)
                    refine wpAny_ready (rs := [0]) (by kernel_rfl) (by simp) ?_
                    refine AllReady.cons rfl (fun K hK => ?_) AllReady.nil
                    go_simp
                    refine hK _ _ ?_
                    clear hK K
                    refine wpAny_ready (rs := [1]) (by kernel_rfl) (by simp) ?_
                    refine AllReady.cons rfl (fun K hK => ?_) AllReady.nil
                    refine step_call rfl 50 #[.pointer (some ⟨b, 0, none⟩)] (by first | rfl | (go_simp; done) | simp [go_sem]) ?_
                    refine (blank_any b s r' m' _ HS.out.E.A).mono ?_
                    rintro e w6 ⟨rfl, hA6, hk6⟩
                    rw [Hb.out]
                    go_simp
                    refine hK _ _ ?_
                    clear hK K
                    refine StillG.mid 2 rfl (by kernel_rfl) (by kernel_rfl) ?_
                    simp only [List.drop_succ_cons, List.drop_zero]
                    refine StillG.want rfl (fun K hK => ?_); go_simp; refine hK _ ?_; clear hK K
                    iterate 10 (refine StillG.skip (by simp [Region.wanted, yielded, Act.put]) ?_)
                    iterate 2 (refine StillG.want rfl (fun K hK => ?_); go_simp; refine hK _ ?_; clear hK K)
                    iterate 10 (refine StillG.skip (by simp [Region.wanted, yielded, Act.put]) ?_)
                    refine StillG.want rfl (fun K hK => ?_); go_simp; refine hK _ ?_; clear hK K
                    refine StillG.nil ?_
                    have HS6 := Lib.hid (HS.out.kp hbl hA6 hk6)
                    clear hA6 hk6
                    go_wp2_with fail
                    go_meet
                    exact ⟨r2, m', l, by rw [Hr2.out]; exact HS6.out, by omega, Ho6.out⟩
                  | true =>
                    have Hb := Lib.hid hb
                    have Hr2 := Lib.hid hr2
                    clear hb hr2
                    cases r2 with
                    | nil =>
                      have Ho6 : Hid (o = elem2 k (lookL lm) deep (pf, nm) l [] m') := by rw [Ho'.out, Hb.out]; rfl
                      clear Ho'
                      go_wp2_with fail
                      refine wp_region_any (by kernel_rfl) ?_
                      change wpAny _ _ _ _ _ _ _ (World.drew _)
                      refine wpAny_ready (rs := [0]) (by kernel_rfl) (by simp) ?_
                      refine AllReady.cons rfl (fun K hK => ?_) AllReady.nil
                      go_simp
                      refine hK _ _ ?_
                      clear hK K
                      refine wpAny_ready (rs := [1]) (by kernel_rfl) (by simp) ?_
                      refine AllReady.cons rfl (fun K hK => ?_) AllReady.nil
                      refine step_call rfl 50 #[.pointer (some ⟨b, 0, none⟩)] (by first | rfl | (go_simp; done) | simp [go_sem]) ?_
                      refine (blank_any b s r' m' _ HS.out.E.A).mono ?_
                      rintro e w6 ⟨rfl, hA6, hk6⟩
                      rw [Hb.out]
                      go_simp
                      refine hK _ _ ?_
                      clear hK K
                      have HS6 := Lib.hid (HS.out.kp hbl hA6 hk6)
                      clear hA6 hk6
                      rw [← Hr2.out] at HS6
                      refine StillG.mid 2 rfl (by kernel_rfl) (by kernel_rfl) ?_
                      simp only [List.drop_succ_cons, List.drop_zero]
                      obtain ⟨a, ha, hra, hRd⟩ := HS6.out.E.A.rd
                      have hc0 := hRd.c0
                      have hc1 := hRd.c1
                      have hge : ¬ a < s.size := by have h := drop_len hra; rw [List.length_nil] at h; omega
                      have hd1 : decide ((a : Int) < (s.size : Int)) = false := by simp; omega
                      clear hRd hra
                      iterate 11 (refine StillG.want rfl (fun K hK => ?_); go_simp; refine hK _ ?_; clear hK K)
                      iterate 2 (refine StillG.want rfl (fun K hK => ?_); go_simp; refine hK _ ?_; clear hK K)
                      iterate 10 (refine StillG.skip (by simp [Region.wanted, yielded, Act.put]) ?_)
                      refine StillG.want rfl (fun K hK => ?_); go_simp; refine hK _ ?_; clear hK K
                      refine StillG.nil ?_
                      go_wp2_with fail
                      go_meet
                      exact ⟨[], m', l, HS6.out, by omega, Ho6.out⟩
                    | cons c2 r3 =>
                      cases hf : isFirstB c2 with
                      | false =>
                        have Ho6 : Hid (o = elem2 k (lookL lm) deep (pf, nm) l (c2 :: r3) m') := by rw [Ho'.out, Hb.out, List.headD_cons, hf]; rfl
                        have Hf := Lib.hid hf
                        clear Ho' hf
                        go_wp2_with fail
                        refine wp_region_any (by kernel_rfl) ?_
                        change wpAny _ _ _ _ _ _ _ (World.drew _)
                        refine wpAny_ready (rs := [0]) (by kernel_rfl) (by simp) ?_
                        refine AllReady.cons rfl (fun K hK => ?_) AllReady.nil
                        go_simp
                        refine hK _ _ ?_
                        clear hK K
                        refine wpAny_ready (rs := [1]) (by kernel_rfl) (by simp) ?_
                        refine AllReady.cons rfl (fun K hK => ?_) AllReady.nil
                        refine step_call rfl 50 #[.pointer (some ⟨b, 0, none⟩)] (by first | rfl | (go_simp; done) | simp [go_sem]) ?_
                        refine (blank_any b s r' m' _ HS.out.E.A).mono ?_
                        rintro e w6 ⟨rfl, hA6, hk6⟩
                        rw [Hb.out]
                        go_simp
                        refine hK _ _ ?_
                        clear hK K
                        have HS6 := Lib.hid (HS.out.kp hbl hA6 hk6)
                        clear hA6 hk6
                        rw [← Hr2.out] at HS6
                        refine StillG.mid 2 rfl (by kernel_rfl) (by kernel_rfl) ?_
                        simp only [List.drop_succ_cons, List.drop_zero]
                        obtain ⟨a, ha, hra, hRd⟩ := HS6.out.E.A.rd
                        have hc0 := hRd.c0
                        have hc1 := hRd.c1
                        have hlt : a < s.size := by have h := drop_len hra; rw [List.length_cons] at h; omega
                        have Hca : Hid (s[a] = c2) := by have h := rest_cons hra hlt; injection h with h _; exact Lib.hid h.symm
                        have hd1 : decide ((a : Int) < (s.size : Int)) = true := by simp; omega
                        clear hRd hra
                        iterate 13 (refine StillG.want rfl (fun K hK => ?_); go_simp; refine hK _ ?_; clear hK K)
                        iterate 9 (refine StillG.want rfl (fun K hK => ?_); go_simp; refine hK _ ?_; clear hK K)
                        refine StillG.want rfl (fun K hK => ?_); go_simp; refine ⟨_, isFirst_any _ _, hK _ ?_⟩; clear hK K
                        rw [Hca.out, Hf.out]
                        refine StillG.want rfl (fun K hK => ?_); go_simp; refine hK _ ?_; clear hK K
                        refine StillG.nil ?_
                        go_wp2_with fail
                        go_meet
                        exact ⟨c2 :: r3, m', l, HS6.out, by omega, Ho6.out⟩
                      | true =>
                        have Ho6 : Hid (o = ((attrP (c2 :: r3) m').then fun x r m => attrsP k1 (l ++ [x]) r m).then fun l r m => elem2 k (lookL lm) deep (pf, nm) l r m) := by rw [Ho'.out, Hb.out, List.headD_cons, hf]; rfl
                        have Hf := Lib.hid hf
                        clear Ho' hf
                        go_wp2_with fail
                        refine wp_region_any (by kernel_rfl) ?_
                        change wpAny _ _ _ _ _ _ _ (World.drew _)
                        refine wpAny_ready (rs := [0]) (by kernel_rfl) (by simp) ?_
                        refine AllReady.cons rfl (fun K hK => ?_) AllReady.nil
                        go_simp
                        refine hK _ _ ?_
                        clear hK K
                        refine wpAny_ready (rs := [1]) (by kernel_rfl) (by simp) ?_
                        refine AllReady.cons rfl (fun K hK => ?_) AllReady.nil
                        refine step_call rfl 50 #[.pointer (some ⟨b, 0, none⟩)] (by first | rfl | (go_simp; done) | simp [go_sem]) ?_
                        refine (blank_any b s r' m' _ HS.out.E.A).mono ?_
                        rintro e w6 ⟨rfl, hA6, hk6⟩
                        rw [Hb.out]
                        go_simp
                        refine hK _ _ ?_
                        clear hK K
                        have HS6 := Lib.hid (HS.out.kp hbl hA6 hk6)
                        clear hA6 hk6
                        rw [← Hr2.out] at HS6
                        refine StillG.mid 2 rfl (by kernel_rfl) (by kernel_rfl) ?_
                        simp only [List.drop_succ_cons, List.drop_zero]
                        obtain ⟨a, ha, hra, hRd⟩ := HS6.out.E.A.rd
                        have hc0 := hRd.c0
                        have hc1 := hRd.c1
                        have hlt : a < s.size := by have h := drop_len hra; rw [List.length_cons] at h; omega
                        have Hca : Hid (s[a] = c2) := by have h := rest_cons hra hlt; injection h with h _; exact Lib.hid h.symm
                        have hd1 : decide ((a : Int) < (s.size : Int)) = true := by simp; omega
                        clear hRd hra
                        iterate 13 (refine StillG.want rfl (fun K hK => ?_); go_simp; refine hK _ ?_; clear hK K)
                        iterate 9 (refine StillG.want rfl (fun K hK => ?_); go_simp; refine hK _ ?_; clear hK K)
                        refine StillG.want rfl (fun K hK => ?_); go_simp; refine ⟨_, isFirst_any _ _, hK _ ?_⟩; clear hK K
                        rw [Hca.out, Hf.out]
                        refine StillG.want rfl (fun K hK => ?_); go_simp; refine hK _ ?_; clear hK K
                        refine StillG.nil ?_
                        clear hc0 hc1 hd1 HS
                        have hne2 : attrP (c2 :: r3) m' ≠ .unk := fun h => hne (by rw [Ho6.out, h]; rfl)
                        go_wp2_with fail
                        refine (attr_any b s (c2 :: r3) m' _ HS6.out.E.A hne2).mono ?_
                        intro e w7 hp
                        cases h7 : attrP (c2 :: r3) m' with
                        | unk => exact absurd h7 hne2
                        | fail cc =>
                          rw [h7] at hp
                          obtain ⟨rfl, hk⟩ := hp
                          have HoF : Hid (o = .fail cc) := by rw [Ho6.out, h7]; rfl
                          clear h7 Ho6
                          go_wp2
                          exact ⟨rfl, postE_fail HoF (HS6.out.E.K.trans hk)⟩
                        | ok x r7 m7 =>
                          rw [h7] at hp
                          obtain ⟨he, hA7, hk7⟩ := hp
                          have Ho7 : Hid (o = (attrsP k1 (l ++ [x]) r7 m7).then fun l r m => elem2 k (lookL lm) deep (pf, nm) l r m) := by rw [Ho6.out, h7]; rfl
                          have HS7 := Lib.hid (HS6.out.kp hbl hA7 hk7)
                          clear hA7 hk7 h7 Ho6 HS6 hne2
                          obtain ⟨x1, x2, x3⟩ := x
                          replace he : e = .returned (.agg #[.string (bs x1), .string (bs x2), .string (bs x3)]) := he
                          subst he
                          have HO := Lib.hid HS7.out.O
                          obtain ⟨A, cap, rfl, hcap⟩ := HO.out.slice_
                          have hwz : w.heap.size + 1 ≤ w7.heap.size := HS7.out.E.R.lt
                          go_wp2_with (at_builtin; go_loud (refine append_at (w0 := w7) (W := w7) (R := fun p cs => cs = tripC p) (w.heap.size + 1) w7.heap.size rfl (.tmp 74) (.tmp 77) 75 77 (.agg #[.string ⟨#[]⟩, .string ⟨#[]⟩, .string ⟨#[]⟩]) 3 48 rfl Tryz.underlying75 (by kernel_rfl) rfl (by decide) (by decide) _ l (x1, x2, x3) [.string (bs x1), .string (bs x2), .string (bs x3)] rfl rfl rfl rfl rfl (by simp [Value.oneCell']) HO.out (Below.refl _ _) hwz (by have := Hl5.out; omega) ?_); intro v8 w8 hO8 hb8 hg8 hat8)
                          have HS8 := Lib.hid (HS7.out.grew hbl hO8 hb8)
                          clear hO8 hb8 hg8 hat8 HO
                          go_wp2_with fail
                          go_roundg k1
                          case measure => omega
                          case rel => exact ⟨r7, m7, l ++ [(x1, x2, x3)], HS8.out, by rw [List.length_append]; simp; omega, Ho7.out⟩
            case rest =>
              obtain ⟨r9, m9, l, hAS, hll, ho9⟩ := hcut.out
              clear hcut Ho5 HE5
              have HS := Lib.hid hAS
              have Ho9 := Lib.hid ho9
              clear hAS ho9
              obtain ⟨A, cap, rfl, hcap, _⟩ := own_rwn HS.out.O
              have hln : l.length ≤ 4294967296 := by have := Hl5.out; omega
              cases hp : Lib.hasPrefix r9 [47, 62] with
              | true =>
                have Ho10 : Hid (o = match spacedP (lookL lm) pf l with
                    | .error e => .fail e
                    | .ok (g, a) => .ok (.mk (g pf) nm [] a []) (r9.drop 2) m9) := by rw [Ho9.out]; unfold elem2; rw [if_pos hp]; exact Lib.hid rfl
                have HA' : Hid (At wc b s ((⟨#[47, 62]⟩ : ByteArray).data.toList ++ r9.drop 2) m9) := by
                  have h := HS.out.E.A
                  rw [prefix_split hp] at h
                  exact Lib.hid h
                clear hp Ho9
                go_wp2_with fail
                refine (take_yes b s (r9.drop 2) m9 ⟨#[47, 62]⟩ _ HA'.out).mono ?_
                rintro e w10 ⟨rfl, hA10, hk10⟩
                have HS10 := Lib.hid (HS.out.kp hbl hA10 hk10)
                clear hA10 hk10 HS HA'
                go_wp2_with fail
                refine (spaced_any _ mb lm pf l A cap (ASt.sm HS10.out.E HM.out hmb) (own_rwn' HS10.out.O) hcap hln).mono ?_
                rintro e w11 ⟨hb11, hp⟩
                have HE11 := Lib.hid (HS10.out.E.below hbl hb11)
                have hz11 : w.heap.size ≤ w10.heap.size := HS10.out.E.K.size
                clear hb11 HS10
                cases h11 : spacedP (lookL lm) pf l with
                | error cc =>
                  have HoF : Hid (o = .fail cc) := by rw [Ho10.out, h11]; exact Lib.hid rfl
                  rw [h11] at hp
                  clear h11 Ho10
                  obtain rfl : e = .panicked (failure cc) := hp
                  go_wp2
                  exact ⟨rfl, postE_fail HoF HE11.out.K⟩
                | ok ga =>
                  obtain ⟨g, at_⟩ := ga
                  have Ho11 : Hid (o = .ok (.mk (g pf) nm [] at_ []) (r9.drop 2) m9) := by rw [Ho10.out, h11]; exact Lib.hid rfl
                  rw [h11] at hp
                  clear h11 Ho10
                  obtain ⟨mb2, l2, va, rfl, hM2, hg2, hmz, hO2⟩ := hp
                  obtain ⟨A2, c2, rfl, _, _⟩ := own_rwn hO2
                  have Hlk := run_lookup w11 mb2 l2 pf hM2
                  rw [hg2] at Hlk
                  have HM2 := Lib.hid hM2
                  have HO2 := Lib.hid hO2
                  have Hg2 := Lib.hid hg2
                  clear hM2 hg2 hO2
                  have HE12 := Lib.hid (HE11.out.alloc (.cells #[.string (bs (g pf)), .string (bs nm), .string ⟨#[]⟩, .slice A2 at_.length c2, .slice none 0 0] 26))
                  have q0 := HE12.out.c0
                  have q1 := HE12.out.c1
                  have q2 := HE12.out.c2
                  have q3 := HE12.out.c3
                  have q4 := HE12.out.c4
                  have f0 := HE12.out.R.fr 0
                  have f1 := HE12.out.R.fr 1
                  have f2 := HE12.out.R.fr 2
                  have f3 := HE12.out.R.fr 3
                  have f4 := HE12.out.R.fr 4
                  go_wp2
                  have hfin := HE12.out.fin hbl (.string (bs (g pf))) (.string (bs nm)) (.string ⟨#[]⟩) (.slice A2 at_.length c2) (.slice none 0 0)
                  refine bodyPost_ret (v := .agg #[.string (bs (g pf)), .string (bs nm), .string ⟨#[]⟩, .slice A2 at_.length c2, .slice none 0 0]) ?_ rfl (postE_ok (cs := [.string (bs (g pf)), .string (bs nm), .string ⟨#[]⟩, .slice A2 at_.length c2, .slice none 0 0]) Ho11 (leaf_isE (base := w10.heap.size) (HO2.out.move fun k c hk => Below.heap_alloc _ _ k (lt_of_block hk)) hz11 HE12.out.R) hfin.1 hfin.2.1)
                  exact results_cell rfl rfl hfin.2.2 rfl rfl rfl
              | false =>
                have Ho10 : Hid (o = (wantP [62] r9 m9).then fun _ r m => elem3 k (lookL lm) deep (pf, nm) l r m) := by rw [Ho9.out]; unfold elem2; rw [if_neg (by rw [hp]; decide)]; exact Lib.hid rfl
                clear Ho9
                go_wp2_with fail
                refine (take_no b s r9 m9 ⟨#[47, 62]⟩ _ HS.out.E.A hp).mono ?_
                rintro e w10 ⟨rfl, hA10, hk10⟩
                have HS10 := Lib.hid (HS.out.kp hbl hA10 hk10)
                clear hA10 hk10 HS hp
                go_wp2_with fail
                refine (wants_any b s r9 m9 _ ⟨#[62]⟩ HS10.out.E.A).mono ?_
                intro e w11 hp
                rw [show wantP (⟨#[62]⟩ : ByteArray).data.toList r9 m9 = wantP [62] r9 m9 from rfl] at hp
                cases h11 : wantP [62] r9 m9 with
                | unk => exact absurd (by rw [Ho10.out, h11]; rfl) hne
                | fail cc =>
                  rw [h11] at hp
                  obtain ⟨rfl, hk⟩ := hp
                  have HoF : Hid (o = .fail cc) := by rw [Ho10.out, h11]; exact Lib.hid rfl
                  clear h11 Ho10
                  go_wp2
                  exact ⟨rfl, postE_fail HoF (HS10.out.E.K.trans hk)⟩
                | ok uu r11 m11 =>
                  rw [h11] at hp
                  obtain ⟨he, hA11, hk11⟩ := hp
                  replace he : e = .returned (.tuple #[]) := he
                  subst he
                  have Ho11 : Hid (o = elem3 k (lookL lm) deep (pf, nm) l r11 m11) := by rw [Ho10.out, h11]; exact Lib.hid rfl
                  have HS11 := Lib.hid (HS10.out.kp hbl hA11 hk11)
                  clear hA11 hk11 h11 Ho10 HS10
                  go_wp2_with fail
                  refine (spaced_any _ mb lm pf l A cap (ASt.sm HS11.out.E HM.out hmb) (own_rwn' HS11.out.O) hcap hln).mono ?_
                  rintro e w12 ⟨hb12, hp⟩
                  have HE12 := Lib.hid (HS11.out.E.below hbl hb12)
                  have hz12 : w.heap.size ≤ w11.heap.size := HS11.out.E.K.size
                  have hz12b : w11.heap.size ≤ w12.heap.size := hb12.size
                  have hz12c : w.heap.size < w11.heap.size := HS11.out.E.R.lt
                  clear hb12 HS11
                  cases h12 : spacedP (lookL lm) pf l with
                  | error cc =>
                    have HoF : Hid (o = .fail cc) := by rw [Ho11.out]; unfold elem3; rw [h12]; exact Lib.hid rfl
                    rw [h12] at hp
                    clear h12 Ho11
                    obtain rfl : e = .panicked (failure cc) := hp
                    go_wp2
                    exact ⟨rfl, postE_fail HoF HE12.out.K⟩
                  | ok ga =>
                    obtain ⟨g, at_⟩ := ga
                    have Ho12 : Hid (o = (contQ k g deep [] [] r11 m11).then fun kids r m => (wantP [60, 47] r m).then fun _ r m => (qualP r m).then fun qn r m =>
                        if qn.1 == pf && qn.2 == nm then (wantP [62] (r.dropWhile isBlank) m).then fun _ r m => .ok (.mk (g pf) nm [] at_ kids) r m else .fail 10) := by rw [Ho11.out]; unfold elem3; rw [h12]; exact Lib.hid rfl
                    rw [h12] at hp
                    clear h12 Ho11
                    obtain ⟨mb2, l2, va, rfl, hM2, hg2, hmz, hO2⟩ := hp
                    obtain ⟨A2, c2, rfl, _, _⟩ := own_rwn hO2
                    have Hlk := run_lookup w12 mb2 l2 pf hM2
                    rw [hg2] at Hlk
                    rw [← hg2] at Ho12
                    have HM2 := Lib.hid hM2
                    have HO2 := Lib.hid hO2
                    have Hg2 := Lib.hid hg2
                    clear hM2 hg2 hO2
                    obtain ⟨sp, hsp⟩ : ∃ sp, sp = g pf := ⟨_, rfl⟩
                    rw [← hsp] at Hlk
                    rw [← show sp = lookL l2 pf by rw [hsp, Hg2.out]] at Ho12
                    clear hsp Hg2
                    go_wp2_with fail
                    have HE13 := Lib.hid (HE12.out.alloc (.cells #[.string (bs sp), .string (bs nm), .string ⟨#[]⟩, .slice A2 at_.length c2, .slice none 0 0] 26))
                    have HX13 := Lib.hid (Blk.new w12 [.string (bs sp), .string (bs nm), .string ⟨#[]⟩, .slice A2 at_.length c2, .slice none 0 0] 26)
                    have HO13 : Hid (OwnT 33 (w12.alloc (.cells #[.string (bs sp), .string (bs nm), .string ⟨#[]⟩, .slice A2 at_.length c2, .slice none 0 0] 26)) w11.heap.size (.slice A2 at_.length c2) at_) := Lib.hid (HO2.out.move fun k c hk => Below.heap_alloc _ _ k (lt_of_block hk))
                    have HM13 : Hid (SM (w12.alloc (.cells #[.string (bs sp), .string (bs nm), .string ⟨#[]⟩, .slice A2 at_.length c2, .slice none 0 0] 26)) mb2 l2) := Lib.hid (HM2.out.move (Below.heap_alloc _ _ _ HM2.out.lt))
                    clear HE12 HM2 HO2 Hlk
                    have hne2 : contQ k (lookL l2) deep [] [] r11 m11 ≠ .unk := fun h => hne (by rw [Ho12.out, h]; rfl)
                    refine (HIH.out b s r11 m11 _ mb2 l2 deep HE13.out.A HM13.out hdp hne2).mono ?_
                    intro e w14 hp
                    cases h14 : contQ k (lookL l2) deep [] [] r11 m11 with
                    | unk => exact absurd h14 hne2
                    | fail cc =>
                      rw [h14] at hp
                      obtain ⟨rfl, hk⟩ := hp
                      have HoF : Hid (o = .fail cc) := by rw [Ho12.out, h14]; exact Lib.hid rfl
                      clear h14 Ho12 hne2
                      go_wp2
                      exact ⟨rfl, postE_fail HoF (HE13.out.K.trans hk)⟩
                    | ok kids r14 m14 =>
                      rw [h14] at hp
                      obtain ⟨v, rfl, hN, hkl, hA14, hk14⟩ := hp
                      have hbx : w12.heap.size ≠ b := by omega
                      have Ho14 : Hid (o = (wantP [60, 47] r14 m14).then fun _ r m => (qualP r m).then fun qn r m =>
                        if qn.1 == pf && qn.2 == nm then (wantP [62] (r.dropWhile isBlank) m).then fun _ r m => .ok (.mk sp nm [] at_ kids) r m else .fail 10) := by rw [Ho12.out, h14]; exact Lib.hid rfl
                      rw [st_alloc_size] at hN
                      have HF14 : Hid (FSt b s w w14 r14 m14 w12.heap.size w11.heap.size (w12.heap.size + 1) [.string (bs sp), .string (bs nm), .string ⟨#[]⟩, .slice A2 at_.length c2, .slice none 0 0] (.slice A2 at_.length c2) at_ v kids) :=
                        Lib.hid ⟨HE13.out.kp hbl hA14 hk14, HX13.out.kp hk14 hbx, HO13.out.kp (by decide) HE13.out.A hk14, hN⟩
                      obtain ⟨A3, c3, rfl⟩ : ∃ A3 c3, v = .slice A3 kids.length c3 := by
                        obtain ⟨inner, ho, _⟩ := hN
                        exact own_slice ho
                      clear h14 Ho12 hne2 hN hA14 hk14 HE13 HX13 HO13 HM13
                      have q4 := HF14.out.X.cell 4
                      have f4 := HF14.out.X.fr 4
                      go_wp2_with fail
                      have hxz : w.heap.size < w12.heap.size := by omega
                      have HF15 := Lib.hid (HF14.out.set hbl hxz (Nat.lt_succ_self _) 4 (.slice A3 kids.length c3))
                      clear HF14 q4 f4
                      rw [show ([.string (bs sp), .string (bs nm), .string ⟨#[]⟩, .slice A2 at_.length c2, .slice none 0 0] : List Value).set 4 (.slice A3 kids.length c3) = [.string (bs sp), .string (bs nm), .string ⟨#[]⟩, .slice A2 at_.length c2, .slice A3 kids.length c3] from rfl] at HF15
                      refine (wants_any b s r14 m14 _ ⟨#[60, 47]⟩ HF15.out.E.A).mono ?_
                      intro e w16 hp
                      rw [show wantP (⟨#[60, 47]⟩ : ByteArray).data.toList r14 m14 = wantP [60, 47] r14 m14 from rfl] at hp
                      cases h16 : wantP [60, 47] r14 m14 with
                      | unk => exact absurd (by rw [Ho14.out, h16]; rfl) hne
                      | fail cc =>
                        rw [h16] at hp
                        obtain ⟨rfl, hk⟩ := hp
                        have HoF : Hid (o = .fail cc) := by rw [Ho14.out, h16]; exact Lib.hid rfl
                        clear h16 Ho14
                        go_wp2
                        exact ⟨rfl, postE_fail HoF (HF15.out.E.K.trans hk)⟩
                      | ok uu r16 m16 =>
                        rw [h16] at hp
                        obtain ⟨he, hA16, hk16⟩ := hp
                        replace he : e = .returned (.tuple #[]) := he
                        subst he
                        have Ho16 : Hid (o = (qualP r16 m16).then fun qn r m =>
                          if qn.1 == pf && qn.2 == nm then (wantP [62] (r.dropWhile isBlank) m).then fun _ r m => .ok (.mk sp nm [] at_ kids) r m else .fail 10) := by rw [Ho14.out, h16]; exact Lib.hid rfl
                        have HF16 := Lib.hid (HF15.out.kp hbl hbx hA16 hk16)
                        clear hA16 hk16 h16 Ho14 HF15
                        go_wp2_with fail
                        refine (qual_any b s r16 m16 _ HF16.out.E.A).mono ?_
                        intro e w17 hp
                        cases h17 : qualP r16 m16 with
                        | unk => exact absurd (by rw [Ho16.out, h17]; rfl) hne
                        | fail cc =>
                          rw [h17] at hp
                          obtain ⟨rfl, hk⟩ := hp
                          have HoF : Hid (o = .fail cc) := by rw [Ho16.out, h17]; exact Lib.hid rfl
                          clear h17 Ho16
                          go_wp2
                          exact ⟨rfl, postE_fail HoF (HF16.out.E.K.trans hk)⟩
                        | ok qn r17 m17 =>
                          rw [h17] at hp
                          obtain ⟨he, hA17, hk17⟩ := hp
                          obtain ⟨qf, qm⟩ := qn
                          replace he : e = .returned (.tuple #[.string (bs qf), .string (bs qm)]) := he
                          subst he
                          have Ho17 : Hid (o = if qf == pf && qm == nm then (wantP [62] (r17.dropWhile isBlank) m17).then fun _ r m => .ok (.mk sp nm [] at_ kids) r m else .fail 10) := by rw [Ho16.out, h17]; exact Lib.hid rfl
                          have HF17 := Lib.hid (HF16.out.kp hbl hbx hA17 hk17)
                          clear hA17 hk17 h17 Ho16 HF16
                          by_cases hq : qf = pf
                          · subst hq
                            by_cases hq2 : qm = nm
                            · subst hq2
                              have Ho18 : Hid (o = (wantP [62] (r17.dropWhile isBlank) m17).then fun _ r m => .ok (.mk sp qm [] at_ kids) r m) := by rw [Ho17.out, if_pos (by simp)]; exact Lib.hid rfl
                              clear Ho17
                              go_wp2_with fail
                              refine (must_ok _ _).mono ?_
                              rintro e w18 ⟨rfl, rfl⟩
                              go_wp2_with fail
                              refine (blank_any b s r17 m17 _ HF17.out.E.A).mono ?_
                              rintro e w19 ⟨rfl, hA19, hk19⟩
                              have HF19 := Lib.hid (HF17.out.kp hbl hbx hA19 hk19)
                              obtain ⟨r19, hr19⟩ : ∃ r19, r19 = r17.dropWhile isBlank := ⟨_, rfl⟩
                              rw [← hr19] at HF19 Ho18
                              clear hA19 hk19 HF17 hr19
                              go_wp2_with fail
                              refine (wants_any b s r19 m17 _ ⟨#[62]⟩ HF19.out.E.A).mono ?_
                              intro e w20 hp
                              rw [show wantP (⟨#[62]⟩ : ByteArray).data.toList r19 m17 = wantP [62] r19 m17 from rfl] at hp
                              cases h20 : wantP [62] r19 m17 with
                              | unk => exact absurd (by rw [Ho18.out, h20]; rfl) hne
                              | fail cc =>
                                rw [h20] at hp
                                obtain ⟨rfl, hk⟩ := hp
                                have HoF : Hid (o = .fail cc) := by rw [Ho18.out, h20]; exact Lib.hid rfl
                                clear h20 Ho18
                                go_wp2
                                exact ⟨rfl, postE_fail HoF (HF19.out.E.K.trans hk)⟩
                              | ok uu2 r20 m20 =>
                                rw [h20] at hp
                                obtain ⟨he, hA20, hk20⟩ := hp
                                replace he : e = .returned (.tuple #[]) := he
                                subst he
                                have Ho20 : Hid (o = .ok (.mk sp qm [] at_ kids) r20 m20) := by rw [Ho18.out, h20]; exact Lib.hid rfl
                                have HF20 := Lib.hid (HF19.out.kp hbl hbx hA20 hk20)
                                clear hA20 hk20 h20 Ho18 HF19
                                have q0 := HF20.out.E.c0
                                have q1 := HF20.out.E.c1
                                have q2 := HF20.out.E.c2
                                have q3 := HF20.out.E.c3
                                have q4 := HF20.out.E.c4
                                have f0 := HF20.out.E.R.fr 0
                                have f1 := HF20.out.E.R.fr 1
                                have f2 := HF20.out.E.R.fr 2
                                have f3 := HF20.out.E.R.fr 3
                                have f4 := HF20.out.E.R.fr 4
                                have x0 : w20.cell? ⟨w12.heap.size, 0, none⟩ = some (.string (bs sp)) := HF20.out.X.cell 0
                                have x1 : w20.cell? ⟨w12.heap.size, 1, none⟩ = some (.string (bs qm)) := HF20.out.X.cell 1
                                have x2 : w20.cell? ⟨w12.heap.size, 2, none⟩ = some (.string ⟨#[]⟩) := HF20.out.X.cell 2
                                have x3 : w20.cell? ⟨w12.heap.size, 3, none⟩ = some (.slice A2 at_.length c2) := HF20.out.X.cell 3
                                have x4 : w20.cell? ⟨w12.heap.size, 4, none⟩ = some (.slice A3 kids.length c3) := HF20.out.X.cell 4
                                go_wp2
                                have hfin := HF20.out.E.fin hbl (.string (bs sp)) (.string (bs qm)) (.string ⟨#[]⟩) (.slice A2 at_.length c2) (.slice A3 kids.length c3)
                                refine bodyPost_ret (v := .agg #[.string (bs sp), .string (bs qm), .string ⟨#[]⟩, .slice A2 at_.length c2, .slice A3 kids.length c3]) ?_ rfl (postE_ok (cs := [.string (bs sp), .string (bs qm), .string ⟨#[]⟩, .slice A2 at_.length c2, .slice A3 kids.length c3]) Ho20 (kids_isE HF20.out.O hz12 HF20.out.N (by omega) (by omega) HF20.out.E.R) hfin.1 hfin.2.1)
                                exact results_cell rfl rfl hfin.2.2 rfl rfl rfl
                            · have HoF : Hid (o = .fail 10) := by rw [Ho17.out, if_neg (by simp [hq2])]; exact Lib.hid rfl
                              have hs2 : ((bs qm).toList == (bs nm).toList) = false := by rw [bs_toList, bs_toList]; exact beq_eq_false_iff_ne.2 hq2
                              clear Ho17 hq2
                              go_wp2_with fail
                              refine (must_no _ _).mono ?_
                              rintro e w18 ⟨rfl, rfl⟩
                              go_wp2
                              exact ⟨rfl, postE_fail HoF HF17.out.E.K⟩
                          · have HoF : Hid (o = .fail 10) := by rw [Ho17.out, if_neg (by simp [hq])]; exact Lib.hid rfl
                            have hs2 : ((bs qf).toList == (bs pf).toList) = false := by rw [bs_toList, bs_toList]; exact beq_eq_false_iff_ne.2 hq
                            clear Ho17 hq
                            go_wp2_with fail
                            refine (must_no _ _).mono ?_
                            rintro e w18 ⟨rfl, rfl⟩
                            go_wp2
                            exact ⟨rfl, postE_fail HoF HF17.out.E.K⟩
        · have hd2 : decide ((deep : Int) ≤ 256) = false := by simp; omega
          have HoF : Hid (o = .fail 6) := by rw [Ho1.out]; unfold elem1; rw [if_neg (by simp; omega)]; rfl
          go_wp2_with fail
          refine (must_no _ _).mono ?_
          rintro e w3 ⟨rfl, rfl⟩
          go_wp2
          exact ⟨rfl, postE_fail HoF HE2.out.K⟩
      · have hd1 : decide ((m : Int) < 16384) = false := by simp; omega
        have HoF : Hid (o = .fail 6) := by rw [Ho1.out]; unfold elem1; rw [if_neg (by simp; omega)]; rfl
        go_wp2_with fail
        refine (must_no _ _).mono ?_
        rintro e w3 ⟨rfl, rfl⟩
        go_wp2
        exact ⟨rfl, postE_fail HoF HE2.out.K⟩
end Go.Proofs.YtmiflgcjphcigaaGreatDoor
