/-
  A part of the proof of statements on the element reader of package xml (X17): lemmas on what its functions come to; their conditions stand in each theorem.
-/
import Derived.Test.YtmiflgcjphcigaaGreatDoorX16b
set_option linter.unusedVariables false
set_option linter.unusedSimpArgs false
namespace Go.Proofs.YtmiflgcjphcigaaGreatDoor
open Go.RowKit Go.Proofs.YtmiflgcjphcigaaGreatDoorW.PrintWords
def tailQ (k : Nat) (f : Sc) (deep : Nat) (l : List E) (acc : B) : B → Nat → Out (List E)
  | [], _ => .unk
  | c :: r', m => if Lib.hasPrefix (c :: r') [93, 93, 62] then .unk else contQ k f deep l (acc ++ [c]) r' m
theorem contQ_succ (k : Nat) (f : Sc) (deep : Nat) (l : List E) (acc r : B) (m : Nat) : contQ (k + 1) f deep l acc r m =
    if Lib.hasPrefix r [60, 47] then .ok (flushP' acc l) r m else
    if Lib.hasPrefix r [60, 33, 45, 45] then .unk else
    if Lib.hasPrefix r [60, 63] then .unk else
    if Lib.hasPrefix r [60, 33, 91, 67, 68, 65, 84, 65, 91] then .unk else
    if Lib.hasPrefix r [60] then (elemQ k f (deep + 1) r m).then fun x r m => contQ k f deep (flushP' acc l ++ [x]) [] r m else
    if Lib.hasPrefix r [38] then .unk else
    tailQ k f deep l acc r m := by cases r <;> rfl
theorem CSt.new {b : Nat} {s : ByteArray} {r : B} {m : Nat} {w : World} (hA : At w b s r m) :
    CSt b s w w.heap.size w.heap.size (w.heap.size + 1) ((w.alloc (.cells #[.slice none 0 0] 24)).alloc (.cells #[.pointer none, .slice none 0 0] 86)) r m [] (.slice none 0 0) [] := by
  have h := heap_alloc_new (w.alloc (.cells #[.slice none 0 0] 24)) (.cells #[.pointer none, .slice none 0 0] 86)
  have e : (w.alloc (.cells #[.slice none 0 0] 24)).heap.size = w.heap.size + 1 := by simp
  rw [e] at h
  exact { A := (hA.alloc _).alloc _, K := ((Kp.refl b w).alloc _).alloc _, L := (Blk.new w [.slice none 0 0] 24).alloc _, S := .inl ⟨by omega, .slice none 0 0, h, World.ownsRowF_nil _ _ _ _, by simp [Value.ownBlock]⟩, N := Kids.nil _ _, z := by simp; omega }
theorem st_alloc_size (w : World) (o : Obj) : (w.alloc o).heap.size = w.heap.size + 1 := by simp
set_option maxHeartbeats 4000000 in
set_option maxRecDepth 100000 in
theorem cont_any (k0 : Nat) (hk0 : k0 ≤ 1000000000) (IH : ∀ k1, k1 < k0 → ElemOK k1) : ContOK k0 := by
  intro b s r m w mb lm deep hA hM hd hne
  obtain ⟨o, ho⟩ : ∃ o, o = contQ k0 (lookL lm) deep [] [] r m := ⟨_, rfl⟩
  rw [← ho] at hne ⊢
  have hbl : b < w.heap.size := hA.lt
  have HC0 := Lib.hid (CSt.new hA)
  have HM := Lib.hid hM
  have Ho := Lib.hid ho
  have hrs : r.length ≤ s.size := by
    obtain ⟨a, _, hr, _⟩ := hA.rd
    have := drop_len hr
    omega
  have Hrs := Lib.hid hrs
  have hss := hA.sz
  have Hss := Lib.hid hss
  have HIH := Lib.hid IH
  have hmb : mb ≠ b := by
    rintro rfl
    obtain ⟨es, cl, h1, _⟩ := hM
    obtain ⟨a, _, _, hR⟩ := hA.rd
    unfold Rd at hR
    rw [hR] at h1
    cases h1
  have hml := hM.lt
  clear hA hM ho hrs hss IH
  go_enter Tryz.func57, Tryz.ntmps57
  go_wp2_with fail
  go_loopg [] k0 (fun k wr => Aside (∃ r' m' acc vl l, CSt b s w w.heap.size w.heap.size (w.heap.size + 1) wr r' m' acc vl l ∧ acc.length + r'.length ≤ s.size ∧ l.length + 2 * k ≤ 2 * k0 ∧ k ≤ k0 ∧ o = contQ k (lookL lm) deep l acc r' m'))
  case atStart => exact ⟨r, m, [], _, [], HC0.out, by simpa using Hrs.out, by simp, by omega, Ho.out⟩
  case round =>
    obtain ⟨r', m', acc, vl, l, hC, hal, hll, hkk, ho'⟩ := hrel.out
    clear hrel HC0 Ho
    cases gk with
    | zero => exact absurd ho' hne
    | succ k1 =>
      rw [contQ_succ] at ho'
      have Ho' := Lib.hid ho'
      have HC := Lib.hid hC
      clear hC ho'
      go_wp2_with fail
      refine (has_any b s r' m' _ _ HC.out.A).mono ?_
      rintro e w1 ⟨rfl, n1, rfl⟩
      rw [show Lib.hasPrefix r' (⟨#[60, 47]⟩ : ByteArray).data.toList = Lib.hasPrefix r' [60, 47] from rfl]
      have HC1 := Lib.hid (HC.out.drewN (n1))
      cases hp : Lib.hasPrefix r' [60, 47] with
      | true =>
        have Ho1 : Hid (o = .ok (flushP' acc l) r' m') := by rw [Ho'.out, if_pos hp]; rfl
        clear hp Ho'
        go_wp2_with fail
        refine (flush_any w.heap.size (w.heap.size + 1) w.heap.size acc vl l b s r' m' _ HC1.out.A hbl HC1.out.S HC1.out.L (Nat.le_refl _) (by omega) HC1.out.N HC1.out.z (by have := Hss.out; omega) (by omega)).mono ?_
        rintro e w3 ⟨rfl, vl', hS3, hL3, hN3, hb3⟩
        have HC3 := Lib.hid (HC1.out.flushed hS3 hL3 hN3 hb3 hbl (Nat.le_refl _))
        have hc := hL3.cell 0
        clear hS3 hL3 hN3 hb3
        go_wp2
        go_ret
        exact postC_ok Ho1 HC3.out.N (by have := flush_len acc l; omega) HC3.out.A HC3.out.K
      | false =>
        have Ho1 : Hid (o = if Lib.hasPrefix r' [60, 33, 45, 45] then .unk else
    if Lib.hasPrefix r' [60, 63] then .unk else
    if Lib.hasPrefix r' [60, 33, 91, 67, 68, 65, 84, 65, 91] then .unk else
    if Lib.hasPrefix r' [60] then (elemQ k1 (lookL lm) (deep + 1) r' m').then fun x r m => contQ k1 (lookL lm) deep (flushP' acc l ++ [x]) [] r m else
    if Lib.hasPrefix r' [38] then .unk else
    tailQ k1 (lookL lm) deep l acc r' m') := by rw [Ho'.out, if_neg (by rw [hp]; decide)]; rfl
        clear hp Ho'
        go_wp2_with fail
        refine (has_any b s r' m' _ _ HC1.out.A).mono ?_
        rintro e w2 ⟨rfl, n2, rfl⟩
        rw [show Lib.hasPrefix r' (⟨#[60, 33, 45, 45]⟩ : ByteArray).data.toList = Lib.hasPrefix r' [60, 33, 45, 45] from rfl]
        have HC2 := Lib.hid (HC.out.drewN (n1 + n2))
        clear HC1
        cases hp : Lib.hasPrefix r' [60, 33, 45, 45] with
        | true => exact absurd (by rw [Ho1.out, if_pos hp]) hne
        | false =>
          have Ho2 : Hid (o = if Lib.hasPrefix r' [60, 63] then .unk else
    if Lib.hasPrefix r' [60, 33, 91, 67, 68, 65, 84, 65, 91] then .unk else
    if Lib.hasPrefix r' [60] then (elemQ k1 (lookL lm) (deep + 1) r' m').then fun x r m => contQ k1 (lookL lm) deep (flushP' acc l ++ [x]) [] r m else
    if Lib.hasPrefix r' [38] then .unk else
    tailQ k1 (lookL lm) deep l acc r' m') := by rw [Ho1.out, if_neg (by rw [hp]; decide)]; rfl
          clear hp Ho1
          go_wp2_with fail
          refine (has_any b s r' m' _ _ HC2.out.A).mono ?_
          rintro e w3 ⟨rfl, n3, rfl⟩
          rw [show Lib.hasPrefix r' (⟨#[60, 63]⟩ : ByteArray).data.toList = Lib.hasPrefix r' [60, 63] from rfl]
          have HC3 := Lib.hid (HC.out.drewN (n1 + n2 + n3))
          clear HC2
          cases hp : Lib.hasPrefix r' [60, 63] with
          | true => exact absurd (by rw [Ho2.out, if_pos hp]) hne
          | false =>
            have Ho3 : Hid (o = if Lib.hasPrefix r' [60, 33, 91, 67, 68, 65, 84, 65, 91] then .unk else
    if Lib.hasPrefix r' [60] then (elemQ k1 (lookL lm) (deep + 1) r' m').then fun x r m => contQ k1 (lookL lm) deep (flushP' acc l ++ [x]) [] r m else
    if Lib.hasPrefix r' [38] then .unk else
    tailQ k1 (lookL lm) deep l acc r' m') := by rw [Ho2.out, if_neg (by rw [hp]; decide)]; rfl
            clear hp Ho2
            cases hp : Lib.hasPrefix r' [60, 33, 91, 67, 68, 65, 84, 65, 91] with
            | true => exact absurd (by rw [Ho3.out, if_pos hp]) hne
            | false =>
              have Ho4 : Hid (o = if Lib.hasPrefix r' [60] then (elemQ k1 (lookL lm) (deep + 1) r' m').then fun x r m => contQ k1 (lookL lm) deep (flushP' acc l ++ [x]) [] r m else
    if Lib.hasPrefix r' [38] then .unk else
    tailQ k1 (lookL lm) deep l acc r' m') := by rw [Ho3.out, if_neg (by rw [hp]; decide)]; rfl
              clear Ho3
              go_wp2_with fail
              refine (take_no b s r' m' _ _ HC3.out.A hp).mono ?_
              rintro e w4 ⟨rfl, hA4, hk4⟩
              have HC4 := Lib.hid (HC3.out.kp hA4 hk4 (by omega))
              clear hA4 hk4 hp HC3 HC
              go_wp2_with fail
              refine (has_any b s r' m' _ _ HC4.out.A).mono ?_
              rintro e w5 ⟨rfl, n5, rfl⟩
              rw [show Lib.hasPrefix r' (⟨#[60]⟩ : ByteArray).data.toList = Lib.hasPrefix r' [60] from rfl]
              have HC5 := Lib.hid (HC4.out.drewN (n5))
              cases hp : Lib.hasPrefix r' [60] with
              | true =>
                have Ho5 : Hid (o = (elemQ k1 (lookL lm) (deep + 1) r' m').then fun x r m => contQ k1 (lookL lm) deep (flushP' acc l ++ [x]) [] r m) := by rw [Ho4.out, if_pos hp]; rfl
                clear hp Ho4
                go_wp2_with fail
                refine (flush_any w.heap.size (w.heap.size + 1) w.heap.size acc vl l b s r' m' _ HC5.out.A hbl HC5.out.S HC5.out.L (Nat.le_refl _) (by omega) HC5.out.N HC5.out.z (by have := Hss.out; omega) (by omega)).mono ?_
                rintro e w6 ⟨rfl, vl', hS6, hL6, hN6, hb6⟩
                have HC6 := Lib.hid (HC5.out.flushed hS6 hL6 hN6 hb6 hbl (Nat.le_refl _))
                clear hS6 hL6 hN6 hb6 HC5
                have hl6 := flush_len acc l
                obtain ⟨l2, hl2⟩ : ∃ l2, l2 = flushP' acc l := ⟨_, rfl⟩
                rw [← hl2] at HC6 Ho5 hl6
                clear hl2
                obtain ⟨inner, hown, hreps⟩ := HC6.out.N
                obtain ⟨A, c, rfl⟩ := own_slice hown
                have HO := Lib.hid hown
                have HR := Lib.hid hreps
                have q0 := HC6.out.L.cell 0
                have q0b := (HC6.out.alloc (.cells #[.string ⟨#[]⟩, .string ⟨#[]⟩, .string ⟨#[]⟩, .slice none 0 0, .slice none 0 0] 26)).L.cell 0
                have hw : IntKind.i64.wrap ((deep : Int) + 1) = (deep : Int) + 1 := IntWalk.i64_in _ (by omega)
                have e1 : ((deep + 1 : Nat) : Int) = (deep : Int) + 1 := by omega
                clear hown hreps
                cases h7 : elemQ k1 (lookL lm) (deep + 1) r' m' with
                | unk => exact absurd (by rw [Ho5.out, h7]; rfl) hne
                | fail cc =>
                  have HoF : Hid (o = .fail cc) := by rw [Ho5.out, h7]; rfl
                  have hE : Hid (∀ W, CSt b s w w.heap.size w.heap.size (w.heap.size + 1) W r' m' [] (.slice A l2.length c) l2 → Calls Tryz.prog 33 #[.pointer (some ⟨b, 0, none⟩), .map (some mb), .int .i64 ((deep : Int) + 1)] W fun e w' => e = .panicked (failure cc) ∧ Kp b W w') := by
                    intro W hW
                    have h := HIH.out k1 (by omega) b s r' m' W mb lm (deep + 1) hW.A (hW.sm HM.out hmb) (by omega) (by rw [h7]; simp)
                    rw [h7, e1] at h
                    exact h
                  clear h7 Ho5
                  obtain ⟨T0, hT0⟩ : ∃ T0 : Exit → Act → World → Prop, Hid (∀ e a w, T0 e a w) := ⟨fun _ _ _ => True, fun _ _ _ => trivial⟩
                  go_wp2_with fail
                  go_region_law (refine spare (B := wpAny Tryz.prog .any #[] T0 0 #[] ⟨#[], []⟩ w6) ?_ ?_; refine step_call rfl 33 #[.pointer (some ⟨b, 0, none⟩), .map (some mb), .int .i64 ((deep : Int) + 1)] (by first | rfl | (go_simp; done) | simp [go_sem]) ?_; refine (hE.out _ (by first | exact HC6.out.drewN 1 | exact (HC6.out.alloc _).drewN 1 | exact (HC6.out.drewN 1).alloc _)).mono ?_; rintro e w7 ⟨rfl, hk7⟩; go_simp; exact ⟨rfl, postC_fail HoF (Kp.trans (by first | exact (HC6.out.drewN 1).K | exact ((HC6.out.alloc _).drewN 1).K | exact ((HC6.out.drewN 1).alloc _).K) hk7)⟩)
                  all_goals exact hT0.out _ _ _
                | ok x r2 m2 =>
                  have HoE : Hid (o = contQ k1 (lookL lm) deep (l2 ++ [x]) [] r2 m2) := by rw [Ho5.out, h7]; rfl
                  have hE : Hid (∀ W, CSt b s w w.heap.size w.heap.size (w.heap.size + 1) W r' m' [] (.slice A l2.length c) l2 → w6.heap.size ≤ W.heap.size → Calls Tryz.prog 33 #[.pointer (some ⟨b, 0, none⟩), .map (some mb), .int .i64 ((deep : Int) + 1)] W fun e w' =>
                      ∃ sp nm tx A1 n1 c1 A2 n2 c2, e = .returned (.agg #[.string (bs sp), .string (bs nm), .string (bs tx), .slice A1 n1 c1, .slice A2 n2 c2]) ∧ IsE w' (fun k => w6.heap.size ≤ k) x [.string (bs sp), .string (bs nm), .string (bs tx), .slice A1 n1 c1, .slice A2 n2 c2] ∧ At w' b s r2 m2 ∧ Kp b W w') := by
                    intro W hW hsz
                    have h := HIH.out k1 (by omega) b s r' m' W mb lm (deep + 1) hW.A (hW.sm HM.out hmb) (by omega) (by rw [h7]; simp)
                    rw [h7, e1] at h
                    refine h.mono ?_
                    rintro e w' ⟨cs, he, hx, hA, hk⟩
                    obtain ⟨sp, nm, tx, A1, n1, c1, A2, n2, c2, rfl⟩ := hx.cells
                    exact ⟨sp, nm, tx, A1, n1, c1, A2, n2, c2, he, hx.weak fun k hk => Nat.le_trans hsz hk, hA, hk⟩
                  have Hlt := Lib.hid (fun k hk => own_lt HO.out k hk)
                  have hll2 : Hid (l2.length < 4294967296) := (by omega : l2.length < 4294967296)
                  have hix : ((l2.length : Nat) : Int) < ((l2.length : Nat) : Int) + 1 := by omega
                  have hz6 : Hid (w.heap.size ≤ w6.heap.size) := HC6.out.z
                  clear h7 Ho5 HR
                  go_wp2_with fail
                  go_region_law (first
                    | (refine step_call rfl 33 #[.pointer (some ⟨b, 0, none⟩), .map (some mb), .int .i64 ((deep : Int) + 1)] (by first | rfl | (go_simp; done) | simp [go_sem]) ?_; refine (hE.out _ (by first | exact HC6.out.drewN 1 | exact (HC6.out.alloc _).drewN 1 | exact (HC6.out.drewN 1).alloc _) (by first | exact Nat.le_refl _ | simp)).mono ?_; rintro e w7 ⟨sp, nm, tx, A1, n1, c1, A2, n2, c2, rfl, hx7, hA7, hk7⟩; have HC7 : Hid (CSt b s w w.heap.size w.heap.size (w.heap.size + 1) w7 r2 m2 [] (.slice A l2.length c) l2) := CSt.kp (by first | exact HC6.out.drewN 1 | exact (HC6.out.alloc _).drewN 1 | exact (HC6.out.drewN 1).alloc _) hA7 hk7 (by omega); obtain ⟨inner7, hown7', hreps7⟩ := HC7.out.N; have hown7 := Lib.hid hown7'; clear hown7'; have HR7 := Lib.hid hreps7; clear hreps7; have q7 := HC7.out.L.cell 0; have q7a := (HC7.out.alloc (.cells #[.string ⟨#[]⟩, .string ⟨#[]⟩, .string ⟨#[]⟩, .slice none 0 0, .slice none 0 0] 26)).L.cell 0; have HX7 := Lib.hid hx7; clear hx7)
                    | (refine step_append_E rfl (.tmp 68) (.tmp 75) rfl w.heap.size A l2.length c inner7 _ (by first | rfl | simp [go_sem]) (by first | rfl | simp [go_sem]) (by first | exact hown7.out | exact World.ownsRow.alloc hown7.out _) (by first | exact heap_alloc_new _ _ | exact zero_kp (w6 := w6) (by rfl) (Nat.lt_of_lt_of_le hbl hz6.out) hk7) hll2.out (by first | exact HC7.out.z | exact Nat.le_trans HC7.out.z (by simp)) ?_; intro g cap w3 hown3 hg3 hat3 hlt3; have hL3 := Lib.hid (Blk.grown (by first | exact HC7.out.L | exact HC7.out.L.alloc _) hg3 (by first | exact hown7.out | exact World.ownsRow.alloc hown7.out _)); have k0 := own_cell hown3 (l2.length * 5) _ (zero_at hown7.out.1 0 _ rfl); have k1' := own_cell hown3 (l2.length * 5 + 1) _ (zero_at hown7.out.1 1 _ rfl); have k2 := own_cell hown3 (l2.length * 5 + 2) _ (zero_at hown7.out.1 2 _ rfl); have k3 := own_cell hown3 (l2.length * 5 + 3) _ (zero_at hown7.out.1 3 _ rfl); have k4 := own_cell hown3 (l2.length * 5 + 4) _ (zero_at hown7.out.1 4 _ rfl); have f0 := own_free hown3 (l2.length * 5); have f1 := own_free hown3 (l2.length * 5 + 1); have f2 := own_free hown3 (l2.length * 5 + 2); have f3 := own_free hown3 (l2.length * 5 + 3); have f4 := own_free hown3 (l2.length * 5 + 4); have q3 := hL3.out.cell 0; have qf := hL3.out.fr 0; have hlg : w.heap.size ≠ g := by (intro hh; obtain ⟨c9, hc9⟩ := own_typed hown3 g rfl; exact typed_ne hL3.out.out hc9 (by decide) hh)))
                  all_goals
                    clear k0 k1' k2 k3 k4 f0 f1 f2 f3 f4 q3 qf q7 q7a
                    go_wp2
                    go_roundg k1
                    case measure => omega
                    case rel =>
                      refine ⟨r2, m2, [], .slice (some ⟨g, 0, none⟩) (l2.length + 1) cap, l2 ++ [x], ?hCC, ?hb1, ?hb2, by omega, HoE.out⟩
                      case hb1 => have := HC7.out.A.restlen; simp; omega
                      case hb2 => simp; omega
                      case hCC =>
                        exact CSt.put (n := l2.length) (cs := [.string (bs sp), .string (bs nm), .string (bs tx), .slice A1 n1 c1, .slice A2 n2 c2]) (inner := inner7) HC7.out (by first | exact HC7.out | exact HC7.out.alloc _) rfl (by first | exact hown7.out | exact World.ownsRow.alloc hown7.out _) HR7.out (by first | exact fun _ _ _ _ _ => rfl | exact fun k _ _ hk _ => typed_alloc _ k hk) hz6.out Hlt.out HX7.out hg3 hat3 hown3 (by first | exact put1' _ _ _ _ _ rfl (by with_reducible rfl) hown3 hown7.out.1 hL3.out hlg | exact put2' _ _ _ _ _ rfl (by with_reducible rfl) hown3 hown7.out.1 hL3.out hlg) rfl hbl (Nat.le_refl _) (Nat.le_refl _)
              | false =>
                have Ho5 : Hid (o = if Lib.hasPrefix r' [38] then .unk else
    tailQ k1 (lookL lm) deep l acc r' m') := by rw [Ho4.out, if_neg (by rw [hp]; decide)]; rfl
                clear hp Ho4
                go_wp2_with fail
                refine (has_any b s r' m' _ _ HC5.out.A).mono ?_
                rintro e w6 ⟨rfl, n6, rfl⟩
                rw [show Lib.hasPrefix r' (⟨#[38]⟩ : ByteArray).data.toList = Lib.hasPrefix r' [38] from rfl]
                have HC6 := Lib.hid (HC4.out.drewN (n5 + n6))
                clear HC5
                cases hp : Lib.hasPrefix r' [38] with
                | true => exact absurd (by rw [Ho5.out, if_pos hp]) hne
                | false =>
                  have ho6 := Ho5.out
                  rw [if_neg (by rw [hp]; decide)] at ho6
                  have Ho6 := Lib.hid ho6
                  clear hp Ho5 ho6
                  cases r' with
                  | nil => exact absurd (show o = .unk from Ho6.out) hne
                  | cons c r2 =>
                    have ho7 : o = if Lib.hasPrefix (c :: r2) [93, 93, 62] then .unk else contQ k1 (lookL lm) deep l (acc ++ [c]) r2 m' := Ho6.out
                    cases hp : Lib.hasPrefix (c :: r2) [93, 93, 62] with
                    | true => exact absurd (by rw [ho7, if_pos hp]) hne
                    | false =>
                      rw [if_neg (by rw [hp]; decide)] at ho7
                      have Ho7 := Lib.hid ho7
                      clear ho7 Ho6
                      have hra0 : ∃ a : Nat, a ≤ s.size ∧ s.data.toList.drop a = c :: r2 ∧ Rd (w4.drewN (n5 + n6)) b s a m' := HC6.out.A.rd
                      obtain ⟨W6, hW6⟩ : ∃ W6, W6 = w4.drewN (n5 + n6) := ⟨_, rfl⟩
                      rw [World.drewN_drewN]
                      rw [← hW6] at HC6 hra0 ⊢
                      clear hW6 HC4
                      obtain ⟨a, ha, hra, hRd⟩ := hra0
                      have hlt : a < s.size := by have h := drop_len hra; rw [List.length_cons] at h; omega
                      have hca : s[a] = c := by have h := rest_cons hra hlt; injection h with h _; exact h.symm
                      have hr2 : s.data.toList.drop (a + 1) = r2 := by have h := rest_cons hra hlt; injection h with _ h; exact h.symm
                      have hd1 : decide ((a : Int) < (s.size : Int)) = true := by simp; omega
                      have hc0 := hRd.c0
                      have hc1 := hRd.c1
                      have HRd := Lib.hid hRd
                      have Hr2 := Lib.hid hr2
                      have Hca := Lib.hid hca
                      have Hra := Lib.hid hra
                      have hhas : ∀ n, Calls Tryz.prog 52 #[.pointer (some ⟨b, 0, none⟩), .string ⟨#[93, 93, 62]⟩] (W6.drewN n) fun e w' => e = .returned (.bool false) ∧ ∃ k, w' = (W6.drewN n).drewN k := fun n =>
                        (has_any b s (c :: r2) m' ⟨#[93, 93, 62]⟩ _ (HC6.out.A.drewN n)).mono fun e w' h => ⟨by rw [h.1, show Lib.hasPrefix (c :: r2) (⟨#[93, 93, 62]⟩ : ByteArray).data.toList = Lib.hasPrefix (c :: r2) [93, 93, 62] from rfl, hp], h.2⟩
                      have Hhas := Lib.hid hhas
                      clear hhas hRd hr2 hca hra hp
                      go_wp2
                      go_quiet (first | (go_at_call 52; exact Calls.quiet_of (Hhas.out _)) | (go_at_call 26; exact Calls.quiet_of_same (must_ok _ _)))
                      go_wp2
                      refine StillG.tail 9 (by kernel_rfl) (by kernel_rfl) ?_
                      simp only [List.take_succ_cons, List.take_zero, List.drop_succ_cons, List.drop_zero]
                      iterate 9 (refine StillG.want rfl (fun K hK => ?_); go_simp; refine hK _ ?_; clear hK K)
                      refine StillG.nil ?_
                      rw [Hca.out]
                      have HC7 := Lib.hid (HC6.out.drewN (nq + 1))
                      go_wp2_with fail
                      refine (Tryz.Builder_WriteByte_k w.heap.size (w.heap.size + 1) (Lib.byteCells acc) c.toNat _ HC7.out.S (by rw [Lib.byteCells_length]; have := Hss.out; omega) HC7.out.z).mono ?_
                      rintro e w8 ⟨rfl, hbf, hb8, ho8⟩
                      have HC8 := Lib.hid (HC7.out.wrote hbf (bytes_snoc acc c) hb8 ho8 hbl (Nat.le_refl _) (by omega))
                      clear hbf hb8 ho8 HC7 HC6 Hhas hc0 hc1
                      obtain ⟨a8, ha8, hra8, hRd8⟩ := HC8.out.A.rd
                      have hlt8 : a8 < s.size := by have h := drop_len hra8; rw [List.length_cons] at h; omega
                      have hc1 := hRd8.c1
                      have hf1 := hRd8.fr 1
                      have hst := at_step0 HC8.out.A hRd8 hlt8
                      have hr9 : s.data.toList.drop (a8 + 1) = r2 := by have h := rest_cons hra8 hlt8; injection h with _ h; exact h.symm
                      have ha8' : a8 < 4294967296 := by have := Hss.out; omega
                      rw [hr9] at hst
                      have HC9 := Lib.hid (HC8.out.kp hst.1 hst.2 (by omega))
                      clear hst hr9 hRd8 hra8
                      go_wp2
                      go_roundg k1
                      case measure => omega
                      case rel => exact ⟨r2, m', acc ++ [c], vl, l, HC9.out, by simp only [List.length_append, List.length_cons, List.length_nil] at hal ⊢; omega, by omega, by omega, Ho7.out⟩
end Go.Proofs.YtmiflgcjphcigaaGreatDoor
