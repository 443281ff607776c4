/-
  A part of the proof of statements on the element reader of package xml (X14): lemmas on what its functions come to; their conditions stand in each theorem.
-/
import Derived.Test.YtmiflgcjphcigaaGreatDoorX13
set_option linter.unusedVariables false
set_option linter.unusedSimpArgs false
namespace Go.Proofs.YtmiflgcjphcigaaGreatDoor
open Go.RowKit Go.Proofs.YtmiflgcjphcigaaGreatDoorW.PrintWords
theorem put1' {w3 S : World} {Z g lb n cap : Nat} {inner cs : List Value} {v0 v : Value} (c0 c1 c2 c3 c4 : Value) (hcs : cs = [c0, c1, c2, c3, c4]) (hS : S = (((((w3.setCell ⟨g, n * 5, none⟩ c0).setCell ⟨g, n * 5 + 1, none⟩ c1).setCell ⟨g, n * 5 + 2, none⟩ c2).setCell ⟨g, n * 5 + 3, none⟩ c3).setCell ⟨g, n * 5 + 4, none⟩ c4).setCell ⟨lb, 0, none⟩ v) (h : w3.ownsRow Z 26 5 (.slice (some ⟨g, 0, none⟩) (n + 1) cap) (n + 1) (inner ++ zeroE)) (hi : inner.length = n * 5) (hL : Blk w3 lb [v0] 24) (hne : lb ≠ g) :
    Put w3 S Z g lb n cap inner cs v := put1 c0 c1 c2 c3 c4 hcs (by rw [hS]; unfold st5; rfl) h hi hL hne
theorem put2' {w3 S : World} {Z g lb n cap : Nat} {inner cs : List Value} {v0 v : Value} (c0 c1 c2 c3 c4 : Value) (hcs : cs = [c0, c1, c2, c3, c4]) (hS : S = (((((w3.setCell ⟨lb, 0, none⟩ v).setCell ⟨g, n * 5, none⟩ c0).setCell ⟨g, n * 5 + 1, none⟩ c1).setCell ⟨g, n * 5 + 2, none⟩ c2).setCell ⟨g, n * 5 + 3, none⟩ c3).setCell ⟨g, n * 5 + 4, none⟩ c4) (h : w3.ownsRow Z 26 5 (.slice (some ⟨g, 0, none⟩) (n + 1) cap) (n + 1) (inner ++ zeroE)) (hi : inner.length = n * 5) (hL : Blk w3 lb [v0] 24) (hne : lb ≠ g) :
    Put w3 S Z g lb n cap inner cs v := put2 c0 c1 c2 c3 c4 hcs (by rw [hS]; unfold st5; rfl) h hi hL hne
set_option maxHeartbeats 0 in
set_option maxRecDepth 100000 in
theorem flush_yes (Z tb lb : Nat) (acc : B) (vl : Value) (l : List E) (b : Nat) (s : ByteArray) (r : B) (m : Nat) (w : World) (hA : At w b s r m) (hbz : b < Z) (hS : Lib.IsBuilderF 86 5 Z tb (Lib.byteCells acc) w) (hL : Blk w lb [vl] 24) (hlz : Z ≤ lb) (hltb : lb ≠ tb) (hK : Kids w Z vl l)
    (hz : Z ≤ w.heap.size) (hacc : 0 < acc.length) (hal : acc.length < 4294967296) (hll : l.length < 4294967296) :
    Calls Tryz.prog 73 #[.pointer (some ⟨tb, 0, none⟩), .pointer (some ⟨lb, 0, none⟩)] w fun e w' => e = .returned (.tuple #[]) ∧ ∃ vl', Lib.IsBuilderF 86 5 Z tb [] w' ∧ Blk w' lb [vl'] 24 ∧ Kids w' Z vl' (l ++ [E.mk [] [] acc [] []]) ∧ Below Z w w' := by
  have hd : decide (((0 : Int)) < ((Lib.byteCells acc).length : Int)) = true := by rw [Lib.byteCells_length]; simp; omega
  have hd2 : 0 < (Lib.byteCells acc).length := by rw [Lib.byteCells_length]; omega
  have hl0 : w.cell? ⟨lb, 0, none⟩ = some vl := hL.cell 0
  have hlf : w.frozen? ⟨lb, 0, none⟩ = false := hL.fr 0
  have HA := Lib.hid hA
  have HS := Lib.hid hS
  have HL := Lib.hid hL
  have HK := Lib.hid hK
  clear hA hS hL hK
  go_enter Tryz.func73, Tryz.ntmps73
  go_wp2_with fail
  refine (Tryz.Builder_Len_f Z tb (Lib.byteCells acc) _ HS.out).mono ?_
  rintro e w1 ⟨rfl, rfl⟩
  go_wp2_with fail
  obtain ⟨inner, hown, hreps⟩ := HK.out
  obtain ⟨A, c, rfl⟩ := own_slice hown
  have HO := Lib.hid hown
  have HR := Lib.hid hreps
  obtain ⟨ct, hct⟩ := bf_block HS.out
  have HT := Lib.hid hct
  clear hown hreps hct
  obtain ⟨i0, hi, hz0, hz1, hz2⟩ := info_parts info26
  have HI := Lib.hid hi
  have HZ0 := Lib.hid hz0
  have HZ1 := Lib.hid hz1
  have HZ2 := Lib.hid hz2
  clear hi hz0 hz1 hz2
  have Hll := Lib.hid hll
  have hzB : ∀ (W w2 : World), Lib.OthersKept 5 (some tb) (W.alloc (.cells zeroE.toArray 26)) w2 → tb ≠ W.heap.size → w2.heap[W.heap.size]? = some (.cells zeroE.toArray 26 (0, 0)) := fun W w2 ho hne =>
    ho _ _ (heap_alloc_new W _) (fun e => hne (by injection e with e; exact e.symm)) (fun c fz e => by injection e with _ h2; cases h2)
  have HZB := Lib.hid hzB
  clear hzB
  have q0b : (w1.alloc (Obj.cells #[.string ⟨#[]⟩, .string ⟨#[]⟩, .string ⟨#[]⟩, .slice none 0 0, .slice none 0 0] 26)).cell? ⟨lb, 0, none⟩ = some (.slice A l.length c) := (HL.out.alloc _).cell 0
  have hix : ((l.length : Nat) : Int) < ((l.length : Nat) : Int) + 1 := by omega
  go_region_law (first
    | (refine step_call rfl 64 #[.pointer (some ⟨tb, 0, none⟩)] (by first | rfl | (go_simp; done) | simp [go_sem]) ?_; refine (Tryz.Builder_String_any_k Z tb acc _ (by first | exact bf_drewN HS.out 1 | exact bf_drewN (bf_alloc HS.out _) 1 | exact bf_alloc (bf_drewN HS.out 1) _) (by first | exact hz | (simp; omega))).mono ?_; rintro e w2 ⟨rfl, hS2, hb2, ho2⟩; have hown2 := Lib.hid (own_others (by first | exact HO.out | exact World.ownsRow.alloc HO.out _) ho2 (by first | exact HT.out | exact (Below.heap_alloc _ _ _ (lt_of_block HT.out)).trans HT.out)); have hL2 := Lib.hid (Blk.others (by first | exact HL.out.drewN 1 | exact (HL.out.alloc _).drewN 1 | exact (HL.out.drewN 1).alloc _) ho2 hltb); have q2 := hL2.out.cell 0; have q2a : (w2.alloc (Obj.cells #[.string ⟨#[]⟩, .string ⟨#[]⟩, .string ⟨#[]⟩, .slice none 0 0, .slice none 0 0] 26)).cell? ⟨lb, 0, none⟩ = some (.slice A l.length c) := (hL2.out.alloc _).cell 0; have hz2 : Z ≤ w2.heap.size := Nat.le_trans hz (Nat.le_trans (by first | exact Nat.le_refl _ | simp) hb2.size))
    | (refine step_append_E rfl (.tmp 4) (.tmp 8) rfl Z A l.length c inner _ (by first | rfl | simp [go_sem]) (by first | rfl | simp [go_sem]) (by first | exact hown2.out | exact World.ownsRow.alloc hown2.out _) (by first | exact heap_alloc_new _ _ | exact HZB.out w1 _ ho2 (by have := lt_of_block HT.out; simp; omega)) Hll.out (by first | exact hz2 | (simp; omega)) ?_; intro g cap w3 hown3 hg3 hat3 hlt3; have hL3 := Lib.hid (Blk.grown (by first | exact hL2.out | exact hL2.out.alloc _) hg3 (by first | exact hown2.out | exact World.ownsRow.alloc hown2.out _)); have k0 := own_cell hown3 (l.length * 5) _ (zero_at hown2.out.1 0 _ rfl); have k1 := own_cell hown3 (l.length * 5 + 1) _ (zero_at hown2.out.1 1 _ rfl); have k2 := own_cell hown3 (l.length * 5 + 2) _ (zero_at hown2.out.1 2 _ rfl); have k3 := own_cell hown3 (l.length * 5 + 3) _ (zero_at hown2.out.1 3 _ rfl); have k4 := own_cell hown3 (l.length * 5 + 4) _ (zero_at hown2.out.1 4 _ rfl); have f0 := own_free hown3 (l.length * 5); have f1 := own_free hown3 (l.length * 5 + 1); have f2 := own_free hown3 (l.length * 5 + 2); have f3 := own_free hown3 (l.length * 5 + 3); have f4 := own_free hown3 (l.length * 5 + 4); have q0 := hL3.out.cell 0; have qf := hL3.out.fr 0; have hlg : lb ≠ g := by rintro rfl; obtain ⟨c9, hc9⟩ := own_typed hown3 lb rfl; rw [hL3.out.out] at hc9; injection hc9 with hc9; injection hc9 with _ h9; cases h9))
  all_goals
    have hmv : Hid (∀ (k : Nat) (c : Array Value) (t : TypeId), w1.heap[k]? = some (Obj.cells c t (0, 0)) → (t = 26 ∨ t = 33) → w2.heap[k]? = w1.heap[k]?) := fun k c9 t9 hk ht => by
      have hne : k ≠ tb := by
        rintro rfl
        rw [HT.out] at hk
        injection hk with hk
        injection hk with _ h2
        rcases ht with rfl | rfl <;> cases h2
      have hn5 : ∀ c fz, Obj.cells c9 t9 (0, 0) ≠ .cells c 5 fz := by
        intro c8 f8 e
        injection e with _ h2
        rcases ht with rfl | rfl <;> cases h2
      first
        | exact (ho2 k _ hk (fun e => hne (by injection e)) hn5).trans hk.symm
        | exact (ho2 k _ ((Below.heap_alloc w1 _ k (lt_of_block hk)).trans hk) (fun e => hne (by injection e)) hn5).trans hk.symm
    clear k0 k1 k2 k3 k4 f0 f1 f2 f3 f4
    have hS3 := Lib.hid (bf_grown (by first | exact hS2 | exact bf_alloc hS2 _) hg3 (by first | exact hown2.out | exact World.ownsRow.alloc hown2.out _))
    obtain ⟨cg, hcg⟩ := own_typed hown3 g rfl
    have HCG := Lib.hid hcg
    have hzg : Z ≤ g := by
      rcases hat3 with h3 | h3
      · exact own_base HO.out g h3
      · rw [h3]
        first | exact hz2 | exact Nat.le_trans hz2 (by simp)
    have hblw : Below Z w1 w3 := by
      have hb2' : Below Z w1 w2 := by
        first
          | exact (below_drewN (Below.refl _ _) 1).trans hb2
          | exact ((below_drewN (Below.refl _ _) 1).alloc (by first | exact hz | (simp; omega)) _).trans hb2
          | exact (below_drewN ((Below.refl _ _).alloc (by first | exact hz | (simp; omega)) _) 1).trans hb2
          | exact ((Below.refl _ _).alloc (by first | exact hz | (simp; omega)) _).trans hb2
      first
        | exact pw_below_grown hb2' _ hz2 hg3 (fun k hk => own_base HO.out k hk)
        | exact pw_below_grown (hb2'.alloc hz2 _) _ (Nat.le_trans hz2 (by simp)) hg3 (fun k hk => own_base HO.out k hk)
    go_wp2_with fail
    refine Calls.mono (after_put (n := l.length) (v := .slice (some ⟨g, 0, none⟩) (l.length + 1) cap) (cs := [.string ⟨#[]⟩, .string ⟨#[]⟩, .string ⟨acc.toArray⟩, .slice none 0 0, .slice none 0 0]) (inner := inner) (cap := cap) ?hP hS3.out HCG.out hL3.out hlg) ?_
    case hP =>
      first
        | exact put1' _ _ _ _ _ rfl (by with_reducible rfl) hown3 hown2.out.1 hL3.out hlg
        | exact put2' _ _ _ _ _ rfl (by with_reducible rfl) hown3 hown2.out.1 hL3.out hlg
    rintro e w5 ⟨rfl, hS5, hL5, hown5, hfar5, hb5⟩
    have hO5 := Lib.hid hown5
    have hF5 := Lib.hid hfar5
    have hB5 := Lib.hid hb5
    have hS5' := Lib.hid hS5
    have hL5' := Lib.hid hL5
    clear hown5 hfar5 hb5 hS5 hL5
    go_wp2
    go_end0
    exact ⟨rfl, .slice (some ⟨g, 0, none⟩) (l.length + 1) cap, hS5'.out, hL5'.out, kids_put (by first | exact hown2.out | exact World.ownsRow.alloc hown2.out _) rfl HR.out (by first | exact hmv.out | exact fun k c t hk ht => (Below.heap_alloc w2 _ k (lt_of_block ((hmv.out k c t hk ht).trans hk))).trans (hmv.out k c t hk ht)) (text_isE _ _ acc) hg3 hat3 hF5.out hO5.out, hB5.out w1 hblw hzg hlz⟩
end Go.Proofs.YtmiflgcjphcigaaGreatDoor
