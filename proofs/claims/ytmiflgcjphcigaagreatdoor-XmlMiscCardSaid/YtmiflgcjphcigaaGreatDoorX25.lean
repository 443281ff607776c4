/-
  A part of the proof of statements on the element reader of package xml (X25): lemmas on what its functions come to; their conditions stand in each theorem.
-/
import Derived.Test.YtmiflgcjphcigaaGreatDoorX24
set_option linter.unusedVariables false
set_option linter.unusedSimpArgs false
namespace Go.Proofs.YtmiflgcjphcigaaGreatDoor
open Go.RowKit Go.Proofs.YtmiflgcjphcigaaGreatDoorW.PrintWords
/-! ## known -/
/-- A slice of elements: what its j-th holds. -/
theorem kids_cell {w : World} {base n : Nat} {A : Option Addr} {c : Nat} {inner : List Value} (h : w.ownsRow base 26 5 (.slice A n c) n inner) (hn : 0 < n) :
    ∃ g, A = some ⟨g, 0, none⟩ ∧ base ≤ g ∧ g < w.heap.size ∧ n ≤ c ∧ ∀ j u, inner[j]? = some u → w.cell? ⟨g, j, none⟩ = some u := by
  obtain ⟨hl, h2⟩ := h
  rcases h2 with ⟨h3, h4⟩ | ⟨g, cap, cur, h3, hb, hh, hnc, hcm, hsz, htk⟩
  · omega
  · injection h3 with h3 h4 h5
    subst h3
    subst h5
    refine ⟨g, rfl, hb, lt_of_block hh, hnc, fun j u hj => ?_⟩
    have hlt : j < n * 5 := by
      rcases Nat.lt_or_ge j inner.length with h | h
      · omega
      · rw [List.getElem?_eq_none h] at hj; cases hj
    rw [← htk, List.getElem?_take_of_lt hlt] at hj
    simp only [World.cell?, hh]
    rw [← Array.getElem?_toList]
    exact hj
/-- What an element's cells are. -/
theorem IsE.open {w : World} {ok : Nat → Prop} {sp nm tx : B} {at_ : List Trip} {ks : List E} {cs : List Value} (h : IsE w ok (.mk sp nm tx at_ ks) cs) :
    ∃ A1 c1 A2 c2 inner, cs = [.string (bs sp), .string (bs nm), .string (bs tx), .slice A1 at_.length c1, .slice A2 ks.length c2] ∧ RwN w A1 at_ ∧ at_.length ≤ c1 ∧ w.ownsRow 0 26 5 (.slice A2 ks.length c2) ks.length inner ∧ ∀ (j : Nat) (p : E), ks[j]? = some p → IsE w ok p ((inner.drop (j * 5)).take 5) := by
  cases h with
  | mk sp nm tx at_ ks va vk inner ha hao hk hko hks =>
    obtain ⟨A1, c1, rfl, h1, h2⟩ := own_rwn ha
    obtain ⟨A2, c2, rfl⟩ := own_slice hk
    exact ⟨A1, c1, A2, c2, inner, rfl, h2, h1, hk, hks⟩
/-- The world behind '[]byte("..")' of a constant: the bytes, marked. -/
def litWorld (w : World) (l : List UInt8) : World := (w.alloc (.cells (Lib.byteCells l).toArray 5)).freeze ⟨w.heap.size, l.length, none⟩ 1
theorem lit_at (w : World) (l : List UInt8) : (litWorld w l).heap[w.heap.size]? = some (.cells (Lib.byteCells l).toArray 5 (l.length, l.length + 1)) := by
  simp [litWorld, World.freeze, World.alloc, -World.alloc_eq]
  rw [Array.getElem_modify_self]
  simp
theorem lit_row (w : World) (l : List UInt8) : Row (litWorld w l) w.heap.size 0 l :=
  ⟨fun j x hj => by
    rw [Nat.zero_add]
    simp only [World.cell?, lit_at]
    simp [Lib.byteCells, hj]⟩
theorem lit_below (w : World) (l : List UInt8) : Below w.heap.size w (litWorld w l) :=
  Lib.below_freeze ((Below.refl _ w).alloc (Nat.le_refl _) _) (Nat.le_refl _) 1
theorem run_convert_lit (w : World) (l : List UInt8) (n c : Nat) (hn : n = l.length) :
    (convert 30 30 (.slice (some ⟨w.heap.size, 0, none⟩) n c)).run Tryz.prog (w.alloc (.cells (Lib.byteCells l).toArray 5)) = .ok (.slice (some ⟨w.heap.size, 0, none⟩) n c) (litWorld w l) := by
  have hsh : (w.alloc (.cells (Lib.byteCells l).toArray 5)).shape? w.heap.size = some (5, l.length) := by
    simp [World.shape?, World.alloc, -World.alloc_eq, Lib.byteCells]
  simp [convert, run_underlying Tryz.underlying30, run_underlying Tryz.underlying5, markStringish, hsh, Result.andThen, litWorld]
set_option maxHeartbeats 1000000 in
set_option maxRecDepth 100000 in
theorem known_any (w : World) (hgl : ∃ x, w.cell? ⟨5, 0, none⟩ = some (.int .i64 x)) (h6 : 5 < w.heap.size) :
    Calls Tryz.prog 10 #[] w fun e w' => e = .returned (.bool true) ∧ Below w.heap.size w w' := by
  have hb0 := lit_below w knownB
  have hgl0 : ∃ x, (litWorld w knownB).cell? ⟨5, 0, none⟩ = some (.int .i64 x) := by
    obtain ⟨x, hx⟩ := hgl
    exact ⟨x, by rw [hb0.cell h6]; exact hx⟩
  have hr := read_any 30 (by omega) w.heap.size 21 21 knownB _ (lit_row w knownB) rfl (lt_of_block (lit_at w knownB)) hgl0 (Nat.lt_of_lt_of_le h6 hb0.size) (by decide) (by rw [known_readZ]; simp)
  rw [known_readZ] at hr
  have HR := Lib.hid hr
  have HB := Lib.hid hb0
  have hcv : (convert 30 30 (.slice (some ⟨w.heap.size, 0, none⟩) 21 21)).run Tryz.prog (w.alloc (.cells #[.int .u8 60, .int .u8 97, .int .u8 32, .int .u8 120, .int .u8 61, .int .u8 34, .int .u8 49, .int .u8 38, .int .u8 35, .int .u8 49, .int .u8 48, .int .u8 59, .int .u8 50, .int .u8 34, .int .u8 62, .int .u8 32, .int .u8 98, .int .u8 60, .int .u8 47, .int .u8 97, .int .u8 62] 5)) = .ok (.slice (some ⟨w.heap.size, 0, none⟩) 21 21) (litWorld w knownB) := run_convert_lit w knownB 21 21 rfl
  clear hr hb0 hgl hgl0
  go_enter Tryz.func10, Tryz.ntmps10
  go_wp2_with fail
  refine HR.out.mono ?_
  rintro e w1 ⟨cs, rfl, hx, hb1⟩
  have hb := HB.out.trans (hb1.mono HB.out.size)
  obtain ⟨A1, c1, A2, c2, inner, rfl, hrw, hc1, hown, hks⟩ := hx.open
  obtain ⟨B1, d1, B2, d2, inner2, hk, _⟩ := (hks 0 _ rfl).open
  obtain ⟨g1, rfl, _, _, hv⟩ := hrw 0 _ rfl
  obtain ⟨g2, rfl, _, hg2, _, hkc⟩ := kids_cell hown (by decide)
  have hk2 : w1.cell? ⟨g2, 2, none⟩ = some (.string (bs [32, 98])) := by
    refine hkc 2 _ ?_
    have h2 : ((inner.drop (0 * 5)).take 5)[2]? = some (.string (bs [32, 98])) := by rw [hk]; rfl
    simpa using h2
  have hg1 := cell_lt hv
  have HB1 := Lib.hid hb
  clear hks hown hkc hk hrw hx hb1 hb HR HB
  have s1 : ((bs [49, 10, 50]).toList == [49, 10, 50]) = true := by rw [bs_toList]; rfl
  have s2 : ((bs [32, 98]).toList == [32, 98]) = true := by rw [bs_toList]; rfl
  have s3 : ((bs [97]).toList == [97]) = true := by rw [bs_toList]; rfl
  go_wp2
  go_ret
  exact ⟨rfl, HB1.out.alloc HB1.out.size _⟩
end Go.Proofs.YtmiflgcjphcigaaGreatDoor
