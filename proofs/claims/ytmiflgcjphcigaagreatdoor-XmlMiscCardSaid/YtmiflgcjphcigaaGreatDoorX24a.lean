/-
  A part of the proof of statements on the element reader of package xml (X24a): lemmas on what its functions come to; their conditions stand in each theorem.
-/
import Derived.Test.YtmiflgcjphcigaaGreatDoorX23
import Derived.Lib.SlBytesRow
set_option linter.unusedVariables false
set_option linter.unusedSimpArgs false
namespace Go.Proofs.YtmiflgcjphcigaaGreatDoor
open Go.RowKit
/-! ## Read: words -/
theorem index_none (t : List UInt8) : ∀ (s : List UInt8), (∀ c ∈ s, c ≠ 13) → Lib.index s (13 :: t) = -1 := by
  intro s
  induction s with
  | nil => intro _; rfl
  | cons b l ih =>
    intro h
    have hb : b ≠ 13 := h b (by simp)
    have hp : (13 :: t).isPrefixOf (b :: l) = false := by
      simp only [List.isPrefixOf, Bool.and_eq_false_imp]
      intro e
      exact absurd (beq_iff_eq.1 e).symm hb
    rw [Lib.index, hp, ih (fun c hc => h c (by simp [hc]))]
    rfl
theorem replace_none {s old new : List UInt8} (h : Lib.index s old = -1) : Lib.replaceAll s old new = s := by
  unfold Lib.replaceAll Lib.replace
  split
  · rfl
  · unfold Lib.replaceNum
    rw [if_pos (.inl (by decide)), Lib.count_miss h]
    rfl
theorem okByte_13 {c : UInt8} (h : okByte c = true) : c ≠ 13 := by
  rintro rfl
  exact absurd h (by decide)
theorem replace_nop (s old new : ByteArray) (t : List UInt8) (hold : old.data.toList = 13 :: t) (hnew : new.size ≤ 2) (w : World) (hs : s.size < 4294967281) (hgl : ∃ x, w.cell? ⟨5, 0, none⟩ = some (.int .i64 x)) (h : s.data.toList.all okByte = true) :
    Calls Tryz.prog 27 #[.string s, .string old, .string new] w fun e w' => e = .returned (.string s) ∧ Below w.heap.size w w' := by
  obtain ⟨m, hm⟩ := hgl
  have hix : Lib.index s.data.toList old.data.toList = -1 := by
    rw [hold]
    exact index_none t _ fun c hc => okByte_13 (List.all_eq_true.1 h c hc)
  have h0 : Lib.countB s old = 0 := Lib.countB_miss s old hix
  have ho : 1 ≤ old.size := by rw [Lib.size_eq, hold]; simp
  refine (Tryz.strings_ReplaceAll s old new m w hs hm ho (by rw [h0]; omega)).mono ?_
  rintro e w' ⟨rfl, hb⟩
  rw [replace_none hix]
  exact ⟨rfl, hb⟩
theorem trim_nop (s : ByteArray) (w : World) (h : s.data.toList.all okByte = true) :
    Calls Tryz.prog 25 #[.string s, .string ⟨#[239, 187, 191]⟩] w fun e w' => e = .returned (.string s) ∧ w' = w := by
  refine (Tryz.strings_TrimPrefix s ⟨#[239, 187, 191]⟩ w).mono ?_
  rintro e w' ⟨rfl, rfl⟩
  refine ⟨ret_str ?_, rfl⟩
  have hp : Lib.hasPrefix s.data.toList [239, 187, 191] = false := by
    cases hl : s.data.toList with
    | nil => rfl
    | cons c l =>
      rw [hl] at h
      simp only [List.all_cons, Bool.and_eq_true] at h
      have hc := okByte_asc h.1
      simp only [Lib.hasPrefix, List.isPrefixOf, Bool.and_eq_false_imp]
      intro e
      have := beq_iff_eq.1 e
      rw [← this] at hc
      exact absurd hc (by decide)
  show (⟨(Lib.trimPrefix s.data.toList [239, 187, 191]).toArray⟩ : ByteArray) = s
  rw [Lib.trimPrefix, if_neg (by rw [hp]; decide)]
/-- What Read comes to. -/
def PostR (w : World) (o : Out E) (e : Ending) (w' : World) : Prop :=
  match o with
  | .ok x _ _ => ∃ cs, e = .returned (.tuple #[.agg cs.toArray, .int .i64 0]) ∧ IsE w' (fun k => w.heap.size ≤ k) x cs ∧ Below w.heap.size w w'
  | .fail c => e = .returned (.tuple #[zeroEV, .int .i64 c]) ∧ Below w.heap.size w w'
  | .unk => True
/-- The results' blocks. -/
structure RB (w W : World) : Prop where
  X : Blk W w.heap.size zeroE 26
  Y : Blk W (w.heap.size + 1) [.int .i64 0] 27
theorem results_two {tmps : Array Value} {w : World} {x0 x1 : Nat} {c0 c1 c2 c3 c4 : Value} {c : Int}
    (h2 : tmps.getD 2 undef = .pointer (some ⟨x0, 0, none⟩)) (h3 : tmps.getD 3 undef = .pointer (some ⟨x1, 0, none⟩)) (hX : Blk w x0 [c0, c1, c2, c3, c4] 26) (hY : Blk w x1 [.int .i64 c] 27) :
    (results Tryz.f11 tmps).run Tryz.prog w = .ok (.tuple #[.agg #[c0, c1, c2, c3, c4], .int .i64 c]) w := by
  have h2' : tmps[2]?.getD undef = .pointer (some ⟨x0, 0, none⟩) := by simpa using h2
  have h3' : tmps[3]?.getD undef = .pointer (some ⟨x1, 0, none⟩) := by simpa using h3
  have a0 : w.cell? ⟨x0, 0, none⟩ = some c0 := hX.cell 0
  have a1 : w.cell? ⟨x0, 1, none⟩ = some c1 := hX.cell 1
  have a2 : w.cell? ⟨x0, 2, none⟩ = some c2 := hX.cell 2
  have a3 : w.cell? ⟨x0, 3, none⟩ = some c3 := hX.cell 3
  have a4 : w.cell? ⟨x0, 4, none⟩ = some c4 := hX.cell 4
  have hc : w.cell? ⟨x1, 0, none⟩ = some (.int .i64 c) := hY.cell 0
  simp [results, Tryz.results11, h2', h3', asAddr, go_sem, a0, a1, a2, a3, a4, hc]
/-- The door, behind a failure. -/
theorem door_fail {R : Ending → World → Prop} {tmps : Array Value} {W : World} {x0 x1 : Nat} {v0 v1 v2 v3 v4 e0 : Value} (c : Int) (hX : Blk W x0 [v0, v1, v2, v3, v4] 26) (hY : Blk W x1 [e0] 27)
    (h2 : tmps.getD 2 undef = .pointer (some ⟨x0, 0, none⟩)) (h3 : tmps.getD 3 undef = .pointer (some ⟨x1, 0, none⟩)) (hR : ∀ W', Caught W W' x0 x1 c → R (.returned (.tuple #[zeroEV, .int .i64 c])) W') :
    Leaves Tryz.prog Tryz.f11 tmps R [{ target := .fn (.func 24) #[.pointer (some ⟨x0, 0, none⟩), .pointer (some ⟨x1, 0, none⟩)], args := #[] }] (.panicking (failure c)) W := by
  refine leaves_cons (f := 24) (args := #[.pointer (some ⟨x0, 0, none⟩), .pointer (some ⟨x1, 0, none⟩)]) (by simp) (by simp [go_sem]) ?_
  refine (catch_fail c x0 x1 v0 v1 v2 v3 v4 e0 W hX hY).mono ?_
  rintro e u' w'' ⟨rfl, rfl, hC⟩
  refine ⟨_, results_two h2 h3 hC.X hC.Y, hR _ hC⟩
/-- The door, behind a return. -/
theorem door_ok {R : Ending → World → Prop} {tmps : Array Value} {W : World} {x0 x1 : Nat} {c0 c1 c2 c3 c4 : Value} {c : Int} (hX : Blk W x0 [c0, c1, c2, c3, c4] 26) (hY : Blk W x1 [.int .i64 c] 27)
    (h2 : tmps.getD 2 undef = .pointer (some ⟨x0, 0, none⟩)) (h3 : tmps.getD 3 undef = .pointer (some ⟨x1, 0, none⟩)) (hR : R (.returned (.tuple #[.agg #[c0, c1, c2, c3, c4], .int .i64 c])) W) :
    Leaves Tryz.prog Tryz.f11 tmps R [{ target := .fn (.func 24) #[.pointer (some ⟨x0, 0, none⟩), .pointer (some ⟨x1, 0, none⟩)], args := #[] }] .returning W := by
  refine leaves_cons (f := 24) (args := #[.pointer (some ⟨x0, 0, none⟩), .pointer (some ⟨x1, 0, none⟩)]) (by simp) (by simp [go_sem]) ?_
  refine (catch_idle x0 x1 W).mono ?_
  rintro e u' w'' ⟨rfl, rfl, rfl⟩
  exact ⟨_, results_two h2 h3 hX hY, hR⟩
end Go.Proofs.YtmiflgcjphcigaaGreatDoor
