/-
  A part of the proof of statements on the element reader of package xml (X20): lemmas on what its functions come to; their conditions stand in each theorem.
-/
import Derived.Test.YtmiflgcjphcigaaGreatDoorX19
import Derived.Recover
import Derived.RegionTactic
set_option linter.unusedVariables false
set_option linter.unusedSimpArgs false
namespace Go.Proofs.YtmiflgcjphcigaaGreatDoor
open Go.RowKit
/-- What the recovering leaves: the results' blocks. -/
structure Caught (w w' : World) (x0 x1 : Nat) (c : Int) : Prop where
  X : Blk w' x0 zeroE 26
  Y : Blk w' x1 [.int .i64 c] 27
  below : ∀ Z, Z ≤ x0 → Z ≤ x1 → Z ≤ w.heap.size → Below Z w w'
def zeroEV : Value := .agg #[.string ⟨#[]⟩, .string ⟨#[]⟩, .string ⟨#[]⟩, .slice none 0 0, .slice none 0 0]
set_option maxHeartbeats 1000000 in
set_option maxRecDepth 100000 in
theorem catch_fail (c : Int) (x0 x1 : Nat) (v0 v1 v2 v3 v4 : Value) (e0 : Value) (w : World) (h0 : Blk w x0 [v0, v1, v2, v3, v4] 26) (h1 : Blk w x1 [e0] 27) :
    CallsD Tryz.prog 24 #[.pointer (some ⟨x0, 0, none⟩), .pointer (some ⟨x1, 0, none⟩)] (.panicking (failure c)) w fun e u' w' =>
      e = .returned (.tuple #[]) ∧ u' = .panicking [{ v := .iface 49 (.agg #[.int .i64 c]), recovered := true }] ∧
      Caught w w' x0 x1 c := by
  have H0 := Lib.hid h0
  have H1 := Lib.hid h1
  have hne : Hid (x0 ≠ x1) := Lib.hid (by
    rintro rfl
    have := h0.out.symm.trans h1.out
    injection this with this
    injection this with _ h
    cases h)
  have hl0 := h0.lt
  have hl1 := h1.lt
  have a0 : (w.alloc (.cells #[.int .i64 c] 49)).cell? ⟨x0, 0, none⟩ = some v0 := (h0.alloc (.cells #[.int .i64 c] 49)).cell 0
  have a1 : (w.alloc (.cells #[.int .i64 c] 49)).cell? ⟨x0, 1, none⟩ = some v1 := (h0.alloc (.cells #[.int .i64 c] 49)).cell 1
  have a2 : (w.alloc (.cells #[.int .i64 c] 49)).cell? ⟨x0, 2, none⟩ = some v2 := (h0.alloc (.cells #[.int .i64 c] 49)).cell 2
  have a3 : (w.alloc (.cells #[.int .i64 c] 49)).cell? ⟨x0, 3, none⟩ = some v3 := (h0.alloc (.cells #[.int .i64 c] 49)).cell 3
  have a4 : (w.alloc (.cells #[.int .i64 c] 49)).cell? ⟨x0, 4, none⟩ = some v4 := (h0.alloc (.cells #[.int .i64 c] 49)).cell 4
  have f0 := (h0.alloc (.cells #[.int .i64 c] 49)).fr 0
  have f1 := (h0.alloc (.cells #[.int .i64 c] 49)).fr 1
  have f2 := (h0.alloc (.cells #[.int .i64 c] 49)).fr 2
  have f3 := (h0.alloc (.cells #[.int .i64 c] 49)).fr 3
  have f4 := (h0.alloc (.cells #[.int .i64 c] 49)).fr 4
  have b0 : (w.alloc (.cells #[.int .i64 c] 49)).cell? ⟨x1, 0, none⟩ = some e0 := (h1.alloc (.cells #[.int .i64 c] 49)).cell 0
  have g0 := (h1.alloc (.cells #[.int .i64 c] 49)).fr 0
  have c0 : w.cell? ⟨x0, 0, none⟩ = some v0 := h0.cell 0
  have d0 := h0.fr 0
  have c1 : w.cell? ⟨x0, 1, none⟩ = some v1 := h0.cell 1
  have d1 := h0.fr 1
  have c2 : w.cell? ⟨x0, 2, none⟩ = some v2 := h0.cell 2
  have d2 := h0.fr 2
  have c3 : w.cell? ⟨x0, 3, none⟩ = some v3 := h0.cell 3
  have d3 := h0.fr 3
  have c4 : w.cell? ⟨x0, 4, none⟩ = some v4 := h0.cell 4
  have d4 := h0.fr 4
  have e1 : w.cell? ⟨x1, 0, none⟩ = some e0 := h1.cell 0
  have e2 := h1.fr 0
  have n1 : ¬ x0 = x1 := hne.out
  have n2 : ¬ x1 = x0 := fun e => hne.out e.symm
  clear h0 h1
  refine callsD_of_wpS Tryz.func24 rfl fun c₀ cs hu => ?_
  apply wpS_seq
  apply wpS_region
  simp [wpOpsS, go_sem, recoverD, hu, Tryz.ntmps24, Exit.thenS, failure]
  refine wpS_of_wp ?_
  change Code.wp _ _ _ { tmps := #[.pointer (some ⟨x0, 0, none⟩), .pointer (some ⟨x1, 0, none⟩), undef, undef, undef, .iface 49 (.agg #[.int .i64 c]), undef, undef, undef, undef, undef, undef, undef, undef], defers := [] } _
  have hta : ∀ (v : Value) (w : World), (Instr.typeAssert (Value.iface 49 v) 20 49 true).run Tryz.prog w = .ok (.tuple #[v, .bool true]) w := fun _ _ => by rfl
  go_wp2
  go_region
  all_goals
    go_wp2
    refine ⟨rfl, .panicking [{ v := .iface 49 (.agg #[.int .i64 c]), recovered := true }], rfl, .tuple #[], ?_, rfl, rfl, ?_, ?_, ?_⟩
    · simp [results, Tryz.results24]
    · exact (((((((H0.out.set 0 _).set 1 _).set 2 _).set 3 _).set 4 _).set_ne (p := ⟨x1, 0, none⟩) hne.out _).alloc _).drewN 1
    · exact (((((((H1.out.set_ne (p := ⟨x0, 0, none⟩) n2 _).set_ne (p := ⟨x0, 1, none⟩) n2 _).set_ne (p := ⟨x0, 2, none⟩) n2 _).set_ne (p := ⟨x0, 3, none⟩) n2 _).set_ne (p := ⟨x0, 4, none⟩) n2 _).set 0 _).alloc _).drewN 1
    · intro Z z0 z1 z2
      exact (((((((((Below.refl Z w).setCell (p := ⟨x0, 0, none⟩) z0 _).setCell (p := ⟨x0, 1, none⟩) z0 _).setCell (p := ⟨x0, 2, none⟩) z0 _).setCell (p := ⟨x0, 3, none⟩) z0 _).setCell (p := ⟨x0, 4, none⟩) z0 _).setCell (p := ⟨x1, 0, none⟩) z1 _).alloc (by simpa [World.setCell] using z2) _)).drew


theorem catch_idle (x0 x1 : Nat) (w : World) :
    CallsD Tryz.prog 24 #[.pointer (some ⟨x0, 0, none⟩), .pointer (some ⟨x1, 0, none⟩)] .returning w fun e u' w' => e = .returned (.tuple #[]) ∧ u' = .returning ∧ w' = w := by
  refine callsD_of_wpS Tryz.func24 rfl fun c₀ cs hu => ?_
  apply wpS_seq
  apply wpS_region
  simp [wpOpsS, go_sem, recoverD, hu, Tryz.ntmps24, Exit.thenS]
  refine wpS_of_wp ?_
  change Code.wp _ _ _ { tmps := #[.pointer (some ⟨x0, 0, none⟩), .pointer (some ⟨x1, 0, none⟩), undef, undef, undef, .nilIface, undef, undef, undef, undef, undef, undef, undef, undef], defers := [] } _
  go_wp2
  cases c₀
  simp_all [bodyPostS, results, Tryz.results24]
end Go.Proofs.YtmiflgcjphcigaaGreatDoor
