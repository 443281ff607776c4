/-
  A part of the proof of statements on the element reader of package xml (X10a): lemmas on what its functions come to; their conditions stand in each theorem.
-/
import Derived.Test.YtmiflgcjphcigaaGreatDoorX9
set_option linter.unusedVariables false
set_option linter.unusedSimpArgs false
namespace Go.Proofs.YtmiflgcjphcigaaGreatDoor
open Go.RowKit
theorem bf_move {Z tb : Nat} {l : List Value} {w w' : World} (h : Lib.IsBuilderF 86 5 Z tb l w) (hm : ∀ (k : Nat) (c : Array Value) (e : TypeId) (fz : Nat × Nat), w.heap[k]? = some (Obj.cells c e fz) → (e = 5 ∨ e = 86) → w'.heap[k]? = w.heap[k]?) : Lib.IsBuilderF 86 5 Z tb l w' := by
  have key : ∀ p, Lib.BuilderAtF 86 5 Z tb p l w → Lib.BuilderAtF 86 5 Z tb p l w' := by
    rintro p ⟨hB, v, hb, hown, hne⟩
    refine ⟨hB, v, (hm tb _ _ _ hb (Or.inr rfl)).trans hb, ⟨hown.1, ?_⟩, hne⟩
    rcases hown.2 with hn | ⟨g, cap, cur, fz, hv, hbg, hg, rest⟩
    · exact .inl hn
    · exact .inr ⟨g, cap, cur, fz, hv, hbg, (hm g _ _ _ hg (Or.inl rfl)).trans hg, rest⟩
  exact h.elim (fun x => .inl (key _ x)) (fun x => .inr (key _ x))
theorem bf_kp {Z tb : Nat} {l : List Value} {w w' : World} {b : Nat} {s : ByteArray} {r : B} {m : Nat} (h : Lib.IsBuilderF 86 5 Z tb l w) (hA : At w b s r m) (hk : Kp b w w') : Lib.IsBuilderF 86 5 Z tb l w' := by
  refine bf_move h fun k c e fz hk' he => hk.block (lt_of_block hk') ?_
  rintro rfl
  obtain ⟨a, _, _, hR⟩ := hA.rd
  unfold Rd at hR
  rw [hR] at hk'
  injection hk' with hk'
  injection hk' with _ h2
  rcases he with rfl | rfl <;> cases h2
theorem bf_drewN {Z tb : Nat} {l : List Value} {w : World} (h : Lib.IsBuilderF 86 5 Z tb l w) (n : Nat) : Lib.IsBuilderF 86 5 Z tb l (w.drewN n) := bf_move h fun _ _ _ _ _ _ => rfl
theorem bf_set {Z tb : Nat} {l : List Value} {w : World} {g : Nat} {cs : List Value} {t : TypeId} (h : Lib.IsBuilderF 86 5 Z tb l w) (hb : w.heap[g]? = some (.cells cs.toArray t (0, 0))) (h5 : t ≠ 5) (h86 : t ≠ 86) (o : Nat) (x : Value) : Lib.IsBuilderF 86 5 Z tb l (w.setCell ⟨g, o, none⟩ x) := by
  refine bf_move h fun k c e fz hk' he => Below.heap_setCell w ⟨g, o, none⟩ x k ?_
  rintro rfl
  rw [hb] at hk'
  injection hk' with hk'
  injection hk' with _ h2
  rcases he with rfl | rfl
  · exact h5 h2
  · exact h86 h2
theorem Kp.belowB {b Z : Nat} {u v w : World} (h : Kp b u v) (hb : Below Z v w) (hB : u.heap.size ≤ Z) : Kp b u w :=
  ⟨⟨hb.os.trans h.1.os, hb.tape.trans h.1.tape, hb.output.trans h.1.output, Nat.le_trans h.1.size hb.size, fun k hk hn => (hb.block k (by omega)).trans (h.1.block k hk hn)⟩⟩
theorem At.belowB {w w' : World} {b Z : Nat} {s : ByteArray} {r : List UInt8} {m : Nat} (h : At w b s r m) (hb : Below Z w w') (hB : b < Z) : At w' b s r m := by
  obtain ⟨a, ha, hr, hR⟩ := h.rd
  obtain ⟨x, hx⟩ := h.gl
  exact ⟨⟨x, (World.cell?_of_block (w := w) (a := ⟨5, 0, none⟩) (hb.block 5 (by have := h.b5; omega))).trans hx⟩, h.b5, h.sz, h.asc, a, ha, hr, (hb.block b hB).trans hR⟩
theorem bytes_snoc (l : B) (c : UInt8) : Lib.byteCells l ++ [.int .u8 c.toNat] = Lib.byteCells (l ++ [c]) := by simp [Lib.byteCells]
theorem bytes_app (l k : B) : Lib.byteCells l ++ Lib.strCells (bs k) = Lib.byteCells (l ++ k) := by rw [Lib.strCells_eq, bs_data, Lib.byteCells_append]
end Go.Proofs.YtmiflgcjphcigaaGreatDoor
