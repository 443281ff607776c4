/-
  A part of the proof of statements on the element reader of package xml (X16b): lemmas on what its functions come to; their conditions stand in each theorem.
-/
import Derived.Test.YtmiflgcjphcigaaGreatDoorX16
set_option linter.unusedVariables false
set_option linter.unusedSimpArgs false
namespace Go.Proofs.YtmiflgcjphcigaaGreatDoor
open Go.RowKit Go.Proofs.YtmiflgcjphcigaaGreatDoorW.PrintWords
/-- A goal more, for a walk that wants one. -/
theorem spare {A B : Prop} (a : A) (_ : B) : A := a
theorem typed_alloc {w : World} (o : Obj) (k : Nat) {c : Array Value} {t : TypeId} (h : w.heap[k]? = some (Obj.cells c t (0, 0))) : (w.alloc o).heap[k]? = w.heap[k]? := Below.heap_alloc w o k (lt_of_block h)
theorem CSt.alloc {b : Nat} {s : ByteArray} {w : World} {Z lb tb : Nat} {wr : World} {r : B} {m : Nat} {acc : B} {vl : Value} {l : List E} (h : CSt b s w Z lb tb wr r m acc vl l) (o : Obj) : CSt b s w Z lb tb (wr.alloc o) r m acc vl l :=
  ⟨h.A.alloc o, h.K.alloc o, h.L.alloc o, bf_alloc h.S o, h.N.move fun _ _ _ hk _ => typed_alloc o _ hk, Nat.le_trans h.z (by simp)⟩
theorem CSt.sm {b : Nat} {s : ByteArray} {w : World} {Z lb tb : Nat} {wr : World} {r : B} {m : Nat} {acc : B} {vl : Value} {l : List E} (h : CSt b s w Z lb tb wr r m acc vl l) {mb : Nat} {lm : List (B × B)} (hM : SM w mb lm) (hn : mb ≠ b) : SM wr mb lm :=
  hM.move (h.K.block hM.lt hn)
theorem IsE.cells {w : World} {ok : Nat → Prop} {x : E} {cs : List Value} (h : IsE w ok x cs) : ∃ sp nm tx A1 n1 c1 A2 n2 c2, cs = [.string (bs sp), .string (bs nm), .string (bs tx), .slice A1 n1 c1, .slice A2 n2 c2] := by
  cases h with
  | mk sp nm tx at_ ks va vk inner ha hao hk hko hks =>
    obtain ⟨A, c, rfl, _, _⟩ := own_rwn ha
    obtain ⟨A2, c2, rfl⟩ := own_slice hk
    exact ⟨_, _, _, _, _, _, _, _, _, rfl⟩
theorem CSt.put {b : Nat} {s : ByteArray} {w w2 W w3 W' W0 : World} {Z lb tb : Nat} {r : B} {m n c g cap : Nat} {acc : B} {A : Option Addr} {l : List E} {x : E} {inner cs : List Value} {v : Value}
    (hC2 : CSt b s w Z lb tb w2 r m acc (.slice A n c) l) (hC : CSt b s w Z lb tb W r m acc (.slice A n c) l) (hn : l.length = n) (hown : W.ownsRow Z 26 5 (.slice A n c) n inner)
    (hreps : Reps (IsE w2 (fun k => Z ≤ k ∧ some k ≠ (Value.slice A n c).ownBlock)) 5 l inner)
    (hmv : ∀ (k : Nat) (c : Array Value) (t : TypeId), w2.heap[k]? = some (Obj.cells c t (0, 0)) → (t = 26 ∨ t = 33) → W.heap[k]? = w2.heap[k]?)
    (hZ0 : Z ≤ W0.heap.size) (hlt : ∀ k, (Value.slice A n c).ownBlock = some k → k < W0.heap.size) (hx : IsE w2 (fun k => W0.heap.size ≤ k) x cs)
    (hg3 : W.grownBy w3 (Value.slice A n c).ownBlock) (hat3 : (Value.slice A n c).ownBlock = some g ∨ g = W.heap.size)
    (hown3 : w3.ownsRow Z 26 5 (.slice (some ⟨g, 0, none⟩) (n + 1) cap) (n + 1) (inner ++ zeroE))
    (hP : Put w3 W' Z g lb n cap inner cs v) (hv : v = .slice (some ⟨g, 0, none⟩) (n + 1) cap) (hbz : b < Z) (hw : w.heap.size ≤ Z) (hlz : Z ≤ lb) : CSt b s w Z lb tb W' r m acc v (l ++ [x]) := by
  have hzg : Z ≤ g := by
    rcases hat3 with h3 | h3
    · exact own_base hown g h3
    · rw [h3]; exact hC.z
  have hb3 : Below Z W w3 := pw_below_grown (Below.refl _ _) _ hC.z hg3 (fun k hk => own_base hown k hk)
  have hbl : Below Z W W' := hP.below hb3 hzg hlz
  have hx' : IsE W (fun k => Z ≤ k ∧ some k ≠ (Value.slice A n c).ownBlock) x cs := by
    refine hx.move (fun k hk _ => ⟨Nat.le_trans hZ0 hk, fun e => ?_⟩) (fun k c t _ hk ht => hmv k c t hk ht)
    have := hlt k e.symm
    omega
  obtain ⟨cg, hcg⟩ := own_typed hown3 g rfl
  have hL3 : Blk w3 lb [.slice A n c] 24 := Blk.grown hC.L hg3 hown
  have hS3 := bf_grown hC.S hg3 hown
  have hSW : Lib.IsBuilderF 86 5 Z tb (Lib.byteCells acc) W' := bf_move hS3 fun k c e fz hk he => hP.far k (typed_ne hk hcg (by rcases he with rfl | rfl <;> decide)) (typed_ne hk hL3.out (by rcases he with rfl | rfl <;> decide))
  subst hv
  refine { A := hC.A.belowB hbl hbz, K := hC.K.belowB hbl hw, L := hP.blk, S := hSW, N := ?_, z := Nat.le_trans hC.z hbl.size }
  refine kids_put hown hn hreps hmv hx' hg3 hat3 (fun k c t hkg hk ht => hP.far k hkg ?_) hP.own
  exact typed_ne hk hL3.out (by rcases ht with rfl | rfl <;> decide)
theorem IsE.weak {w : World} {ok ok' : Nat → Prop} {x : E} {cs : List Value} (h : IsE w ok x cs) (hk : ∀ k, ok k → ok' k) : IsE w ok' x cs := h.move (fun k h _ => hk k h) (fun _ _ _ _ _ _ => rfl)
theorem zero_kp {w6 W w2 : World} {b : Nat} (h : W.heap = (w6.alloc (.cells zeroE.toArray 26)).heap) (hb : b < w6.heap.size) (hk : Kp b W w2) : w2.heap[w6.heap.size]? = some (.cells zeroE.toArray 26 (0, 0)) := by
  have h0 : W.heap[w6.heap.size]? = some (.cells zeroE.toArray 26 (0, 0)) := by rw [h]; exact heap_alloc_new w6 _
  exact (hk.block (lt_of_block h0) (by omega)).trans h0
theorem At.restlen {w : World} {b : Nat} {s : ByteArray} {r : B} {m : Nat} (h : At w b s r m) : r.length ≤ s.size := by
  obtain ⟨a, _, hr, _⟩ := h.rd
  have := drop_len hr
  omega
end Go.Proofs.YtmiflgcjphcigaaGreatDoor
