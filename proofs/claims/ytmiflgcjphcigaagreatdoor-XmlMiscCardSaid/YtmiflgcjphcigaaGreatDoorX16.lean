/-
  A part of the proof of statements on the element reader of package xml (X16): lemmas on what its functions come to; their conditions stand in each theorem.
-/
import Derived.Test.YtmiflgcjphcigaaGreatDoorX15
set_option linter.unusedVariables false
set_option linter.unusedSimpArgs false
namespace Go.Proofs.YtmiflgcjphcigaaGreatDoor
open Go.RowKit Go.Proofs.YtmiflgcjphcigaaGreatDoorW.PrintWords
/-! ## The state of content's loop -/
structure CSt (b : Nat) (s : ByteArray) (w : World) (Z lb tb : Nat) (wr : World) (r : B) (m : Nat) (acc : B) (vl : Value) (l : List E) : Prop where
  A : At wr b s r m
  K : Kp b w wr
  L : Blk wr lb [vl] 24
  S : Lib.IsBuilderF 86 5 Z tb (Lib.byteCells acc) wr
  N : Kids wr Z vl l
  z : Z ≤ wr.heap.size
section
variable {b : Nat} {s : ByteArray} {w : World} {Z lb tb : Nat} {wr w' : World} {r r2 : B} {m m2 : Nat} {acc : B} {vl : Value} {l : List E}
theorem CSt.drewN (h : CSt b s w Z lb tb wr r m acc vl l) (n : Nat) : CSt b s w Z lb tb (wr.drewN n) r m acc vl l :=
  ⟨h.A.drewN n, h.K.drewN n, h.L.drewN n, bf_drewN h.S n, h.N.move fun _ _ _ _ _ => rfl, h.z⟩
theorem CSt.kp (h : CSt b s w Z lb tb wr r m acc vl l) (hA : At w' b s r2 m2) (hk : Kp b wr w') (hne : lb ≠ b) : CSt b s w Z lb tb w' r2 m2 acc vl l :=
  ⟨hA, h.K.trans hk, h.L.kp hk hne, bf_kp h.S h.A hk, h.N.kp h.A hk, Nat.le_trans h.z hk.size⟩
theorem CSt.wrote (h : CSt b s w Z lb tb wr r m acc vl l) {cs : List Value} {acc2 : B} (hb : Lib.BuilderAtF 86 5 Z tb (.pointer (some ⟨tb, 0, none⟩)) cs w') (hc : cs = Lib.byteCells acc2) (hbl : Below Z wr w') (ho : Lib.OthersKept 5 (some tb) wr w') (hbz : b < Z) (hw : w.heap.size ≤ Z) (hne : lb ≠ tb) : CSt b s w Z lb tb w' r m acc2 vl l := by
  obtain ⟨ct, hct⟩ := bf_block h.S
  subst hc
  exact ⟨h.A.belowB hbl hbz, h.K.belowB hbl hw, h.L.others ho hne, .inr hb, h.N.others ho hct, Nat.le_trans h.z hbl.size⟩
theorem CSt.flushed (h : CSt b s w Z lb tb wr r m acc vl l) {vl' : Value} {l' : List E} (hS : Lib.IsBuilderF 86 5 Z tb [] w') (hL : Blk w' lb [vl'] 24) (hN : Kids w' Z vl' l') (hb : Below Z wr w') (hbz : b < Z) (hw : w.heap.size ≤ Z) : CSt b s w Z lb tb w' r m [] vl' l' :=
  ⟨h.A.belowB hb hbz, h.K.belowB hb hw, hL, hS, hN, Nat.le_trans h.z hb.size⟩
end
theorem flush_len (acc : B) (l : List E) : (flushP' acc l).length ≤ l.length + 1 := by
  unfold flushP'
  split <;> simp
/-- What element comes to. -/
def PostE (b : Nat) (s : ByteArray) (w : World) (o : Out E) (e : Ending) (w' : World) : Prop :=
  match o with
  | .ok x r m => ∃ cs, e = .returned (.agg cs.toArray) ∧ IsE w' (fun k => w.heap.size ≤ k) x cs ∧ At w' b s r m ∧ Kp b w w'
  | .fail c => e = .panicked (failure c) ∧ Kp b w w'
  | .unk => True
/-- What content comes to. -/
def PostC (b : Nat) (s : ByteArray) (w : World) (o : Out (List E)) (e : Ending) (w' : World) : Prop :=
  match o with
  | .ok l r m => ∃ v, e = .returned v ∧ Kids w' w.heap.size v l ∧ l.length < 4294967296 ∧ At w' b s r m ∧ Kp b w w'
  | .fail c => e = .panicked (failure c) ∧ Kp b w w'
  | .unk => True
theorem postC_fail {b : Nat} {s : ByteArray} {w w' : World} {o : Out (List E)} {c : Int} (ho : Hid (o = .fail c)) (hk : Kp b w w') : PostC b s w o (.panicked (failure c)) w' := by
  rw [ho.out]; exact ⟨rfl, hk⟩
theorem postC_ok {b : Nat} {s : ByteArray} {w w' : World} {o : Out (List E)} {l : List E} {r : B} {m : Nat} {v : Value} (ho : Hid (o = .ok l r m)) (hN : Kids w' w.heap.size v l) (hl : l.length < 4294967296) (hA : At w' b s r m) (hk : Kp b w w') : PostC b s w o (.returned v) w' := by
  rw [ho.out]; exact ⟨v, rfl, hN, hl, hA, hk⟩
theorem postE_fail {b : Nat} {s : ByteArray} {w w' : World} {o : Out E} {c : Int} (ho : Hid (o = .fail c)) (hk : Kp b w w') : PostE b s w o (.panicked (failure c)) w' := by
  rw [ho.out]; exact ⟨rfl, hk⟩
/-- What is known of element, for that much fuel. -/
def ElemOK (k : Nat) : Prop := ∀ (b : Nat) (s : ByteArray) (r : B) (m : Nat) (w : World) (mb : Nat) (lm : List (B × B)) (deep : Nat), At w b s r m → SM w mb lm → deep ≤ 257 → elemQ k (lookL lm) deep r m ≠ .unk →
  Calls Tryz.prog 33 #[.pointer (some ⟨b, 0, none⟩), .map (some mb), .int .i64 deep] w (PostE b s w (elemQ k (lookL lm) deep r m))
def ContOK (k : Nat) : Prop := ∀ (b : Nat) (s : ByteArray) (r : B) (m : Nat) (w : World) (mb : Nat) (lm : List (B × B)) (deep : Nat), At w b s r m → SM w mb lm → deep ≤ 256 → contQ k (lookL lm) deep [] [] r m ≠ .unk →
  Calls Tryz.prog 57 #[.pointer (some ⟨b, 0, none⟩), .map (some mb), .int .i64 deep] w (PostC b s w (contQ k (lookL lm) deep [] [] r m))
end Go.Proofs.YtmiflgcjphcigaaGreatDoor
