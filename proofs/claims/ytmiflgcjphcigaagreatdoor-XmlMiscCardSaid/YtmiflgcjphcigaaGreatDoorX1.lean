/-
  A part of the proof of statements on the element reader of package xml (X1): lemmas on what its functions come to; their conditions stand in each theorem.
-/
import Derived.Test.YtmiflgcjphcigaaGreatDoorProg
import Derived.Test.YtmiflgcjphcigaaGreatDoorXP
import Derived.WalkKit
import Derived.WalkSpells
import Derived.WalkLawsBesides
import Derived.OneCell
import Derived.Deep.QuietTactic
import Derived.BigQuiet
import Derived.Lib.Strings
import Derived.Lib.Hide
set_option linter.unusedVariables false
set_option linter.unusedSimpArgs false
namespace Go.Proofs.YtmiflgcjphcigaaGreatDoor
open Go.RowKit
/-! ## Words: the failure, the reader's block, what a call leaves alone -/
def failure (c : Int) : List PanicEntry := [{ v := .iface 49 (.agg #[.int .i64 c]), recovered := false }]
theorem must_ok (c : Int) (w : World) :
    Calls Tryz.prog 26 #[.bool true, .int .i64 c] w fun e w' => e = .returned (.tuple #[]) ∧ w' = w := by
  go_enter Tryz.func26, Tryz.ntmps26
  go_wp2
  go_end0
  exact ⟨rfl, rfl⟩
theorem must_no (c : Int) (w : World) :
    Calls Tryz.prog 26 #[.bool false, .int .i64 c] w fun e w' => e = .panicked (failure c) ∧ w' = w := by
  go_enter Tryz.func26, Tryz.ntmps26
  go_wp2
  exact ⟨rfl, rfl, rfl⟩
/-- The reader's block: the text, the place, how many. -/
def Rd (w : World) (b : Nat) (s : ByteArray) (a m : Nat) : Prop := w.heap[b]? = some (.cells #[.string s, .int .i64 a, .int .i64 m] 55 (0, 0))
section
variable {w : World} {b : Nat} {s : ByteArray} {a m : Nat}
theorem Rd.c0 (h : Rd w b s a m) : w.cell? ⟨b, 0, none⟩ = some (.string s) := by unfold Rd at h; simp [World.cell?, h]
theorem Rd.c1 (h : Rd w b s a m) : w.cell? ⟨b, 1, none⟩ = some (.int .i64 a) := by unfold Rd at h; simp [World.cell?, h]
theorem Rd.c2 (h : Rd w b s a m) : w.cell? ⟨b, 2, none⟩ = some (.int .i64 m) := by unfold Rd at h; simp [World.cell?, h]
theorem Rd.fr (h : Rd w b s a m) (o : Nat) : w.frozen? ⟨b, o, none⟩ = false := by unfold Rd at h; simp [World.frozen?, h]
theorem Rd.lt (h : Rd w b s a m) : b < w.heap.size := lt_of_block h
theorem Rd.drewN (h : Rd w b s a m) (n : Nat) : Rd (w.drewN n) b s a m := h
theorem Rd.set1 (h : Rd w b s a m) (a' : Nat) : Rd (w.setCell ⟨b, 1, none⟩ (.int .i64 a')) b s a' m := by
  have hlt := lt_of_block h
  have h' : w.heap[b] = .cells #[.string s, .int .i64 a, .int .i64 m] 55 (0, 0) := by simpa [Rd, Array.getElem?_eq_getElem hlt] using h
  show (w.heap.modify b _)[b]? = _
  rw [Array.getElem?_eq_getElem (by simpa using hlt), Array.getElem_modify_self, h']
  rfl
theorem Rd.set2 (h : Rd w b s a m) (m' : Nat) : Rd (w.setCell ⟨b, 2, none⟩ (.int .i64 m')) b s a m' := by
  have hlt := lt_of_block h
  have h' : w.heap[b] = .cells #[.string s, .int .i64 a, .int .i64 m] 55 (0, 0) := by simpa [Rd, Array.getElem?_eq_getElem hlt] using h
  show (w.heap.modify b _)[b]? = _
  rw [Array.getElem?_eq_getElem (by simpa using hlt), Array.getElem_modify_self, h']
  rfl
end
/-- New blocks, and writes to block b alone. -/
structure Kp (b : Nat) (w w' : World) : Prop where
  out : w.grownBy w' (some b)
section
variable {b : Nat} {u v w : World}
theorem Kp.refl (b : Nat) (w : World) : Kp b w w := ⟨⟨rfl, rfl, rfl, Nat.le_refl _, fun _ _ _ => rfl⟩⟩
theorem Kp.trans (h : Kp b u v) (k : Kp b v w) : Kp b u w :=
  ⟨⟨k.1.os.trans h.1.os, k.1.tape.trans h.1.tape, k.1.output.trans h.1.output, Nat.le_trans h.1.size k.1.size, fun i hi hn => (k.1.block i (Nat.lt_of_lt_of_le hi h.1.size) hn).trans (h.1.block i hi hn)⟩⟩
theorem Kp.drewN (h : Kp b u v) (n : Nat) : Kp b u (v.drewN n) := ⟨⟨h.1.os, h.1.tape, h.1.output, h.1.size, h.1.block⟩⟩
theorem Kp.set (h : Kp b u v) (o : Nat) (x : Value) : Kp b u (v.setCell ⟨b, o, none⟩ x) :=
  h.trans ⟨⟨rfl, rfl, rfl, by simp [World.setCell], fun k _ hk => Below.heap_setCell _ _ _ _ (fun e => hk (by rw [e]))⟩⟩
theorem Kp.size (h : Kp b u v) : u.heap.size ≤ v.heap.size := h.1.size
theorem Kp.block (h : Kp b u v) {k : Nat} (hk : k < u.heap.size) (hn : k ≠ b) : v.heap[k]? = u.heap[k]? := h.1.block k hk (fun e => hn (by injection e))
end
/-- The reader stands at the rest r of its text. -/
structure At (w : World) (b : Nat) (s : ByteArray) (r : List UInt8) (m : Nat) : Prop where
  gl : ∃ x, w.cell? ⟨5, 0, none⟩ = some (.int .i64 x)
  b5 : 5 < b
  sz : s.size < 4294967281
  asc : ∀ c ∈ s.data.toList, c.toNat < 128
  rd : ∃ a : Nat, a ≤ s.size ∧ s.data.toList.drop a = r ∧ Rd w b s a m
theorem drop_len {s : ByteArray} {a : Nat} {r : List UInt8} (hr : s.data.toList.drop a = r) : r.length = s.size - a := by
  rw [← hr, List.length_drop, Lib.size_eq]
theorem extract_rest (s : ByteArray) (a : Nat) : (s.extract a s.size).data.toList = s.data.toList.drop a := by
  rw [Lib.extract_data, List.take_of_length_le]
  rw [List.length_drop, Lib.size_eq]; omega
theorem At.drewN {w : World} {b : Nat} {s : ByteArray} {r : List UInt8} {m : Nat} (h : At w b s r m) (n : Nat) : At (w.drewN n) b s r m := ⟨h.gl, h.b5, h.sz, h.asc, h.rd⟩
theorem gl_kp {w w' : World} {b : Nat} (hb : 5 < b) (hk : Kp b w w') (h : ∃ x, w.cell? ⟨5, 0, none⟩ = some (.int .i64 x)) : ∃ x, w'.cell? ⟨5, 0, none⟩ = some (.int .i64 x) := by
  obtain ⟨x, hx⟩ := h
  have hlt : 5 < w.heap.size := by
    rcases Nat.lt_or_ge 5 w.heap.size with h' | h'
    · exact h'
    · simp [World.cell?, Array.getElem?_eq_none h'] at hx
  have hb' := hk.block (k := 5) hlt (by omega)
  exact ⟨x, by rw [World.cell?_of_block (w := w) (a := ⟨5, 0, none⟩) hb']; exact hx⟩
theorem At.goes {w w' : World} {b : Nat} {s : ByteArray} {r r' : List UInt8} {m m' a : Nat} (h : At w b s r m) (hk : Kp b w w') (ha : a ≤ s.size) (hr : s.data.toList.drop a = r') (hd : Rd w' b s a m') : At w' b s r' m' :=
  ⟨gl_kp h.b5 hk h.gl, h.b5, h.sz, h.asc, a, ha, hr, hd⟩
/-- What a call on the reader comes to, by its plain function. -/
def Post {α : Type} (b : Nat) (s : ByteArray) (w : World) (enc : α → Value) (o : Out α) (e : Ending) (w' : World) : Prop :=
  match o with
  | .ok x r m => e = .returned (enc x) ∧ At w' b s r m ∧ Kp b w w'
  | .fail c => e = .panicked (failure c) ∧ Kp b w w'
  | .unk => True
end Go.Proofs.YtmiflgcjphcigaaGreatDoor
