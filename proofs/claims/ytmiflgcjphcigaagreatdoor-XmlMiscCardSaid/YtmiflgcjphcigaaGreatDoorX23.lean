/-
  A part of the proof of statements on the element reader of package xml (X23): lemmas on what its functions come to; their conditions stand in each theorem.
-/
import Derived.Test.YtmiflgcjphcigaaGreatDoorX22
import Derived.Laws.RangeAny
import Derived.LoopTactic
set_option linter.unusedVariables false
set_option linter.unusedSimpArgs false
namespace Go.Proofs.YtmiflgcjphcigaaGreatDoor
open Go.RowKit
def isRuneB (r : Int) : Bool := decide (r = 9 ∨ r = 10 ∨ r = 13 ∨ 32 ≤ r ∧ r ≤ 55295 ∨ 57344 ≤ r ∧ r ≤ 65533 ∨ 65536 ≤ r ∧ r ≤ 1114111)
theorem isRune_any (r : Int) (w : World) : Calls Tryz.prog 37 #[.int .i32 r] w fun e w' => e = .returned (.bool (isRuneB r)) ∧ w' = w := by
  go_enter Tryz.func37, Tryz.ntmps37
  go_wp2
  all_goals
    go_ret
    refine ⟨ret_bool ?_, rfl⟩
    rw [Bool.eq_iff_iff]
    simp [isRuneB]
    omega
/-- Are the runes of a string, from a place on, such as may stand in a text? -/
def runesFrom (s : ByteArray) : Nat → Nat → Bool
  | 0, _ => true
  | f + 1, pos => if pos < s.size then isRuneB (Utf8.decode s pos).1 && runesFrom s f (pos + (Utf8.decode s pos).2) else true
theorem runesFrom_end (s : ByteArray) (f pos : Nat) (h : ¬ pos < s.size) : runesFrom s f pos = true := by
  cases f with
  | zero => rfl
  | succ f => rw [runesFrom, if_neg h]
theorem width_pos (s : ByteArray) (pos : Nat) (h : pos < s.size) : 1 ≤ (Utf8.decode s pos).2 := by
  by_cases ha : (s[pos]'h).toNat < 128
  · rw [decode_ascii s pos h ha]
    exact Nat.le_refl _
  · exact (decode_high s pos h (by omega)).2
theorem below_iter (w : World) (s : ByteArray) (pos : Nat) : Below w.heap.size w (w.iter s pos) := (Below.refl _ w).alloc (Nat.le_refl _) _
theorem utfValid_gen (V : Bool) (v : Value) (w : World) (h : Calls Tryz.prog 58 #[v] w fun e w' => e = .returned (.bool V) ∧ Below w.heap.size w w') :
    Calls Tryz.prog 38 #[v] w fun e w' => e = .returned (.bool V) ∧ Below w.heap.size w w' := by
  have H := Lib.hid h
  clear h
  go_enter Tryz.func38, Tryz.ntmps38
  go_wp2_with fail
  refine H.out.mono ?_
  rintro e w1 ⟨rfl, hb⟩
  go_wp2
  go_ret
  exact ⟨rfl, hb⟩
theorem bytes_row (w : World) (s : ByteArray) : Row (Lib.bytesWorld w 5 s) w.heap.size 0 s.data.toList :=
  ⟨fun j x hj => by
    have hlt : j < s.size := by
      rw [Lib.size_eq]
      rcases Nat.lt_or_ge j s.data.toList.length with h | h
      · exact h
      · rw [List.getElem?_eq_none h] at hj; cases hj
    rw [Nat.zero_add, Lib.bytesWorld_cell w 5 s j hlt, List.getD_eq_getElem?_getD, hj]
    rfl⟩
theorem grown_cap (w : World) (s : ByteArray) : s.size ≤ grownCap w s.size 0 5 := by
  exact grownCap_ge w s.size 0 5
set_option maxHeartbeats 1000000 in
theorem isText_gen (s : ByteArray) (V : Bool) (w : World) (hs : s.size < 4294967296)
    (hV : ∀ (bk c : Nat) (W : World), Below w.heap.size w W → Row W bk 0 s.data.toList → s.size ≤ c → Calls Tryz.prog 58 #[.slice (some ⟨bk, 0, none⟩) s.size c] W fun e w' => e = .returned (.bool V) ∧ Below W.heap.size W w') :
    Calls Tryz.prog 15 #[.string s] w fun e w' => e = .returned (.bool (runesFrom s s.size 0 && V)) ∧ Below w.heap.size w w' := by
  have HV := Lib.hid hV
  clear hV
  obtain ⟨R, hR⟩ : ∃ R, R = runesFrom s s.size 0 := ⟨_, rfl⟩
  rw [← hR]
  have HR := Lib.hid hR
  clear hR
  go_enter Tryz.func15, Tryz.ntmps15
  go_wp2
  go_loopw [] (fun wr => Aside (∃ (pos f : Nat), wr = w.iter s pos ∧ runesFrom s f pos = R ∧ s.size ≤ pos + f)) (fun wr => s.size - wr.iterPos w.heap.size)
  case atStart => exact ⟨0, s.size, rfl, HR.out.symm, by omega⟩
  case round =>
    obtain ⟨pos, f, rfl, hr, hf⟩ := hrel.out
    clear hrel
    have Hr := Lib.hid hr
    clear hr
    by_cases hp : pos < s.size
    · have hnx : ∀ ty, (Instr.next (.pointer (some ⟨w.heap.size, 0, none⟩)) true ty).run Tryz.prog (w.iter s pos) = _ := fun ty => Go.run_next_any w s pos ty hp
      have hwd := width_pos s pos hp
      obtain ⟨f, rfl⟩ : ∃ g, f = g + 1 := ⟨f - 1, by omega⟩
      go_wp2_with fail
      refine (isRune_any _ _).mono ?_
      rintro e w6 ⟨rfl, rfl⟩
      cases hi : isRuneB (Utf8.decode s pos).1 with
      | true =>
        have Hi := Lib.hid hi
        clear hi
        go_wp2
        go_roundw
        case rel =>
          exact ⟨pos + (Utf8.decode s pos).2, f, rfl, by rw [← Hr.out, runesFrom, if_pos hp, Hi.out, Bool.true_and], by omega⟩
        case measure =>
          simp
          omega
      | false =>
        have hRf : R = false := by rw [← Hr.out, runesFrom, if_pos hp, hi, Bool.false_and]
        subst hRf
        clear hi Hr HR
        go_wp2
        go_ret
        exact ⟨rfl, below_iter _ _ _⟩
    · have hnx : ∀ ty, (Instr.next (.pointer (some ⟨w.heap.size, 0, none⟩)) true ty).run Tryz.prog (w.iter s pos) = _ := fun ty => Go.run_next_end w s pos ty hp
      have hRt : R = true := by rw [← Hr.out, runesFrom_end s f pos hp]
      subst hRt
      clear Hr HR
      have hconv : (convert 9 30 (.string s)).run Tryz.prog (w.iter s pos) = _ := Lib.run_convert_string_bytes (w.iter s pos) 9 30 5 s Tryz.underlying9 Tryz.underlying30 Tryz.underlying5
      go_wp2_with fail
      have hbb := Lib.bytesWorld_below (w.iter s pos) 5 s
      have hb0 := below_iter w s pos
      have hb1 : Below w.heap.size w (Lib.bytesWorld (w.iter s pos) 5 s) := hb0.trans (hbb.mono hb0.size)
      refine (utfValid_gen V _ _ (HV.out _ _ _ hb1 (bytes_row _ _) (grown_cap _ _))).mono ?_
      rintro e w7 ⟨rfl, hb7⟩
      go_wp2
      go_ret
      exact ⟨rfl, hb1.trans (hb7.mono hb1.size)⟩
theorem okByte_asc {c : UInt8} (h : okByte c = true) : c.toNat < 128 := by
  unfold okByte at h
  simp at h
  exact h.1
theorem okByte_rune {c : UInt8} (h : okByte c = true) : isRuneB (c.toNat : Nat) = true := by
  unfold okByte at h
  unfold isRuneB
  simp at h ⊢
  obtain ⟨h1, (h | h) | h⟩ := h
  · subst h; decide
  · subst h; decide
  · omega
theorem runesFrom_ok (s : ByteArray) (h : s.data.toList.all okByte = true) : ∀ (f pos : Nat), runesFrom s f pos = true := by
  intro f
  induction f with
  | zero => intro pos; rfl
  | succ f ih =>
    intro pos
    rw [runesFrom]
    by_cases hp : pos < s.size
    · have hm : s[pos] ∈ s.data.toList := by
        have h2 : pos < s.data.toList.length := by rw [← Lib.size_eq]; exact hp
        exact List.getElem_mem h2
      have ho := List.all_eq_true.1 h _ hm
      rw [if_pos hp, decode_ascii s pos hp (okByte_asc ho)]
      rw [show (((s[pos].toNat, 1) : Nat × Nat).1 : Int) = ((s[pos].toNat : Nat) : Int) from rfl, okByte_rune ho, ih]
      rfl
    · rw [if_neg hp]
theorem isText_ok (s : ByteArray) (w : World) (hs : s.size < 4294967281) (h : s.data.toList.all okByte = true) :
    Calls Tryz.prog 15 #[.string s] w fun e w' => e = .returned (.bool true) ∧ Below w.heap.size w w' := by
  have h1 := isText_gen s true w (by omega) fun bk c W _ hR hc =>
    (valid_asc bk s.size c s.data.toList W hR (fun b hb => okByte_asc (List.all_eq_true.1 h b hb)) (Lib.size_eq s) (by rw [← Lib.size_eq]; exact hc) (by rw [← Lib.size_eq]; omega)).mono fun e w' h => by
      obtain ⟨he, q, hw⟩ := h
      exact ⟨he, by rw [hw]; exact below_drewN (Below.refl _ _) q⟩
  rw [runesFrom_ok s h] at h1
  exact h1
end Go.Proofs.YtmiflgcjphcigaaGreatDoor
