/-
  A part of the proof of statements on the element reader of package xml (X21): lemmas on what its functions come to; their conditions stand in each theorem.
-/
import Derived.Test.YtmiflgcjphcigaaGreatDoorX20
import Derived.Lib.ValidAsc
import Derived.Lib.EndianBits
import Derived.Laws.BitsAllLaws
import Derived.Deep.CutBlock
set_option linter.unusedVariables false
set_option linter.unusedSimpArgs false
namespace Go.Proofs.YtmiflgcjphcigaaGreatDoor
open Go.RowKit
/-! ## utf8.Valid -/
/-- A row of bytes at a place. -/
structure Row (w : World) (bk o : Nat) (l : List UInt8) : Prop where
  at_ : ∀ (j : Nat) (x : UInt8), l[j]? = some x → w.cell? ⟨bk, o + j, none⟩ = some (.int .u8 x.toNat)
theorem Row.drewN {w : World} {bk o : Nat} {l : List UInt8} (h : Row w bk o l) (n : Nat) : Row (w.drewN n) bk o l := ⟨h.at_⟩
theorem Row.drop {w : World} {bk o : Nat} {l : List UInt8} (h : Row w bk o l) (n : Nat) : Row w bk (o + n) (l.drop n) :=
  ⟨fun j x hj => by rw [List.getElem?_drop] at hj; rw [Nat.add_assoc]; exact h.at_ _ x hj⟩
theorem Row.cell {w : World} {bk o : Nat} {l : List UInt8} (h : Row w bk o l) (j : Nat) (hj : j < l.length) : w.cell? ⟨bk, o + j, none⟩ = some (.int .u8 (l[j]'hj).toNat) := h.at_ j _ (List.getElem?_eq_getElem hj)
set_option maxHeartbeats 8000000 in
set_option maxRecDepth 100000 in
theorem word_row (bk o : Nat) (n c : Nat) (l : List UInt8) (w : World) (hR : Row w bk o l) (hl : 8 ≤ l.length) (hn : n = l.length) (ho : o + l.length < 4611686018427387904) :
    Calls Tryz.prog 76 #[.slice (some ⟨bk, o, none⟩) n c] w fun e w' => e = .returned (.int .u64 (Lib.leNat (l.take 8))) ∧ ∃ q, w' = w.drewN q := by
  subst hn
  match l, hl with
  | x0 :: x1 :: x2 :: x3 :: x4 :: x5 :: x6 :: x7 :: r, _ =>
    rw [show (x0 :: x1 :: x2 :: x3 :: x4 :: x5 :: x6 :: x7 :: r).take 8 = [x0, x1, x2, x3, x4, x5, x6, x7] from rfl]
    obtain ⟨N, hN⟩ : ∃ N, N = (x0 :: x1 :: x2 :: x3 :: x4 :: x5 :: x6 :: x7 :: r).length := ⟨_, rfl⟩
    have hN8 : 8 ≤ N := by rw [hN]; simp
    rw [← hN]
    rw [← hN] at ho
    have h0 : x0.toNat < 256 := x0.toNat_lt
    have c0 : w.cell? ⟨bk, o, none⟩ = some (.int .u8 x0.toNat) := hR.at_ 0 x0 rfl
    have q0 : (0 : Int) < (N : Int) := by omega
    have p0 : 0 < N := by omega
    have h1 : x1.toNat < 256 := x1.toNat_lt
    have c1 : w.cell? ⟨bk, o + 1, none⟩ = some (.int .u8 x1.toNat) := hR.at_ 1 x1 rfl
    have q1 : (1 : Int) < (N : Int) := by omega
    have p1 : 1 < N := by omega
    have h2 : x2.toNat < 256 := x2.toNat_lt
    have c2 : w.cell? ⟨bk, o + 2, none⟩ = some (.int .u8 x2.toNat) := hR.at_ 2 x2 rfl
    have q2 : (2 : Int) < (N : Int) := by omega
    have p2 : 2 < N := by omega
    have h3 : x3.toNat < 256 := x3.toNat_lt
    have c3 : w.cell? ⟨bk, o + 3, none⟩ = some (.int .u8 x3.toNat) := hR.at_ 3 x3 rfl
    have q3 : (3 : Int) < (N : Int) := by omega
    have p3 : 3 < N := by omega
    have h4 : x4.toNat < 256 := x4.toNat_lt
    have c4 : w.cell? ⟨bk, o + 4, none⟩ = some (.int .u8 x4.toNat) := hR.at_ 4 x4 rfl
    have q4 : (4 : Int) < (N : Int) := by omega
    have p4 : 4 < N := by omega
    have h5 : x5.toNat < 256 := x5.toNat_lt
    have c5 : w.cell? ⟨bk, o + 5, none⟩ = some (.int .u8 x5.toNat) := hR.at_ 5 x5 rfl
    have q5 : (5 : Int) < (N : Int) := by omega
    have p5 : 5 < N := by omega
    have h6 : x6.toNat < 256 := x6.toNat_lt
    have c6 : w.cell? ⟨bk, o + 6, none⟩ = some (.int .u8 x6.toNat) := hR.at_ 6 x6 rfl
    have q6 : (6 : Int) < (N : Int) := by omega
    have p6 : 6 < N := by omega
    have h7 : x7.toNat < 256 := x7.toNat_lt
    have c7 : w.cell? ⟨bk, o + 7, none⟩ = some (.int .u8 x7.toNat) := hR.at_ 7 x7 rfl
    have q7 : (7 : Int) < (N : Int) := by omega
    have p7 : 7 < N := by omega
    have hv : ((Lib.leNat [x0, x1, x2, x3, x4, x5, x6, x7] : Nat) : Int) = (x0.toNat : Int) + (x1.toNat : Int) * 256 + (x2.toNat : Int) * 65536 + (x3.toNat : Int) * 16777216 + (x4.toNat : Int) * 4294967296 + (x5.toNat : Int) * 1099511627776 + (x6.toNat : Int) * 281474976710656 + (x7.toNat : Int) * 72057594037927936 := by
      simp only [Lib.leNat]
      push_cast
      omega
    have Hv := Lib.hid hv
    clear hR hN hv
    go_enter Tryz.func76, Tryz.ntmps76
    go_wp2
    go_quiet (fail)
    go_wp2
    go_ret
    refine ⟨?_, _, rfl⟩
    simp (disch := omega) only [u64_wrap_id, u64_or8, u64_or16, u64_or24, u64_or32, u64_or40, u64_or48, u64_or56]
    rw [Hv.out]
    rfl
end Go.Proofs.YtmiflgcjphcigaaGreatDoor
