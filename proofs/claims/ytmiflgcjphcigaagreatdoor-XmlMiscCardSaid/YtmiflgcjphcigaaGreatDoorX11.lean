/-
  A part of the proof of statements on the element reader of package xml (X11): lemmas on what its functions come to; their conditions stand in each theorem.
-/
import Derived.Test.YtmiflgcjphcigaaGreatDoorX10
set_option linter.unusedVariables false
set_option linter.unusedSimpArgs false
namespace Go.Proofs.YtmiflgcjphcigaaGreatDoor
open Go.RowKit
abbrev Trip := B × B × B
def tripC (x : Trip) : List Value := [.string (bs x.1), .string (bs x.2.1), .string (bs x.2.2)]
def tripV (x : Trip) : Value := .agg #[.string (bs x.1), .string (bs x.2.1), .string (bs x.2.2)]
/-- The cells from an address on hold triples, one behind the other. -/
def RwN (w : World) (A : Option Addr) (l : List Trip) : Prop :=
  ∀ i x, l[i]? = some x → ∃ g, A = some ⟨g, 0, none⟩ ∧ w.cell? ⟨g, i * 3, none⟩ = some (.string (bs x.1)) ∧ w.cell? ⟨g, i * 3 + 1, none⟩ = some (.string (bs x.2.1)) ∧ w.cell? ⟨g, i * 3 + 2, none⟩ = some (.string (bs x.2.2))
theorem RwN.take {w : World} {A : Option Addr} {l : List Trip} (h : RwN w A l) (n : Nat) : RwN w A (l.take n) := by
  intro i x hx
  rw [List.getElem?_take] at hx
  split at hx
  · exact h i x hx
  · cases hx
theorem cell_lt {w : World} {g o : Nat} {v : Value} (h : w.cell? ⟨g, o, none⟩ = some v) : g < w.heap.size := by
  rcases Nat.lt_or_ge g w.heap.size with h' | h'
  · exact h'
  · simp [World.cell?, Array.getElem?_eq_none h'] at h
theorem RwN.below {w w' : World} {A : Option Addr} {l : List Trip} (h : RwN w A l) (hb : Below w.heap.size w w') : RwN w' A l := by
  intro i x hx
  obtain ⟨g, hg, h0, h1, h2⟩ := h i x hx
  have hlt := cell_lt h0
  exact ⟨g, hg, (hb.cell (p := ⟨g, i * 3, none⟩) hlt).trans h0, (hb.cell (p := ⟨g, i * 3 + 1, none⟩) hlt).trans h1, (hb.cell (p := ⟨g, i * 3 + 2, none⟩) hlt).trans h2⟩
theorem any_take_succ {l : List Trip} {p : Trip → Bool} {k : Nat} {x : Trip} (hx : l[k]? = some x) (h : (l.take k).any p = false) : (l.take (k + 1)).any p = p x := by
  rw [List.take_add_one, hx, List.any_append, h]
  simp
theorem any_of {l : List Trip} {p : Trip → Bool} {k : Nat} {x : Trip} (hx : l[k]? = some x) (h : p x = true) : l.any p = true :=
  List.any_eq_true.2 ⟨x, List.mem_of_getElem? hx, h⟩
theorem clo_77 (x y : Trip) (xb : Nat) (w : World) (hx : Blk w xb (tripC x) 77) :
    Calls Tryz.prog 70 #[tripV y, .pointer (some ⟨xb, 0, none⟩)] w fun e w' => e = .returned (.bool (dup x y)) ∧ Below w.heap.size w w' := by
  have c0 : w.cell? ⟨xb, 0, none⟩ = some (.string (bs x.1)) := hx.cell 0
  have c1 : w.cell? ⟨xb, 1, none⟩ = some (.string (bs x.2.1)) := hx.cell 1
  have hlt := hx.lt
  have e1 := Lib.hid (bs_beq x.1 y.1)
  have e2 := Lib.hid (bs_beq x.2.1 y.2.1)
  clear hx
  unfold tripV
  cases h1 : (x.1 == y.1) with
  | false =>
    have hd : Hid (dup x y = false) := by unfold dup; rw [h1]; rfl
    have h1' : ((bs x.1).toList == (bs y.1).toList) = false := by rw [bs_toList, bs_toList]; exact h1
    clear h1
    go_enter Tryz.func70, Tryz.ntmps70
    go_wp2
    go_ret
    exact ⟨ret_bool hd.out.symm, (Below.refl _ _).alloc (Nat.le_refl _) _⟩
  | true =>
    have hd : Hid (dup x y = (x.2.1 == y.2.1)) := by unfold dup; rw [h1]; rfl
    have h1' : ((bs x.1).toList == (bs y.1).toList) = true := by rw [bs_toList, bs_toList]; exact h1
    have h1'' := Lib.hid h1
    have h2' : ((bs x.2.1).toList == (bs y.2.1).toList) = (x.2.1 == y.2.1) := by rw [bs_toList, bs_toList]
    obtain ⟨q, hq⟩ : ∃ q, q = (x.2.1 == y.2.1) := ⟨_, rfl⟩
    rw [← hq] at h2' hd
    clear h1 hq
    go_enter Tryz.func70, Tryz.ntmps70
    go_wp2
    all_goals
      go_ret
      exact ⟨ret_bool hd.out.symm, (Below.refl _ _).alloc (Nat.le_refl _) _⟩
set_option maxHeartbeats 1000000 in
theorem idx_77 (x : Trip) (xb : Nat) (A : Option Addr) (cap : Nat) (l : List Trip) (w : World) (hx : Blk w xb (tripC x) 77) (hl : RwN w A l) (hn : l.length ≤ 4294967296) :
    Calls Tryz.prog 88 #[.slice A l.length cap, .func (.func 70) #[] #[.pointer (some ⟨xb, 0, none⟩)]] w fun e w' => Below w.heap.size w w' ∧ ∃ i : Int, e = .returned (.int .i64 i) ∧ decide (0 ≤ i) = l.any (dup x) := by
  have HX := Lib.hid hx
  have HL := Lib.hid hl
  clear hx hl
  go_enter Tryz.func88, Tryz.ntmps88
  go_wp2
  go_loopg [8] l.length (fun k v wr => ∃ i : Nat, v = .int .i64 i ∧ Aside (i + k = l.length ∧ (l.take i).any (dup x) = false ∧ Below w.heap.size w wr))
  case atStart => exact ⟨0, rfl, by omega, by simp, Below.refl _ _⟩
  case round =>
    obtain ⟨i, rfl, hA⟩ := hrel
    obtain ⟨hi, hany, hb⟩ := hA.out
    clear hA
    have HB := Lib.hid hb
    have HN := Lib.hid hany
    clear hb hany
    by_cases hlt : i < l.length
    · have hd1 : decide ((i : Int) < (l.length : Int)) = true := by simp; omega
      obtain ⟨y, hy⟩ : ∃ y, l[i]? = some y := ⟨_, List.getElem?_eq_getElem hlt⟩
      obtain ⟨g, rfl, c0, c1, c2⟩ := (HL.out.below HB.out) i y hy
      have Hy := Lib.hid hy
      clear hy
      have HXr := Lib.hid (HX.out.below HB.out HX.out.lt)
      go_wp2_with fail
      refine (clo_77 x y xb wr HXr.out).mono ?_
      rintro e w1 ⟨rfl, hb1⟩
      have HB1 := Lib.hid (HB.out.trans (hb1.mono HB.out.size))
      clear hb1 c0 c1 c2
      cases hd : dup x y with
      | true =>
        have Hd := Lib.hid hd
        clear hd
        go_wp2
        go_ret
        refine ⟨HB1.out, i, rfl, ?_⟩
        rw [any_of Hy.out Hd.out]
        simp
      | false =>
        have Hd := Lib.hid hd
        clear hd
        go_wp2
        go_roundg (l.length - (i + 1))
        case measure => omega
        case rel => exact ⟨i + 1, by go_num, by omega, by rw [any_take_succ Hy.out HN.out]; exact Hd.out, HB1.out⟩
    · have hd1 : decide ((i : Int) < (l.length : Int)) = false := by simp; omega
      go_wp2
      go_ret
      refine ⟨HB.out, -1, rfl, ?_⟩
      have := HN.out
      rw [List.take_of_length_le (by omega)] at this
      rw [this]
      rfl
set_option maxHeartbeats 1000000 in
theorem has_77 (x : Trip) (xb : Nat) (A : Option Addr) (cap n : Nat) (l : List Trip) (w : World) (hx : Blk w xb (tripC x) 77) (hl : RwN w A l) (hn : l.length ≤ 4294967296) (hnl : n = l.length) :
    Calls Tryz.prog 69 #[.slice A n cap, .func (.func 70) #[] #[.pointer (some ⟨xb, 0, none⟩)]] w fun e w' => e = .returned (.bool (l.any (dup x))) ∧ Below w.heap.size w w' := by
  subst hnl
  go_enter Tryz.func69, Tryz.ntmps69
  go_wp2_with fail
  refine (idx_77 x xb A cap l w hx hl hn).mono ?_
  rintro e w1 ⟨hb, i, rfl, hi⟩
  have Hi := Lib.hid hi
  have HB := Lib.hid hb
  clear hi hb hx hl
  go_wp2
  go_ret
  exact ⟨ret_bool Hi.out, HB.out⟩
theorem clo_33 (x y : Trip) (xb : Nat) (w : World) (hx : Blk w xb (tripC x) 33) :
    Calls Tryz.prog 72 #[tripV y, .pointer (some ⟨xb, 0, none⟩)] w fun e w' => e = .returned (.bool (dup x y)) ∧ Below w.heap.size w w' := by
  have c0 : w.cell? ⟨xb, 0, none⟩ = some (.string (bs x.1)) := hx.cell 0
  have c1 : w.cell? ⟨xb, 1, none⟩ = some (.string (bs x.2.1)) := hx.cell 1
  have hlt := hx.lt
  have e1 := Lib.hid (bs_beq x.1 y.1)
  have e2 := Lib.hid (bs_beq x.2.1 y.2.1)
  clear hx
  unfold tripV
  cases h1 : (x.1 == y.1) with
  | false =>
    have hd : Hid (dup x y = false) := by unfold dup; rw [h1]; rfl
    have h1' : ((bs x.1).toList == (bs y.1).toList) = false := by rw [bs_toList, bs_toList]; exact h1
    clear h1
    go_enter Tryz.func72, Tryz.ntmps72
    go_wp2
    go_ret
    exact ⟨ret_bool hd.out.symm, (Below.refl _ _).alloc (Nat.le_refl _) _⟩
  | true =>
    have hd : Hid (dup x y = (x.2.1 == y.2.1)) := by unfold dup; rw [h1]; rfl
    have h1' : ((bs x.1).toList == (bs y.1).toList) = true := by rw [bs_toList, bs_toList]; exact h1
    have h1'' := Lib.hid h1
    have h2' : ((bs x.2.1).toList == (bs y.2.1).toList) = (x.2.1 == y.2.1) := by rw [bs_toList, bs_toList]
    obtain ⟨q, hq⟩ : ∃ q, q = (x.2.1 == y.2.1) := ⟨_, rfl⟩
    rw [← hq] at h2' hd
    clear h1 hq
    go_enter Tryz.func72, Tryz.ntmps72
    go_wp2
    all_goals
      go_ret
      exact ⟨ret_bool hd.out.symm, (Below.refl _ _).alloc (Nat.le_refl _) _⟩
set_option maxHeartbeats 1000000 in
theorem idx_33 (x : Trip) (xb : Nat) (A : Option Addr) (cap : Nat) (l : List Trip) (w : World) (hx : Blk w xb (tripC x) 33) (hl : RwN w A l) (hn : l.length ≤ 4294967296) :
    Calls Tryz.prog 89 #[.slice A l.length cap, .func (.func 72) #[] #[.pointer (some ⟨xb, 0, none⟩)]] w fun e w' => Below w.heap.size w w' ∧ ∃ i : Int, e = .returned (.int .i64 i) ∧ decide (0 ≤ i) = l.any (dup x) := by
  have HX := Lib.hid hx
  have HL := Lib.hid hl
  clear hx hl
  go_enter Tryz.func89, Tryz.ntmps89
  go_wp2
  go_loopg [8] l.length (fun k v wr => ∃ i : Nat, v = .int .i64 i ∧ Aside (i + k = l.length ∧ (l.take i).any (dup x) = false ∧ Below w.heap.size w wr))
  case atStart => exact ⟨0, rfl, by omega, by simp, Below.refl _ _⟩
  case round =>
    obtain ⟨i, rfl, hA⟩ := hrel
    obtain ⟨hi, hany, hb⟩ := hA.out
    clear hA
    have HB := Lib.hid hb
    have HN := Lib.hid hany
    clear hb hany
    by_cases hlt : i < l.length
    · have hd1 : decide ((i : Int) < (l.length : Int)) = true := by simp; omega
      obtain ⟨y, hy⟩ : ∃ y, l[i]? = some y := ⟨_, List.getElem?_eq_getElem hlt⟩
      obtain ⟨g, rfl, c0, c1, c2⟩ := (HL.out.below HB.out) i y hy
      have Hy := Lib.hid hy
      clear hy
      have HXr := Lib.hid (HX.out.below HB.out HX.out.lt)
      go_wp2_with fail
      refine (clo_33 x y xb wr HXr.out).mono ?_
      rintro e w1 ⟨rfl, hb1⟩
      have HB1 := Lib.hid (HB.out.trans (hb1.mono HB.out.size))
      clear hb1 c0 c1 c2
      cases hd : dup x y with
      | true =>
        have Hd := Lib.hid hd
        clear hd
        go_wp2
        go_ret
        refine ⟨HB1.out, i, rfl, ?_⟩
        rw [any_of Hy.out Hd.out]
        simp
      | false =>
        have Hd := Lib.hid hd
        clear hd
        go_wp2
        go_roundg (l.length - (i + 1))
        case measure => omega
        case rel => exact ⟨i + 1, by go_num, by omega, by rw [any_take_succ Hy.out HN.out]; exact Hd.out, HB1.out⟩
    · have hd1 : decide ((i : Int) < (l.length : Int)) = false := by simp; omega
      go_wp2
      go_ret
      refine ⟨HB.out, -1, rfl, ?_⟩
      have := HN.out
      rw [List.take_of_length_le (by omega)] at this
      rw [this]
      rfl
set_option maxHeartbeats 1000000 in
theorem has_33 (x : Trip) (xb : Nat) (A : Option Addr) (cap n : Nat) (l : List Trip) (w : World) (hx : Blk w xb (tripC x) 33) (hl : RwN w A l) (hn : l.length ≤ 4294967296) (hnl : n = l.length) :
    Calls Tryz.prog 71 #[.slice A n cap, .func (.func 72) #[] #[.pointer (some ⟨xb, 0, none⟩)]] w fun e w' => e = .returned (.bool (l.any (dup x))) ∧ Below w.heap.size w w' := by
  subst hnl
  go_enter Tryz.func71, Tryz.ntmps71
  go_wp2_with fail
  refine (idx_33 x xb A cap l w hx hl hn).mono ?_
  rintro e w1 ⟨hb, i, rfl, hi⟩
  have Hi := Lib.hid hi
  have HB := Lib.hid hb
  clear hi hb hx hl
  go_wp2
  go_ret
  exact ⟨ret_bool Hi.out, HB.out⟩
end Go.Proofs.YtmiflgcjphcigaaGreatDoor
