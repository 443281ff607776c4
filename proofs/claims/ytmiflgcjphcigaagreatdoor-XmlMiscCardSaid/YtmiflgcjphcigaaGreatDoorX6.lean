/-
  A part of the proof of statements on the element reader of package xml (X6): lemmas on what its functions come to; their conditions stand in each theorem.
-/
import Derived.Test.YtmiflgcjphcigaaGreatDoorX5
set_option linter.unusedVariables false
set_option linter.unusedSimpArgs false
namespace Go.Proofs.YtmiflgcjphcigaaGreatDoor
open Go.RowKit
theorem prefix_split {r t : B} (h : Lib.hasPrefix r t = true) : r = t ++ r.drop t.length := by
  obtain ⟨x, hx⟩ := List.isPrefixOf_iff_prefix.1 h
  rw [← hx, List.drop_left]
def unitV (_ : Unit) : Value := .tuple #[]
def strV (l : B) : Value := .string (bs l)
def pairV (x : B × B) : Value := .tuple #[.string (bs x.1), .string (bs x.2)]
theorem Post.ok {α : Type} {b : Nat} {s : ByteArray} {w w' : World} {enc : α → Value} {x : α} {r : B} {m : Nat} {e : Ending} (he : e = .returned (enc x)) (hA : At w' b s r m) (hk : Kp b w w') : Post b s w enc (.ok x r m) e w' := ⟨he, hA, hk⟩
theorem Post.fail {α : Type} {b : Nat} {s : ByteArray} {w w' : World} {enc : α → Value} {c : Int} {e : Ending} (he : e = .panicked (failure c)) (hk : Kp b w w') : Post b s w enc (.fail c) e w' := ⟨he, hk⟩
section
variable (b : Nat) (s : ByteArray) (r : B) (m : Nat) (w : World)
theorem take_any (t : ByteArray) (hA : At w b s r m) :
    Calls Tryz.prog 49 #[.pointer (some ⟨b, 0, none⟩), .string t] w fun e w' => e = .returned (.bool (Lib.hasPrefix r t.data.toList)) ∧ At w' b s (if Lib.hasPrefix r t.data.toList = true then r.drop t.data.toList.length else r) m ∧ Kp b w w' := by
  cases hp : Lib.hasPrefix r t.data.toList with
  | true =>
    rw [if_pos rfl]
    exact take_yes b s _ m t w (by rw [← prefix_split hp]; exact hA)
  | false =>
    rw [if_neg (by decide)]
    exact take_no b s r m t w hA hp
theorem wants_any (t : ByteArray) (hA : At w b s r m) : Calls Tryz.prog 46 #[.pointer (some ⟨b, 0, none⟩), .string t] w (Post b s w unitV (wantP t.data.toList r m)) := by
  unfold wantP
  cases hp : Lib.hasPrefix r t.data.toList with
  | true =>
    rw [if_pos rfl]
    exact (wants_yes b s _ m t w (by rw [← prefix_split hp]; exact hA)).mono fun _ _ h => h
  | false =>
    rw [if_neg (by decide)]
    exact (wants_no b s r m t w hA hp).mono fun _ _ h => ⟨h.1, h.2.2⟩
theorem upto_any (t : ByteArray) (hA : At w b s r m) : Calls Tryz.prog 51 #[.pointer (some ⟨b, 0, none⟩), .string t] w (Post b s w strV (uptoP t.data.toList r m)) := by
  unfold uptoP
  by_cases h : 0 ≤ Lib.index r t.data.toList
  · rw [if_pos h]
    have := upto_yes b s r m (Lib.index r t.data.toList).toNat t w hA (by omega)
    rw [Lib.size_eq] at this
    exact this.mono fun _ _ h => h
  · rw [if_neg h]
    exact (upto_no b s r m t w hA (by omega)).mono fun _ _ h => ⟨h.1, h.2.2⟩
theorem name_any (hA : At w b s r m) : Calls Tryz.prog 47 #[.pointer (some ⟨b, 0, none⟩)] w (Post b s w strV (nameP r m)) := by
  unfold nameP
  cases h : isFirstB (r.headD 0) with
  | true => exact (name_yes b s r m w hA h).mono fun _ _ h => h
  | false => exact (name_no b s r m w hA h).mono fun _ _ h => ⟨h.1, h.2.2⟩
theorem qual_any (hA : At w b s r m) : Calls Tryz.prog 54 #[.pointer (some ⟨b, 0, none⟩)] w (Post b s w pairV (qualP r m)) := by
  unfold qualP nameP
  cases h : isFirstB (r.headD 0) with
  | false => exact (qualified_no b s r m w hA h).mono fun _ _ h => ⟨h.1, h.2.2⟩
  | true =>
    simp only [if_true, Out.then]
    cases hp : Lib.hasPrefix (r.dropWhile isNextB) [58] with
    | false => exact (qualified_plain b s r m w hA h hp).mono fun _ _ h => h
    | true =>
      have hc := prefix_split hp
      have hd : (r.dropWhile isNextB).drop [(58 : UInt8)].length = (r.dropWhile isNextB).drop 1 := rfl
      rw [hd] at hc
      simp only [if_true]
      cases h2 : isFirstB (((r.dropWhile isNextB).drop 1).headD 0) with
      | true => exact (qualified_pair b s r _ m w hA h hc h2).mono fun _ _ h => h
      | false => exact (qualified_pair_no b s r _ m w hA h hc h2).mono fun _ _ h => ⟨h.1, h.2.2⟩
end
theorem post_fail {α : Type} {b : Nat} {s : ByteArray} {w w' : World} {enc : α → Value} {o : Out α} {c : Int} (ho : Hid (o = .fail c)) (hk : Kp b w w') : Post b s w enc o (.panicked (failure c)) w' := by
  rw [ho.out]; exact ⟨rfl, hk⟩
theorem post_ok {α : Type} {b : Nat} {s : ByteArray} {w w' : World} {enc : α → Value} {o : Out α} {x : α} {r : B} {m : Nat} {e : Ending} (ho : Hid (o = .ok x r m)) (he : e = .returned (enc x)) (hA : At w' b s r m) (hk : Kp b w w') : Post b s w enc o e w' := by
  rw [ho.out]; exact ⟨he, hA, hk⟩
theorem then_ne {α β : Type} {o : Out α} {f : α → B → Nat → Out β} (h : o.then f ≠ .unk) : o ≠ .unk := fun e => h (by rw [e]; rfl)
set_option maxHeartbeats 400000 in
theorem remark_any (b : Nat) (s : ByteArray) (r : B) (m : Nat) (w : World) (hA : At w b s r m) (hne : remarkP r m ≠ .unk) : Calls Tryz.prog 53 #[.pointer (some ⟨b, 0, none⟩)] w (Post b s w unitV (remarkP r m)) := by
  obtain ⟨o, ho⟩ : ∃ o, o = remarkP r m := ⟨_, rfl⟩
  rw [← ho] at hne ⊢
  unfold remarkP at ho
  have HA := Lib.hid hA
  have Ho := Lib.hid ho
  clear hA ho
  go_enter Tryz.func53, Tryz.ntmps53
  go_wp2_with fail
  refine (wants_any b s r m w _ HA.out).mono ?_
  intro e w1 hp
  change Post b s w unitV (wantP [60, 33, 45, 45] r m) e w1 at hp
  cases h1 : wantP [60, 33, 45, 45] r m with
  | unk => exact absurd (by rw [Ho.out, h1]; rfl) hne
  | fail c =>
    rw [h1] at hp
    obtain ⟨rfl, hk⟩ := hp
    have Ho1 : Hid (o = .fail c) := by rw [Ho.out, h1]; rfl
    go_wp2
    exact ⟨rfl, post_fail Ho1 hk⟩
  | ok x1 r1 m1 =>
    rw [h1] at hp
    obtain ⟨rfl, hA1, hk1⟩ := hp
    have Ho1 : Hid (o = (uptoP [45, 45] r1 m1).then fun _ r m => wantP [62] r m) := by rw [Ho.out, h1]; rfl
    have HA1 := Lib.hid hA1
    have HK1 := Lib.hid hk1
    clear hA1 hk1
    go_wp2_with fail
    refine (upto_any b s r1 m1 w1 _ HA1.out).mono ?_
    intro e w2 hp
    change Post b s w1 strV (uptoP [45, 45] r1 m1) e w2 at hp
    cases h2 : uptoP [45, 45] r1 m1 with
    | unk => exact absurd (by rw [Ho1.out, h2]; rfl) hne
    | fail c =>
      rw [h2] at hp
      obtain ⟨rfl, hk⟩ := hp
      have Ho2 : Hid (o = .fail c) := by rw [Ho1.out, h2]; rfl
      go_wp2
      exact ⟨rfl, post_fail Ho2 (HK1.out.trans hk)⟩
    | ok x2 r2 m2 =>
      rw [h2] at hp
      obtain ⟨rfl, hA2, hk2⟩ := hp
      have Ho2 : Hid (o = wantP [62] r2 m2) := by rw [Ho1.out, h2]; rfl
      have HA2 := Lib.hid hA2
      have HK2 := Lib.hid hk2
      clear hA2 hk2
      go_wp2_with fail
      refine (wants_any b s r2 m2 w2 _ HA2.out).mono ?_
      intro e w3 hp
      change Post b s w2 unitV (wantP [62] r2 m2) e w3 at hp
      cases h3 : wantP [62] r2 m2 with
      | unk => exact absurd (by rw [Ho2.out, h3]) hne
      | fail c =>
        rw [h3] at hp
        obtain ⟨rfl, hk⟩ := hp
        have Ho3 : Hid (o = .fail c) := by rw [Ho2.out, h3]; rfl
        go_wp2
        exact ⟨rfl, post_fail Ho3 ((HK1.out.trans HK2.out).trans hk)⟩
      | ok x3 r3 m3 =>
        rw [h3] at hp
        obtain ⟨rfl, hA3, hk3⟩ := hp
        have Ho3 : Hid (o = .ok x3 r3 m3) := by rw [Ho2.out, h3]; rfl
        go_wp2
        go_end0
        exact post_ok Ho3 rfl hA3 ((HK1.out.trans HK2.out).trans hk3)
end Go.Proofs.YtmiflgcjphcigaaGreatDoor
