/-
  A part of the proof of statements on the element reader of package xml (X18c): lemmas on what its functions come to; their conditions stand in each theorem.
-/
import Derived.Test.YtmiflgcjphcigaaGreatDoorX18b
import Derived.Deep.CutBlock
set_option linter.unusedVariables false
set_option linter.unusedSimpArgs false
namespace Go.Proofs.YtmiflgcjphcigaaGreatDoor
open Go.RowKit Go.Proofs.YtmiflgcjphcigaaGreatDoorW.PrintWords
/-! ## element: words for the walk -/
/-- The state of element's loop over attributes. -/
structure ASt (b : Nat) (s : ByteArray) (w wr : World) (r : B) (m : Nat) (vl : Value) (l : List Trip) : Prop where
  E : ESt b s w wr r m
  O : OwnT 77 wr (w.heap.size + 1) vl l
theorem attrsP_succ (k : Nat) (l : List Trip) (r : B) (m : Nat) : attrsP (k + 1) l r m =
    if isBlank (r.headD 0) && isFirstB ((r.dropWhile isBlank).headD 0) then (attrP (r.dropWhile isBlank) m).then fun x r m => attrsP k (l ++ [x]) r m
    else .ok l (r.dropWhile isBlank) m := rfl
theorem OwnT.move {e : TypeId} {w w' : World} {base : Nat} {v : Value} {l : List Trip} (h : OwnT e w base v l) (hm : ∀ (k : Nat) (c : Array Value), w.heap[k]? = some (Obj.cells c e (0, 0)) → w'.heap[k]? = w.heap[k]?) : OwnT e w' base v l := by
  obtain ⟨inner, ho, hr⟩ := h
  refine ⟨inner, own_move ho ?_, hr⟩
  intro k hk
  obtain ⟨c, hc⟩ := own_typed ho k hk
  exact hm k c hc
theorem OwnT.kp {e : TypeId} {w w' : World} {base : Nat} {v : Value} {l : List Trip} {b : Nat} {s : ByteArray} {r : B} {m : Nat} (h : OwnT e w base v l) (he : e ≠ 55) (hA : At w b s r m) (hk : Kp b w w') : OwnT e w' base v l := by
  refine h.move fun k c hk' => hk.block (lt_of_block hk') ?_
  rintro rfl
  obtain ⟨a, _, _, hR⟩ := hA.rd
  unfold Rd at hR
  rw [hR] at hk'
  injection hk' with hk'
  injection hk' with _ h2
  exact he h2.symm
section
variable {b : Nat} {s : ByteArray} {w wr w' : World} {r r2 : B} {m m2 : Nat} {vl : Value} {l : List Trip}
theorem ASt.drewN (h : ASt b s w wr r m vl l) (n : Nat) : ASt b s w (wr.drewN n) r m vl l := ⟨h.E.drewN n, h.O.move fun _ _ _ => rfl⟩
theorem ASt.kp (h : ASt b s w wr r m vl l) (hbl : b < w.heap.size) (hA : At w' b s r2 m2) (hk : Kp b wr w') : ASt b s w w' r2 m2 vl l := ⟨h.E.kp hbl hA hk, h.O.kp (by decide) h.E.A hk⟩
theorem ASt.sm (h : ESt b s w wr r m) {mb : Nat} {lm : List (B × B)} (hM : SM w mb lm) (hn : mb ≠ b) : SM wr mb lm := hM.move (h.K.block hM.lt hn)
theorem ASt.grew (h : ASt b s w wr r m vl l) (hbl : b < w.heap.size) {v1 : Value} {l1 : List Trip} (hO : OwnT 77 w' (w.heap.size + 1) v1 l1) (hb : Below (w.heap.size + 1) wr w') : ASt b s w w' r m v1 l1 :=
  ⟨⟨h.E.A.belowB hb (by omega), h.E.K.belowB hb (by omega), h.E.R.below hb (by omega)⟩, hO⟩
end
theorem own_rwn' {e : TypeId} {w : World} {base n cap : Nat} {A : Option Addr} {l : List Trip} (h : OwnT e w base (.slice A n cap) l) : RwN w A l := by
  obtain ⟨A2, c2, h1, _, h3⟩ := own_rwn h
  injection h1 with h1
  rw [h1]
  exact h3
section
variable {b : Nat} {s : ByteArray} {w W : World} {r : B} {m : Nat}
theorem ESt.c0 (h : ESt b s w W r m) : W.cell? ⟨w.heap.size, 0, none⟩ = some (.string ⟨#[]⟩) := h.R.cell 0
theorem ESt.c1 (h : ESt b s w W r m) : W.cell? ⟨w.heap.size, 1, none⟩ = some (.string ⟨#[]⟩) := h.R.cell 1
theorem ESt.c2 (h : ESt b s w W r m) : W.cell? ⟨w.heap.size, 2, none⟩ = some (.string ⟨#[]⟩) := h.R.cell 2
theorem ESt.c3 (h : ESt b s w W r m) : W.cell? ⟨w.heap.size, 3, none⟩ = some (.slice none 0 0) := h.R.cell 3
theorem ESt.c4 (h : ESt b s w W r m) : W.cell? ⟨w.heap.size, 4, none⟩ = some (.slice none 0 0) := h.R.cell 4
end
/-- The result's block is written. -/
theorem ESt.fin {b : Nat} {s : ByteArray} {w W : World} {r : B} {m : Nat} (h : ESt b s w W r m) (hbl : b < w.heap.size) (c0 c1 c2 c3 c4 : Value) :
    At (st5 W w.heap.size 0 c0 c1 c2 c3 c4) b s r m ∧ Kp b w (st5 W w.heap.size 0 c0 c1 c2 c3 c4) ∧ Blk (st5 W w.heap.size 0 c0 c1 c2 c3 c4) w.heap.size [c0, c1, c2, c3, c4] 26 := by
  have h5 := h.A.b5
  refine ⟨?_, ?_, ?_⟩
  · exact ((((h.A.set_ne (g := w.heap.size) (by omega) (by omega) 0 c0).set_ne (g := w.heap.size) (by omega) (by omega) (0 + 1) c1).set_ne (g := w.heap.size) (by omega) (by omega) (0 + 2) c2).set_ne (g := w.heap.size) (by omega) (by omega) (0 + 3) c3).set_ne (g := w.heap.size) (by omega) (by omega) (0 + 4) c4
  · exact ((((h.K.new (g := w.heap.size) (Nat.le_refl _) 0 c0).new (g := w.heap.size) (Nat.le_refl _) (0 + 1) c1).new (g := w.heap.size) (Nat.le_refl _) (0 + 2) c2).new (g := w.heap.size) (Nat.le_refl _) (0 + 3) c3).new (g := w.heap.size) (Nat.le_refl _) (0 + 4) c4
  · exact ((((h.R.set 0 c0).set (0 + 1) c1).set (0 + 2) c2).set (0 + 3) c3).set (0 + 4) c4
theorem postE_ok {b : Nat} {s : ByteArray} {w w' : World} {o : Out E} {x : E} {r : B} {m : Nat} {cs : List Value} (ho : Hid (o = .ok x r m)) (hx : IsE w' (fun k => w.heap.size ≤ k) x cs) (hA : At w' b s r m) (hk : Kp b w w') : PostE b s w o (.returned (.agg cs.toArray)) w' := by
  rw [ho.out]; exact ⟨cs, rfl, hx, hA, hk⟩
/-- An element without kids, behind the last stores. -/
theorem leaf_isE {w W : World} {sp nm : B} {at_ : List Trip} {va : Value} {base g : Nat} {c0 c1 c2 c3 c4 : Value} (hO : OwnT 33 W base va at_) (hb : w.heap.size ≤ base) {cs : List Value} (hg : Blk W g cs 26) :
    IsE (st5 W g 0 c0 c1 c2 c3 c4) (fun k => w.heap.size ≤ k) (.mk sp nm [] at_ []) [.string (bs sp), .string (bs nm), .string ⟨#[]⟩, va, .slice none 0 0] := by
  have hO' : OwnT 33 (st5 W g 0 c0 c1 c2 c3 c4) 0 va at_ := OwnT.move (OwnRow.lower hO (Nat.zero_le _)) fun k c hk => st5_far W g 0 c0 c1 c2 c3 c4 k (typed_ne hk hg.out (by decide))
  refine .mk sp nm [] at_ [] va (.slice none 0 0) [] hO' (fun k h => ?_) (own_nil _ _ _ _) (fun k h => by simp [Value.ownBlock] at h) (fun j p h => by simp at h)
  obtain ⟨inner, ho, _⟩ := hO
  exact Nat.le_trans hb (own_base ho k h)
theorem Kids.high {w w' : World} {base : Nat} {v : Value} {l : List E} (h : Kids w base v l) (hm : ∀ k, base ≤ k → w'.heap[k]? = w.heap[k]?) : Kids w' base v l := by
  obtain ⟨inner, ho, hr⟩ := h
  exact ⟨inner, own_move ho fun k hk => hm k (own_base ho k hk), hr.imp_ fun p c hp => hp.move (fun _ h _ => h) fun k c t hk _ _ => hm k hk.1⟩
/-- An element with kids, behind the last stores. -/
theorem kids_isE {w W : World} {sp nm : B} {at_ : List Trip} {kids : List E} {va v : Value} {base base2 g : Nat} {c0 c1 c2 c3 c4 : Value} (hO : OwnT 33 W base va at_) (hb : w.heap.size ≤ base) (hK : Kids W base2 v kids) (hg2 : g < base2) (hw2 : w.heap.size ≤ base2) {cs : List Value} (hg : Blk W g cs 26) :
    IsE (st5 W g 0 c0 c1 c2 c3 c4) (fun k => w.heap.size ≤ k) (.mk sp nm [] at_ kids) [.string (bs sp), .string (bs nm), .string ⟨#[]⟩, va, v] := by
  have hO' : OwnT 33 (st5 W g 0 c0 c1 c2 c3 c4) 0 va at_ := OwnT.move (OwnRow.lower hO (Nat.zero_le _)) fun k c hk => st5_far W g 0 c0 c1 c2 c3 c4 k (typed_ne hk hg.out (by decide))
  have hK' : Kids (st5 W g 0 c0 c1 c2 c3 c4) base2 v kids := hK.high fun k hk => st5_far W g 0 c0 c1 c2 c3 c4 k (by omega)
  obtain ⟨inner, ho, hr⟩ := hK'
  obtain ⟨inner0, ho0, _⟩ := (OwnRow.lower (R := fun _ _ => True) ⟨inner, ho, hr.imp_ fun _ _ _ => trivial⟩ (Nat.zero_le _) : OwnRow (fun _ _ => True) 26 5 _ 0 v kids)
  refine .mk sp nm [] at_ kids va v inner hO' (fun k h => ?_) ?_ (fun k h => Nat.le_trans hw2 (own_base ho k h)) (fun j p hp => (hr.2 j p hp).weak fun k hk => Nat.le_trans hw2 hk.1)
  · obtain ⟨inner1, ho1, _⟩ := hO
    exact Nat.le_trans hb (own_base ho1 k h)
  · obtain ⟨h1, h2⟩ := ho
    refine ⟨h1, ?_⟩
    rcases h2 with h2 | ⟨g', cap, cur, h3, _, h4⟩
    · exact .inl h2
    · exact .inr ⟨g', cap, cur, h3, Nat.zero_le _, h4⟩
/-- The state of element's walk behind its kids. -/
structure FSt (b : Nat) (s : ByteArray) (w W : World) (r : B) (m xb Z Z2 : Nat) (cs : List Value) (va : Value) (at_ : List Trip) (v : Value) (kids : List E) : Prop where
  E : ESt b s w W r m
  X : Blk W xb cs 26
  O : OwnT 33 W Z va at_
  N : Kids W Z2 v kids
section
variable {b : Nat} {s : ByteArray} {w W W' : World} {r r2 : B} {m m2 xb Z Z2 : Nat} {cs : List Value} {va v : Value} {at_ : List Trip} {kids : List Go.Proofs.YtmiflgcjphcigaaGreatDoor.E}
theorem FSt.kp (h : FSt b s w W r m xb Z Z2 cs va at_ v kids) (hbl : b < w.heap.size) (hx : xb ≠ b) (hA : At W' b s r2 m2) (hk : Kp b W W') : FSt b s w W' r2 m2 xb Z Z2 cs va at_ v kids :=
  ⟨h.E.kp hbl hA hk, h.X.kp hk hx, h.O.kp (by decide) h.E.A hk, h.N.kp h.E.A hk⟩
theorem FSt.set (h : FSt b s w W r m xb Z Z2 cs va at_ v kids) (hbl : b < w.heap.size) (hx : w.heap.size < xb) (hz : xb < Z2) (o : Nat) (u : Value) : FSt b s w (W.setCell ⟨xb, o, none⟩ u) r m xb Z Z2 (cs.set o u) va at_ v kids := by
  have h5 := h.E.A.b5
  exact ⟨⟨h.E.A.set_ne (by omega) (by omega) o u, h.E.K.new (by omega) o u, h.E.R.set_ne (p := ⟨xb, o, none⟩) (by simp; omega) u⟩, h.X.set o u, h.O.move fun k c hk => Below.heap_setCell W ⟨xb, o, none⟩ u k (typed_ne hk h.X.out (by decide)), h.N.high fun k hk => Below.heap_setCell W ⟨xb, o, none⟩ u k (by simp; omega)⟩
end
theorem drop_blank_len (r : B) : (r.dropWhile isBlank).length ≤ r.length := by
  have := List.takeWhile_append_dropWhile (p := isBlank) (l := r)
  have h2 := congrArg List.length this
  rw [List.length_append] at h2
  omega
end Go.Proofs.YtmiflgcjphcigaaGreatDoor
