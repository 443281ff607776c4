/-
  A part of the proof of statements on the element reader of package xml (X18a): lemmas on what its functions come to; their conditions stand in each theorem.
-/
import Derived.Test.YtmiflgcjphcigaaGreatDoorX17
set_option linter.unusedVariables false
set_option linter.unusedSimpArgs false
namespace Go.Proofs.YtmiflgcjphcigaaGreatDoor
open Go.RowKit Go.Proofs.YtmiflgcjphcigaaGreatDoorW.PrintWords
/-- Behind the attributes. -/
def elem3 (k : Nat) (f : Sc) (deep : Nat) (pn : B × B) (l : List Trip) (r : B) (m : Nat) : Out E :=
  match spacedP f pn.1 l with
  | .error e => .fail e
  | .ok (g, a) => (contQ k g deep [] [] r m).then fun kids r m => (wantP [60, 47] r m).then fun _ r m => (qualP r m).then fun qn r m =>
    if qn.1 == pn.1 && qn.2 == pn.2 then (wantP [62] (r.dropWhile isBlank) m).then fun _ r m => .ok (.mk (g pn.1) pn.2 [] a kids) r m else .fail 10
def elem2 (k : Nat) (f : Sc) (deep : Nat) (pn : B × B) (l : List Trip) (r : B) (m : Nat) : Out E :=
  if Lib.hasPrefix r [47, 62] then
    match spacedP f pn.1 l with
    | .error e => .fail e
    | .ok (g, a) => .ok (.mk (g pn.1) pn.2 [] a []) (r.drop 2) m
  else (wantP [62] r m).then fun _ r m => elem3 k f deep pn l r m
/-- Behind the test of the first bytes. -/
def elem1 (k : Nat) (f : Sc) (deep : Nat) (r : B) (m : Nat) : Out E :=
  if m < 16384 && deep ≤ 256 then
    (qualP (r.drop 1) (m + 1)).then fun pn r m => (attrsP (r.length + 1) [] r m).then fun l r m => elem2 k f deep pn l r m
  else .fail 6
theorem elemQ_succ (k : Nat) (f : Sc) (deep : Nat) (r : B) (m : Nat) : elemQ (k + 1) f deep r m =
    if Lib.hasPrefix r [60] && isFirstB (r.getD 1 0) then elem1 k f deep r m else .fail 10 := rfl
/-- The state of element's walk: the reader, what is kept, the result's block. -/
structure ESt (b : Nat) (s : ByteArray) (w : World) (W : World) (r : B) (m : Nat) : Prop where
  A : At W b s r m
  K : Kp b w W
  R : Blk W w.heap.size zeroE 26
section
variable {b : Nat} {s : ByteArray} {w W W' : World} {r r2 : B} {m m2 : Nat}
theorem ESt.drewN (h : ESt b s w W r m) (n : Nat) : ESt b s w (W.drewN n) r m := ⟨h.A.drewN n, h.K.drewN n, h.R.drewN n⟩
theorem ESt.kp (h : ESt b s w W r m) (hbl : b < w.heap.size) (hA : At W' b s r2 m2) (hk : Kp b W W') : ESt b s w W' r2 m2 := ⟨hA, h.K.trans hk, h.R.kp hk (by omega)⟩
theorem ESt.alloc (h : ESt b s w W r m) (o : Obj) : ESt b s w (W.alloc o) r m := ⟨h.A.alloc o, h.K.alloc o, h.R.alloc o⟩
theorem ESt.below (h : ESt b s w W r m) (hbl : b < w.heap.size) (hb : Below W.heap.size W W') : ESt b s w W' r m :=
  ⟨h.A.belowB hb (Nat.lt_of_lt_of_le hbl h.K.size), h.K.belowB hb h.K.size, h.R.below hb h.R.lt⟩
theorem ESt.new (hA : At w b s r m) : ESt b s w (w.alloc (.cells zeroE.toArray 26)) r m := ⟨hA.alloc _, (Kp.refl b w).alloc _, Blk.new w zeroE 26⟩
end
theorem at_many {w : World} {b : Nat} {s : ByteArray} {r : B} {m a : Nat} (hA : At w b s r m) (hR : Rd w b s a m) (ha : a ≤ s.size) (hr : s.data.toList.drop a = r) :
    At (w.setCell ⟨b, 2, none⟩ (.int .i64 ((m : Int) + 1))) b s r (m + 1) ∧ Kp b w (w.setCell ⟨b, 2, none⟩ (.int .i64 ((m : Int) + 1))) := by
  have hk : Kp b w (w.setCell ⟨b, 2, none⟩ (.int .i64 ((m : Int) + 1))) := (Kp.refl b w).set 2 _
  exact ⟨hA.goes hk ha hr (hR.set2 (m + 1)), hk⟩
end Go.Proofs.YtmiflgcjphcigaaGreatDoor
