/-
  A part of the proof of statements on the element reader of package xml (Z0): lemmas on what its functions come to; their conditions stand in each theorem.
-/
import Derived.Test.YtmiflgcjphcigaaGreatDoorY1
set_option linter.unusedVariables false
set_option linter.unusedSimpArgs false
namespace Go.Proofs.YtmiflgcjphcigaaGreatDoor
open Go.RowKit Go.Proofs.YtmiflgcjphcigaaGreatDoorW.PrintWords
/-! ## Words for the laws' walks -/
theorem bs_append (l k : B) : bs l ++ bs k = bs (l ++ k) := by
  apply ByteArray.ext
  simp [bs]
/-- '[]byte(s)' of a text. -/
theorem conv_text (w : World) (l : B) (s : ByteArray) (hs : s = bs l) :
    (convert 9 30 (.string s)).run Tryz.prog w = .ok (.slice (some ⟨w.heap.size, 0, none⟩) l.length (grownCap w l.length 0 5)) (Lib.bytesWorld w 5 (bs l)) := by
  subst hs
  have h := Lib.run_convert_string_bytes (P := Tryz.prog) w 9 30 5 (bs l) Tryz.underlying9 Tryz.underlying30 Tryz.underlying5
  rw [bs_size] at h
  exact h
/-- What Read of a text comes to. -/
def PostT (w : World) (o : Out E) (e : Ending) (w' : World) : Prop :=
  match o with
  | .ok x _ _ => ∃ cs, e = .returned (.tuple #[.agg cs.toArray, .int .i64 0]) ∧ IsE w' (fun k => w.heap.size ≤ k) x cs ∧ Below w.heap.size w w'
  | .fail c => e = .returned (.tuple #[.agg #[.string ⟨#[]⟩, .string ⟨#[]⟩, .string ⟨#[]⟩, .slice none 0 0, .slice none 0 0], .int .i64 c]) ∧ Below w.heap.size w w'
  | .unk => True
theorem gl_below {w w' : World} {Z : Nat} (hb : Below Z w w') (h5 : 5 < Z) (h : ∃ x, w.cell? ⟨5, 0, none⟩ = some (.int .i64 x)) : ∃ x, w'.cell? ⟨5, 0, none⟩ = some (.int .i64 x) := by
  obtain ⟨x, hx⟩ := h
  exact ⟨x, by rw [hb.cell h5]; exact hx⟩
theorem read_text (k : Nat) (hk : k ≤ 1000000000) (l : B) (w : World) (hgl : ∃ x, w.cell? ⟨5, 0, none⟩ = some (.int .i64 x)) (h6 : 5 < w.heap.size) (hs : l.length < 4294967281) (hne : readZ k l ≠ .unk) :
    Calls Tryz.prog 11 #[.slice (some ⟨w.heap.size, 0, none⟩) l.length (grownCap w l.length 0 5)] (Lib.bytesWorld w 5 (bs l)) (PostT w (readZ k l)) := by
  have hb := Lib.bytesWorld_below w 5 (bs l)
  have hsz := Lib.bytesWorld_size w 5 (bs l)
  refine (read_any k hk w.heap.size l.length (grownCap w l.length 0 5) l _ (by have h := bytes_row w (bs l); exact h) rfl (by omega) (gl_below hb h6 hgl) (by omega) hs hne).mono ?_
  intro e w' hp
  cases h : readZ k l with
  | unk => trivial
  | fail c =>
    rw [h] at hp
    exact ⟨hp.1, hb.trans (hp.2.mono hb.size)⟩
  | ok x r m =>
    rw [h] at hp
    obtain ⟨cs, he, hx, hb2⟩ := hp
    exact ⟨cs, he, hx.weak (fun k hk => Nat.le_trans hb.size hk), hb.trans (hb2.mono hb.size)⟩
/-- The variable that holds an element. -/
structure DSt (w : World) (tb : Nat) (W : World) (x : E) : Prop where
  ex : ∃ cs, Blk W tb cs 26 ∧ IsE W (fun k => k < tb) x cs
  below : Below w.heap.size w W
  le : w.heap.size ≤ tb
theorem DSt.new {w W : World} {x : E} {cs : List Value} {ok : Nat → Prop} (hx : IsE W ok x cs) (hb : Below w.heap.size w W) : DSt w W.heap.size (W.alloc (.cells cs.toArray 26)) x :=
  ⟨⟨cs, Blk.new W cs 26, hx.move (fun _ _ h => h) fun k c t _ hk _ => Below.heap_alloc W _ k (lt_of_block hk)⟩, hb.alloc hb.size _, hb.size⟩
theorem DSt.lower {w W W' : World} {tb : Nat} {x : E} (h : DSt w tb W x) (hb : Below W.heap.size W W') : DSt w tb W' x := by
  obtain ⟨cs, hB, hx⟩ := h.ex
  exact ⟨⟨cs, hB.below hb hB.lt, hx.move (fun _ h _ => h) fun k c t _ hk _ => hb.block k (lt_of_block hk)⟩, h.below.trans (hb.mono h.below.size), h.le⟩
/-- A struct variable of the walk. -/
structure TV (w : World) (tb : Nat) (W : World) (cs : List Value) : Prop where
  X : Blk W tb cs 26
  L : Below w.heap.size w W
  le : w.heap.size ≤ tb
theorem TV.new {w W : World} (cs : List Value) (hb : Below w.heap.size w W) : TV w W.heap.size (W.alloc (.cells cs.toArray 26)) cs := ⟨Blk.new W cs 26, hb.alloc hb.size _, hb.size⟩
theorem TV.lower {w W W' : World} {tb : Nat} {cs : List Value} (h : TV w tb W cs) (hb : Below W.heap.size W W') : TV w tb W' cs := ⟨h.X.below hb h.X.lt, h.L.trans (hb.mono h.L.size), h.le⟩
theorem TV.put {w W : World} {tb : Nat} {v0 v1 v2 v3 v4 : Value} (h : TV w tb W [v0, v1, v2, v3, v4]) (u0 u1 u2 u3 u4 : Value) : TV w tb (st5 W tb 0 u0 u1 u2 u3 u4) [u0, u1, u2, u3, u4] :=
  ⟨((((h.X.set 0 u0).set (0 + 1) u1).set (0 + 2) u2).set (0 + 3) u3).set (0 + 4) u4,
   ((((h.L.setCell (p := ⟨tb, 0, none⟩) h.le u0).setCell (p := ⟨tb, 0 + 1, none⟩) h.le u1).setCell (p := ⟨tb, 0 + 2, none⟩) h.le u2).setCell (p := ⟨tb, 0 + 3, none⟩) h.le u3).setCell (p := ⟨tb, 0 + 4, none⟩) h.le u4, h.le⟩
theorem kid_cells {inner : List Value} {u0 u1 u2 u3 u4 : Value} (h : (inner.drop (0 * 5)).take 5 = [u0, u1, u2, u3, u4]) :
    inner[0]? = some u0 ∧ inner[1]? = some u1 ∧ inner[2]? = some u2 ∧ inner[3]? = some u3 ∧ inner[4]? = some u4 := by
  rw [Nat.zero_mul, List.drop_zero] at h
  have key : ∀ j, j < 5 → inner[j]? = ([u0, u1, u2, u3, u4] : List Value)[j]? := fun j hj => by rw [← h, List.getElem?_take_of_lt hj]
  exact ⟨key 0 (by decide), key 1 (by decide), key 2 (by decide), key 3 (by decide), key 4 (by decide)⟩
theorem DSt.put {w W : World} {tb : Nat} {x y : E} {u0 u1 u2 u3 u4 : Value} (h : DSt w tb W x) (hy : IsE W (fun k => k < tb) y [u0, u1, u2, u3, u4]) : DSt w tb (st5 W tb 0 u0 u1 u2 u3 u4) y := by
  obtain ⟨cs, hB, hx⟩ := h.ex
  obtain ⟨sp, nm, tx, A1, n1, c1, A2, n2, c2, rfl⟩ := hx.cells
  refine ⟨⟨[u0, u1, u2, u3, u4], ((((hB.set 0 u0).set (0 + 1) u1).set (0 + 2) u2).set (0 + 3) u3).set (0 + 4) u4, hy.move (fun _ h _ => h) fun k c t hk _ _ => st5_far W tb 0 u0 u1 u2 u3 u4 k (by omega)⟩, ?_, h.le⟩
  exact ((((h.below.setCell (p := ⟨tb, 0, none⟩) h.le u0).setCell (p := ⟨tb, 0 + 1, none⟩) h.le u1).setCell (p := ⟨tb, 0 + 2, none⟩) h.le u2).setCell (p := ⟨tb, 0 + 3, none⟩) h.le u3).setCell (p := ⟨tb, 0 + 4, none⟩) h.le u4
end Go.Proofs.YtmiflgcjphcigaaGreatDoor
