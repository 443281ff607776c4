/-
  A part of the proof of statements on the element reader of package xml (X24): lemmas on what its functions come to; their conditions stand in each theorem.
-/
import Derived.Test.YtmiflgcjphcigaaGreatDoorX24a
import Derived.Deep.CutBlock
set_option linter.unusedVariables false
set_option linter.unusedSimpArgs false
namespace Go.Proofs.YtmiflgcjphcigaaGreatDoor
open Go.RowKit Go.Proofs.YtmiflgcjphcigaaGreatDoorW.PrintWords
theorem Kp.toBelow {b Z : Nat} {W W' : World} (hk : Kp b W W') (hz : Z ≤ W.heap.size) (hb : Z ≤ b) : Below Z W W' :=
  ⟨hk.1.os, hk.1.tape, hk.1.output, hk.1.size, fun k h => hk.block (by omega) (by omega)⟩
/-- What Read tells of a text of ASCII without returns that does not begin with a declaration. -/
def readZ (k : Nat) (r : B) : Out E :=
  if r.all okByte then
    if Lib.hasPrefix r [60, 63, 120, 109, 108] then .unk else
    (miscP true k r 0).then fun _ r m => (elemQ k scope0 0 r m).then fun x r m => (miscP false k r m).then fun _ r m =>
    if r = [] then .ok x r m else .fail 10
  else .unk
theorem known_readZ : readZ 30 knownB = .ok (.mk [] [97] [] [([], [120], [49, 10, 50])] [.mk [] [] [32, 98] [] []]) [] 1 := by rfl
theorem scope0_look : scope0 = lookL [(xmlB, scope0 xmlB)] := by
  funext p
  unfold scope0 lookL
  by_cases h : p = xmlB
  · subst h; rfl
  · rw [if_neg h]
    simp [lookL, Ne.symm h]
/-- Read's state: the results' blocks. -/
structure BSt (w W : World) (cs : List Value) : Prop where
  L : Below w.heap.size w W
  X : Blk W w.heap.size cs 26
  Y : Blk W (w.heap.size + 1) [.int .i64 0] 27
theorem BSt.new (w : World) : BSt w ((w.alloc (.cells zeroE.toArray 26)).alloc (.cells #[.int .i64 0] 27)) zeroE where
  L := ((Below.refl _ w).alloc (Nat.le_refl _) _).alloc (by simp) _
  X := (Blk.new w zeroE 26).alloc _
  Y := by
    have h := Blk.new (w.alloc (.cells zeroE.toArray 26)) [.int .i64 0] 27
    rw [st_alloc_size] at h
    exact h
theorem BSt.below {w W W' : World} {cs : List Value} (h : BSt w W cs) (hb : Below W.heap.size W W') : BSt w W' cs where
  L := h.L.trans (hb.mono h.L.size)
  X := h.X.below hb h.X.lt
  Y := h.Y.below hb h.Y.lt
/-- Read's state, behind the making of the reader. -/
structure TSt (b : Nat) (s : ByteArray) (w W : World) (r : B) (m : Nat) (cs : List Value) : Prop where
  A : At W b s r m
  S : BSt w W cs
section
variable {b : Nat} {s : ByteArray} {w W W' : World} {r r2 : B} {m m2 : Nat} {cs : List Value}
theorem TSt.kp (h : TSt b s w W r m cs) (hb : w.heap.size + 1 < b) (hA : At W' b s r2 m2) (hk : Kp b W W') : TSt b s w W' r2 m2 cs :=
  ⟨hA, ⟨h.S.L.trans (hk.toBelow h.S.L.size (by omega)), h.S.X.kp hk (by omega), h.S.Y.kp hk (by omega)⟩⟩
theorem BSt.kp (h : TSt b s w W r m cs) (hb : w.heap.size + 1 < b) (hk : Kp b W W') : BSt w W' cs :=
  ⟨h.S.L.trans (hk.toBelow h.S.L.size (by omega)), h.S.X.kp hk (by omega), h.S.Y.kp hk (by omega)⟩
theorem TSt.drewN (h : TSt b s w W r m cs) (n : Nat) : TSt b s w (W.drewN n) r m cs := ⟨h.A.drewN n, ⟨below_drewN h.S.L n, h.S.X.drewN n, h.S.Y.drewN n⟩⟩
theorem TSt.below (h : TSt b s w W r m cs) (hb : Below W.heap.size W W') : TSt b s w W' r m cs := ⟨h.A.below hb, h.S.below hb⟩
theorem TSt.store (h : TSt b s w W r m cs) (hb : w.heap.size + 1 < b) (h5 : 5 < w.heap.size) (c0 c1 c2 c3 c4 : Value) (hl : ∃ v0 v1 v2 v3 v4, cs = [v0, v1, v2, v3, v4]) : TSt b s w (st5 W w.heap.size 0 c0 c1 c2 c3 c4) r m [c0, c1, c2, c3, c4] := by
  obtain ⟨v0, v1, v2, v3, v4, rfl⟩ := hl
  refine ⟨?_, ?_, ?_, ?_⟩
  · exact ((((h.A.set_ne (g := w.heap.size) (by omega) (by omega) 0 c0).set_ne (g := w.heap.size) (by omega) (by omega) (0 + 1) c1).set_ne (g := w.heap.size) (by omega) (by omega) (0 + 2) c2).set_ne (g := w.heap.size) (by omega) (by omega) (0 + 3) c3).set_ne (g := w.heap.size) (by omega) (by omega) (0 + 4) c4
  · exact ((((h.S.L.setCell (p := ⟨w.heap.size, 0, none⟩) (Nat.le_refl _) c0).setCell (p := ⟨w.heap.size, 0 + 1, none⟩) (Nat.le_refl _) c1).setCell (p := ⟨w.heap.size, 0 + 2, none⟩) (Nat.le_refl _) c2).setCell (p := ⟨w.heap.size, 0 + 3, none⟩) (Nat.le_refl _) c3).setCell (p := ⟨w.heap.size, 0 + 4, none⟩) (Nat.le_refl _) c4
  · exact ((((h.S.X.set 0 c0).set (0 + 1) c1).set (0 + 2) c2).set (0 + 3) c3).set (0 + 4) c4
  · exact h.S.Y.move (st5_far W w.heap.size 0 c0 c1 c2 c3 c4 (w.heap.size + 1) (by omega))
theorem TSt.new (h : BSt w W cs) (hgl : ∃ x, w.cell? ⟨5, 0, none⟩ = some (.int .i64 x)) (h6 : 5 < w.heap.size) (hs : s.size < 4294967281) (hok : s.data.toList.all okByte = true) :
    TSt W.heap.size s w (W.alloc (.cells #[.string s, .int .i64 0, .int .i64 0] 55)) s.data.toList 0 cs := by
  obtain ⟨x, hx⟩ := hgl
  have hb2 := h.below ((Below.refl _ W).alloc (Nat.le_refl _) (.cells #[.string s, .int .i64 0, .int .i64 0] 55))
  refine ⟨⟨⟨x, by rw [hb2.L.cell h6]; exact hx⟩, by have := h.L.size; omega, hs, fun c hc => okByte_asc (List.all_eq_true.1 hok c hc), 0, Nat.zero_le _, rfl, ?_⟩, hb2⟩
  exact heap_alloc_new W _
end
theorem postR_fail {w W' : World} {o : Out E} {c : Int} (ho : Hid (o = .fail c)) (hb : Below w.heap.size w W') : PostR w o (.returned (.tuple #[zeroEV, .int .i64 c])) W' := by
  rw [ho.out]; exact ⟨rfl, hb⟩
/-- The door, behind a failure, in Read. -/
theorem read_fail {w W : World} {o : Out E} {c : Int} {tmps : Array Value} {v0 v1 v2 v3 v4 : Value} (hS : BSt w W [v0, v1, v2, v3, v4]) (ho : Hid (o = .fail c)) (h2 : tmps.getD 2 undef = .pointer (some ⟨w.heap.size, 0, none⟩)) (h3 : tmps.getD 3 undef = .pointer (some ⟨w.heap.size + 1, 0, none⟩)) :
    Leaves Tryz.prog Tryz.f11 tmps (PostR w o) [{ target := .fn (.func 24) #[.pointer (some ⟨w.heap.size, 0, none⟩), .pointer (some ⟨w.heap.size + 1, 0, none⟩)], args := #[] }] (.panicking (failure c)) W :=
  door_fail c hS.X hS.Y h2 h3 fun _ hC => postR_fail ho (hS.L.trans (hC.below w.heap.size (Nat.le_refl _) (by omega) hS.L.size))
theorem IsE.kp {w w' : World} {ok : Nat → Prop} {x : E} {cs : List Value} {b : Nat} {s : ByteArray} {r : B} {m : Nat} (h : IsE w ok x cs) (hA : At w b s r m) (hk : Kp b w w') : IsE w' ok x cs := by
  refine h.move (fun _ h _ => h) fun k c t _ hk' ht => hk.block (lt_of_block hk') ?_
  rintro rfl
  obtain ⟨a, _, _, hR⟩ := hA.rd
  unfold Rd at hR
  rw [hR] at hk'
  injection hk' with hk'
  injection hk' with _ h2
  rcases ht with rfl | rfl <;> cases h2
theorem IsE.far {w : World} {x : E} {cs : List Value} {Z g : Nat} (h : IsE w (fun k => Z ≤ k) x cs) (hg : g < Z) (c0 c1 c2 c3 c4 : Value) : IsE (st5 w g 0 c0 c1 c2 c3 c4) (fun k => Z ≤ k) x cs :=
  h.move (fun _ h _ => h) fun k c t hk _ _ => st5_far w g 0 c0 c1 c2 c3 c4 k (by omega)
theorem map_below (w : World) (o o2 : Obj) : Below w.heap.size w (setMap (w.alloc o) w.heap.size o2) :=
  ((Below.refl _ w).alloc (Nat.le_refl _) o).grown (setMap_grown _ _ _) (by simp) (fun k hk => by injection hk with hk; omega)
theorem postR_ok {w W' : World} {o : Out E} {x : E} {r : B} {m : Nat} {cs : List Value} (ho : Hid (o = .ok x r m)) (hx : IsE W' (fun k => w.heap.size ≤ k) x cs) (hb : Below w.heap.size w W') : PostR w o (.returned (.tuple #[.agg cs.toArray, .int .i64 0])) W' := by
  rw [ho.out]; exact ⟨cs, rfl, hx, hb⟩
set_option maxHeartbeats 4000000 in
set_option maxRecDepth 100000 in
theorem read_any (k : Nat) (hk : k ≤ 1000000000) (bk n c : Nat) (r : B) (w : World) (hR : Row w bk 0 r) (hn : n = r.length) (hbk : bk < w.heap.size) (hgl : ∃ x, w.cell? ⟨5, 0, none⟩ = some (.int .i64 x)) (h6 : 5 < w.heap.size) (hs : r.length < 4294967281) (hne : readZ k r ≠ .unk) :
    Calls Tryz.prog 11 #[.slice (some ⟨bk, 0, none⟩) n c] w (PostR w (readZ k r)) := by
  obtain ⟨o, ho⟩ : ∃ o, o = readZ k r := ⟨_, rfl⟩
  rw [← ho] at hne ⊢
  unfold readZ at ho
  have hok : r.all okByte = true := by
    cases h : r.all okByte with
    | true => rfl
    | false => rw [h] at ho; exact absurd ho hne
  rw [if_pos hok] at ho
  have Ho := Lib.hid ho
  have HB0 := Lib.hid (BSt.new w)
  have hrow : Lib.Bytes ((w.alloc (.cells zeroE.toArray 26)).alloc (.cells #[.int .i64 0] 27)) bk 0 (bs r) := fun i hi => by
    have hi' : i < r.length := by rw [← bs_size]; exact hi
    have h1 := hR.cell i hi'
    rw [HB0.out.L.cell hbk, h1]
    rfl
  have hconv := Lib.run_convert_whole (P := Tryz.prog) _ 30 5 9 Tryz.underlying30 Tryz.underlying5 Tryz.underlying9 bk 0 (bs r) hrow c
  rw [bs_size, ← hn, show zeroE.toArray = #[.string ⟨#[]⟩, .string ⟨#[]⟩, .string ⟨#[]⟩, .slice none 0 0, .slice none 0 0] from rfl] at hconv
  have Hok : Hid ((bs r).data.toList.all okByte = true) := Lib.hid hok
  have hss : (bs r).size < 4294967281 := by rw [bs_size]; exact hs
  have Hgl := Lib.hid hgl
  have hmf : ∀ (fn : Fn) (first cap : Array Value) (w : World), (Instr.makeFunc fn first cap).run Tryz.prog w = .ok (.func fn first cap) w := fun _ _ _ _ => rfl
  clear ho hok hR hn hgl hrow
  go_enter_defers Tryz.func11, Tryz.ntmps11
  go_wp2_with fail
  refine (trim_nop (bs r) _ Hok.out).mono ?_
  rintro e w1 ⟨rfl, rfl⟩
  clear hconv
  go_wp2_with fail
  refine (isText_ok (bs r) _ hss Hok.out).mono ?_
  rintro e w2 ⟨rfl, hb2⟩
  have HB2 := Lib.hid (HB0.out.below hb2)
  clear hb2 HB0
  go_wp2_with fail
  refine (must_ok _ _).mono ?_
  rintro e w3 ⟨rfl, rfl⟩
  have gl3 : ∃ x, w3.cell? ⟨5, 0, none⟩ = some (.int .i64 x) := by
    obtain ⟨x, hx⟩ := Hgl.out
    exact ⟨x, by rw [HB2.out.L.cell h6]; exact hx⟩
  have Hgl3 := Lib.hid gl3
  clear gl3
  go_wp2_with fail
  refine (replace_nop (bs r) ⟨#[13, 10]⟩ ⟨#[10]⟩ [10] rfl (by decide) _ hss Hgl3.out Hok.out).mono ?_
  rintro e w4 ⟨rfl, hb4⟩
  have HB4 := Lib.hid (HB2.out.below hb4)
  clear hb4 HB2 Hgl3
  have gl4 : ∃ x, w4.cell? ⟨5, 0, none⟩ = some (.int .i64 x) := by
    obtain ⟨x, hx⟩ := Hgl.out
    exact ⟨x, by rw [HB4.out.L.cell h6]; exact hx⟩
  have Hgl4 := Lib.hid gl4
  clear gl4
  go_wp2_with fail
  refine (replace_nop (bs r) ⟨#[13]⟩ ⟨#[10]⟩ [] rfl (by decide) _ hss Hgl4.out Hok.out).mono ?_
  rintro e w5 ⟨rfl, hb5⟩
  have HB5 := Lib.hid (HB4.out.below hb5)
  clear hb5 HB4 Hgl4
  go_wp2_with fail
  have HT0 := TSt.new HB5.out Hgl.out h6 hss Hok.out
  have hb2 : w.heap.size + 1 < w5.heap.size := HB5.out.Y.lt
  rw [bs_data] at HT0
  obtain ⟨b, hb⟩ : ∃ b, b = w5.heap.size := ⟨_, rfl⟩
  obtain ⟨W6, hW6⟩ : ∃ W, W = w5.alloc (.cells #[.string (bs r), .int .i64 0, .int .i64 0] 55) := ⟨_, rfl⟩
  rw [← hb, ← hW6] at HT0
  rw [← hb, ← hW6]
  rw [← hb] at hb2
  have HT := Lib.hid HT0
  clear HT0 hb hW6 HB5 Hok
  obtain ⟨s, hs2⟩ : ∃ s, s = bs r := ⟨_, rfl⟩
  rw [← hs2] at HT hss
  have Hs2 := Lib.hid hs2
  refine (Tryz.strings_HasPrefix (bs r) ⟨#[60, 63, 120, 109, 108]⟩ _).mono ?_
  rintro e w7 ⟨rfl, rfl⟩
  rw [show Lib.hasPrefix (bs r).data.toList (⟨#[60, 63, 120, 109, 108]⟩ : ByteArray).data.toList = Lib.hasPrefix r [60, 63, 120, 109, 108] from rfl]
  cases hp : Lib.hasPrefix r [60, 63, 120, 109, 108] with
  | true => exact absurd (by rw [Ho.out, if_pos hp]) hne
  | false =>
    have Ho1 : Hid (o = (miscP true k r 0).then fun _ r m => (elemQ k scope0 0 r m).then fun x r m => (miscP false k r m).then fun _ r m => if r = [] then .ok x r m else .fail 10) := by rw [Ho.out, if_neg (by rw [hp]; decide)]; exact Lib.hid rfl
    clear hp Ho
    have hne1 : miscP true k r 0 ≠ .unk := fun h => hne (by rw [Ho1.out, h]; rfl)
    rw [← hs2]
    clear hs2
    go_wp2_with fail
    refine (misc_any b s true k r 0 _ HT.out.A hne1).mono ?_
    intro e w8 hp
    cases h8 : miscP true k r 0 with
    | unk => exact absurd h8 hne1
    | fail cc =>
      rw [h8] at hp
      obtain ⟨rfl, hk8⟩ := hp
      have HoF : Hid (o = .fail cc) := by rw [Ho1.out, h8]; exact Lib.hid rfl
      clear h8 Ho1 hne1
      go_wp2
      exact read_fail (BSt.kp HT.out hb2 hk8) HoF rfl rfl
    | ok uu r8 m8 =>
      rw [h8] at hp
      obtain ⟨he, hA8, hk8⟩ := hp
      replace he : e = .returned (.tuple #[]) := he
      subst he
      have Ho8 : Hid (o = (elemQ k scope0 0 r8 m8).then fun x r m => (miscP false k r m).then fun _ r m => if r = [] then .ok x r m else .fail 10) := by rw [Ho1.out, h8]; exact Lib.hid rfl
      have HT8 := Lib.hid (HT.out.kp hb2 hA8 hk8)
      clear hA8 hk8 h8 Ho1 hne1 HT
      have hmm := run_makeMap62 w8
      obtain ⟨ob, hup, hM9⟩ := run_mapUpdate (w8.alloc (.map #[] 0)) w8.heap.size [] xmlB (scope0 xmlB) (SM.new w8)
      have hup2 : (Instr.mapUpdate 62 (.map (some w8.heap.size)) (.string ⟨#[120, 109, 108]⟩) (.string ⟨#[104, 116, 116, 112, 58, 47, 47, 119, 119, 119, 46, 119, 51, 46, 111, 114, 103, 47, 88, 77, 76, 47, 49, 57, 57, 56, 47, 110, 97, 109, 101, 115, 112, 97, 99, 101]⟩)).run Tryz.prog (w8.alloc (.map #[] 0)) = .ok () (setMap (w8.alloc (.map #[] 0)) w8.heap.size ob) := hup
      have HT9 := Lib.hid (HT8.out.below (map_below w8 (.map #[] 0) ob))
      obtain ⟨mb, hmb⟩ : ∃ mb, mb = w8.heap.size := ⟨_, rfl⟩
      obtain ⟨W9, hW9⟩ : ∃ W, W = setMap (w8.alloc (.map #[] 0)) w8.heap.size ob := ⟨_, rfl⟩
      rw [← hW9] at HT9 hM9 hup2
      rw [← hmb] at hM9
      have HM9 : Hid (SM W9 mb [(xmlB, scope0 xmlB)]) := Lib.hid hM9
      have Hmb := Lib.hid hmb
      clear hup HT8 hM9 hW9
      have hne2 : elemQ k (lookL [(xmlB, scope0 xmlB)]) 0 r8 m8 ≠ .unk := fun h => hne (by rw [Ho8.out, scope0_look, h]; rfl)
      have hE : Calls Tryz.prog 33 #[.pointer (some ⟨b, 0, none⟩), .map (some mb), .int .i64 0] W9 (PostE b s W9 (elemQ k (lookL [(xmlB, scope0 xmlB)]) 0 r8 m8)) := elem_all k hk b s r8 m8 W9 mb _ 0 HT9.out.A HM9.out (by omega) hne2
      have HE := Lib.hid hE
      clear hE
      go_wp2_with fail
      clear hup2 hmm
      rw [← hmb]
      clear hmb
      refine HE.out.mono ?_
      intro e w10 hp
      cases h10 : elemQ k (lookL [(xmlB, scope0 xmlB)]) 0 r8 m8 with
      | unk => exact absurd h10 hne2
      | fail cc =>
        rw [h10] at hp
        obtain ⟨rfl, hk10⟩ := hp
        have HoF : Hid (o = .fail cc) := by rw [Ho8.out, scope0_look, h10]; exact Lib.hid rfl
        clear h10 Ho8 hne2 HE
        go_wp2
        exact read_fail (BSt.kp HT9.out hb2 hk10) HoF rfl rfl
      | ok x r10 m10 =>
        rw [h10] at hp
        obtain ⟨cs, rfl, hx, hA10, hk10⟩ := hp
        have Ho10 : Hid (o = (miscP false k r10 m10).then fun _ r m => if r = [] then .ok x r m else .fail 10) := by rw [Ho8.out, scope0_look, h10]; exact Lib.hid rfl
        have HT10 := Lib.hid (HT9.out.kp hb2 hA10 hk10)
        have hz9 : w.heap.size < W9.heap.size := HT9.out.S.X.lt
        have hz9b : w.heap.size + 1 < W9.heap.size := HT9.out.S.Y.lt
        have HX := Lib.hid (hx.far hz9)
        obtain ⟨sp, nm, tx, A1, p1, q1, A2, p2, q2, rfl⟩ := hx.cells
        clear hx hA10 hk10 h10 Ho8 hne2 HE HT9 HM9
        have a0 : w10.cell? ⟨w.heap.size, 0, none⟩ = some (.string ⟨#[]⟩) := HT10.out.S.X.cell 0
        have a1 : w10.cell? ⟨w.heap.size, 1, none⟩ = some (.string ⟨#[]⟩) := HT10.out.S.X.cell 1
        have a2 : w10.cell? ⟨w.heap.size, 2, none⟩ = some (.string ⟨#[]⟩) := HT10.out.S.X.cell 2
        have a3 : w10.cell? ⟨w.heap.size, 3, none⟩ = some (.slice none 0 0) := HT10.out.S.X.cell 3
        have a4 : w10.cell? ⟨w.heap.size, 4, none⟩ = some (.slice none 0 0) := HT10.out.S.X.cell 4
        have f0 := HT10.out.S.X.fr 0
        have f1 := HT10.out.S.X.fr 1
        have f2 := HT10.out.S.X.fr 2
        have f3 := HT10.out.S.X.fr 3
        have f4 := HT10.out.S.X.fr 4
        go_wp2_with fail
        have HT11 := Lib.hid (HT10.out.store hb2 h6 (.string (bs sp)) (.string (bs nm)) (.string (bs tx)) (.slice A1 p1 q1) (.slice A2 p2 q2) ⟨_, _, _, _, _, rfl⟩)
        have HX11 := Lib.hid (HX.out (.string (bs sp)) (.string (bs nm)) (.string (bs tx)) (.slice A1 p1 q1) (.slice A2 p2 q2))
        clear a0 a1 a2 a3 a4 f0 f1 f2 f3 f4 HT10 HX
        obtain ⟨W11, hW11⟩ : ∃ W, W = st5 w10 w.heap.size 0 (.string (bs sp)) (.string (bs nm)) (.string (bs tx)) (.slice A1 p1 q1) (.slice A2 p2 q2) := ⟨_, rfl⟩
        rw [← hW11] at HT11 HX11
        rw [show (((((w10.setCell ⟨w.heap.size, 0, none⟩ (.string (bs sp))).setCell ⟨w.heap.size, 1, none⟩ (.string (bs nm))).setCell ⟨w.heap.size, 2, none⟩ (.string (bs tx))).setCell ⟨w.heap.size, 3, none⟩ (.slice A1 p1 q1)).setCell ⟨w.heap.size, 4, none⟩ (.slice A2 p2 q2)) = W11 from hW11.symm]
        clear hW11
        have hne3 : miscP false k r10 m10 ≠ .unk := fun h => hne (by rw [Ho10.out, h]; rfl)
        refine (misc_any b s false k r10 m10 _ HT11.out.A hne3).mono ?_
        intro e w12 hp
        cases h12 : miscP false k r10 m10 with
        | unk => exact absurd h12 hne3
        | fail cc =>
          rw [h12] at hp
          obtain ⟨rfl, hk12⟩ := hp
          have HoF : Hid (o = .fail cc) := by rw [Ho10.out, h12]; exact Lib.hid rfl
          clear h12 Ho10 hne3
          go_wp2
          exact read_fail (BSt.kp HT11.out hb2 hk12) HoF rfl rfl
        | ok uu r12 m12 =>
          rw [h12] at hp
          obtain ⟨he, hA12, hk12⟩ := hp
          replace he : e = .returned (.tuple #[]) := he
          subst he
          have Ho12 : Hid (o = if r12 = [] then .ok x r12 m12 else .fail 10) := by rw [Ho10.out, h12]; exact Lib.hid rfl
          have HX12 := Lib.hid (HX11.out.kp HT11.out.A hk12)
          have HT12 := Lib.hid (HT11.out.kp hb2 hA12 hk12)
          clear hA12 hk12 h12 Ho10 hne3 HT11 HX11
          obtain ⟨a, ha, hra, hRd⟩ := HT12.out.A.rd
          have hc0 := hRd.c0
          have hc1 := hRd.c1
          have hl12 := drop_len hra
          clear hRd hra
          by_cases hr12 : r12 = []
          · have Ho13 : Hid (o = .ok x r12 m12) := by rw [Ho12.out, if_pos hr12]; exact Lib.hid rfl
            have hae : a = s.size := by rw [hr12] at hl12; simp at hl12; omega
            have hd : ((a : Int) == (s.size : Int)) = true := by simp [hae]
            clear hr12 hl12 Ho12
            go_wp2_with fail
            refine StillG.tail 10 (by kernel_rfl) (by kernel_rfl) ?_
            simp only [List.take_succ_cons, List.take_zero, List.drop_succ_cons, List.drop_zero]
            iterate 10 (refine StillG.want rfl (fun K hK => ?_); go_simp; refine hK _ ?_; clear hK K)
            refine StillG.nil ?_
            clear hc0 hc1 hd
            go_wp2_with fail
            refine (must_ok _ _).mono ?_
            rintro e w13 ⟨rfl, rfl⟩
            have HT13 := Lib.hid (HT12.out.drewN 1)
            have HX13 : Hid (IsE (w12.drewN 1) (fun k => W9.heap.size ≤ k) x [.string (bs sp), .string (bs nm), .string (bs tx), .slice A1 p1 q1, .slice A2 p2 q2]) := Lib.hid (HX12.out.move (fun _ h _ => h) fun _ _ _ _ _ _ => rfl)
            clear HT12 HX12
            obtain ⟨W13, hW13⟩ : ∃ W, W = w12.drewN 1 := ⟨_, rfl⟩
            rw [← hW13] at HT13 HX13
            rw [show w12.drew = W13 from hW13.symm]
            clear hW13
            have a0 : W13.cell? ⟨w.heap.size, 0, none⟩ = some (.string (bs sp)) := HT13.out.S.X.cell 0
            have a1 : W13.cell? ⟨w.heap.size, 1, none⟩ = some (.string (bs nm)) := HT13.out.S.X.cell 1
            have a2 : W13.cell? ⟨w.heap.size, 2, none⟩ = some (.string (bs tx)) := HT13.out.S.X.cell 2
            have a3 : W13.cell? ⟨w.heap.size, 3, none⟩ = some (.slice A1 p1 q1) := HT13.out.S.X.cell 3
            have a4 : W13.cell? ⟨w.heap.size, 4, none⟩ = some (.slice A2 p2 q2) := HT13.out.S.X.cell 4
            have f0 := HT13.out.S.X.fr 0
            have f1 := HT13.out.S.X.fr 1
            have f2 := HT13.out.S.X.fr 2
            have f3 := HT13.out.S.X.fr 3
            have f4 := HT13.out.S.X.fr 4
            have g0 : W13.cell? ⟨w.heap.size + 1, 0, none⟩ = some (.int .i64 0) := HT13.out.S.Y.cell 0
            have g1 := HT13.out.S.Y.fr 0
            have hz13 : w.heap.size + 1 < W13.heap.size := HT13.out.S.Y.lt
            go_wp2
            have HT14 := HT13.out.store hb2 h6 (.string (bs sp)) (.string (bs nm)) (.string (bs tx)) (.slice A1 p1 q1) (.slice A2 p2 q2) ⟨_, _, _, _, _, rfl⟩
            have HX14 := HX13.out.far (g := w.heap.size) hz9 (.string (bs sp)) (.string (bs nm)) (.string (bs tx)) (.slice A1 p1 q1) (.slice A2 p2 q2)
            have hX := HT14.S.X.set_ne (p := ⟨w.heap.size + 1, 0, none⟩) (by simp) (.int .i64 0)
            have hY := HT14.S.Y.set 0 (.int .i64 0)
            have hL := HT14.S.L.setCell (p := ⟨w.heap.size + 1, 0, none⟩) (by simp) (.int .i64 0)
            refine door_ok hX hY rfl rfl (postR_ok Ho13 (cs := [.string (bs sp), .string (bs nm), .string (bs tx), .slice A1 p1 q1, .slice A2 p2 q2]) ((HX14.move (fun k hk _ => Nat.le_trans (Nat.le_of_lt hz9) hk) fun k c t hk _ _ => Below.heap_setCell _ ⟨w.heap.size + 1, 0, none⟩ _ k (by simp; omega))) hL)
          · have HoF : Hid (o = .fail 10) := by rw [Ho12.out, if_neg hr12]; exact Lib.hid rfl
            have hae : a < s.size := by
              have : 0 < r12.length := List.length_pos_iff.2 hr12
              omega
            have hd : ((a : Int) == (s.size : Int)) = false := by simp; omega
            clear hr12 hl12 Ho12
            go_wp2_with fail
            refine StillG.tail 10 (by kernel_rfl) (by kernel_rfl) ?_
            simp only [List.take_succ_cons, List.take_zero, List.drop_succ_cons, List.drop_zero]
            iterate 10 (refine StillG.want rfl (fun K hK => ?_); go_simp; refine hK _ ?_; clear hK K)
            refine StillG.nil ?_
            clear hc0 hc1 hd
            go_wp2_with fail
            refine (must_no _ _).mono ?_
            rintro e w13 ⟨rfl, rfl⟩
            go_wp2
            exact read_fail (HT12.out.drewN 1).S HoF rfl rfl
end Go.Proofs.YtmiflgcjphcigaaGreatDoor
