/-
  A part of the proof of statements on the element reader of package xml (X10): lemmas on what its functions come to; their conditions stand in each theorem.
-/
import Derived.Test.YtmiflgcjphcigaaGreatDoorX10a
set_option linter.unusedVariables false
set_option linter.unusedSimpArgs false
namespace Go.Proofs.YtmiflgcjphcigaaGreatDoor
open Go.RowKit
/-- A block of cells, known whole. -/
structure Blk (w : World) (g : Nat) (cs : List Value) (t : TypeId) : Prop where
  out : w.heap[g]? = some (.cells cs.toArray t (0, 0))
section
variable {w w' : World} {g : Nat} {cs : List Value} {t : TypeId}
theorem Blk.lt (h : Blk w g cs t) : g < w.heap.size := lt_of_block h.out
theorem Blk.cell (h : Blk w g cs t) (j : Nat) : w.cell? ⟨g, j, none⟩ = cs[j]? := by simp [World.cell?, h.out]
theorem Blk.fr (h : Blk w g cs t) (j : Nat) : w.frozen? ⟨g, j, none⟩ = false := by simp [World.frozen?, h.out]
theorem Blk.drewN (h : Blk w g cs t) (n : Nat) : Blk (w.drewN n) g cs t := ⟨h.out⟩
theorem Blk.move (h : Blk w g cs t) (e : w'.heap[g]? = w.heap[g]?) : Blk w' g cs t := ⟨e.trans h.out⟩
theorem Blk.kp {b : Nat} (h : Blk w g cs t) (hk : Kp b w w') (hn : g ≠ b) : Blk w' g cs t := h.move (hk.block h.lt hn)
theorem Blk.below {B : Nat} (h : Blk w g cs t) (hb : Below B w w') (hl : g < B) : Blk w' g cs t := h.move (hb.block g hl)
theorem Blk.alloc (h : Blk w g cs t) (o : Obj) : Blk (w.alloc o) g cs t := h.move (Below.heap_alloc w o g h.lt)
theorem Blk.new (w : World) (cs : List Value) (t : TypeId) : Blk (w.alloc (.cells cs.toArray t)) w.heap.size cs t := ⟨heap_alloc_new w _⟩
theorem Blk.set (h : Blk w g cs t) (j : Nat) (v : Value) : Blk (w.setCell ⟨g, j, none⟩ v) g (cs.set j v) t := by
  have hlt := h.lt
  have h' : w.heap[g] = .cells cs.toArray t (0, 0) := by have := h.out; simpa [Array.getElem?_eq_getElem hlt] using this
  refine ⟨?_⟩
  show (w.heap.modify g _)[g]? = _
  rw [Array.getElem?_eq_getElem (by simpa using hlt), Array.getElem_modify_self, h']
  simp
theorem Blk.set_ne {p : Addr} (h : Blk w g cs t) (hn : g ≠ p.block) (v : Value) : Blk (w.setCell p v) g cs t := h.move (Below.heap_setCell w p v g hn)
end
theorem At.set_ne {w : World} {b : Nat} {s : ByteArray} {r : List UInt8} {m : Nat} (h : At w b s r m) {g : Nat} (hn : b ≠ g) (h5 : 5 ≠ g) (o : Nat) (v : Value) : At (w.setCell ⟨g, o, none⟩ v) b s r m := by
  obtain ⟨a, ha, hr, hR⟩ := h.rd
  obtain ⟨x, hx⟩ := h.gl
  exact ⟨⟨x, (World.cell?_of_block (w := w) (a := ⟨5, 0, none⟩) (Below.heap_setCell w ⟨g, o, none⟩ v 5 h5)).trans hx⟩, h.b5, h.sz, h.asc, a, ha, hr, (Below.heap_setCell w ⟨g, o, none⟩ v b hn).trans hR⟩
theorem At.lt {w : World} {b : Nat} {s : ByteArray} {r : List UInt8} {m : Nat} (h : At w b s r m) : b < w.heap.size := by
  obtain ⟨a, ha, hr, hR⟩ := h.rd
  exact hR.lt
/-- A write to a block that lay not there at the beginning. -/
theorem Kp.new {b : Nat} {u v : World} (h : Kp b u v) {g : Nat} (hg : u.heap.size ≤ g) (o : Nat) (x : Value) : Kp b u (v.setCell ⟨g, o, none⟩ x) :=
  ⟨⟨h.1.os, h.1.tape, h.1.output, by simpa [World.setCell] using h.1.size, fun k hk hn => (Below.heap_setCell v ⟨g, o, none⟩ x k (by simp; omega)).trans (h.1.block k hk hn)⟩⟩
def writV (x : B × B × B) : Value := .agg #[.string (bs x.1), .string (bs x.2.1), .string (bs x.2.2)]
theorem byte_beq {c d : UInt8} (h : c ≠ d) : (((c.toNat : Nat) : Int) == ((d.toNat : Nat) : Int)) = false := by
  rw [beq_eq_false_iff_ne]
  intro e
  exact h (UInt8.toNat_inj.1 (by omega))
theorem results_cell {P : Program} {fn : Func} {p : Tmp} {ty t : TypeId} {tmps : Array Value} {w : World} {g : Nat} {cs : List Value} {d : TypeDesc} (h : fn.results = #[.cell p ty])
    (hp : tmps.getD p undef = .pointer (some ⟨g, 0, none⟩)) (hg : Blk w g cs t) (hu : P.underlying ty = some d) (hd : (match d with | .struct _ | .array _ _ => true | _ => false) = true) (hi : (P.info? ty).map (·.size) = some cs.length) :
    (results fn tmps).run P w = .ok (.agg cs.toArray) w := by
  have hp' : tmps[p]?.getD undef = .pointer (some ⟨g, 0, none⟩) := by simpa using hp
  have hl := run_loadVar_row (P := P) w g t ty cs.toArray (0, 0) d hg.out hu hd (by rw [List.size_toArray]; exact hi)
  simp [results, h, hp', asAddr, hl]
theorem at_step0 {w : World} {b : Nat} {s : ByteArray} {r : List UInt8} {m a : Nat} (hA : At w b s r m) (hR : Rd w b s a m) (h : a < s.size) :
    At (w.setCell ⟨b, 1, none⟩ (.int .i64 ((a : Int) + 1))) b s (s.data.toList.drop (a + 1)) m ∧ Kp b w (w.setCell ⟨b, 1, none⟩ (.int .i64 ((a : Int) + 1))) := by
  have hk := (Kp.refl b w).set 1 (.int .i64 ((a : Int) + 1))
  exact ⟨hA.goes hk (a := a + 1) (by omega) rfl (hR.set1 (a + 1)), hk⟩
theorem ref_len {r x r2 : B} {m m2 : Nat} (h : refP r m = .ok x r2 m2) : x.length + r2.length < r.length ∧ m2 = m := by
  unfold refP at h
  split at h
  · rename_i hp
    injection h with h1 h2 h3
    subst h1 h2 h3
    have := (List.isPrefixOf_iff_prefix.1 hp).length_le
    simp at this ⊢
    omega
  · cases h
theorem byte_ne {c d : UInt8} (h : (c == d) = false) : ((c.toNat : Nat) : Int) ≠ (d.toNat : Nat) := by
  intro e
  have : c = d := UInt8.toNat_inj.1 (by omega)
  rw [this] at h
  simp at h
set_option maxHeartbeats 4000000 in
set_option maxRecDepth 100000 in
theorem attr_any (b : Nat) (s : ByteArray) (r : B) (m : Nat) (w : World) (hA : At w b s r m) (hne : attrP r m ≠ .unk) : Calls Tryz.prog 55 #[.pointer (some ⟨b, 0, none⟩)] w (Post b s w writV (attrP r m)) := by
  obtain ⟨o, ho⟩ : ∃ o, o = attrP r m := ⟨_, rfl⟩
  rw [← ho] at hne ⊢
  unfold attrP at ho
  have hbl := hA.lt
  have hb5 := hA.b5
  have HA := Lib.hid hA
  have Ho := Lib.hid ho
  clear hA ho
  have HK0 : Hid (Kp b w ((w.alloc (.cells #[.string ⟨#[]⟩, .string ⟨#[]⟩, .string ⟨#[]⟩] 77)).alloc (.cells #[.string ⟨#[]⟩, .string ⟨#[]⟩, .string ⟨#[]⟩] 77))) := ((Kp.refl b w).alloc _).alloc _
  have HX0 : Hid (Blk ((w.alloc (.cells #[.string ⟨#[]⟩, .string ⟨#[]⟩, .string ⟨#[]⟩] 77)).alloc (.cells #[.string ⟨#[]⟩, .string ⟨#[]⟩, .string ⟨#[]⟩] 77)) (w.heap.size + 1) [.string ⟨#[]⟩, .string ⟨#[]⟩, .string ⟨#[]⟩] 77) := by
    have h := Blk.new (w.alloc (.cells #[.string ⟨#[]⟩, .string ⟨#[]⟩, .string ⟨#[]⟩] 77)) [.string ⟨#[]⟩, .string ⟨#[]⟩, .string ⟨#[]⟩] 77
    have e : (w.alloc (.cells #[.string ⟨#[]⟩, .string ⟨#[]⟩, .string ⟨#[]⟩] 77)).heap.size = w.heap.size + 1 := by simp
    rw [e] at h
    exact h
  have HR0 : Hid (Blk ((w.alloc (.cells #[.string ⟨#[]⟩, .string ⟨#[]⟩, .string ⟨#[]⟩] 77)).alloc (.cells #[.string ⟨#[]⟩, .string ⟨#[]⟩, .string ⟨#[]⟩] 77)) w.heap.size [.string ⟨#[]⟩, .string ⟨#[]⟩, .string ⟨#[]⟩] 77) :=
    (Blk.new w [.string ⟨#[]⟩, .string ⟨#[]⟩, .string ⟨#[]⟩] 77).alloc _
  go_enter Tryz.func55, Tryz.ntmps55
  go_wp2_with fail
  refine (qual_any b s r m _ ((HA.out.alloc _).alloc _)).mono ?_
  intro e w1 hp
  change Post b s _ pairV (qualP r m) e w1 at hp
  cases h1 : qualP r m with
  | unk => exact absurd (by rw [Ho.out, h1]; rfl) hne
  | fail c =>
    rw [h1] at hp
    obtain ⟨rfl, hk⟩ := hp
    have HoF : Hid (o = .fail c) := by rw [Ho.out, h1]; rfl
    have HKF := Lib.hid ((HK0.out).trans hk)
    clear hk
    go_wp2
    exact ⟨rfl, post_fail HoF HKF.out⟩
  | ok x1 r1 m1 =>
    rw [h1] at hp
    obtain ⟨he, hA1, hk1⟩ := hp
    replace he : e = .returned (.tuple #[.string (bs x1.1), .string (bs x1.2)]) := he
    subst he
    have Ho1 : Hid (o = (wantP [61] (r1.dropWhile isBlank) m1).then fun _ r m =>
        if (r.dropWhile isBlank).headD 0 == 34 || (r.dropWhile isBlank).headD 0 == 39 then
          (valueP ((r.dropWhile isBlank).headD 0) (r.length + 1) [] ((r.dropWhile isBlank).drop 1) m).then fun v r m => .ok (x1.1, x1.2, v) r m
        else .fail 10) := by rw [Ho.out, h1]; rfl
    have HA1 := Lib.hid hA1
    have HK1 := Lib.hid ((HK0.out).trans hk1)
    have HX1 := Lib.hid ((HX0.out).kp hk1 (by omega))
    have HR1 := Lib.hid ((HR0.out).kp hk1 (by omega))
    clear hA1 hk1
    have hc0 := HX1.out.cell 0
    have hc1 := HX1.out.cell 1
    have hf0 := HX1.out.fr 0
    have hf1 := HX1.out.fr 1
    go_wp2_with fail
    clear hc0 hc1 hf0 hf1
    have HX2 := Lib.hid ((HX1.out.set 0 (.string (bs x1.1))).set 1 (.string (bs x1.2)))
    have HR2 := Lib.hid ((HR1.out.set_ne (p := ⟨w.heap.size + 1, 0, none⟩) (by simp) (.string (bs x1.1))).set_ne (p := ⟨w.heap.size + 1, 1, none⟩) (by simp) (.string (bs x1.2)))
    have HK2 := Lib.hid ((HK1.out.new (g := w.heap.size + 1) (by omega) 0 (.string (bs x1.1))).new (g := w.heap.size + 1) (by omega) 1 (.string (bs x1.2)))
    have HA2 := Lib.hid ((HA1.out.set_ne (g := w.heap.size + 1) (by omega) (by omega) 0 (.string (bs x1.1))).set_ne (g := w.heap.size + 1) (by omega) (by omega) 1 (.string (bs x1.2)))
    clear HX1 HR1 HK1 HA1
    refine (blank_any b s r1 m1 _ HA2.out).mono ?_
    rintro e w3 ⟨rfl, hA3, hk3⟩
    have HA3 := Lib.hid hA3
    have HK3 := Lib.hid (HK2.out.trans hk3)
    have HX3 : Hid (Blk w3 (w.heap.size + 1) [.string (bs x1.1), .string (bs x1.2), .string ⟨#[]⟩] 77) := HX2.out.kp hk3 (by omega)
    have HR3 := Lib.hid (HR2.out.kp hk3 (by omega))
    clear hA3 hk3 HX2 HR2 HK2 HA2
    go_wp2_with fail
    refine (wants_any b s _ m1 _ _ HA3.out).mono ?_
    intro e w4 hp
    change Post b s _ unitV (wantP [61] (r1.dropWhile isBlank) m1) e w4 at hp
    cases h4 : wantP [61] (r1.dropWhile isBlank) m1 with
    | unk => exact absurd (by rw [Ho1.out, h4]; rfl) hne
    | fail c =>
      rw [h4] at hp
      obtain ⟨rfl, hk⟩ := hp
      have HoF : Hid (o = .fail c) := by rw [Ho1.out, h4]; rfl
      have HKF := Lib.hid ((HK3.out).trans hk)
      clear hk
      go_wp2
      exact ⟨rfl, post_fail HoF HKF.out⟩
    | ok x4 r4 m4 =>
      rw [h4] at hp
      obtain ⟨he, hA4, hk4⟩ := hp
      replace he : e = .returned (.tuple #[]) := he
      subst he
      have Ho4 : Hid (o = if (r4.dropWhile isBlank).headD 0 == 34 || (r4.dropWhile isBlank).headD 0 == 39 then
            (valueP ((r4.dropWhile isBlank).headD 0) (r4.length + 1) [] ((r4.dropWhile isBlank).drop 1) m4).then fun v r m => .ok (x1.1, x1.2, v) r m
          else .fail 10) := by rw [Ho1.out, h4]; rfl
      have HA4 := Lib.hid hA4
      have HK4 := Lib.hid ((HK3.out).trans hk4)
      have HX4 := Lib.hid ((HX3.out).kp hk4 (by omega))
      have HR4 := Lib.hid ((HR3.out).kp hk4 (by omega))
      clear hA4 hk4
      go_wp2_with fail
      refine (blank_any b s r4 m4 _ HA4.out).mono ?_
      rintro e w5 ⟨rfl, hA5, hk5⟩
      have HA5 := Lib.hid hA5
      have HK5 := Lib.hid (HK4.out.trans hk5)
      have HX5 := Lib.hid (HX4.out.kp hk5 (by omega))
      have HR5 := Lib.hid (HR4.out.kp hk5 (by omega))
      clear hA5 hk5
      obtain ⟨r5, hr5⟩ : ∃ r5, r5 = r4.dropWhile isBlank := ⟨_, rfl⟩
      rw [← hr5] at HA5
      have Ho5 : Hid (o = if r5.headD 0 == 34 || r5.headD 0 == 39 then
            (valueP (r5.headD 0) (r4.length + 1) [] (r5.drop 1) m4).then fun v r m => .ok (x1.1, x1.2, v) r m
          else .fail 10) := by rw [hr5]; exact Ho4.out
      have hl5 : r5.length ≤ r4.length := by rw [hr5]; exact (List.dropWhile_sublist _).length_le
      clear hr5
      obtain ⟨q, hq0⟩ : ∃ q, q = r5.headD 0 := ⟨_, rfl⟩
      rw [← hq0] at Ho5
      go_wp2_with fail
      refine (byteAt_any b s r5 m4 0 _ HA5.out (by omega)).mono ?_
      rintro e w6 ⟨he, n6, rfl⟩
      rw [show r5.getD 0 0 = q by rw [hq0]; cases r5 <;> rfl] at he
      subst he
      have Hq0 := Lib.hid hq0
      clear hq0
      cases hq : (q == 34 || q == 39) with
      | false =>
        have HoF : Hid (o = .fail 10) := by rw [Ho5.out, if_neg (by rw [hq]; decide)]; rfl
        have hq1 : (((q.toNat : Nat) : Int) == 34) = false := by
          rw [Bool.or_eq_false_iff] at hq
          have := byte_ne hq.1
          simpa using this
        have hq2 : (((q.toNat : Nat) : Int) == 39) = false := by
          rw [Bool.or_eq_false_iff] at hq
          have := byte_ne hq.2
          simpa using this
        clear hq
        go_wp2_with fail
        refine (must_no _ _).mono ?_
        rintro e w7 ⟨rfl, rfl⟩
        go_wp2
        exact ⟨rfl, post_fail HoF (HK5.out.drewN _)⟩
      | true =>
        have hq1 : q = 34 ∨ q = 39 := by simpa using hq
        have hr5c : ∃ r6, r5 = q :: r6 := by
          have h0 := Hq0.out
          cases r5 with
          | nil => rcases hq1 with h | h <;> rw [h] at h0 <;> exact absurd h0 (by decide)
          | cons c l => exact ⟨l, by rw [h0]; rfl⟩
        obtain ⟨r6, hr6⟩ := hr5c
        have Ho6 : Hid (o = (valueP q (r4.length + 1) [] r6 m4).then fun v r m => .ok (x1.1, x1.2, v) r m) := by rw [Ho5.out, if_pos hq, hr6]; rfl
        have hl6 : r6.length < r4.length := by rw [hr6, List.length_cons] at hl5; omega
        clear hq Ho5 Hq0
        subst hr6
        obtain ⟨a5, ha5, hra5, hR5⟩ := HA5.out.rd
        have hlt5 : a5 < s.size := by have := drop_len hra5; rw [List.length_cons] at this; omega
        have hcr := hR5.c1
        have hfr := hR5.fr 1
        have HRd5 := Lib.hid hR5
        have Hra5 := Lib.hid hra5
        have hsz := HA5.out.sz
        have HD5 := Lib.hid (HR5.out.drewN n6)
        have HXD5 := Lib.hid (HX5.out.drewN n6)
        have HAS := at_step HA5.out HRd5.out hlt5 n6
        have HA7 : Hid (At ((w5.drewN n6).setCell ⟨b, 1, none⟩ (.int .i64 ((a5 : Int) + 1))) b s r6 m4) := by
          have h := rest_cons Hra5.out hlt5
          injection h with _ h2
          rw [h2]
          exact HAS.1
        have HK7 := Lib.hid (HK5.out.trans HAS.2)
        have HX7 := Lib.hid (HXD5.out.set_ne (p := ⟨b, 1, none⟩) (by simp; omega) (.int .i64 ((a5 : Int) + 1)))
        have HR7 := Lib.hid (HD5.out.set_ne (p := ⟨b, 1, none⟩) (by simp; omega) (.int .i64 ((a5 : Int) + 1)))
        clear hR5 hra5 HAS HD5 HXD5
        have HA4' := HA4
        rcases hq1 with rfl | rfl
        · go_wp2_with fail
          refine (must_ok _ _).mono ?_
          rintro e w7 ⟨rfl, rfl⟩
          go_wp2_with fail
          have HS8 : Hid (Lib.IsBuilderF 86 5 w5.heap.size w5.heap.size (Lib.byteCells []) (((w5.drewN n6).setCell ⟨b, 1, none⟩ (.int .i64 ((a5 : Int) + 1))).alloc (.cells #[.pointer none, .slice none 0 0] 86))) := by
            have h := Lib.IsBuilderF.of (Lib.fresh_isBuilder 86 5 ((w5.drewN n6).setCell ⟨b, 1, none⟩ (.int .i64 ((a5 : Int) + 1))))
            have e : ((w5.drewN n6).setCell ⟨b, 1, none⟩ (.int .i64 ((a5 : Int) + 1))).heap.size = w5.heap.size := by simp
            rw [e] at h
            exact h
          have HA8 := Lib.hid (HA7.out.alloc (.cells #[.pointer none, .slice none 0 0] 86))
          have HK8 := Lib.hid (HK7.out.alloc (.cells #[.pointer none, .slice none 0 0] 86))
          have HX8 := Lib.hid (HX7.out.alloc (.cells #[.pointer none, .slice none 0 0] 86))
          have HR8 := Lib.hid (HR7.out.alloc (.cells #[.pointer none, .slice none 0 0] 86))
          have hz8 : w.heap.size + 1 < w5.heap.size := HX5.out.lt
          have hzz : w5.heap.size ≤ (((w5.drewN n6).setCell ⟨b, 1, none⟩ (.int .i64 ((a5 : Int) + 1))).alloc (.cells #[.pointer none, .slice none 0 0] 86)).heap.size := by simp
          have Hzz := Lib.hid hzz
          clear hzz HA7 HK7 HX7 HR7 HX5 HR5 HK5 HA5 HX4 HR4 HK4 HA4 HX3 HR3 HK3 HA3 hcr hfr HRd5 Hra5
          obtain ⟨tb, htb⟩ : ∃ tb, tb = w5.heap.size := ⟨_, rfl⟩
          rw [← htb] at HS8 hz8 Hzz ⊢
          clear htb
          go_loopg [] (r4.length + 1) (fun k wr => Aside (∃ r' acc m', At wr b s r' m' ∧ Kp b w wr ∧ Blk wr (w.heap.size + 1) [.string (bs x1.1), .string (bs x1.2), .string ⟨#[]⟩] 77 ∧ Blk wr w.heap.size [.string ⟨#[]⟩, .string ⟨#[]⟩, .string ⟨#[]⟩] 77 ∧ Lib.IsBuilderF 86 5 tb tb (Lib.byteCells acc) wr ∧ tb ≤ wr.heap.size ∧ acc.length + r'.length ≤ r4.length ∧ o = (valueP 34 k acc r' m').then fun v r m => .ok (x1.1, x1.2, v) r m))
          case atStart => exact ⟨r6, [], m4, HA8.out, HK8.out, HX8.out, HR8.out, HS8.out, Hzz.out, by simp; omega, Ho6.out⟩
          case round =>
            clear HA8 HK8 HX8 HR8 HS8 Hzz Ho6 hl6 hl5
            obtain ⟨r', acc, m', hA, hK, hX, hR, hS, hz, hlen, ho⟩ := hrel.out
            clear hrel
            cases gk with
            | zero => exact absurd ho hne
            | succ k1 =>
              have hbt : b < tb := by omega
              have hlr4 : r4.length < 140737488355000 := by have := rest_size HA4'.out; omega
              have hA' := hA
              obtain ⟨a, ha, hra, hRd⟩ := hA'.rd
              have hc0 := hRd.c0
              have hc1 := hRd.c1
              have hfr := hRd.fr 1
              have HRd := Lib.hid hRd
              have Hra := Lib.hid hra
              have HA := Lib.hid hA
              have HK := Lib.hid hK
              have HX := Lib.hid hX
              have HR := Lib.hid hR
              have HS := Lib.hid hS
              have Ho := Lib.hid ho
              clear hA hK hX hR hS ho hA' hRd hra Ho1 Ho4
              cases r' with
              | nil =>
                have hlt : ¬ a < s.size := by have h := drop_len Hra.out; rw [List.length_nil] at h; omega
                have hd1 : decide ((a : Int) < (s.size : Int)) = false := by simp; omega
                have HoF : Hid (o = .fail 10) := by rw [Ho.out]; rfl
                go_wp2_with fail
                refine (byteAt_any b s [] m' 0 _ HA.out (by omega)).mono ?_
                rintro e w9 ⟨he, n9, rfl⟩
                replace he : e = .returned (.int .u8 0) := he
                subst he
                go_wp2
                refine StillG.tail 14 (by kernel_rfl) (by kernel_rfl) ?_
                simp only [List.take_succ_cons, List.take_zero, List.drop_succ_cons, List.drop_zero]
                iterate 11 (refine StillG.want rfl (fun K hK => ?_); go_simp; refine hK _ ?_; clear hK K)
                iterate 2 (refine StillG.skip (by simp [Region.wanted, yielded, Act.put]) ?_)
                refine StillG.want rfl (fun K hK => ?_); go_simp; refine hK _ ?_; clear hK K
                refine StillG.nil ?_
                go_wp2_with fail
                refine (must_no _ _).mono ?_
                rintro e w10 ⟨rfl, rfl⟩
                go_wp2
                exact ⟨rfl, post_fail HoF (HK.out.drewN _)⟩
              | cons c r2 =>
                have hlt : a < s.size := by have h := drop_len Hra.out; rw [List.length_cons] at h; omega
                have hd1 : decide ((a : Int) < (s.size : Int)) = true := by simp; omega
                have hoC := Ho.out
                unfold valueP at hoC
                have HoC := Lib.hid hoC
                clear Ho hoC
                go_wp2_with fail
                refine (byteAt_any b s (c :: r2) m' 0 _ HA.out (by omega)).mono ?_
                rintro e w9 ⟨he, n9, rfl⟩
                replace he : e = .returned (.int .u8 c.toNat) := he
                subst he
                go_wp2
                refine StillG.tail 14 (by kernel_rfl) (by kernel_rfl) ?_
                simp only [List.take_succ_cons, List.take_zero, List.drop_succ_cons, List.drop_zero]
                iterate 12 (refine StillG.want rfl (fun K hK => ?_); go_simp; refine hK _ ?_; clear hK K)
                by_cases h60 : c = 60
                · have HoF : Hid (o = .fail 10) := by rw [HoC.out, if_pos (by rw [h60]; rfl)]; rfl
                  subst h60
                  iterate 2 (refine StillG.want rfl (fun K hK => ?_); go_simp; refine hK _ ?_; clear hK K)
                  refine StillG.nil ?_
                  go_wp2_with fail
                  refine (must_no _ _).mono ?_
                  rintro e w10 ⟨rfl, rfl⟩
                  go_wp2
                  exact ⟨rfl, post_fail HoF (HK.out.drewN _)⟩
                · have hoC1 := HoC.out
                  rw [if_neg (by simpa using h60)] at hoC1
                  have HoC1 := Lib.hid hoC1
                  clear HoC hoC1
                  have h60a : (((c.toNat : Nat) : Int) == 60) = false := byte_beq h60
                  have h60b : (((c.toNat : Nat) : Int) != 60) = true := by rw [bne, h60a]; rfl
                  have h60c : c ≠ 60 := h60
                  clear h60
                  iterate 2 (refine StillG.want rfl (fun K hK => ?_); go_simp; refine hK _ ?_; clear hK K)
                  refine StillG.nil ?_
                  go_wp2_with fail
                  refine (must_ok _ _).mono ?_
                  rintro e w10 ⟨rfl, rfl⟩
                  by_cases hq : c = 34
                  · subst hq
                    have HoC2 : Hid (o = .ok (x1.1, x1.2, acc) r2 m') := by rw [HoC1.out, if_pos (by rfl)]; rfl
                    clear HoC1
                    have hst := at_step HA.out HRd.out hlt (n9 + 1)
                    rw [show s.data.toList.drop (a + 1) = r2 by have h := rest_cons Hra.out hlt; injection h with _ h2; rw [h2]] at hst
                    have HAW := Lib.hid hst.1
                    have HKW := Lib.hid (HK.out.trans hst.2)
                    have HSW := Lib.hid (bf_kp HS.out HA.out hst.2)
                    have HXW := Lib.hid (HX.out.kp hst.2 (by omega))
                    have HRW := Lib.hid (HR.out.kp hst.2 (by omega))
                    have Hzw := Lib.hid (Nat.le_trans hz hst.2.size)
                    clear hst
                    go_wp2_with fail
                    refine (Tryz.Builder_String_any_k tb tb acc _ HSW.out Hzw.out).mono ?_
                    rintro e w11 ⟨he, _, hb11, _⟩
                    replace he : e = .returned (.string (bs acc)) := he
                    subst he
                    have HX11 := Lib.hid (HXW.out.below hb11 hz8)
                    have HR11 := Lib.hid (HRW.out.below hb11 (by omega))
                    have HA11 := Lib.hid (HAW.out.belowB hb11 hbt)
                    have HK11 := Lib.hid (HKW.out.belowB hb11 (by omega))
                    clear hb11 HXW HRW HAW HKW HSW Hzw hc0 hc1 hfr
                    have hx0 := HX11.out.cell 0
                    have hx1 := HX11.out.cell 1
                    have hx2 := HX11.out.cell 2
                    have hxf := HX11.out.fr 2
                    have hr0 := HR11.out.cell 0
                    have hr1 := HR11.out.cell 1
                    have hr2 := HR11.out.cell 2
                    have hf0 := HR11.out.fr 0
                    have hf1 := HR11.out.fr 1
                    have hf2 := HR11.out.fr 2
                    go_wp2
                    have HRz := Lib.hid ((((HR11.out.set_ne (p := ⟨w.heap.size + 1, 2, none⟩) (by simp) (.string (bs acc))).set 0 (.string (bs x1.1))).set 1 (.string (bs x1.2))).set 2 (.string (bs acc)))
                    have HAz := Lib.hid ((((HA11.out.set_ne (g := w.heap.size + 1) (by omega) (by omega) 2 (.string (bs acc))).set_ne (g := w.heap.size) (by omega) (by omega) 0 (.string (bs x1.1))).set_ne (g := w.heap.size) (by omega) (by omega) 1 (.string (bs x1.2))).set_ne (g := w.heap.size) (by omega) (by omega) 2 (.string (bs acc)))
                    have HKz := Lib.hid ((((HK11.out.new (g := w.heap.size + 1) (by omega) 2 (.string (bs acc))).new (g := w.heap.size) (by omega) 0 (.string (bs x1.1))).new (g := w.heap.size) (by omega) 1 (.string (bs x1.2))).new (g := w.heap.size) (by omega) 2 (.string (bs acc)))
                    refine bodyPost_ret (v := writV (x1.1, x1.2, acc)) ?_ rfl (post_ok HoC2 rfl HAz.out HKz.out)
                    exact results_cell rfl rfl HRz.out rfl rfl rfl
                  · have hoC2 := HoC1.out
                    rw [if_neg (by simpa using hq)] at hoC2
                    have HoC2 := Lib.hid hoC2
                    have hqa : (((c.toNat : Nat) : Int) == 34) = false := byte_beq hq
                    clear HoC1 hoC2 hq
                    by_cases h38 : c = 38
                    · subst h38
                      have hoC3 := HoC2.out
                      rw [if_pos (by rfl)] at hoC3
                      have HoC3 := Lib.hid hoC3
                      clear HoC2 hoC3
                      go_wp2_with fail
                      refine (ref_any b s (38 :: r2) m' _ (HA.out.drewN (n9 + 1)) (fun h => hne (by rw [HoC3.out, h]; rfl))).mono ?_
                      intro e w11 hp
                      cases hrf : refP (38 :: r2) m' with
                      | unk => exact absurd (by rw [HoC3.out, hrf]; rfl) hne
                      | fail cc =>
                        rw [hrf] at hp
                        obtain ⟨rfl, hk⟩ := hp
                        have HoF : Hid (o = .fail cc) := by rw [HoC3.out, hrf]; rfl
                        have HKF := Lib.hid ((HK.out.drewN (n9 + 1)).trans hk)
                        clear hk
                        go_wp2
                        exact ⟨rfl, post_fail HoF HKF.out⟩
                      | ok x r3 m3 =>
                        rw [hrf] at hp
                        obtain ⟨he, hA11, hk11⟩ := hp
                        replace he : e = .returned (.string (bs x)) := he
                        subst he
                        have HoC4 : Hid (o = (valueP 34 k1 (acc ++ x) r3 m3).then fun v r m => .ok (x1.1, x1.2, v) r m) := by rw [HoC3.out, hrf]; rfl
                        have hln := (ref_len hrf).1
                        have HA11 := Lib.hid hA11
                        have HK11 := Lib.hid ((HK.out.drewN (n9 + 1)).trans hk11)
                        have HX11 := Lib.hid ((HX.out.drewN (n9 + 1)).kp hk11 (by omega))
                        have HR11 := Lib.hid ((HR.out.drewN (n9 + 1)).kp hk11 (by omega))
                        have HS11 := Lib.hid (bf_kp (bf_drewN HS.out (n9 + 1)) (HA.out.drewN (n9 + 1)) hk11)
                        have hz11 : tb ≤ w11.heap.size := Nat.le_trans hz hk11.size
                        clear hA11 hk11 hc0 hc1 hfr hrf
                        go_wp2_with fail
                        refine (Tryz.Builder_WriteString_k tb tb (Lib.byteCells acc) (bs x) _ HS11.out (by rw [Lib.byteCells_length, bs_size]; simp only [List.length_cons] at hlen hln; omega) hz11).mono ?_
                        rintro e w12 ⟨rfl, hbf, hb12, _⟩
                        have HB12 : Hid (Lib.IsBuilderF 86 5 tb tb (Lib.byteCells (acc ++ x)) w12) := by
                          have h : Lib.IsBuilderF 86 5 tb tb (Lib.byteCells acc ++ Lib.strCells (bs x)) w12 := .inr hbf
                          rw [bytes_app] at h
                          exact h
                        have HX12 := Lib.hid (HX11.out.below hb12 hz8)
                        have HR12 := Lib.hid (HR11.out.below hb12 (by omega))
                        have HA12 := Lib.hid (HA11.out.belowB hb12 hbt)
                        have HK12 := Lib.hid (HK11.out.belowB hb12 (by omega))
                        have hz12 : tb ≤ w12.heap.size := Nat.le_trans hz11 hb12.size
                        clear hb12 hbf
                        go_wp2
                        go_roundg k1
                        case measure => omega
                        case rel =>
                          refine ⟨r3, acc ++ x, m3, HA12.out, HK12.out, HX12.out, HR12.out, HB12.out, hz12, ?_, HoC4.out⟩
                          simp only [List.length_cons, List.length_append] at hlen hln ⊢
                          omega
                    · have hoC3 := HoC2.out
                      rw [if_neg (by simpa using h38)] at hoC3
                      have HoC3 := Lib.hid hoC3
                      have h38a : (((c.toNat : Nat) : Int) == 38) = false := byte_beq h38
                      clear HoC2 hoC3 h38
                      by_cases h9 : c = 9
                      · have HoC4 : Hid (o = (valueP 34 k1 (acc ++ [32]) r2 m').then fun v r m => .ok (x1.1, x1.2, v) r m) := by rw [HoC3.out, h9]; rfl
                        subst h9
                        clear HoC3
                        go_wp2_with fail
                        refine (Tryz.Builder_WriteByte_k tb tb (Lib.byteCells acc) 32 _ (bf_drewN HS.out (n9 + 1)) (by rw [Lib.byteCells_length]; simp only [List.length_cons] at hlen; omega) hz).mono ?_
                        rintro e w11 ⟨rfl, hbf, hb11, _⟩
                        have HB11 : Hid (Lib.IsBuilderF 86 5 tb tb (Lib.byteCells (acc ++ [32])) w11) := by
                          have h : Lib.IsBuilderF 86 5 tb tb (Lib.byteCells acc ++ [.int .u8 32]) w11 := .inr hbf
                          rw [show Value.int .u8 32 = Value.int .u8 ((32 : UInt8).toNat : Nat) from rfl, bytes_snoc] at h
                          exact h
                        have HX11 := Lib.hid ((HX.out.drewN (n9 + 1)).below hb11 hz8)
                        have HR11 := Lib.hid ((HR.out.drewN (n9 + 1)).below hb11 (by omega))
                        have HA11 := Lib.hid ((HA.out.drewN (n9 + 1)).belowB hb11 hbt)
                        have HK11 := Lib.hid ((HK.out.drewN (n9 + 1)).belowB hb11 (by omega))
                        have hd11 : Rd w11 b s a m' := (hb11.block b hbt).trans HRd.out
                        have hz11 : tb ≤ w11.heap.size := Nat.le_trans hz hb11.size
                        have hc1' := hd11.c1
                        have hfr' := hd11.fr 1
                        have HRd11 := Lib.hid hd11
                        clear hb11 hbf hd11 hc0 hc1 hfr
                        go_wp2
                        have hst := at_step0 HA11.out HRd11.out hlt
                        rw [show s.data.toList.drop (a + 1) = r2 by have h := rest_cons Hra.out hlt; injection h with _ h2; rw [h2]] at hst
                        go_roundg k1
                        case measure => omega
                        case rel =>
                          refine ⟨r2, acc ++ [32], m', hst.1, HK11.out.trans hst.2, HX11.out.kp hst.2 (by omega), HR11.out.kp hst.2 (by omega), bf_kp HB11.out HA11.out hst.2, Nat.le_trans hz11 hst.2.size, ?_, HoC4.out⟩
                          simp only [List.length_cons, List.length_append, List.length_nil] at hlen ⊢
                          omega
                      · by_cases h10 : c = 10
                        · have HoC4 : Hid (o = (valueP 34 k1 (acc ++ [32]) r2 m').then fun v r m => .ok (x1.1, x1.2, v) r m) := by rw [HoC3.out, h10]; rfl
                          subst h10
                          clear HoC3
                          go_wp2_with fail
                          refine (Tryz.Builder_WriteByte_k tb tb (Lib.byteCells acc) 32 _ (bf_drewN HS.out (n9 + 1)) (by rw [Lib.byteCells_length]; simp only [List.length_cons] at hlen; omega) hz).mono ?_
                          rintro e w11 ⟨rfl, hbf, hb11, _⟩
                          have HB11 : Hid (Lib.IsBuilderF 86 5 tb tb (Lib.byteCells (acc ++ [32])) w11) := by
                            have h : Lib.IsBuilderF 86 5 tb tb (Lib.byteCells acc ++ [.int .u8 32]) w11 := .inr hbf
                            rw [show Value.int .u8 32 = Value.int .u8 ((32 : UInt8).toNat : Nat) from rfl, bytes_snoc] at h
                            exact h
                          have HX11 := Lib.hid ((HX.out.drewN (n9 + 1)).below hb11 hz8)
                          have HR11 := Lib.hid ((HR.out.drewN (n9 + 1)).below hb11 (by omega))
                          have HA11 := Lib.hid ((HA.out.drewN (n9 + 1)).belowB hb11 hbt)
                          have HK11 := Lib.hid ((HK.out.drewN (n9 + 1)).belowB hb11 (by omega))
                          have hd11 : Rd w11 b s a m' := (hb11.block b hbt).trans HRd.out
                          have hz11 : tb ≤ w11.heap.size := Nat.le_trans hz hb11.size
                          have hc1' := hd11.c1
                          have hfr' := hd11.fr 1
                          have HRd11 := Lib.hid hd11
                          clear hb11 hbf hd11 hc0 hc1 hfr
                          go_wp2
                          have hst := at_step0 HA11.out HRd11.out hlt
                          rw [show s.data.toList.drop (a + 1) = r2 by have h := rest_cons Hra.out hlt; injection h with _ h2; rw [h2]] at hst
                          go_roundg k1
                          case measure => omega
                          case rel =>
                            refine ⟨r2, acc ++ [32], m', hst.1, HK11.out.trans hst.2, HX11.out.kp hst.2 (by omega), HR11.out.kp hst.2 (by omega), bf_kp HB11.out HA11.out hst.2, Nat.le_trans hz11 hst.2.size, ?_, HoC4.out⟩
                            simp only [List.length_cons, List.length_append, List.length_nil] at hlen ⊢
                            omega
                        · have HoC4 : Hid (o = (valueP 34 k1 (acc ++ [c]) r2 m').then fun v r m => .ok (x1.1, x1.2, v) r m) := by rw [HoC3.out, if_neg (by simpa using ⟨h9, h10⟩)]; rfl
                          have h9a : (((c.toNat : Nat) : Int) == 9) = false := byte_beq h9
                          have h10a : (((c.toNat : Nat) : Int) == 10) = false := byte_beq h10
                          clear HoC3 h9 h10
                          go_wp2_with fail
                          refine (Tryz.Builder_WriteByte_k tb tb (Lib.byteCells acc) c.toNat _ (bf_drewN HS.out (n9 + 1)) (by rw [Lib.byteCells_length]; simp only [List.length_cons] at hlen; omega) hz).mono ?_
                          rintro e w11 ⟨rfl, hbf, hb11, _⟩
                          have HB11 : Hid (Lib.IsBuilderF 86 5 tb tb (Lib.byteCells (acc ++ [c])) w11) := by
                            have h : Lib.IsBuilderF 86 5 tb tb (Lib.byteCells acc ++ [.int .u8 c.toNat]) w11 := .inr hbf
                            rw [bytes_snoc] at h
                            exact h
                          have HX11 := Lib.hid ((HX.out.drewN (n9 + 1)).below hb11 hz8)
                          have HR11 := Lib.hid ((HR.out.drewN (n9 + 1)).below hb11 (by omega))
                          have HA11 := Lib.hid ((HA.out.drewN (n9 + 1)).belowB hb11 hbt)
                          have HK11 := Lib.hid ((HK.out.drewN (n9 + 1)).belowB hb11 (by omega))
                          have hd11 : Rd w11 b s a m' := (hb11.block b hbt).trans HRd.out
                          have hz11 : tb ≤ w11.heap.size := Nat.le_trans hz hb11.size
                          have hc1' := hd11.c1
                          have hfr' := hd11.fr 1
                          have HRd11 := Lib.hid hd11
                          clear hb11 hbf hd11 hc0 hc1 hfr
                          go_wp2
                          have hst := at_step0 HA11.out HRd11.out hlt
                          rw [show s.data.toList.drop (a + 1) = r2 by have h := rest_cons Hra.out hlt; injection h with _ h2; rw [h2]] at hst
                          go_roundg k1
                          case measure => omega
                          case rel =>
                            refine ⟨r2, acc ++ [c], m', hst.1, HK11.out.trans hst.2, HX11.out.kp hst.2 (by omega), HR11.out.kp hst.2 (by omega), bf_kp HB11.out HA11.out hst.2, Nat.le_trans hz11 hst.2.size, ?_, HoC4.out⟩
                            simp only [List.length_cons, List.length_append, List.length_nil] at hlen ⊢
                            omega

        · go_wp2_with fail
          refine (must_ok _ _).mono ?_
          rintro e w7 ⟨rfl, rfl⟩
          go_wp2_with fail
          have HS8 : Hid (Lib.IsBuilderF 86 5 w5.heap.size w5.heap.size (Lib.byteCells []) (((w5.drewN n6).setCell ⟨b, 1, none⟩ (.int .i64 ((a5 : Int) + 1))).alloc (.cells #[.pointer none, .slice none 0 0] 86))) := by
            have h := Lib.IsBuilderF.of (Lib.fresh_isBuilder 86 5 ((w5.drewN n6).setCell ⟨b, 1, none⟩ (.int .i64 ((a5 : Int) + 1))))
            have e : ((w5.drewN n6).setCell ⟨b, 1, none⟩ (.int .i64 ((a5 : Int) + 1))).heap.size = w5.heap.size := by simp
            rw [e] at h
            exact h
          have HA8 := Lib.hid (HA7.out.alloc (.cells #[.pointer none, .slice none 0 0] 86))
          have HK8 := Lib.hid (HK7.out.alloc (.cells #[.pointer none, .slice none 0 0] 86))
          have HX8 := Lib.hid (HX7.out.alloc (.cells #[.pointer none, .slice none 0 0] 86))
          have HR8 := Lib.hid (HR7.out.alloc (.cells #[.pointer none, .slice none 0 0] 86))
          have hz8 : w.heap.size + 1 < w5.heap.size := HX5.out.lt
          have hzz : w5.heap.size ≤ (((w5.drewN n6).setCell ⟨b, 1, none⟩ (.int .i64 ((a5 : Int) + 1))).alloc (.cells #[.pointer none, .slice none 0 0] 86)).heap.size := by simp
          have Hzz := Lib.hid hzz
          clear hzz HA7 HK7 HX7 HR7 HX5 HR5 HK5 HA5 HX4 HR4 HK4 HA4 HX3 HR3 HK3 HA3 hcr hfr HRd5 Hra5
          obtain ⟨tb, htb⟩ : ∃ tb, tb = w5.heap.size := ⟨_, rfl⟩
          rw [← htb] at HS8 hz8 Hzz ⊢
          clear htb
          go_loopg [] (r4.length + 1) (fun k wr => Aside (∃ r' acc m', At wr b s r' m' ∧ Kp b w wr ∧ Blk wr (w.heap.size + 1) [.string (bs x1.1), .string (bs x1.2), .string ⟨#[]⟩] 77 ∧ Blk wr w.heap.size [.string ⟨#[]⟩, .string ⟨#[]⟩, .string ⟨#[]⟩] 77 ∧ Lib.IsBuilderF 86 5 tb tb (Lib.byteCells acc) wr ∧ tb ≤ wr.heap.size ∧ acc.length + r'.length ≤ r4.length ∧ o = (valueP 39 k acc r' m').then fun v r m => .ok (x1.1, x1.2, v) r m))
          case atStart => exact ⟨r6, [], m4, HA8.out, HK8.out, HX8.out, HR8.out, HS8.out, Hzz.out, by simp; omega, Ho6.out⟩
          case round =>
            clear HA8 HK8 HX8 HR8 HS8 Hzz Ho6 hl6 hl5
            obtain ⟨r', acc, m', hA, hK, hX, hR, hS, hz, hlen, ho⟩ := hrel.out
            clear hrel
            cases gk with
            | zero => exact absurd ho hne
            | succ k1 =>
              have hbt : b < tb := by omega
              have hlr4 : r4.length < 140737488355000 := by have := rest_size HA4'.out; omega
              have hA' := hA
              obtain ⟨a, ha, hra, hRd⟩ := hA'.rd
              have hc0 := hRd.c0
              have hc1 := hRd.c1
              have hfr := hRd.fr 1
              have HRd := Lib.hid hRd
              have Hra := Lib.hid hra
              have HA := Lib.hid hA
              have HK := Lib.hid hK
              have HX := Lib.hid hX
              have HR := Lib.hid hR
              have HS := Lib.hid hS
              have Ho := Lib.hid ho
              clear hA hK hX hR hS ho hA' hRd hra Ho1 Ho4
              cases r' with
              | nil =>
                have hlt : ¬ a < s.size := by have h := drop_len Hra.out; rw [List.length_nil] at h; omega
                have hd1 : decide ((a : Int) < (s.size : Int)) = false := by simp; omega
                have HoF : Hid (o = .fail 10) := by rw [Ho.out]; rfl
                go_wp2_with fail
                refine (byteAt_any b s [] m' 0 _ HA.out (by omega)).mono ?_
                rintro e w9 ⟨he, n9, rfl⟩
                replace he : e = .returned (.int .u8 0) := he
                subst he
                go_wp2
                refine StillG.tail 14 (by kernel_rfl) (by kernel_rfl) ?_
                simp only [List.take_succ_cons, List.take_zero, List.drop_succ_cons, List.drop_zero]
                iterate 11 (refine StillG.want rfl (fun K hK => ?_); go_simp; refine hK _ ?_; clear hK K)
                iterate 2 (refine StillG.skip (by simp [Region.wanted, yielded, Act.put]) ?_)
                refine StillG.want rfl (fun K hK => ?_); go_simp; refine hK _ ?_; clear hK K
                refine StillG.nil ?_
                go_wp2_with fail
                refine (must_no _ _).mono ?_
                rintro e w10 ⟨rfl, rfl⟩
                go_wp2
                exact ⟨rfl, post_fail HoF (HK.out.drewN _)⟩
              | cons c r2 =>
                have hlt : a < s.size := by have h := drop_len Hra.out; rw [List.length_cons] at h; omega
                have hd1 : decide ((a : Int) < (s.size : Int)) = true := by simp; omega
                have hoC := Ho.out
                unfold valueP at hoC
                have HoC := Lib.hid hoC
                clear Ho hoC
                go_wp2_with fail
                refine (byteAt_any b s (c :: r2) m' 0 _ HA.out (by omega)).mono ?_
                rintro e w9 ⟨he, n9, rfl⟩
                replace he : e = .returned (.int .u8 c.toNat) := he
                subst he
                go_wp2
                refine StillG.tail 14 (by kernel_rfl) (by kernel_rfl) ?_
                simp only [List.take_succ_cons, List.take_zero, List.drop_succ_cons, List.drop_zero]
                iterate 12 (refine StillG.want rfl (fun K hK => ?_); go_simp; refine hK _ ?_; clear hK K)
                by_cases h60 : c = 60
                · have HoF : Hid (o = .fail 10) := by rw [HoC.out, if_pos (by rw [h60]; rfl)]; rfl
                  subst h60
                  iterate 2 (refine StillG.want rfl (fun K hK => ?_); go_simp; refine hK _ ?_; clear hK K)
                  refine StillG.nil ?_
                  go_wp2_with fail
                  refine (must_no _ _).mono ?_
                  rintro e w10 ⟨rfl, rfl⟩
                  go_wp2
                  exact ⟨rfl, post_fail HoF (HK.out.drewN _)⟩
                · have hoC1 := HoC.out
                  rw [if_neg (by simpa using h60)] at hoC1
                  have HoC1 := Lib.hid hoC1
                  clear HoC hoC1
                  have h60a : (((c.toNat : Nat) : Int) == 60) = false := byte_beq h60
                  have h60b : (((c.toNat : Nat) : Int) != 60) = true := by rw [bne, h60a]; rfl
                  have h60c : c ≠ 60 := h60
                  clear h60
                  iterate 2 (refine StillG.want rfl (fun K hK => ?_); go_simp; refine hK _ ?_; clear hK K)
                  refine StillG.nil ?_
                  go_wp2_with fail
                  refine (must_ok _ _).mono ?_
                  rintro e w10 ⟨rfl, rfl⟩
                  by_cases hq : c = 39
                  · subst hq
                    have HoC2 : Hid (o = .ok (x1.1, x1.2, acc) r2 m') := by rw [HoC1.out, if_pos (by rfl)]; rfl
                    clear HoC1
                    have hst := at_step HA.out HRd.out hlt (n9 + 1)
                    rw [show s.data.toList.drop (a + 1) = r2 by have h := rest_cons Hra.out hlt; injection h with _ h2; rw [h2]] at hst
                    have HAW := Lib.hid hst.1
                    have HKW := Lib.hid (HK.out.trans hst.2)
                    have HSW := Lib.hid (bf_kp HS.out HA.out hst.2)
                    have HXW := Lib.hid (HX.out.kp hst.2 (by omega))
                    have HRW := Lib.hid (HR.out.kp hst.2 (by omega))
                    have Hzw := Lib.hid (Nat.le_trans hz hst.2.size)
                    clear hst
                    go_wp2_with fail
                    refine (Tryz.Builder_String_any_k tb tb acc _ HSW.out Hzw.out).mono ?_
                    rintro e w11 ⟨he, _, hb11, _⟩
                    replace he : e = .returned (.string (bs acc)) := he
                    subst he
                    have HX11 := Lib.hid (HXW.out.below hb11 hz8)
                    have HR11 := Lib.hid (HRW.out.below hb11 (by omega))
                    have HA11 := Lib.hid (HAW.out.belowB hb11 hbt)
                    have HK11 := Lib.hid (HKW.out.belowB hb11 (by omega))
                    clear hb11 HXW HRW HAW HKW HSW Hzw hc0 hc1 hfr
                    have hx0 := HX11.out.cell 0
                    have hx1 := HX11.out.cell 1
                    have hx2 := HX11.out.cell 2
                    have hxf := HX11.out.fr 2
                    have hr0 := HR11.out.cell 0
                    have hr1 := HR11.out.cell 1
                    have hr2 := HR11.out.cell 2
                    have hf0 := HR11.out.fr 0
                    have hf1 := HR11.out.fr 1
                    have hf2 := HR11.out.fr 2
                    go_wp2
                    have HRz := Lib.hid ((((HR11.out.set_ne (p := ⟨w.heap.size + 1, 2, none⟩) (by simp) (.string (bs acc))).set 0 (.string (bs x1.1))).set 1 (.string (bs x1.2))).set 2 (.string (bs acc)))
                    have HAz := Lib.hid ((((HA11.out.set_ne (g := w.heap.size + 1) (by omega) (by omega) 2 (.string (bs acc))).set_ne (g := w.heap.size) (by omega) (by omega) 0 (.string (bs x1.1))).set_ne (g := w.heap.size) (by omega) (by omega) 1 (.string (bs x1.2))).set_ne (g := w.heap.size) (by omega) (by omega) 2 (.string (bs acc)))
                    have HKz := Lib.hid ((((HK11.out.new (g := w.heap.size + 1) (by omega) 2 (.string (bs acc))).new (g := w.heap.size) (by omega) 0 (.string (bs x1.1))).new (g := w.heap.size) (by omega) 1 (.string (bs x1.2))).new (g := w.heap.size) (by omega) 2 (.string (bs acc)))
                    refine bodyPost_ret (v := writV (x1.1, x1.2, acc)) ?_ rfl (post_ok HoC2 rfl HAz.out HKz.out)
                    exact results_cell rfl rfl HRz.out rfl rfl rfl
                  · have hoC2 := HoC1.out
                    rw [if_neg (by simpa using hq)] at hoC2
                    have HoC2 := Lib.hid hoC2
                    have hqa : (((c.toNat : Nat) : Int) == 39) = false := byte_beq hq
                    clear HoC1 hoC2 hq
                    by_cases h38 : c = 38
                    · subst h38
                      have hoC3 := HoC2.out
                      rw [if_pos (by rfl)] at hoC3
                      have HoC3 := Lib.hid hoC3
                      clear HoC2 hoC3
                      go_wp2_with fail
                      refine (ref_any b s (38 :: r2) m' _ (HA.out.drewN (n9 + 1)) (fun h => hne (by rw [HoC3.out, h]; rfl))).mono ?_
                      intro e w11 hp
                      cases hrf : refP (38 :: r2) m' with
                      | unk => exact absurd (by rw [HoC3.out, hrf]; rfl) hne
                      | fail cc =>
                        rw [hrf] at hp
                        obtain ⟨rfl, hk⟩ := hp
                        have HoF : Hid (o = .fail cc) := by rw [HoC3.out, hrf]; rfl
                        have HKF := Lib.hid ((HK.out.drewN (n9 + 1)).trans hk)
                        clear hk
                        go_wp2
                        exact ⟨rfl, post_fail HoF HKF.out⟩
                      | ok x r3 m3 =>
                        rw [hrf] at hp
                        obtain ⟨he, hA11, hk11⟩ := hp
                        replace he : e = .returned (.string (bs x)) := he
                        subst he
                        have HoC4 : Hid (o = (valueP 39 k1 (acc ++ x) r3 m3).then fun v r m => .ok (x1.1, x1.2, v) r m) := by rw [HoC3.out, hrf]; rfl
                        have hln := (ref_len hrf).1
                        have HA11 := Lib.hid hA11
                        have HK11 := Lib.hid ((HK.out.drewN (n9 + 1)).trans hk11)
                        have HX11 := Lib.hid ((HX.out.drewN (n9 + 1)).kp hk11 (by omega))
                        have HR11 := Lib.hid ((HR.out.drewN (n9 + 1)).kp hk11 (by omega))
                        have HS11 := Lib.hid (bf_kp (bf_drewN HS.out (n9 + 1)) (HA.out.drewN (n9 + 1)) hk11)
                        have hz11 : tb ≤ w11.heap.size := Nat.le_trans hz hk11.size
                        clear hA11 hk11 hc0 hc1 hfr hrf
                        go_wp2_with fail
                        refine (Tryz.Builder_WriteString_k tb tb (Lib.byteCells acc) (bs x) _ HS11.out (by rw [Lib.byteCells_length, bs_size]; simp only [List.length_cons] at hlen hln; omega) hz11).mono ?_
                        rintro e w12 ⟨rfl, hbf, hb12, _⟩
                        have HB12 : Hid (Lib.IsBuilderF 86 5 tb tb (Lib.byteCells (acc ++ x)) w12) := by
                          have h : Lib.IsBuilderF 86 5 tb tb (Lib.byteCells acc ++ Lib.strCells (bs x)) w12 := .inr hbf
                          rw [bytes_app] at h
                          exact h
                        have HX12 := Lib.hid (HX11.out.below hb12 hz8)
                        have HR12 := Lib.hid (HR11.out.below hb12 (by omega))
                        have HA12 := Lib.hid (HA11.out.belowB hb12 hbt)
                        have HK12 := Lib.hid (HK11.out.belowB hb12 (by omega))
                        have hz12 : tb ≤ w12.heap.size := Nat.le_trans hz11 hb12.size
                        clear hb12 hbf
                        go_wp2
                        go_roundg k1
                        case measure => omega
                        case rel =>
                          refine ⟨r3, acc ++ x, m3, HA12.out, HK12.out, HX12.out, HR12.out, HB12.out, hz12, ?_, HoC4.out⟩
                          simp only [List.length_cons, List.length_append] at hlen hln ⊢
                          omega
                    · have hoC3 := HoC2.out
                      rw [if_neg (by simpa using h38)] at hoC3
                      have HoC3 := Lib.hid hoC3
                      have h38a : (((c.toNat : Nat) : Int) == 38) = false := byte_beq h38
                      clear HoC2 hoC3 h38
                      by_cases h9 : c = 9
                      · have HoC4 : Hid (o = (valueP 39 k1 (acc ++ [32]) r2 m').then fun v r m => .ok (x1.1, x1.2, v) r m) := by rw [HoC3.out, h9]; rfl
                        subst h9
                        clear HoC3
                        go_wp2_with fail
                        refine (Tryz.Builder_WriteByte_k tb tb (Lib.byteCells acc) 32 _ (bf_drewN HS.out (n9 + 1)) (by rw [Lib.byteCells_length]; simp only [List.length_cons] at hlen; omega) hz).mono ?_
                        rintro e w11 ⟨rfl, hbf, hb11, _⟩
                        have HB11 : Hid (Lib.IsBuilderF 86 5 tb tb (Lib.byteCells (acc ++ [32])) w11) := by
                          have h : Lib.IsBuilderF 86 5 tb tb (Lib.byteCells acc ++ [.int .u8 32]) w11 := .inr hbf
                          rw [show Value.int .u8 32 = Value.int .u8 ((32 : UInt8).toNat : Nat) from rfl, bytes_snoc] at h
                          exact h
                        have HX11 := Lib.hid ((HX.out.drewN (n9 + 1)).below hb11 hz8)
                        have HR11 := Lib.hid ((HR.out.drewN (n9 + 1)).below hb11 (by omega))
                        have HA11 := Lib.hid ((HA.out.drewN (n9 + 1)).belowB hb11 hbt)
                        have HK11 := Lib.hid ((HK.out.drewN (n9 + 1)).belowB hb11 (by omega))
                        have hd11 : Rd w11 b s a m' := (hb11.block b hbt).trans HRd.out
                        have hz11 : tb ≤ w11.heap.size := Nat.le_trans hz hb11.size
                        have hc1' := hd11.c1
                        have hfr' := hd11.fr 1
                        have HRd11 := Lib.hid hd11
                        clear hb11 hbf hd11 hc0 hc1 hfr
                        go_wp2
                        have hst := at_step0 HA11.out HRd11.out hlt
                        rw [show s.data.toList.drop (a + 1) = r2 by have h := rest_cons Hra.out hlt; injection h with _ h2; rw [h2]] at hst
                        go_roundg k1
                        case measure => omega
                        case rel =>
                          refine ⟨r2, acc ++ [32], m', hst.1, HK11.out.trans hst.2, HX11.out.kp hst.2 (by omega), HR11.out.kp hst.2 (by omega), bf_kp HB11.out HA11.out hst.2, Nat.le_trans hz11 hst.2.size, ?_, HoC4.out⟩
                          simp only [List.length_cons, List.length_append, List.length_nil] at hlen ⊢
                          omega
                      · by_cases h10 : c = 10
                        · have HoC4 : Hid (o = (valueP 39 k1 (acc ++ [32]) r2 m').then fun v r m => .ok (x1.1, x1.2, v) r m) := by rw [HoC3.out, h10]; rfl
                          subst h10
                          clear HoC3
                          go_wp2_with fail
                          refine (Tryz.Builder_WriteByte_k tb tb (Lib.byteCells acc) 32 _ (bf_drewN HS.out (n9 + 1)) (by rw [Lib.byteCells_length]; simp only [List.length_cons] at hlen; omega) hz).mono ?_
                          rintro e w11 ⟨rfl, hbf, hb11, _⟩
                          have HB11 : Hid (Lib.IsBuilderF 86 5 tb tb (Lib.byteCells (acc ++ [32])) w11) := by
                            have h : Lib.IsBuilderF 86 5 tb tb (Lib.byteCells acc ++ [.int .u8 32]) w11 := .inr hbf
                            rw [show Value.int .u8 32 = Value.int .u8 ((32 : UInt8).toNat : Nat) from rfl, bytes_snoc] at h
                            exact h
                          have HX11 := Lib.hid ((HX.out.drewN (n9 + 1)).below hb11 hz8)
                          have HR11 := Lib.hid ((HR.out.drewN (n9 + 1)).below hb11 (by omega))
                          have HA11 := Lib.hid ((HA.out.drewN (n9 + 1)).belowB hb11 hbt)
                          have HK11 := Lib.hid ((HK.out.drewN (n9 + 1)).belowB hb11 (by omega))
                          have hd11 : Rd w11 b s a m' := (hb11.block b hbt).trans HRd.out
                          have hz11 : tb ≤ w11.heap.size := Nat.le_trans hz hb11.size
                          have hc1' := hd11.c1
                          have hfr' := hd11.fr 1
                          have HRd11 := Lib.hid hd11
                          clear hb11 hbf hd11 hc0 hc1 hfr
                          go_wp2
                          have hst := at_step0 HA11.out HRd11.out hlt
                          rw [show s.data.toList.drop (a + 1) = r2 by have h := rest_cons Hra.out hlt; injection h with _ h2; rw [h2]] at hst
                          go_roundg k1
                          case measure => omega
                          case rel =>
                            refine ⟨r2, acc ++ [32], m', hst.1, HK11.out.trans hst.2, HX11.out.kp hst.2 (by omega), HR11.out.kp hst.2 (by omega), bf_kp HB11.out HA11.out hst.2, Nat.le_trans hz11 hst.2.size, ?_, HoC4.out⟩
                            simp only [List.length_cons, List.length_append, List.length_nil] at hlen ⊢
                            omega
                        · have HoC4 : Hid (o = (valueP 39 k1 (acc ++ [c]) r2 m').then fun v r m => .ok (x1.1, x1.2, v) r m) := by rw [HoC3.out, if_neg (by simpa using ⟨h9, h10⟩)]; rfl
                          have h9a : (((c.toNat : Nat) : Int) == 9) = false := byte_beq h9
                          have h10a : (((c.toNat : Nat) : Int) == 10) = false := byte_beq h10
                          clear HoC3 h9 h10
                          go_wp2_with fail
                          refine (Tryz.Builder_WriteByte_k tb tb (Lib.byteCells acc) c.toNat _ (bf_drewN HS.out (n9 + 1)) (by rw [Lib.byteCells_length]; simp only [List.length_cons] at hlen; omega) hz).mono ?_
                          rintro e w11 ⟨rfl, hbf, hb11, _⟩
                          have HB11 : Hid (Lib.IsBuilderF 86 5 tb tb (Lib.byteCells (acc ++ [c])) w11) := by
                            have h : Lib.IsBuilderF 86 5 tb tb (Lib.byteCells acc ++ [.int .u8 c.toNat]) w11 := .inr hbf
                            rw [bytes_snoc] at h
                            exact h
                          have HX11 := Lib.hid ((HX.out.drewN (n9 + 1)).below hb11 hz8)
                          have HR11 := Lib.hid ((HR.out.drewN (n9 + 1)).below hb11 (by omega))
                          have HA11 := Lib.hid ((HA.out.drewN (n9 + 1)).belowB hb11 hbt)
                          have HK11 := Lib.hid ((HK.out.drewN (n9 + 1)).belowB hb11 (by omega))
                          have hd11 : Rd w11 b s a m' := (hb11.block b hbt).trans HRd.out
                          have hz11 : tb ≤ w11.heap.size := Nat.le_trans hz hb11.size
                          have hc1' := hd11.c1
                          have hfr' := hd11.fr 1
                          have HRd11 := Lib.hid hd11
                          clear hb11 hbf hd11 hc0 hc1 hfr
                          go_wp2
                          have hst := at_step0 HA11.out HRd11.out hlt
                          rw [show s.data.toList.drop (a + 1) = r2 by have h := rest_cons Hra.out hlt; injection h with _ h2; rw [h2]] at hst
                          go_roundg k1
                          case measure => omega
                          case rel =>
                            refine ⟨r2, acc ++ [c], m', hst.1, HK11.out.trans hst.2, HX11.out.kp hst.2 (by omega), HR11.out.kp hst.2 (by omega), bf_kp HB11.out HA11.out hst.2, Nat.le_trans hz11 hst.2.size, ?_, HoC4.out⟩
                            simp only [List.length_cons, List.length_append, List.length_nil] at hlen ⊢
                            omega

end Go.Proofs.YtmiflgcjphcigaaGreatDoor
