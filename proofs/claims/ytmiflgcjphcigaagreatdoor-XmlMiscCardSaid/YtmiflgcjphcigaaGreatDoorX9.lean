/-
  A part of the proof of statements on the element reader of package xml (X9): lemmas on what its functions come to; their conditions stand in each theorem.
-/
import Derived.Test.YtmiflgcjphcigaaGreatDoorX8
import Derived.Lib.AtoiErrMem
set_option linter.unusedVariables false
set_option linter.unusedSimpArgs false
namespace Go.Proofs.YtmiflgcjphcigaaGreatDoor
open Go.RowKit
theorem Kp.below {b : Nat} {u v w : World} (h : Kp b u v) (hb : Below v.heap.size v w) : Kp b u w :=
  h.trans ⟨⟨hb.os, hb.tape, hb.output, hb.size, fun k hk _ => hb.block k hk⟩⟩
theorem Kp.bytes {b : Nat} {u v : World} (h : Kp b u v) (t : ByteArray) : Kp b u (Lib.bytesWorld v 5 t) := h.below (Lib.bytesWorld_below v 5 t)
theorem At.below {w w' : World} {b : Nat} {s : ByteArray} {r : List UInt8} {m : Nat} (h : At w b s r m) (hb : Below w.heap.size w w') : At w' b s r m := by
  obtain ⟨a, ha, hr, hR⟩ := h.rd
  exact h.goes ((Kp.refl b w).below hb) ha hr ((hb.block b hR.lt).trans hR)
theorem At.alloc {w : World} {b : Nat} {s : ByteArray} {r : List UInt8} {m : Nat} (h : At w b s r m) (o : Obj) : At (w.alloc o) b s r m := h.below ((Below.refl _ _).alloc (Nat.le_refl _) o)
theorem Kp.alloc {b : Nat} {u v : World} (h : Kp b u v) (o : Obj) : Kp b u (v.alloc o) := h.below ((Below.refl _ _).alloc (Nat.le_refl _) o)
theorem At.bytes {w : World} {b : Nat} {s : ByteArray} {r : List UInt8} {m : Nat} (h : At w b s r m) (t : ByteArray) : At (Lib.bytesWorld w 5 t) b s r m := h.below (Lib.bytesWorld_below w 5 t)
theorem ascii_all {l : List UInt8} (h : l.all (fun b => decide (b.toNat < 128)) = true) : ∀ (j : Nat) b, l[j]? = some b → b.toNat < 128 := by
  intro j b hb
  have := List.all_eq_true.1 h b (List.mem_of_getElem? hb)
  simpa using this
theorem isRune10 (w : World) : Calls Tryz.prog 37 #[.int .i32 10] w fun e w' => e = .returned (.bool true) ∧ w' = w := by
  go_enter Tryz.func37, Tryz.ntmps37
  go_wp2
  go_ret
  exact ⟨rfl, rfl⟩
set_option maxHeartbeats 4000000 in
set_option maxRecDepth 100000 in
theorem ref_any (b : Nat) (s : ByteArray) (r : B) (m : Nat) (w : World) (hA : At w b s r m) (hne : refP r m ≠ .unk) : Calls Tryz.prog 67 #[.pointer (some ⟨b, 0, none⟩)] w (Post b s w strV (refP r m)) := by
  have hp : Lib.hasPrefix r [38, 35, 49, 48, 59] = true := by
    cases h : Lib.hasPrefix r [38, 35, 49, 48, 59] with
    | true => rfl
    | false => exact absurd (by unfold refP; rw [h]; rfl) hne
  unfold refP
  rw [if_pos hp]
  have hr := prefix_split hp
  generalize hr2 : r.drop [(38 : UInt8), 35, 49, 48, 59].length = r2 at hr
  subst hr
  clear hp hne hr2
  have HA : Hid (At w b s ((⟨#[38]⟩ : ByteArray).data.toList ++ (35 :: 49 :: 48 :: 59 :: r2)) m) := hA
  clear hA
  go_enter Tryz.func67, Tryz.ntmps67
  go_wp2_with fail
  refine (wants_yes b s _ m _ w HA.out).mono ?_
  rintro e w1 ⟨rfl, hA1, hk1⟩
  have HA1 := Lib.hid hA1
  have HK1 := Lib.hid hk1
  clear hA1 hk1
  have i0 : ∀ w, (Instr.index 119 (.agg #[.string ⟨#[97, 109, 112, 59]⟩, .string ⟨#[38]⟩, .string ⟨#[108, 116, 59]⟩, .string ⟨#[60]⟩, .string ⟨#[103, 116, 59]⟩, .string ⟨#[62]⟩, .string ⟨#[113, 117, 111, 116, 59]⟩, .string ⟨#[34]⟩, .string ⟨#[97, 112, 111, 115, 59]⟩, .string ⟨#[39]⟩]) (.int .i64 0)).run Tryz.prog w = .ok (.agg #[.string ⟨#[97, 109, 112, 59]⟩, .string ⟨#[38]⟩]) w := fun _ => by kernel_rfl
  have i1 : ∀ w, (Instr.index 119 (.agg #[.string ⟨#[97, 109, 112, 59]⟩, .string ⟨#[38]⟩, .string ⟨#[108, 116, 59]⟩, .string ⟨#[60]⟩, .string ⟨#[103, 116, 59]⟩, .string ⟨#[62]⟩, .string ⟨#[113, 117, 111, 116, 59]⟩, .string ⟨#[34]⟩, .string ⟨#[97, 112, 111, 115, 59]⟩, .string ⟨#[39]⟩]) (.int .i64 1)).run Tryz.prog w = .ok (.agg #[.string ⟨#[108, 116, 59]⟩, .string ⟨#[60]⟩]) w := fun _ => by kernel_rfl
  have i2 : ∀ w, (Instr.index 119 (.agg #[.string ⟨#[97, 109, 112, 59]⟩, .string ⟨#[38]⟩, .string ⟨#[108, 116, 59]⟩, .string ⟨#[60]⟩, .string ⟨#[103, 116, 59]⟩, .string ⟨#[62]⟩, .string ⟨#[113, 117, 111, 116, 59]⟩, .string ⟨#[34]⟩, .string ⟨#[97, 112, 111, 115, 59]⟩, .string ⟨#[39]⟩]) (.int .i64 2)).run Tryz.prog w = .ok (.agg #[.string ⟨#[103, 116, 59]⟩, .string ⟨#[62]⟩]) w := fun _ => by kernel_rfl
  have i3 : ∀ w, (Instr.index 119 (.agg #[.string ⟨#[97, 109, 112, 59]⟩, .string ⟨#[38]⟩, .string ⟨#[108, 116, 59]⟩, .string ⟨#[60]⟩, .string ⟨#[103, 116, 59]⟩, .string ⟨#[62]⟩, .string ⟨#[113, 117, 111, 116, 59]⟩, .string ⟨#[34]⟩, .string ⟨#[97, 112, 111, 115, 59]⟩, .string ⟨#[39]⟩]) (.int .i64 3)).run Tryz.prog w = .ok (.agg #[.string ⟨#[113, 117, 111, 116, 59]⟩, .string ⟨#[34]⟩]) w := fun _ => by kernel_rfl
  have i4 : ∀ w, (Instr.index 119 (.agg #[.string ⟨#[97, 109, 112, 59]⟩, .string ⟨#[38]⟩, .string ⟨#[108, 116, 59]⟩, .string ⟨#[60]⟩, .string ⟨#[103, 116, 59]⟩, .string ⟨#[62]⟩, .string ⟨#[113, 117, 111, 116, 59]⟩, .string ⟨#[34]⟩, .string ⟨#[97, 112, 111, 115, 59]⟩, .string ⟨#[39]⟩]) (.int .i64 4)).run Tryz.prog w = .ok (.agg #[.string ⟨#[97, 112, 111, 115, 59]⟩, .string ⟨#[39]⟩]) w := fun _ => by kernel_rfl
  go_wp2
  refine wp_loop_rounds 6 ?_
  rw [rounds_succ]
  go_wp2_with fail
  refine (take_no b s _ m _ _ (HA1.out.alloc _) (by rfl)).mono ?_
  rintro e w2 ⟨rfl, hA, hk⟩
  have HA2 := Lib.hid hA
  have HK2 := Lib.hid ((HK1.out.alloc _).trans hk)
  clear hA hk HA1 HK1
  go_wp2_with fail
  rw [rounds_succ]
  go_wp2_with fail
  refine (take_no b s _ m _ _ (HA2.out.alloc _) (by rfl)).mono ?_
  rintro e w3 ⟨rfl, hA, hk⟩
  have HA3 := Lib.hid hA
  have HK3 := Lib.hid ((HK2.out.alloc _).trans hk)
  clear hA hk HA2 HK2
  go_wp2_with fail
  rw [rounds_succ]
  go_wp2_with fail
  refine (take_no b s _ m _ _ (HA3.out.alloc _) (by rfl)).mono ?_
  rintro e w4 ⟨rfl, hA, hk⟩
  have HA4 := Lib.hid hA
  have HK4 := Lib.hid ((HK3.out.alloc _).trans hk)
  clear hA hk HA3 HK3
  go_wp2_with fail
  rw [rounds_succ]
  go_wp2_with fail
  refine (take_no b s _ m _ _ (HA4.out.alloc _) (by rfl)).mono ?_
  rintro e w5 ⟨rfl, hA, hk⟩
  have HA5 := Lib.hid hA
  have HK5 := Lib.hid ((HK4.out.alloc _).trans hk)
  clear hA hk HA4 HK4
  go_wp2_with fail
  rw [rounds_succ]
  go_wp2_with fail
  refine (take_no b s _ m _ _ (HA5.out.alloc _) (by rfl)).mono ?_
  rintro e w6 ⟨rfl, hA, hk⟩
  have HA6 := Lib.hid hA
  have HK6 := Lib.hid ((HK5.out.alloc _).trans hk)
  clear hA hk HA5 HK5
  clear i0 i1 i2 i3 i4
  go_wp2_with fail
  rw [rounds_succ]
  go_wp2_with fail
  refine (wants_yes b s (49 :: 48 :: 59 :: r2) m ⟨#[35]⟩ _ HA6.out).mono ?_
  rintro e w7 ⟨rfl, hA7, hk7⟩
  have HA7 := Lib.hid hA7
  have HK7 := Lib.hid (HK6.out.trans hk7)
  clear hA7 hk7
  go_wp2_with fail
  refine (take_no b s _ m _ _ HA7.out (by rfl)).mono ?_
  rintro e w8 ⟨rfl, hA8, hk8⟩
  have HA8 := Lib.hid hA8
  have HK8 := Lib.hid (HK7.out.trans hk8)
  clear hA8 hk8
  go_wp2_with fail
  refine (upto_yes b s _ m 2 ⟨#[59]⟩ _ HA8.out (by rfl)).mono ?_
  rintro e w9 ⟨he, hA9, hk9⟩
  replace he : e = .returned (.string ⟨#[49, 48]⟩) := he
  subst he
  have HA9 : Hid (At w9 b s r2 m) := hA9
  have HK9 := Lib.hid (HK8.out.trans hk9)
  clear hA9 hk9
  go_wp2_with fail
  refine (Tryz.strings_Trim _ _ _ (by decide) (by decide) (ascii_all (by decide))).mono ?_
  rintro e w10 ⟨he, hb10⟩
  replace he : e = .returned (.string ⟨#[]⟩) := he
  subst he
  have HA10 := Lib.hid (HA9.out.below hb10)
  have HK10 := Lib.hid (HK9.out.below hb10)
  clear hb10
  go_wp2_with fail
  refine (must_ok _ _).mono ?_
  rintro e w11 ⟨rfl, rfl⟩
  go_wp2_with fail
  refine (Tryz.strconv_ParseInt_10_at64_ok ⟨#[49, 48]⟩ (by decide) 10 (by rfl) _).mono ?_
  rintro e w12 ⟨rfl, hw⟩
  have HA12 : Hid (At w12 b s r2 m) := by
    rcases hw with rfl | ⟨t, rfl⟩
    · exact HA10.out
    · exact HA10.out.bytes t
  have HK12 : Hid (Kp b w w12) := by
    rcases hw with rfl | ⟨t, rfl⟩
    · exact HK10.out
    · exact HK10.out.bytes t
  clear hw
  go_wp2_with fail
  refine (isRune10 _).mono ?_
  rintro e w13 ⟨rfl, rfl⟩
  go_wp2_with fail
  refine (must_ok _ _).mono ?_
  rintro e w14 ⟨rfl, rfl⟩
  go_wp2
  go_ret
  exact ⟨rfl, HA12.out, HK12.out⟩
end Go.Proofs.YtmiflgcjphcigaaGreatDoor
