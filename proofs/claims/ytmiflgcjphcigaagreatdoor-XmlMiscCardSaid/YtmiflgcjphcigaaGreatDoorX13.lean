/-
  A part of the proof of statements on the element reader of package xml (X13): lemmas on what its functions come to; their conditions stand in each theorem.
-/
import Derived.Test.YtmiflgcjphcigaaGreatDoorX12
import Derived.Deep.RegionLaw
set_option linter.unusedVariables false
set_option linter.unusedSimpArgs false
namespace Go.Proofs.YtmiflgcjphcigaaGreatDoor
open Go.RowKit Go.Proofs.YtmiflgcjphcigaaGreatDoorW.PrintWords
/-! ## Elements in memory -/
inductive IsE (w : World) (ok : Nat → Prop) : E → List Value → Prop where
  | mk (sp nm tx : B) (at_ : List Trip) (ks : List E) (va vk : Value) (inner : List Value) (ha : OwnT 33 w 0 va at_) (hao : ∀ k, va.ownBlock = some k → ok k)
      (hk : w.ownsRow 0 26 5 vk ks.length inner) (hko : ∀ k, vk.ownBlock = some k → ok k) (hks : ∀ (j : Nat) (p : E), ks[j]? = some p → IsE w ok p ((inner.drop (j * 5)).take 5)) :
      IsE w ok (.mk sp nm tx at_ ks) [.string (bs sp), .string (bs nm), .string (bs tx), va, vk]
theorem IsE.len {w : World} {ok : Nat → Prop} {e : E} {cs : List Value} (h : IsE w ok e cs) : cs.length = 5 := by cases h; rfl
theorem IsE.one {w : World} {ok : Nat → Prop} {e : E} {cs : List Value} (h : IsE w ok e cs) : ∀ u ∈ cs, u.oneCell' = true := by
  cases h with
  | mk sp nm tx at_ ks va vk inner ha hao hk hko hks =>
    obtain ⟨A, c, rfl, _, _⟩ := own_rwn ha
    obtain ⟨A2, c2, rfl⟩ := own_slice hk
    intro u hu
    simp at hu
    rcases hu with rfl | rfl | rfl | rfl | rfl <;> rfl
theorem IsE.move {w w' : World} {ok ok' : Nat → Prop} {e : E} {cs : List Value} (h : IsE w ok e cs) (hok : ∀ k, ok k → k < w.heap.size → ok' k)
    (hm : ∀ (k : Nat) (c : Array Value) (t : TypeId), ok k → w.heap[k]? = some (Obj.cells c t (0, 0)) → (t = 26 ∨ t = 33) → w'.heap[k]? = w.heap[k]?) : IsE w' ok' e cs := by
  induction h with
  | mk sp nm tx at_ ks va vk inner ha hao hk hko hks ih =>
    obtain ⟨ia, hia, hra⟩ := ha
    refine .mk sp nm tx at_ ks va vk inner ⟨ia, own_move hia ?_, hra⟩ (fun k h => hok k (hao k h) (own_lt hia k h)) (own_move hk ?_) (fun k h => hok k (hko k h) (own_lt hk k h)) ih
    · intro k h
      obtain ⟨c, hc⟩ := own_typed hia k h
      exact hm k c 33 (hao k h) hc (.inr rfl)
    · intro k h
      obtain ⟨c, hc⟩ := own_typed hk k h
      exact hm k c 26 (hko k h) hc (.inl rfl)
/-- The kids so far: a row of the call's own (from base on); their own rows are others. -/
def Kids (w : World) (base : Nat) (v : Value) (l : List E) : Prop := OwnRow (IsE w (fun k => base ≤ k ∧ some k ≠ v.ownBlock)) 26 5 w base v l
theorem Kids.nil (w : World) (base : Nat) : Kids w base (.slice none 0 0) [] := OwnRow.none_ _ _ _ _ _
theorem Kids.move {w w' : World} {base : Nat} {v : Value} {l : List E} (h : Kids w base v l)
    (hm : ∀ (k : Nat) (c : Array Value) (t : TypeId), w.heap[k]? = some (Obj.cells c t (0, 0)) → (t = 26 ∨ t = 33) → w'.heap[k]? = w.heap[k]?) : Kids w' base v l := by
  obtain ⟨inner, ho, hr⟩ := h
  refine ⟨inner, own_move ho ?_, hr.imp_ (fun p c hp => hp.move (fun _ h _ => h) (fun k c t _ hk ht => hm k c t hk ht))⟩
  intro k hk
  obtain ⟨c, hc⟩ := own_typed ho k hk
  exact hm k c 26 hc (.inl rfl)
theorem Kids.kp {w w' : World} {base : Nat} {v : Value} {l : List E} {b : Nat} {s : ByteArray} {r : B} {m : Nat} (h : Kids w base v l) (hA : At w b s r m) (hk : Kp b w w') : Kids w' base v l := by
  refine h.move fun k c t hk' ht => hk.block (lt_of_block hk') ?_
  rintro rfl
  obtain ⟨a, _, _, hR⟩ := hA.rd
  unfold Rd at hR
  rw [hR] at hk'
  injection hk' with hk'
  injection hk' with _ h2
  rcases ht with rfl | rfl <;> cases h2
theorem Kids.others {w w' : World} {base : Nat} {v : Value} {l : List E} {tb : Nat} {c : Array Value} (h : Kids w base v l) (ho : Lib.OthersKept 5 (some tb) w w') (ht : w.heap[tb]? = some (Obj.cells c 86 (0, 0))) : Kids w' base v l := by
  refine h.move fun k c t hk' htt => ?_
  rw [ho k _ hk' ?_ ?_, hk']
  · intro e
    injection e with e
    rw [e, ht] at hk'
    injection hk' with hk'
    injection hk' with _ h2
    rcases htt with rfl | rfl <;> cases h2
  · intro c2 fz e
    injection e with _ h2
    rcases htt with rfl | rfl <;> cases h2
theorem bf_block {Z tb : Nat} {l : List Value} {w : World} (h : Lib.IsBuilderF 86 5 Z tb l w) : ∃ c, w.heap[tb]? = some (Obj.cells c 86 (0, 0)) := by
  rcases h with ⟨_, v, hb, _⟩ | ⟨_, v, hb, _⟩ <;> exact ⟨_, hb⟩
set_option maxHeartbeats 400000 in
theorem reset_any (Z tb : Nat) (l : List Value) (w : World) (h : Lib.IsBuilderF 86 5 Z tb l w) :
    Calls Tryz.prog 75 #[.pointer (some ⟨tb, 0, none⟩)] w fun e w' => e = .returned (.tuple #[]) ∧ Lib.IsBuilderF 86 5 Z tb [] w' ∧ w'.heap.size = w.heap.size ∧ w'.os = w.os ∧ w'.tape = w.tape ∧ w'.output = w.output ∧ ∀ k, k ≠ tb → w'.heap[k]? = w.heap[k]? := by
  have key : ∃ p v, w.heap[tb]? = some (Obj.cells #[p, v] 86 (0, 0)) ∧ Z ≤ tb := by
    rcases h with ⟨hz, v, hb, _⟩ | ⟨hz, v, hb, _⟩ <;> exact ⟨_, _, hb, hz⟩
  obtain ⟨p, v, hb, hz⟩ := key
  have hB : Hid (Blk w tb [p, v] 86) := ⟨hb⟩
  have h0 := hB.out.cell 0
  have h1 := hB.out.cell 1
  have f0 := hB.out.fr 0
  have f1 := hB.out.fr 1
  clear h hb
  go_enter Tryz.func75, Tryz.ntmps75
  go_wp2
  go_end0
  refine ⟨rfl, ?_, by simp [World.setCell], rfl, rfl, rfl, fun k hk => (Below.heap_setCell _ ⟨tb, 1, none⟩ _ k hk).trans (Below.heap_setCell _ ⟨tb, 0, none⟩ _ k hk)⟩
  have h := ((hB.out.set 0 (.pointer none)).set 1 (.slice none 0 0)).out
  exact .inl ⟨hz, .slice none 0 0, h, World.ownsRowF_nil _ _ _ _, by simp [Value.ownBlock]⟩
/-- A call as one step of a region that draws. -/
theorem step_call {P : Program} {ops : Array Oper} {o : Oper} {a : Act} {w : World} {K : Act → World → Prop} {Q : Exit → Act → World → Prop} {E : Prop} (hgd : o.guard = none) (f : FuncId) (args : Array Value)
    (hr : (execOp a.eval o).run P w = .ok (.enter f args) w)
    (h : Calls P f args w fun
      | .returned v, w'' => K (a.put o.dst v) w''
      | .panicked chain, w'' => Q (.panic chain) a w''
      | .outgrown, _ => LetsOut Q) :
    if Region.wanted o (yielded ops a.tmps) = true then Oper.wp P o a w K Q else E := by
  rw [if_pos (by simp [Region.wanted, hgd])]
  unfold Oper.wp
  rw [hr]
  exact h
theorem bf_alloc {Z tb : Nat} {l : List Value} {w : World} (h : Lib.IsBuilderF 86 5 Z tb l w) (o : Obj) : Lib.IsBuilderF 86 5 Z tb l (w.alloc o) := bf_move h fun k _ _ _ hk _ => Below.heap_alloc w o k (lt_of_block hk)
theorem info26 : (Tryz.prog.info? 26).map (fun i => (i.zero, i.size, i.bytes)) = some (some (.agg #[.string ⟨#[]⟩, .string ⟨#[]⟩, .string ⟨#[]⟩, .slice none 0 0, .slice none 0 0]), 5, 96) := by kernel_rfl
theorem own_others {W w2 : World} {Z tb n : Nat} {v : Value} {xs : List Value} {c : Array Value} (h : W.ownsRow Z 26 5 v n xs) (ho : Lib.OthersKept 5 (some tb) W w2) (ht : W.heap[tb]? = some (Obj.cells c 86 (0, 0))) : w2.ownsRow Z 26 5 v n xs := by
  refine own_move h fun k hk => ?_
  obtain ⟨c2, hc⟩ := own_typed h k hk
  rw [ho k _ hc ?_ ?_, hc]
  · intro e
    injection e with e
    rw [e, ht] at hc
    injection hc with hc
    injection hc with _ h2
    cases h2
  · intro c3 fz e
    injection e with _ h2
    cases h2
def zeroE : List Value := [.string ⟨#[]⟩, .string ⟨#[]⟩, .string ⟨#[]⟩, .slice none 0 0, .slice none 0 0]
set_option maxRecDepth 100000 in
theorem step_append_E {ops : Array Oper} {o : Oper} {a : Act} {W : World} {K : Act → World → Prop} {Q : Exit → Act → World → Prop} {E' : Prop} (hgd : o.guard = none) (s x : Operand)
    (ho : o.op = .call { callee := .builtin .append, args := #[s, x], argTypes := #[24, 24] }) (Z : Nat) (A : Option Addr) (n c : Nat) (inner : List Value) (N : Nat)
    (hs : a.eval s = .slice A n c) (hx : a.eval x = .slice (some ⟨N, 0, none⟩) 1 1) (hown : W.ownsRow Z 26 5 (.slice A n c) n inner) (hN : W.heap[N]? = some (.cells zeroE.toArray 26 (0, 0))) (hn : n < 4294967296) (hZ : Z ≤ W.heap.size)
    (h : ∀ g cap w', w'.ownsRow Z 26 5 (.slice (some ⟨g, 0, none⟩) (n + 1) cap) (n + 1) (inner ++ zeroE) → W.grownBy w' (Value.slice A n c).ownBlock → ((Value.slice A n c).ownBlock = some g ∨ g = W.heap.size) → g < w'.heap.size → K (a.put o.dst (.slice (some ⟨g, 0, none⟩) (n + 1) cap)) w') :
    if Region.wanted o (yielded ops a.tmps) = true then Oper.wp Tryz.prog o a W K Q else E' := by
  obtain ⟨i0, hi, hz0, hz1, hz2⟩ := info_parts info26
  exact step_append_lies W hgd s x 24 ho Z 26 i0 _ 5 96 Tryz.underlying24 hi hz0 hz1 hz2 rfl (by decide) (.slice A n c) n inner hs hown ⟨N, 0, none⟩ 1 1 zeroE hx rfl (World.news_of_block hN) (by intro u hu; simp [zeroE] at hu; rcases hu with rfl | rfl <;> rfl) (by decide) (by simp only [maxLen]; omega) (by omega) hZ _ rfl h
theorem own_cell {w : World} {Z g n cap : Nat} {xs : List Value} (h : w.ownsRow Z 26 5 (.slice (some ⟨g, 0, none⟩) n cap) n xs) (j : Nat) (u : Value) (hj : xs[j]? = some u) : w.cell? ⟨g, j, none⟩ = some u := by
  rcases h.2 with ⟨e, _⟩ | ⟨g2, cap2, cur, e, _, hh, _, _, _, htk⟩
  · cases e
  · injection e with e1 e2 e3
    injection e1 with e1
    injection e1 with e1
    subst e1
    simp only [World.cell?, hh]
    rw [← Array.getElem?_toList]
    rw [← htk] at hj
    have hlt : j < n * 5 := by
      rcases Nat.lt_or_ge j (n * 5) with h | h
      · exact h
      · rw [List.getElem?_take_eq_none h] at hj; cases hj
    rw [List.getElem?_take_of_lt hlt] at hj
    exact hj
theorem own_free {w : World} {Z g n cap : Nat} {xs : List Value} (h : w.ownsRow Z 26 5 (.slice (some ⟨g, 0, none⟩) n cap) n xs) (j : Nat) : w.frozen? ⟨g, j, none⟩ = false := by
  rcases h.2 with ⟨e, _⟩ | ⟨g2, cap2, cur, e, _, hh, _⟩
  · cases e
  · injection e with e1 e2 e3
    injection e1 with e1
    injection e1 with e1
    subst e1
    simp [World.frozen?, hh]
theorem zero_at {inner : List Value} {n : Nat} (h : inner.length = n * 5) (j : Nat) (u : Value) (hj : zeroE[j]? = some u) : (inner ++ zeroE)[n * 5 + j]? = some u := by
  rw [List.getElem?_append_right (by omega), h, Nat.add_sub_cancel_left]
  exact hj
theorem Blk.others {W w2 : World} {lb tb : Nat} {cs : List Value} (h : Blk W lb cs 24) (ho : Lib.OthersKept 5 (some tb) W w2) (hne : lb ≠ tb) : Blk w2 lb cs 24 :=
  ⟨ho _ _ h.out (fun e => hne (by injection e)) (fun c fz e => by injection e with _ h2; cases h2)⟩
theorem Blk.grown {W w2 : World} {lb Z n : Nat} {v : Value} {xs : List Value} {cs : List Value} (h : Blk W lb cs 24) (hg : W.grownBy w2 v.ownBlock) (ho : W.ownsRow Z 26 5 v n xs) : Blk w2 lb cs 24 := by
  refine h.move (hg.block lb h.lt ?_)
  intro e
  obtain ⟨c, hc⟩ := own_typed ho lb e.symm
  have := h.out
  rw [this] at hc
  injection hc with hc
  injection hc with _ h2
  cases h2
theorem own_set {w : World} {Z g n cap : Nat} {xs : List Value} (h : w.ownsRow Z 26 5 (.slice (some ⟨g, 0, none⟩) n cap) n xs) (j : Nat) (u : Value) : (w.setCell ⟨g, j, none⟩ u).ownsRow Z 26 5 (.slice (some ⟨g, 0, none⟩) n cap) n (xs.set j u) := by
  obtain ⟨hl, h2⟩ := h
  refine ⟨by rw [List.length_set]; exact hl, ?_⟩
  rcases h2 with ⟨e, _⟩ | ⟨g2, cap2, cur, e, hz, hh, hnc, hcm, hsz, htk⟩
  · cases e
  · injection e with e1 e2 e3
    injection e1 with e1
    injection e1 with e1
    subst e1
    have hlt := lt_of_block hh
    have h' : w.heap[g] = .cells cur 26 (0, 0) := by simpa [Array.getElem?_eq_getElem hlt] using hh
    refine .inr ⟨g, cap2, cur.setIfInBounds j u, by rw [e3], hz, ?_, hnc, hcm, by rw [Array.size_setIfInBounds]; exact hsz, ?_⟩
    · show (w.heap.modify g _)[g]? = _
      rw [Array.getElem?_eq_getElem (by simpa using hlt), Array.getElem_modify_self, h']
      rfl
    · rw [Array.toList_setIfInBounds, List.take_set, htk]
def st5 (w : World) (g o : Nat) (c0 c1 c2 c3 c4 : Value) : World := ((((w.setCell ⟨g, o, none⟩ c0).setCell ⟨g, o + 1, none⟩ c1).setCell ⟨g, o + 2, none⟩ c2).setCell ⟨g, o + 3, none⟩ c3).setCell ⟨g, o + 4, none⟩ c4
theorem st5_far (w : World) (g o : Nat) (c0 c1 c2 c3 c4 : Value) (k : Nat) (h : k ≠ g) : (st5 w g o c0 c1 c2 c3 c4).heap[k]? = w.heap[k]? := by
  unfold st5
  rw [Below.heap_setCell _ ⟨g, o + 4, none⟩ _ k h, Below.heap_setCell _ ⟨g, o + 3, none⟩ _ k h, Below.heap_setCell _ ⟨g, o + 2, none⟩ _ k h, Below.heap_setCell _ ⟨g, o + 1, none⟩ _ k h, Below.heap_setCell _ ⟨g, o, none⟩ _ k h]
theorem set_app (inner : List Value) (n : Nat) (h : inner.length = n) (xs : List Value) (j : Nat) (u : Value) : (inner ++ xs).set (n + j) u = inner ++ xs.set j u := by
  subst h
  rw [List.set_append_right _ _ (by omega), Nat.add_sub_cancel_left]
theorem own_st5 {w : World} {Z g n cap : Nat} {inner : List Value} (h : w.ownsRow Z 26 5 (.slice (some ⟨g, 0, none⟩) (n + 1) cap) (n + 1) (inner ++ zeroE)) (hi : inner.length = n * 5) (c0 c1 c2 c3 c4 : Value) :
    (st5 w g (n * 5) c0 c1 c2 c3 c4).ownsRow Z 26 5 (.slice (some ⟨g, 0, none⟩) (n + 1) cap) (n + 1) (inner ++ [c0, c1, c2, c3, c4]) := by
  have h5 := own_set (own_set (own_set (own_set (own_set h (n * 5 + 0) c0) (n * 5 + 1) c1) (n * 5 + 2) c2) (n * 5 + 3) c3) (n * 5 + 4) c4
  rw [set_app _ _ hi, set_app _ _ hi, set_app _ _ hi, set_app _ _ hi, set_app _ _ hi] at h5
  exact h5
theorem text_isE (w : World) (ok : Nat → Prop) (acc : B) : IsE w ok (.mk [] [] acc [] []) [.string ⟨#[]⟩, .string ⟨#[]⟩, .string (bs acc), .slice none 0 0, .slice none 0 0] :=
  .mk [] [] acc [] [] (.slice none 0 0) (.slice none 0 0) [] (OwnRow.none_ _ _ _ _ _) (fun k h => by simp [Value.ownBlock] at h) (own_nil _ _ _ _) (fun k h => by simp [Value.ownBlock] at h) (fun j p h => by simp at h)
theorem kids_put {w W w3 W' : World} {Z g cap n c : Nat} {A : Option Addr} {inner cs : List Value} {l : List E} {e : E} (hown : W.ownsRow Z 26 5 (.slice A n c) n inner) (hn : l.length = n)
    (hreps : Reps (IsE w (fun k => Z ≤ k ∧ some k ≠ (Value.slice A n c).ownBlock)) 5 l inner)
    (hmv : ∀ (k : Nat) (c : Array Value) (t : TypeId), w.heap[k]? = some (Obj.cells c t (0, 0)) → (t = 26 ∨ t = 33) → W.heap[k]? = w.heap[k]?)
    (he : IsE W (fun k => Z ≤ k ∧ some k ≠ (Value.slice A n c).ownBlock) e cs) (hg3 : W.grownBy w3 (Value.slice A n c).ownBlock) (hat3 : (Value.slice A n c).ownBlock = some g ∨ g = W.heap.size)
    (hW' : ∀ (k : Nat) (c : Array Value) (t : TypeId), k ≠ g → w3.heap[k]? = some (Obj.cells c t (0, 0)) → (t = 26 ∨ t = 33) → W'.heap[k]? = w3.heap[k]?) (hown' : W'.ownsRow Z 26 5 (.slice (some ⟨g, 0, none⟩) (n + 1) cap) (n + 1) (inner ++ cs)) :
    Kids W' Z (.slice (some ⟨g, 0, none⟩) (n + 1) cap) (l ++ [e]) := by
  have step : ∀ p cs', IsE W (fun k => Z ≤ k ∧ some k ≠ (Value.slice A n c).ownBlock) p cs' → IsE W' (fun k => Z ≤ k ∧ some k ≠ (Value.slice (some ⟨g, 0, none⟩) (n + 1) cap).ownBlock) p cs' := by
    intro p cs' hp
    refine hp.move (fun k hk hlt => ?_) (fun k c' t hk hkc ht => ?_)
    · refine ⟨hk.1, ?_⟩
      show some k ≠ some g
      rintro h
      injection h with h
      rcases hat3 with h3 | h3
      · exact hk.2 (by rw [h3, h])
      · omega
    · have h1 : w3.heap[k]? = W.heap[k]? := hg3.block k (lt_of_block hkc) hk.2
      have hkg : k ≠ g := by
        rintro rfl
        rcases hat3 with h3 | h3
        · exact hk.2 h3.symm
        · have := lt_of_block hkc; omega
      exact (hW' k c' t hkg (h1.trans hkc) ht).trans h1
  refine ⟨inner ++ cs, by rw [List.length_append, hn]; exact hown', ?_⟩
  have h0 : Reps (IsE W' (fun k => Z ≤ k ∧ some k ≠ (Value.slice (some ⟨g, 0, none⟩) (n + 1) cap).ownBlock)) 5 l inner :=
    hreps.imp_ fun p c' hp => step p c' (hp.move (fun _ h _ => h) (fun k c t _ hk ht => hmv k c t hk ht))
  exact h0.snoc (step e cs he) he.len
theorem fin1 (w : World) (g lb o : Nat) (c0 c1 c2 c3 c4 v : Value) (k : Nat) (h : k ≠ g) (h2 : k ≠ lb) : ((st5 w g o c0 c1 c2 c3 c4).setCell ⟨lb, 0, none⟩ v).heap[k]? = w.heap[k]? :=
  (Below.heap_setCell _ ⟨lb, 0, none⟩ _ k h2).trans (st5_far w g o c0 c1 c2 c3 c4 k h)
theorem fin2 (w : World) (g lb o : Nat) (c0 c1 c2 c3 c4 v : Value) (k : Nat) (h : k ≠ g) (h2 : k ≠ lb) : (st5 (w.setCell ⟨lb, 0, none⟩ v) g o c0 c1 c2 c3 c4).heap[k]? = w.heap[k]? :=
  (st5_far _ g o c0 c1 c2 c3 c4 k h).trans (Below.heap_setCell _ ⟨lb, 0, none⟩ _ k h2)
theorem bf_grown {Z tb n : Nat} {l : List Value} {W w3 : World} {v : Value} {xs : List Value} (h : Lib.IsBuilderF 86 5 Z tb l W) (hg : W.grownBy w3 v.ownBlock) (ho : W.ownsRow Z 26 5 v n xs) : Lib.IsBuilderF 86 5 Z tb l w3 :=
  bf_move h fun k c e fz hk he => hg.block k (lt_of_block hk) (by
    intro ee
    obtain ⟨c2, hc2⟩ := own_typed ho k ee.symm
    rw [hk] at hc2
    injection hc2 with hc2
    injection hc2 with _ h2
    rcases he with rfl | rfl <;> cases h2)
/-- What stands behind the store of a new kid. -/
structure Put (w3 W' : World) (Z g lb n cap : Nat) (inner cs : List Value) (v : Value) : Prop where
  far : ∀ k, k ≠ g → k ≠ lb → W'.heap[k]? = w3.heap[k]?
  own : W'.ownsRow Z 26 5 (.slice (some ⟨g, 0, none⟩) (n + 1) cap) (n + 1) (inner ++ cs)
  blk : Blk W' lb [v] 24
  size : W'.heap.size = w3.heap.size
  os : W'.os = w3.os
  tape : W'.tape = w3.tape
  output : W'.output = w3.output
theorem st5_size (w : World) (g o : Nat) (c0 c1 c2 c3 c4 : Value) : (st5 w g o c0 c1 c2 c3 c4).heap.size = w.heap.size := by simp [st5, World.setCell]
theorem st5_os (w : World) (g o : Nat) (c0 c1 c2 c3 c4 : Value) : (st5 w g o c0 c1 c2 c3 c4).os = w.os := by unfold st5; rfl
theorem st5_tape (w : World) (g o : Nat) (c0 c1 c2 c3 c4 : Value) : (st5 w g o c0 c1 c2 c3 c4).tape = w.tape := by unfold st5; rfl
theorem st5_output (w : World) (g o : Nat) (c0 c1 c2 c3 c4 : Value) : (st5 w g o c0 c1 c2 c3 c4).output = w.output := by unfold st5; rfl
theorem set_size (w : World) (p : Addr) (v : Value) : (w.setCell p v).heap.size = w.heap.size := by simp [World.setCell]
theorem set_os (w : World) (p : Addr) (v : Value) : (w.setCell p v).os = w.os := rfl
theorem set_tape (w : World) (p : Addr) (v : Value) : (w.setCell p v).tape = w.tape := rfl
theorem set_output (w : World) (p : Addr) (v : Value) : (w.setCell p v).output = w.output := rfl
theorem put1 {w3 S : World} {Z g lb n cap : Nat} {inner cs : List Value} {v0 v : Value} (c0 c1 c2 c3 c4 : Value) (hcs : cs = [c0, c1, c2, c3, c4]) (hS : S = (st5 w3 g (n * 5) c0 c1 c2 c3 c4).setCell ⟨lb, 0, none⟩ v) (h : w3.ownsRow Z 26 5 (.slice (some ⟨g, 0, none⟩) (n + 1) cap) (n + 1) (inner ++ zeroE)) (hi : inner.length = n * 5) (hL : Blk w3 lb [v0] 24) (hne : lb ≠ g) :
    Put w3 S Z g lb n cap inner cs v := by
  subst hcs
  have h1 := own_st5 h hi c0 c1 c2 c3 c4
  have h2 := hL.move (st5_far w3 g (n * 5) c0 c1 c2 c3 c4 lb hne)
  subst hS
  constructor
  · exact fin1 w3 g lb (n * 5) c0 c1 c2 c3 c4 v
  · exact own_setCell h1 (p := ⟨lb, 0, none⟩) (by intro e; injection e with e; exact hne e) v
  · exact h2.set 0 v
  · exact (set_size _ _ _).trans (st5_size ..)
  · exact (set_os ..).trans (st5_os ..)
  · exact (set_tape ..).trans (st5_tape ..)
  · exact (set_output ..).trans (st5_output ..)
theorem put2 {w3 S : World} {Z g lb n cap : Nat} {inner cs : List Value} {v0 v : Value} (c0 c1 c2 c3 c4 : Value) (hcs : cs = [c0, c1, c2, c3, c4]) (hS : S = st5 (w3.setCell ⟨lb, 0, none⟩ v) g (n * 5) c0 c1 c2 c3 c4) (h : w3.ownsRow Z 26 5 (.slice (some ⟨g, 0, none⟩) (n + 1) cap) (n + 1) (inner ++ zeroE)) (hi : inner.length = n * 5) (hL : Blk w3 lb [v0] 24) (hne : lb ≠ g) :
    Put w3 S Z g lb n cap inner cs v := by
  subst hcs
  have h0 := own_setCell h (p := ⟨lb, 0, none⟩) (by intro e; injection e with e; exact hne e) v
  have h1 := own_st5 h0 hi c0 c1 c2 c3 c4
  have h2 := (hL.set 0 v).move (st5_far (w3.setCell ⟨lb, 0, none⟩ v) g (n * 5) c0 c1 c2 c3 c4 lb hne)
  subst hS
  constructor
  · exact fin2 w3 g lb (n * 5) c0 c1 c2 c3 c4 v
  · exact h1
  · exact h2
  · exact (st5_size ..).trans (set_size _ _ _)
  · exact (st5_os ..).trans (set_os ..)
  · exact (st5_tape ..).trans (set_tape ..)
  · exact (st5_output ..).trans (set_output ..)
theorem Put.below {w w3 W' : World} {Z g lb n cap : Nat} {inner cs : List Value} {v : Value} (h : Put w3 W' Z g lb n cap inner cs v) (hb : Below Z w w3) (hg : Z ≤ g) (hl : Z ≤ lb) : Below Z w W' :=
  hb.trans ⟨h.os, h.tape, h.output, by rw [h.size]; exact Nat.le_refl _, fun k hk => h.far k (by omega) (by omega)⟩
theorem typed_ne {w : World} {a b : Nat} {c1 c2 : Array Value} {t1 t2 : TypeId} {f1 f2 : Nat × Nat} (h1 : w.heap[a]? = some (Obj.cells c1 t1 f1)) (h2 : w.heap[b]? = some (Obj.cells c2 t2 f2)) (hne : t1 ≠ t2) : a ≠ b := by
  rintro rfl
  rw [h1] at h2
  injection h2 with h2
  injection h2 with _ h
  exact hne h
theorem after_put {w3 W' : World} {Z tb g lb n cap : Nat} {inner cs : List Value} {v v0 : Value} {l : List Value} {cg : Array Value} (hP : Put w3 W' Z g lb n cap inner cs v) (hS : Lib.IsBuilderF 86 5 Z tb l w3) (hg : w3.heap[g]? = some (Obj.cells cg 26 (0, 0))) (hL : Blk w3 lb [v0] 24) (hne : lb ≠ g) :
    Calls Tryz.prog 75 #[.pointer (some ⟨tb, 0, none⟩)] W' fun e w' => e = .returned (.tuple #[]) ∧ Lib.IsBuilderF 86 5 Z tb [] w' ∧ Blk w' lb [v] 24 ∧ w'.ownsRow Z 26 5 (.slice (some ⟨g, 0, none⟩) (n + 1) cap) (n + 1) (inner ++ cs) ∧
      (∀ (k : Nat) (c : Array Value) (t : TypeId), k ≠ g → w3.heap[k]? = some (Obj.cells c t (0, 0)) → (t = 26 ∨ t = 33) → w'.heap[k]? = w3.heap[k]?) ∧ ∀ w, Below Z w w3 → Z ≤ g → Z ≤ lb → Below Z w w' := by
  have hSW : Lib.IsBuilderF 86 5 Z tb l W' := bf_move hS fun k c e fz hk he => hP.far k (typed_ne hk hg (by rcases he with rfl | rfl <;> decide)) (typed_ne hk hL.out (by rcases he with rfl | rfl <;> decide))
  obtain ⟨ct, hct⟩ := bf_block hSW
  have htz : Z ≤ tb := by rcases hSW with h | h <;> exact h.1
  have hlt : lb ≠ tb := typed_ne hP.blk.out hct (by decide)
  refine (reset_any Z tb l W' hSW).mono ?_
  rintro e w' ⟨rfl, hS', hsz, hos, htp, hou, hfar⟩
  obtain ⟨c9, hc9⟩ := own_typed hP.own g rfl
  have hgt : g ≠ tb := typed_ne hc9 hct (by decide)
  refine ⟨rfl, hS', hP.blk.move (hfar lb hlt), own_move hP.own (fun k hk => by injection hk with hk; subst hk; exact hfar _ hgt), fun k c t hkg hk ht => ?_, fun w hb hzg hzl => ?_⟩
  · have hkl : k ≠ lb := typed_ne hk hL.out (by rcases ht with rfl | rfl <;> decide)
    have h1 := hP.far k hkg hkl
    have hkt : k ≠ tb := typed_ne (h1.trans hk) hct (by rcases ht with rfl | rfl <;> decide)
    exact (hfar k hkt).trans h1
  · exact (hP.below hb hzg hzl).trans ⟨hos, htp, hou, by rw [hsz]; exact Nat.le_refl _, fun k hk => hfar k (by omega)⟩
end Go.Proofs.YtmiflgcjphcigaaGreatDoor
