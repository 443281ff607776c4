/-
  A part of the proof of statements on the element reader of package xml (XM): lemmas on what its functions come to; their conditions stand in each theorem.
-/
import Derived.Test.YtmiflgcjphcigaaGreatDoorX11
set_option linter.unusedVariables false
set_option linter.unusedSimpArgs false
namespace Go.Proofs.YtmiflgcjphcigaaGreatDoor
open Go.RowKit
/-! ## Maps of strings by strings -/
def lookL : List (B × B) → B → B
  | [], _ => []
  | x :: l, k => if x.1 = k then x.2 else lookL l k
def setL : List (B × B) → B → B → List (B × B)
  | [], k, v => [(k, v)]
  | x :: l, k, v => if x.1 = k then (k, v) :: l else x :: setL l k v
theorem lookL_setL (l : List (B × B)) (k v : B) : lookL (setL l k v) = Sc.set (lookL l) k v := by
  funext q
  induction l with
  | nil =>
    unfold Sc.set
    simp only [setL, lookL]
    by_cases h : k = q
    · rw [if_pos h, if_pos h.symm]
    · rw [if_neg h, if_neg (Ne.symm h)]
  | cons x l ih =>
    unfold Sc.set at ih ⊢
    simp only [setL]
    by_cases hx : x.1 = k
    · rw [if_pos hx]
      simp only [lookL]
      by_cases h : k = q
      · rw [if_pos h, if_pos h.symm]
      · rw [if_neg h, if_neg (Ne.symm h), if_neg (by rw [hx]; exact h)]
    · rw [if_neg hx]
      simp only [lookL]
      by_cases h : x.1 = q
      · rw [if_pos h, if_pos h, if_neg (by rw [← h]; exact hx)]
      · rw [if_neg h, if_neg h]
        exact ih
structure Ents (es : List MapEntry) (l : List (B × B)) (clock : Nat) : Prop where
  ent : es.map (fun e => (e.key, e.val)) = l.map (fun x => (Value.string (bs x.1), Value.string (bs x.2)))
  born : (es.map (·.born)).Pairwise (· < ·)
  old : ∀ e ∈ es, e.born < clock
  keys : (l.map (·.1)).Nodup
def SM (w : World) (mb : Nat) (l : List (B × B)) : Prop := ∃ es clock, w.heap[mb]? = some (.map es clock) ∧ Ents es.toList l clock
theorem bs_inj {a b : B} (h : bs a = bs b) : a = b := by
  have := congrArg (fun x : ByteArray => x.data.toList) h
  simpa [bs_data] using this
theorem bs_beq' (a b : B) : (bs a == bs b) = decide (a = b) := by
  show ((bs a).data == (bs b).data) = _
  by_cases h : a = b
  · subst h; simp
  · rw [decide_eq_false h, beq_eq_false_iff_ne]
    intro e
    exact h (by have := congrArg Array.toList e; simpa [bs] using this)
theorem findNow_str (k : B) : ∀ (es : List MapEntry) (l : List (B × B)) (i : Nat), es.map (fun e => (e.key, e.val)) = l.map (fun x => (Value.string (bs x.1), Value.string (bs x.2))) →
    Instr.findNow .string (.string (bs k)) es i = some ((l.findIdx? (fun x => decide (x.1 = k))).map fun j => (i + j, .string (bs (lookL l k))))
  | [], [], i, _ => rfl
  | e :: es, x :: l, i, h => by
    simp only [List.map_cons, List.cons.injEq, Prod.mk.injEq] at h
    obtain ⟨⟨h1, h2⟩, h3⟩ := h
    unfold Instr.findNow
    rw [h1]
    show (match (some (bs k == bs x.1) : Option Bool) with | some true => _ | some false => _ | none => _) = _
    rw [bs_beq']
    by_cases hk : x.1 = k
    · rw [decide_eq_true hk.symm]
      simp [List.findIdx?_cons, hk, lookL, h2]
    · rw [decide_eq_false (Ne.symm hk)]
      simp only [findNow_str k es l (i + 1) h3, List.findIdx?_cons, decide_eq_false hk, lookL, if_neg hk]
      cases l.findIdx? (fun x => decide (x.1 = k)) with
      | none => rfl
      | some j => simp; omega
  | [], _ :: _, _, h => by cases h
  | _ :: _, [], _, h => by cases h
theorem und62 : Tryz.prog.underlying 62 = some (.map 9 9) := by kernel_rfl
theorem und9 : Tryz.prog.underlying 9 = some .string := by kernel_rfl
theorem run_checkKey_str (W : World) (k : ByteArray) (em : Bool) : (Instr.checkKey em 10000 9 (.string k)).run Tryz.prog W = .ok () W := by
  unfold Instr.checkKey
  simp [run_underlying und9, Sem.run_bind, Result.andThen]
theorem run_findKey_str (W : World) (k : B) (es : List MapEntry) (l : List (B × B)) (h : es.map (fun e => (e.key, e.val)) = l.map (fun x => (Value.string (bs x.1), Value.string (bs x.2)))) :
    (Instr.findKey 9 (.string (bs k)) es).run Tryz.prog W = .ok ((l.findIdx? (fun x => decide (x.1 = k))).map fun j => (j, .string (bs (lookL l k)))) W := by
  unfold Instr.findKey
  simp [run_underlying und9, Sem.run_bind, Result.andThen, findNow_str k es l 0 h]
theorem lookL_none (l : List (B × B)) (k : B) (h : l.findIdx? (fun x => decide (x.1 = k)) = none) : lookL l k = [] := by
  induction l with
  | nil => rfl
  | cons x l ih =>
    rw [List.findIdx?_cons] at h
    unfold lookL
    by_cases hk : x.1 = k
    · rw [decide_eq_true hk] at h; cases h
    · rw [if_neg hk]
      rw [decide_eq_false hk] at h
      simp at h
      exact ih (by simpa using h)
theorem zero9 : ∀ W : World, (zeroValue 9).run Tryz.prog W = .ok (.string (bs [])) W := fun _ => by kernel_rfl
theorem run_lookup (W : World) (mb : Nat) (l : List (B × B)) (k : B) (h : SM W mb l) :
    (Instr.lookup 62 (.map (some mb)) (.string (bs k)) false).run Tryz.prog W = .ok (.string (bs (lookL l k))) W := by
  obtain ⟨es, clock, hb, he⟩ := h
  unfold Instr.lookup
  simp [run_underlying und62, Sem.run_bind, Result.andThen, getObj, Sem.run, hb, run_checkKey_str, run_findKey_str W k es.toList l he.ent]
  cases hf : l.findIdx? (fun x => decide (x.1 = k)) with
  | none =>
    rw [lookL_none l k hf]
    exact zero9 W
  | some j => rfl
theorem lookL_idx (l : List (B × B)) (k : B) (j : Nat) (h : l.findIdx? (fun x => decide (x.1 = k)) = some j) (v : B) : setL l k v = l.modify j (fun _ => (k, v)) ∧ (l[j]?).map (·.1) = some k := by
  induction l generalizing j with
  | nil => cases h
  | cons x l ih =>
    rw [List.findIdx?_cons] at h
    by_cases hk : x.1 = k
    · rw [decide_eq_true hk] at h
      injection h with h
      subst h
      simp [setL, hk]
    · rw [decide_eq_false hk] at h
      simp only [Bool.false_eq_true, if_false, Option.map_eq_some_iff] at h
      obtain ⟨j', hj', rfl⟩ := h
      have := ih j' hj'
      simp [setL, hk, this.1, this.2]
theorem setL_new (l : List (B × B)) (k v : B) (h : l.findIdx? (fun x => decide (x.1 = k)) = none) : setL l k v = l ++ [(k, v)] ∧ ∀ x ∈ l, x.1 ≠ k := by
  induction l with
  | nil => exact ⟨rfl, by simp⟩
  | cons x l ih =>
    rw [List.findIdx?_cons] at h
    by_cases hk : x.1 = k
    · rw [decide_eq_true hk] at h; cases h
    · rw [decide_eq_false hk] at h
      simp at h
      have := ih (by simpa using h)
      simp [setL, hk, this.1]
      exact fun a b hab => this.2 (a, b) hab
theorem map_modify_same {α β : Type} (f : α → α) (g : α → β) (h : ∀ a, g (f a) = g a) : ∀ (l : List α) (j : Nat), (l.modify j f).map g = l.map g
  | [], j => by cases j <;> rfl
  | a :: l, 0 => by simp [h]
  | a :: l, j + 1 => by simp [map_modify_same f g h l j]
theorem map_modify_const {α β : Type} (f : α → α) (g : α → β) (c : β) (h : ∀ a, g (f a) = c) : ∀ (l : List α) (j : Nat), (l.modify j f).map g = (l.map g).set j c
  | [], j => by cases j <;> rfl
  | a :: l, 0 => by simp [h]
  | a :: l, j + 1 => by simp [map_modify_const f g c h l j]
theorem set_same {α : Type} (c : α) : ∀ (l : List α) (j : Nat), l[j]? = some c → l.set j c = l
  | [], _, h => by cases h
  | a :: l, 0, h => by simp at h; simp [h]
  | a :: l, j + 1, h => by
    have h' : l[j]? = some c := by simpa using h
    simp [set_same c l j h']
/-- The world behind a write to a map. -/
def setMap (W : World) (mb : Nat) (o : Obj) : World := { W with heap := W.heap.setIfInBounds mb o }
theorem setMap_at {W : World} {mb : Nat} (o : Obj) (h : mb < W.heap.size) : (setMap W mb o).heap[mb]? = some o := by
  show (W.heap.setIfInBounds mb o)[mb]? = _
  simp [h]
theorem setMap_grown (W : World) (mb : Nat) (o : Obj) : W.grownBy (setMap W mb o) (some mb) :=
  ⟨rfl, rfl, rfl, by simp [setMap], fun k _ hk => by
    show (W.heap.setIfInBounds mb o)[k]? = _
    rw [Array.getElem?_setIfInBounds_ne (fun e => hk (by rw [e]))]⟩
theorem run_mapUpdate (W : World) (mb : Nat) (l : List (B × B)) (k v : B) (h : SM W mb l) :
    ∃ o, (Instr.mapUpdate 62 (.map (some mb)) (.string (bs k)) (.string (bs v))).run Tryz.prog W = .ok () (setMap W mb o) ∧ SM (setMap W mb o) mb (setL l k v) := by
  obtain ⟨es, clock, hb, he⟩ := h
  have hlt : mb < W.heap.size := lt_of_block hb
  cases hf : l.findIdx? (fun x => decide (x.1 = k)) with
  | none =>
    obtain ⟨hs, hn⟩ := setL_new l k v hf
    refine ⟨.map (es.push { key := .string (bs k), val := .string (bs v), born := clock }) (clock + 1), ?_, es.push { key := .string (bs k), val := .string (bs v), born := clock }, clock + 1, setMap_at _ hlt, ?_⟩
    · unfold Instr.mapUpdate
      simp [run_underlying und62, Sem.run_bind, Result.andThen, getObj, setObj, Sem.run, hb, run_checkKey_str, run_findKey_str W k es.toList l he.ent, hf]
      rfl
    · rw [hs, Array.toList_push]
      refine ⟨?_, ?_, ?_, ?_⟩
      · simp [he.ent]
      · rw [List.map_append, List.pairwise_append]
        refine ⟨he.born, by simp, ?_⟩
        intro a ha b hb2
        obtain ⟨e, he1, rfl⟩ := List.mem_map.1 ha
        simp at hb2
        subst hb2
        exact he.old e he1
      · intro e he1
        rcases List.mem_append.1 he1 with h | h
        · have := he.old e h; omega
        · simp at h; subst h; simp
      · rw [List.map_append, List.nodup_append]
        refine ⟨he.keys, by simp, ?_⟩
        intro a ha b hb2
        obtain ⟨x, hx, rfl⟩ := List.mem_map.1 ha
        simp at hb2
        subst hb2
        exact hn x hx
  | some j =>
    obtain ⟨hs, hk⟩ := lookL_idx l k j hf v
    obtain ⟨x, hx, hxk⟩ := Option.map_eq_some_iff.1 hk
    have hej : (es.toList[j]?).map (fun e => (e.key, e.val)) = some (Value.string (bs x.1), Value.string (bs x.2)) := by
      rw [← List.getElem?_map, he.ent, List.getElem?_map, hx]; rfl
    obtain ⟨en, hen, hen2⟩ := Option.map_eq_some_iff.1 hej
    have hkey : en.key = .string (bs k) := by rw [← hxk]; exact congrArg Prod.fst hen2
    have hes : es[j]? = some en := by rw [← Array.getElem?_toList]; exact hen
    refine ⟨.map (es.modify j fun e => { e with key := .string (bs k), val := .string (bs v) }) clock, ?_, es.modify j fun e => { e with key := .string (bs k), val := .string (bs v) }, clock, setMap_at _ hlt, ?_⟩
    · have hst : (Instr.keyThatStays (.string (bs k)) (.string (bs k))).run Tryz.prog W = .ok (.string (bs k)) W := by
        unfold Instr.keyThatStays
        have : Instr.sameBits 10000 (.string (bs k)) (.string (bs k)) = true := by
          unfold Instr.sameBits
          rw [bs_beq']; simp
        rw [this]
        rfl
      unfold Instr.mapUpdate
      simp [run_underlying und62, Sem.run_bind, Result.andThen, getObj, setObj, Sem.run, hb, run_checkKey_str, run_findKey_str W k es.toList l he.ent, hf, hes, hkey, hst]
      rfl
    · rw [hs, Array.toList_modify]
      have hb2 : (es.toList.modify j fun e => { e with key := .string (bs k), val := .string (bs v) }).map (·.born) = es.toList.map (·.born) := by
        exact map_modify_same (fun e : MapEntry => { e with key := Value.string (bs k), val := Value.string (bs v) }) (fun e : MapEntry => e.born) (fun _ => rfl) _ _
      refine ⟨?_, by rw [hb2]; exact he.born, ?_, ?_⟩
      · rw [map_modify_const (fun e : MapEntry => { e with key := Value.string (bs k), val := Value.string (bs v) }) (fun e : MapEntry => (e.key, e.val)) (Value.string (bs k), Value.string (bs v)) (fun _ => rfl), map_modify_const (fun _ : B × B => (k, v)) (fun x : B × B => (Value.string (bs x.1), Value.string (bs x.2))) (Value.string (bs k), Value.string (bs v)) (fun _ => rfl), he.ent]
      · intro e he1
        have : e.born ∈ es.toList.map (·.born) := by rw [← hb2]; exact List.mem_map.2 ⟨e, he1, rfl⟩
        obtain ⟨e2, h2, h3⟩ := List.mem_map.1 this
        rw [← h3]
        exact he.old e2 h2
      · rw [map_modify_const (fun _ : B × B => (k, v)) (fun x : B × B => x.1) k (fun _ => rfl), set_same k _ j (by rw [List.getElem?_map, hx]; exact congrArg some hxk)]
        exact he.keys
theorem SM.move {W W' : World} {mb : Nat} {l : List (B × B)} (h : SM W mb l) (e : W'.heap[mb]? = W.heap[mb]?) : SM W' mb l := by
  obtain ⟨es, clock, hb, he⟩ := h
  exact ⟨es, clock, e.trans hb, he⟩
theorem SM.lt {W : World} {mb : Nat} {l : List (B × B)} (h : SM W mb l) : mb < W.heap.size := by
  obtain ⟨es, clock, hb, he⟩ := h
  exact lt_of_block hb
theorem SM.below {W W' : World} {mb : Nat} {l : List (B × B)} (h : SM W mb l) {Z : Nat} (hb : Below Z W W') (hz : mb < Z) : SM W' mb l := h.move (hb.block mb hz)
theorem SM.new (W : World) : SM (W.alloc (.map #[] 0)) W.heap.size [] := ⟨#[], 0, heap_alloc_new W _, ⟨rfl, by simp, by simp, by simp⟩⟩
/-! ### ranging over a map: what is still to come -/
/-- The iterator's block: over map mb, since the clock c; the entries of 'left' are still to come. -/
def IT (W : World) (ib mb : Nat) (l left : List (B × B)) : Prop :=
  ∃ es clock seen, W.heap[mb]? = some (.map es clock) ∧ Ents es.toList l clock ∧ W.heap[ib]? = some (.mapIter (some mb) clock seen clock) ∧
    (∀ e ∈ es.toList, seen.contains e.born = false ↔ ∃ x ∈ left, e.key = .string (bs x.1) ∧ e.val = .string (bs x.2)) ∧ (∀ x ∈ left, x ∈ l) ∧ (left.map (·.1)).Nodup
theorem run_range (W : World) (mb : Nat) (l : List (B × B)) (h : SM W mb l) :
    ∃ o, (Instr.range 62 (.map (some mb))).run Tryz.prog W = .ok (.pointer (some ⟨W.heap.size, 0, none⟩)) (W.alloc o) ∧ IT (W.alloc o) W.heap.size mb l l := by
  obtain ⟨es, clock, hb, he⟩ := h
  have hlt := lt_of_block hb
  refine ⟨.mapIter (some mb) clock #[] clock, ?_, es, clock, #[], (Below.heap_alloc W _ mb hlt).trans hb, he, heap_alloc_new W _, ?_, fun _ h => h, he.keys⟩
  · unfold Instr.range
    simp [run_underlying und62, Sem.run_bind, Result.andThen, getObj, newObj, Sem.run, hb]
  · intro e hem
    simp
    have : (e.key, e.val) ∈ es.toList.map (fun e => (e.key, e.val)) := List.mem_map.2 ⟨e, hem, rfl⟩
    rw [he.ent] at this
    obtain ⟨x, hx, hx2⟩ := List.mem_map.1 this
    injection hx2 with h1 h2
    exact ⟨x.1, x.2, hx, h1.symm, h2.symm⟩
theorem nodup_inj {α β : Type} (f : α → β) : ∀ (l : List α), (l.map f).Nodup → ∀ (a b : α), a ∈ l → b ∈ l → f a = f b → a = b
  | [], _, _, _, h, _, _ => by cases h
  | x :: l, hn, a, b, ha, hb, e => by
    rw [List.map_cons, List.nodup_cons] at hn
    rcases List.mem_cons.1 ha with h1 | h1
    · rcases List.mem_cons.1 hb with h2 | h2
      · rw [h1, h2]
      · exact absurd (List.mem_map.2 ⟨b, h2, by rw [← e, h1]⟩) hn.1
    · rcases List.mem_cons.1 hb with h2 | h2
      · exact absurd (List.mem_map.2 ⟨a, h1, by rw [e, h2]⟩) hn.1
      · exact nodup_inj f l hn.2 a b h1 h2 e
theorem str_inj {a b : B} (h : Value.string (bs a) = Value.string (bs b)) : a = b := by
  injection h with h
  exact bs_inj h
theorem Ents.born_inj {es : List MapEntry} {l : List (B × B)} {clock : Nat} (h : Ents es l clock) {a b : MapEntry} (ha : a ∈ es) (hb : b ∈ es) (e : a.born = b.born) : a = b :=
  nodup_inj (fun e : MapEntry => e.born) es (h.born.imp (fun h => Nat.ne_of_lt h)) a b ha hb e
theorem Ents.key_inj {es : List MapEntry} {l : List (B × B)} {clock : Nat} (h : Ents es l clock) {a b : MapEntry} (ha : a ∈ es) (hb : b ∈ es) (e : a.key = b.key) : a = b := by
  refine nodup_inj (fun e : MapEntry => e.key) es ?_ a b ha hb e
  have h1 : es.map (fun e => e.key) = (l.map (·.1)).map (fun k => Value.string (bs k)) := by
    have := congrArg (List.map Prod.fst) h.ent
    simpa [List.map_map, Function.comp_def] using this
  rw [h1]
  unfold List.Nodup at *
  rw [List.pairwise_map]
  exact h.keys.imp (fun hne e => hne (str_inj e))
theorem Ents.has {es : List MapEntry} {l : List (B × B)} {clock : Nat} (h : Ents es l clock) {x : B × B} (hx : x ∈ l) : ∃ e ∈ es, e.key = .string (bs x.1) ∧ e.val = .string (bs x.2) := by
  have : (Value.string (bs x.1), Value.string (bs x.2)) ∈ es.map (fun e => (e.key, e.val)) := by
    rw [h.ent]; exact List.mem_map.2 ⟨x, hx, rfl⟩
  obtain ⟨e, he, he2⟩ := List.mem_map.1 this
  injection he2 with h1 h2
  exact ⟨e, he, h1, h2⟩
theorem all_old {es : Array MapEntry} {l : List (B × B)} {clock : Nat} (he : Ents es.toList l clock) (seen : Array Nat) : (!seen.isEmpty && !es.isEmpty && es.all (·.born ≥ clock)) = false := by
  cases hemp : es.isEmpty with
  | true => simp
  | false =>
    have h0 : 0 < es.size := by
      rcases Nat.eq_zero_or_pos es.size with h | h
      · rw [Array.isEmpty_eq_false_iff] at hemp
        exact absurd (Array.eq_empty_of_size_eq_zero h) hemp
      · exact h
    have hm : es[0] ∈ es.toList := Array.mem_toList_iff.2 (Array.getElem_mem h0)
    have ho := he.old _ hm
    have : es.all (·.born ≥ clock) = false := by
      rw [Array.all_eq_false]
      exact ⟨0, h0, by simp; omega⟩
    rw [this, Bool.and_false]
theorem old_new {es : Array MapEntry} {l : List (B × B)} {clock : Nat} (he : Ents es.toList l clock) (p : MapEntry → Bool) :
    (es.filter p).filter (fun x => decide (x.born < clock)) = es.filter p ∧ (es.filter p).filter (fun x => decide (x.born ≥ clock)) = #[] := by
  constructor
  · rw [Array.filter_eq_self]
    intro a ha
    have := he.old a (Array.mem_toList_iff.2 (Array.mem_filter.1 ha).1)
    simpa using this
  · rw [Array.filter_eq_empty_iff]
    intro a ha
    have := he.old a (Array.mem_toList_iff.2 (Array.mem_filter.1 ha).1)
    simp; omega
theorem run_next_end (W : World) (ib mb : Nat) (l : List (B × B)) (h : IT W ib mb l []) (ty : TypeId) :
    (Instr.next (.pointer (some ⟨ib, 0, none⟩)) false ty).run Tryz.prog W = .ok (.tuple #[.bool false]) W := by
  obtain ⟨es, clock, seen, hb, he, hi, hs, _, _⟩ := h
  have hf : es.filter (fun e => !seen.contains e.born) = #[] := by
    rw [Array.filter_eq_empty_iff]
    intro e hem
    have := (hs e (Array.mem_toList_iff.2 hem)).1
    cases hc : seen.contains e.born with
    | true => decide
    | false =>
      obtain ⟨x, hx, _⟩ := this hc
      cases hx
  have hg : (!seen.isEmpty && !es.isEmpty && es.all (·.born ≥ clock)) = false := all_old he seen
  unfold Instr.next
  simp only [Sem.run_bind, getObj, Sem.run, hb, hi, Result.andThen]
  rw [hg, (old_new he _).1, (old_new he _).2, hf]
  simp [Sem.run_bind, choose, Sem.run, Question.forced, Result.andThen]
theorem run_choose (W : World) (n : Nat) (hn : 0 < n) : ∃ k d, k < n ∧ (choose (Question.mapNext n)).run Tryz.prog W = .ok k (W.drewN d) := by
  by_cases h : n ≤ 1
  · exact ⟨0, 0, hn, by simp [choose, Sem.run, Question.forced, h]; rfl⟩
  · refine ⟨(Question.mapNext n).cut (W.tape W.drawn (Question.mapNext n)), 1, ?_, ?_⟩
    · exact Nat.mod_lt _ hn
    · simp [choose, Sem.run, Question.forced, h]; rfl
theorem erase_keys {left : List (B × B)} (hnd : (left.map (·.1)).Nodup) {x y : B × B} (hx : x ∈ left) (hy : y ∈ left.erase x) (h : x.1 = y.1) : False := by
  have hn : left.Nodup := by
    unfold List.Nodup at *
    rw [List.pairwise_map] at hnd
    exact hnd.imp (fun hne e => hne (by rw [e]))
  have hxy : x = y := nodup_inj (·.1) left hnd x y hx (List.mem_of_mem_erase hy) h
  subst hxy
  exact (hn.not_mem_erase) hy
theorem find_born {es : List MapEntry} {l : List (B × B)} {clock : Nat} (he : Ents es l clock) {en : MapEntry} (h : en ∈ es) : es.find? (fun e => e.born == en.born) = some en := by
  cases hf : es.find? (fun e => e.born == en.born) with
  | none =>
    rw [List.find?_eq_none] at hf
    exact absurd (by simp) (hf en h)
  | some e =>
    have h1 := List.mem_of_find?_eq_some hf
    have h2 := List.find?_some hf
    rw [he.born_inj h1 h (by simpa using h2)]
theorem run_next_some (W : World) (ib mb : Nat) (l left : List (B × B)) (h : IT W ib mb l left) (hne : left ≠ []) (ty : TypeId) :
    ∃ x o d, x ∈ left ∧ (Instr.next (.pointer (some ⟨ib, 0, none⟩)) false ty).run Tryz.prog W = .ok (.tuple #[.bool true, .string (bs x.1), .string (bs x.2)]) (setMap (W.drewN d) ib o) ∧
      IT (setMap W ib o) ib mb l (left.erase x) ∧
      ∀ W2 : World, W2.heap[ib]? = some o → W2.heap[mb]? = W.heap[mb]? → (Instr.entry (.pointer (some ⟨ib, 0, none⟩))).run Tryz.prog W2 = .ok (.tuple #[.string (bs x.1), .string (bs x.2)]) W2 := by
  obtain ⟨es, clock, seen, hb, he, hi, hs, hsub, hnd⟩ := h
  have hibmb : ib ≠ mb := by
    intro e
    rw [e, hb] at hi
    cases hi
  have hlt := lt_of_block hi
  have hg : (!seen.isEmpty && !es.isEmpty && es.all (·.born ≥ clock)) = false := all_old he seen
  obtain ⟨x0, hx0⟩ := List.exists_mem_of_ne_nil left hne
  obtain ⟨e0, he0, hk0, hv0⟩ := he.has (hsub x0 hx0)
  have hu0 := (hs e0 he0).2 ⟨x0, hx0, hk0, hv0⟩
  have hmem : e0 ∈ es.filter (fun e => !seen.contains e.born) := Array.mem_filter.2 ⟨Array.mem_toList_iff.1 he0, by rw [hu0]; rfl⟩
  have hpos : 0 < (es.filter (fun e => !seen.contains e.born)).size := Array.size_pos_of_mem hmem
  have hemp : (es.filter (fun e => !seen.contains e.born)).isEmpty = false := by
    rw [Array.isEmpty_eq_false_iff]
    intro h
    rw [h] at hpos
    exact absurd hpos (by decide)
  obtain ⟨k, d, hk, hch⟩ := run_choose W _ hpos
  generalize hF : es.filter (fun e => !seen.contains e.born) = F at *
  have hek : F[k]? = some F[k] := Array.getElem?_eq_getElem hk
  generalize hen : F[k] = en at hek
  have henF : en ∈ F := by rw [← hen]; exact Array.getElem_mem hk
  rw [← hF] at henF
  obtain ⟨hen1, hen2⟩ := Array.mem_filter.1 henF
  have hen1' := Array.mem_toList_iff.2 hen1
  have hen3 : seen.contains en.born = false := by simpa using hen2
  obtain ⟨x, hx, hkx, hvx⟩ := (hs en hen1').1 hen3
  refine ⟨x, .mapIter (some mb) clock (seen.push en.born) clock, d, hx, ?_, ?_, ?_⟩
  · unfold Instr.next
    simp only [Sem.run_bind, getObj, Sem.run, hb, hi, Result.andThen]
    rw [hg, (old_new he _).1, (old_new he _).2, hF, hemp]
    simp only [Bool.false_eq_true, if_false, Array.empty_append, Array.append_empty, Array.size_map, Sem.run_bind, hch, Result.andThen, Array.getElem?_map, hek, Option.map_some]
    have hi' : (W.drewN d).heap[ib]? = some (.mapIter (some mb) clock seen clock) := hi
    simp only [setObj, Sem.run, hi', hkx, hvx]
    rfl
  · refine ⟨es, clock, seen.push en.born, ?_, he, setMap_at _ hlt, ?_, fun y hy => hsub y (List.mem_of_mem_erase hy), ?_⟩
    · exact ((setMap_grown W ib _).block mb (lt_of_block hb) (fun e => hibmb (by injection e with e; exact e.symm))).trans hb
    · intro e hem
      rw [Array.contains_push]
      constructor
      · intro hc
        rw [Bool.or_eq_false_iff] at hc
        obtain ⟨y, hy, hky, hvy⟩ := (hs e hem).1 hc.1
        refine ⟨y, (List.mem_erase_of_ne ?_).2 hy, hky, hvy⟩
        rintro rfl
        have : e = en := he.key_inj hem hen1' (hky.trans hkx.symm)
        rw [this] at hc
        simp at hc
      · rintro ⟨y, hy, hky, hvy⟩
        rw [Bool.or_eq_false_iff]
        refine ⟨(hs e hem).2 ⟨y, List.mem_of_mem_erase hy, hky, hvy⟩, ?_⟩
        rw [beq_eq_false_iff_ne]
        intro hbe
        have : e = en := he.born_inj hem hen1' hbe
        rw [this, hkx] at hky
        have hxy := str_inj hky
        exact erase_keys hnd hx hy hxy
    · exact (List.Sublist.map _ (List.erase_sublist ..)).nodup hnd
  · intro W2 h1 h2
    have h2' : W2.heap[mb]? = some (.map es clock) := h2.trans hb
    have hfind : es.find? (fun e => e.born == en.born) = some en := by
      rw [← Array.find?_toList]
      exact find_born he hen1'
    unfold Instr.entry
    simp only [Sem.run_bind, getObj, Sem.run, h1, Array.back?_push, Result.andThen, h2', bne_self_eq_false, Bool.false_eq_true, if_false, hfind, hkx, hvx]
    rfl
theorem lookL_mem {l : List (B × B)} (hn : (l.map (·.1)).Nodup) {x : B × B} (hx : x ∈ l) : lookL l x.1 = x.2 := by
  induction l with
  | nil => cases hx
  | cons y l ih =>
    rw [List.map_cons, List.nodup_cons] at hn
    unfold lookL
    rcases List.mem_cons.1 hx with rfl | h
    · rw [if_pos rfl]
    · rw [if_neg (fun e => hn.1 (List.mem_map.2 ⟨x, h, e.symm⟩))]
      exact ih hn.2 h
theorem lookL_out {l : List (B × B)} {k : B} (h : ∀ x ∈ l, x.1 ≠ k) : lookL l k = [] := by
  induction l with
  | nil => rfl
  | cons y l ih =>
    unfold lookL
    rw [if_neg (h y List.mem_cons_self)]
    exact ih fun x hx => h x (List.mem_cons_of_mem _ hx)
/-- Copied so far, where 'left' is still to come. -/
def Cop (l left c : List (B × B)) : Prop := ∀ k, lookL c k = if (left.any fun x => decide (x.1 = k)) = true then [] else lookL l k
theorem Cop.start {l : List (B × B)} : Cop l l [] := by
  intro k
  show ([] : B) = _
  by_cases h : (l.any fun x => decide (x.1 = k)) = true
  · rw [if_pos h]
  · rw [if_neg h, lookL_out]
    intro x hx e
    exact h (List.any_eq_true.2 ⟨x, hx, by simpa using e⟩)
theorem Cop.done {l c : List (B × B)} (h : Cop l [] c) : lookL c = lookL l := funext fun k => by have := h k; simpa using this
theorem Cop.step {l left c : List (B × B)} (h : Cop l left c) {x : B × B} (hx : x ∈ left) (hn : (left.map (·.1)).Nodup) (hl : (l.map (·.1)).Nodup) (hxl : x ∈ l) : Cop l (left.erase x) (setL c x.1 x.2) := by
  intro k
  rw [lookL_setL]
  unfold Sc.set
  by_cases hk : k = x.1
  · rw [if_pos hk, if_neg, hk, lookL_mem hl hxl]
    intro ha
    obtain ⟨y, hy, hy2⟩ := List.any_eq_true.1 ha
    exact erase_keys hn hx hy (by rw [← hk]; exact (of_decide_eq_true hy2).symm)
  · rw [if_neg hk, h k]
    have : ((left.erase x).any fun y => decide (y.1 = k)) = left.any fun y => decide (y.1 = k) := by
      rw [Bool.eq_iff_iff, List.any_eq_true, List.any_eq_true]
      constructor
      · rintro ⟨y, hy, hy2⟩
        exact ⟨y, List.mem_of_mem_erase hy, hy2⟩
      · rintro ⟨y, hy, hy2⟩
        refine ⟨y, (List.mem_erase_of_ne ?_).2 hy, hy2⟩
        rintro rfl
        exact hk (of_decide_eq_true hy2).symm
    rw [this]
theorem IT.sub {W : World} {ib mb : Nat} {l left : List (B × B)} (h : IT W ib mb l left) : (∀ x ∈ left, x ∈ l) ∧ (left.map (·.1)).Nodup ∧ (l.map (·.1)).Nodup := by
  obtain ⟨es, clock, seen, hb, he, hi, hs, hsub, hnd⟩ := h
  exact ⟨hsub, hnd, he.keys⟩
theorem IT.move {W W' : World} {ib mb : Nat} {l left : List (B × B)} (h : IT W ib mb l left) (e1 : W'.heap[ib]? = W.heap[ib]?) (e2 : W'.heap[mb]? = W.heap[mb]?) : IT W' ib mb l left := by
  obtain ⟨es, clock, seen, hb, he, hi, hs, hsub, hnd⟩ := h
  exact ⟨es, clock, seen, e2.trans hb, he, e1.trans hi, hs, hsub, hnd⟩
theorem run_makeMap62 (W : World) : (Instr.makeMap 62 none).run Tryz.prog W = .ok (.map (some W.heap.size)) (W.alloc (.map #[] 0)) := by
  unfold Instr.makeMap
  simp [Sem.run_bind, newObj, Sem.run, Result.andThen]
end Go.Proofs.YtmiflgcjphcigaaGreatDoor
