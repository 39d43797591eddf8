/- Maps with keys of type int, as lists of pairs in the order in which they came; what a look-up and a store do. No condition. -/
import Derived.Test.YtfgkocpmgoaljaaFr
import Derived.Maps.Own
namespace Go.Proofs.Ytfgkocpmgoaljaa
open Go.RowKit

/-- Where a key stands. -/
def findI (k : Int) : List (Int × Value) → Nat → Option (Nat × Value)
  | [], _ => none
  | (a, v) :: l, i => if k = a then some (i, v) else findI k l (i + 1)
def valI (m : List (Int × Value)) (k : Int) : Option Value := (findI k m 0).map (·.2)
def putI (m : List (Int × Value)) (k : Int) (v : Value) : List (Int × Value) :=
  match findI k m 0 with
  | some (i, _) => m.set i (k, v)
  | none => m ++ [(k, v)]

theorem findI_shift (k : Int) (l : List (Int × Value)) : ∀ i, findI k l i = (findI k l 0).map (fun x => (x.1 + i, x.2)) := by
  induction l with
  | nil => intro i; rfl
  | cons x l ih =>
    intro i
    unfold findI
    split
    · simp
    · rw [ih (i + 1), ih (0 + 1), Option.map_map]
      congr 1
      funext x
      simp; omega
theorem valI_cons (a : Int) (v : Value) (l : List (Int × Value)) (k : Int) : valI ((a, v) :: l) k = if k = a then some v else valI l k := by
  unfold valI
  rw [findI]
  split
  · rfl
  · rw [findI_shift]; simp [Option.map_map, Function.comp_def]
theorem valI_nil (k : Int) : valI [] k = none := rfl
theorem findI_lt {k : Int} {l : List (Int × Value)} : ∀ {i : Nat} {v : Value}, findI k l 0 = some (i, v) → i < l.length ∧ l[i]? = some (k, v) := by
  induction l with
  | nil => intro i v h; cases h
  | cons x l ih =>
    obtain ⟨a, u⟩ := x
    intro i v h
    unfold findI at h
    split at h
    · rename_i e; subst e; cases h; simp
    · rw [findI_shift] at h
      cases hh : findI k l 0 with
      | none => rw [hh] at h; cases h
      | some z =>
        obtain ⟨j, u'⟩ := z
        rw [hh] at h
        cases h
        have := ih hh
        exact ⟨by simp; omega, by simpa using this.2⟩
theorem valI_none {k : Int} {l : List (Int × Value)} : valI l k = none ↔ ∀ x ∈ l, x.1 ≠ k := by
  induction l with
  | nil => simp [valI_nil]
  | cons x l ih =>
    obtain ⟨a, v⟩ := x
    rw [valI_cons]
    by_cases h : k = a
    · subst h; simp
    · rw [if_neg h, ih]
      constructor
      · intro hh y hy
        rcases List.mem_cons.1 hy with rfl | hy
        · exact fun e => h e.symm
        · exact hh y hy
      · intro hh y hy; exact hh y (List.mem_cons_of_mem _ hy)
theorem findI_none {k : Int} {l : List (Int × Value)} : findI k l 0 = none ↔ valI l k = none := by simp [valI]
theorem valI_append (l l' : List (Int × Value)) (k : Int) : valI (l ++ l') k = (valI l k).or (valI l' k) := by
  induction l with
  | nil => simp [valI_nil]
  | cons x l ih =>
    obtain ⟨a, v⟩ := x
    rw [List.cons_append, valI_cons, valI_cons]
    split
    · rfl
    · exact ih
theorem valI_set {l : List (Int × Value)} {k : Int} : ∀ {i : Nat} {u v : Value}, findI k l 0 = some (i, u) → ∀ j, valI (l.set i (k, v)) j = if j = k then some v else valI l j := by
  induction l with
  | nil => intro i u v h; cases h
  | cons x l ih =>
    obtain ⟨a, w⟩ := x
    intro i u v h j
    unfold findI at h
    split at h
    · rename_i e; subst e; cases h
      rw [List.set_cons_zero, valI_cons, valI_cons]
      split <;> rfl
    · rename_i hne
      rw [findI_shift] at h
      cases hh : findI k l 0 with
      | none => rw [hh] at h; cases h
      | some z =>
        obtain ⟨i', u'⟩ := z
        rw [hh] at h
        cases h
        rw [Nat.zero_add, List.set_cons_succ, valI_cons, ih hh, valI_cons]
        by_cases e : j = a
        · subst e; rw [if_pos rfl, if_pos rfl, if_neg (fun e => hne e.symm)]
        · rw [if_neg e, if_neg e]
theorem valI_put (m : List (Int × Value)) (k : Int) (v : Value) (j : Int) : valI (putI m k v) j = if j = k then some v else valI m j := by
  unfold putI
  split
  · rename_i i u h; exact valI_set h j
  · rename_i h
    rw [valI_append, valI_cons, valI_nil]
    by_cases e : j = k
    · subst e; rw [if_pos rfl, if_pos rfl, findI_none.1 h]; rfl
    · rw [if_neg e, if_neg e]; cases valI m j <;> rfl
theorem keys_put (m : List (Int × Value)) (k : Int) (v : Value) (h : (m.map (·.1)).Nodup) : ((putI m k v).map (·.1)).Nodup := by
  unfold putI
  split
  · rename_i i u h1
    have := findI_lt h1
    have e : (m.set i (k, v)).map (·.1) = m.map (·.1) := by
      rw [List.map_set]
      apply List.ext_getElem?
      intro j
      rw [List.getElem?_set]
      split
      · rename_i e; subst e; simp [this.1]; rw [List.getElem?_eq_getElem this.1] at this; simp at this; rw [this.2]
      · rfl
    rw [e]; exact h
  · rename_i h1
    rw [List.map_append, List.nodup_append]
    refine ⟨h, by simp, ?_⟩
    intro a ha b hb
    simp at hb; subst hb
    obtain ⟨x, hx, rfl⟩ := List.mem_map.1 ha
    exact valI_none.1 (findI_none.1 h1) x hx

/-- Block b holds a map with int keys. -/
structure IMap (w : World) (b : Nat) (m : List (Int × Value)) (es : Array MapEntry) (clock : Nat) : Prop where
  obj : w.heap[b]? = some (.map es clock)
  same : es.toList.map (fun e => (e.key, e.val)) = m.map (fun x => (Value.int .i64 x.1, x.2))
  born : (es.toList.map (·.born)).Pairwise (· < ·)
  lt : ∀ e ∈ es.toList, e.born < clock
  nodup : (m.map (·.1)).Nodup

theorem findNow_int (k : Int) : ∀ (l : List MapEntry) (m : List (Int × Value)) (i : Nat), l.map (fun e => (e.key, e.val)) = m.map (fun x => (Value.int .i64 x.1, x.2)) →
    Instr.findNow (.int .i64) (.int .i64 k) l i = some (findI k m i) := by
  intro l
  induction l with
  | nil => intro m i h; cases m with
    | nil => rfl
    | cons x m => simp at h
  | cons e l ih =>
    intro m i h
    cases m with
    | nil => simp at h
    | cons x m =>
      obtain ⟨a, v⟩ := x
      simp only [List.map_cons, List.cons.injEq, Prod.mk.injEq] at h
      obtain ⟨⟨h1, h2⟩, h3⟩ := h
      unfold Instr.findNow findI
      rw [h1, h2]
      by_cases hk : k = a
      · subst hk; simp [Instr.sameNow]
      · have : (k == a) = false := by simpa using hk
        simp only [Instr.sameNow, if_true, this, if_neg hk]
        exact ih m (i + 1) h3

variable {P : Program}

theorem checkKey_int (w : World) (e : Bool) {t : TypeId} {q : IntKind} (ht : P.underlying t = some (.int q)) (v : Value) : (Instr.checkKey e 10000 t v).run P w = .ok () w := by
  unfold Instr.checkKey
  simp only [Sem.run_bind, run_underlying ht, Result.andThen_ok]
  rfl

theorem findKey_int {w : World} {t : TypeId} (ht : P.underlying t = some (.int .i64)) (k : Int) {l : List MapEntry} {m : List (Int × Value)} (h : l.map (fun e => (e.key, e.val)) = m.map (fun x => (Value.int .i64 x.1, x.2))) :
    (Instr.findKey t (.int .i64 k) l).run P w = .ok (findI k m 0) w := by
  unfold Instr.findKey
  simp only [Sem.run_bind, run_underlying ht, Result.andThen_ok, findNow_int k l m 0 h]
  rfl

/-- A look-up, without ok: an equation on its run. -/
theorem run_lookup_imap {w : World} {b : Nat} {m : List (Int × Value)} {es : Array MapEntry} {clock : Nat} (h : IMap w b m es clock) {t kt et : TypeId} (ht : P.underlying t = some (.map kt et)) (hk : P.underlying kt = some (.int .i64))
    {z : Value} (hz : ∀ w, (zeroValue et).run P w = .ok z w) (k : Int) : (Instr.lookup t (.map (some b)) (.int .i64 k) false).run P w = .ok ((valI m k).getD z) w := by
  unfold Instr.lookup valI
  have hg : (getObj b).run P w = .ok (.map es clock) w := by simp [getObj, Sem.run, h.obj]
  simp only [Sem.run_bind, run_underlying ht, Result.andThen_ok, hg, Sem.run_pure, checkKey_int w _ hk, findKey_int hk k h.same]
  cases findI k m 0 with
  | none => simp only [Sem.run_bind, hz w, Result.andThen_ok, Sem.run_pure]; rfl
  | some x => rfl

/-- .. with ok. -/
theorem run_lookup_imap_ok {w : World} {b : Nat} {m : List (Int × Value)} {es : Array MapEntry} {clock : Nat} (h : IMap w b m es clock) {t kt et : TypeId} (ht : P.underlying t = some (.map kt et)) (hk : P.underlying kt = some (.int .i64))
    {z : Value} (hz : ∀ w, (zeroValue et).run P w = .ok z w) (k : Int) : (Instr.lookup t (.map (some b)) (.int .i64 k) true).run P w = .ok (.tuple #[(valI m k).getD z, .bool (valI m k).isSome]) w := by
  unfold Instr.lookup valI
  have hg : (getObj b).run P w = .ok (.map es clock) w := by simp [getObj, Sem.run, h.obj]
  simp only [Sem.run_bind, run_underlying ht, Result.andThen_ok, hg, Sem.run_pure, checkKey_int w _ hk, findKey_int hk k h.same]
  cases findI k m 0 with
  | none => simp only [Sem.run_bind, hz w, Result.andThen_ok, Sem.run_pure]; rfl
  | some x => rfl

/-- A store: the block turns, and nothing else. -/
theorem run_update_imap {w : World} {b : Nat} {m : List (Int × Value)} {es : Array MapEntry} {clock : Nat} (h : IMap w b m es clock) {t kt et : TypeId} (ht : P.underlying t = some (.map kt et)) (hk : P.underlying kt = some (.int .i64)) (k : Int) (v : Value) :
    ∃ es' clock', (Instr.mapUpdate t (.map (some b)) (.int .i64 k) v).run P w = .ok () (w.putObj b (.map es' clock')) ∧ IMap (w.putObj b (.map es' clock')) b (putI m k v) es' clock' := by
  have hg : (getObj b).run P w = .ok (.map es clock) w := by simp [getObj, Sem.run, h.obj]
  have hs : ∀ o, (setObj b o).run P w = .ok () (w.putObj b o) := fun o => by simp [setObj, Sem.run, h.obj, World.putObj]
  have hlt := obj_lt h.obj
  cases hf : findI k m 0 with
  | none =>
    refine ⟨es.push { key := .int .i64 k, val := v, born := clock }, clock + 1, ?_, World.putObj_heap_same hlt, ?_, ?_, ?_, keys_put m k v h.nodup⟩
    · unfold Instr.mapUpdate
      simp only [Sem.run_bind, run_underlying ht, Result.andThen_ok, hg, checkKey_int w _ hk, findKey_int hk k h.same, hf, hs]
    · unfold putI; rw [hf]
      simp only [Array.toList_push, List.map_append, h.same]; rfl
    · rw [Array.toList_push, List.map_append, List.pairwise_append]
      refine ⟨h.born, by simp, ?_⟩
      intro a ha c hc
      simp at hc; subst hc
      obtain ⟨e, he, rfl⟩ := List.mem_map.1 ha
      exact h.lt e he
    · intro e he
      rw [Array.toList_push, List.mem_append] at he
      rcases he with he | he
      · have := h.lt e he; omega
      · simp at he; subst he; simp
  | some x =>
    obtain ⟨i, u⟩ := x
    obtain ⟨hi1, hi2⟩ := findI_lt hf
    have hl : es.toList.length = m.length := by have := congrArg List.length h.same; simpa using this
    have hi : i < es.size := by rw [← Array.length_toList, hl]; exact hi1
    have hkey : es[i].key = .int .i64 k := by
      have := congrArg (fun l => l[i]?) h.same
      simp only [List.getElem?_map, hi2, Option.map_some] at this
      rw [Array.getElem?_toList, Array.getElem?_eq_getElem hi] at this
      simp at this
      exact this.1
    refine ⟨es.modify i fun e => { e with key := .int .i64 k, val := v }, clock, ?_, World.putObj_heap_same hlt, ?_, ?_, ?_, keys_put m k v h.nodup⟩
    · unfold Instr.mapUpdate
      have hst : (Instr.keyThatStays (((es[i]?).map (·.key)).getD (.int .i64 k)) (.int .i64 k)).run P w = .ok (.int .i64 k) w := by
        rw [Array.getElem?_eq_getElem hi]
        simp [Instr.keyThatStays, hkey, Instr.sameBits]
      simp only [Sem.run_bind, run_underlying ht, Result.andThen_ok, hg, checkKey_int w _ hk, findKey_int hk k h.same, hf, hst, hs]
    · unfold putI; rw [hf]
      simp only
      rw [List.map_set, ← h.same]
      apply List.ext_getElem?
      intro j
      rw [List.getElem?_set]
      simp only [List.getElem?_map, Array.getElem?_toList, Array.getElem?_modify]
      by_cases e : i = j
      · subst e; simp [hi]
      · simp [e]
    · have e : (es.modify i fun e => { e with key := .int .i64 k, val := v }).toList.map (·.born) = es.toList.map (·.born) := by
        apply List.ext_getElem?
        intro j
        simp only [List.getElem?_map, Array.getElem?_toList, Array.getElem?_modify]
        split
        · rename_i e; subst e; simp [Option.map_map, Function.comp_def]
        · rfl
      rw [e]; exact h.born
    · intro e he
      obtain ⟨j, hj⟩ := List.getElem?_of_mem he
      rw [Array.getElem?_toList, Array.getElem?_modify] at hj
      split at hj
      · cases hh : es[j]? with
        | none => rw [hh] at hj; cases hj
        | some e0 =>
          rw [hh] at hj; cases hj
          have : e0 ∈ es.toList := List.mem_of_getElem? (by rw [Array.getElem?_toList]; exact hh)
          exact h.lt e0 this
      · have : e ∈ es.toList := List.mem_of_getElem? (by rw [Array.getElem?_toList]; exact hj)
        exact h.lt e this

theorem IMap.fr {w w' : World} {b : Nat} {m : List (Int × Value)} {es : Array MapEntry} {clock : Nat} {S : Nat → Prop} (h : IMap w b m es clock) (hf : Fr S w w') (hS : ¬ S b) : IMap w' b m es clock :=
  ⟨hf.obj hS h.obj, h.same, h.born, h.lt, h.nodup⟩
theorem IMap.made (w : World) : IMap (w.alloc (.map #[] 0)) w.heap.size [] #[] 0 := ⟨obj_alloc_new _ _, rfl, by simp, by simp, by simp⟩

end Go.Proofs.Ytfgkocpmgoaljaa
