/- Regions that draw their order: plain facts of the evaluator. No condition. -/
import Derived.Test.YtffcaapbmkaceaaDoorEvM
namespace Go.Proofs.YtffcaapbmkaceaaDoor
namespace Ev
open Go.RowKit
variable {P : Program}

theorem map_congrL {α β : Type} {f g : α → β} : ∀ {l : List α}, (∀ x ∈ l, f x = g x) → l.map f = l.map g
  | [], _ => rfl
  | x :: r, h => by rw [List.map_cons, List.map_cons, h x (by simp), map_congrL fun y hy => h y (by simp [hy])]

theorem boundA_congr {f f' : Operand → AV} {d : Nat} {o : Option Operand} (h : ∀ x ∈ o.toArray, f x = f' x) : boundA d f o = boundA d f' o := by
  cases o with
  | none => rfl
  | some x => simp only [boundA]; rw [h x (by simp)]

/-- An operation looks at its operands alone. -/
theorem openL_congr {f f' : Operand → AV} {o : Oper} {h : Hp} (hx : ∀ x ∈ o.op.operands, f x = f' x) : openL P f o h = openL P f' o h := by
  obtain ⟨dst, op, ty, pos, after, guard⟩ := o
  cases op <;> simp only [Op.operands] at hx <;> simp only [openL]
  case load t a => rw [hx a (by simp)]
  case store t a x => rw [hx a (by simp), hx x (by simp)]
  case indexAddr t x i => rw [hx x (by simp), hx i (by simp)]
  case slice t x lo hi mx =>
    cases mx with
    | some m => rfl
    | none =>
      simp only []
      rw [hx x (by simp)]
      cases lo with
      | none =>
        cases hi with
        | none => rfl
        | some hi => simp only []; rw [hx hi (by simp)]
      | some lo =>
        simp only []
        rw [hx lo (by simp)]
        cases hi with
        | none => rfl
        | some hi => simp only []; rw [hx hi (by simp)]
  case call c =>
    have ha : c.args.toList.map f = c.args.toList.map f' := map_congrL fun y hy => hx y (by unfold Call.operands; simp; exact .inr (by simpa using hy))
    rw [ha]
theorem openS_congr {f f' : Operand → AV} {o : Oper} {h : Hp} (hx : ∀ x ∈ o.op.operands, f x = f' x) : openS P f o h = openS P f' o h := by
  obtain ⟨dst, op, ty, pos, after, guard⟩ := o
  cases op <;> simp only [Op.operands] at hx <;> simp only [openS]
  case index t x i => rw [hx x (by simp), hx i (by simp)]
  case slice t x lo hi mx =>
    cases mx with
    | some m => rfl
    | none =>
      simp only []
      have h1 : optS f lo = optS f' lo := by
        cases lo with
        | none => rfl
        | some l => show (f l).isS = (f' l).isS; rw [hx l (by simp)]
      have h2 : optS f hi = optS f' hi := by
        cases hi with
        | none => rfl
        | some l => show (f l).isS = (f' l).isS; rw [hx l (by simp)]
      rw [hx x (by simp), h1, h2]
      cases lo with
      | none =>
        cases hi with
        | none => rfl
        | some hi => simp only []; rw [hx hi (by simp)]
      | some lo =>
        simp only []
        rw [hx lo (by simp)]
        cases hi with
        | none => rfl
        | some hi => simp only []; rw [hx hi (by simp)]
theorem openA_congr {f f' : Operand → AV} {o : Oper} {h : Hp} (hx : ∀ x ∈ o.op.operands, f x = f' x) : openA P f o h = openA P f' o h := by
  unfold openA
  rw [openS_congr hx, openL_congr hx]
theorem aopC_congr {f f' : Operand → AV} {o : Oper} {h : Hp} (hx : ∀ x ∈ o.op.operands, f x = f' x) : aopC P f o h = aopC P f' o h := by
  obtain ⟨dst, op, ty, pos, after, guard⟩ := o
  cases op <;> simp only [Op.operands] at hx <;> simp only [aopC]
  case move x => rw [hx x (by simp)]
  case assign x => rw [hx x (by simp)]
  case pick c a b => rw [hx c (by simp), hx a (by simp), hx b (by simp)]
  case box t x => rw [hx x (by simp)]
  case build t ps => rw [map_congrL (f := fun (x : Nat × Operand) => (x.1, f x.2)) (g := fun x => (x.1, f' x.2)) fun y hy => by rw [hx y.2 (by simpa using ⟨y.1, by simpa using hy⟩)]]
  case buildSlice t n ps => rw [map_congrL (f := fun (x : Nat × Operand) => (x.1, f x.2)) (g := fun x => (x.1, f' x.2)) fun y hy => by rw [hx y.2 (by simpa using ⟨y.1, by simpa using hy⟩)]]
  case makeSlice t l c => rw [hx l (by simp), hx c (by simp)]
  case makeMap t r => cases r <;> rfl
  case lookup t x i ok => rw [hx x (by simp), hx i (by simp)]
  case mapUpdate t x k v => rw [hx x (by simp), hx k (by simp), hx v (by simp)]
  case insert t x k v => rw [hx x (by simp), hx k (by simp), hx v (by simp)]
  case mapEntry t x k => rw [hx x (by simp), hx k (by simp)]
  case entryStore t x k v => rw [hx x (by simp), hx k (by simp), hx v (by simp)]
  case load t a => rw [hx a (by simp)]
  case store t a x => rw [hx a (by simp), hx x (by simp)]
  case binOp op t x y yt => rw [hx x (by simp), hx y (by simp)]
  case unOp op t x => rw [hx x (by simp)]
  case convert s d x => rw [hx x (by simp)]
  case makeFunc fn first cap =>
    cases fn <;> simp only []
    rw [map_congrL (f := f) (g := f') fun y hy => hx y (by simp; exact .inr (by simpa using hy))]
  case slice t x lo hi mx =>
    have h1 : f x = f' x := hx x (by simp)
    have h2 : ∀ d, boundA d f lo = boundA d f' lo := fun d => boundA_congr fun y hy => hx y (by simp at hy ⊢; simp [hy])
    have h3 : ∀ d, boundA d f hi = boundA d f' hi := fun d => boundA_congr fun y hy => hx y (by simp at hy ⊢; simp [hy])
    have h4 : ∀ d, boundA d f mx = boundA d f' mx := fun d => boundA_congr fun y hy => hx y (by simp at hy ⊢; simp [hy])
    rw [h1]
    simp only [h2, h3]
    cases mx with
    | none => rfl
    | some m => simp only [h4]
  case fieldAddr t x k => rw [hx x (by simp)]
  case field t x k => rw [hx x (by simp)]
  case indexAddr t x i => rw [hx x (by simp), hx i (by simp)]
  case index t x i => rw [hx x (by simp), hx i (by simp)]
  case extract x i => rw [hx x (by simp)]
  case nilCheck x => rw [hx x (by simp)]
  case call c =>
    have ha : c.args.toList.map f = c.args.toList.map f' := map_congrL fun y hy => hx y (by unfold Call.operands; simp; exact .inr (by simpa using hy))
    rw [ha]
    cases hc : c.callee with
    | value fo => simp only []; rw [hx fo (by unfold Call.operands; simp [hc])]
    | builtin b => rfl
    | invoke r m => rfl

/-- An operation looks at its operands alone. -/
theorem aop_congr {f f' : Operand → AV} {o : Oper} {h : Hp} (hx : ∀ x ∈ o.op.operands, f x = f' x) : aop P f o h = aop P f' o h := by
  unfold aop
  rw [openA_congr hx, aopC_congr hx]

theorem viewOf_congr {f f' : Operand → AV} {o : Oper} (hx : ∀ x ∈ o.op.operands, f x = f' x) : viewOf f o = viewOf f' o := by
  obtain ⟨dst, op, ty, pos, after, guard⟩ := o
  cases op <;> simp only [Op.operands] at hx <;> simp only [viewOf]
  case load t a => rw [hx a (by simp)]
  case store t a x => rw [hx a (by simp)]
  case indexAddr t x i => rw [hx x (by simp)]
  case slice t x lo hi mx => rw [hx x (by simp)]
  case convert s d x => rw [hx x (by simp)]
  case lookup t x i ok => rw [hx x (by simp)]
  case mapUpdate t x k v => rw [hx x (by simp)]
  case insert t x k v => rw [hx x (by simp)]
  case mapEntry t x k => rw [hx x (by simp)]
  case entryStore t x k v => rw [hx x (by simp)]
  case call c =>
    have ha : c.args.toList.map f = c.args.toList.map f' := map_congrL fun y hy => hx y (by unfold Call.operands; simp; exact .inr (by simpa using hy))
    rw [ha]

/- Masks. -/
theorem testBit_one_shl (n k : Nat) : (1 <<< n).testBit k = decide (k = n) := by
  rw [Nat.shiftLeft_eq, Nat.one_mul, Nat.testBit_two_pow]
  simp [eq_comm]
theorem mask_fold (t : T Nat) (k : Nat) : ∀ (l : List Edge) (s : Nat), (l.foldl (fun s e => bif Region.binds .any e then (s ||| (1 <<< e.on)) ||| (t.get e.on).getD 0 else s) s).testBit k = true ↔
    s.testBit k = true ∨ ∃ e ∈ l, Region.binds .any e = true ∧ (k = e.on ∨ ((t.get e.on).getD 0).testBit k = true)
  | [], s => by simp
  | e :: r, s => by
    rw [List.foldl_cons, mask_fold t k r]
    cases hb : Region.binds .any e with
    | true =>
      simp only [cond_true, Nat.testBit_or, testBit_one_shl, Bool.or_eq_true, decide_eq_true_eq, List.mem_cons]
      constructor
      · rintro ((( h | h) | h) | ⟨e', h1, h2⟩)
        · exact .inl h
        · exact .inr ⟨e, .inl rfl, hb, .inl h⟩
        · exact .inr ⟨e, .inl rfl, hb, .inr h⟩
        · exact .inr ⟨e', .inr h1, h2⟩
      · rintro (h | ⟨e', rfl | h1, h2, h3⟩)
        · exact .inl (.inl (.inl h))
        · rcases h3 with h3 | h3
          · exact .inl (.inl (.inr h3))
          · exact .inl (.inr h3)
        · exact .inr ⟨e', h1, h2, h3⟩
    | false =>
      simp only [cond_false, List.mem_cons]
      constructor
      · rintro (h | ⟨e', h1, h2⟩)
        · exact .inl h
        · exact .inr ⟨e', .inr h1, h2⟩
      · rintro (h | ⟨e', rfl | h1, h2⟩)
        · exact .inl h
        · rw [hb] at h2; exact absurd h2.1 (by simp)
        · exact .inr ⟨e', h1, h2⟩
theorem bsGo_keeps : ∀ (l : List Oper) (i : Nat) (t : T Nat) (k : Nat), k < i → (bsGo i l t).get k = t.get k
  | [], _, _, _, _ => rfl
  | o :: r, i, t, k, h => by
    simp only [bsGo]
    rw [bsGo_keeps r (i + 1) _ k (by omega), T.get_put, upd_ne _ _ (by omega)]
theorem bsGo_at : ∀ (l : List Oper) (i : Nat) (t : T Nat) (k : Nat) (o : Oper), l[k]? = some o → ∃ t', (bsGo i l t).get (i + k) = some (maskOf o t') ∧ ∀ j, j < i + k → t'.get j = (bsGo i l t).get j
  | [], _, _, k, _, h => by simp at h
  | o :: r, i, t, 0, o', h => by
    simp at h; subst h
    refine ⟨t, ?_, fun j hj => (bsGo_keeps (o :: r) i t j (by omega)).symm⟩
    simp only [bsGo]
    rw [bsGo_keeps r (i + 1) _ _ (by omega), T.get_put, Nat.add_zero, upd_same]
  | o :: r, i, t, k + 1, o', h => by
    simp at h
    obtain ⟨t', h1, h2⟩ := bsGo_at r (i + 1) (T.put (i + 2) t i (some (maskOf o t))) k o' h
    refine ⟨t', ?_, fun j hj => ?_⟩
    · simp only [bsGo]; rw [show i + (k + 1) = i + 1 + k by omega]; exact h1
    · simp only [bsGo]; exact h2 j (by omega)

/-- The edges of each lead back. -/
def BackOk (ops : Array Oper) : Prop := ∀ i o, ops[i]? = some o → ∀ e ∈ o.after, Region.binds .any e = true → e.on < i
theorem mk_iff {ops : Array Oper} (hb : BackOk ops) {i : Nat} {o : Oper} (ho : ops[i]? = some o) (k : Nat) :
    (msk (bsGo 0 ops.toList .leaf) i).testBit k = true ↔ ∃ e ∈ o.after, Region.binds .any e = true ∧ (k = e.on ∨ (msk (bsGo 0 ops.toList .leaf) e.on).testBit k = true) := by
  obtain ⟨t', h1, h2⟩ := bsGo_at ops.toList 0 .leaf i o (by simpa using ho)
  rw [Nat.zero_add] at h1 h2
  have : msk (bsGo 0 ops.toList .leaf) i = maskOf o t' := by unfold msk; rw [h1]; rfl
  rw [this]
  unfold maskOf
  rw [mask_fold]
  simp only [Nat.zero_testBit, Bool.false_eq_true, false_or, Array.mem_toList_iff]
  constructor
  · rintro ⟨e, he, hbn, h⟩
    refine ⟨e, he, hbn, ?_⟩
    rcases h with h | h
    · exact .inl h
    · rw [h2 e.on (hb i o ho e he hbn)] at h; exact .inr h
  · rintro ⟨e, he, hbn, h⟩
    refine ⟨e, he, hbn, ?_⟩
    rcases h with h | h
    · exact .inl h
    · exact .inr (by rw [h2 e.on (hb i o ho e he hbn)]; exact h)
theorem mk_out {ops : Array Oper} {i : Nat} (ho : ops[i]? = none) : msk (bsGo 0 ops.toList .leaf) i = 0 := by
  have : ∀ (l : List Oper) (i : Nat) (t : T Nat) (k : Nat), i + l.length ≤ k → (bsGo i l t).get k = t.get k := by
    intro l
    induction l with
    | nil => intro _ _ _ _; rfl
    | cons o r ih => intro i t k h; simp only [bsGo]; simp only [List.length_cons] at h; rw [ih _ _ _ (by omega), T.get_put, upd_ne _ _ (by omega)]
  unfold msk
  rw [this _ _ _ _ (by simpa using ho)]
  rfl
theorem mk_lt {ops : Array Oper} (hb : BackOk ops) {i k : Nat} (h : (msk (bsGo 0 ops.toList .leaf) i).testBit k = true) : k < i := by
  induction i using Nat.strongRecOn generalizing k with
  | _ i ih =>
    cases ho : ops[i]? with
    | none => rw [mk_out ho] at h; simp at h
    | some o =>
      obtain ⟨e, he, hbn, h⟩ := (mk_iff hb ho k).1 h
      have := hb i o ho e he hbn
      rcases h with h | h
      · omega
      · have := ih e.on this h; omega
theorem mk_trans {ops : Array Oper} (hb : BackOk ops) {i j k : Nat} (h : (msk (bsGo 0 ops.toList .leaf) i).testBit j = true) (h' : (msk (bsGo 0 ops.toList .leaf) j).testBit k = true) : (msk (bsGo 0 ops.toList .leaf) i).testBit k = true := by
  induction i using Nat.strongRecOn generalizing j k with
  | _ i ih =>
    cases ho : ops[i]? with
    | none => rw [mk_out ho] at h; simp at h
    | some o =>
      obtain ⟨e, he, hbn, h⟩ := (mk_iff hb ho j).1 h
      refine (mk_iff hb ho k).2 ⟨e, he, hbn, .inr ?_⟩
      rcases h with h | h
      · rw [← h]; exact h'
      · exact ih e.on (hb i o ho e he hbn) h h'

/- Writers of temporaries. -/
theorem writers_spec : ∀ (l : List Oper) (i : Nat) (t w : T Nat), writers i l t = some w → ∀ d,
    (∀ j, t.get d = some j → w.get d = some j ∧ ∀ (k : Nat) (o : Oper), l[k]? = some o → o.dst ≠ some d) ∧
    (t.get d = none → ∀ j, w.get d = some j ↔ ∃ (k : Nat) (o : Oper), j = i + k ∧ l[k]? = some o ∧ o.dst = some d)
  | [], i, t, w, h, d => by
    simp only [writers] at h; cases h
    exact ⟨fun j hj => ⟨hj, fun k o hk => by simp at hk⟩, fun hn j => by rw [hn]; simp⟩
  | o :: r, i, t, w, h, d => by
    simp only [writers] at h
    split at h
    · rename_i d' hd'
      split at h
      · cases h
      · rename_i hn'
        have ih := writers_spec r (i + 1) _ w h d
        by_cases c : d = d'
        · subst c
          refine ⟨fun j hj => (by rw [hj] at hn'; cases hn'), fun _ j => ?_⟩
          obtain ⟨h1, h2⟩ := ih.1 i (by rw [T.get_put, upd_same])
          rw [h1]
          constructor
          · intro e; cases e; exact ⟨0, o, rfl, rfl, hd'⟩
          · rintro ⟨k, o', rfl, hk, ho'⟩
            cases k with
            | zero => rfl
            | succ k => exact absurd ho' (h2 k o' (by simpa using hk))
        · have e : (T.put (d' + 2) t d' (some i)).get d = t.get d := by rw [T.get_put, upd_ne _ _ c]
          rw [e] at ih
          refine ⟨fun j hj => ?_, fun hn j => ?_⟩
          · obtain ⟨h1, h2⟩ := ih.1 j hj
            refine ⟨h1, fun k o' hk => ?_⟩
            cases k with
            | zero => simp at hk; subst hk; rw [hd']; exact fun e => c (by cases e; rfl)
            | succ k => exact h2 k o' (by simpa using hk)
          · rw [ih.2 hn j]
            constructor
            · rintro ⟨k, o', rfl, hk, ho'⟩; exact ⟨k + 1, o', by omega, by simpa using hk, ho'⟩
            · rintro ⟨k, o', rfl, hk, ho'⟩
              cases k with
              | zero => simp at hk; subst hk; rw [hd'] at ho'; cases ho'; exact absurd rfl c
              | succ k => exact ⟨k, o', by omega, by simpa using hk, ho'⟩
    · rename_i hd'
      have ih := writers_spec r (i + 1) t w h d
      refine ⟨fun j hj => ?_, fun hn j => ?_⟩
      · obtain ⟨h1, h2⟩ := ih.1 j hj
        refine ⟨h1, fun k o' hk => ?_⟩
        cases k with
        | zero => simp at hk; subst hk; rw [hd']; simp
        | succ k => exact h2 k o' (by simpa using hk)
      · rw [ih.2 hn j]
        constructor
        · rintro ⟨k, o', rfl, hk, ho'⟩; exact ⟨k + 1, o', by omega, by simpa using hk, ho'⟩
        · rintro ⟨k, o', rfl, hk, ho'⟩
          cases k with
          | zero => simp at hk; subst hk; rw [hd'] at ho'; cases ho'
          | succ k => exact ⟨k, o', by omega, by simpa using hk, ho'⟩
theorem looksOk_spec {ops : Array Oper} {bs w : T Nat} : ∀ (l : List Oper) (i : Nat), looksOk ops bs w i l = true → ∀ k o, l[k]? = some o →
    (∀ t ∈ o.looksAt ops, ∀ j, w.get t = some j → j = i + k ∨ ordered bs (i + k) j = true) ∧ (∀ e ∈ o.after, Region.binds .any e = true → e.on < i + k)
  | [], _, _, k, o, h => by simp at h
  | o :: r, i, h, k, o', hk => by
    simp only [looksOk, Bool.and_eq_true, List.all_eq_true, Array.all_eq_true'] at h
    obtain ⟨⟨h1, h2⟩, h3⟩ := h
    cases k with
    | zero =>
      simp at hk; subst hk
      refine ⟨fun t ht j hj => ?_, fun e he hbn => ?_⟩
      · have := h1 t ht
        rw [hj] at this
        simp only [Bool.or_eq_true] at this
        rcases this with x | x
        · exact .inl (by have := Nat.eq_of_beq_eq_true x; omega)
        · exact .inr (by simpa using x)
      · have := h2 e he
        rw [hbn] at this
        simpa using this
    | succ k =>
      have := looksOk_spec r (i + 1) h3 k o' (by simpa using hk)
      rw [show i + (k + 1) = i + 1 + k by omega]
      exact this

structure DrawOk (ops : Array Oper) (W : Nat → Option Nat) : Prop where
  back : BackOk ops
  w : ∀ t j, W t = some j ↔ ∃ o, ops[j]? = some o ∧ o.dst = some t
  looks : ∀ i o t j, ops[i]? = some o → t ∈ o.looksAt ops → W t = some j → j = i ∨ ordered (bsGo 0 ops.toList .leaf) i j = true
theorem drawOk_spec {ops : Array Oper} (h : drawOk ops (bsGo 0 ops.toList .leaf) = true) : ∃ W, DrawOk ops W := by
  unfold drawOk at h
  split at h
  · rename_i w hw
    have h1 := writers_spec ops.toList 0 .leaf w hw
    have h2 := looksOk_spec ops.toList 0 h
    simp only [Nat.zero_add] at h1 h2
    refine ⟨w.get, fun i o ho e he hbn => (h2 i o (by simpa using ho)).2 e he hbn, fun t j => ?_, fun i o t j ho ht hj => (h2 i o (by simpa using ho)).1 t ht j hj⟩
    rw [(h1 t).2 rfl j]
    constructor
    · rintro ⟨k, o, rfl, hk, ho⟩; exact ⟨o, by simpa using hk, ho⟩
    · rintro ⟨o, hk, ho⟩; exact ⟨j, o, rfl, by simpa using hk, ho⟩
  · cases h

end Ev
end Go.Proofs.YtffcaapbmkaceaaDoor
