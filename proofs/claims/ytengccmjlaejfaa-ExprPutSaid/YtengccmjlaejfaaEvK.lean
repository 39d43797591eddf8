/- What a step of the evaluator leaves alone. No condition. -/
import Derived.Test.YtengccmjlaejfaaMg7
namespace Go.Proofs.Ytengccmjlaejfaa
namespace Ev
open Go.RowKit
variable {P : Program}

def KL (h h' : Hp) : Prop := h.nx ≤ h'.nx ∧ ∃ L, h'.lg = L ++ h.lg ∧ ∀ n o', n < h.nx → n ∉ L → h'.ob.get n = some o' → h.ob.get n = some o' ∨ ∀ k, o'.low k = true

theorem KL.refl (h : Hp) : KL h h := ⟨Nat.le_refl _, [], rfl, fun _ _ _ _ e => .inl e⟩
theorem KL.trans {a b c : Hp} (h : KL a b) (k : KL b c) : KL a c := by
  obtain ⟨h1, L, h2, h3⟩ := h
  obtain ⟨k1, M, k2, k3⟩ := k
  refine ⟨Nat.le_trans h1 k1, M ++ L, by rw [k2, h2, List.append_assoc], fun n o hn hni e => ?_⟩
  simp only [List.mem_append, not_or] at hni
  rcases k3 n o (Nat.lt_of_lt_of_le hn h1) hni.1 e with x | x
  · exact h3 n o hn hni.2 x
  · exact .inr x
theorem KL.new (h : Hp) (o : AO) : KL h (h.new o) :=
  ⟨Nat.le_succ _, [], rfl, fun n o' hn _ e => by
    unfold Hp.new at e
    rw [T.get_put, upd_ne _ _ (by omega)] at e
    exact .inl e⟩
theorem KL.fresh (h : Hp) (cs : List AV) (sz : Nat) : KL h (h.fresh cs sz) := KL.new _ _
theorem KL.put (h : Hp) (n : Nat) (o : AO) : KL h ((h.put n o).log n) :=
  ⟨Nat.le_refl _, [n], rfl, fun m o' _ hni e => by
    simp only [List.mem_singleton] at hni
    unfold Hp.log Hp.put at e
    rw [T.get_put, upd_ne _ _ hni] at e
    exact .inl e⟩
theorem KL.kill (h : Hp) (f : Nat) : KL h (h.kill f) :=
  ⟨Nat.le_refl _, [], rfl, fun n o' _ _ e => by
    unfold Hp.kill at e
    simp only [T.get_map, Option.map_eq_some_iff] at e
    obtain ⟨o, ho, rfl⟩ := e
    cases o with
    | cells cs sz f' t s =>
      simp only [killO]
      cases Nat.beq f' f
      · exact .inl ho
      · exact .inr fun k => rfl
    | map es c => exact .inl ho
    | loop => exact .inl ho
    | rows => exact .inl ho⟩

theorem storeA_kl {t : TypeId} {x v : AV} {h h' : Hp} (hs : storeA P t x v h = some h') : KL h h' := by
  unfold storeA at hs
  split at hs
  · split at hs
    · rename_i n i c _ _ cs sz fam tip sh k ho hk
      simp only [cond_eq_ite] at hs
      split at hs
      · cases hs
        split
        · exact (KL.kill h fam).trans (KL.put _ _ _)
        · exact KL.put _ _ _
      · cases hs
    · cases hs
  · cases hs

theorem appendA_kl {st : TypeId} {s x v : AV} {h h' : Hp} (hs : appendA P st s x h = some (v, h')) : KL h h' := by
  unfold appendA at hs
  simp only [cond_eq_ite] at hs
  repeat' split at hs
  all_goals first
    | (cases hs; done)
    | (cases hs; exact KL.refl _)
    | (cases hs; exact KL.fresh _ _ _)
    | (cases hs; exact (KL.put _ _ _).trans (KL.new _ _))

theorem buildSliceA_kl {t : TypeId} {n : Nat} {ps : List (Nat × AV)} {v : AV} {h h' : Hp} (hs : buildSliceA P t n ps h = some (v, h')) : KL h h' := by
  unfold buildSliceA at hs
  simp only [cond_eq_ite] at hs
  repeat' split at hs
  all_goals first
    | (cases hs; done)
    | (simp only [Option.map_eq_some_iff, Prod.mk.injEq] at hs; obtain ⟨_, _, _, rfl⟩ := hs; exact KL.fresh _ _ _)

theorem makeSliceA_kl {t : TypeId} {l c v : AV} {h h' : Hp} (hs : makeSliceA P t l c h = some (v, h')) : KL h h' := by
  unfold makeSliceA at hs
  simp only [cond_eq_ite] at hs
  repeat' split at hs
  all_goals first
    | (cases hs; done)
    | (cases hs; exact KL.fresh _ _ _)

theorem KL.set (h : Hp) (n : Nat) (o : AO) : KL h (h.set n o) := KL.put h n o
theorem mapDelA_kl {t : TypeId} {m k : AV} {h h' : Hp} (hs : mapDelA P t m k h = some h') : KL h h' := by
  unfold mapDelA at hs
  repeat' split at hs
  all_goals first
    | (cases hs; done)
    | (cases hs; exact KL.set _ _ _)
theorem mapSetA_kl {t : TypeId} {m k v : AV} {h h' : Hp} (hs : mapSetA P t m k v h = some h') : KL h h' := by
  unfold mapSetA at hs
  repeat' split at hs
  all_goals first
    | (cases hs; done)
    | (cases hs; exact KL.set _ _ _)
theorem entSetA_kl {m k v : AV} {h h' : Hp} (hs : entSetA m k v h = some h') : KL h h' := by
  unfold entSetA at hs
  repeat' split at hs
  all_goals first
    | (cases hs; done)
    | (cases hs; exact KL.set _ _ _)
theorem mapEntA_kl {t : TypeId} {m k v : AV} {h h' : Hp} (hs : mapEntA P t m k h = some (v, h')) : KL h h' := by
  unfold mapEntA at hs
  repeat' split at hs
  all_goals first
    | (cases hs; done)
    | (cases hs; exact KL.set _ _ _)
    | (simp only [Option.map_eq_some_iff, Prod.mk.injEq] at hs; obtain ⟨_, _, _, rfl⟩ := hs; exact KL.set _ _ _)

theorem builtinA_kl {b : Builtin} {ts : Array TypeId} {t : TypeId} {cn : Array Bool} {args : List AV} {v : AV} {h h' : Hp} (hs : builtinA P b ts t cn args h = some (.val v h')) : KL h h' := by
  unfold builtinA at hs
  simp only [cond_eq_ite] at hs
  repeat' split at hs
  all_goals first
    | (cases hs; done)
    | (cases hs; exact KL.refl _)
    | (simp only [Option.map_eq_some_iff, Prod.exists, Stp.val.injEq] at hs; obtain ⟨_, _, ha, _, rfl⟩ := hs; exact appendA_kl ha)
    | (simp only [Option.map_eq_some_iff, Stp.val.injEq] at hs; obtain ⟨_, ha, _, rfl⟩ := hs; exact mapDelA_kl ha)

theorem aopC_kl {f : Operand → AV} {o : Oper} {v : AV} {h h' : Hp} (ha : aopC P f o h = some (.val v h')) : KL h h' := by
  unfold aopC at ha
  simp only [cond_eq_ite, pureA, pureS, binS] at ha
  split at ha
  all_goals (try (repeat' split at ha))
  all_goals first
    | (cases ha; done)
    | (cases ha; exact KL.refl _)
    | (cases ha; exact KL.fresh _ _ _)
    | (cases ha; exact KL.new _ _)
    | exact builtinA_kl ha
    | (simp only [Option.map_eq_some_iff, Stp.val.injEq] at ha; obtain ⟨_, hx, _, rfl⟩ := ha; first | exact KL.refl _ | exact KL.fresh _ _ _ | exact storeA_kl hx | exact mapSetA_kl hx | exact entSetA_kl hx)
    | (simp only [Option.map_eq_some_iff, Prod.exists, Stp.val.injEq] at ha; obtain ⟨_, _, hx, _, rfl⟩ := ha; first | exact buildSliceA_kl hx | exact makeSliceA_kl hx | exact mapEntA_kl hx)

theorem KL.drop (h : Hp) (n : Nat) : KL h (h.drop n) :=
  ⟨Nat.le_refl _, [n], rfl, fun m o' _ hni e => by
    simp only [List.mem_singleton] at hni
    unfold Hp.drop at e
    rw [T.get_put', if_neg hni] at e
    exact .inl e⟩
theorem appendR_kl {st : TypeId} {s x v : AV} {h h' : Hp} {b : Bool} (hs : appendR P st s x h = some (b, some (v, h'))) : KL h h' := by
  unfold appendR at hs
  simp only [cond_eq_ite] at hs
  repeat' split at hs
  all_goals first
    | (cases hs; done)
    | (cases hs; exact KL.new _ _)
    | (cases hs; exact (KL.drop _ _).trans (KL.new _ _))
theorem openL_kl {f : Operand → AV} {o : Oper} {b : Bool} {v : AV} {h h' : Hp} (ha : openL P f o h = some (b, some (v, h'))) : KL h h' := by
  unfold openL at ha
  simp only [cond_eq_ite] at ha
  split at ha
  all_goals (try (repeat' split at ha))
  all_goals first
    | (cases ha; done)
    | (cases ha; exact KL.refl _)
    | (cases ha; exact KL.new _ _)
    | (cases ha; exact KL.set _ _ _)
    | exact appendR_kl ha
    | (simp only [Option.some.injEq, Prod.mk.injEq, Option.map_eq_some_iff] at ha; obtain ⟨_, _, _, _, rfl⟩ := ha; exact KL.refl _)
    | (simp only [Option.some.injEq, Prod.mk.injEq] at ha; obtain ⟨_, ha⟩ := ha; repeat' split at ha; all_goals first | (cases ha; done) | (cases ha; exact KL.set _ _ _))
theorem openS_kl {f : Operand → AV} {o : Oper} {b : Bool} {v : AV} {h h' : Hp} (ha : openS P f o h = some (b, some (v, h'))) : KL h h' := by
  unfold openS at ha
  simp only [cond_eq_ite] at ha
  split at ha
  all_goals (try (repeat' split at ha))
  all_goals first
    | (cases ha; done)
    | (cases ha; exact KL.refl _)
theorem openA_kl {f : Operand → AV} {o : Oper} {b : Bool} {v : AV} {h h' : Hp} (ha : openA P f o h = some (b, some (v, h'))) : KL h h' := by
  unfold openA at ha
  split at ha
  · rename_i r hr
    exact openS_kl (hr.trans ha)
  · exact openL_kl ha
theorem aop_kl {f : Operand → AV} {o : Oper} {v : AV} {h h' : Hp} (ha : aop P f o h = some (.val v h')) : KL h h' := by
  unfold aop at ha
  split at ha
  · rename_i b r ho
    cases b with
    | false => cases ha
    | true =>
      simp only [cond_true, Option.map_eq_some_iff, Prod.exists, Stp.val.injEq] at ha
      obtain ⟨v', h'', rfl, rfl, rfl⟩ := ha
      exact openA_kl ho
  · exact aopC_kl ha
theorem aop_isC {f : Operand → AV} {o : Oper} {h : Hp} {s : Stp} (ha : aop P f o h = some s) (hs : ∀ v h', s ≠ .val v h') : aopC P f o h = some s := by
  unfold aop at ha
  split at ha
  · rename_i b r ho
    cases b with
    | false => cases ha
    | true =>
      simp only [cond_true, Option.map_eq_some_iff] at ha
      obtain ⟨x, _, rfl⟩ := ha
      exact absurd rfl (hs _ _)
  · exact ha

def SumKL (S : Sum) : Prop := ∀ f args h v h', S f args h = some (v, h') → KL h h'

theorem builtinA_no {b : Builtin} {ts : Array TypeId} {t : TypeId} {cn : Array Bool} {as args : List AV} {fid : FuncId} {h h' : Hp} (ha : builtinA P b ts t cn as h = some (.call fid args h')) : False := by
  unfold builtinA at ha
  simp only [cond_eq_ite] at ha
  repeat' split at ha
  all_goals first
    | (cases ha; done)
    | (simp at ha; done)
theorem builtinA_noY {b : Builtin} {ts : Array TypeId} {t : TypeId} {cn : Array Bool} {as args : List AV} {n : Nat} {h h' : Hp} (ha : builtinA P b ts t cn as h = some (.yield n args h')) : False := by
  unfold builtinA at ha
  simp only [cond_eq_ite] at ha
  repeat' split at ha
  all_goals first
    | (cases ha; done)
    | (simp at ha; done)
theorem aop_call_h {f : Operand → AV} {o : Oper} {fid : FuncId} {args : List AV} {h h' : Hp} (ha : aop P f o h = some (.call fid args h')) : h' = h := by
  obtain ⟨dst, op, ty, pos, after, guard⟩ := o
  replace ha := aop_isC ha fun _ _ e => by cases e
  unfold aopC at ha
  cases op <;> simp only [] at ha
  case call c =>
    split at ha
    · split at ha
      · cases ha; rfl
      · cases ha
      · rename_i first cs hx
        cases hb : Nat.beq first.size 0 <;> simp [hb] at ha
        exact ha.2.2.symm
      · cases ha
    · exact (builtinA_no ha).elim
    · cases ha
  case makeFunc fn first cap =>
    exfalso
    cases fn <;> simp [cond_eq_ite] at ha
  case makeMap t r => cases r <;> cases ha
  all_goals
    exfalso
    try simp only [pureA, pureS, binS, cond_eq_ite] at ha
    (try (repeat' split at ha))
    all_goals first
      | (cases ha; done)
      | (simp at ha; done)

theorem aop_yield_h {f : Operand → AV} {o : Oper} {n : Nat} {args : List AV} {h h' : Hp} (ha : aop P f o h = some (.yield n args h')) : h' = h := by
  obtain ⟨dst, op, ty, pos, after, guard⟩ := o
  replace ha := aop_isC ha fun _ _ e => by cases e
  unfold aopC at ha
  cases op <;> simp only [] at ha
  case call c =>
    split at ha
    · split at ha
      · cases ha
      · cases ha; rfl
      · rename_i first cs hx
        cases hb : Nat.beq first.size 0 <;> simp [hb] at ha
      · cases ha
    · exact (builtinA_noY ha).elim
    · cases ha
  case makeFunc fn first cap =>
    exfalso
    cases fn <;> simp [cond_eq_ite] at ha
  case makeMap t r => cases r <;> cases ha
  all_goals
    exfalso
    try simp only [pureA, pureS, binS, cond_eq_ite] at ha
    (try (repeat' split at ha))
    all_goals first
      | (cases ha; done)
      | (simp at ha; done)

def YlKL (yl : Yl) : Prop := ∀ n args h b h', yl n args h = some (b, h') → KL h h'
theorem seqOps_kl {call : Sum} (hc : SumKL call) {yl : Yl} (hy : YlKL yl) {ops : Array Oper} : ∀ {l : List Oper} {e e' : T AV} {h h' : Hp}, seqOps P call yl ops l e h = some (e', h') → KL h h'
  | [], _, _, _, _, hs => by simp only [seqOps] at hs; cases hs; exact KL.refl _
  | o :: r, e, e', h, h', hs => by
    simp only [seqOps, cond_eq_ite] at hs
    split at hs
    · split at hs
      · rename_i ha; exact (aop_kl ha).trans (seqOps_kl hc hy hs)
      · rename_i f args h1 ha
        split at hs
        · rename_i v h2 hcall
          have hh : h1 = h := aop_call_h ha
          subst hh
          exact (hc _ _ _ _ _ hcall).trans (seqOps_kl hc hy hs)
        · cases hs
      · rename_i n args h1 ha
        split at hs
        · rename_i b h2 hcall
          have hh : h1 = h := aop_yield_h ha
          subst hh
          exact (hy _ _ _ _ _ hcall).trans (seqOps_kl hc hy hs)
        · cases hs
      · cases hs
    · exact seqOps_kl hc hy hs
/- Drawn regions. -/
theorem lookE_new (ob : T AO) (n : Nat) (l : List (Nat × Option AO)) : ∀ (k s : Nat), lookE n (newEs ob s k ++ l) = if s ≤ n ∧ n < s + k then some (ob.get n) else lookE n l
  | 0, s => by rw [if_neg (by omega)]; rfl
  | k + 1, s => by
    simp only [newEs, List.cons_append, lookE]
    rw [lookE_new ob n l k (s + 1)]
    cases hb : Nat.beq s n with
    | true =>
      have := Nat.eq_of_beq_eq_true hb
      subst this
      rw [if_pos (show s ≤ s ∧ s < s + (k + 1) by omega)]
      rfl
    | false =>
      have hne : s ≠ n := fun e => by subst e; simp at hb
      simp only [cond_false]
      by_cases c : s + 1 ≤ n ∧ n < s + 1 + k
      · rw [if_pos c, if_pos (by omega)]
      · rw [if_neg c, if_neg (by omega)]
theorem lookE_map (g : Nat → Option AO) (n : Nat) : ∀ (l : List Nat), lookE n (l.map fun n => (n, g n)) = if n ∈ l then some (g n) else none
  | [] => by simp [lookE]
  | m :: r => by
    simp only [List.map_cons, lookE]
    rw [lookE_map g n r]
    cases hb : Nat.beq m n with
    | true => have := Nat.eq_of_beq_eq_true hb; subst this; simp
    | false =>
      have hne : n ≠ m := fun e => by subst e; simp at hb
      simp [hne]
theorem get_putEs (n : Nat) : ∀ (es : List (Nat × Option AO)) (t : T AO), (putEs es t).get n = match lookE n es with | some o => o | none => t.get n
  | [], _ => rfl
  | (k, o) :: r, t => by
    simp only [putEs, lookE]
    rw [T.get_put', get_putEs n r t]
    cases hb : Nat.beq k n with
    | true => have := Nat.eq_of_beq_eq_true hb; subst this; simp
    | false =>
      have hne : n ≠ k := fun e => by subst e; simp at hb
      simp [hne]
theorem get_viewAll (m : Nat → Bool) (n : Nat) : ∀ (ens : Ens) (t : T AO), (viewAll m ens t).get n = entAt m n (t.get n) ens
  | [], _ => rfl
  | (j, es) :: r, t => by
    simp only [viewAll, entAt]
    cases m j with
    | true => simp only [cond_true, get_putEs, get_viewAll m n r t]; cases lookE n es <;> rfl
    | false => simp only [cond_false, get_viewAll m n r t]

/-- What is known of a record. -/
structure RecOk (nx : Nat) (d : DRec) (ob ob' : T AO) : Prop where
  lo : d.lo = nx
  le : nx ≤ d.hi
  look : ∀ n, lookE n d.en = if (nx ≤ n ∧ n < d.hi) ∨ n ∈ d.wr then some (ob'.get n) else none
  wlt : ∀ n ∈ d.wr, n < nx
  wsh : (∀ n ∈ d.wr, unshared (ob.get n) = true) ∨ (d.full = true ∧ d.vw = none ∧ (∀ n ∈ d.wr, (ob.get n).isSome = true) ∧ ∀ n, n < nx → shared (ob.get n) = true → n ∈ d.wr)
theorem shared_some {o : Option AO} (h : shared o = true) : o.isSome = true := by
  unfold shared at h
  split at h
  · rfl
  · cases h
theorem finishR_ok {vw : Option (List Nat)} {ob : T AO} {nx : Nat} {v : AV} {h' : Hp} {d : DRec} (hle : nx ≤ h'.nx) (h : finishR vw ob nx v h' = some d) :
    RecOk nx d ob h'.ob ∧ d.v = v ∧ d.hi = h'.nx ∧ d.vw = vw ∧ ∀ n ∈ h'.lg, n < nx → n ∈ d.wr := by
  have key : ∀ (wr : List Nat) (fu : Bool), (∀ n ∈ wr, n < nx) → ((∀ n ∈ wr, unshared (ob.get n) = true) ∨ (fu = true ∧ vw = none ∧ (∀ n ∈ wr, (ob.get n).isSome = true) ∧ ∀ n, n < nx → shared (ob.get n) = true → n ∈ wr)) →
      (∀ n ∈ h'.lg, n < nx → n ∈ wr) → some (⟨v, nx, h'.nx, vw, wr, newEs h'.ob nx (h'.nx - nx) ++ wr.map (fun n => (n, h'.ob.get n)), fu⟩ : DRec) = some d →
      RecOk nx d ob h'.ob ∧ d.v = v ∧ d.hi = h'.nx ∧ d.vw = vw ∧ ∀ n ∈ h'.lg, n < nx → n ∈ d.wr := by
    intro wr fu h1 h2 h3 h
    cases h
    refine ⟨⟨rfl, hle, fun n => ?_, h1, h2⟩, rfl, rfl, rfl, h3⟩
    show lookE n (newEs h'.ob nx (h'.nx - nx) ++ _) = _
    rw [lookE_new, lookE_map]
    by_cases c : nx ≤ n ∧ n < nx + (h'.nx - nx)
    · rw [if_pos c, if_pos (.inl (by show nx ≤ n ∧ n < h'.nx; omega))]
    · rw [if_neg c]
      by_cases c2 : n ∈ wr
      · rw [if_pos c2, if_pos (.inr c2)]
      · rw [if_neg c2, if_neg]
        rintro (x | x)
        · have x : nx ≤ n ∧ n < h'.nx := x
          omega
        · exact c2 x
  unfold finishR at h
  simp only [cond_eq_ite] at h
  split at h
  · rename_i hc
    refine key _ _ (fun n hn => by simp at hn; exact hn.2) (.inl (List.all_eq_true.1 hc)) (fun n hn hlt => by simp [hn]; exact hlt) h
  · split at h
    · rename_i hc
      simp only [Bool.and_eq_true, List.all_eq_true, Option.isNone_iff_eq_none] at hc
      refine key _ _ (fun n hn => ?_) (.inr ⟨rfl, hc.1, fun n hn => ?_, fun n hlt hs => by simp [hlt, hs]⟩) (fun n hn hlt => by simp [hn]; exact .inl hlt) h
      · rcases List.mem_append.1 hn with x | x
        · simp at x; exact x.2
        · simp at x; exact x.1
      · rcases List.mem_append.1 hn with x | x
        · exact hc.2 n x
        · exact shared_some (List.mem_filter.1 x).2
    · cases h
theorem drawOne_ok {call : Sum} (hc : SumKL call) {ops : Array Oper} {m : Nat} {h0 : Hp} {o : Oper} {e : T AV} {nx : Nat} {ens : Ens} {d : DRec} (h : drawOne P call ops m h0 o e nx ens = some d) : ∃ ob ob', RecOk nx d ob ob' := by
  unfold drawOne at h
  rw [cond_eq_ite] at h
  split at h
  · simp only [] at h
    split at h
    · rename_i v h' ha
      exact ⟨_, _, (finishR_ok (aop_kl ha).1 h).1⟩
    · rename_i f args h' ha
      split at h
      · rename_i v h'' hcall
        have e := aop_call_h ha
        subst e
        exact ⟨_, _, (finishR_ok (hc _ _ _ _ _ hcall).1 h).1⟩
      · cases h
    · cases h
  · cases h
    exact ⟨.leaf, .leaf, rfl, Nat.le_refl _, fun n => by simp only [lookE]; rw [if_neg]; rintro (x | x) <;> first | omega | simp at x, fun n hn => by simp at hn, .inl fun n hn => by simp at hn⟩
theorem drawGo_kl {call : Sum} (hc : SumKL call) {ops : Array Oper} {bs : T Nat} {h0 : Hp} : ∀ {l : List Oper} {i : Nat} {e : T AV} {nx : Nat} {ens : Ens} {ds : List DRec} {e' : T AV} {nx' : Nat} {ens' : Ens}, drawGo P call ops bs h0 i l e nx ens = some (ds, e', nx', ens') →
    nx ≤ nx' ∧ ∀ (m : Nat → Bool) (n : Nat) (b : Option AO), n < nx → n ∉ wrs ds → entAt m n b ens' = entAt m n b ens
  | [], i, e, nx, ens, ds, e', nx', ens', h => by simp only [drawGo] at h; cases h; exact ⟨Nat.le_refl _, fun _ _ _ _ _ => rfl⟩
  | o :: r, i, e, nx, ens, ds, e', nx', ens', h => by
    simp only [drawGo] at h
    split at h
    · rename_i d hd
      obtain ⟨ob, ob', hr⟩ := drawOne_ok hc hd
      split at h
      · rename_i ds' x hg
        cases h
        obtain ⟨h1, h2⟩ := drawGo_kl hc hg
        refine ⟨Nat.le_trans hr.le h1, fun m n b hn hni => ?_⟩
        simp only [wrs, List.mem_append, not_or] at hni
        rw [h2 m n b (Nat.lt_of_lt_of_le hn hr.le) hni.2]
        simp only [entAt]
        have : lookE n d.en = none := by rw [hr.look, if_neg]; rintro (x | x) <;> first | omega | exact hni.1 x
        rw [this]
        cases m i <;> rfl
      · cases h
    · cases h
theorem drawn_kl {call : Sum} (hc : SumKL call) {ops : Array Oper} {e e' : T AV} {h h' : Hp} (hs : drawn P call ops e h = some (e', h')) : KL h h' := by
  unfold drawn at hs
  simp only [cond_eq_ite] at hs
  split at hs
  · split at hs
    · rename_i ds e1 nx1 ens hg
      split at hs
      · cases hs
        obtain ⟨h1, h2⟩ := drawGo_kl hc hg
        refine ⟨h1, wrs ds, rfl, fun n o hn hni he => .inl ?_⟩
        rw [get_viewAll, h2 _ n _ hn hni] at he
        exact he
      · cases hs
    · cases hs
  · cases hs

theorem drawnT_kl {call : Sum} (hc : SumKL call) {yl : Yl} (hy : YlKL yl) {ops : Array Oper} {e e' : T AV} {h h' : Hp} (hd : drawnT P call yl ops e h = some (e', h')) : KL h h' := by
  unfold drawnT at hd
  simp only [cond_eq_ite] at hd
  split at hd
  · split at hd
    · rename_i h0; exact (drawn_kl hc h0).trans (seqOps_kl hc hy hd)
    · cases hd
  · cases hd
theorem leave_kl {h h' : Hp} {v : AV} (hk : KL { ob := h.ob, nx := h.nx, lg := [] } h') : KL h (leave h.nx h.lg v h') := by
  obtain ⟨k1, L, k2, k3⟩ := hk
  simp only [List.append_nil] at k2
  unfold leave
  rw [cond_eq_ite]
  split
  · refine ⟨Nat.le_refl _, _, rfl, fun n o hn hni e => k3 n o hn (fun hL => hni ?_) e⟩
    rw [k2]
    simp [hL, hn]
  · exact ⟨k1, _, rfl, fun n o hn hni e => k3 n o hn (by rw [k2] at hni; exact hni) e⟩

theorem step_kl {S : Sum} {R : Sm} (hS : SumKL S) (h1 : ∀ r c e h x e' h', R.run r c e h = some (x, e', h') → KL h h') (h2 : ∀ r b c e h x e' h', R.scp r b c e h = some (x, e', h') → KL h h') (h3 : SumKL R.call) (h4 : YlKL R.yld) :
    (∀ r c e h x e' h', (stepS P S R).run r c e h = some (x, e', h') → KL h h') ∧ (∀ r b c e h x e' h', (stepS P S R).scp r b c e h = some (x, e', h') → KL h h') ∧ SumKL (stepS P S R).call ∧ YlKL (stepS P S R).yld := by
  refine ⟨fun r c e h x e' h' hr => ?_, fun r b c e h x e' h' hr => ?_, fun f args h v h' hr => ?_, fun n args h b h' hr => ?_⟩
  · cases c <;> simp only [stepS, cond_eq_ite] at hr
    case skip => cases hr; exact KL.refl _
    case label => cases hr; exact KL.refl _
    case ret => cases hr; exact KL.refl _
    case exit => cases hr; exact KL.refl _
    case goto => cases hr; exact KL.refl _
    case region id ops d =>
      simp only [Option.map_eq_some_iff, Prod.exists, Prod.mk.injEq] at hr
      obtain ⟨_, _, hx, _, _, rfl⟩ := hr
      split at hx
      · exact drawnT_kl h3 h4 hx
      · exact seqOps_kl h3 h4 hx
    case seq a b =>
      split at hr
      · rename_i ha; exact (h1 _ _ _ _ _ _ _ ha).trans (h1 _ _ _ _ _ _ _ hr)
      · exact h1 _ _ _ _ _ _ _ hr
    case cond =>
      split at hr
      · split at hr <;> exact h1 _ _ _ _ _ _ _ hr
      · split at hr <;> exact h1 _ _ _ _ _ _ _ hr
      · cases hr
    case block id c =>
      split at hr
      · rename_i ha
        split at hr <;> (cases hr; exact h1 _ _ _ _ _ _ _ ha)
      · exact h1 _ _ _ _ _ _ _ hr
    case loop c =>
      split at hr
      · rename_i ha; exact (h1 _ _ _ _ _ _ _ ha).trans (h1 _ _ _ _ _ _ _ hr)
      · exact h1 _ _ _ _ _ _ _ hr
    case scope c => exact h2 _ _ _ _ _ _ _ _ hr
    case rangeFunc g ps asg body =>
      repeat' split at hr
      all_goals first
        | (cases hr; done)
        | (cases hr; refine KL.trans ?_ (KL.put _ _ _); exact (KL.new h _).trans (h3 _ _ _ _ _ (by assumption)))
    all_goals cases hr
  · simp only [stepS] at hr
    split at hr
    · rename_i ha
      split at hr
      · exact (h1 _ _ _ _ _ _ _ ha).trans (h2 _ _ _ _ _ _ _ _ hr)
      · cases hr
    · exact h1 _ _ _ _ _ _ _ hr
  · simp only [stepS] at hr
    split at hr
    · rename_i r hs; cases hr; exact hS _ _ _ _ _ hs
    · split at hr
      · split at hr
        · split at hr
          · rename_i ha
            simp only [Option.map_eq_some_iff, Prod.mk.injEq] at hr
            obtain ⟨_, _, _, rfl⟩ := hr
            exact leave_kl (h1 _ _ _ _ _ _ _ ha)
          · rename_i ha
            simp only [Option.map_eq_some_iff, Prod.mk.injEq] at hr
            obtain ⟨_, _, _, rfl⟩ := hr
            exact leave_kl (h1 _ _ _ _ _ _ _ ha)
          · cases hr
        · cases hr
      · cases hr
  · simp only [stepS, cond_eq_ite] at hr
    repeat' split at hr
    all_goals first
      | (cases hr; done)
      | (cases hr; refine KL.trans ?_ (KL.put _ _ _); refine KL.trans ?_ (h1 _ _ _ _ _ _ _ (by assumption)); refine KL.trans ?_ (KL.put _ _ _); exact h1 _ _ _ _ _ _ _ (by assumption))

theorem sm_kl {S : Sum} (hS : SumKL S) : ∀ n, (∀ r c e h x e' h', (sm P S n).run r c e h = some (x, e', h') → KL h h') ∧ (∀ r b c e h x e' h', (sm P S n).scp r b c e h = some (x, e', h') → KL h h') ∧ SumKL (sm P S n).call ∧ YlKL (sm P S n).yld
  | 0 => ⟨fun _ _ _ _ _ _ _ h => by simp [sm] at h, fun _ _ _ _ _ _ _ _ h => by simp [sm] at h, fun _ _ _ _ _ h => by simp [sm] at h, fun _ _ _ _ _ h => by simp [sm] at h⟩
  | n + 1 => step_kl hS (sm_kl hS n).1 (sm_kl hS n).2.1 (sm_kl hS n).2.2.1 (sm_kl hS n).2.2.2

end Ev
end Go.Proofs.Ytengccmjlaejfaa
