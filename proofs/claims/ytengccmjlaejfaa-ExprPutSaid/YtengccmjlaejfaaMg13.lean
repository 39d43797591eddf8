/- Summaries: contracts of functions as the evaluator takes them; a call that comes to true. No condition. -/
import Derived.Test.YtengccmjlaejfaaMg12
import Derived.KernelRfl
section
namespace Go.Proofs.Ytengccmjlaejfaa
namespace Ev
open Go.RowKit
set_option linter.unusedSectionVars false
variable {P : Program}

def noS : Sum := fun _ _ _ => none
def orS (a b : Sum) : Sum := fun f args h => match a f args h with
  | some r => some r
  | none => b f args h
structure SumG (P : Program) (S : Sum) : Prop where
  ok : ∀ [Fz], SumOk P S
  kl : SumKL S
theorem noS_ok : SumG P noS := ⟨@fun _ _ _ _ _ _ h => (by cases h), fun _ _ _ _ _ h => (by cases h)⟩
def entersB (P : Program) (f : FuncId) : Bool := match P.funcs[f]? with
  | some fn => fn.body.isSome && !(fn.name == "runtime.NumGoroutine")
  | none => false
theorem enters_of {f : FuncId} (h : entersB P f = true) : Enters P f := by
  unfold entersB at h
  split at h
  · rename_i fn hfn
    simp only [Bool.and_eq_true] at h
    exact ⟨fn, hfn, h.1, fun e => by rw [e] at h; simp at h⟩
  · cases h

theorem HR.fr [Fz] {ρ : Rho} {h : Hp} {w w' : World} (hh : HR ρ h w) (hf : Fr noB w w') : HR ρ h w' :=
  HRel.world hh hf.size (fun n p e => hf.block p.b (hh.dom n p e).2 (fun x => x)) fun b o e => hf.block b (Array.getElem?_eq_some_iff.1 (hh.fz b o e)).1 (fun x => x)
theorem Stepped.ofFr {ρ : Rho} {nx : Nat} {w w' : World} (hd : ∀ n p, ρ n = some p → n < nx) (hf : Fr noB w w') : Stepped ρ nx [] w ρ nx w' :=
  ⟨Nat.le_refl _, fun _ _ => rfl, fun n p h e => absurd (hd n p e) (by omega), hf.size, hf.os, hf.tape, hf.output, fun b hb _ => hf.block b hb (fun x => x)⟩

def isTrue : Option (AV × Hp) → Bool
  | some (.v (.bool b), _) => b
  | _ => false
/-- **A call without arguments that comes to true.** -/
theorem calls_true {S : Sum} (hm : P.follows .mixedOrders = true) (ho : P.funcs.all okFunc = true) (hS : SumG P S) {f : FuncId} (n : Nat) (hr : isTrue ((sm P S n).call f [] ⟨.leaf, 0, []⟩) = true) (w : World) :
    Calls P f #[] w fun e w' => e = .returned (.bool true) ∧ Fr noB w w' := by
  cases hx : (sm P S n).call f [] ⟨.leaf, 0, []⟩ with
  | none => rw [hx] at hr; cases hr
  | some r =>
    obtain ⟨v, h'⟩ := r
    rw [hx] at hr
    unfold isTrue at hr
    split at hr
    · rename_i b h'' hb
      cases hb
      subst hr
      letI : Fz := ⟨fun _ => none, true⟩
      exact calls_plain ⟨hm, ho, hS.ok, hS.kl⟩ (fun _ => rfl) rfl n rfl hx w
    · cases hr

end Ev
end Go.Proofs.Ytengccmjlaejfaa
end
section
namespace Go.Proofs.Ytengccmjlaejfaa
namespace Ev
open Go.RowKit
variable {P : Program}

inductive Br (α : Type) where
  | no
  | leaf (a : α)
  | test (b : Bool) (t e : Br α)
  | ob (p : Prop) (k : Br α)

def Br.bind {α β : Type} : Br α → (α → Br β) → Br β
  | .no, _ => .no
  | .leaf a, f => f a
  | .test b t e, f => .test b (t.bind f) (e.bind f)
  | .ob p k, f => .ob p (k.bind f)
/-- The leaf that is come to. -/
def Br.At {α : Type} : Br α → α → Prop
  | .no, _ => False
  | .leaf a, r => r = a
  | .test b t e, r => (b = true ∧ t.At r) ∨ (b = false ∧ e.At r)
  | .ob p k, r => p ∧ k.At r
/-- Whatever leaf is come to. -/
def Br.Holds {α : Type} (K : α → Prop) : Br α → Prop
  | .no => False
  | .leaf a => K a
  | .test b t e => (b = true → t.Holds K) ∧ (b = false → e.Holds K)
  | .ob p k => p ∧ k.Holds K
theorem Br.at_bind {α β : Type} {f : α → Br β} {r : β} : ∀ {B : Br α}, (B.bind f).At r → ∃ a, B.At a ∧ (f a).At r
  | .no, h => h.elim
  | .leaf a, h => ⟨a, rfl, h⟩
  | .test b t e, h => by
    rcases h with ⟨h1, h2⟩ | ⟨h1, h2⟩
    · obtain ⟨a, k1, k2⟩ := Br.at_bind h2; exact ⟨a, .inl ⟨h1, k1⟩, k2⟩
    · obtain ⟨a, k1, k2⟩ := Br.at_bind h2; exact ⟨a, .inr ⟨h1, k1⟩, k2⟩
  | .ob p k, h => by obtain ⟨a, k1, k2⟩ := Br.at_bind h.2; exact ⟨a, ⟨h.1, k1⟩, k2⟩
theorem Br.Holds.out {α : Type} {K : α → Prop} : ∀ {B : Br α}, B.Holds K → ∃ a, B.At a ∧ K a
  | .no, h => h.elim
  | .leaf a, h => ⟨a, rfl, h⟩
  | .test b t e, h => by
    cases b with
    | true => obtain ⟨a, k1, k2⟩ := Br.Holds.out (h.1 rfl); exact ⟨a, .inl ⟨rfl, k1⟩, k2⟩
    | false => obtain ⟨a, k1, k2⟩ := Br.Holds.out (h.2 rfl); exact ⟨a, .inr ⟨rfl, k1⟩, k2⟩
  | .ob p k, h => by obtain ⟨a, k1, k2⟩ := Br.Holds.out h.2; exact ⟨a, ⟨h.1, k1⟩, k2⟩
def ofO {α : Type} : Option α → Br α
  | some a => .leaf a
  | none => .no
theorem ofO_at {α : Type} {o : Option α} {a : α} (h : (ofO o).At a) : o = some a := by
  cases o with
  | none => exact h.elim
  | some b => exact congrArg some h.symm

/- Truths of temporaries that have been asked for. -/
abbrev Kn := T Bool
def Kn.drop (kn : Kn) (d : Option Tmp) : Kn := match d with
  | some d => T.put (d + 2) kn d none
  | none => kn
def KnOk (kn : Kn) (e : T AV) : Prop := ∀ d v, kn.get d = some v → e.get d = some (.s (.bool v))
theorem KnOk.leaf (e : T AV) : KnOk .leaf e := fun d v h => by cases h
theorem KnOk.put {kn : Kn} {e : T AV} (h : KnOk kn e) {d : Tmp} {b : Bool} (he : e.get d = some (.s (.bool b))) : KnOk (T.put (d + 2) kn d (some b)) e := fun t v hv => by
  rw [T.get_put] at hv
  by_cases c : t = d
  · subst c; rw [upd_same] at hv; cases hv; exact he
  · rw [upd_ne _ _ c] at hv; exact h t v hv
theorem KnOk.step {kn : Kn} {e : T AV} (h : KnOk kn e) (d : Option Tmp) (v : AV) : KnOk (kn.drop d) (putT e d v) := by
  cases d with
  | none => exact h
  | some d =>
    intro t u hu
    unfold Kn.drop at hu
    rw [T.get_put'] at hu
    unfold putT
    rw [T.get_put]
    by_cases c : t = d
    · rw [if_pos c] at hu; cases hu
    · rw [if_neg c] at hu; rw [upd_ne _ _ c]; exact h t u hu

abbrev CallB := FuncId → List AV → Hp → Br (AV × Hp)
abbrev YlB := Nat → List AV → Hp → Br (Bool × Hp)
def CallSim (c : CallB) (s : Sum) : Prop := ∀ f args h r, (c f args h).At r → s f args h = some r
def YlSim (c : YlB) (s : Yl) : Prop := ∀ n args h r, (c n args h).At r → s n args h = some r

theorem openA_ok {ρ : Operand → AV} {o : Oper} {h h' : Hp} {v : AV} (hs : openA P ρ o h = some (true, some (v, h'))) : aop P ρ o h = some (.val v h') := by
  unfold aop
  rw [hs]; rfl
theorem openA_no {ρ : Operand → AV} {o : Oper} {h : Hp} (hs : openA P ρ o h = none) : aop P ρ o h = aopC P ρ o h := by
  unfold aop
  rw [hs]

/-- An operation that is wanted: its value, the heap, what is known. -/
def opB (P : Program) (call : CallB) (yl : YlB) (e : T AV) (kn : Kn) (o : Oper) (h : Hp) : Br (AV × Hp × Kn) :=
  let rest : Br (AV × Hp × Kn) := match openA P (opnd e) o h with
    | some (b, r) => .test b (match r with
      | some (v, h') => .leaf (v, h', kn)
      | none => .no) .no
    | none => match aopC P (opnd e) o h with
      | some (.val v h') => .leaf (v, h', kn)
      | some (.call f args h') => (call f args h').bind fun (v, h'') => .leaf (v, h'', kn)
      | some (.yield n args h') => (yl n args h').bind fun (b, h'') => .leaf (.v (.bool b), h'', kn)
      | none => .no
  match o.op with
  | .pick (.tmp c) a b => match e.get c with
    | some (.s (.bool t)) => match kn.get c with
      | some v => .leaf (bif v then opnd e a else opnd e b, h, kn)
      | none => .test t (.leaf (opnd e a, h, T.put (c + 2) kn c (some true))) (.leaf (opnd e b, h, T.put (c + 2) kn c (some false)))
    | _ => rest
  | _ => rest
/-- An operation that may be wanted. -/
def opG (P : Program) (call : CallB) (yl : YlB) (ops : Array Oper) (e : T AV) (kn : Kn) (o : Oper) (h : Hp) : Br (Bool × AV × Hp × Kn) :=
  let go (kn : Kn) (w : Bool) : Br (Bool × AV × Hp × Kn) := bif w then (opB P call yl e kn o h).bind fun (v, h', kn') => .leaf (true, v, h', kn') else .leaf (false, .v undef, h, kn)
  match o.guard with
  | none => go kn true
  | some (j, want) => match (ops[j]?).bind (·.dst) with
    | none => go kn false
    | some d => match e.get d with
      | some (.v (.bool b)) => go kn (b == want)
      | some (.s (.bool b)) => match kn.get d with
        | some v => go kn (v == want)
        | none => .test b (go (T.put (d + 2) kn d (some true)) (true == want)) (go (T.put (d + 2) kn d (some false)) (false == want))
      | _ => go kn false

def opRes (call : Sum) (yl : Yl) (s : Option Stp) (v : AV) (h' : Hp) : Prop := match s with
  | some (.val v1 h1) => v1 = v ∧ h1 = h'
  | some (.call f args h1) => call f args h1 = some (v, h')
  | some (.yield n args h1) => ∃ b, yl n args h1 = some (b, h') ∧ v = .v (.bool b)
  | none => False

theorem opB_at {call : CallB} {cs : Sum} (hc : CallSim call cs) {yl : YlB} {ys : Yl} (hy : YlSim yl ys) {e : T AV} {kn kn' : Kn} (hk : KnOk kn e) {o : Oper} {h h' : Hp} {v : AV} (hr : (opB P call yl e kn o h).At (v, h', kn')) :
    KnOk kn' e ∧ opRes cs ys (aop P (opnd e) o h) v h' := by
  have rest : (Br.At (match openA P (opnd e) o h with
    | some (b, r) => .test b (match r with
      | some (v, h') => .leaf (v, h', kn)
      | none => .no) .no
    | none => match aopC P (opnd e) o h with
      | some (.val v h') => .leaf (v, h', kn)
      | some (.call f args h') => (call f args h').bind fun (v, h'') => .leaf (v, h'', kn)
      | some (.yield n args h') => (yl n args h').bind fun (b, h'') => .leaf (.v (.bool b), h'', kn)
      | none => .no : Br (AV × Hp × Kn)) (v, h', kn')) → KnOk kn' e ∧ opRes cs ys (aop P (opnd e) o h) v h' := by
    intro hr
    split at hr
    · rename_i b r hs
      rcases hr with ⟨rfl, hr⟩ | ⟨_, hr⟩
      · split at hr
        · rename_i u h1
          cases hr
          rw [openA_ok hs]
          exact ⟨hk, rfl, rfl⟩
        · exact hr.elim
      · exact hr.elim
    · rename_i hs
      rw [openA_no hs]
      unfold opRes
      split at hr
      · rename_i v1 h1 ha; cases hr; exact ⟨hk, rfl, rfl⟩
      · rename_i f args h1 ha
        obtain ⟨⟨v1, h2⟩, k1, k2⟩ := Br.at_bind hr
        cases k2
        exact ⟨hk, hc _ _ _ _ k1⟩
      · rename_i n args h1 ha
        obtain ⟨⟨b, h2⟩, k1, k2⟩ := Br.at_bind hr
        cases k2
        exact ⟨hk, b, hy _ _ _ _ k1, rfl⟩
      · exact hr.elim
  unfold opB at hr
  simp only [] at hr
  split at hr
  · rename_i c a b hop
    split at hr
    · rename_i t ht
      have haop : aop P (opnd e) o h = some (.val (bif t then opnd e a else opnd e b) h) := by
        have h1 : openA P (opnd e) o h = none := by unfold openA openS openL; simp only [hop]
        unfold aop
        rw [h1]
        unfold aopC
        rw [hop]
        simp only [opnd, ht, Option.getD_some]
      split at hr
      · rename_i u hu
        have := hk c u hu
        rw [ht] at this
        cases this
        cases hr
        rw [haop]
        exact ⟨hk, rfl, rfl⟩
      · rw [haop]
        rcases hr with ⟨rfl, hr⟩ | ⟨rfl, hr⟩
        · cases hr; exact ⟨hk.put ht, rfl, rfl⟩
        · cases hr; exact ⟨hk.put ht, rfl, rfl⟩
    · exact rest hr
  · exact rest hr

theorem opG_at {call : CallB} {cs : Sum} (hc : CallSim call cs) {yl : YlB} {ys : Yl} (hy : YlSim yl ys) {ops : Array Oper} {e : T AV} {kn kn' : Kn} (hk : KnOk kn e) {o : Oper} {h h' : Hp} {w : Bool} {v : AV} (hr : (opG P call yl ops e kn o h).At (w, v, h', kn')) :
    KnOk kn' e ∧ Region.wanted o (yieldedA ops e) = w ∧ (w = true → opRes cs ys (aop P (opnd e) o h) v h') ∧ (w = false → v = .v undef ∧ h' = h) := by
  have go : ∀ (kn : Kn) (u : Bool), KnOk kn e → (Br.At (bif u then (opB P call yl e kn o h).bind fun (v, h', kn') => .leaf (true, v, h', kn') else .leaf (false, .v undef, h, kn) : Br (Bool × AV × Hp × Kn)) (w, v, h', kn')) →
      KnOk kn' e ∧ u = w ∧ (w = true → opRes cs ys (aop P (opnd e) o h) v h') ∧ (w = false → v = .v undef ∧ h' = h) := by
    intro kn u hk hr
    cases u with
    | true =>
      obtain ⟨⟨v1, h1, kn1⟩, k1, k2⟩ := Br.at_bind hr
      cases k2
      obtain ⟨r1, r2⟩ := opB_at hc hy hk k1
      exact ⟨r1, rfl, fun _ => r2, fun x => by cases x⟩
    | false => cases hr; exact ⟨hk, rfl, fun x => (by cases x), fun _ => ⟨rfl, rfl⟩⟩
  unfold opG at hr
  simp only [] at hr
  unfold Region.wanted
  split at hr
  · rename_i hg
    rw [hg]
    exact go kn true hk hr
  · rename_i j want hg
    rw [hg]
    simp only []
    split at hr
    · rename_i hd
      have : yieldedA ops e j = none := by unfold yieldedA; rw [hd]; rfl
      rw [this]
      obtain ⟨r1, r2, r3⟩ := go kn false hk hr
      exact ⟨r1, by rw [← r2]; rfl, r3⟩
    · rename_i d hd
      have hya : yieldedA ops e j = match e.get d with
        | some (.v (.bool b)) => some b
        | some (.s (.bool b)) => some b
        | _ => none := by unfold yieldedA; rw [hd]; rfl
      split at hr
      · rename_i b hb
        rw [hya, hb]
        obtain ⟨r1, r2, r3⟩ := go kn _ hk hr
        exact ⟨r1, by rw [← r2]; cases b <;> cases want <;> rfl, r3⟩
      · rename_i b hb
        rw [hya, hb]
        split at hr
        · rename_i u hu
          have := hk d u hu
          rw [hb] at this
          cases this
          obtain ⟨r1, r2, r3⟩ := go kn _ hk hr
          exact ⟨r1, by rw [← r2]; cases b <;> cases want <;> rfl, r3⟩
        · rcases hr with ⟨rfl, hr⟩ | ⟨rfl, hr⟩
          · obtain ⟨r1, r2, r3⟩ := go _ _ (hk.put hb) hr
            exact ⟨r1, by rw [← r2]; cases want <;> rfl, r3⟩
          · obtain ⟨r1, r2, r3⟩ := go _ _ (hk.put hb) hr
            exact ⟨r1, by rw [← r2]; cases want <;> rfl, r3⟩
      · rename_i h1 h2
        obtain ⟨r1, r2, r3⟩ := go kn false hk hr
        refine ⟨r1, ?_, r3⟩
        rw [← r2, hya]
        split
        · rename_i b hb; exact absurd hb (h1 b)
        · rename_i b hb; exact absurd hb (h2 b)
        · rfl

def seqB (P : Program) (call : CallB) (yl : YlB) (ops : Array Oper) : List Oper → T AV → Kn → Hp → Br (T AV × Hp)
  | [], e, _, h => .leaf (e, h)
  | o :: r, e, kn, h => (opG P call yl ops e kn o h).bind fun (_, v, h', kn') => seqB P call yl ops r (putT e o.dst v) (kn'.drop o.dst) h'
theorem seqB_at {call : CallB} {cs : Sum} (hc : CallSim call cs) {yl : YlB} {ys : Yl} (hy : YlSim yl ys) {ops : Array Oper} : ∀ {l : List Oper} {e : T AV} {kn : Kn} {h : Hp} {r : T AV × Hp}, KnOk kn e → (seqB P call yl ops l e kn h).At r → seqOps P cs ys ops l e h = some r
  | [], e, kn, h, r, _, hr => by cases hr; rfl
  | o :: l, e, kn, h, r, hk, hr => by
    obtain ⟨⟨w, v, h', kn'⟩, k1, k2⟩ := Br.at_bind hr
    obtain ⟨r1, r2, r3, r4⟩ := opG_at hc hy hk k1
    have ih := seqB_at hc hy (r1.step o.dst v) k2
    unfold seqOps
    rw [r2]
    cases w with
    | false =>
      obtain ⟨rfl, rfl⟩ := r4 rfl
      exact ih
    | true =>
      have r3 := r3 rfl
      simp only [cond_true]
      cases ha : aop P (opnd e) o h with
      | none => rw [ha] at r3; exact r3.elim
      | some s =>
        rw [ha] at r3
        cases s with
        | val v1 h1 => obtain ⟨rfl, rfl⟩ := r3; exact ih
        | call f args h1 =>
          have r3 : cs f args h1 = some (v, h') := r3
          simp only []
          rw [r3]; exact ih
        | yield n args h1 =>
          obtain ⟨b, r5, rfl⟩ := r3
          simp only []
          rw [r5]; exact ih

/- Drawn regions. -/
def noY : YlB := fun _ _ _ => .no
theorem noY_sim : YlSim noY (fun _ _ _ => none) := fun _ _ _ _ hx => (show False from hx).elim
def drawOneB (P : Program) (call : CallB) (ops : Array Oper) (m : Nat) (h0 : Hp) (o : Oper) (e : T AV) (kn : Kn) (nx : Nat) (ens : Ens) : Br (DRec × Kn) :=
  let vw := viewD (opnd e) o m h0 ens
  let ob := obOf m h0 nx ens vw
  (opG P call noY ops e kn o ⟨ob, nx, []⟩).bind fun (w, v, h', kn') => bif w then (match finishR vw ob nx v h' with
    | some d => .leaf (d, kn')
    | none => .no) else .leaf (⟨.v undef, nx, nx, some [], [], [], false⟩, kn')
theorem drawOneB_at {call : CallB} {cs : Sum} (hc : CallSim call cs) {ops : Array Oper} {m : Nat} {h0 : Hp} {o : Oper} {e : T AV} {kn kn' : Kn} (hk : KnOk kn e) {nx : Nat} {ens : Ens} {d : DRec} (hr : (drawOneB P call ops m h0 o e kn nx ens).At (d, kn')) :
    KnOk kn' e ∧ drawOne P cs ops m h0 o e nx ens = some d := by
  obtain ⟨⟨w, v, h', kn1⟩, k1, k2⟩ := Br.at_bind hr
  obtain ⟨r1, r2, r3, r4⟩ := opG_at (ys := fun _ _ _ => none) hc noY_sim hk k1
  unfold drawOne
  rw [r2]
  cases w with
  | false => cases k2; exact ⟨r1, rfl⟩
  | true =>
    have r3 := r3 rfl
    simp only [cond_true] at k2 ⊢
    have : finishR (viewD (opnd e) o m h0 ens) (obOf m h0 nx ens (viewD (opnd e) o m h0 ens)) nx v h' = some d ∧ kn1 = kn' := by
      split at k2
      · rename_i d' hd; cases k2; exact ⟨hd, rfl⟩
      · exact k2.elim
    obtain ⟨f1, rfl⟩ := this
    refine ⟨r1, ?_⟩
    cases ha : aop P (opnd e) o ⟨obOf m h0 nx ens (viewD (opnd e) o m h0 ens), nx, []⟩ with
    | none => rw [ha] at r3; exact r3.elim
    | some s =>
      rw [ha] at r3
      cases s with
      | val v1 h1 => obtain ⟨rfl, rfl⟩ := r3; exact f1
      | call f args h1 =>
        have r3 : cs f args h1 = some (v, h') := r3
        simp only []
        rw [r3]; exact f1
      | yield n args h1 => obtain ⟨b, r3, _⟩ := r3; cases r3
def drawGoB (P : Program) (call : CallB) (ops : Array Oper) (bs : T Nat) (h0 : Hp) : Nat → List Oper → T AV → Kn → Nat → Ens → Br ((List DRec × T AV × Nat × Ens) × Kn)
  | _, [], e, kn, nx, ens => .leaf (([], e, nx, ens), kn)
  | i, o :: r, e, kn, nx, ens => (drawOneB P call ops (msk bs i) h0 o e kn nx ens).bind fun (d, kn') => (drawGoB P call ops bs h0 (i + 1) r (putT e o.dst d.v) (kn'.drop o.dst) d.hi ((i, d.en) :: ens)).bind fun ((ds, x), k) => .leaf ((d :: ds, x), k)
theorem drawGoB_at {call : CallB} {cs : Sum} (hc : CallSim call cs) {ops : Array Oper} {bs : T Nat} {h0 : Hp} : ∀ {l : List Oper} {i : Nat} {e : T AV} {kn kn' : Kn} {nx : Nat} {ens : Ens} {r : List DRec × T AV × Nat × Ens}, KnOk kn e → (drawGoB P call ops bs h0 i l e kn nx ens).At (r, kn') → drawGo P cs ops bs h0 i l e nx ens = some r ∧ KnOk kn' r.2.1
  | [], _, _, _, _, _, _, _, hk, hr => by cases hr; exact ⟨rfl, hk⟩
  | o :: l, i, e, kn, kn', nx, ens, r, hk, hr => by
    obtain ⟨⟨d, kn1⟩, k1, k2⟩ := Br.at_bind hr
    obtain ⟨⟨⟨ds, x⟩, kn2⟩, k3, k4⟩ := Br.at_bind k2
    cases k4
    obtain ⟨r1, r2⟩ := drawOneB_at hc hk k1
    obtain ⟨ih1, ih2⟩ := drawGoB_at hc (r1.step o.dst d.v) k3
    refine ⟨?_, ih2⟩
    unfold drawGo
    rw [r2]
    simp only []
    rw [ih1]
def drawnB (P : Program) (call : CallB) (ops : Array Oper) (e : T AV) (h : Hp) : Br ((T AV × Hp) × Kn) :=
  let bs := bsGo 0 ops.toList .leaf
  bif drawOk ops bs then
    (drawGoB P call ops bs h 0 ops.toList e .leaf h.nx []).bind fun ((ds, e', nx', ens), kn) => bif clearAll bs h.nx ds 0 ds then .leaf ((e', ⟨viewAll (fun _ => true) ens h.ob, nx', wrs ds ++ h.lg⟩), kn) else .no
  else .no
theorem drawnB_at {call : CallB} {cs : Sum} (hc : CallSim call cs) {ops : Array Oper} {e : T AV} {h : Hp} {r : T AV × Hp} {kn : Kn} (hr : (drawnB P call ops e h).At (r, kn)) : drawn P cs ops e h = some r ∧ KnOk kn r.1 := by
  unfold drawnB at hr
  unfold drawn
  simp only [] at hr ⊢
  cases hd : drawOk ops (bsGo 0 ops.toList .leaf) with
  | false => rw [hd] at hr; exact hr.elim
  | true =>
    rw [hd] at hr
    simp only [cond_true] at hr ⊢
    obtain ⟨⟨⟨ds, e', nx', ens⟩, kn1⟩, k1, k2⟩ := Br.at_bind hr
    obtain ⟨g1, g2⟩ := drawGoB_at hc (KnOk.leaf e) k1
    rw [g1]
    simp only [] at k2 ⊢
    cases hx : clearAll (bsGo 0 ops.toList .leaf) h.nx ds 0 ds with
    | false => rw [hx] at k2; exact k2.elim
    | true => rw [hx] at k2; cases k2; exact ⟨rfl, g2⟩
def drawnTB (P : Program) (call : CallB) (yl : YlB) (ops : Array Oper) (e : T AV) (h : Hp) : Br (T AV × Hp) :=
  let t := tailAt (bsGo 0 ops.toList .leaf) ops.size
  bif preOk ops t then (drawnB P call (ops.toList.take t).toArray e h).bind fun ((e1, h1), kn) => seqB P call yl ops (ops.toList.drop t) e1 kn h1
  else .no
theorem drawnTB_at {call : CallB} {cs : Sum} (hc : CallSim call cs) {yl : YlB} {ys : Yl} (hy : YlSim yl ys) {ops : Array Oper} {e : T AV} {h : Hp} {r : T AV × Hp} (hr : (drawnTB P call yl ops e h).At r) : drawnT P cs ys ops e h = some r := by
  unfold drawnTB at hr
  unfold drawnT
  simp only [] at hr ⊢
  cases hd : preOk ops (tailAt (bsGo 0 ops.toList .leaf) ops.size) with
  | false => rw [hd] at hr; exact hr.elim
  | true =>
    rw [hd] at hr
    simp only [cond_true] at hr ⊢
    obtain ⟨⟨⟨e1, h1⟩, kn⟩, k1, k2⟩ := Br.at_bind hr
    obtain ⟨g1, g2⟩ := drawnB_at hc k1
    rw [g1]
    exact seqB_at hc hy g2 k2

structure Bm where
  run : Bool → Code → T AV → Hp → Br (Ex × T AV × Hp)
  scp : Bool → Code → Code → T AV → Hp → Br (Ex × T AV × Hp)
  call : CallB
  yld : YlB

/-- A call, as a tree. -/
abbrev SumBr := FuncId → List AV → Hp → Option (Br (AV × Hp))
open Classical in
noncomputable def Br.ev {α : Type} : Br α → Option α
  | .no => none
  | .leaf a => some a
  | .test b t e => bif b then t.ev else e.ev
  | .ob p k => if p then k.ev else none
noncomputable def sumS (X : SumBr) : Sum := fun f args h => match X f args h with
  | some B => B.ev
  | none => none
def noX : SumBr := fun _ _ _ => none
theorem Br.ev_at {α : Type} : ∀ {B : Br α} {a : α}, B.At a → B.ev = some a
  | .no, _, h => h.elim
  | .leaf _, _, h => by cases h; rfl
  | .test b t e, a, h => by
    rcases h with ⟨rfl, h⟩ | ⟨rfl, h⟩
    · show t.ev = some a; exact Br.ev_at h
    · show e.ev = some a; exact Br.ev_at h
  | .ob p k, a, h => by
    unfold Br.ev
    rw [if_pos h.1]
    exact Br.ev_at h.2
def stepB (P : Program) (X : SumBr) (S : Sum) (R : Bm) : Bm where
  run := fun r c e h => match c with
    | .skip => .leaf (.normal, e, h)
    | .label _ => .leaf (.normal, e, h)
    | .ret => .leaf (.ret, e, h)
    | .exit id => .leaf (.exit id, e, h)
    | .goto l => .leaf (.goto l, e, h)
    | .region _ ops d => (bif d then drawnTB P R.call R.yld ops e h else seqB P R.call R.yld ops ops.toList e .leaf h).bind fun (e', h') => .leaf (.normal, e', h')
    | .seq a b => (R.run r a e h).bind fun x => match x with
      | (.normal, e', h') => R.run r b e' h'
      | x => .leaf x
    | .cond c x y => match opnd e c with
      | .v (.bool b) => R.run r (bif b then x else y) e h
      | .s (.bool b) => .test b (R.run r x e h) (R.run r y e h)
      | _ => .no
    | .block id c => (R.run r c e h).bind fun x => match x with
      | (.exit id', e', h') => bif Nat.beq id' id then .leaf (.normal, e', h') else .leaf (.exit id', e', h')
      | x => .leaf x
    | .loop c => (R.run r c e h).bind fun x => match x with
      | (.normal, e', h') => R.run r (.loop c) e' h'
      | x => .leaf x
    | .scope c => R.scp r c c e h
    | .rangeFunc g ps asg body => bif r then .no else
      match opnd e g with
      | .fn f cs => (R.call f (.yld h.nx :: cs) (h.new (.loop .ready e ps.toList asg body none))).bind fun (_, h2) => match h2.ob.get h.nx with
          | some (.loop .ready e' ps' asg' body' none) => .leaf (.normal, e, h2.set h.nx (.loop .exhausted e' ps' asg' body' none))
          | some (.loop .done e' ps' asg' body' (some x)) => .leaf (x, e, h2.set h.nx (.loop .exhausted e' ps' asg' body' (some x)))
          | _ => .no
      | _ => .no
    | _ => .no
  scp := fun r body c e h => (R.run r c e h).bind fun x => match x with
    | (.goto l, e', h') => match findLabel body l with
      | some rest => R.scp r body rest e' h'
      | none => .no
    | x => .leaf x
  call := fun f args h => match X f args h with
   | some B => B
   | none => match S f args h with
    | some r => .leaf r
    | none => match P.funcs[f]? with
      | some fn => match fn.body with
        | some c => (R.run false c (params args) { ob := h.ob, nx := h.nx, lg := [] }).bind fun x => match x with
          | (.normal, e, h') => ofO ((resA P h' e fn.results.toList).map fun l => (one l, leave h.nx h.lg (one l) h'))
          | (.ret, e, h') => ofO ((resA P h' e fn.results.toList).map fun l => (one l, leave h.nx h.lg (one l) h'))
          | _ => .no
        | none => .no
      | none => .no
  yld := fun n args h => match h.ob.get n with
    | some (.loop .ready e ps asg body none) => bif Nat.beq args.length ps.length && Nat.blt n h.nx then
        (R.run true asg (bindT ps args e) h).bind fun x => match x with
        | (.normal, e1, h1) => match h1.ob.get n with
          | some (.loop .ready e2 ps2 asg2 body2 none) => (R.run true body e1 (h1.set n (.loop .busy e2 ps2 asg2 body2 none))).bind fun (x, _, h2) => match h2.ob.get n with
              | some (.loop .busy e3 ps3 asg3 body3 none) => match x with
                | .normal => .leaf (true, h2.set n (.loop .ready e3 ps3 asg3 body3 none))
                | x => .leaf (false, h2.set n (.loop .done e3 ps3 asg3 body3 (some x)))
              | _ => .no
          | _ => .no
        | _ => .no
      else .no
    | _ => .no

def bmX (P : Program) (X : SumBr) (S : Sum) : Nat → Bm
  | 0 => ⟨fun _ _ _ _ => .no, fun _ _ _ _ _ => .no, fun _ _ _ => .no, fun _ _ _ => .no⟩
  | n + 1 => stepB P X S (bmX P X S n)
structure BmSim (R : Bm) (M : Sm) : Prop where
  run : ∀ r c e h x, (R.run r c e h).At x → M.run r c e h = some x
  scp : ∀ r b c e h x, (R.scp r b c e h).At x → M.scp r b c e h = some x
  call : CallSim R.call M.call
  yld : YlSim R.yld M.yld

theorem step_sim {X : SumBr} {S : Sum} {R : Bm} {M : Sm} (h : BmSim R M) : BmSim (stepB P X S R) (stepS P (orS (sumS X) S) M) := by
  refine ⟨fun r c e hp x hr => ?_, fun r b c e hp x hr => ?_, fun f args hp x hr => ?_, fun n args hp x hr => ?_⟩
  · cases c with
    | skip => cases hr; rfl
    | label l => cases hr; rfl
    | ret => cases hr; rfl
    | exit id => cases hr; rfl
    | goto l => cases hr; rfl
    | refuse _ => exact hr.elim
    | region id ops d =>
      obtain ⟨⟨e', h'⟩, k1, k2⟩ := Br.at_bind hr
      cases k2
      simp only [stepS]
      cases d with
      | true => simp only [cond_true] at k1 ⊢; rw [drawnTB_at h.call h.yld k1]; rfl
      | false => simp only [cond_false] at k1 ⊢; rw [seqB_at h.call h.yld (KnOk.leaf e) k1]; rfl
    | seq a b =>
      obtain ⟨⟨y, e', h'⟩, k1, k2⟩ := Br.at_bind hr
      simp only [stepS]
      rw [h.run _ _ _ _ _ k1]
      cases y with
      | normal => exact h.run _ _ _ _ _ k2
      | exit id => cases k2; rfl
      | goto l => cases k2; rfl
      | ret => cases k2; rfl
    | cond c a b =>
      simp only [stepB] at hr
      simp only [stepS]
      split at hr
      · rename_i b hb; rw [hb]; exact h.run _ _ _ _ _ hr
      · rename_i b hb
        rw [hb]
        rcases hr with ⟨rfl, hr⟩ | ⟨rfl, hr⟩
        · exact h.run _ _ _ _ _ hr
        · exact h.run _ _ _ _ _ hr
      · exact hr.elim
    | block id c =>
      obtain ⟨⟨y, e', h'⟩, k1, k2⟩ := Br.at_bind hr
      simp only [stepS]
      rw [h.run _ _ _ _ _ k1]
      cases y with
      | normal => cases k2; rfl
      | exit id' =>
        simp only [] at k2 ⊢
        cases hb : Nat.beq id' id with
        | true => rw [hb] at k2; cases k2; rfl
        | false => rw [hb] at k2; cases k2; rfl
      | goto l => cases k2; rfl
      | ret => cases k2; rfl
    | loop c =>
      obtain ⟨⟨y, e', h'⟩, k1, k2⟩ := Br.at_bind hr
      simp only [stepS]
      rw [h.run _ _ _ _ _ k1]
      cases y with
      | normal => exact h.run _ _ _ _ _ k2
      | exit id => cases k2; rfl
      | goto l => cases k2; rfl
      | ret => cases k2; rfl
    | scope c => exact h.scp _ _ _ _ _ _ hr
    | rangeFunc g ps asg body =>
      simp only [stepB] at hr
      simp only [stepS]
      cases r with
      | true => exact hr.elim
      | false =>
        simp only [cond_false] at hr ⊢
        split at hr
        · rename_i f cs hg
          rw [hg]
          simp only []
          obtain ⟨⟨v, h2⟩, k1, k2⟩ := Br.at_bind hr
          rw [h.call _ _ _ _ k1]
          simp only [] at k2 ⊢
          split at k2
          · rename_i ho; cases k2; rw [ho]
          · rename_i ho; cases k2; rw [ho]
          · exact k2.elim
        · exact hr.elim
  · obtain ⟨⟨y, e', h'⟩, k1, k2⟩ := Br.at_bind hr
    simp only [stepS]
    rw [h.run _ _ _ _ _ k1]
    cases y with
    | goto l =>
      simp only [] at k2 ⊢
      split at k2
      · rename_i hl; rw [hl]; exact h.scp _ _ _ _ _ _ k2
      · exact k2.elim
    | normal => cases k2; rfl
    | exit id => cases k2; rfl
    | ret => cases k2; rfl
  · simp only [stepB] at hr
    simp only [stepS]
    rcases hX : X f args hp with _ | B
    rotate_left
    · rw [hX] at hr
      simp only [] at hr
      have e : orS (sumS X) S f args hp = some x := by unfold orS sumS; rw [hX]; simp only []; rw [Br.ev_at hr]
      rw [e]
    rw [hX] at hr
    simp only [] at hr
    have e : orS (sumS X) S f args hp = S f args hp := by unfold orS sumS; rw [hX]
    rw [e]
    split at hr
    · rename_i r0 h0; rw [h0]; cases hr; rfl
    · rename_i h0
      rw [h0]
      simp only []
      split at hr
      · rename_i fn hfn
        rw [hfn]
        simp only []
        split at hr
        · rename_i c hb
          rw [hb]
          simp only []
          obtain ⟨⟨y, e', h'⟩, k1, k2⟩ := Br.at_bind hr
          rw [h.run _ _ _ _ _ k1]
          cases y with
          | normal => exact ofO_at k2
          | ret => exact ofO_at k2
          | exit id => exact k2.elim
          | goto l => exact k2.elim
        · exact hr.elim
      · exact hr.elim
  · simp only [stepB] at hr
    simp only [stepS]
    split at hr
    · rename_i e ps asg body ho
      rw [ho]
      simp only []
      cases hc : Nat.beq args.length ps.length && Nat.blt n hp.nx with
      | false => rw [hc] at hr; exact hr.elim
      | true =>
        rw [hc] at hr
        simp only [cond_true] at hr ⊢
        obtain ⟨⟨y, e1, h1⟩, k1, k2⟩ := Br.at_bind hr
        rw [h.run _ _ _ _ _ k1]
        cases y with
        | normal =>
          simp only [] at k2 ⊢
          split at k2
          · rename_i ho1
            rw [ho1]
            obtain ⟨⟨z, e4, h2⟩, k3, k4⟩ := Br.at_bind k2
            simp only []
            rw [h.run _ _ _ _ _ k3]
            simp only [] at k4 ⊢
            split at k4
            · rename_i ho2
              rw [ho2]
              cases z <;> (cases k4; rfl)
            · exact k4.elim
          · exact k2.elim
        | ret => exact k2.elim
        | exit id => exact k2.elim
        | goto l => exact k2.elim
    · exact hr.elim

theorem bm_sim {X : SumBr} {S : Sum} : ∀ n, BmSim (bmX P X S n) (sm P (orS (sumS X) S) n)
  | 0 => ⟨fun _ _ _ _ _ h => h.elim, fun _ _ _ _ _ _ h => h.elim, fun _ _ _ _ h => h.elim, fun _ _ _ _ h => h.elim⟩
  | n + 1 => step_sim (bm_sim n)

/-- The value of a tree. -/
def Br.val : Br (AV × Hp) → Value
  | .no => undef
  | .leaf (v, _) => (unP v).getD undef
  | .test b t e => bif b then t.val else e.val
  | .ob _ k => k.val
/-- A summary of values, known or not. -/
def plT (f : FuncId) (g : List Value → Option Value) : Sum := fun f' args h => bif Nat.beq f' f then (match unPs args with
  | some xs => (match g xs with
    | some v => some (.s v, h)
    | none => none)
  | none => none) else none
theorem plT_ok {f : FuncId} {g : List Value → Option Value} (he : entersB P f = true) (hc : ∀ xs v, g xs = some v → ∀ w, Calls P f xs.toArray w fun e w' => e = .returned v ∧ Fr noB w w') : SumG P (plT f g) := by
  have key : ∀ f' args h v h', plT f g f' args h = some (v, h') → f' = f ∧ h' = h ∧ ∃ xs u, unPs args = some xs ∧ g xs = some u ∧ v = .s u := by
    intro f' args h v h' hr
    unfold plT at hr
    rw [cond_eq_ite] at hr
    split at hr
    · rename_i hf
      split at hr
      · rename_i xs hxs
        split at hr
        · rename_i u hu; cases hr; exact ⟨Nat.eq_of_beq_eq_true hf, rfl, xs, u, hxs, hu, rfl⟩
        · cases hr
      · cases hr
    · cases hr
  refine ⟨@fun _ f' args h v h' hr => ?_, fun f' args h v h' hr => ?_⟩
  · obtain ⟨rfl, rfl, xs, u, hxs, hu, rfl⟩ := key _ _ _ _ _ hr
    refine ⟨enters_of he, fun ρ w ys hys hh => ?_⟩
    have e := unPs_rel hxs hys
    have : ys = xs.toArray := by rw [← e]
    rw [this]
    refine (hc xs u hu w).mono ?_
    rintro en w' ⟨rfl, hf⟩
    exact ⟨u, ρ, [], rfl, rfl, hh.fr hf, .ofFr hh.dm hf, rfl⟩
  · obtain ⟨_, rfl, _⟩ := key _ _ _ _ _ hr
    exact KL.refl _

end Ev
end Go.Proofs.Ytengccmjlaejfaa
end
section
namespace Go.Proofs.Ytengccmjlaejfaa
namespace Ev
open Go.RowKit
set_option linter.unusedSectionVars false
variable [Fz]
variable {P : Program}

/-- A state, and what has been done since a base: nx0 are the names there. -/
structure AtB (nx0 : Nat) (ρb : Rho) (wb : World) (ρ : Rho) (e : T AV) (h : Hp) (a : Act) (w : World) (n B : Nat) : Prop where
  s : At ρ e h a w n B
  st : Stepped ρb nx0 h.lg wb ρ h.nx w
/-- What code comes to, out of a round. -/
def RunB (P : Program) (nx0 : Nat) (c : Code) (e : T AV) (h : Hp) (K : Ex → T AV → Hp → Prop) : Prop :=
  ∀ n, okCode n c = true → ∀ B ρb wb ρ a w Q, AtB nx0 ρb wb ρ e h a w n B → (∀ x e' h', K x e' h' → ∀ ρ' a' w', AtB nx0 ρb wb ρ' e' h' a' w' n B → Q (exOf x) a' w') → ∀ m, c.wpIn (FR none) m P Q a w
theorem RunB.mono {nx0 : Nat} {c : Code} {e : T AV} {h : Hp} {K K' : Ex → T AV → Hp → Prop} (hr : RunB P nx0 c e h K) (hk : ∀ x e' h', K x e' h' → K' x e' h') : RunB P nx0 c e h K' :=
  fun n hok B ρb wb ρ a w Q hA hQ m => hr n hok B ρb wb ρ a w Q hA (fun x e' h' k => hQ x e' h' (hk x e' h' k)) m
theorem run_bm {nx0 : Nat} {X : SumBr} {S : Sum} (G : Good P (orS (sumS X) S)) {N : Nat} {c : Code} {e : T AV} {h : Hp} {K : Ex → T AV → Hp → Prop} (hb : ((bmX P X S N).run false c e h).Holds fun x => K x.1 x.2.1 x.2.2) : RunB P nx0 c e h K := by
  obtain ⟨⟨x, e', h'⟩, hat, hk⟩ := hb.out
  have hsm := (bm_sim N).run _ _ _ _ _ hat
  intro n hok B ρb wb ρ a w Q hA hQ m
  refine (sm_ok G.mix G.ok G.sum G.kl N).1 false c e h x e' h' hsm n hok B ρ a w Q hA.s (fun ρ' a' w' L h1 h2 h3 h4 h5 h6 => hQ x e' h' hk ρ' a' w' ⟨⟨h1, h2, h5, h6, Nat.le_trans hA.s.b h3.size⟩, ?_⟩) none m (fun h => by cases h)
  rw [h4]; exact hA.st.trans h3
theorem RunB.seq {nx0 : Nat} {a b : Code} {e : T AV} {h : Hp} {K1 K : Ex → T AV → Hp → Prop} (ha : RunB P nx0 a e h K1) (hb : ∀ e1 h1, K1 .normal e1 h1 → RunB P nx0 b e1 h1 K) (hx : ∀ x e1 h1, x ≠ .normal → K1 x e1 h1 → K x e1 h1) : RunB P nx0 (.seq a b) e h K := by
  intro n hok B ρb wb ρ ac w Q hA hQ m
  simp only [okCode, Bool.and_eq_true] at hok
  refine wpIn_seq (ha n hok.1 B ρb wb ρ ac w _ hA (fun x e1 h1 k1 => ?_) m)
  cases x with
  | normal => exact fun ρ1 a1 w1 hat1 => hb e1 h1 k1 n hok.2 B ρb wb ρ1 a1 w1 Q hat1 hQ m
  | exit id => exact hQ _ e1 h1 (hx _ _ _ (by simp) k1)
  | goto l => exact hQ _ e1 h1 (hx _ _ _ (by simp) k1)
  | ret => exact hQ _ e1 h1 (hx _ _ _ (by simp) k1)
theorem RunB.cond {nx0 : Nat} {o : Operand} {c1 c2 : Code} {e : T AV} {h : Hp} {K : Ex → T AV → Hp → Prop} {b : Bool} (ho : opnd e o = .s (.bool b)) (hr : RunB P nx0 (bif b then c1 else c2) e h K) : RunB P nx0 (.cond o c1 c2) e h K := by
  intro n hok B ρb wb ρ a w Q hA hQ m
  simp only [okCode, Bool.and_eq_true] at hok
  have hv := opnd_rel hA.s.e o
  rw [ho] at hv
  refine wpIn_cond (t := b) hv ?_
  cases b with
  | true => exact hr n hok.1 B ρb wb ρ a w Q hA hQ m
  | false => exact hr n hok.2 B ρb wb ρ a w Q hA hQ m
theorem RunB.skip {nx0 : Nat} {e : T AV} {h : Hp} {K : Ex → T AV → Hp → Prop} (hk : K .normal e h) : RunB P nx0 .skip e h K := by
  intro n hok B ρb wb ρ a w Q hA hQ m
  exact wpIn_skip (hQ .normal e h hk ρ a w hA)
def unblock (id : Nat) : Ex → Ex
  | .exit id' => if id' = id then .normal else .exit id'
  | x => x
theorem RunB.block {nx0 : Nat} {id : Nat} {c : Code} {e : T AV} {h : Hp} {K1 K : Ex → T AV → Hp → Prop} (hc : RunB P nx0 c e h K1) (hx : ∀ x e1 h1, K1 x e1 h1 → K (unblock id x) e1 h1) : RunB P nx0 (.block id c) e h K := by
  intro n hok B ρb wb ρ ac w Q hA hQ m
  refine wpIn_block (hc n hok B ρb wb ρ ac w _ hA (fun x e1 h1 k1 => ?_) m)
  have := hQ _ e1 h1 (hx _ _ _ k1)
  cases x with
  | normal => exact this
  | exit id' =>
    intro ρ1 a1 w1 hA1
    have := this ρ1 a1 w1 hA1
    show (if id' = id then Q .normal a1 w1 else Q (.exit id') a1 w1)
    by_cases c : id' = id
    · have e : unblock id (.exit id') = .normal := if_pos c
      rw [e] at this; rw [if_pos c]; exact this
    · have e : unblock id (.exit id') = .exit id' := if_neg c
      rw [e] at this; rw [if_neg c]; exact this
  | goto l => exact this
  | ret => exact this

/- Temporaries: those that are kept, and those of which nothing is known. -/
def mkJ (kept : List (Nat × AV)) (jk : List Nat) (j : Nat → Value) : T AV := kept.foldr (fun x t => T.put (x.1 + 2) t x.1 (some x.2)) (jk.foldr (fun k t => T.put (k + 2) t k (some (.s (j k)))) .leaf)
def T.chk {α : Type} (p : Nat → Bool) : T α → Nat → Nat → Bool
  | .leaf, _, _ => true
  | .node x l r, m, a => (match x with | some _ => p a | none => true) && T.chk p l (2 * m) (m + a) && T.chk p r (2 * m) (2 * m + a)
theorem T.chk_ok {α : Type} {p : Nat → Bool} : ∀ {t : T α} {m a k : Nat} {x : α}, T.chk p t m a = true → t.get k = some x → p (m * k + a) = true
  | .leaf, _, _, _, _, _, h => by cases h
  | .node y l r, m, a, k, x, hc, h => by
    simp only [T.chk, Bool.and_eq_true] at hc
    simp only [T.get] at h
    cases h0 : Nat.beq k 0 with
    | true =>
      have : k = 0 := Nat.eq_of_beq_eq_true h0
      subst this
      rw [h0] at h; simp only [cond_true] at h; subst h
      simpa using hc.1.1
    | false =>
      have hk : k ≠ 0 := fun c => by subst c; simp at h0
      rw [h0] at h
      simp only [cond_false] at h
      cases h1 : Nat.beq (k % 2) 1 with
      | true =>
        rw [h1] at h; simp only [cond_true] at h
        have hm : k % 2 = 1 := Nat.eq_of_beq_eq_true h1
        have := T.chk_ok hc.1.2 h
        have e : 2 * m * (k / 2) + (m + a) = m * k + a := by
          obtain ⟨q, hq⟩ : ∃ q, q = k / 2 := ⟨_, rfl⟩
          have hkq : k = 2 * q + 1 := by omega
          rw [← hq, hkq, Nat.mul_add, Nat.mul_comm 2 m, Nat.mul_assoc, Nat.mul_one]; omega
        rw [e] at this
        exact this
      | false =>
        rw [h1] at h; simp only [cond_false] at h
        have hm : k % 2 = 0 := by
          have : k % 2 ≠ 1 := fun c => by rw [c] at h1; simp at h1
          omega
        have := T.chk_ok hc.2 h
        have e : 2 * m * (k / 2 - 1) + (2 * m + a) = m * k + a := by
          obtain ⟨q, hq⟩ : ∃ q, q = k / 2 - 1 := ⟨_, rfl⟩
          have hkq : k = 2 * q + 2 := by omega
          rw [← hq, hkq, Nat.mul_add, Nat.mul_comm 2 m, Nat.mul_assoc]; omega
        rw [e] at this
        exact this
theorem get_mkJ {kept : List (Nat × AV)} {jk : List Nat} {j : Nat → Value} (t : Nat) :
    (∃ x ∈ kept, x.1 = t ∧ (mkJ kept jk j).get t = some x.2) ∨ ((∀ x ∈ kept, x.1 ≠ t) ∧ ((t ∈ jk ∧ (mkJ kept jk j).get t = some (.s (j t))) ∨ (t ∉ jk ∧ (mkJ kept jk j).get t = none))) := by
  have base : ∀ (l : List Nat), (t ∈ l ∧ (l.foldr (fun k t => T.put (k + 2) t k (some (.s (j k)))) (.leaf : T AV)).get t = some (.s (j t))) ∨ (t ∉ l ∧ (l.foldr (fun k t => T.put (k + 2) t k (some (.s (j k)))) (.leaf : T AV)).get t = none) := by
    intro l
    induction l with
    | nil => exact .inr ⟨by simp, rfl⟩
    | cons k l ih =>
      simp only [List.foldr_cons]
      rw [T.get_put']
      by_cases c : t = k
      · subst c; rw [if_pos rfl]; exact .inl ⟨by simp, rfl⟩
      · rw [if_neg c]
        rcases ih with ⟨h1, h2⟩ | ⟨h1, h2⟩
        · exact .inl ⟨by simp [h1], h2⟩
        · exact .inr ⟨by simp [c, h1], h2⟩
  unfold mkJ
  induction kept with
  | nil => exact .inr ⟨by simp, base jk⟩
  | cons y l ih =>
    simp only [List.foldr_cons]
    rw [T.get_put']
    by_cases c : t = y.1
    · rw [if_pos c]; exact .inl ⟨y, by simp, c.symm, rfl⟩
    · rw [if_neg c]
      rcases ih with ⟨x, h1, h2, h3⟩ | ⟨h1, h2⟩
      · exact .inl ⟨x, by simp [h1], h2, h3⟩
      · refine .inr ⟨fun x hx => ?_, h2⟩
        rcases List.mem_cons.1 hx with rfl | hx
        · exact fun e => c e.symm
        · exact h1 x hx

/- New names. -/
mutual
def AV.ren (r : Nat → Option Nat) : AV → Option AV
  | .v x => some (.v x)
  | .ptr n i c => (r n).map fun m => .ptr m i c
  | .sl n off len cap => (r n).map fun m => .sl m off len cap
  | .none0 z => some (.none0 z)
  | .mp n => (r n).map .mp
  | .fn f cs => (renL r cs).map (.fn f)
  | .agg cs => (renL r cs).map .agg
  | .tup cs => (renL r cs).map .tup
  | .yld n => (r n).map .yld
  | .s x => some (.s x)
  | .osl n len => match r n with
    | some m => some (.osl m len)
    | none => some .xs
  | .fz f len ks => some (.fz f len ks)
  | .fzp f len ks i c => some (.fzp f len ks i c)
  | .z0 => some .z0
  | .xs => some .xs
def renL (r : Nat → Option Nat) : List AV → Option (List AV)
  | [] => some []
  | x :: xs => match x.ren r, renL r xs with
    | some y, some ys => some (y :: ys)
    | _, _ => none
end
def RenOk (r : Nat → Option Nat) (ρ ρ' : Rho) : Prop := ∀ n m p, r n = some m → ρ n = some p → ρ' m = some p
mutual
theorem ren_rel {r : Nat → Option Nat} {ρ ρ' : Rho} (h : RenOk r ρ ρ') : ∀ (x x' : AV) (y : Value), x.ren r = some x' → VRel ρ x y → VRel ρ' x' y
  | .v _, _, _, e, hr => by simp only [AV.ren] at e; cases e; exact hr
  | .s _, _, _, e, hr => by simp only [AV.ren] at e; cases e; exact hr
  | .none0 _, _, _, e, hr => by simp only [AV.ren] at e; cases e; exact hr
  | .fz _ _ _, _, _, e, hr => by simp only [AV.ren] at e; cases e; exact hr
  | .fzp _ _ _ _ _, _, _, e, hr => by simp only [AV.ren] at e; cases e; exact hr
  | .z0, _, _, e, hr => by simp only [AV.ren] at e; cases e; exact hr
  | .xs, _, _, e, hr => by simp only [AV.ren] at e; cases e; exact hr
  | .ptr n i c, _, _, e, ⟨p, hp, k⟩ => by
    simp only [AV.ren, Option.map_eq_some_iff] at e
    obtain ⟨m, hm, rfl⟩ := e
    exact ⟨p, h _ _ _ hm hp, k⟩
  | .sl n off len cap, _, _, e, ⟨p, q, hp, k⟩ => by
    simp only [AV.ren, Option.map_eq_some_iff] at e
    obtain ⟨m, hm, rfl⟩ := e
    exact ⟨p, q, h _ _ _ hm hp, k⟩
  | .mp n, _, _, e, ⟨p, hp, k⟩ => by
    simp only [AV.ren, Option.map_eq_some_iff] at e
    obtain ⟨m, hm, rfl⟩ := e
    exact ⟨p, h _ _ _ hm hp, k⟩
  | .yld n, _, _, e, ⟨p, hp, k⟩ => by
    simp only [AV.ren, Option.map_eq_some_iff] at e
    obtain ⟨m, hm, rfl⟩ := e
    exact ⟨p, h _ _ _ hm hp, k⟩
  | .osl n len, _, _, e, hr => by
    simp only [AV.ren] at e
    cases hm : r n with
    | none =>
      rw [hm] at e
      cases e
      rcases hr with ⟨_, ⟨_, a, rfl⟩ | ⟨p, q, _, rfl, _⟩⟩ <;> exact ⟨_, _, _, rfl⟩
    | some m =>
    rw [hm] at e
    cases e
    exact ⟨hr.1, hr.2.imp id fun ⟨p, q, hp, k⟩ => ⟨p, q, h _ _ _ hm hp, k⟩⟩
  | .fn f cs, _, _, e, ⟨ys, k, hr⟩ => by
    simp only [AV.ren, Option.map_eq_some_iff] at e
    obtain ⟨cs', hm, rfl⟩ := e
    exact ⟨ys, k, renL_rel h cs cs' _ hm hr⟩
  | .agg cs, _, _, e, ⟨ys, k, hr⟩ => by
    simp only [AV.ren, Option.map_eq_some_iff] at e
    obtain ⟨cs', hm, rfl⟩ := e
    exact ⟨ys, k, renL_rel h cs cs' _ hm hr⟩
  | .tup cs, _, _, e, ⟨ys, k, hr⟩ => by
    simp only [AV.ren, Option.map_eq_some_iff] at e
    obtain ⟨cs', hm, rfl⟩ := e
    exact ⟨ys, k, renL_rel h cs cs' _ hm hr⟩
theorem renL_rel {r : Nat → Option Nat} {ρ ρ' : Rho} (h : RenOk r ρ ρ') : ∀ (xs xs' : List AV) (ys : List Value), renL r xs = some xs' → VRels ρ xs ys → VRels ρ' xs' ys
  | [], _, _, e, hr => by simp only [renL] at e; cases e; exact hr
  | x :: xs, _, _, e, ⟨y, s, e1, hx, hs⟩ => by
    simp only [renL] at e
    split at e
    · rename_i a b ha hb
      cases e
      exact ⟨y, s, e1, ren_rel h x a y ha hx, renL_rel h xs b s hb hs⟩
    · cases e
end

omit [Fz] in
/-- The same, within. -/
inductive DEq : D → D → Prop
  | refl (d : D) : DEq d d
  | l (f g : Nat → Nat → D) (len : Nat) (ks : List TK) (h : ∀ i c, i < len → c < ks.length → DEq (f i c) (g i c)) : DEq (.l f len ks) (.l g len ks)
omit [Fz] in
theorem DEq.fit {d e : D} (h : DEq d e) (tk : TK) : tk.fit d = tk.fit e := by
  cases h with
  | refl => rfl
  | l => cases tk <;> rfl
theorem DEq.rel {d e : D} (h : DEq d e) : ∀ y, FzRel d y → FzRel e y := by
  induction h with
  | refl d => exact fun _ h => h
  | l f g len ks hq ih =>
    intro y h
    unfold FzRel at h ⊢
    rcases h with h | ⟨b, o, k, C, e, fr, h1, h2, h3, h4, h5⟩
    · exact .inl h
    · refine .inr ⟨b, o, k, C, e, fr, h1, h2, h3, h4, fun i c hi hc => ?_⟩
      obtain ⟨⟨tk, g1, g2⟩, z, g3, g4⟩ := h5 i c hi hc
      exact ⟨⟨tk, g1, by rw [← (hq i c hi hc).fit tk]; exact g2⟩, z, g3, ih i c hi hc z g4⟩
theorem vrels_v {ρ : Rho} : ∀ (l : List Value), VRels ρ (l.map .v) l
  | [] => rfl
  | x :: l => ⟨x, l, rfl, rfl, vrels_v l⟩
theorem vrels_s {ρ : Rho} : ∀ (l : List Value), VRels ρ (l.map .s) l
  | [] => rfl
  | x :: l => ⟨x, l, rfl, rfl, vrels_s l⟩
/- Less is known. -/
mutual
inductive Le : AV → AV → Prop
  | refl (x : AV) : Le x x
  | vs (z : Value) : Le (.v z) (.s z)
  | nilv (n : Nat) : Le (.v (.slice none 0 0)) (.osl n 0)
  | nilz (n : Nat) : Le .z0 (.osl n 0)
  | xsv (a : Option Addr) (l c : Nat) : Le (.v (.slice a l c)) .xs
  | xso (n len : Nat) : Le (.osl n len) .xs
  | xsf (f : Nat → Nat → D) (len : Nat) (ks : List TK) : Le (.fz f len ks) .xs
  | none0 (n : Nat) : Le (.none0 true) (.osl n 0)
  | sl0 (n len : Nat) (cap : Option Nat) : Le (.sl n 0 len cap) (.osl n len)
  | nilf (f : Nat → Nat → D) (ks : List TK) : Le (.v (.slice none 0 0)) (.fz f 0 ks)
  | fz (f f' : Nat → Nat → D) (len : Nat) (ks : List TK) (h : ∀ i c, i < len → c < ks.length → f' i c = f i c) : Le (.fz f len ks) (.fz f' len ks)
  | fzq (f f' : Nat → Nat → D) (len : Nat) (ks : List TK) (h : ∀ i c, i < len → c < ks.length → DEq (f i c) (f' i c)) : Le (.fz f len ks) (.fz f' len ks)
  | agg (xs ys : List AV) (h : Les xs ys) : Le (.agg xs) (.agg ys)
  | tup (xs ys : List AV) (h : Les xs ys) : Le (.tup xs) (.tup ys)
  | vagg (a : Array Value) (ys : List AV) (h : Les (a.toList.map .v) ys) : Le (.v (.agg a)) (.agg ys)
  | sagg (a : Array Value) (ys : List AV) (h : Les (a.toList.map .s) ys) : Le (.s (.agg a)) (.agg ys)
  | vtup (a : Array Value) (ys : List AV) (h : Les (a.toList.map .v) ys) : Le (.v (.tuple a)) (.tup ys)
inductive Les : List AV → List AV → Prop
  | nil : Les [] []
  | cons (x y : AV) (xs ys : List AV) (h : Le x y) (k : Les xs ys) : Les (x :: xs) (y :: ys)
end
mutual
theorem Le.rel (hgc : Fz.gc = false) {ρ : Rho} : ∀ {x y : AV} {v : Value}, Le x y → VRel ρ x v → VRel ρ y v
  | _, _, _, .refl x, h => h
  | _, _, _, .vs z, h => h
  | _, _, _, .nilv n, h => by cases h; exact ⟨hgc, .inl ⟨rfl, none, rfl⟩⟩
  | _, _, _, .nilz n, h => by obtain ⟨a, rfl⟩ := h; exact ⟨hgc, .inl ⟨rfl, a, rfl⟩⟩
  | _, _, _, .none0 n, h => by obtain ⟨a, k, rfl, hk⟩ := h; have := hk rfl; subst this; exact ⟨hgc, .inl ⟨rfl, some a, rfl⟩⟩
  | _, _, _, .sl0 n len cap, h => by
    obtain ⟨p, k, hp, e, hk, hs, _⟩ := h
    exact ⟨hgc, .inr ⟨p, k, hp, by simpa using e, hk, by simpa using hs⟩⟩
  | _, _, _, .nilf f ks, h => by cases h; refine ⟨hgc, ?_⟩; unfold FzRel; exact .inl ⟨rfl, none, 0, rfl, fun _ => rfl⟩
  | _, _, _, .fz f f' len ks hf, h => by
    refine ⟨hgc, ?_⟩
    have h := h.2
    unfold FzRel at h ⊢
    rcases h with h | ⟨b, o, k, C, e, fr, h1, h2, h3, h4, h5⟩
    · exact .inl h
    · exact .inr ⟨b, o, k, C, e, fr, h1, h2, h3, h4, fun i c hi hc => by rw [hf i c hi hc]; exact h5 i c hi hc⟩
  | _, _, _, .fzq f f' len ks hf, h => ⟨hgc, (DEq.l f f' len ks hf).rel _ h.2⟩
  | _, _, _, .xsv a l c, h => by cases h; exact ⟨_, _, _, rfl⟩
  | _, _, _, .xso n len, h => by rcases h with ⟨_, ⟨_, a, rfl⟩ | ⟨p, q, _, rfl, _⟩⟩ <;> exact ⟨_, _, _, rfl⟩
  | _, _, _, .xsf f len ks, h => by
    have h := h.2
    unfold FzRel at h
    rcases h with ⟨_, a, k, rfl, _⟩ | ⟨b, o, k, C, e, fr, rfl, _⟩ <;> exact ⟨_, _, _, rfl⟩
  | _, _, _, .agg xs ys k, h => by obtain ⟨zs, e, hr⟩ := h; exact ⟨zs, e, Les.rel hgc k hr⟩
  | _, _, _, .tup xs ys k, h => by obtain ⟨zs, e, hr⟩ := h; exact ⟨zs, e, Les.rel hgc k hr⟩
  | _, _, _, .vagg a ys k, h => by cases h; exact ⟨a, rfl, Les.rel hgc k (vrels_v _)⟩
  | _, _, _, .sagg a ys k, h => by cases h; exact ⟨a, rfl, Les.rel hgc k (vrels_s _)⟩
  | _, _, _, .vtup a ys k, h => by cases h; exact ⟨a, rfl, Les.rel hgc k (vrels_v _)⟩
theorem Les.rel (hgc : Fz.gc = false) {ρ : Rho} : ∀ {xs ys : List AV} {vs : List Value}, Les xs ys → VRels ρ xs vs → VRels ρ ys vs
  | _, _, _, .nil, h => h
  | _, _, _, .cons x y xs ys hx hk, ⟨v, r, e, h1, h2⟩ => ⟨v, r, e, hx.rel hgc h1, hk.rel hgc h2⟩
end
omit [Fz] in
theorem Les.length : ∀ {xs ys : List AV}, Les xs ys → xs.length = ys.length
  | _, _, .nil => rfl
  | _, _, .cons x y xs ys hx hk => by simp [hk.length]
omit [Fz] in
theorem Les.get : ∀ {xs ys : List AV}, Les xs ys → ∀ {i : Nat} {y : AV}, ys[i]? = some y → ∃ x, xs[i]? = some x ∧ Le x y
  | _, _, .nil, _, _, h => by simp at h
  | _, _, .cons x y xs ys hx hk, i, z, h => by
    cases i with
    | zero => simp at h; subst h; exact ⟨x, rfl, hx⟩
    | succ i => simp at h ⊢; exact hk.get h
omit [Fz] in
theorem Les.refl : ∀ (xs : List AV), Les xs xs
  | [] => .nil
  | x :: xs => .cons x x xs xs (.refl x) (Les.refl xs)

def findN (n : Nat) : List Nat → Nat → Option Nat
  | [], _ => none
  | x :: r, i => bif Nat.beq x n then some i else findN n r (i + 1)
omit [Fz] in
theorem findN_some {n : Nat} : ∀ {l : List Nat} {i j : Nat}, findN n l i = some j → i ≤ j ∧ l[j - i]? = some n
  | [], _, _, h => by cases h
  | x :: r, i, j, h => by
    simp only [findN] at h
    cases hb : Nat.beq x n with
    | true => rw [hb] at h; cases h; exact ⟨Nat.le_refl _, by rw [Nat.sub_self, ← Nat.eq_of_beq_eq_true hb]; rfl⟩
    | false =>
      rw [hb] at h
      obtain ⟨h1, h2⟩ := findN_some h
      refine ⟨by omega, ?_⟩
      rw [show j - i = (j - (i + 1)) + 1 by omega, List.getElem?_cons_succ]; exact h2
/-- The name at a head of what is called n. -/
def rnOf (nx0 : Nat) (ns : List Nat) (n : Nat) : Option Nat := match findN n ns nx0 with
  | some m => some m
  | none => bif Nat.blt n nx0 then some n else none
def renR (ρ : Rho) (ns : List Nat) (nx0 : Nat) : Rho := fun n => if n < nx0 then ρ n else match ns[n - nx0]? with
  | some k => ρ k
  | none => none
theorem renOk (ρ : Rho) (ns : List Nat) (nx0 : Nat) : RenOk (rnOf nx0 ns) ρ (renR ρ ns nx0) := by
  intro n m p hn hp
  unfold rnOf at hn
  unfold renR
  split at hn
  · rename_i k hk
    cases hn
    obtain ⟨h1, h2⟩ := findN_some hk
    rw [if_neg (by omega), h2]; exact hp
  · cases hb : Nat.blt n nx0 with
    | true => rw [hb] at hn; cases hn; simp at hb; rw [if_pos hb]; exact hp
    | false => rw [hb] at hn; cases hn
theorem renR_some {ρ : Rho} {ns : List Nat} {nx0 n : Nat} {p : Pl} (h : renR ρ ns nx0 n = some p) : ∃ k, ρ k = some p ∧ ((n < nx0 ∧ k = n) ∨ (nx0 ≤ n ∧ n < nx0 + ns.length ∧ ns[n - nx0]? = some k)) := by
  unfold renR at h
  by_cases c : n < nx0
  · rw [if_pos c] at h; exact ⟨n, h, .inl ⟨c, rfl⟩⟩
  · rw [if_neg c] at h
    cases hk : ns[n - nx0]? with
    | none => rw [hk] at h; cases h
    | some k =>
      rw [hk] at h
      have := (List.getElem?_eq_some_iff.1 hk).1
      exact ⟨k, h, .inr ⟨by omega, by omega, rfl⟩⟩

omit [Fz] in
/-- What is seen of an object: nothing that can be said, none (a new name), or it. -/
inductive OS where
  | bad
  | nil
  | o (x : AO)
def AO.ren (r : Nat → Option Nat) : AO → OS
  | .cells cs sz fam tip false => match renL r cs with
    | some cs' => .o (.cells cs' sz fam tip false)
    | none => .bad
  | .rows f len ks => .o (.rows f len ks)
  | _ => .bad
def osAt (h : Hp) (r : Nat → Option Nat) (n : Nat) : OS := bif Nat.blt n h.nx then (match h.ob.get n with
  | some o => o.ren r
  | none => .bad) else .nil
omit [Fz] in
/-- An object as it is to be. -/
inductive OLe : OS → AO → Prop
  | nil (f : Nat → Nat → D) (ks : List TK) : OLe .nil (.rows f 0 ks)
  | rows (f f' : Nat → Nat → D) (len : Nat) (ks : List TK) (h : ∀ i c, i < len → c < ks.length → f' i c = f i c) : OLe (.o (.rows f len ks)) (.rows f' len ks)
  | rowsF (f f' : Nat → Nat → D) (len : Nat) (ks : List TK) (h : (∀ i c, i < len → c < ks.length → ∃ tk, ks[c]? = some tk ∧ tk.fit (f i c) = true) → ∀ i c, i < len → c < ks.length → f' i c = f i c) : OLe (.o (.rows f len ks)) (.rows f' len ks)
  | row (cs : List AV) (ds : List D) (fam : Nat) (tip : Bool) (f' : Nat → Nat → D) (len : Nat) (ks : List TK) (h1 : avDs cs = some ds) (h2 : fitsRows ks len ds = true) (h3 : len ≤ 9223372036854775807) (h4 : ∀ i c, i < len → c < ks.length → f' i c = listD ds ks.length i c) : OLe (.o (.cells cs ks.length fam tip false)) (.rows f' len ks)
  | cells (cs cs' : List AV) (sz fam fam' : Nat) (tip tip' : Bool) (h : Les cs cs') : OLe (.o (.cells cs sz fam tip false)) (.cells cs' sz fam' tip' false)
omit [Fz] in
inductive OLes : List OS → List AO → Prop
  | nil : OLes [] []
  | cons (x : OS) (y : AO) (xs : List OS) (ys : List AO) (h : OLe x y) (k : OLes xs ys) : OLes (x :: xs) (y :: ys)
omit [Fz] in
theorem OLes.length : ∀ {xs : List OS} {ys : List AO}, OLes xs ys → xs.length = ys.length
  | _, _, .nil => rfl
  | _, _, .cons x y xs ys hx hk => by simp [hk.length]
omit [Fz] in
theorem OLes.get : ∀ {xs : List OS} {ys : List AO}, OLes xs ys → ∀ {i : Nat} {y : AO}, ys[i]? = some y → ∃ x, xs[i]? = some x ∧ OLe x y
  | _, _, .nil, _, _, h => by simp at h
  | _, _, .cons x y xs ys hx hk, i, z, h => by
    cases i with
    | zero => simp at h; subst h; exact ⟨x, rfl, hx⟩
    | succ i => simp at h ⊢; exact hk.get h

def putO : Nat → List AO → T AO
  | _, [] => .leaf
  | n, o :: r => T.put (n + 2) (putO (n + 1) r) n (some o)
omit [Fz] in
theorem get_putO : ∀ (os : List AO) (a n : Nat), (putO a os).get n = if n < a then none else os[n - a]?
  | [], a, n => by simp [putO, T.get]
  | o :: r, a, n => by
    unfold putO
    rw [T.get_put', get_putO r]
    by_cases c : n = a
    · subst c; rw [if_pos rfl, if_neg (Nat.lt_irrefl _), Nat.sub_self]; rfl
    · rw [if_neg c]
      by_cases c2 : n < a
      · rw [if_pos c2, if_pos (by omega)]
      · rw [if_neg c2, if_neg (by omega), show n - a = (n - (a + 1)) + 1 by omega, List.getElem?_cons_succ]
/-- A heap of such objects alone. -/
def mkH (nx0 : Nat) (os : List AO) : Hp := ⟨putO nx0 os, nx0 + os.length, []⟩

def nodupB : List Nat → Bool
  | [] => true
  | x :: r => !(r.any (fun y => Nat.beq x y)) && nodupB r
omit [Fz] in
theorem nodupB_ok : ∀ {l : List Nat}, nodupB l = true → ∀ (i j k : Nat), l[i]? = some k → l[j]? = some k → i = j
  | [], _, i, j, k, h, _ => by simp at h
  | x :: r, hn, i, j, k, hi, hj => by
    simp only [nodupB, Bool.and_eq_true, Bool.not_eq_true'] at hn
    have hx : ∀ j, r[j]? ≠ some x := fun j h => by
      have := List.any_eq_false.1 hn.1 x (List.mem_of_getElem? h)
      simp at this
    cases i with
    | zero =>
      simp at hi; subst hi
      cases j with
      | zero => rfl
      | succ j => simp at hj; exact absurd hj (hx j)
    | succ i =>
      cases j with
      | zero => simp at hj; subst hj; simp at hi; exact absurd hi (hx i)
      | succ j => simp at hi hj; rw [nodupB_ok hn.2 i j k hi hj]

/-- **A heap by other names**: those of nx0 on are given anew; what is not named is forgotten. -/
theorem HR.ren {ρ : Rho} {h : Hp} {w : World} (hh : HR ρ h w) (hgc : Fz.gc = false) {nx0 : Nat} (hop : openB ≤ nx0) {ns : List Nat} {os : List AO} (hnd : nodupB ns = true) (ho : OLes (ns.map (osAt h (rnOf nx0 ns))) os) : HR (renR ρ ns nx0) (mkH nx0 os) w := by
  have hlen : ns.length = os.length := by simpa using ho.length
  have obj : ∀ n o, (mkH nx0 os).ob.get n = some o → nx0 ≤ n ∧ ∃ k, ns[n - nx0]? = some k ∧ OLe (osAt h (rnOf nx0 ns) k) o := fun n o e => by
    unfold mkH at e
    rw [get_putO] at e
    split at e
    · cases e
    · rename_i c
      obtain ⟨x, h1, h2⟩ := ho.get e
      rw [List.getElem?_map, Option.map_eq_some_iff] at h1
      obtain ⟨k, hk, rfl⟩ := h1
      exact ⟨by omega, k, hk, h2⟩
  have rval : ∀ n k, nx0 ≤ n → ns[n - nx0]? = some k → renR ρ ns nx0 n = ρ k := fun n k hn hk => by
    unfold renR
    rw [if_neg (by omega), hk]
  -- whoever has a place is not shared
  have apart : ∀ n o p k, (mkH nx0 os).ob.get n = some o → renR ρ ns nx0 n = some p → ns[n - nx0]? = some k → ∃ o1, h.ob.get k = some o1 ∧ o1.sh = false := fun n o p k e1 e2 e3 => by
    obtain ⟨hn, k', hk', hle⟩ := obj n o e1
    rw [e3] at hk'; cases hk'
    rw [rval n k hn e3] at e2
    have hlt := hh.dm _ _ e2
    unfold osAt at hle
    rw [show Nat.blt k h.nx = true by simpa using hlt] at hle
    cases hg : h.ob.get k with
    | none => rw [hg] at hle; cases hle
    | some o1 =>
      rw [hg] at hle
      refine ⟨o1, rfl, ?_⟩
      cases o1 with
      | cells cs sz fam tip sh =>
        cases sh with
        | false => rfl
        | true => cases hle
      | map => rfl
      | loop => rfl
      | rows => rfl
  have noshare : ∀ n m p q o o', n ≠ m → renR ρ ns nx0 n = some p → renR ρ ns nx0 m = some q → p.b = q.b → (mkH nx0 os).ob.get n = some o → (mkH nx0 os).ob.get m = some o' → False := fun n m p q o o' hnm e1 e2 hb e3 e4 => by
    obtain ⟨hn, k, hk, _⟩ := obj n o e3
    obtain ⟨hm, l, hl, _⟩ := obj m o' e4
    obtain ⟨o1, g1, s1⟩ := apart n o p k e3 e1 hk
    obtain ⟨o2, g2, s2⟩ := apart m o' q l e4 e2 hl
    rw [rval n k hn hk] at e1
    rw [rval m l hm hl] at e2
    have hkl : k ≠ l := fun c => by
      subst c
      have := nodupB_ok hnd _ _ _ hk hl
      omega
    have := (hh.sep k l p q o1 o2 hkl e1 e2 hb g1 g2).2.1
    rw [s1] at this; cases this
  refine ⟨fun n p e => ?_, fun n o e hn => ?_, fun n m p q o o' hnm e1 e2 hb e3 e4 => ?_, fun n m p q o o' e1 e2 hb e3 e4 ht => ?_, fun n m p q o o' hnm e1 e2 hb e3 e4 ht => ?_, hh.fz, fun n p e => ?_, fun _ => Nat.le_trans hop (Nat.le_add_right _ _)⟩
  · obtain ⟨k, h1, h2⟩ := renR_some e
    refine ⟨?_, (hh.dom _ _ h1).2⟩
    show n < nx0 + os.length
    omega
  · obtain ⟨hge, k, hk, hle⟩ := obj n o e
    rw [rval n k hge hk]
    unfold osAt at hle
    cases hb : Nat.blt k h.nx with
    | false =>
      rw [hb] at hle
      cases hle
      refine .inr ⟨?_, rfl⟩
      cases hr : ρ k with
      | none => rfl
      | some p =>
        have hlt := hh.dm _ _ hr
        rw [show Nat.blt k h.nx = true by simpa using hlt] at hb; cases hb
    | true =>
      rw [hb] at hle
      simp only [cond_true] at hle
      cases hg : h.ob.get k with
      | none => rw [hg] at hle; cases hle
      | some o1 =>
        rw [hg] at hle
        have hlt : k < h.nx := by simpa using hb
        rcases hh.obj0 k o1 hg hlt with ⟨p, hp, hr⟩ | ⟨hp, hz⟩
        · refine .inl ⟨p, hp, ?_⟩
          cases o1 with
          | cells cs sz fam tip sh =>
            cases sh with
            | true => cases hle
            | false =>
              simp only [AO.ren] at hle
              split at hle
              · rename_i cs1 hcs
                obtain ⟨r1, r2, C, eT, r3, r4, r5⟩ := hr
                have hl1 : cs.length = cs1.length := renL_len hcs
                cases hle with
                | row _ ds _ _ f' len ks h1 h2 h3 h4 =>
                  obtain ⟨f1, f2⟩ := fitsRows_get h2
                  have hl2 : ds.length = cs1.length := avDs_len h1
                  refine ⟨r1, ⟨hgc, by omega, h3⟩, C, eT, r3, r4, fun i c hi hc => ?_⟩
                  obtain ⟨tk, d, g1, g2, g3⟩ := f2 i c hi hc
                  have e1 : listD ds ks.length i c = d := by unfold listD; simp [List.getD_eq_getElem?_getD, g2]
                  rw [h4 i c hi hc, e1]
                  obtain ⟨x1, x2, x3⟩ := avDs_get h1 g2
                  obtain ⟨x0, x4, x5⟩ := renL_get hcs x2
                  obtain ⟨y, hy, hrel⟩ := r5 _ x0 x4
                  exact ⟨⟨tk, g1, g3⟩, y, hy, d_rel x3 (ren_rel (renOk ρ ns nx0) _ _ _ x5 hrel)⟩
                | cells _ cs' _ _ fam' _ tip' hles =>
                  refine ⟨r1, by rw [← hles.length, ← hl1]; exact r2, C, eT, r3, r4, fun j x hj => ?_⟩
                  obtain ⟨x1, h1, h2⟩ := hles.get hj
                  obtain ⟨x0, h3, h4⟩ := renL_get hcs h1
                  obtain ⟨y, hy, hrel⟩ := r5 j x0 h3
                  exact ⟨y, hy, h2.rel hgc (ren_rel (renOk ρ ns nx0) _ _ _ h4 hrel)⟩
              · cases hle
          | map => cases hle
          | loop => cases hle
          | rows f len ks =>
            simp only [AO.ren] at hle
            obtain ⟨r1, r2, C, eT, r3, r4, r5⟩ := hr
            cases hle with
            | rows _ f' _ _ hf => exact ⟨r1, r2, C, eT, r3, r4, fun i c hi hc => by rw [hf i c hi hc]; exact r5 i c hi hc⟩
            | rowsF _ f' _ _ hf => exact ⟨r1, r2, C, eT, r3, r4, fun i c hi hc => by rw [hf (fun i c hi hc => (r5 i c hi hc).1) i c hi hc]; exact r5 i c hi hc⟩
        · refine .inr ⟨hp, ?_⟩
          cases o1 with
          | rows f len ks =>
            simp only [AO.ren] at hle
            cases hle <;> exact hz
          | cells => exact hz.elim
          | map => exact hz.elim
          | loop => exact hz.elim
  · exact (noshare n m p q o o' hnm e1 e2 hb e3 e4).elim
  · by_cases c : n = m
    · subst c
      rw [e1] at e2; cases e2
      rw [e3] at e4; cases e4
      exact Nat.le_refl _
    · exact (noshare n m p q o o' c e1 e2 hb e3 e4).elim
  · exact (noshare n m p q o o' hnm e1 e2 hb e3 e4).elim
  · obtain ⟨k, h1, _⟩ := renR_some e
    exact hh.nf k p h1
where
  avDs_len : ∀ {xs : List AV} {ds : List D}, avDs xs = some ds → ds.length = xs.length
    | [], _, h => by simp only [avDs] at h; cases h; rfl
    | x :: xs, _, h => by
      simp only [avDs] at h
      split at h
      · rename_i a b ha hb; cases h; simp [avDs_len hb]
      · cases h
  avDs_get : ∀ {xs : List AV} {ds : List D}, avDs xs = some ds → ∀ {i : Nat} {d : D}, ds[i]? = some d → ∃ x, xs[i]? = some x ∧ x.d = some d
    | [], _, h, i, d, hd => by simp only [avDs] at h; cases h; simp at hd
    | x :: xs, _, h, i, d, hd => by
      simp only [avDs] at h
      split at h
      · rename_i a b ha hb
        cases h
        cases i with
        | zero => simp at hd; subst hd; exact ⟨x, rfl, ha⟩
        | succ i => simp at hd ⊢; exact avDs_get hb hd
      · cases h
  renL_len {r : Nat → Option Nat} : ∀ {xs ys : List AV}, renL r xs = some ys → xs.length = ys.length
    | [], _, h => by simp only [renL] at h; cases h; rfl
    | x :: xs, _, h => by
      simp only [renL] at h
      split at h
      · rename_i a b ha hb; cases h; simp [renL_len hb]
      · cases h
  renL_get {r : Nat → Option Nat} : ∀ {xs ys : List AV}, renL r xs = some ys → ∀ {i : Nat} {y : AV}, ys[i]? = some y → ∃ x, xs[i]? = some x ∧ x.ren r = some y
    | [], _, h, i, y, hy => by simp only [renL] at h; cases h; simp at hy
    | x :: xs, _, h, i, y, hy => by
      simp only [renL] at h
      split at h
      · rename_i a b ha hb
        cases h
        cases i with
        | zero => simp at hy; subst hy; exact ⟨x, rfl, ha⟩
        | succ i => simp at hy ⊢; exact renL_get hb hy
      · cases h

/- What is looked at of a state. -/
/-- Where a name stands: in a temporary, and on from there: a part, or a cell. -/
abbrev Loc := Nat × List Nat
def walkL (h : Hp) : List Nat → AV → Option AV
  | [], x => some x
  | i :: r, .agg cs => (cs[i]?).bind (walkL h r)
  | i :: r, .tup cs => (cs[i]?).bind (walkL h r)
  | i :: r, .fn _ cs => (cs[i]?).bind (walkL h r)
  | i :: r, .ptr n j d => match h.ob.get n with
    | some (.cells cs sz _ _ _) => (cs[j * sz + d + i]?).bind (walkL h r)
    | _ => none
  | _, _ => none
def nameOf : AV → Option Nat
  | .osl n _ => some n
  | .ptr n _ _ => some n
  | .sl n _ _ _ => some n
  | .mp n => some n
  | _ => none
def nsOf (h : Hp) (x : Nat → AV) : Nat → List Loc → List Nat
  | _, [] => []
  | i, (t, p) :: r => (((walkL h p (x t)).bind nameOf).getD (h.nx + i)) :: nsOf h x (i + 1) r
omit [Fz] in
structure Cfg where
  ks : List Nat
  jk : List Nat
  loc : List Loc
omit [Fz] in
structure Ob where
  ex : Ex
  ok : Bool
  vals : List (Option AV)
  objs : List OS
def obsB (nx0 : Nat) (cf : Cfg) (a : Ex × T AV × Hp) : Ob :=
  let ns := nsOf a.2.2 (fun t => (a.2.1.get t).getD (.v undef)) 0 cf.loc
  ⟨a.1, T.chk (fun k => cf.ks.any (fun x => Nat.beq x k) || cf.jk.any (fun x => Nat.beq x k)) a.2.1 1 0 && (a.2.2.lg.all (Nat.ble nx0) && (ns.all (Nat.ble nx0) && nodupB ns)),
    cf.ks.map (fun t => ((a.2.1.get t).getD (.v undef)).ren (rnOf nx0 ns)), ns.map (osAt a.2.2 (rnOf nx0 ns))⟩
omit [Fz] in
inductive VLes : List (Option AV) → List AV → Prop
  | nil : VLes [] []
  | cons (x y : AV) (xs : List (Option AV)) (ys : List AV) (h : Le x y) (k : VLes xs ys) : VLes (some x :: xs) (y :: ys)
omit [Fz] in
theorem VLes.length : ∀ {xs : List (Option AV)} {ys : List AV}, VLes xs ys → xs.length = ys.length
  | _, _, .nil => rfl
  | _, _, .cons x y xs ys hx hk => by simp [hk.length]
omit [Fz] in
theorem VLes.get : ∀ {xs : List (Option AV)} {ys : List AV}, VLes xs ys → ∀ {i : Nat} {y : AV}, ys[i]? = some y → ∃ x, xs[i]? = some (some x) ∧ Le x y
  | _, _, .nil, _, _, h => by simp at h
  | _, _, .cons x y xs ys hx hk, i, z, h => by
    cases i with
    | zero => simp at h; subst h; exact ⟨x, rfl, hx⟩
    | succ i => simp at h ⊢; exact hk.get h
omit [Fz] in
/-- What is seen is so, at least. -/
structure Goes (o : Ob) (vals : List AV) (os : List AO) : Prop where
  ok : o.ok = true
  vals : VLes o.vals vals
  objs : OLes o.objs os
def mkE (cf : Cfg) (vals : List AV) (j : Nat → Value) : T AV := mkJ (cf.ks.zip vals) cf.jk j

theorem stepped_low {ρ ρ' ρ'' : Rho} {nx0 nx nx'' : Nat} {L : List Nat} {w w' : World} (h : Stepped ρ nx0 L w ρ' nx w') (hL : ∀ n ∈ L, nx0 ≤ n) (hle : nx0 ≤ nx'') (hold : ∀ n, n < nx0 → ρ'' n = ρ' n) (hnew : ∀ n p, nx0 ≤ n → ρ'' n = some p → ∃ k, nx0 ≤ k ∧ ρ' k = some p) : Stepped ρ nx0 [] w ρ'' nx'' w' := by
  refine ⟨hle, fun n hn => (hold n hn).trans (h.old n hn), fun n p hn e => ?_, h.size, h.os, h.tape, h.output, fun b hb _ => h.block b hb fun n p hn hlt => absurd (hL n hn) (by omega)⟩
  obtain ⟨k, hk, e⟩ := hnew n p hn e
  rcases h.new k p hk e with x | ⟨m, q, x1, x2, _⟩
  · exact .inl x
  · exact absurd (hL m x1) (by omega)
theorem Marks.range {B : Nat} {ρ ρ' : Rho} {w : World} (hr : ∀ n p, ρ' n = some p → ∃ k, ρ k = some p) : ∀ {ds : List Deferred}, Marks B ρ w ds → Marks B ρ' w ds
  | [], _ => trivial
  | d :: ds, ⟨⟨D, h1, h2, h3, h4, h5⟩, h6⟩ => ⟨⟨D, h1, h2, h3, fun n p e => by obtain ⟨k, e⟩ := hr n p e; exact h4 k p e, h5⟩, Marks.range hr h6⟩
theorem AtB.head {nx0 : Nat} (hgc : Fz.gc = false) (hop : openB ≤ nx0) {cf : Cfg} {ρb ρ : Rho} {wb w : World} {x : Ex} {e : T AV} {h : Hp} {a : Act} {n B : Nat} {vals : List AV} {os : List AO} (hA : AtB nx0 ρb wb ρ e h a w n B) (hg : Goes (obsB nx0 cf (x, e, h)) vals os) :
    ∃ ρ', AtB nx0 ρb wb ρ' (mkE cf vals fun t => a.tmps.getD t undef) (mkH nx0 os) a w n B := by
  obtain ⟨ns, hns⟩ : ∃ ns, ns = nsOf h (fun t => (e.get t).getD (.v undef)) 0 cf.loc := ⟨_, rfl⟩
  have hok := hg.ok
  have hv := hg.vals
  have ho := hg.objs
  simp only [obsB, ← hns, Bool.and_eq_true] at hok hv ho
  obtain ⟨hchk, hlg, hnsb, hnd⟩ := hok
  have hlg' : ∀ n ∈ h.lg, nx0 ≤ n := fun n hn => by have := List.all_eq_true.1 hlg n hn; simpa using this
  have hns' : ∀ n ∈ ns, nx0 ≤ n := fun n hn => by have := List.all_eq_true.1 hnsb n hn; simpa using this
  have hrange : ∀ n p, renR ρ ns nx0 n = some p → ∃ k, ρ k = some p := fun n p e => by obtain ⟨k, h1, _⟩ := renR_some e; exact ⟨k, h1⟩
  have hl : cf.ks.length = vals.length := by have := hv.length; simpa using this
  refine ⟨renR ρ ns nx0, ⟨fun t => ?_, HR.ren hA.s.h hgc hop hnd ho, hA.s.d.range hrange, hA.s.n, hA.s.b⟩, stepped_low hA.st hlg' (Nat.le_add_right _ _) (fun n hn => by unfold renR; rw [if_pos hn]) fun n p hn e => ?_⟩
  · unfold mkE
    rcases get_mkJ (kept := cf.ks.zip vals) (jk := cf.jk) (j := fun t => a.tmps.getD t undef) t with ⟨y, hy, rfl, hgt⟩ | ⟨hn, ⟨_, hgt⟩ | ⟨hn2, hgt⟩⟩
    · rw [hgt]
      obtain ⟨i, hi⟩ := List.getElem?_of_mem hy
      rw [List.getElem?_zip_eq_some] at hi
      obtain ⟨hi1, hi2⟩ := hi
      obtain ⟨z, hz, hle⟩ := hv.get hi2
      rw [List.getElem?_map, hi1, Option.map_some, Option.some.injEq] at hz
      exact hle.rel hgc (ren_rel (renOk ρ ns nx0) _ _ _ hz (hA.s.e y.1))
    · rw [hgt]; rfl
    · rw [hgt]
      cases hx : e.get t with
      | none => have := hA.s.e t; rw [hx] at this; exact this
      | some v =>
        exfalso
        have := T.chk_ok hchk hx
        simp only [Nat.one_mul, Nat.add_zero, Bool.or_eq_true, List.any_eq_true] at this
        rcases this with ⟨y, hy, hb⟩ | ⟨y, hy, hb⟩
        · have := Nat.eq_of_beq_eq_true hb
          subst this
          obtain ⟨i, hi⟩ := List.getElem?_of_mem hy
          have hlt := (List.getElem?_eq_some_iff.1 hi).1
          have : (cf.ks.zip vals)[i]? = some (y, vals[i]'(by omega)) := by
            rw [List.getElem?_zip_eq_some]; exact ⟨hi, by simp⟩
          exact hn _ (List.mem_of_getElem? this) rfl
        · have := Nat.eq_of_beq_eq_true hb
          subst this; exact hn2 hy
  · obtain ⟨k, h1, h2⟩ := renR_some e
    rcases h2 with ⟨h2, _⟩ | ⟨_, _, h2⟩
    · omega
    · exact ⟨k, hns' k (List.mem_of_getElem? h2), h1⟩

/-- At a head: by its own names, and less is known. -/
theorem RunB.head {nx0 : Nat} (hgc : Fz.gc = false) (hop : openB ≤ nx0) (cf : Cfg) {c : Code} {x : Ex} {e : T AV} {h : Hp} {K : Ex → T AV → Hp → Prop} {vals : List AV} {os : List AO} (hg : Goes (obsB nx0 cf (x, e, h)) vals os) (hr : ∀ j, RunB P nx0 c (mkE cf vals j) (mkH nx0 os) K) : RunB P nx0 c e h K := by
  intro n hok B ρb wb ρ a w Q hA hQ m
  obtain ⟨ρ', hA'⟩ := hA.head hgc hop hg
  exact hr _ n hok B ρb wb ρ' a w Q hA' hQ m

/-- **A loop.** -/
theorem RunB.loop {nx0 : Nat} (hgc : Fz.gc = false) (hop : openB ≤ nx0) {σ : Type} {c : Code} (cf : Cfg) (J : σ → Prop) (μ : σ → Nat) (vals : σ → List AV) (os : σ → List AO) {K : Ex → T AV → Hp → Prop}
    (hb : ∀ s j, J s → RunB P nx0 c (mkE cf (vals s) j) (mkH nx0 (os s)) (fun x e' h' => match x with
      | .normal => ∃ s', J s' ∧ μ s' < μ s ∧ Goes (obsB nx0 cf (.normal, e', h')) (vals s') (os s')
      | x => K x e' h')) : ∀ s j, J s → RunB P nx0 (.loop c) (mkE cf (vals s) j) (mkH nx0 (os s)) K := by
  intro s0 j0 hJ0 n hok B ρb wb ρ0 a0 w0 Q hA0 hQ m
  have key : ∀ k s j ρ a w, J s → μ s < k → AtB nx0 ρb wb ρ (mkE cf (vals s) j) (mkH nx0 (os s)) a w n B → Code.roundsIn (FR none) m P c Q k a w := by
    intro k
    induction k with
    | zero => intro s j ρ a w _ h; omega
    | succ k ih =>
      intro s j ρ a w hJ hmu hA
      show c.wpIn (FR none) m P (Exit.then (Code.roundsIn (FR none) m P c Q k) Q) a w
      refine hb s j hJ n hok B ρb wb ρ a w _ hA (fun x e' h' hx => ?_) m
      cases x with
      | normal =>
        obtain ⟨s', hJ', hmu', hgo⟩ := hx
        intro ρ' a' w' hA'
        obtain ⟨ρ2, hA2⟩ := hA'.head hgc hop hgo
        exact ih s' _ ρ2 a' w' hJ' (by omega) hA2
      | exit id => exact hQ _ e' h' hx
      | goto l => exact hQ _ e' h' hx
      | ret => exact hQ _ e' h' hx
  exact wpIn_loop_rounds (μ s0 + 1) (key (μ s0 + 1) s0 j0 ρ0 a0 w0 hJ0 (Nat.lt_succ_self _) hA0)

def Br.map {α β : Type} (f : α → β) : Br α → Br β
  | .no => .no
  | .leaf a => .leaf (f a)
  | .test b t e => .test b (t.map f) (e.map f)
  | .ob p k => .ob p (k.map f)
theorem Br.holds_map {α β : Type} {f : α → β} {K : β → Prop} : ∀ {B : Br α}, (B.map f).Holds K → B.Holds fun a => K (f a)
  | .no, h => h.elim
  | .leaf _, h => h
  | .test _ _ _, h => ⟨fun x => Br.holds_map (h.1 x), fun x => Br.holds_map (h.2 x)⟩
  | .ob _ _, h => ⟨h.1, Br.holds_map h.2⟩
theorem Br.Holds.mono {α : Type} {K K' : α → Prop} (hk : ∀ a, K a → K' a) : ∀ {B : Br α}, B.Holds K → B.Holds K'
  | .no, h => h.elim
  | .leaf _, h => hk _ h
  | .test _ _ _, h => ⟨fun x => Br.Holds.mono hk (h.1 x), fun x => Br.Holds.mono hk (h.2 x)⟩
  | .ob _ _, h => ⟨h.1, Br.Holds.mono hk h.2⟩
/-- **A call, by what its code comes to.** -/
theorem calls_runB {f : FuncId} {fn : Func} {c : Code} (hfn : P.funcs[f]? = some fn) (hb : fn.body = some c) (hok : okCode fn.ntmps c = true) {args : List AV} {ys : Array Value} {h : Hp} {ρ : Rho} {w : World} (hys : VRels ρ args ys.toList) (hh : HR ρ h w) {K : AV → Hp → Prop}
    (hr : RunB P h.nx c (params args) ⟨h.ob, h.nx, []⟩ (fun x e1 h1 => (x = .normal ∨ x = .ret) ∧ ∃ l, resA P h1 e1 fn.results.toList = some l ∧ K (one l) h1)) :
    Calls P f ys w fun e w' => ∃ y v ρ' h1, e = .returned y ∧ K v h1 ∧ VRel ρ' v y ∧ HR ρ' h1 w' ∧ Stepped ρ h.nx h1.lg w ρ' h1.nx w' := by
  refine callsIn_wide.1 (callsIn_of_wp_marks (n := 0) (F := Fence.wide) hfn hb trivial ?_)
  refine hr fn.ntmps hok w.heap.size ρ w ρ _ w _ ⟨⟨params_rel hys _, hh, trivial, by simp; omega, Nat.le_refl _⟩, .refl hh.dm⟩ ?_ 0
  rintro x e1 h1 ⟨hx, l, hl, hk⟩ ρ' a' w1 hA
  have fin : LeavesInM Fence.wide 0 P fn a'.tmps (fun e w' => ∃ y v ρ' h1, e = .returned y ∧ K v h1 ∧ VRel ρ' v y ∧ HR ρ' h1 w' ∧ Stepped ρ h.nx h1.lg w ρ' h1.nx w') a'.defers .returning w1 := by
    refine leaves_marks _ _ hA.s.d fun w' hs => ?_
    have hh' : HR ρ' h1 w' := HRel.world hA.s.h (Nat.le_of_eq hs.size.symm) (fun n p e => hs.keep p.b (.inr ⟨n, p, e, rfl⟩)) fun b o e => hs.keep b (.inl (Array.getElem?_eq_some_iff.1 (hh.fz b o e)).1)
    obtain ⟨y, hy, hvr⟩ := results_run (P := P) hA.s.e hh' hl
    refine ⟨y, hy, y, one l, ρ', h1, rfl, hk, hvr, hh', hA.st.le, hA.st.old, hA.st.new, by rw [hs.size]; exact hA.st.size, hs.os.trans hA.st.os, hs.tape.trans hA.st.tape, hs.output.trans hA.st.output, fun b hb hne => (hs.keep b (.inl hb)).trans (hA.st.block b hb hne)⟩
  rcases hx with rfl | rfl
  · exact fin
  · exact fin

end Ev
end Go.Proofs.Ytengccmjlaejfaa
end
