/- The open evaluator: tests of values that are not known make a tree; each of its leaves is what the evaluator comes to where the tests answer so. No condition. -/
import Derived.Test.YtffcaapbmkaceaaDoorEvS
namespace Go.Proofs.YtffcaapbmkaceaaDoor
namespace Ev
open Go.RowKit
variable {P : Program}

inductive Br (α : Type) where
  | no
  | leaf (a : α)
  | test (b : Bool) (t e : Br α)
  | ob (p : Prop) (k : Br α)

def Br.bind {α β : Type} : Br α → (α → Br β) → Br β
  | .no, _ => .no
  | .leaf a, f => f a
  | .test b t e, f => .test b (t.bind f) (e.bind f)
  | .ob p k, f => .ob p (k.bind f)
/-- The leaf that is come to. -/
def Br.At {α : Type} : Br α → α → Prop
  | .no, _ => False
  | .leaf a, r => r = a
  | .test b t e, r => (b = true ∧ t.At r) ∨ (b = false ∧ e.At r)
  | .ob p k, r => p ∧ k.At r
/-- Whatever leaf is come to. -/
def Br.Holds {α : Type} (K : α → Prop) : Br α → Prop
  | .no => False
  | .leaf a => K a
  | .test b t e => (b = true → t.Holds K) ∧ (b = false → e.Holds K)
  | .ob p k => p ∧ k.Holds K
theorem Br.at_bind {α β : Type} {f : α → Br β} {r : β} : ∀ {B : Br α}, (B.bind f).At r → ∃ a, B.At a ∧ (f a).At r
  | .no, h => h.elim
  | .leaf a, h => ⟨a, rfl, h⟩
  | .test b t e, h => by
    rcases h with ⟨h1, h2⟩ | ⟨h1, h2⟩
    · obtain ⟨a, k1, k2⟩ := Br.at_bind h2; exact ⟨a, .inl ⟨h1, k1⟩, k2⟩
    · obtain ⟨a, k1, k2⟩ := Br.at_bind h2; exact ⟨a, .inr ⟨h1, k1⟩, k2⟩
  | .ob p k, h => by obtain ⟨a, k1, k2⟩ := Br.at_bind h.2; exact ⟨a, ⟨h.1, k1⟩, k2⟩
theorem Br.Holds.out {α : Type} {K : α → Prop} : ∀ {B : Br α}, B.Holds K → ∃ a, B.At a ∧ K a
  | .no, h => h.elim
  | .leaf a, h => ⟨a, rfl, h⟩
  | .test b t e, h => by
    cases b with
    | true => obtain ⟨a, k1, k2⟩ := Br.Holds.out (h.1 rfl); exact ⟨a, .inl ⟨rfl, k1⟩, k2⟩
    | false => obtain ⟨a, k1, k2⟩ := Br.Holds.out (h.2 rfl); exact ⟨a, .inr ⟨rfl, k1⟩, k2⟩
  | .ob p k, h => by obtain ⟨a, k1, k2⟩ := Br.Holds.out h.2; exact ⟨a, ⟨h.1, k1⟩, k2⟩
def ofO {α : Type} : Option α → Br α
  | some a => .leaf a
  | none => .no
theorem ofO_at {α : Type} {o : Option α} {a : α} (h : (ofO o).At a) : o = some a := by
  cases o with
  | none => exact h.elim
  | some b => exact congrArg some h.symm

/- Truths of temporaries that have been asked for. -/
abbrev Kn := T Bool
def Kn.drop (kn : Kn) (d : Option Tmp) : Kn := match d with
  | some d => T.put (d + 2) kn d none
  | none => kn
def KnOk (kn : Kn) (e : T AV) : Prop := ∀ d v, kn.get d = some v → e.get d = some (.s (.bool v))
theorem KnOk.leaf (e : T AV) : KnOk .leaf e := fun d v h => by cases h
theorem KnOk.put {kn : Kn} {e : T AV} (h : KnOk kn e) {d : Tmp} {b : Bool} (he : e.get d = some (.s (.bool b))) : KnOk (T.put (d + 2) kn d (some b)) e := fun t v hv => by
  rw [T.get_put] at hv
  by_cases c : t = d
  · subst c; rw [upd_same] at hv; cases hv; exact he
  · rw [upd_ne _ _ c] at hv; exact h t v hv
theorem KnOk.step {kn : Kn} {e : T AV} (h : KnOk kn e) (d : Option Tmp) (v : AV) : KnOk (kn.drop d) (putT e d v) := by
  cases d with
  | none => exact h
  | some d =>
    intro t u hu
    unfold Kn.drop at hu
    rw [T.get_put'] at hu
    unfold putT
    rw [T.get_put]
    by_cases c : t = d
    · rw [if_pos c] at hu; cases hu
    · rw [if_neg c] at hu; rw [upd_ne _ _ c]; exact h t u hu

abbrev CallB := FuncId → List AV → Hp → Br (AV × Hp)
abbrev YlB := Nat → List AV → Hp → Br (Bool × Hp)
def CallSim (c : CallB) (s : Sum) : Prop := ∀ f args h r, (c f args h).At r → s f args h = some r
def YlSim (c : YlB) (s : Yl) : Prop := ∀ n args h r, (c n args h).At r → s n args h = some r

theorem openA_ok {ρ : Operand → AV} {o : Oper} {h h' : Hp} {v : AV} (hs : openA P ρ o h = some (true, some (v, h'))) : aop P ρ o h = some (.val v h') := by
  unfold aop
  rw [hs]; rfl
theorem openA_no {ρ : Operand → AV} {o : Oper} {h : Hp} (hs : openA P ρ o h = none) : aop P ρ o h = aopC P ρ o h := by
  unfold aop
  rw [hs]

/-- An operation that is wanted: its value, the heap, what is known. -/
def opB (P : Program) (call : CallB) (yl : YlB) (e : T AV) (kn : Kn) (o : Oper) (h : Hp) : Br (AV × Hp × Kn) :=
  let rest : Br (AV × Hp × Kn) := match openA P (opnd e) o h with
    | some (b, r) => .test b (match r with
      | some (v, h') => .leaf (v, h', kn)
      | none => .no) .no
    | none => match aopC P (opnd e) o h with
      | some (.val v h') => .leaf (v, h', kn)
      | some (.call f args h') => (call f args h').bind fun (v, h'') => .leaf (v, h'', kn)
      | some (.yield n args h') => (yl n args h').bind fun (b, h'') => .leaf (.v (.bool b), h'', kn)
      | none => .no
  match o.op with
  | .pick (.tmp c) a b => match e.get c with
    | some (.s (.bool t)) => match kn.get c with
      | some v => .leaf (bif v then opnd e a else opnd e b, h, kn)
      | none => .test t (.leaf (opnd e a, h, T.put (c + 2) kn c (some true))) (.leaf (opnd e b, h, T.put (c + 2) kn c (some false)))
    | _ => rest
  | _ => rest
/-- An operation that may be wanted. -/
def opG (P : Program) (call : CallB) (yl : YlB) (ops : Array Oper) (e : T AV) (kn : Kn) (o : Oper) (h : Hp) : Br (Bool × AV × Hp × Kn) :=
  let go (kn : Kn) (w : Bool) : Br (Bool × AV × Hp × Kn) := bif w then (opB P call yl e kn o h).bind fun (v, h', kn') => .leaf (true, v, h', kn') else .leaf (false, .v undef, h, kn)
  match o.guard with
  | none => go kn true
  | some (j, want) => match (ops[j]?).bind (·.dst) with
    | none => go kn false
    | some d => match e.get d with
      | some (.v (.bool b)) => go kn (b == want)
      | some (.s (.bool b)) => match kn.get d with
        | some v => go kn (v == want)
        | none => .test b (go (T.put (d + 2) kn d (some true)) (true == want)) (go (T.put (d + 2) kn d (some false)) (false == want))
      | _ => go kn false

def opRes (call : Sum) (yl : Yl) (s : Option Stp) (v : AV) (h' : Hp) : Prop := match s with
  | some (.val v1 h1) => v1 = v ∧ h1 = h'
  | some (.call f args h1) => call f args h1 = some (v, h')
  | some (.yield n args h1) => ∃ b, yl n args h1 = some (b, h') ∧ v = .v (.bool b)
  | none => False

theorem opB_at {call : CallB} {cs : Sum} (hc : CallSim call cs) {yl : YlB} {ys : Yl} (hy : YlSim yl ys) {e : T AV} {kn kn' : Kn} (hk : KnOk kn e) {o : Oper} {h h' : Hp} {v : AV} (hr : (opB P call yl e kn o h).At (v, h', kn')) :
    KnOk kn' e ∧ opRes cs ys (aop P (opnd e) o h) v h' := by
  have rest : (Br.At (match openA P (opnd e) o h with
    | some (b, r) => .test b (match r with
      | some (v, h') => .leaf (v, h', kn)
      | none => .no) .no
    | none => match aopC P (opnd e) o h with
      | some (.val v h') => .leaf (v, h', kn)
      | some (.call f args h') => (call f args h').bind fun (v, h'') => .leaf (v, h'', kn)
      | some (.yield n args h') => (yl n args h').bind fun (b, h'') => .leaf (.v (.bool b), h'', kn)
      | none => .no : Br (AV × Hp × Kn)) (v, h', kn')) → KnOk kn' e ∧ opRes cs ys (aop P (opnd e) o h) v h' := by
    intro hr
    split at hr
    · rename_i b r hs
      rcases hr with ⟨rfl, hr⟩ | ⟨_, hr⟩
      · split at hr
        · rename_i u h1
          cases hr
          rw [openA_ok hs]
          exact ⟨hk, rfl, rfl⟩
        · exact hr.elim
      · exact hr.elim
    · rename_i hs
      rw [openA_no hs]
      unfold opRes
      split at hr
      · rename_i v1 h1 ha; cases hr; exact ⟨hk, rfl, rfl⟩
      · rename_i f args h1 ha
        obtain ⟨⟨v1, h2⟩, k1, k2⟩ := Br.at_bind hr
        cases k2
        exact ⟨hk, hc _ _ _ _ k1⟩
      · rename_i n args h1 ha
        obtain ⟨⟨b, h2⟩, k1, k2⟩ := Br.at_bind hr
        cases k2
        exact ⟨hk, b, hy _ _ _ _ k1, rfl⟩
      · exact hr.elim
  unfold opB at hr
  simp only [] at hr
  split at hr
  · rename_i c a b hop
    split at hr
    · rename_i t ht
      have haop : aop P (opnd e) o h = some (.val (bif t then opnd e a else opnd e b) h) := by
        have h1 : openA P (opnd e) o h = none := by unfold openA openS openL; simp only [hop]
        unfold aop
        rw [h1]
        unfold aopC
        rw [hop]
        simp only [opnd, ht, Option.getD_some]
      split at hr
      · rename_i u hu
        have := hk c u hu
        rw [ht] at this
        cases this
        cases hr
        rw [haop]
        exact ⟨hk, rfl, rfl⟩
      · rw [haop]
        rcases hr with ⟨rfl, hr⟩ | ⟨rfl, hr⟩
        · cases hr; exact ⟨hk.put ht, rfl, rfl⟩
        · cases hr; exact ⟨hk.put ht, rfl, rfl⟩
    · exact rest hr
  · exact rest hr

theorem opG_at {call : CallB} {cs : Sum} (hc : CallSim call cs) {yl : YlB} {ys : Yl} (hy : YlSim yl ys) {ops : Array Oper} {e : T AV} {kn kn' : Kn} (hk : KnOk kn e) {o : Oper} {h h' : Hp} {w : Bool} {v : AV} (hr : (opG P call yl ops e kn o h).At (w, v, h', kn')) :
    KnOk kn' e ∧ Region.wanted o (yieldedA ops e) = w ∧ (w = true → opRes cs ys (aop P (opnd e) o h) v h') ∧ (w = false → v = .v undef ∧ h' = h) := by
  have go : ∀ (kn : Kn) (u : Bool), KnOk kn e → (Br.At (bif u then (opB P call yl e kn o h).bind fun (v, h', kn') => .leaf (true, v, h', kn') else .leaf (false, .v undef, h, kn) : Br (Bool × AV × Hp × Kn)) (w, v, h', kn')) →
      KnOk kn' e ∧ u = w ∧ (w = true → opRes cs ys (aop P (opnd e) o h) v h') ∧ (w = false → v = .v undef ∧ h' = h) := by
    intro kn u hk hr
    cases u with
    | true =>
      obtain ⟨⟨v1, h1, kn1⟩, k1, k2⟩ := Br.at_bind hr
      cases k2
      obtain ⟨r1, r2⟩ := opB_at hc hy hk k1
      exact ⟨r1, rfl, fun _ => r2, fun x => by cases x⟩
    | false => cases hr; exact ⟨hk, rfl, fun x => (by cases x), fun _ => ⟨rfl, rfl⟩⟩
  unfold opG at hr
  simp only [] at hr
  unfold Region.wanted
  split at hr
  · rename_i hg
    rw [hg]
    exact go kn true hk hr
  · rename_i j want hg
    rw [hg]
    simp only []
    split at hr
    · rename_i hd
      have : yieldedA ops e j = none := by unfold yieldedA; rw [hd]; rfl
      rw [this]
      obtain ⟨r1, r2, r3⟩ := go kn false hk hr
      exact ⟨r1, by rw [← r2]; rfl, r3⟩
    · rename_i d hd
      have hya : yieldedA ops e j = match e.get d with
        | some (.v (.bool b)) => some b
        | some (.s (.bool b)) => some b
        | _ => none := by unfold yieldedA; rw [hd]; rfl
      split at hr
      · rename_i b hb
        rw [hya, hb]
        obtain ⟨r1, r2, r3⟩ := go kn _ hk hr
        exact ⟨r1, by rw [← r2]; cases b <;> cases want <;> rfl, r3⟩
      · rename_i b hb
        rw [hya, hb]
        split at hr
        · rename_i u hu
          have := hk d u hu
          rw [hb] at this
          cases this
          obtain ⟨r1, r2, r3⟩ := go kn _ hk hr
          exact ⟨r1, by rw [← r2]; cases b <;> cases want <;> rfl, r3⟩
        · rcases hr with ⟨rfl, hr⟩ | ⟨rfl, hr⟩
          · obtain ⟨r1, r2, r3⟩ := go _ _ (hk.put hb) hr
            exact ⟨r1, by rw [← r2]; cases want <;> rfl, r3⟩
          · obtain ⟨r1, r2, r3⟩ := go _ _ (hk.put hb) hr
            exact ⟨r1, by rw [← r2]; cases want <;> rfl, r3⟩
      · rename_i h1 h2
        obtain ⟨r1, r2, r3⟩ := go kn false hk hr
        refine ⟨r1, ?_, r3⟩
        rw [← r2, hya]
        split
        · rename_i b hb; exact absurd hb (h1 b)
        · rename_i b hb; exact absurd hb (h2 b)
        · rfl

def seqB (P : Program) (call : CallB) (yl : YlB) (ops : Array Oper) : List Oper → T AV → Kn → Hp → Br (T AV × Hp)
  | [], e, _, h => .leaf (e, h)
  | o :: r, e, kn, h => (opG P call yl ops e kn o h).bind fun (_, v, h', kn') => seqB P call yl ops r (putT e o.dst v) (kn'.drop o.dst) h'
theorem seqB_at {call : CallB} {cs : Sum} (hc : CallSim call cs) {yl : YlB} {ys : Yl} (hy : YlSim yl ys) {ops : Array Oper} : ∀ {l : List Oper} {e : T AV} {kn : Kn} {h : Hp} {r : T AV × Hp}, KnOk kn e → (seqB P call yl ops l e kn h).At r → seqOps P cs ys ops l e h = some r
  | [], e, kn, h, r, _, hr => by cases hr; rfl
  | o :: l, e, kn, h, r, hk, hr => by
    obtain ⟨⟨w, v, h', kn'⟩, k1, k2⟩ := Br.at_bind hr
    obtain ⟨r1, r2, r3, r4⟩ := opG_at hc hy hk k1
    have ih := seqB_at hc hy (r1.step o.dst v) k2
    unfold seqOps
    rw [r2]
    cases w with
    | false =>
      obtain ⟨rfl, rfl⟩ := r4 rfl
      exact ih
    | true =>
      have r3 := r3 rfl
      simp only [cond_true]
      cases ha : aop P (opnd e) o h with
      | none => rw [ha] at r3; exact r3.elim
      | some s =>
        rw [ha] at r3
        cases s with
        | val v1 h1 => obtain ⟨rfl, rfl⟩ := r3; exact ih
        | call f args h1 =>
          have r3 : cs f args h1 = some (v, h') := r3
          simp only []
          rw [r3]; exact ih
        | yield n args h1 =>
          obtain ⟨b, r5, rfl⟩ := r3
          simp only []
          rw [r5]; exact ih

/- Drawn regions. -/
def noY : YlB := fun _ _ _ => .no
theorem noY_sim : YlSim noY (fun _ _ _ => none) := fun _ _ _ _ hx => (show False from hx).elim
def drawOneB (P : Program) (call : CallB) (ops : Array Oper) (m : Nat) (h0 : Hp) (o : Oper) (e : T AV) (kn : Kn) (nx : Nat) (ens : Ens) : Br (DRec × Kn) :=
  let vw := viewD (opnd e) o m h0 ens
  let ob := obOf m h0 nx ens vw
  (opG P call noY ops e kn o ⟨ob, nx, []⟩).bind fun (w, v, h', kn') => bif w then (match finishR vw ob nx v h' with
    | some d => .leaf (d, kn')
    | none => .no) else .leaf (⟨.v undef, nx, nx, some [], [], [], false⟩, kn')
theorem drawOneB_at {call : CallB} {cs : Sum} (hc : CallSim call cs) {ops : Array Oper} {m : Nat} {h0 : Hp} {o : Oper} {e : T AV} {kn kn' : Kn} (hk : KnOk kn e) {nx : Nat} {ens : Ens} {d : DRec} (hr : (drawOneB P call ops m h0 o e kn nx ens).At (d, kn')) :
    KnOk kn' e ∧ drawOne P cs ops m h0 o e nx ens = some d := by
  obtain ⟨⟨w, v, h', kn1⟩, k1, k2⟩ := Br.at_bind hr
  obtain ⟨r1, r2, r3, r4⟩ := opG_at (ys := fun _ _ _ => none) hc noY_sim hk k1
  unfold drawOne
  rw [r2]
  cases w with
  | false => cases k2; exact ⟨r1, rfl⟩
  | true =>
    have r3 := r3 rfl
    simp only [cond_true] at k2 ⊢
    have : finishR (viewD (opnd e) o m h0 ens) (obOf m h0 nx ens (viewD (opnd e) o m h0 ens)) nx v h' = some d ∧ kn1 = kn' := by
      split at k2
      · rename_i d' hd; cases k2; exact ⟨hd, rfl⟩
      · exact k2.elim
    obtain ⟨f1, rfl⟩ := this
    refine ⟨r1, ?_⟩
    cases ha : aop P (opnd e) o ⟨obOf m h0 nx ens (viewD (opnd e) o m h0 ens), nx, []⟩ with
    | none => rw [ha] at r3; exact r3.elim
    | some s =>
      rw [ha] at r3
      cases s with
      | val v1 h1 => obtain ⟨rfl, rfl⟩ := r3; exact f1
      | call f args h1 =>
        have r3 : cs f args h1 = some (v, h') := r3
        simp only []
        rw [r3]; exact f1
      | yield n args h1 => obtain ⟨b, r3, _⟩ := r3; cases r3
def drawGoB (P : Program) (call : CallB) (ops : Array Oper) (bs : T Nat) (h0 : Hp) : Nat → List Oper → T AV → Kn → Nat → Ens → Br ((List DRec × T AV × Nat × Ens) × Kn)
  | _, [], e, kn, nx, ens => .leaf (([], e, nx, ens), kn)
  | i, o :: r, e, kn, nx, ens => (drawOneB P call ops (msk bs i) h0 o e kn nx ens).bind fun (d, kn') => (drawGoB P call ops bs h0 (i + 1) r (putT e o.dst d.v) (kn'.drop o.dst) d.hi ((i, d.en) :: ens)).bind fun ((ds, x), k) => .leaf ((d :: ds, x), k)
theorem drawGoB_at {call : CallB} {cs : Sum} (hc : CallSim call cs) {ops : Array Oper} {bs : T Nat} {h0 : Hp} : ∀ {l : List Oper} {i : Nat} {e : T AV} {kn kn' : Kn} {nx : Nat} {ens : Ens} {r : List DRec × T AV × Nat × Ens}, KnOk kn e → (drawGoB P call ops bs h0 i l e kn nx ens).At (r, kn') → drawGo P cs ops bs h0 i l e nx ens = some r ∧ KnOk kn' r.2.1
  | [], _, _, _, _, _, _, _, hk, hr => by cases hr; exact ⟨rfl, hk⟩
  | o :: l, i, e, kn, kn', nx, ens, r, hk, hr => by
    obtain ⟨⟨d, kn1⟩, k1, k2⟩ := Br.at_bind hr
    obtain ⟨⟨⟨ds, x⟩, kn2⟩, k3, k4⟩ := Br.at_bind k2
    cases k4
    obtain ⟨r1, r2⟩ := drawOneB_at hc hk k1
    obtain ⟨ih1, ih2⟩ := drawGoB_at hc (r1.step o.dst d.v) k3
    refine ⟨?_, ih2⟩
    unfold drawGo
    rw [r2]
    simp only []
    rw [ih1]
def drawnB (P : Program) (call : CallB) (ops : Array Oper) (e : T AV) (h : Hp) : Br ((T AV × Hp) × Kn) :=
  let bs := bsGo 0 ops.toList .leaf
  bif drawOk ops bs then
    (drawGoB P call ops bs h 0 ops.toList e .leaf h.nx []).bind fun ((ds, e', nx', ens), kn) => bif clearAll bs h.nx ds 0 ds then .leaf ((e', ⟨viewAll (fun _ => true) ens h.ob, nx', wrs ds ++ h.lg⟩), kn) else .no
  else .no
theorem drawnB_at {call : CallB} {cs : Sum} (hc : CallSim call cs) {ops : Array Oper} {e : T AV} {h : Hp} {r : T AV × Hp} {kn : Kn} (hr : (drawnB P call ops e h).At (r, kn)) : drawn P cs ops e h = some r ∧ KnOk kn r.1 := by
  unfold drawnB at hr
  unfold drawn
  simp only [] at hr ⊢
  cases hd : drawOk ops (bsGo 0 ops.toList .leaf) with
  | false => rw [hd] at hr; exact hr.elim
  | true =>
    rw [hd] at hr
    simp only [cond_true] at hr ⊢
    obtain ⟨⟨⟨ds, e', nx', ens⟩, kn1⟩, k1, k2⟩ := Br.at_bind hr
    obtain ⟨g1, g2⟩ := drawGoB_at hc (KnOk.leaf e) k1
    rw [g1]
    simp only [] at k2 ⊢
    cases hx : clearAll (bsGo 0 ops.toList .leaf) h.nx ds 0 ds with
    | false => rw [hx] at k2; exact k2.elim
    | true => rw [hx] at k2; cases k2; exact ⟨rfl, g2⟩
def drawnTB (P : Program) (call : CallB) (yl : YlB) (ops : Array Oper) (e : T AV) (h : Hp) : Br (T AV × Hp) :=
  let t := tailAt (bsGo 0 ops.toList .leaf) ops.size
  bif preOk ops t then (drawnB P call (ops.toList.take t).toArray e h).bind fun ((e1, h1), kn) => seqB P call yl ops (ops.toList.drop t) e1 kn h1
  else .no
theorem drawnTB_at {call : CallB} {cs : Sum} (hc : CallSim call cs) {yl : YlB} {ys : Yl} (hy : YlSim yl ys) {ops : Array Oper} {e : T AV} {h : Hp} {r : T AV × Hp} (hr : (drawnTB P call yl ops e h).At r) : drawnT P cs ys ops e h = some r := by
  unfold drawnTB at hr
  unfold drawnT
  simp only [] at hr ⊢
  cases hd : preOk ops (tailAt (bsGo 0 ops.toList .leaf) ops.size) with
  | false => rw [hd] at hr; exact hr.elim
  | true =>
    rw [hd] at hr
    simp only [cond_true] at hr ⊢
    obtain ⟨⟨⟨e1, h1⟩, kn⟩, k1, k2⟩ := Br.at_bind hr
    obtain ⟨g1, g2⟩ := drawnB_at hc k1
    rw [g1]
    exact seqB_at hc hy g2 k2

structure Bm where
  run : Bool → Code → T AV → Hp → Br (Ex × T AV × Hp)
  scp : Bool → Code → Code → T AV → Hp → Br (Ex × T AV × Hp)
  call : CallB
  yld : YlB

/-- A call, as a tree. -/
abbrev SumBr := FuncId → List AV → Hp → Option (Br (AV × Hp))
def Br.ev {α : Type} : Br α → Option α
  | .no => none
  | .leaf a => some a
  | .test b t e => bif b then t.ev else e.ev
  | .ob _ _ => none
/-- Without obligations. -/
def Br.pure {α : Type} : Br α → Bool
  | .ob _ _ => false
  | .test _ t e => t.pure && e.pure
  | _ => true
def sumS (X : SumBr) : Sum := fun f args h => match X f args h with
  | some B => bif B.pure then B.ev else none
  | none => none
def noX : SumBr := fun _ _ _ => none
theorem Br.ev_at {α : Type} : ∀ {B : Br α} {a : α}, B.pure = true → B.At a → B.ev = some a
  | .no, _, _, h => h.elim
  | .leaf _, _, _, h => by cases h; rfl
  | .test b t e, a, hp, h => by
    simp only [Br.pure, Bool.and_eq_true] at hp
    rcases h with ⟨rfl, h⟩ | ⟨rfl, h⟩
    · show t.ev = some a; exact Br.ev_at hp.1 h
    · show e.ev = some a; exact Br.ev_at hp.2 h
  | .ob _ _, _, hp, _ => by cases hp
def stepB (P : Program) (X : SumBr) (S : Sum) (R : Bm) : Bm where
  run := fun r c e h => match c with
    | .skip => .leaf (.normal, e, h)
    | .label _ => .leaf (.normal, e, h)
    | .ret => .leaf (.ret, e, h)
    | .exit id => .leaf (.exit id, e, h)
    | .goto l => .leaf (.goto l, e, h)
    | .region _ ops d => (bif d then drawnTB P R.call R.yld ops e h else seqB P R.call R.yld ops ops.toList e .leaf h).bind fun (e', h') => .leaf (.normal, e', h')
    | .seq a b => (R.run r a e h).bind fun x => match x with
      | (.normal, e', h') => R.run r b e' h'
      | x => .leaf x
    | .cond c x y => match opnd e c with
      | .v (.bool b) => R.run r (bif b then x else y) e h
      | .s (.bool b) => .test b (R.run r x e h) (R.run r y e h)
      | _ => .no
    | .block id c => (R.run r c e h).bind fun x => match x with
      | (.exit id', e', h') => bif Nat.beq id' id then .leaf (.normal, e', h') else .leaf (.exit id', e', h')
      | x => .leaf x
    | .loop c => (R.run r c e h).bind fun x => match x with
      | (.normal, e', h') => R.run r (.loop c) e' h'
      | x => .leaf x
    | .scope c => R.scp r c c e h
    | .rangeFunc g ps asg body => bif r then .no else
      match opnd e g with
      | .fn f cs => (R.call f (.yld h.nx :: cs) (h.new (.loop .ready e ps.toList asg body none))).bind fun (_, h2) => match h2.ob.get h.nx with
          | some (.loop .ready e' ps' asg' body' none) => .leaf (.normal, e, h2.set h.nx (.loop .exhausted e' ps' asg' body' none))
          | some (.loop .done e' ps' asg' body' (some x)) => .leaf (x, e, h2.set h.nx (.loop .exhausted e' ps' asg' body' (some x)))
          | _ => .no
      | _ => .no
    | _ => .no
  scp := fun r body c e h => (R.run r c e h).bind fun x => match x with
    | (.goto l, e', h') => match findLabel body l with
      | some rest => R.scp r body rest e' h'
      | none => .no
    | x => .leaf x
  call := fun f args h => match X f args h with
   | some B => bif B.pure then B else .no
   | none => match S f args h with
    | some r => .leaf r
    | none => match P.funcs[f]? with
      | some fn => match fn.body with
        | some c => (R.run false c (params args) { ob := h.ob, nx := h.nx, lg := [] }).bind fun x => match x with
          | (.normal, e, h') => ofO ((resA P h' e fn.results.toList).map fun l => (one l, leave h.nx h.lg (one l) h'))
          | (.ret, e, h') => ofO ((resA P h' e fn.results.toList).map fun l => (one l, leave h.nx h.lg (one l) h'))
          | _ => .no
        | none => .no
      | none => .no
  yld := fun n args h => match h.ob.get n with
    | some (.loop .ready e ps asg body none) => bif Nat.beq args.length ps.length && Nat.blt n h.nx then
        (R.run true asg (bindT ps args e) h).bind fun x => match x with
        | (.normal, e1, h1) => match h1.ob.get n with
          | some (.loop .ready e2 ps2 asg2 body2 none) => (R.run true body e1 (h1.set n (.loop .busy e2 ps2 asg2 body2 none))).bind fun (x, _, h2) => match h2.ob.get n with
              | some (.loop .busy e3 ps3 asg3 body3 none) => match x with
                | .normal => .leaf (true, h2.set n (.loop .ready e3 ps3 asg3 body3 none))
                | x => .leaf (false, h2.set n (.loop .done e3 ps3 asg3 body3 (some x)))
              | _ => .no
          | _ => .no
        | _ => .no
      else .no
    | _ => .no

def bmX (P : Program) (X : SumBr) (S : Sum) : Nat → Bm
  | 0 => ⟨fun _ _ _ _ => .no, fun _ _ _ _ _ => .no, fun _ _ _ => .no, fun _ _ _ => .no⟩
  | n + 1 => stepB P X S (bmX P X S n)
abbrev bm (P : Program) (S : Sum) (n : Nat) : Bm := bmX P noX S n

structure BmSim (R : Bm) (M : Sm) : Prop where
  run : ∀ r c e h x, (R.run r c e h).At x → M.run r c e h = some x
  scp : ∀ r b c e h x, (R.scp r b c e h).At x → M.scp r b c e h = some x
  call : CallSim R.call M.call
  yld : YlSim R.yld M.yld

theorem step_sim {X : SumBr} {S : Sum} {R : Bm} {M : Sm} (h : BmSim R M) : BmSim (stepB P X S R) (stepS P (orS (sumS X) S) M) := by
  refine ⟨fun r c e hp x hr => ?_, fun r b c e hp x hr => ?_, fun f args hp x hr => ?_, fun n args hp x hr => ?_⟩
  · cases c with
    | skip => cases hr; rfl
    | label l => cases hr; rfl
    | ret => cases hr; rfl
    | exit id => cases hr; rfl
    | goto l => cases hr; rfl
    | refuse _ => exact hr.elim
    | region id ops d =>
      obtain ⟨⟨e', h'⟩, k1, k2⟩ := Br.at_bind hr
      cases k2
      simp only [stepS]
      cases d with
      | true => simp only [cond_true] at k1 ⊢; rw [drawnTB_at h.call h.yld k1]; rfl
      | false => simp only [cond_false] at k1 ⊢; rw [seqB_at h.call h.yld (KnOk.leaf e) k1]; rfl
    | seq a b =>
      obtain ⟨⟨y, e', h'⟩, k1, k2⟩ := Br.at_bind hr
      simp only [stepS]
      rw [h.run _ _ _ _ _ k1]
      cases y with
      | normal => exact h.run _ _ _ _ _ k2
      | exit id => cases k2; rfl
      | goto l => cases k2; rfl
      | ret => cases k2; rfl
    | cond c a b =>
      simp only [stepB] at hr
      simp only [stepS]
      split at hr
      · rename_i b hb; rw [hb]; exact h.run _ _ _ _ _ hr
      · rename_i b hb
        rw [hb]
        rcases hr with ⟨rfl, hr⟩ | ⟨rfl, hr⟩
        · exact h.run _ _ _ _ _ hr
        · exact h.run _ _ _ _ _ hr
      · exact hr.elim
    | block id c =>
      obtain ⟨⟨y, e', h'⟩, k1, k2⟩ := Br.at_bind hr
      simp only [stepS]
      rw [h.run _ _ _ _ _ k1]
      cases y with
      | normal => cases k2; rfl
      | exit id' =>
        simp only [] at k2 ⊢
        cases hb : Nat.beq id' id with
        | true => rw [hb] at k2; cases k2; rfl
        | false => rw [hb] at k2; cases k2; rfl
      | goto l => cases k2; rfl
      | ret => cases k2; rfl
    | loop c =>
      obtain ⟨⟨y, e', h'⟩, k1, k2⟩ := Br.at_bind hr
      simp only [stepS]
      rw [h.run _ _ _ _ _ k1]
      cases y with
      | normal => exact h.run _ _ _ _ _ k2
      | exit id => cases k2; rfl
      | goto l => cases k2; rfl
      | ret => cases k2; rfl
    | scope c => exact h.scp _ _ _ _ _ _ hr
    | rangeFunc g ps asg body =>
      simp only [stepB] at hr
      simp only [stepS]
      cases r with
      | true => exact hr.elim
      | false =>
        simp only [cond_false] at hr ⊢
        split at hr
        · rename_i f cs hg
          rw [hg]
          simp only []
          obtain ⟨⟨v, h2⟩, k1, k2⟩ := Br.at_bind hr
          rw [h.call _ _ _ _ k1]
          simp only [] at k2 ⊢
          split at k2
          · rename_i ho; cases k2; rw [ho]
          · rename_i ho; cases k2; rw [ho]
          · exact k2.elim
        · exact hr.elim
  · obtain ⟨⟨y, e', h'⟩, k1, k2⟩ := Br.at_bind hr
    simp only [stepS]
    rw [h.run _ _ _ _ _ k1]
    cases y with
    | goto l =>
      simp only [] at k2 ⊢
      split at k2
      · rename_i hl; rw [hl]; exact h.scp _ _ _ _ _ _ k2
      · exact k2.elim
    | normal => cases k2; rfl
    | exit id => cases k2; rfl
    | ret => cases k2; rfl
  · simp only [stepB] at hr
    simp only [stepS]
    rcases hX : X f args hp with _ | B
    rotate_left
    · rw [hX] at hr
      simp only [] at hr
      cases hpu : B.pure with
      | false => rw [hpu] at hr; exact hr.elim
      | true =>
        rw [hpu] at hr
        simp only [cond_true] at hr
        have e : orS (sumS X) S f args hp = some x := by unfold orS sumS; rw [hX]; simp only [hpu, cond_true]; rw [Br.ev_at hpu hr]
        rw [e]
    rw [hX] at hr
    simp only [] at hr
    have e : orS (sumS X) S f args hp = S f args hp := by unfold orS sumS; rw [hX]
    rw [e]
    split at hr
    · rename_i r0 h0; rw [h0]; cases hr; rfl
    · rename_i h0
      rw [h0]
      simp only []
      split at hr
      · rename_i fn hfn
        rw [hfn]
        simp only []
        split at hr
        · rename_i c hb
          rw [hb]
          simp only []
          obtain ⟨⟨y, e', h'⟩, k1, k2⟩ := Br.at_bind hr
          rw [h.run _ _ _ _ _ k1]
          cases y with
          | normal => exact ofO_at k2
          | ret => exact ofO_at k2
          | exit id => exact k2.elim
          | goto l => exact k2.elim
        · exact hr.elim
      · exact hr.elim
  · simp only [stepB] at hr
    simp only [stepS]
    split at hr
    · rename_i e ps asg body ho
      rw [ho]
      simp only []
      cases hc : Nat.beq args.length ps.length && Nat.blt n hp.nx with
      | false => rw [hc] at hr; exact hr.elim
      | true =>
        rw [hc] at hr
        simp only [cond_true] at hr ⊢
        obtain ⟨⟨y, e1, h1⟩, k1, k2⟩ := Br.at_bind hr
        rw [h.run _ _ _ _ _ k1]
        cases y with
        | normal =>
          simp only [] at k2 ⊢
          split at k2
          · rename_i ho1
            rw [ho1]
            obtain ⟨⟨z, e4, h2⟩, k3, k4⟩ := Br.at_bind k2
            simp only []
            rw [h.run _ _ _ _ _ k3]
            simp only [] at k4 ⊢
            split at k4
            · rename_i ho2
              rw [ho2]
              cases z <;> (cases k4; rfl)
            · exact k4.elim
          · exact k2.elim
        | ret => exact k2.elim
        | exit id => exact k2.elim
        | goto l => exact k2.elim
    · exact hr.elim

theorem bm_sim {X : SumBr} {S : Sum} : ∀ n, BmSim (bmX P X S n) (sm P (orS (sumS X) S) n)
  | 0 => ⟨fun _ _ _ _ _ h => h.elim, fun _ _ _ _ _ _ h => h.elim, fun _ _ _ _ h => h.elim, fun _ _ _ _ h => h.elim⟩
  | n + 1 => step_sim (bm_sim n)

/-- The value of a tree. -/
def Br.val : Br (AV × Hp) → Value
  | .no => undef
  | .leaf (v, _) => (unP v).getD undef
  | .test b t e => bif b then t.val else e.val
  | .ob _ k => k.val
/-- Are all leaves plain values? -/
def Br.fine : Br (AV × Hp) → Bool
  | .no => false
  | .leaf (v, _) => (unP v).isSome
  | .test _ t e => t.fine && e.fine
  | .ob _ _ => false
theorem Br.fine_at : ∀ {B : Br (AV × Hp)}, B.fine = true → ∃ v h, B.At (v, h) ∧ unP v = some B.val
  | .no, h => by cases h
  | .leaf (v, h'), h => by
    simp only [Br.fine, Option.isSome_iff_exists] at h
    obtain ⟨y, hy⟩ := h
    exact ⟨v, h', rfl, by simp [Br.val, hy]⟩
  | .test b t e, h => by
    simp only [Br.fine, Bool.and_eq_true] at h
    cases b with
    | true => obtain ⟨v, h', k1, k2⟩ := Br.fine_at h.1; exact ⟨v, h', .inl ⟨rfl, k1⟩, k2⟩
    | false => obtain ⟨v, h', k1, k2⟩ := Br.fine_at h.2; exact ⟨v, h', .inr ⟨rfl, k1⟩, k2⟩
  | .ob _ _, h => by cases h

mutual
theorem unP_of [Fz] {ρ : Rho} : ∀ (x : AV) (y : Value), unP x = some y → VRel ρ x y
  | .v _, _, h => by simp only [unP] at h; cases h; rfl
  | .s _, _, h => by simp only [unP] at h; cases h; rfl
  | .agg cs, _, h => by
    simp only [unP, Option.map_eq_some_iff] at h
    obtain ⟨ys, h1, rfl⟩ := h
    exact ⟨_, rfl, unPs_of cs ys h1⟩
  | .tup cs, _, h => by
    simp only [unP, Option.map_eq_some_iff] at h
    obtain ⟨ys, h1, rfl⟩ := h
    exact ⟨_, rfl, unPs_of cs ys h1⟩
  | .fn f cs, _, h => by
    cases cs with
    | nil => simp only [unP] at h; cases h; exact ⟨#[], rfl, rfl⟩
    | cons => simp [unP] at h
  | .ptr _ _ _, _, h => by simp [unP] at h
  | .sl _ _ _ _, _, h => by simp [unP] at h
  | .none0 _, _, h => by simp [unP] at h
  | .mp _, _, h => by simp [unP] at h
  | .yld _, _, h => by simp [unP] at h
  | .osl _ _, _, h => by simp [unP] at h
  | .fz _ _ _, _, h => by simp [unP] at h
  | .fzp _ _ _ _ _, _, h => by simp [unP] at h
  | .z0, _, h => by simp [unP] at h
theorem unPs_of [Fz] {ρ : Rho} : ∀ (xs : List AV) (ys : List Value), unPs xs = some ys → VRels ρ xs ys
  | [], _, h => by simp only [unPs] at h; cases h; rfl
  | x :: xs, ys, h => by
    simp only [unPs] at h
    split at h
    · rename_i a b ha hb
      cases h
      exact ⟨a, b, rfl, unP_of x a ha, unPs_of xs b hb⟩
    · cases h
end
/-- A call over plain arguments, known or not, that comes to a plain value. -/
theorem calls_sym [Fz] {S : Sum} (G : Good P S) (hnof : ∀ b, Fz.m b = none) (hgc : Fz.gc = true) {f : FuncId} {args : List AV} {xs : List Value} {v : AV} {u : Value} {h' : Hp} (n : Nat) (hp : unPs args = some xs) (hr : (sm P S n).call f args ⟨.leaf, 0, []⟩ = some (v, h')) (hv : unP v = some u) (w : World) :
    Calls P f xs.toArray w fun e w' => e = .returned u ∧ Fr noB w w' := by
  obtain ⟨_, _, _, h4, _⟩ := sm_ok G.mix G.ok G.sum G.kl n
  have hrel : VRels (fun _ => none) args xs := unPs_of args xs hp
  refine ((h4 f args _ _ h' hr).2 _ w xs.toArray (by simpa using hrel) (HR.start 0 [] (fun b o e => by rw [hnof] at e; cases e) (fun e => by rw [hgc] at e; cases e))).mono ?_
  rintro e w' ⟨y, ρ', L, rfl, hy, hh, hst, hlg⟩
  refine ⟨by rw [unP_rel hv hy], hst.os, hst.tape, hst.output, hst.size, fun b hb _ => hst.block b hb fun n p _ hn => absurd hn (Nat.not_lt_zero _)⟩

/-- **A call over plain arguments, known or not**: its value is that of the tree. -/
theorem calls_open {S : Sum} (hm : P.follows .mixedOrders = true) (ho : P.funcs.all okFunc = true) (hS : SumG P S) {f : FuncId} {args : List AV} {xs : List Value} (n : Nat) (hp : unPs args = some xs) (hr : ((bm P S n).call f args ⟨.leaf, 0, []⟩).fine = true) {u : Value} (hu : ((bm P S n).call f args ⟨.leaf, 0, []⟩).val = u) (w : World) :
    Calls P f xs.toArray w fun e w' => e = .returned u ∧ Fr noB w w' := by
  subst hu
  obtain ⟨v, h', k1, k2⟩ := Br.fine_at hr
  letI : Fz := ⟨fun _ => none, true⟩
  exact calls_sym ⟨hm, ho, hS.ok, hS.kl⟩ (fun _ => rfl) rfl n hp ((bm_sim n).call _ _ _ _ k1) k2 w

/-- A summary of values, known or not. -/
def plT (f : FuncId) (g : List Value → Option Value) : Sum := fun f' args h => bif Nat.beq f' f then (match unPs args with
  | some xs => (match g xs with
    | some v => some (.s v, h)
    | none => none)
  | none => none) else none
theorem plT_ok {f : FuncId} {g : List Value → Option Value} (he : entersB P f = true) (hc : ∀ xs v, g xs = some v → ∀ w, Calls P f xs.toArray w fun e w' => e = .returned v ∧ Fr noB w w') : SumG P (plT f g) := by
  have key : ∀ f' args h v h', plT f g f' args h = some (v, h') → f' = f ∧ h' = h ∧ ∃ xs u, unPs args = some xs ∧ g xs = some u ∧ v = .s u := by
    intro f' args h v h' hr
    unfold plT at hr
    rw [cond_eq_ite] at hr
    split at hr
    · rename_i hf
      split at hr
      · rename_i xs hxs
        split at hr
        · rename_i u hu; cases hr; exact ⟨Nat.eq_of_beq_eq_true hf, rfl, xs, u, hxs, hu, rfl⟩
        · cases hr
      · cases hr
    · cases hr
  refine ⟨@fun _ f' args h v h' hr => ?_, fun f' args h v h' hr => ?_⟩
  · obtain ⟨rfl, rfl, xs, u, hxs, hu, rfl⟩ := key _ _ _ _ _ hr
    refine ⟨enters_of he, fun ρ w ys hys hh => ?_⟩
    have e := unPs_rel hxs hys
    have : ys = xs.toArray := by rw [← e]
    rw [this]
    refine (hc xs u hu w).mono ?_
    rintro en w' ⟨rfl, hf⟩
    exact ⟨u, ρ, [], rfl, rfl, hh.fr hf, .ofFr hh.dm hf, rfl⟩
  · obtain ⟨_, rfl, _⟩ := key _ _ _ _ _ hr
    exact KL.refl _

end Ev
end Go.Proofs.YtffcaapbmkaceaaDoor
