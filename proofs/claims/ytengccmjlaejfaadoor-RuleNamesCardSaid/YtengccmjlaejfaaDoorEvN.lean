/- THE THEOREM: what the evaluator says, the model does. No condition. -/
import Derived.Test.YtengccmjlaejfaaDoorEvG
namespace Go.Proofs.YtengccmjlaejfaaDoor
namespace Ev
open Go.RowKit
variable {P : Program}

/-- Passes through a scope, n at most. -/
def jumps (P : Program) (body : Code) (Q : Exit → Act → World → Prop) : Nat → Code → Act → World → Prop
  | 0, _, _, _ => False
  | n + 1, c, a, w => c.wp P (fun x a w => match x with
    | .goto l => ∃ rest, findLabel body l = some rest ∧ jumps P body Q n rest a w
    | x => Q x a w) a w
theorem wp_scope_jumpsN {body : Code} {Q : Exit → Act → World → Prop} (n : Nat) {a : Act} {w : World} (h : jumps P body Q n body a w) : (Code.scope body).wp P Q a w := by
  intro b k cs
  have key : ∀ n c a w, jumps P body Q n c a w → ∃ e a' w', Q e a' w' ∧ Arrives P (lone (b.at a (.code c :: .inScope body :: k)) cs w) b k cs e a' w' := by
    intro n
    induction n with
    | zero => intro c a w h; exact h.elim
    | succ n ih =>
      intro c a w h
      obtain ⟨e, a₁, w₁, hq, harr⟩ := h b (.inScope body :: k) cs
      cases e with
      | normal => exact ⟨.normal, a₁, w₁, hq, Steps.trans harr (.one step_inScope)⟩
      | exit id => exact ⟨.exit id, a₁, w₁, hq, fun k' hk => harr k' (by simp [exitTo, hk])⟩
      | goto l' =>
        obtain ⟨rest, hf, hj⟩ := hq
        have hg : gotoIn l' (.inScope body :: k) = some (.code rest :: .inScope body :: k) := by simp [gotoIn, hf]
        obtain ⟨e₂, a₂, w₂, hq₂, harr₂⟩ := ih rest a₁ w₁ hj
        exact ⟨e₂, a₂, w₂, hq₂, .of_steps (harr _ hg) harr₂⟩
      | ret => exact ⟨_, a₁, w₁, hq, harr⟩
      | panic ch => exact ⟨_, a₁, w₁, hq, harr⟩
      | outgrown => exact ⟨_, a₁, w₁, hq, harr⟩
  obtain ⟨e, a', w', hq, harr⟩ := key n body a w h
  exact ⟨e, a', w', hq, .of_steps (.one step_scope) harr⟩
theorem ok_label {n : Nat} : ∀ {c rest : Code} {l : Nat}, okCode n c = true → findLabel c l = some rest → okCode n rest = true
  | .seq a b, rest, l, h, hf => by
    simp only [okCode, Bool.and_eq_true] at h
    simp only [findLabel] at hf
    split at hf
    · rename_i r hr; cases hf; simp only [okCode, Bool.and_eq_true]; exact ⟨ok_label h.1 hr, h.2⟩
    · exact ok_label h.2 hf
  | .label l', rest, l, _, hf => by
    simp only [findLabel] at hf
    split at hf
    · cases hf; rfl
    · cases hf
  | .skip, _, _, _, hf => by simp [findLabel] at hf
  | .region .., _, _, _, hf => by simp [findLabel] at hf
  | .cond .., _, _, _, hf => by simp [findLabel] at hf
  | .block .., _, _, _, hf => by simp [findLabel] at hf
  | .loop .., _, _, _, hf => by simp [findLabel] at hf
  | .rangeFunc .., _, _, _, hf => by simp [findLabel] at hf
  | .exit .., _, _, _, hf => by simp [findLabel] at hf
  | .scope .., _, _, _, hf => by simp [findLabel] at hf
  | .goto .., _, _, _, hf => by simp [findLabel] at hf
  | .ret, _, _, _, hf => by simp [findLabel] at hf
  | .refuse .., _, _, _, hf => by simp [findLabel] at hf

/-- The setting of a piece of code. -/
structure At (ρ : Rho) (e : T AV) (h : Hp) (a : Act) (w : World) (n : Nat) : Prop where
  e : ERel ρ e a
  h : HR ρ h w
  d : a.defers = []
  n : n ≤ a.tmps.size

def RunOk (P : Program) (f : Code → T AV → Hp → Option (Ex × T AV × Hp)) : Prop :=
  ∀ c e h x e' h', f c e h = some (x, e', h') → ∀ n, okCode n c = true → ∀ ρ a w Q, At ρ e h a w n → After Q ρ h w n (exOf x) e' h' → c.wp P Q a w
def LoopOk (P : Program) (m : Nat) (f : Code → T AV → Hp → Option (Ex × T AV × Hp)) : Prop :=
  ∀ c e h x e' h', f (.loop c) e h = some (x, e', h') → ∀ n, okCode n c = true → ∀ ρ a w Q, At ρ e h a w n → After Q ρ h w n (exOf x) e' h' → Code.rounds P c Q m a w
def ScpOk (P : Program) (m : Nat) (f : Code → Code → T AV → Hp → Option (Ex × T AV × Hp)) : Prop :=
  ∀ b c e h x e' h', f b c e h = some (x, e', h') → ∀ n, okCode n b = true → okCode n c = true → ∀ ρ a w Q, At ρ e h a w n → After Q ρ h w n (exOf x) e' h' → jumps P b Q m c a w

/-- On, where code goes on. -/
theorem After.on {Q : Exit → Act → World → Prop} {ρ : Rho} {h h' : Hp} {w : World} {n : Nat} {e' : T AV} {x : Exit} (hk : ∀ ρ' a' w' L, At ρ' e' h' a' w' n → Stepped ρ h.nx L w ρ' h'.nx w' → h'.lg = L ++ h.lg → Q x a' w') : After Q ρ h w n x e' h' :=
  fun ρ' a' w' L h1 h2 h3 h4 h5 h6 => hk ρ' a' w' L ⟨h1, h2, h5, h6⟩ h3 h4

theorem step_run {S : Sum} {R : Sm} {m : Nat} (hmix : P.follows .mixedOrders = true) (hKc : SumKL R.call) (hR : RunOk P R.run) (hL : LoopOk P m R.run) (hJ : ScpOk P m R.scp) (hC : SumOk P R.call) : RunOk P (stepS P S R).run ∧ LoopOk P (m + 1) (stepS P S R).run := by
  have hloop : LoopOk P (m + 1) (stepS P S R).run := by
    intro c e h x e' h' hr n hn ρ a w Q hat hk
    simp only [stepS] at hr
    show c.wp P (Exit.then (Code.rounds P c Q m) Q) a w
    split at hr
    · rename_i e1 h1 h0
      refine hR c e h _ _ _ h0 n hn ρ a w _ hat (.on fun ρ1 a1 w1 L hat1 hst hlg => ?_)
      exact hL c e1 h1 x e' h' hr n hn ρ1 a1 w1 Q hat1 (hk.step hst hlg)
    · rename_i h0
      refine hR c e h _ _ _ hr n hn ρ a w _ hat ?_
      cases x with
      | normal => exact absurd hr (h0 e' h')
      | exit id => exact hk
      | goto l => exact hk
      | ret => exact hk
  refine ⟨?_, hloop⟩
  intro c e h x e' h' hr n hn ρ a w Q hat hk
  cases c with
  | skip => simp only [stepS] at hr; cases hr; exact wp_skip (hk ρ a w [] hat.e hat.h (.refl hat.h.dm) rfl hat.d hat.n)
  | label l => simp only [stepS] at hr; cases hr; exact wp_label (hk ρ a w [] hat.e hat.h (.refl hat.h.dm) rfl hat.d hat.n)
  | ret => simp only [stepS] at hr; cases hr; exact wp_ret (hk ρ a w [] hat.e hat.h (.refl hat.h.dm) rfl hat.d hat.n)
  | exit id => simp only [stepS] at hr; cases hr; exact wp_exit (hk ρ a w [] hat.e hat.h (.refl hat.h.dm) rfl hat.d hat.n)
  | goto l => simp only [stepS] at hr; cases hr; exact wp_goto (hk ρ a w [] hat.e hat.h (.refl hat.h.dm) rfl hat.d hat.n)
  | region id ops d =>
    simp only [stepS] at hr
    cases d with
    | true =>
      simp only [cond_true, Option.map_eq_some_iff, Prod.exists, Prod.mk.injEq] at hr
      obtain ⟨e1, h1, hs, rfl, rfl, rfl⟩ := hr
      exact drawn_wp hmix hC hKc hn hs hat.e hat.h hat.d hat.n hk
    | false =>
      simp only [cond_false, Option.map_eq_some_iff, Prod.exists, Prod.mk.injEq] at hr
      obtain ⟨e1, h1, hs, rfl, rfl, rfl⟩ := hr
      refine wp_region ?_
      have := seqOps_wp hC hn (Q := Q) ops.toList 0 e e1 h h1 ρ a w (by simp) hs hat.e hat.h hat.d hat.n hk
      rw [List.range_eq_range']
      simpa using this
  | seq c1 c2 =>
    simp only [okCode, Bool.and_eq_true] at hn
    simp only [stepS] at hr
    refine wp_seq ?_
    split at hr
    · rename_i e1 h1 h0
      refine hR c1 e h _ _ _ h0 n hn.1 ρ a w _ hat (.on fun ρ1 a1 w1 L hat1 hst hlg => ?_)
      exact hR c2 e1 h1 x e' h' hr n hn.2 ρ1 a1 w1 Q hat1 (hk.step hst hlg)
    · rename_i h0
      refine hR c1 e h _ _ _ hr n hn.1 ρ a w _ hat ?_
      cases x with
      | normal => exact absurd hr (h0 e' h')
      | exit id => exact hk
      | goto l => exact hk
      | ret => exact hk
  | cond o c1 c2 =>
    simp only [okCode, Bool.and_eq_true] at hn
    simp only [stepS] at hr
    split at hr
    · rename_i b hb
      have hv := opnd_rel hat.e o
      rw [hb] at hv
      refine wp_cond (t := b) hv ?_
      cases b with
      | true => exact hR c1 e h x e' h' hr n hn.1 ρ a w Q hat hk
      | false => exact hR c2 e h x e' h' hr n hn.2 ρ a w Q hat hk
    · cases hr
  | block id c =>
    simp only [stepS] at hr
    refine wp_block ?_
    split at hr
    · rename_i id' e1 h1 h0
      refine hR c e h _ _ _ h0 n hn ρ a w _ hat ?_
      cases hb : Nat.beq id' id with
      | true =>
        simp only [hb, cond_true] at hr
        cases hr
        have : id' = id := Nat.eq_of_beq_eq_true hb
        refine fun ρ1 a1 w1 L h1 h2 h3 h4 h5 h6 => ?_
        show (if id' = id then Q .normal a1 w1 else Q (.exit id') a1 w1)
        rw [if_pos this]
        exact hk ρ1 a1 w1 L h1 h2 h3 h4 h5 h6
      | false =>
        simp only [hb, cond_false] at hr
        cases hr
        have : ¬ id' = id := fun c => by subst c; simp at hb
        refine fun ρ1 a1 w1 L h1 h2 h3 h4 h5 h6 => ?_
        show (if id' = id then Q .normal a1 w1 else Q (.exit id') a1 w1)
        rw [if_neg this]
        exact hk ρ1 a1 w1 L h1 h2 h3 h4 h5 h6
    · rename_i h0
      refine hR c e h _ _ _ hr n hn ρ a w _ hat ?_
      cases x with
      | normal => exact hk
      | exit id => exact absurd hr (h0 id e' h')
      | goto l => exact hk
      | ret => exact hk
  | loop c => exact wp_loop_rounds (m + 1) (hloop c e h x e' h' hr n hn ρ a w Q hat hk)
  | scope c =>
    simp only [stepS] at hr
    exact wp_scope_jumpsN m (hJ c c e h x e' h' hr n hn hn ρ a w Q hat hk)
  | rangeFunc _ _ _ _ => simp [stepS] at hr
  | refuse _ => simp [stepS] at hr

theorem step_scp {S : Sum} {R : Sm} {m : Nat} (hR : RunOk P R.run) (hJ : ScpOk P m R.scp) : ScpOk P (m + 1) (stepS P S R).scp := by
  intro b c e h x e' h' hr n hb hn ρ a w Q hat hk
  simp only [stepS] at hr
  show c.wp P _ a w
  split at hr
  · rename_i l e1 h1 h0
    split at hr
    · rename_i rest hf
      refine hR c e h _ _ _ h0 n hn ρ a w _ hat (.on fun ρ1 a1 w1 L hat1 hst hlg => ?_)
      exact ⟨rest, hf, hJ b rest e1 h1 x e' h' hr n hb (ok_label hb hf) ρ1 a1 w1 Q hat1 (hk.step hst hlg)⟩
    · cases hr
  · rename_i h0
    refine hR c e h _ _ _ hr n hn ρ a w _ hat ?_
    cases x with
    | normal => exact hk
    | exit id => exact hk
    | goto l => exact absurd hr (h0 l e' h')
    | ret => exact hk

theorem step_call {S : Sum} {R : Sm} (hP : P.funcs.all okFunc = true) (hS : SumOk P S) (hR : RunOk P R.run) (hK : ∀ c e h x e' h', R.run c e h = some (x, e', h') → KL h h') : SumOk P (stepS P S R).call := by
  intro f args h v h' hr
  simp only [stepS] at hr
  split at hr
  · rename_i r hs; cases hr; exact hS _ _ _ _ _ hs
  · split at hr
    · rename_i fn hfn
      split at hr
      · rename_i c hb
        have hok : okFunc fn = true := by
          rw [Array.all_eq_true] at hP
          obtain ⟨hi, rfl⟩ := Array.getElem?_eq_some_iff.1 hfn
          exact hP f hi
        unfold okFunc at hok
        simp only [hb, Bool.and_eq_true] at hok
        refine ⟨⟨fn, hfn, by rw [hb]; rfl, fun e => by rw [e] at hok; simp at hok⟩, ?_⟩
        have body : ∀ (x : Ex) (e1 : T AV) (h1 : Hp), (x = .normal ∨ x = .ret) → R.run c (params args) { ob := h.ob, nx := h.nx, lg := [] } = some (x, e1, h1) → (resA P h1 e1 fn.results.toList).map (fun l => (one l, leave h.nx h.lg (one l) h1)) = some (v, h') → CallOk P f args h v h' := by
          intro x e1 h1 hx hrun hres ρ w ys hys hh
          simp only [Option.map_eq_some_iff, Prod.mk.injEq] at hres
          obtain ⟨l, hl, rfl, rfl⟩ := hres
          refine calls_of_wp hfn hb ?_
          refine hR c _ _ _ _ _ hrun fn.ntmps hok.2 ρ _ w _ ⟨params_rel hys _, hh, rfl, by simp; omega⟩ ?_
          intro ρ' a' w' L he' hh' hst hlg hd' hn'
          obtain ⟨y, hy, hvr⟩ := results_run (P := P) he' hh' hl
          obtain ⟨ρ'', L', r1, r2, r3, r4⟩ := leave_ok (v := one l) hh (hK _ _ _ _ _ _ hrun) hvr hh' hst (by simpa using hlg)
          rcases hx with rfl | rfl
          · exact ⟨hd', y, hy, y, ρ'', L', rfl, r1, r2, r3, r4⟩
          · exact ⟨hd', y, hy, y, ρ'', L', rfl, r1, r2, r3, r4⟩
        split at hr
        · rename_i e1 h1 h0; exact body _ e1 h1 (.inl rfl) h0 hr
        · rename_i e1 h1 h0; exact body _ e1 h1 (.inr rfl) h0 hr
        · cases hr
      · cases hr
    · cases hr

theorem sm_ok {S : Sum} (hmix : P.follows .mixedOrders = true) (hP : P.funcs.all okFunc = true) (hS : SumOk P S) (hK : SumKL S) : ∀ n, RunOk P (sm P S n).run ∧ LoopOk P n (sm P S n).run ∧ ScpOk P n (sm P S n).scp ∧ SumOk P (sm P S n).call
  | 0 => ⟨fun _ _ _ _ _ _ h => by simp [sm] at h, fun _ _ _ _ _ _ h => by simp [sm] at h, fun _ _ _ _ _ _ _ h => by simp [sm] at h, fun _ _ _ _ _ h => by simp [sm] at h⟩
  | n + 1 => by
    obtain ⟨h1, h2, h3, h4⟩ := sm_ok hmix hP hS hK n
    obtain ⟨r1, r2⟩ := step_run (S := S) hmix (sm_kl hK n).2.2 h1 h2 h3 h4
    exact ⟨r1, r2, step_scp h1 h3, step_call hP hS h1 (sm_kl hK n).1⟩

/-- What is to be known of a program and of the summaries. -/
structure Good (P : Program) (S : Sum) : Prop where
  mix : P.follows .mixedOrders = true
  ok : P.funcs.all okFunc = true
  sum : SumOk P S
  kl : SumKL S

/-- The empty heap stands in every world. -/
theorem HR.empty (w : World) : HR (fun _ => none) ⟨.leaf, 0, []⟩ w :=
  ⟨fun n p e => (by cases e), fun n o e => (by simp [T.get] at e), fun n m p q o o' _ e => (by cases e), fun n m p q o o' e => (by cases e), fun n m p q o o' _ e => (by cases e)⟩

/-- **A call over plain arguments that comes to a plain value**: new memory alone is made. -/
theorem calls_plain {S : Sum} (G : Good P S) {f : FuncId} {args : List AV} {xs : List Value} {v : Value} {h' : Hp} (n : Nat) (hp : plains args = some xs) (hr : (sm P S n).call f args ⟨.leaf, 0, []⟩ = some (.v v, h')) (w : World) :
    Calls P f xs.toArray w fun e w' => e = .returned v ∧ Fr noB w w' := by
  obtain ⟨_, _, _, h4⟩ := sm_ok G.mix G.ok G.sum G.kl n
  have hrel : ∀ {args : List AV} {xs : List Value}, plains args = some xs → VRels (fun _ => none) args xs := by
    intro args
    induction args with
    | nil => intro xs h; simp only [plains] at h; cases h; rfl
    | cons x r ih =>
      intro xs h
      simp only [plains] at h
      split at h
      · rename_i a b ha hb
        cases h
        refine ⟨a, b, rfl, ?_, ih hb⟩
        cases x <;> simp only [AV.plain?] at ha
        case v => cases ha; rfl
        case fn fid cs =>
          cases cs with
          | nil => cases ha; exact ⟨#[], rfl, rfl⟩
          | cons => simp at ha
        all_goals simp at ha
      · cases h
  refine ((h4 f args _ _ h' hr).2 _ w xs.toArray (by simpa using hrel hp) (HR.empty w)).mono ?_
  rintro e w' ⟨y, ρ', L, rfl, hy, hh, hst, hlg⟩
  refine ⟨by rw [hy], hst.os, hst.tape, hst.output, hst.size, fun b hb _ => hst.block b hb fun n p _ hn => absurd hn (Nat.not_lt_zero _)⟩

end Ev
end Go.Proofs.YtengccmjlaejfaaDoor
