/- THE THEOREM: what the evaluator says, the model does. No condition. -/
import Derived.Test.YtffcaapbmkaceaaDoorEvI
namespace Go.Proofs.YtffcaapbmkaceaaDoor
namespace Ev
open Go.RowKit
set_option linter.unusedSectionVars false
variable [Fz]
variable {P : Program}

theorem stepR_scope {c : Code} {b : Frame} {a : Act} {k : List Item} {cs : List Frame} {w : World} : step P (lone (b.atR a (.code (.scope c) :: k)) cs w) = .next (lone (b.atR a (.code c :: .inScope c :: k)) cs w) :=
  step_lone_go (by simp [stepG, stepG.exec, Frame.atR])
theorem stepR_inScope {c : Code} {b : Frame} {a : Act} {k : List Item} {cs : List Frame} {w : World} : step P (lone (b.atR a (.inScope c :: k)) cs w) = .next (lone (b.atR a k) cs w) :=
  step_lone_go (by simp [stepG, stepG.exec, Frame.atR])
/-- Passes through a scope, n at most. -/
def jumps (F : Fence) (m : Nat) (P : Program) (body : Code) (Q : Exit → Act → World → Prop) : Nat → Code → Act → World → Prop
  | 0, _, _, _ => False
  | n + 1, c, a, w => c.wpIn F m P (fun x a w => match x with
    | .goto l => ∃ rest, findLabel body l = some rest ∧ jumps F m P body Q n rest a w
    | x => Q x a w) a w
theorem wpIn_scope_jumpsN {F : Fence} {m : Nat} {body : Code} {Q : Exit → Act → World → Prop} (n : Nat) {a : Act} {w : World} (h : jumps F m P body Q n body a w) : (Code.scope body).wpIn F m P Q a w := by
  intro b k cs hro hb hr
  have key : ∀ n c a w, jumps F m P body Q n c a w → ∃ e a' w', Q e a' w' ∧ ArrivesIn (Machine.fenced P F) P (lone (b.atR a (.code c :: .inScope body :: k)) cs w) b k cs e a' w' := by
    intro n
    induction n with
    | zero => intro c a w h; exact h.elim
    | succ n ih =>
      intro c a w h
      obtain ⟨e, a₁, w₁, hq, harr⟩ := h b (.inScope body :: k) cs hro hb hr
      cases e with
      | normal => exact ⟨.normal, a₁, w₁, hq, StepsIn.trans harr (.one (fenced_calm hb hr rfl) stepR_inScope)⟩
      | exit id => exact ⟨.exit id, a₁, w₁, hq, fun k' hk => harr.1 k' (by simp [exitTo, hk]), fun hr' hk => harr.2 hr' (by simp [exitTo, hk])⟩
      | goto l' =>
        obtain ⟨rest, hf, hj⟩ := hq
        have hg : gotoIn l' (.inScope body :: k) = some (.code rest :: .inScope body :: k) := by simp [gotoIn, hf]
        obtain ⟨e₂, a₂, w₂, hq₂, harr₂⟩ := ih rest a₁ w₁ hj
        exact ⟨e₂, a₂, w₂, hq₂, .of_steps (harr.1 _ hg) harr₂⟩
      | ret => exact ⟨_, a₁, w₁, hq, harr⟩
      | panic ch => exact ⟨_, a₁, w₁, hq, harr⟩
      | outgrown => exact ⟨_, a₁, w₁, hq, harr⟩
  obtain ⟨e, a', w', hq, harr⟩ := key n body a w h
  exact ⟨e, a', w', hq, .of_steps (.one (fenced_calm hb hr rfl) stepR_scope) harr⟩
theorem ok_label {n : Nat} : ∀ {c rest : Code} {l : Nat}, okCode n c = true → findLabel c l = some rest → okCode n rest = true
  | .seq a b, rest, l, h, hf => by
    simp only [okCode, Bool.and_eq_true] at h
    simp only [findLabel] at hf
    split at hf
    · rename_i r hr; cases hf; simp only [okCode, Bool.and_eq_true]; exact ⟨ok_label h.1 hr, h.2⟩
    · exact ok_label h.2 hf
  | .label l', rest, l, _, hf => by
    simp only [findLabel] at hf
    split at hf
    · cases hf; rfl
    · cases hf
  | .skip, _, _, _, hf => by simp [findLabel] at hf
  | .region .., _, _, _, hf => by simp [findLabel] at hf
  | .cond .., _, _, _, hf => by simp [findLabel] at hf
  | .block .., _, _, _, hf => by simp [findLabel] at hf
  | .loop .., _, _, _, hf => by simp [findLabel] at hf
  | .rangeFunc .., _, _, _, hf => by simp [findLabel] at hf
  | .exit .., _, _, _, hf => by simp [findLabel] at hf
  | .scope .., _, _, _, hf => by simp [findLabel] at hf
  | .goto .., _, _, _, hf => by simp [findLabel] at hf
  | .ret, _, _, _, hf => by simp [findLabel] at hf
  | .refuse .., _, _, _, hf => by simp [findLabel] at hf

/-- The setting of a piece of code. -/
structure At (ρ : Rho) (e : T AV) (h : Hp) (a : Act) (w : World) (n B : Nat) : Prop where
  e : ERel ρ e a
  h : HR ρ h w
  d : Marks B ρ w a.defers
  n : n ≤ a.tmps.size
  b : B ≤ w.heap.size

def RunOk (P : Program) (f : Bool → Code → T AV → Hp → Option (Ex × T AV × Hp)) : Prop :=
  ∀ r c e h x e' h', f r c e h = some (x, e', h') → ∀ n, okCode n c = true → ∀ B ρ a w Q, At ρ e h a w n B → After Q ρ h w n B (exOf x) e' h' → ∀ ro m, (ro.isSome = true → r = true) → c.wpIn (FR ro) m P Q a w
def LoopOk (P : Program) (m : Nat) (f : Bool → Code → T AV → Hp → Option (Ex × T AV × Hp)) : Prop :=
  ∀ r c e h x e' h', f r (.loop c) e h = some (x, e', h') → ∀ n, okCode n c = true → ∀ B ρ a w Q, At ρ e h a w n B → After Q ρ h w n B (exOf x) e' h' → ∀ ro mr, (ro.isSome = true → r = true) → Code.roundsIn (FR ro) mr P c Q m a w
def ScpOk (P : Program) (m : Nat) (f : Bool → Code → Code → T AV → Hp → Option (Ex × T AV × Hp)) : Prop :=
  ∀ r b c e h x e' h', f r b c e h = some (x, e', h') → ∀ n, okCode n b = true → okCode n c = true → ∀ B ρ a w Q, At ρ e h a w n B → After Q ρ h w n B (exOf x) e' h' → ∀ ro mr, (ro.isSome = true → r = true) → jumps (FR ro) mr P b Q m c a w

/-- On, where code goes on. -/
theorem After.on {Q : Exit → Act → World → Prop} {ρ : Rho} {h h' : Hp} {w : World} {n B : Nat} {e' : T AV} {x : Exit} (hB : B ≤ w.heap.size) (hk : ∀ ρ' a' w' L, At ρ' e' h' a' w' n B → Stepped ρ h.nx L w ρ' h'.nx w' → h'.lg = L ++ h.lg → Q x a' w') : After Q ρ h w n B x e' h' :=
  fun ρ' a' w' L h1 h2 h3 h4 h5 h6 => hk ρ' a' w' L ⟨h1, h2, h5, h6, Nat.le_trans hB h3.size⟩ h3 h4

/-- A loop's record is set anew. -/
theorem set_loop {ρ : Rho} {h : Hp} {w : World} (hh : HR ρ h w) {n : Nat} {st : LoopState} {e : T AV} {ps : List Tmp} {asg body : Code} {pe : Option Ex} (hn : n < h.nx) (ho : h.ob.get n = some (.loop st e ps asg body pe)) :
    ∃ p fn tmps D N, ρ n = some p ∧ w.heap[p.b]? = some (.loop (lrec fn tmps ps asg body D st pe)) ∧ (∀ t, VRel ρ ((e.get t).getD (.v undef)) (tmps.getD t undef)) ∧ N ≤ tmps.size ∧ okCode N asg = true ∧ okCode N body = true ∧ (∀ q ∈ ps, q < N) ∧
      ∀ st' pe', HR ρ (h.set n (.loop st' e ps asg body pe')) (w.putObj p.b (.loop (lrec fn tmps ps asg body D st' pe'))) ∧
        Stepped ρ h.nx [n] w ρ (h.set n (.loop st' e ps asg body pe')).nx (w.putObj p.b (.loop (lrec fn tmps ps asg body D st' pe'))) := by
  obtain ⟨p, hp, fn, tmps, D, N, h1, h2, h3, h4, h5, h6⟩ := hh.obj n _ ho hn
  refine ⟨p, fn, tmps, D, N, hp, h1, h2, h3, h4, h5, h6, fun st' pe' => ?_⟩
  have hb := (hh.dom n p hp).2
  have hsz : (w.putObj p.b (.loop (lrec fn tmps ps asg body D st' pe'))).heap.size = w.heap.size := by simp [World.putObj]
  have hrel := HRel.setObj hh hp ho rfl (o' := .loop st' e ps asg body pe') rfl hsz (fun b hb => World.putObj_heap_other hb) ⟨fn, tmps, D, N, World.putObj_heap_same hb, h2, h3, h4, h5, h6⟩
  refine ⟨?_, ⟨Nat.le_refl _, fun _ _ => rfl, fun m q hm e => absurd (hh.dm m q e) (by omega), Nat.le_of_eq hsz.symm, rfl, rfl, rfl, fun b _ hne => World.putObj_heap_other fun c => hne n p (by simp) hn hp c.symm⟩⟩
  unfold HR Hp.set Hp.log Hp.put
  rw [T.get_put]
  exact hrel

theorem Marks.lt {B : Nat} {ρ : Rho} {w : World} : ∀ {ds : List Deferred}, Marks B ρ w ds → ∀ d ∈ ds, d.target ≠ .collected w.heap.size
  | [], _, d, hd => by simp at hd
  | d0 :: ds, ⟨⟨D, h1, h2, h3, h4, h5⟩, h6⟩, d, hd => by
    rcases List.mem_cons.1 hd with rfl | hd
    · have hlt : D < w.heap.size := by
        rcases Nat.lt_or_ge D w.heap.size with c | c
        · exact c
        · rw [Array.getElem?_eq_none c] at h3; cases h3
      rw [h1]
      intro c
      injection c with c
      omega
    · exact Marks.lt h6 d hd
/-- **A range over a function.** -/
theorem range_ok {S : Sum} {R : Sm} (hC : SumOk P R.call) {r : Bool} {g : Operand} {ps : Array Tmp} {asg body : Code} {e : T AV} {h : Hp} {x : Ex} {e' : T AV} {h' : Hp} (hr : (stepS P S R).run r (.rangeFunc g ps asg body) e h = some (x, e', h')) {n : Nat} (hn : okCode n (.rangeFunc g ps asg body) = true)
    {B : Nat} {ρ : Rho} {a : Act} {w : World} {Q : Exit → Act → World → Prop} (hat : At ρ e h a w n B) (hk : After Q ρ h w n B (exOf x) e' h') (ro : Option Nat) (m : Nat) (hro : ro.isSome = true → r = true) : (Code.rangeFunc g ps asg body).wpIn (FR ro) m P Q a w := by
  simp only [okCode, Bool.and_eq_true] at hn
  simp only [stepS, cond_eq_ite] at hr
  split at hr
  · cases hr
  rename_i hrf
  obtain rfl : ro = none := by cases ro with | none => rfl | some l => exact absurd (hro rfl) hrf
  split at hr
  · rename_i f cs hg
    have hgv := opnd_rel hat.e g
    rw [hg] at hgv
    obtain ⟨lb, hgv, hlb⟩ := hgv
    split at hr
    · rename_i v h2 hcall
      obtain ⟨hent, hck⟩ := hC _ _ _ _ _ hcall
      have hsz : ((w.alloc (.deferred (some []))).heap).size = w.heap.size + 1 := World.size_alloc _ _
      obtain ⟨ρ1, hρ1⟩ : ∃ ρ1, ρ1 = upd ρ h.nx ⟨w.heap.size + 1, 0, 0, 0⟩ := ⟨_, rfl⟩
      refine wpIn_rangeFunc (F := FR none) ?_
      intro fn _
      obtain ⟨w1, hw1⟩ : ∃ w1, w1 = (w.alloc (.deferred (some []))).alloc (.loop (lrec fn a.tmps ps.toList asg body w.heap.size .ready none)) := ⟨_, rfl⟩
      have hs1 : w1.heap.size = w.heap.size + 2 := by rw [hw1, World.size_alloc, hsz]
      have hold : ∀ b, b < w.heap.size → w1.heap[b]? = w.heap[b]? := fun b hb => by
        rw [hw1, Below.heap_alloc _ _ _ (by rw [hsz]; omega), Below.heap_alloc _ _ _ hb]
      have hD : w1.heap[w.heap.size]? = some (.deferred (some [])) := by
        rw [hw1, Below.heap_alloc _ _ _ (by rw [hsz]; omega)]; exact World.alloc_heap_new w _
      have hL : w1.heap[w.heap.size + 1]? = some (.loop (lrec fn a.tmps ps.toList asg body w.heap.size .ready none)) := by
        have := World.alloc_heap_new (w.alloc (.deferred (some []))) (.loop (lrec fn a.tmps ps.toList asg body w.heap.size .ready none))
        rw [hsz] at this
        rw [hw1]; exact this
      have hsub : Sub ρ ρ1 := fun k q hq => by have := hat.h.dm k q hq; rw [hρ1, upd_ne _ _ (by omega)]; exact hq
      have hR1 : HR ρ1 (h.new (.loop .ready e ps.toList asg body none)) w1 := by
        have := HRel.newObj hat.h (w' := w1) (o := .loop .ready e ps.toList asg body none) (p := ⟨w.heap.size + 1, 0, 0, 0⟩) hold (by show w.heap.size ≤ w.heap.size + 1; omega) (by show w.heap.size + 1 < _; omega)
          ⟨fn, a.tmps, w.heap.size, n, hL, fun t => by rw [← hρ1]; exact (hat.e t).mono hsub, hat.n, hn.1.1, hn.1.2, fun q hq => by have := Array.all_eq_true_iff_forall_mem.1 hn.2 q (by simpa using hq); simpa using this⟩ rfl
        unfold HR Hp.new
        rw [T.get_put, hρ1]
        exact this
      have hst1 : Stepped ρ h.nx [] w ρ1 (h.nx + 1) w1 := by
        refine ⟨by omega, fun k hk' => by rw [hρ1, upd_ne _ _ (by omega)], fun k q hk' hq => .inl ?_, by omega, by rw [hw1]; rfl, by rw [hw1]; rfl, by rw [hw1]; rfl, fun b hb _ => hold b hb⟩
        by_cases c : k = h.nx
        · subst c; rw [hρ1, upd_same] at hq; cases hq; show w.heap.size ≤ w.heap.size + 1; omega
        · rw [hρ1, upd_ne _ _ c] at hq; exact absurd (hat.h.dm k q hq) (by omega)
      obtain ⟨ys, hys⟩ : ∃ ys : Array Value, ys = #[.func (.yield (w.heap.size + 1)) #[] #[]] ++ lb := ⟨_, rfl⟩
      have hrel : VRels ρ1 (.yld h.nx :: cs) ys.toList := by
        rw [hys, Array.toList_append]
        exact ⟨_, _, rfl, ⟨⟨w.heap.size + 1, 0, 0, 0⟩, by rw [hρ1, upd_same], rfl⟩, VRels.mono hsub _ _ hlb⟩
      have hcalls := hck ρ1 w1 ys hrel hR1
      have e1 : (Instr.enterLoop fn a.tmps ps asg body (FR none).round).run P w = .ok (w.heap.size + 1, [{ target := .collected w.heap.size, args := #[] }]) w1 := by
        rw [FR_round, run_enterLoop_outer, hw1]
        simp [lrec]
      have e2 : (resolve a.eval (rangeCall g (w.heap.size + 1)) 0).run P w1 = .ok { target := .fn (.func f) lb, args := #[.func (.yield (w.heap.size + 1)) #[] #[]] } w1 := by
        simp only [resolve, hgv]
        simp [go_sem]
      have e3 : (invoke (.fn (.func f) lb) #[.func (.yield (w.heap.size + 1)) #[] #[]]).run P w1 = .ok (.enter f ys) w1 := by
        rw [hys]
        simp [invoke, go_sem, hent.run]
      refine ⟨w.heap.size + 1, [{ target := .collected w.heap.size, args := #[] }], w1, { target := .fn (.func f) lb, args := #[.func (.yield (w.heap.size + 1)) #[] #[]] }, w1, f, ys, w1, e1, e2, fun _ _ => FR_fn _ _, e3, fun hd => (by rw [FR_depth] at hd; cases hd), callsFR (hcalls.mono ?_)⟩
      have hm1 : Marks B ρ1 w1 ({ target := .collected w.heap.size, args := #[] } :: a.defers) := by
        refine ⟨⟨w.heap.size, rfl, hat.b, hD, fun k q hq => ?_, hat.d.lt⟩, hat.d.step hst1⟩
        by_cases c : k = h.nx
        · subst c; rw [hρ1, upd_same] at hq; cases hq; show w.heap.size + 1 ≠ w.heap.size; omega
        · rw [hρ1, upd_ne _ _ c] at hq; have := (hat.h.dom k q hq).2; omega
      rintro en w2 ⟨y, ρ2, L, rfl, _, hh2, hst2, hlg2⟩
      have hst2 : Stepped ρ1 (h.nx + 1) L w1 ρ2 h2.nx w2 := hst2
      have hlg2 : h2.lg = L ++ h.lg := hlg2
      have hn2 : h.nx < h2.nx := Nat.lt_of_lt_of_le (Nat.lt_succ_self _) hst2.le
      have hat2 : ∀ st pe e2 ps2 asg2 body2, h2.ob.get h.nx = some (.loop st e2 ps2 asg2 body2 pe) → ∃ r : Loop, w2.heap[w.heap.size + 1]? = some (.loop r) ∧ r.state = st ∧ r.pending = pe.map exC ∧
          ∀ Q', After Q' ρ h w n B (exOf x) e (h2.set h.nx (.loop .exhausted e2 ps2 asg2 body2 pe)) → Q' (exOf x) { a with defers := { target := .collected w.heap.size, args := #[] } :: a.defers } (w2.putObj (w.heap.size + 1) (.loop { r with state := .exhausted })) := by
        intro st pe e2 ps2 asg2 body2 ho
        obtain ⟨p, fn2, tmps2, D2, N2, hp, hl, _, _, _, _, _, hset⟩ := set_loop hh2 hn2 ho
        have hp1 : p = ⟨w.heap.size + 1, 0, 0, 0⟩ := by
          have := hst2.old h.nx (Nat.lt_succ_self _)
          rw [hp, hρ1, upd_same] at this
          cases this; rfl
        subst hp1
        obtain ⟨k1, k2⟩ := hset .exhausted pe
        refine ⟨_, hl, rfl, rfl, fun Q' hk' => ?_⟩
        have hst3 := hst1.trans (hst2.trans k2)
        refine hk' ρ2 _ _ _ (fun t => (hat.e t).mono (hst3.sub hat.h.dm)) k1 hst3 ?_ (hm1.step (hst2.trans k2)) hat.n
        show h.nx :: h2.lg = _
        rw [hlg2]
        simp
      split at hr
      · rename_i e2 ps2 asg2 body2 ho
        cases hr
        obtain ⟨rr, q1, q2, q3, q4⟩ := hat2 _ _ _ _ _ _ ho
        have h4 := q4 Q hk
        refine ⟨rr.pending, _, run_endLoop q1 (by rw [q2]; simp), ?_⟩
        cases rr
        cases q3
        exact h4
      · rename_i e2 ps2 asg2 body2 x' ho
        cases hr
        obtain ⟨rr, q1, q2, q3, q4⟩ := hat2 _ _ _ _ _ _ ho
        have h4 := q4 Q hk
        refine ⟨rr.pending, _, run_endLoop q1 (by rw [q2]; simp), ?_⟩
        cases rr
        cases q3
        cases x with
        | normal => exact wpIn_skip h4
        | exit id => exact wpIn_exit h4
        | goto l => exact wpIn_goto h4
        | ret => exact wpIn_ret h4
      · cases hr
    · cases hr
  · cases hr

theorem step_run {S : Sum} {R : Sm} {m : Nat} (hmix : P.follows .mixedOrders = true) (hKc : SumKL R.call) (hR : RunOk P R.run) (hL : LoopOk P m R.run) (hJ : ScpOk P m R.scp) (hC : SumOk P R.call) (hY : YldOk P R.yld) : RunOk P (stepS P S R).run ∧ LoopOk P (m + 1) (stepS P S R).run := by
  have hloop : LoopOk P (m + 1) (stepS P S R).run := by
    intro r c e h x e' h' hr n hn B ρ a w Q hat hk ro mr hro
    simp only [stepS] at hr
    show c.wpIn (FR ro) mr P (Exit.then (Code.roundsIn (FR ro) mr P c Q m) Q) a w
    split at hr
    · rename_i e1 h1 h0
      refine hR r c e h _ _ _ h0 n hn B ρ a w _ hat (.on hat.b fun ρ1 a1 w1 L hat1 hst hlg => ?_) ro mr hro
      exact hL r c e1 h1 x e' h' hr n hn B ρ1 a1 w1 Q hat1 (hk.step hst hlg) ro mr hro
    · rename_i h0
      refine hR r c e h _ _ _ hr n hn B ρ a w _ hat ?_ ro mr hro
      cases x with
      | normal => exact absurd hr (h0 e' h')
      | exit id => exact hk
      | goto l => exact hk
      | ret => exact hk
  refine ⟨?_, hloop⟩
  intro r c e h x e' h' hr n hn B ρ a w Q hat hk ro mr hro
  cases c with
  | skip => simp only [stepS] at hr; cases hr; exact wpIn_skip (hk ρ a w [] hat.e hat.h (.refl hat.h.dm) rfl hat.d hat.n)
  | label l => simp only [stepS] at hr; cases hr; exact wpIn_label (hk ρ a w [] hat.e hat.h (.refl hat.h.dm) rfl hat.d hat.n)
  | ret => simp only [stepS] at hr; cases hr; exact wpIn_ret (hk ρ a w [] hat.e hat.h (.refl hat.h.dm) rfl hat.d hat.n)
  | exit id => simp only [stepS] at hr; cases hr; exact wpIn_exit (hk ρ a w [] hat.e hat.h (.refl hat.h.dm) rfl hat.d hat.n)
  | goto l => simp only [stepS] at hr; cases hr; exact wpIn_goto (hk ρ a w [] hat.e hat.h (.refl hat.h.dm) rfl hat.d hat.n)
  | region id ops d =>
    simp only [stepS] at hr
    cases d with
    | true =>
      simp only [cond_true, Option.map_eq_some_iff, Prod.exists, Prod.mk.injEq] at hr
      obtain ⟨e1, h1, hs, rfl, rfl, rfl⟩ := hr
      exact drawnT_wp hmix hC hKc hY hn hs hat.e hat.h hat.d hat.n hk
    | false =>
      simp only [cond_false, Option.map_eq_some_iff, Prod.exists, Prod.mk.injEq] at hr
      obtain ⟨e1, h1, hs, rfl, rfl, rfl⟩ := hr
      refine wpIn_region ?_
      have := seqOps_wp (ro := ro) (m := mr) hC hY hn (Q := Q) ops.toList 0 e e1 h h1 ρ a w (by simp) hs hat.e hat.h hat.d hat.n hk
      rw [List.range_eq_range']
      simpa using this
  | seq c1 c2 =>
    simp only [okCode, Bool.and_eq_true] at hn
    simp only [stepS] at hr
    refine wpIn_seq ?_
    split at hr
    · rename_i e1 h1 h0
      refine hR r c1 e h _ _ _ h0 n hn.1 B ρ a w _ hat (.on hat.b fun ρ1 a1 w1 L hat1 hst hlg => ?_) ro mr hro
      exact hR r c2 e1 h1 x e' h' hr n hn.2 B ρ1 a1 w1 Q hat1 (hk.step hst hlg) ro mr hro
    · rename_i h0
      refine hR r c1 e h _ _ _ hr n hn.1 B ρ a w _ hat ?_ ro mr hro
      cases x with
      | normal => exact absurd hr (h0 e' h')
      | exit id => exact hk
      | goto l => exact hk
      | ret => exact hk
  | cond o c1 c2 =>
    simp only [okCode, Bool.and_eq_true] at hn
    simp only [stepS] at hr
    split at hr
    · rename_i b hb
      have hv := opnd_rel hat.e o
      rw [hb] at hv
      refine wpIn_cond (t := b) hv ?_
      cases b with
      | true => exact hR r c1 e h x e' h' hr n hn.1 B ρ a w Q hat hk ro mr hro
      | false => exact hR r c2 e h x e' h' hr n hn.2 B ρ a w Q hat hk ro mr hro
    · rename_i b hb
      have hv := opnd_rel hat.e o
      rw [hb] at hv
      refine wpIn_cond (t := b) hv ?_
      cases b with
      | true => exact hR r c1 e h x e' h' hr n hn.1 B ρ a w Q hat hk ro mr hro
      | false => exact hR r c2 e h x e' h' hr n hn.2 B ρ a w Q hat hk ro mr hro
    · cases hr
  | block id c =>
    simp only [stepS] at hr
    refine wpIn_block ?_
    split at hr
    · rename_i id' e1 h1 h0
      refine hR r c e h _ _ _ h0 n hn B ρ a w _ hat ?_ ro mr hro
      cases hb : Nat.beq id' id with
      | true =>
        simp only [hb, cond_true] at hr
        cases hr
        have : id' = id := Nat.eq_of_beq_eq_true hb
        refine fun ρ1 a1 w1 L h1 h2 h3 h4 h5 h6 => ?_
        show (if id' = id then Q .normal a1 w1 else Q (.exit id') a1 w1)
        rw [if_pos this]
        exact hk ρ1 a1 w1 L h1 h2 h3 h4 h5 h6
      | false =>
        simp only [hb, cond_false] at hr
        cases hr
        have : ¬ id' = id := fun c => by subst c; simp at hb
        refine fun ρ1 a1 w1 L h1 h2 h3 h4 h5 h6 => ?_
        show (if id' = id then Q .normal a1 w1 else Q (.exit id') a1 w1)
        rw [if_neg this]
        exact hk ρ1 a1 w1 L h1 h2 h3 h4 h5 h6
    · rename_i h0
      refine hR r c e h _ _ _ hr n hn B ρ a w _ hat ?_ ro mr hro
      cases x with
      | normal => exact hk
      | exit id => exact absurd hr (h0 id e' h')
      | goto l => exact hk
      | ret => exact hk
  | loop c => exact wpIn_loop_rounds (m + 1) (hloop r c e h x e' h' hr n hn B ρ a w Q hat hk ro mr hro)
  | scope c =>
    simp only [stepS] at hr
    exact wpIn_scope_jumpsN m (hJ r c c e h x e' h' hr n hn hn B ρ a w Q hat hk ro mr hro)
  | rangeFunc g ps asg body => exact range_ok hC hr hn hat hk ro mr hro
  | refuse _ => simp [stepS] at hr

theorem step_scp {S : Sum} {R : Sm} {m : Nat} (hR : RunOk P R.run) (hJ : ScpOk P m R.scp) : ScpOk P (m + 1) (stepS P S R).scp := by
  intro r b c e h x e' h' hr n hb hn B ρ a w Q hat hk ro mr hro
  simp only [stepS] at hr
  show c.wpIn (FR ro) mr P _ a w
  split at hr
  · rename_i l e1 h1 h0
    split at hr
    · rename_i rest hf
      refine hR r c e h _ _ _ h0 n hn B ρ a w _ hat (.on hat.b fun ρ1 a1 w1 L hat1 hst hlg => ?_) ro mr hro
      exact ⟨rest, hf, hJ r b rest e1 h1 x e' h' hr n hb (ok_label hb hf) B ρ1 a1 w1 Q hat1 (hk.step hst hlg) ro mr hro⟩
    · cases hr
  · rename_i h0
    refine hR r c e h _ _ _ hr n hn B ρ a w _ hat ?_ ro mr hro
    cases x with
    | normal => exact hk
    | exit id => exact hk
    | goto l => exact absurd hr (h0 l e' h')
    | ret => exact hk

/-- The marks' blocks are shut: blocks that nobody names. -/
structure Shut (B : Nat) (ρ : Rho) (w w' : World) : Prop where
  size : w'.heap.size = w.heap.size
  os : w'.os = w.os
  tape : w'.tape = w.tape
  output : w'.output = w.output
  keep : ∀ b, (b < B ∨ ∃ n p, ρ n = some p ∧ p.b = b) → w'.heap[b]? = w.heap[b]?
theorem Shut.refl (B : Nat) (ρ : Rho) (w : World) : Shut B ρ w w := ⟨rfl, rfl, rfl, rfl, fun _ _ => rfl⟩
theorem putObj_ne {w : World} {b c : Nat} {o : Obj} (h : c ≠ b) : (w.putObj b o).heap[c]? = w.heap[c]? := World.putObj_heap_other h
theorem Marks.put {B D : Nat} {ρ : Rho} {w : World} {o : Obj} : ∀ {ds : List Deferred}, (∀ d ∈ ds, d.target ≠ .collected D) → Marks B ρ w ds → Marks B ρ (w.putObj D o) ds
  | [], _, _ => trivial
  | d :: ds, h, ⟨⟨E, h1, h2, h3, h4, h5⟩, h6⟩ => by
    have hne : E ≠ D := fun c => h d (by simp) (by rw [h1, c])
    exact ⟨⟨E, h1, h2, (putObj_ne hne).trans h3, h4, h5⟩, Marks.put (fun d' hd' => h d' (by simp [hd'])) h6⟩
theorem leaves_marks {B n : Nat} {ρ : Rho} {fn : Func} {tmps : Array Value} {R : Ending → World → Prop} : ∀ (ds : List Deferred) (w : World), Marks B ρ w ds →
    (∀ w', Shut B ρ w w' → ∃ v, (results fn tmps).run P w' = .ok v w' ∧ R (.returned v) w') → LeavesInM Fence.wide n P fn tmps R ds .returning w
  | [], w, _, h => h w (.refl B ρ w)
  | d :: ds, w, ⟨⟨D, h1, h2, h3, h4, h5⟩, h6⟩, h => by
    refine ⟨by simp, .inl ⟨D, w.putObj D (.deferred none), by rw [h1], run_takeDeferred h3, leaves_marks ds _ (h6.put h5) fun w' hs => h w' ?_⟩⟩
    refine ⟨hs.size.trans (by simp [World.putObj]), hs.os, hs.tape, hs.output, fun b hb => (hs.keep b hb).trans (putObj_ne fun c => ?_)⟩
    subst c
    rcases hb with hb | ⟨n, p, e1, e2⟩
    · omega
    · exact h4 n p e1 e2

theorem step_call {S : Sum} {R : Sm} (hP : P.funcs.all okFunc = true) (hS : SumOk P S) (hR : RunOk P R.run) (hK : ∀ r c e h x e' h', R.run r c e h = some (x, e', h') → KL h h') : SumOk P (stepS P S R).call := by
  intro f args h v h' hr
  simp only [stepS] at hr
  split at hr
  · rename_i r hs; cases hr; exact hS _ _ _ _ _ hs
  · split at hr
    · rename_i fn hfn
      split at hr
      · rename_i c hb
        have hok : okFunc fn = true := by
          rw [Array.all_eq_true] at hP
          obtain ⟨hi, rfl⟩ := Array.getElem?_eq_some_iff.1 hfn
          exact hP f hi
        unfold okFunc at hok
        simp only [hb, Bool.and_eq_true] at hok
        refine ⟨⟨fn, hfn, by rw [hb]; rfl, fun e => by rw [e] at hok; simp at hok⟩, ?_⟩
        have body : ∀ (x : Ex) (e1 : T AV) (h1 : Hp), (x = .normal ∨ x = .ret) → R.run false c (params args) { ob := h.ob, nx := h.nx, lg := [] } = some (x, e1, h1) → (resA P h1 e1 fn.results.toList).map (fun l => (one l, leave h.nx h.lg (one l) h1)) = some (v, h') → CallOk P f args h v h' := by
          intro x e1 h1 hx hrun hres ρ w ys hys hh
          simp only [Option.map_eq_some_iff, Prod.mk.injEq] at hres
          obtain ⟨l, hl, rfl, rfl⟩ := hres
          refine callsIn_wide.1 (callsIn_of_wp_marks (n := 0) (F := Fence.wide) hfn hb trivial ?_)
          refine hR false c _ _ _ _ _ hrun fn.ntmps hok.2 w.heap.size ρ _ w _ ⟨params_rel hys _, hh, trivial, by simp; omega, Nat.le_refl _⟩ ?_ none 0 (fun h => by cases h)
          intro ρ' a' w1 L he' hh1 hst1 hlg hd' hn'
          have fin : LeavesInM Fence.wide 0 P fn a'.tmps (fun e w' => ∃ y ρ' L, e = .returned y ∧ VRel ρ' (one l) y ∧ HR ρ' (leave h.nx h.lg (one l) h1) w' ∧ Stepped ρ h.nx L w ρ' (leave h.nx h.lg (one l) h1).nx w' ∧ (leave h.nx h.lg (one l) h1).lg = L ++ h.lg) a'.defers .returning w1 := by
            refine leaves_marks _ _ hd' fun w' hs => ?_
            have hh' : HR ρ' h1 w' := HRel.world hh1 (Nat.le_of_eq hs.size.symm) (fun n p e => hs.keep p.b (.inr ⟨n, p, e, rfl⟩)) fun b o e => hs.keep b (.inl (Array.getElem?_eq_some_iff.1 (hh.fz b o e)).1)
            have hst : Stepped ρ h.nx L w ρ' h1.nx w' := ⟨hst1.le, hst1.old, hst1.new, by rw [hs.size]; exact hst1.size, hs.os.trans hst1.os, hs.tape.trans hst1.tape, hs.output.trans hst1.output, fun b hb hne => (hs.keep b (.inl hb)).trans (hst1.block b hb hne)⟩
            obtain ⟨y, hy, hvr⟩ := results_run (P := P) he' hh' hl
            obtain ⟨ρ'', L', r1, r2, r3, r4⟩ := leave_ok (v := one l) hh (hK _ _ _ _ _ _ _ hrun) hvr hh' hst (by simpa using hlg)
            exact ⟨y, hy, y, ρ'', L', rfl, r1, r2, r3, r4⟩
          rcases hx with rfl | rfl
          · exact fin
          · exact fin
        split at hr
        · rename_i e1 h1 h0; exact body _ e1 h1 (.inl rfl) h0 hr
        · rename_i e1 h1 h0; exact body _ e1 h1 (.inr rfl) h0 hr
        · cases hr
      · cases hr
    · cases hr

theorem bind_rel {ρ : Rho} : ∀ {ps : List Tmp} {xs : List AV} {ys : List Value} {e : T AV} {tm : Array Value}, VRels ρ xs ys → (∀ q ∈ ps, q < tm.size) → (∀ t, VRel ρ ((e.get t).getD (.v undef)) (tm.getD t undef)) →
    (∀ t, VRel ρ (((bindT ps xs e).get t).getD (.v undef)) (((ps.zip ys).foldl (fun t (p, v) => t.setIfInBounds p v) tm).getD t undef)) ∧ ((ps.zip ys).foldl (fun (t : Array Value) (p, v) => t.setIfInBounds p v) tm).size = tm.size
  | [], xs, ys, e, tm, _, _, he => by simp only [bindT, List.zip_nil_left, List.foldl_nil]; exact ⟨he, trivial⟩
  | p :: ps, [], ys, e, tm, hx, _, he => by simp only [VRels] at hx; subst hx; simp only [bindT, List.zip_nil_right, List.foldl_nil]; exact ⟨he, trivial⟩
  | p :: ps, x :: xs, ys, e, tm, ⟨y, r, hy, hxy, hr⟩, hp, he => by
    subst hy
    simp only [bindT, List.zip_cons_cons, List.foldl_cons]
    have hp0 : p < tm.size := hp p (by simp)
    obtain ⟨h1, h2⟩ := bind_rel (ps := ps) (e := T.put (p + 2) e p (some x)) (tm := tm.setIfInBounds p y) hr (fun q hq => by rw [Array.size_setIfInBounds]; exact hp q (by simp [hq])) (fun t => by
      rw [T.get_put]
      by_cases c : t = p
      · subst c
        rw [upd_same]
        simpa [hp0] using hxy
      · rw [upd_ne _ _ c]
        have e1 : (tm.setIfInBounds p y).getD t undef = tm.getD t undef := by
          simp [Array.getElem?_setIfInBounds_ne (Ne.symm c)]
        rw [e1]; exact he t)
    exact ⟨h1, by rw [h2, Array.size_setIfInBounds]⟩

/-- **A round of a loop over a function.** -/
theorem step_yld {S : Sum} {R : Sm} (hR : RunOk P R.run) : YldOk P (stepS P S R).yld := by
  intro n args h b h' hr ρ w ys p m hys hh hp
  simp only [stepS, cond_eq_ite] at hr
  split at hr
  · rename_i e ps asg body ho
    split at hr
    · rename_i hc
      simp only [Bool.and_eq_true, Nat.blt_eq] at hc
      obtain ⟨hlen, hn⟩ := hc
      have hlen := Nat.eq_of_beq_eq_true hlen
      split at hr
      · rename_i e1 h1 hrun1
        split at hr
        · rename_i e2 ps2 asg2 body2 ho1
          split at hr
          · rename_i x e4 h2 hrun2
            split at hr
            · rename_i e3 ps3 asg3 body3 ho2
              obtain ⟨p0, fn, tmps, D, N, hp0, hheap, hE, hN, hasg, hbody, hps, _⟩ := set_loop hh hn ho
              obtain rfl : p0 = p := by rw [hp] at hp0; cases hp0; rfl
              have hl : ys.size = (lrec fn tmps ps asg body D .ready none).params.size := by
                have := hys.length
                simp only [Array.length_toList] at this
                simp [lrec, this, hlen]
              refine ⟨fn, _, asg, body, run_yield (P := P) (args := ys) hheap hl, roundIn_of_wpIn trivial ?_⟩
              obtain ⟨b1, b2⟩ := bind_rel (e := e) (tm := tmps) hys (fun q hq => Nat.lt_of_lt_of_le (hps q hq) hN) hE
              have hz : ((lrec fn tmps ps asg body D .ready none).params.zip ys).foldl (fun (t : Array Value) (p, v) => t.setIfInBounds p v) (lrec fn tmps ps asg body D .ready none).tmps = (ps.zip ys.toList).foldl (fun (t : Array Value) (p, v) => t.setIfInBounds p v) tmps := by
                rw [← Array.foldl_toList, Array.toList_zip]; rfl
              rw [hz]
              have hat0 : At ρ (bindT ps args e) h { tmps := (ps.zip ys.toList).foldl (fun (t : Array Value) (p, v) => t.setIfInBounds p v) tmps, defers := [] } w N w.heap.size := ⟨b1, hh, trivial, by rw [b2]; exact hN, Nat.le_refl _⟩
              refine hR true asg _ h _ _ _ hrun1 N hasg w.heap.size ρ _ w _ hat0 (.on (Nat.le_refl _) fun ρ1 a1 w1 L1 hat1 hst1 hlg1 => ?_) (some p0.b) m (fun _ => rfl)
              have hn1 : n < h1.nx := Nat.lt_of_lt_of_le hn hst1.le
              obtain ⟨p1, fn1, tmps1, D1, N1, hp1, hheap1, _, _, _, _, _, hset1⟩ := set_loop hat1.h hn1 ho1
              obtain rfl : p1 = p0 := by rw [hst1.old n hn, hp] at hp1; cases hp1; rfl
              obtain ⟨k1, k2⟩ := hset1 .busy none
              refine ⟨_, run_beginRound hheap1 rfl, ?_⟩
              refine hR true body e1 _ _ _ _ hrun2 N hbody w.heap.size ρ1 a1 _ _ ⟨hat1.e, k1, hat1.d.step k2, hat1.n, Nat.le_trans hat1.b k2.size⟩ (fun ρ2 a2 w2 L2 he2 hh2 hst2 hlg2 _ _ => ?_) (some p1.b) m (fun _ => rfl)
              have hn2 : n < h2.nx := Nat.lt_of_lt_of_le (Nat.lt_of_lt_of_le hn1 k2.le) hst2.le
              obtain ⟨p2, fn2, tmps2, D2, N2, hp2, hheap2, _, _, _, _, _, hset2⟩ := set_loop hh2 hn2 ho2
              obtain rfl : p2 = p1 := by rw [hst2.old n (Nat.lt_of_lt_of_le hn1 k2.le), hp1] at hp2; cases hp2; rfl
              have fin : ∀ (pe : Option Ex) (b : Bool) (h' : Hp), (b, h') = (pe.isNone, h2.set n (.loop (if pe.isNone then .ready else .done) e3 ps3 asg3 body3 pe)) →
                  ∃ v w', (Instr.endRound p2.b (pe.map exC)).run P w2 = .ok v w' ∧ ∃ ρ' L, Ending.returned v = .returned (.bool b) ∧ HR ρ' h' w' ∧ Stepped ρ h.nx L w ρ' h'.nx w' ∧ h'.lg = L ++ h.lg := by
                intro pe b h' hbh
                cases hbh
                obtain ⟨k3, k4⟩ := hset2 (if pe.isNone then .ready else .done) pe
                have hk4 := hst1.trans (k2.trans (hst2.trans k4))
                refine ⟨_, _, run_endRound (P := P) (pe.map exC) hheap2, ρ2, _, by cases pe <;> rfl, by cases pe <;> exact k3, by cases pe <;> exact hk4, ?_⟩
                · show n :: h2.lg = _
                  have : h2.lg = L2 ++ n :: h1.lg := hlg2
                  rw [this, hlg1]; simp
              cases x with
              | normal => cases hr; exact fin none _ _ rfl
              | exit id => cases hr; exact fin (some (.exit id)) _ _ rfl
              | goto l => cases hr; exact fin (some (.goto l)) _ _ rfl
              | ret => cases hr; exact fin (some .ret) _ _ rfl
            · cases hr
          · cases hr
        · cases hr
      · cases hr
    · cases hr
  · cases hr

theorem sm_ok {S : Sum} (hmix : P.follows .mixedOrders = true) (hP : P.funcs.all okFunc = true) (hS : SumOk P S) (hK : SumKL S) : ∀ n, RunOk P (sm P S n).run ∧ LoopOk P n (sm P S n).run ∧ ScpOk P n (sm P S n).scp ∧ SumOk P (sm P S n).call ∧ YldOk P (sm P S n).yld
  | 0 => ⟨fun _ _ _ _ _ _ _ h => by simp [sm] at h, fun _ _ _ _ _ _ _ h => by simp [sm] at h, fun _ _ _ _ _ _ _ _ h => by simp [sm] at h, fun _ _ _ _ _ h => by simp [sm] at h, fun _ _ _ _ _ h => by simp [sm] at h⟩
  | n + 1 => by
    obtain ⟨h1, h2, h3, h4, h5⟩ := sm_ok hmix hP hS hK n
    obtain ⟨r1, r2⟩ := step_run (S := S) hmix (sm_kl hK n).2.2.1 h1 h2 h3 h4 h5
    exact ⟨r1, r2, step_scp h1 h3, step_call hP hS h1 (sm_kl hK n).1, step_yld h1⟩

/-- What is to be known of a program and of the summaries. -/
structure Good (P : Program) (S : Sum) : Prop where
  mix : P.follows .mixedOrders = true
  ok : P.funcs.all okFunc = true
  sum : SumOk P S
  kl : SumKL S

/-- The empty heap stands wherever what is frozen stands. -/
theorem HR.start {w : World} (nx : Nat) (lg : List Nat) (hf : ∀ b o, Fz.m b = some o → w.heap[b]? = some o) (hop : Fz.gc = false → openB ≤ nx) : HR (fun _ => none) ⟨.leaf, nx, lg⟩ w :=
  ⟨fun n p e => (by cases e), fun n o e => (by simp [T.get] at e), fun n m p q o o' _ e => (by cases e), fun n m p q o o' e => (by cases e), fun n m p q o o' _ e => (by cases e), hf, fun n p e => (by cases e), hop⟩

/-- **A call over plain arguments that comes to a plain value**: new memory alone is made. -/
theorem calls_plain {S : Sum} (G : Good P S) (hnof : ∀ b, Fz.m b = none) (hgc : Fz.gc = true) {f : FuncId} {args : List AV} {xs : List Value} {v : Value} {h' : Hp} (n : Nat) (hp : plains args = some xs) (hr : (sm P S n).call f args ⟨.leaf, 0, []⟩ = some (.v v, h')) (w : World) :
    Calls P f xs.toArray w fun e w' => e = .returned v ∧ Fr noB w w' := by
  obtain ⟨_, _, _, h4, _⟩ := sm_ok G.mix G.ok G.sum G.kl n
  have hrel : ∀ {args : List AV} {xs : List Value}, plains args = some xs → VRels (fun _ => none) args xs := by
    intro args
    induction args with
    | nil => intro xs h; simp only [plains] at h; cases h; rfl
    | cons x r ih =>
      intro xs h
      simp only [plains] at h
      split at h
      · rename_i a b ha hb
        cases h
        refine ⟨a, b, rfl, ?_, ih hb⟩
        cases x <;> simp only [AV.plain?] at ha
        case v => cases ha; rfl
        case fn fid cs =>
          cases cs with
          | nil => cases ha; exact ⟨#[], rfl, rfl⟩
          | cons => simp at ha
        all_goals simp at ha
      · cases h
  refine ((h4 f args _ _ h' hr).2 _ w xs.toArray (by simpa using hrel hp) (HR.start 0 [] (fun b o e => by rw [hnof] at e; cases e) (fun e => by rw [hgc] at e; cases e))).mono ?_
  rintro e w' ⟨y, ρ', L, rfl, hy, hh, hst, hlg⟩
  refine ⟨by rw [hy], hst.os, hst.tape, hst.output, hst.size, fun b hb _ => hst.block b hb fun n p _ hn => absurd hn (Nat.not_lt_zero _)⟩

end Ev
end Go.Proofs.YtffcaapbmkaceaaDoor
