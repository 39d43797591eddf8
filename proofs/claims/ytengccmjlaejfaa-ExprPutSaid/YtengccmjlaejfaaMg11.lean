/- What the evaluator says of code and of a call, the model does (regions that do not draw their order). No condition. -/
import Derived.Test.YtengccmjlaejfaaEvK
import Derived.LoopNIn
import Derived.OrdersIn
import Derived.OwnWalkIn
import Derived.RangeFuncCalls
import Derived.RangeFuncLeaves
import Derived.RangeFuncSeq
import Derived.RangeFuncBound
import Derived.RangeFuncRecord
import Derived.ScopeJumps
section
namespace Go.Proofs.Ytengccmjlaejfaa
namespace Ev
open Go.RowKit
set_option linter.unusedSectionVars false
variable [Fz]
variable {P : Program}

/-- The wide fence, out of a round or in one. -/
def FR : Option Nat → Fence
  | none => Fence.wide
  | some l => Fence.wide.inRound l
theorem FR_fn (r : Option Nat) (f : FuncId) : (FR r).fn f := by cases r <;> exact trivial
theorem FR_depth (r : Option Nat) : (FR r).depth = none := by cases r <;> rfl
theorem FR_round (r : Option Nat) : (FR r).round = r := by cases r <;> rfl
theorem callsFR {r : Option Nat} {m : Nat} {f : FuncId} {args : Array Value} {w : World} {R : Ending → World → Prop} (h : Calls P f args w R) : CallsIn (FR r) m P f args w R := by
  cases r with
  | none => exact callsIn_wide.2 h
  | some l => exact CallsIn.inRound l (callsIn_wide.2 h)
theorem aop_nd {f : Operand → AV} {o : Oper} {h : Hp} {s : Stp} (ha : aop P f o h = some s) : ∀ c, o.op ≠ .defer c := fun c hc => by
  have h1 : openA P f o h = none := by unfold openA openS openL; simp only [hc]
  unfold aop at ha
  rw [h1] at ha
  unfold aopC at ha
  rw [hc] at ha
  cases ha
theorem semFR {r : Option Nat} {g : Operand → Value} {o : Oper} (h : ∀ c, o.op ≠ .defer c) : o.semAt (FR r).round g = execOp g o := Oper.semAt_plain (FR r) g o h

def exOf : Ex → Exit
  | .normal => .normal
  | .exit id => .exit id
  | .goto l => .goto l
  | .ret => .ret

def CallOk (P : Program) (f : FuncId) (args : List AV) (h : Hp) (v : AV) (h' : Hp) : Prop :=
  ∀ (ρ : Rho) (w : World) (ys : Array Value), VRels ρ args ys.toList → HR ρ h w →
    Calls P f ys w fun e w' => ∃ y ρ' L, e = .returned y ∧ VRel ρ' v y ∧ HR ρ' h' w' ∧ Stepped ρ h.nx L w ρ' h'.nx w' ∧ h'.lg = L ++ h.lg
def Enters (P : Program) (f : FuncId) : Prop := ∃ fn, P.funcs[f]? = some fn ∧ fn.body.isSome = true ∧ fn.name ≠ "runtime.NumGoroutine"
def SumOk (P : Program) (S : Sum) : Prop := ∀ f args h v h', S f args h = some (v, h') → Enters P f ∧ CallOk P f args h v h'

theorem Enters.run {f : FuncId} (h : Enters P f) (ys : Array Value) (w : World) : (callFunc f ys).run P w = .ok (.enter f ys) w := by
  obtain ⟨fn, h1, h2, h3⟩ := h
  obtain ⟨c, hb⟩ := Option.isSome_iff_exists.1 h2
  simp [callFunc, h1, h3, hb]

theorem ERel.mono {ρ ρ' : Rho} {e : T AV} {a : Act} (h : ERel ρ e a) (hs : Sub ρ ρ') : ERel ρ' e a := fun t => (h t).mono hs
theorem ERel.put {ρ : Rho} {e : T AV} {a : Act} (h : ERel ρ e a) {d : Tmp} {v : AV} {y : Value} (hr : VRel ρ v y) (hd : d < a.tmps.size) : ERel ρ (putT e (some d) v) (a.put (some d) y) := by
  intro t
  unfold putT Act.put
  rw [T.get_put]
  by_cases c : t = d
  · subst c
    rw [upd_same]
    simpa [hd] using hr
  · rw [upd_ne _ _ c]
    have := h t
    have e1 : (a.tmps.setIfInBounds d y).getD t undef = a.tmps.getD t undef := by
      simp [Array.getElem?_setIfInBounds_ne (Ne.symm c)]
    simpa [e1] using this
theorem ERel.put' {ρ : Rho} {e : T AV} {a : Act} (h : ERel ρ e a) {d : Option Tmp} {v : AV} {y : Value} (hr : VRel ρ v y) (hd : ∀ x, d = some x → x < a.tmps.size) : ERel ρ (putT e d v) (a.put d y) := by
  cases d with
  | none => exact h
  | some d => exact h.put hr (hd d rfl)
theorem put_size (a : Act) (d : Option Tmp) (y : Value) : (a.put d y).tmps.size = a.tmps.size := by cases d <;> simp [Act.put]
theorem put_defers (a : Act) (d : Option Tmp) (y : Value) : (a.put d y).defers = a.defers := by cases d <;> rfl

theorem yielded_rel {ρ : Rho} {ops : Array Oper} {e : T AV} {a : Act} (h : ERel ρ e a) (j : Nat) (hd : ∀ d, ((ops[j]?).bind (·.dst)) = some d → d < a.tmps.size) : yieldedA ops e j = yielded ops a.tmps j := by
  unfold yieldedA yielded
  cases hj : (ops[j]?).bind (·.dst) with
  | none => simp
  | some d =>
    simp only [Option.bind_some]
    have hlt := hd d hj
    have hr := h d
    have e1 : a.tmps[d]? = some (a.tmps.getD d undef) := by simp [hlt]
    rw [e1]
    generalize a.tmps.getD d undef = y at hr
    cases hg : e.get d with
    | none => rw [hg] at hr; simp only [Option.getD_none] at hr; cases hr; simp [undef]
    | some x =>
      rw [hg] at hr
      simp only [Option.getD_some] at hr
      cases x with
      | v z => cases hr; cases y <;> rfl
      | s z => cases hr; cases y <;> rfl
      | ptr => obtain ⟨p, hp, rfl⟩ := hr; rfl
      | sl => obtain ⟨p, k, hp, rfl, _⟩ := hr; rfl
      | none0 => obtain ⟨q, k, rfl, _⟩ := hr; rfl
      | mp => obtain ⟨p, hp, rfl⟩ := hr; rfl
      | fn => obtain ⟨ys, rfl, _⟩ := hr; rfl
      | agg => obtain ⟨ys, rfl, _⟩ := hr; rfl
      | tup => obtain ⟨ys, rfl, _⟩ := hr; rfl
      | yld => obtain ⟨p, hp, rfl⟩ := hr; rfl
      | osl => rcases hr with ⟨_, ⟨_, q, rfl⟩ | ⟨p, k, hp, rfl, _⟩⟩ <;> rfl
      | fz => obtain ⟨_, hr⟩ := hr; unfold FzRel at hr; rcases hr with ⟨_, q, k, rfl, _⟩ | ⟨b, o, k, C, e', fr, rfl, _⟩ <;> rfl
      | fzp => obtain ⟨_, b, o, _, _, rfl⟩ := hr; rfl
      | z0 => obtain ⟨q, rfl⟩ := hr; rfl
      | xs => obtain ⟨q, l, c, rfl⟩ := hr; rfl

theorem okOps_lt {n : Nat} {ops : Array Oper} (h : okOps n ops = true) {i : Nat} {o : Oper} (ho : ops[i]? = some o) : ∀ d, o.dst = some d → d < n := by
  intro d hd
  unfold okOps at h
  rw [Array.all_eq_true] at h
  obtain ⟨hi, rfl⟩ := Array.getElem?_eq_some_iff.1 ho
  have := h i hi
  rw [hd] at this
  simpa using this

/-- A round of a loop over a function. -/
def YldOk (P : Program) (yl : Yl) : Prop := ∀ n args h b h', yl n args h = some (b, h') → ∀ (ρ : Rho) (w : World) (ys : Array Value) (p : Pl) (m : Nat), VRels ρ args ys.toList → HR ρ h w → ρ n = some p →
  YieldAt Fence.wide m P p.b ys w fun e w' => ∃ ρ' L, e = .returned (.bool b) ∧ HR ρ' h' w' ∧ Stepped ρ h.nx L w ρ' h'.nx w' ∧ h'.lg = L ++ h.lg
theorem roundFR {r : Option Nat} {m l : Nat} {f : FuncId} {tmps : Array Value} {asg body : Code} {w : World} {R : Ending → World → Prop} (h : RoundIn Fence.wide m P l f tmps asg body w R) : RoundIn (FR r) m P l f tmps asg body w R := by
  cases r with
  | none => exact h
  | some k => exact h

/-- The marks of loops over functions that are over. -/
def Marks (B : Nat) (ρ : Rho) (w : World) : List Deferred → Prop
  | [] => True
  | d :: ds => (∃ D, d = { target := .collected D, args := #[] } ∧ B ≤ D ∧ w.heap[D]? = some (.deferred (some [])) ∧ (∀ n p, ρ n = some p → p.b ≠ D) ∧ ∀ d' ∈ ds, d'.target ≠ .collected D) ∧ Marks B ρ w ds
theorem Marks.step {B nx nx' : Nat} {ρ ρ' : Rho} {L : List Nat} {w w' : World} (st : Stepped ρ nx L w ρ' nx' w') : ∀ {ds : List Deferred}, Marks B ρ w ds → Marks B ρ' w' ds
  | [], _ => trivial
  | d :: ds, ⟨⟨D, h1, h2, h3, h4, h5⟩, h6⟩ => by
    have hlt : D < w.heap.size := by
      rcases Nat.lt_or_ge D w.heap.size with c | c
      · exact c
      · rw [Array.getElem?_eq_none c] at h3; cases h3
    refine ⟨⟨D, h1, h2, ?_, fun n p e => ?_, h5⟩, Marks.step st h6⟩
    · rw [st.block D hlt fun n p _ _ e => h4 n p e]; exact h3
    · by_cases c : n < nx
      · rw [st.old n c] at e; exact h4 n p e
      · rcases st.new n p (by omega) e with x | ⟨m, q, _, _, x3, x4⟩
        · omega
        · rw [← x4]; exact h4 m q x3

/-- Where code may end: what the evaluator says. -/
def After (Q : Exit → Act → World → Prop) (ρ : Rho) (h : Hp) (w : World) (n B : Nat) (x : Exit) (e' : T AV) (h' : Hp) : Prop :=
  ∀ ρ' a' w' L, ERel ρ' e' a' → HR ρ' h' w' → Stepped ρ h.nx L w ρ' h'.nx w' → h'.lg = L ++ h.lg → Marks B ρ' w' a'.defers → n ≤ a'.tmps.size → Q x a' w'

theorem After.step {Q : Exit → Act → World → Prop} {ρ ρ1 : Rho} {h h1 : Hp} {w w1 : World} {n B : Nat} {x : Exit} {e' : T AV} {h' : Hp} {L : List Nat} (hs : Stepped ρ h.nx L w ρ1 h1.nx w1) (hl : h1.lg = L ++ h.lg) (k : After Q ρ h w n B x e' h') : After Q ρ1 h1 w1 n B x e' h' :=
  fun ρ' a' w' L' he hh hst hlg hd hn => k ρ' a' w' (L' ++ L) he hh (hs.trans hst) (by rw [hlg, hl, List.append_assoc]) hd hn

theorem seqOps_wp {ro : Option Nat} {m B : Nat} {call : Sum} (hc : SumOk P call) {yl : Yl} (hyl : YldOk P yl) {ops : Array Oper} {n : Nat} (hok : okOps n ops = true) {Q : Exit → Act → World → Prop} : ∀ (l : List Oper) (i : Nat) (e e' : T AV) (h h' : Hp) (ρ : Rho) (a : Act) (w : World), ops.toList.drop i = l → seqOps P call yl ops l e h = some (e', h') →
    ERel ρ e a → HR ρ h w → Marks B ρ w a.defers → n ≤ a.tmps.size → After Q ρ h w n B .normal e' h' → wpOpsIn (FR ro) m P ops Q (List.range' i l.length) a w
  | [], i, e, e', h, h', ρ, a, w, hl, hs, he, hh, hd, hn, k => by
    simp only [seqOps] at hs
    cases hs
    exact k ρ a w [] he hh (.refl hh.dm) rfl hd hn
  | o :: r, i, e, e', h, h', ρ, a, w, hl, hs, he, hh, hd, hn, k => by
    have hi : ops[i]? = some o := by
      have : ops.toList[i]? = some o := by
        have := congrArg (·[0]?) hl
        simpa using this
      simpa using this
    have hr : ops.toList.drop (i + 1) = r := by
      have := congrArg (·.drop 1) hl
      simpa [Nat.add_comm] using this
    have hdst := okOps_lt hok hi
    have hy : (fun j => yieldedA ops e j) = yielded ops a.tmps := funext fun j => yielded_rel he j (fun d hd' => by
      cases hj : ops[j]? with
      | none => simp [hj] at hd'
      | some oj => simp [hj] at hd'; exact Nat.lt_of_lt_of_le (okOps_lt hok hj d hd') hn)
    have hf : ∀ x, VRel ρ (opnd e x) (a.eval x) := opnd_rel he
    show wpOpsIn (FR ro) m P ops Q (i :: List.range' (i + 1) r.length) a w
    simp only [wpOpsIn, hi]
    simp only [seqOps] at hs
    have hy' : Region.wanted o (yieldedA ops e) = Region.wanted o (yielded ops a.tmps) := by rw [← hy]
    rw [hy'] at hs
    cases hw : Region.wanted o (yielded ops a.tmps) with
    | true =>
      simp only [hw, cond_true] at hs
      simp only [if_true]
      refine ⟨fun _ _ => FR_fn _ _, ?_⟩
      split at hs
      · rename_i v h1 ha
        rw [semFR (aop_nd ha)]
        obtain ⟨ρ1, w1, y, L, hrun, hv, hh1, hst, hlg⟩ := aop_val (P := P) (w := w) hh hf ha
        have ih := seqOps_wp (ro := ro) (m := m) hc hyl hok r (i + 1) (putT e o.dst v) e' h1 h' ρ1 (a.put o.dst y) w1 hr hs ((he.mono (hst.sub hh.dm)).put' hv (fun d hd' => Nat.lt_of_lt_of_le (hdst d hd') hn)) hh1 (by rw [put_defers]; exact hd.step hst) (by rw [put_size]; exact hn) (k.step hst hlg)
        rcases hrun with hrun | ⟨hrun, rfl⟩
        · have hrun : (execOp a.eval o).run P w = .ok (.value y) w1 := hrun
          rw [hrun]; exact ih
        · have hrun : (execOp a.eval o).run P w = .ok .skip w1 := hrun
          rw [hrun]; exact ih
      · rename_i f args h1 ha
        split at hs
        · rename_i v h2 hcall
          obtain ⟨rfl, ys, hys, hrun⟩ := aop_call (P := P) hf ha
          obtain ⟨hent, hck⟩ := hc _ _ _ _ _ hcall
          rw [semFR (aop_nd ha), hrun w, hent.run ys w]
          refine ⟨fun h => (by rw [FR_depth] at h; cases h), callsFR ((hck ρ w ys hys hh).mono ?_)⟩
          rintro en w1 ⟨y, ρ1, L, rfl, hv, hh1, hst, hlg⟩
          exact seqOps_wp (ro := ro) (m := m) hc hyl hok r (i + 1) (putT e o.dst v) e' h2 h' ρ1 (a.put o.dst y) w1 hr hs ((he.mono (hst.sub hh.dm)).put' hv (fun d hd' => Nat.lt_of_lt_of_le (hdst d hd') hn)) hh1 (by rw [put_defers]; exact hd.step hst) (by rw [put_size]; exact hn) (k.step hst hlg)
        · cases hs
      · rename_i k args h1 ha
        split at hs
        · rename_i b h2 hcall
          obtain ⟨rfl, ys, p, hys, hp, hrun⟩ := aop_yield (P := P) hf ha
          obtain ⟨fn, tmps, asg, bd, hry, hround⟩ := hyl _ _ _ _ _ hcall ρ w ys p (m - 1) hys hh hp
          rw [semFR (aop_nd ha), hrun w, hry]
          refine ⟨fun h => (by rw [FR_depth] at h; cases h), roundFR (hround.mono ?_)⟩
          rintro en w1 ⟨ρ1, L, rfl, hh1, hst, hlg⟩
          exact seqOps_wp (ro := ro) (m := m) hc hyl hok r (i + 1) (putT e o.dst (.v (.bool b))) e' h2 h' ρ1 (a.put o.dst (.bool b)) w1 hr hs ((he.mono (hst.sub hh.dm)).put' rfl (fun d hd' => Nat.lt_of_lt_of_le (hdst d hd') hn)) hh1 (by rw [put_defers]; exact hd.step hst) (by rw [put_size]; exact hn) (k.step hst hlg)
        · cases hs
      · cases hs
    | false =>
      simp only [hw, cond_false] at hs
      simp only [Bool.false_eq_true, if_false]
      refine ⟨fun _ _ => FR_fn _ _, ?_⟩
      exact seqOps_wp (ro := ro) (m := m) hc hyl hok r (i + 1) (putT e o.dst (.v undef)) e' h h' ρ (a.put o.dst undef) w hr hs (he.put' rfl (fun d hd' => Nat.lt_of_lt_of_le (hdst d hd') hn)) hh (by rw [put_defers]; exact hd) (by rw [put_size]; exact hn) k

/-- The results. -/
def resS (tmps : Array Value) : ResultVar → Sem Value
  | .tmp t => pure (tmps.getD t undef)
  | .cell a t => do loadVar t (← asAddr (tmps.getD a undef))
theorem results_eq (fn : Func) (tmps : Array Value) : results fn tmps = (do let vs ← fn.results.mapM (resS tmps); pure (if h : vs.size = 1 then vs[0] else .tuple vs)) := by
  unfold results
  congr 1
theorem resA_run {ρ : Rho} {h : Hp} {e : T AV} {a : Act} {w : World} (he : ERel ρ e a) (hh : HR ρ h w) : ∀ {rs : List ResultVar} {l : List AV}, resA P h e rs = some l →
    ∃ ys, VRels ρ l ys ∧ (rs.mapM (resS a.tmps)).run P w = .ok ys w
  | [], l, hr => by simp only [resA] at hr; cases hr; exact ⟨[], rfl, by simp⟩
  | .tmp t :: r, l, hr => by
    simp only [resA, Option.map_eq_some_iff] at hr
    obtain ⟨l', hr, rfl⟩ := hr
    obtain ⟨ys, h1, h2⟩ := resA_run he hh hr
    refine ⟨_ :: ys, ⟨_, ys, rfl, he t, h1⟩, ?_⟩
    simp only [List.mapM_cons, Sem.run_bind, h2, resS, Sem.run_pure, Result.andThen_ok]
  | .cell x t :: r, l, hr => by
    simp only [resA] at hr
    split at hr
    · rename_i v l' hv hr'
      cases hr
      obtain ⟨ys, h1, h2⟩ := resA_run he hh hr'
      obtain ⟨z, hz, hzr⟩ := loadA_run hh (he x) hv
      have haddr : ∃ p, a.tmps.getD x undef = .pointer (some p) := by
        have hx := he x
        unfold loadA at hv
        split at hv
        · rename_i n i c hxe
          rw [hxe] at hx
          obtain ⟨p, _, hp⟩ := hx
          exact ⟨_, hp⟩
        · rename_i hxe
          rw [hxe] at hx
          obtain ⟨_, b, o, _, _, hp⟩ := hx
          exact ⟨_, hp⟩
        · cases hv
      obtain ⟨p, hp⟩ := haddr
      rw [hp] at hz
      have hz' : (loadVar t p).run P w = .ok z w := by simpa [Instr.loadAt, Instr.sureAddr] using hz
      exact ⟨z :: ys, ⟨z, ys, rfl, hzr, h1⟩, by simp only [List.mapM_cons, Sem.run_bind, resS, hp, asAddr, Sem.run_pure, Result.andThen_ok, hz', h2]⟩
    · cases hr
theorem one_rel {ρ : Rho} {l : List AV} {ys : List Value} (h : VRels ρ l ys) : VRel ρ (one l) (if hs : ys.toArray.size = 1 then ys.toArray[0] else .tuple ys.toArray) := by
  match l, ys, h with
  | [], _, h => simp only [VRels] at h; subst h; exact mkTup_rel (ρ := ρ) (cs := []) (ys := []) rfl
  | [x], _, ⟨y, r, e, hx, hr⟩ => simp only [VRels] at hr; subst hr; subst e; exact hx
  | x :: x' :: l, _, ⟨y, r, e, hx, ⟨y', r', e', hr⟩⟩ =>
    subst e'; subst e
    have : ¬ ((y :: y' :: r').toArray.size = 1) := by simp
    rw [dif_neg this]
    exact mkTup_rel ⟨y, _, rfl, hx, ⟨y', _, rfl, hr⟩⟩
theorem results_run {ρ : Rho} {h : Hp} {e : T AV} {a : Act} {w : World} {fn : Func} {l : List AV} (he : ERel ρ e a) (hh : HR ρ h w) (hr : resA P h e fn.results.toList = some l) :
    ∃ y, (results fn a.tmps).run P w = .ok y w ∧ VRel ρ (one l) y := by
  obtain ⟨ys, h1, h2⟩ := resA_run (P := P) he hh hr
  refine ⟨_, ?_, one_rel h1⟩
  rw [results_eq, Sem.run_bind, Array.mapM_eq_mapM_toList, Sem.run_map, h2]
  rfl

theorem get_paramsFrom : ∀ (args : List AV) (i : Nat) (e : T AV) (t : Nat), (paramsFrom i args e).get t = if i ≤ t ∧ t < i + args.length then args[t - i]? else e.get t
  | [], i, e, t => by simp [paramsFrom]; intro h1 h2; omega
  | x :: r, i, e, t => by
    simp only [paramsFrom]
    rw [get_paramsFrom r (i + 1), T.get_put]
    simp only [List.length_cons]
    by_cases c : t = i
    · subst c; rw [if_neg (by omega), upd_same, if_pos (by omega)]; simp
    · by_cases c2 : i + 1 ≤ t ∧ t < i + 1 + r.length
      · rw [if_pos c2, if_pos (by omega)]
        rw [show t - i = (t - (i + 1)) + 1 by omega, List.getElem?_cons_succ]
      · rw [if_neg c2, upd_ne _ _ c, if_neg (by omega)]
theorem params_rel {ρ : Rho} {args : List AV} {ys : Array Value} (h : VRels ρ args ys.toList) (m : Nat) : ERel ρ (params args) { tmps := ys ++ Array.replicate m undef, defers := [] } := by
  intro t
  unfold params
  rw [get_paramsFrom]
  have hl := h.length
  simp only [Array.length_toList] at hl
  by_cases c : t < args.length
  · rw [if_pos (by omega)]
    obtain ⟨y, hy, hr⟩ := h.get (List.getElem?_eq_getElem c)
    have hy' : ys[t]? = some y := by simpa using hy
    have hlt : t < ys.size := by omega
    have : (ys ++ Array.replicate m undef).getD t undef = y := by
      simp only [Array.getD_eq_getD_getElem?]
      rw [Array.getElem?_append_left hlt, hy']; rfl
    rw [this]
    simpa [List.getElem?_eq_getElem c] using hr
  · rw [if_neg (by omega)]
    have : (ys ++ Array.replicate m undef).getD t undef = undef := by
      simp only [Array.getD_eq_getD_getElem?]
      rw [Array.getElem?_append_right (by omega)]
      by_cases c2 : t - ys.size < m
      · simp [c2]
      · simp [c2]
    rw [this]
    rfl

/-- What a call leaves. -/
theorem T.all_get {f : AV → Bool} : ∀ {t : T AV} {k : Nat} {x : AV}, t.all f = true → t.get k = some x → f x = true
  | .leaf, k, x, _, h => by cases h
  | .node y l r, k, x, ha, h => by
    simp only [T.all, Bool.and_eq_true] at ha
    simp only [T.get] at h
    cases h0 : Nat.beq k 0 with
    | true => rw [h0] at h; simp only [cond_true] at h; subst h; exact ha.1.1
    | false =>
      rw [h0] at h
      cases h1 : Nat.beq (k % 2) 1 with
      | true => rw [h1] at h; exact T.all_get ha.1.2 h
      | false => rw [h1] at h; exact T.all_get ha.2 h
theorem T.all_getD {f : AV → Bool} {t : T AV} {d : AV} (ha : t.all f = true) (hd : f d = true) (k : Nat) : f ((t.get k).getD d) = true := by
  cases h : t.get k with
  | none => exact hd
  | some x => exact T.all_get ha h
theorem T.all_of_get {f : AV → Bool} : ∀ (t : T AV), (∀ k x, t.get k = some x → f x = true) → t.all f = true
  | .leaf, _ => rfl
  | .node y l r, h => by
    simp only [T.all, Bool.and_eq_true]
    refine ⟨⟨?_, T.all_of_get l fun k x hk => h (2 * k + 1) x ?_⟩, T.all_of_get r fun k x hk => h (2 * k + 2) x ?_⟩
    · cases y with
      | none => rfl
      | some y => exact h 0 y rfl
    · have h0 : Nat.beq (2 * k + 1) 0 = false := rfl
      have h1 : Nat.beq ((2 * k + 1) % 2) 1 = true := by rw [show (2 * k + 1) % 2 = 1 by omega]; rfl
      simp only [T.get, h0, h1, cond_true, cond_false]
      rw [show (2 * k + 1) / 2 = k by omega]; exact hk
    · have h0 : Nat.beq (2 * k + 2) 0 = false := rfl
      have h1 : Nat.beq ((2 * k + 2) % 2) 1 = false := by rw [show (2 * k + 2) % 2 = 0 by omega]; rfl
      simp only [T.get, h0, h1, cond_false]
      rw [show (2 * k + 2) / 2 - 1 = k by omega]; exact hk
theorem HRel.dropTo {ρ : Rho} {g : Nat → Option AO} {nx nx' : Nat} {w : World} (h : HRel ρ g nx' w) (hle : nx ≤ nx') (hlow : ∀ n o, n < nx → g n = some o → o.low nx = true) (hop : Fz.gc = false → openB ≤ nx) :
    HRel (fun k => if k < nx then ρ k else none) g nx w := by
  have hold : ∀ n p, (if n < nx then ρ n else none) = some p → ρ n = some p ∧ n < nx := fun n p e => by
    split at e
    · exact ⟨e, by assumption⟩
    · cases e
  refine ⟨fun n p e => ?_, fun n o e hn => ?_, fun n m p q o o' hnm e1 e2 => ?_, fun n m p q o o' e1 e2 => ?_, fun n m p q o o' hnm e1 e2 => ?_, h.fz, fun n p e => h.nf n p (hold n p e).1, hop⟩
  · obtain ⟨h1, h2⟩ := hold n p e; exact ⟨h2, (h.dom n p h1).2⟩
  · rcases h.obj0 n o e (by omega) with ⟨p, h1, h2⟩ | ⟨h1, h2⟩
    rotate_left
    · exact .inr ⟨by rw [if_pos hn]; exact h1, h2⟩
    refine .inl ⟨p, by rw [if_pos hn]; exact h1, ?_⟩
    have hl := hlow n o hn e
    cases o with
    | cells cs sz f t s =>
      obtain ⟨r1, r2, C, e, r3, r4, r5⟩ := h2
      refine ⟨r1, r2, C, e, r3, r4, fun j x hj => ?_⟩
      obtain ⟨y, hy, hr⟩ := r5 j x hj
      exact ⟨y, hy, VRel.low x y (lowL_get hl hj) hr⟩
    | map es clk =>
      obtain ⟨E, r1, r2⟩ := h2
      exact ⟨E, r1, ERelM_low hl r2⟩
    | loop st ev ps asg body pe =>
      obtain ⟨fn, tmps, D, N, r1, r2, r3⟩ := h2
      exact ⟨fn, tmps, D, N, r1, fun t => VRel.low _ _ (T.all_getD hl rfl t) (r2 t), r3⟩
    | rows f len ks => exact h2
  · exact h.sep n m p q o o' hnm (hold n p e1).1 (hold m q e2).1
  · exact h.tip n m p q o o' (hold n p e1).1 (hold m q e2).1
  · exact h.one n m p q o o' hnm (hold n p e1).1 (hold m q e2).1
where
  lowL_get {nx : Nat} : ∀ {cs : List AV} {j : Nat} {x : AV}, lowL nx cs = true → cs[j]? = some x → x.low nx = true
    | [], j, x, _, h => by simp at h
    | c :: cs, 0, x, hl, h => by simp at h; subst h; simp only [lowL, Bool.and_eq_true] at hl; exact hl.1
    | c :: cs, j + 1, x, hl, h => by simp at h; simp only [lowL, Bool.and_eq_true] at hl; exact lowL_get hl.2 h
  ERelM_low {ρ : Rho} {nx : Nat} : ∀ {es : List (Value × Nat × AV)} {E : List MapEntry}, lowL nx (es.map (·.2.2)) = true → ERelM ρ es E → ERelM (fun k => if k < nx then ρ k else none) es E
    | [], _, _, e => e
    | (_, _, v) :: es, _, hl, ⟨e, r, e1, e2, e3, e4⟩ => by
      simp only [List.map_cons, lowL, Bool.and_eq_true] at hl
      exact ⟨e, r, e1, e2, VRel.low v _ hl.1 e3, ERelM_low hl.2 e4⟩

mutual
theorem VRel.isLow {ρ : Rho} {nx : Nat} (hgc : Fz.gc = true) (hd : ∀ n p, ρ n = some p → n < nx) : ∀ (x : AV) (y : Value), VRel ρ x y → x.low nx = true
  | .v _, _, _ => rfl
  | .ptr m _ _, _, ⟨p, hp, _⟩ => by simpa [AV.low] using hd _ _ hp
  | .sl m _ _ _, _, ⟨p, k, hp, _⟩ => by simpa [AV.low] using hd _ _ hp
  | .none0 _, _, _ => rfl
  | .mp m, _, ⟨p, hp, _⟩ => by simpa [AV.low] using hd _ _ hp
  | .fn _ cs, _, ⟨ys, e, r⟩ => by simpa [AV.low] using VRels.isLow hgc hd cs _ r
  | .agg cs, _, ⟨ys, e, r⟩ => by simpa [AV.low] using VRels.isLow hgc hd cs _ r
  | .tup cs, _, ⟨ys, e, r⟩ => by simpa [AV.low] using VRels.isLow hgc hd cs _ r
  | .yld m, _, ⟨p, hp, _⟩ => by simpa [AV.low] using hd _ _ hp
  | .s _, _, _ => rfl
  | .osl _ _, _, ⟨h, _⟩ => by rw [hgc] at h; cases h
  | .fz _ _ _, _, _ => rfl
  | .fzp _ _ _ _ _, _, _ => rfl
  | .z0, _, _ => rfl
  | .xs, _, _ => rfl
theorem VRels.isLow {ρ : Rho} {nx : Nat} (hgc : Fz.gc = true) (hd : ∀ n p, ρ n = some p → n < nx) : ∀ (xs : List AV) (ys : List Value), VRels ρ xs ys → lowL nx xs = true
  | [], _, _ => rfl
  | x :: xs, _, ⟨y, r, e, hx, hr⟩ => by simp only [lowL, VRel.isLow hgc hd x y hx, VRels.isLow hgc hd xs r hr, Bool.and_self]
end
theorem ORel.isLow {ρ : Rho} {nx : Nat} (hgc : Fz.gc = true) (hd : ∀ n p, ρ n = some p → n < nx) {o : AO} {p : Pl} {w : World} (h : ORel ρ o p w) : o.low nx = true := by
  cases o with
  | cells cs sz f t s =>
    obtain ⟨_, _, C, e, _, _, h⟩ := h
    have : ∀ (l : List AV), (∀ (j : Nat) x, l[j]? = some x → ∃ y, VRel ρ x y) → lowL nx l = true := by
      intro l
      induction l with
      | nil => intro _; rfl
      | cons a l ih =>
        intro h
        obtain ⟨y, hy⟩ := h 0 a rfl
        simp only [lowL, VRel.isLow hgc hd a y hy, Bool.true_and]
        exact ih fun j x hj => h (j + 1) x (by simpa using hj)
    exact this cs fun j x hj => by obtain ⟨y, _, hr⟩ := h j x hj; exact ⟨y, hr⟩
  | map es clk =>
    obtain ⟨E, _, h⟩ := h
    show lowL nx (es.map (·.2.2)) = true
    generalize E.toList = El at h
    induction es generalizing El with
    | nil => rfl
    | cons x es ih =>
      obtain ⟨k, b, v⟩ := x
      obtain ⟨e, r, _, _, e3, e4⟩ := h
      simp only [List.map_cons, lowL, VRel.isLow hgc hd v _ e3, Bool.true_and]
      exact ih r e4
  | loop st ev ps asg body pe =>
    obtain ⟨fn, tmps, D, N, _, r2, _⟩ := h
    refine T.all_of_get ev fun t x hx => ?_
    have := r2 t
    rw [hx] at this
    exact VRel.isLow hgc hd x _ this
  | rows => rfl

theorem leave_ok {ρ ρ' : Rho} {h h' : Hp} {w w' : World} {v : AV} {y : Value} {L : List Nat} (hh : HR ρ h w) (hk : KL { ob := h.ob, nx := h.nx, lg := [] } h') (hv : VRel ρ' v y) (hh' : HR ρ' h' w') (hst : Stepped ρ h.nx L w ρ' h'.nx w') (hl : h'.lg = L) :
    ∃ ρ'' L', VRel ρ'' v y ∧ HR ρ'' (leave h.nx h.lg v h') w' ∧ Stepped ρ h.nx L' w ρ'' (leave h.nx h.lg v h').nx w' ∧ (leave h.nx h.lg v h').lg = L' ++ h.lg := by
  unfold leave
  rw [cond_eq_ite]
  split
  · rename_i hc
    simp only [Bool.and_eq_true, List.all_eq_true] at hc
    obtain ⟨⟨c0, c1⟩, c2⟩ := hc
    have hgc : Fz.gc = true := by
      cases hg : Fz.gc with
      | true => rfl
      | false => have := hh.op hg; simp at c0; omega
    refine ⟨_, _, VRel.low v y c1 hv, HRel.dropTo hh' hst.le ?_ hh.op, ?_, rfl⟩
    · intro n o hn ho
      obtain ⟨k1, L0, k2, k3⟩ := hk
      simp only [List.append_nil] at k2
      by_cases hL : n ∈ L0
      · have := c2 n (by rw [k2]; simp [hL, hn])
        rw [ho] at this
        exact this
      · rcases k3 n o hn hL ho with x | x
        · rcases hh.obj0 n o x hn with ⟨p, hp, hr⟩ | ⟨_, hr⟩
          · exact hr.isLow hgc hh.dm
          · cases o <;> first | rfl | exact hr.elim
        · exact x h.nx
    · refine ⟨Nat.le_refl _, fun n hn => by rw [if_pos hn]; exact hst.old n hn, fun n p hn e => ?_, hst.size, hst.os, hst.tape, hst.output, fun b hb hne => hst.block b hb fun n p hnL hn hp => hne n p ?_ hn hp⟩
      · rw [if_neg (by omega)] at e; cases e
      · rw [hl]; simp [hnL, hn]
  · exact ⟨ρ', L, hv, hh', hst, by rw [hl]⟩

end Ev
end Go.Proofs.Ytengccmjlaejfaa
end
section
namespace Go.Proofs.Ytengccmjlaejfaa
namespace Ev
open Go.RowKit
variable {P : Program}

theorem map_congrL {α β : Type} {f g : α → β} : ∀ {l : List α}, (∀ x ∈ l, f x = g x) → l.map f = l.map g
  | [], _ => rfl
  | x :: r, h => by rw [List.map_cons, List.map_cons, h x (by simp), map_congrL fun y hy => h y (by simp [hy])]

theorem boundA_congr {f f' : Operand → AV} {d : Nat} {o : Option Operand} (h : ∀ x ∈ o.toArray, f x = f' x) : boundA d f o = boundA d f' o := by
  cases o with
  | none => rfl
  | some x => simp only [boundA]; rw [h x (by simp)]

/-- An operation looks at its operands alone. -/
theorem openL_congr {f f' : Operand → AV} {o : Oper} {h : Hp} (hx : ∀ x ∈ o.op.operands, f x = f' x) : openL P f o h = openL P f' o h := by
  obtain ⟨dst, op, ty, pos, after, guard⟩ := o
  cases op <;> simp only [Op.operands] at hx <;> simp only [openL]
  case load t a => rw [hx a (by simp)]
  case store t a x => rw [hx a (by simp), hx x (by simp)]
  case indexAddr t x i => rw [hx x (by simp), hx i (by simp)]
  case makeSlice t l c => rw [hx l (by simp), hx c (by simp)]
  case slice t x lo hi mx =>
    cases mx with
    | some m => rfl
    | none =>
      simp only []
      rw [hx x (by simp)]
      cases lo with
      | none =>
        cases hi with
        | none => rfl
        | some hi => simp only []; rw [hx hi (by simp)]
      | some lo =>
        simp only []
        rw [hx lo (by simp)]
        cases hi with
        | none => rfl
        | some hi => simp only []; rw [hx hi (by simp)]
  case call c =>
    have ha : c.args.toList.map f = c.args.toList.map f' := map_congrL fun y hy => hx y (by unfold Call.operands; simp; exact .inr (by simpa using hy))
    rw [ha]
theorem openS_congr {f f' : Operand → AV} {o : Oper} {h : Hp} (hx : ∀ x ∈ o.op.operands, f x = f' x) : openS P f o h = openS P f' o h := by
  obtain ⟨dst, op, ty, pos, after, guard⟩ := o
  cases op <;> simp only [Op.operands] at hx <;> simp only [openS]
  case binOp op t x y z => rw [hx x (by simp), hx y (by simp)]
  case index t x i => rw [hx x (by simp), hx i (by simp)]
  case slice t x lo hi mx =>
    cases mx with
    | some m => rfl
    | none =>
      simp only []
      have h1 : optS f lo = optS f' lo := by
        cases lo with
        | none => rfl
        | some l => show (f l).isS = (f' l).isS; rw [hx l (by simp)]
      have h2 : optS f hi = optS f' hi := by
        cases hi with
        | none => rfl
        | some l => show (f l).isS = (f' l).isS; rw [hx l (by simp)]
      rw [hx x (by simp), h1, h2]
      cases lo with
      | none =>
        cases hi with
        | none => rfl
        | some hi => simp only []; rw [hx hi (by simp)]
      | some lo =>
        simp only []
        rw [hx lo (by simp)]
        cases hi with
        | none => rfl
        | some hi => simp only []; rw [hx hi (by simp)]
theorem openA_congr {f f' : Operand → AV} {o : Oper} {h : Hp} (hx : ∀ x ∈ o.op.operands, f x = f' x) : openA P f o h = openA P f' o h := by
  unfold openA
  rw [openS_congr hx, openL_congr hx]
theorem aopC_congr {f f' : Operand → AV} {o : Oper} {h : Hp} (hx : ∀ x ∈ o.op.operands, f x = f' x) : aopC P f o h = aopC P f' o h := by
  obtain ⟨dst, op, ty, pos, after, guard⟩ := o
  cases op <;> simp only [Op.operands] at hx <;> simp only [aopC]
  case move x => rw [hx x (by simp)]
  case assign x => rw [hx x (by simp)]
  case pick c a b => rw [hx c (by simp), hx a (by simp), hx b (by simp)]
  case box t x => rw [hx x (by simp)]
  case build t ps => rw [map_congrL (f := fun (x : Nat × Operand) => (x.1, f x.2)) (g := fun x => (x.1, f' x.2)) fun y hy => by rw [hx y.2 (by simpa using ⟨y.1, by simpa using hy⟩)]]
  case buildSlice t n ps => rw [map_congrL (f := fun (x : Nat × Operand) => (x.1, f x.2)) (g := fun x => (x.1, f' x.2)) fun y hy => by rw [hx y.2 (by simpa using ⟨y.1, by simpa using hy⟩)]]
  case makeSlice t l c => rw [hx l (by simp), hx c (by simp)]
  case makeMap t r => cases r <;> rfl
  case lookup t x i ok => rw [hx x (by simp), hx i (by simp)]
  case mapUpdate t x k v => rw [hx x (by simp), hx k (by simp), hx v (by simp)]
  case insert t x k v => rw [hx x (by simp), hx k (by simp), hx v (by simp)]
  case mapEntry t x k => rw [hx x (by simp), hx k (by simp)]
  case entryStore t x k v => rw [hx x (by simp), hx k (by simp), hx v (by simp)]
  case load t a => rw [hx a (by simp)]
  case store t a x => rw [hx a (by simp), hx x (by simp)]
  case binOp op t x y yt => rw [hx x (by simp), hx y (by simp)]
  case unOp op t x => rw [hx x (by simp)]
  case convert s d x => rw [hx x (by simp)]
  case makeFunc fn first cap =>
    cases fn <;> simp only []
    rw [map_congrL (f := f) (g := f') fun y hy => hx y (by simp; exact .inr (by simpa using hy))]
  case slice t x lo hi mx =>
    have h1 : f x = f' x := hx x (by simp)
    have h2 : ∀ d, boundA d f lo = boundA d f' lo := fun d => boundA_congr fun y hy => hx y (by simp at hy ⊢; simp [hy])
    have h3 : ∀ d, boundA d f hi = boundA d f' hi := fun d => boundA_congr fun y hy => hx y (by simp at hy ⊢; simp [hy])
    have h4 : ∀ d, boundA d f mx = boundA d f' mx := fun d => boundA_congr fun y hy => hx y (by simp at hy ⊢; simp [hy])
    rw [h1]
    simp only [h2, h3]
    cases mx with
    | none => rfl
    | some m => simp only [h4]
  case fieldAddr t x k => rw [hx x (by simp)]
  case field t x k => rw [hx x (by simp)]
  case indexAddr t x i => rw [hx x (by simp), hx i (by simp)]
  case index t x i => rw [hx x (by simp), hx i (by simp)]
  case extract x i => rw [hx x (by simp)]
  case nilCheck x => rw [hx x (by simp)]
  case call c =>
    have ha : c.args.toList.map f = c.args.toList.map f' := map_congrL fun y hy => hx y (by unfold Call.operands; simp; exact .inr (by simpa using hy))
    rw [ha]
    cases hc : c.callee with
    | value fo => simp only []; rw [hx fo (by unfold Call.operands; simp [hc])]
    | builtin b => rfl
    | invoke r m => rfl

/-- An operation looks at its operands alone. -/
theorem aop_congr {f f' : Operand → AV} {o : Oper} {h : Hp} (hx : ∀ x ∈ o.op.operands, f x = f' x) : aop P f o h = aop P f' o h := by
  unfold aop
  rw [openA_congr hx, aopC_congr hx]

/- Masks. -/
theorem testBit_one_shl (n k : Nat) : (1 <<< n).testBit k = decide (k = n) := by
  rw [Nat.shiftLeft_eq, Nat.one_mul, Nat.testBit_two_pow]
  simp [eq_comm]
theorem mask_fold (t : T Nat) (k : Nat) : ∀ (l : List Edge) (s : Nat), (l.foldl (fun s e => bif Region.binds .any e then (s ||| (1 <<< e.on)) ||| (t.get e.on).getD 0 else s) s).testBit k = true ↔
    s.testBit k = true ∨ ∃ e ∈ l, Region.binds .any e = true ∧ (k = e.on ∨ ((t.get e.on).getD 0).testBit k = true)
  | [], s => by simp
  | e :: r, s => by
    rw [List.foldl_cons, mask_fold t k r]
    cases hb : Region.binds .any e with
    | true =>
      simp only [cond_true, Nat.testBit_or, testBit_one_shl, Bool.or_eq_true, decide_eq_true_eq, List.mem_cons]
      constructor
      · rintro ((( h | h) | h) | ⟨e', h1, h2⟩)
        · exact .inl h
        · exact .inr ⟨e, .inl rfl, hb, .inl h⟩
        · exact .inr ⟨e, .inl rfl, hb, .inr h⟩
        · exact .inr ⟨e', .inr h1, h2⟩
      · rintro (h | ⟨e', rfl | h1, h2, h3⟩)
        · exact .inl (.inl (.inl h))
        · rcases h3 with h3 | h3
          · exact .inl (.inl (.inr h3))
          · exact .inl (.inr h3)
        · exact .inr ⟨e', h1, h2, h3⟩
    | false =>
      simp only [cond_false, List.mem_cons]
      constructor
      · rintro (h | ⟨e', h1, h2⟩)
        · exact .inl h
        · exact .inr ⟨e', .inr h1, h2⟩
      · rintro (h | ⟨e', rfl | h1, h2⟩)
        · exact .inl h
        · rw [hb] at h2; exact absurd h2.1 (by simp)
        · exact .inr ⟨e', h1, h2⟩
theorem bsGo_keeps : ∀ (l : List Oper) (i : Nat) (t : T Nat) (k : Nat), k < i → (bsGo i l t).get k = t.get k
  | [], _, _, _, _ => rfl
  | o :: r, i, t, k, h => by
    simp only [bsGo]
    rw [bsGo_keeps r (i + 1) _ k (by omega), T.get_put, upd_ne _ _ (by omega)]
theorem bsGo_at : ∀ (l : List Oper) (i : Nat) (t : T Nat) (k : Nat) (o : Oper), l[k]? = some o → ∃ t', (bsGo i l t).get (i + k) = some (maskOf o t') ∧ ∀ j, j < i + k → t'.get j = (bsGo i l t).get j
  | [], _, _, k, _, h => by simp at h
  | o :: r, i, t, 0, o', h => by
    simp at h; subst h
    refine ⟨t, ?_, fun j hj => (bsGo_keeps (o :: r) i t j (by omega)).symm⟩
    simp only [bsGo]
    rw [bsGo_keeps r (i + 1) _ _ (by omega), T.get_put, Nat.add_zero, upd_same]
  | o :: r, i, t, k + 1, o', h => by
    simp at h
    obtain ⟨t', h1, h2⟩ := bsGo_at r (i + 1) (T.put (i + 2) t i (some (maskOf o t))) k o' h
    refine ⟨t', ?_, fun j hj => ?_⟩
    · simp only [bsGo]; rw [show i + (k + 1) = i + 1 + k by omega]; exact h1
    · simp only [bsGo]; exact h2 j (by omega)

/-- The edges of each lead back. -/
def BackOk (ops : Array Oper) : Prop := ∀ i o, ops[i]? = some o → ∀ e ∈ o.after, Region.binds .any e = true → e.on < i
theorem mk_iff {ops : Array Oper} (hb : BackOk ops) {i : Nat} {o : Oper} (ho : ops[i]? = some o) (k : Nat) :
    (msk (bsGo 0 ops.toList .leaf) i).testBit k = true ↔ ∃ e ∈ o.after, Region.binds .any e = true ∧ (k = e.on ∨ (msk (bsGo 0 ops.toList .leaf) e.on).testBit k = true) := by
  obtain ⟨t', h1, h2⟩ := bsGo_at ops.toList 0 .leaf i o (by simpa using ho)
  rw [Nat.zero_add] at h1 h2
  have : msk (bsGo 0 ops.toList .leaf) i = maskOf o t' := by unfold msk; rw [h1]; rfl
  rw [this]
  unfold maskOf
  rw [mask_fold]
  simp only [Nat.zero_testBit, Bool.false_eq_true, false_or, Array.mem_toList_iff]
  constructor
  · rintro ⟨e, he, hbn, h⟩
    refine ⟨e, he, hbn, ?_⟩
    rcases h with h | h
    · exact .inl h
    · rw [h2 e.on (hb i o ho e he hbn)] at h; exact .inr h
  · rintro ⟨e, he, hbn, h⟩
    refine ⟨e, he, hbn, ?_⟩
    rcases h with h | h
    · exact .inl h
    · exact .inr (by rw [h2 e.on (hb i o ho e he hbn)]; exact h)
theorem mk_out {ops : Array Oper} {i : Nat} (ho : ops[i]? = none) : msk (bsGo 0 ops.toList .leaf) i = 0 := by
  have : ∀ (l : List Oper) (i : Nat) (t : T Nat) (k : Nat), i + l.length ≤ k → (bsGo i l t).get k = t.get k := by
    intro l
    induction l with
    | nil => intro _ _ _ _; rfl
    | cons o r ih => intro i t k h; simp only [bsGo]; simp only [List.length_cons] at h; rw [ih _ _ _ (by omega), T.get_put, upd_ne _ _ (by omega)]
  unfold msk
  rw [this _ _ _ _ (by simpa using ho)]
  rfl
theorem mk_lt {ops : Array Oper} (hb : BackOk ops) {i k : Nat} (h : (msk (bsGo 0 ops.toList .leaf) i).testBit k = true) : k < i := by
  induction i using Nat.strongRecOn generalizing k with
  | _ i ih =>
    cases ho : ops[i]? with
    | none => rw [mk_out ho] at h; simp at h
    | some o =>
      obtain ⟨e, he, hbn, h⟩ := (mk_iff hb ho k).1 h
      have := hb i o ho e he hbn
      rcases h with h | h
      · omega
      · have := ih e.on this h; omega
theorem mk_trans {ops : Array Oper} (hb : BackOk ops) {i j k : Nat} (h : (msk (bsGo 0 ops.toList .leaf) i).testBit j = true) (h' : (msk (bsGo 0 ops.toList .leaf) j).testBit k = true) : (msk (bsGo 0 ops.toList .leaf) i).testBit k = true := by
  induction i using Nat.strongRecOn generalizing j k with
  | _ i ih =>
    cases ho : ops[i]? with
    | none => rw [mk_out ho] at h; simp at h
    | some o =>
      obtain ⟨e, he, hbn, h⟩ := (mk_iff hb ho j).1 h
      refine (mk_iff hb ho k).2 ⟨e, he, hbn, .inr ?_⟩
      rcases h with h | h
      · rw [← h]; exact h'
      · exact ih e.on (hb i o ho e he hbn) h h'

/- Writers of temporaries. -/
theorem writers_spec : ∀ (l : List Oper) (i : Nat) (t w : T Nat), writers i l t = some w → ∀ d,
    (∀ j, t.get d = some j → w.get d = some j ∧ ∀ (k : Nat) (o : Oper), l[k]? = some o → o.dst ≠ some d) ∧
    (t.get d = none → ∀ j, w.get d = some j ↔ ∃ (k : Nat) (o : Oper), j = i + k ∧ l[k]? = some o ∧ o.dst = some d)
  | [], i, t, w, h, d => by
    simp only [writers] at h; cases h
    exact ⟨fun j hj => ⟨hj, fun k o hk => by simp at hk⟩, fun hn j => by rw [hn]; simp⟩
  | o :: r, i, t, w, h, d => by
    simp only [writers] at h
    split at h
    · rename_i d' hd'
      split at h
      · cases h
      · rename_i hn'
        have ih := writers_spec r (i + 1) _ w h d
        by_cases c : d = d'
        · subst c
          refine ⟨fun j hj => (by rw [hj] at hn'; cases hn'), fun _ j => ?_⟩
          obtain ⟨h1, h2⟩ := ih.1 i (by rw [T.get_put, upd_same])
          rw [h1]
          constructor
          · intro e; cases e; exact ⟨0, o, rfl, rfl, hd'⟩
          · rintro ⟨k, o', rfl, hk, ho'⟩
            cases k with
            | zero => rfl
            | succ k => exact absurd ho' (h2 k o' (by simpa using hk))
        · have e : (T.put (d' + 2) t d' (some i)).get d = t.get d := by rw [T.get_put, upd_ne _ _ c]
          rw [e] at ih
          refine ⟨fun j hj => ?_, fun hn j => ?_⟩
          · obtain ⟨h1, h2⟩ := ih.1 j hj
            refine ⟨h1, fun k o' hk => ?_⟩
            cases k with
            | zero => simp at hk; subst hk; rw [hd']; exact fun e => c (by cases e; rfl)
            | succ k => exact h2 k o' (by simpa using hk)
          · rw [ih.2 hn j]
            constructor
            · rintro ⟨k, o', rfl, hk, ho'⟩; exact ⟨k + 1, o', by omega, by simpa using hk, ho'⟩
            · rintro ⟨k, o', rfl, hk, ho'⟩
              cases k with
              | zero => simp at hk; subst hk; rw [hd'] at ho'; cases ho'; exact absurd rfl c
              | succ k => exact ⟨k, o', by omega, by simpa using hk, ho'⟩
    · rename_i hd'
      have ih := writers_spec r (i + 1) t w h d
      refine ⟨fun j hj => ?_, fun hn j => ?_⟩
      · obtain ⟨h1, h2⟩ := ih.1 j hj
        refine ⟨h1, fun k o' hk => ?_⟩
        cases k with
        | zero => simp at hk; subst hk; rw [hd']; simp
        | succ k => exact h2 k o' (by simpa using hk)
      · rw [ih.2 hn j]
        constructor
        · rintro ⟨k, o', rfl, hk, ho'⟩; exact ⟨k + 1, o', by omega, by simpa using hk, ho'⟩
        · rintro ⟨k, o', rfl, hk, ho'⟩
          cases k with
          | zero => simp at hk; subst hk; rw [hd'] at ho'; cases ho'
          | succ k => exact ⟨k, o', by omega, by simpa using hk, ho'⟩
theorem looksOk_spec {ops : Array Oper} {bs w : T Nat} : ∀ (l : List Oper) (i : Nat), looksOk ops bs w i l = true → ∀ k o, l[k]? = some o →
    (∀ t ∈ o.looksAt ops, ∀ j, w.get t = some j → j = i + k ∨ ordered bs (i + k) j = true) ∧ (∀ e ∈ o.after, Region.binds .any e = true → e.on < i + k)
  | [], _, _, k, o, h => by simp at h
  | o :: r, i, h, k, o', hk => by
    simp only [looksOk, Bool.and_eq_true, List.all_eq_true, Array.all_eq_true'] at h
    obtain ⟨⟨h1, h2⟩, h3⟩ := h
    cases k with
    | zero =>
      simp at hk; subst hk
      refine ⟨fun t ht j hj => ?_, fun e he hbn => ?_⟩
      · have := h1 t ht
        rw [hj] at this
        simp only [Bool.or_eq_true] at this
        rcases this with x | x
        · exact .inl (by have := Nat.eq_of_beq_eq_true x; omega)
        · exact .inr (by simpa using x)
      · have := h2 e he
        rw [hbn] at this
        simpa using this
    | succ k =>
      have := looksOk_spec r (i + 1) h3 k o' (by simpa using hk)
      rw [show i + (k + 1) = i + 1 + k by omega]
      exact this

structure DrawOk (ops : Array Oper) (W : Nat → Option Nat) : Prop where
  back : BackOk ops
  w : ∀ t j, W t = some j ↔ ∃ o, ops[j]? = some o ∧ o.dst = some t
  looks : ∀ i o t j, ops[i]? = some o → t ∈ o.looksAt ops → W t = some j → j = i ∨ ordered (bsGo 0 ops.toList .leaf) i j = true
theorem drawOk_spec {ops : Array Oper} (h : drawOk ops (bsGo 0 ops.toList .leaf) = true) : ∃ W, DrawOk ops W := by
  unfold drawOk at h
  split at h
  · rename_i w hw
    have h1 := writers_spec ops.toList 0 .leaf w hw
    have h2 := looksOk_spec ops.toList 0 h
    simp only [Nat.zero_add] at h1 h2
    refine ⟨w.get, fun i o ho e he hbn => (h2 i o (by simpa using ho)).2 e he hbn, fun t j => ?_, fun i o t j ho ht hj => (h2 i o (by simpa using ho)).1 t ht j hj⟩
    rw [(h1 t).2 rfl j]
    constructor
    · rintro ⟨k, o, rfl, hk, ho⟩; exact ⟨o, by simpa using hk, ho⟩
    · rintro ⟨o, hk, ho⟩; exact ⟨j, o, rfl, by simpa using hk, ho⟩
  · cases h

end Ev
end Go.Proofs.Ytengccmjlaejfaa
end
section
namespace Go.Proofs.Ytengccmjlaejfaa
namespace Ev
open Go.RowKit
set_option linter.unusedSectionVars false
variable [Fz]
variable {P : Program}

instance : Inhabited DRec := ⟨⟨.v undef, 0, 0, none, [], [], false⟩⟩
def nxR (D : Nat → DRec) (x : Nat) : Nat → Nat
  | 0 => x
  | k + 1 => (D k).hi
def entR (D : Nat → DRec) (m : Nat → Bool) (n : Nat) (b : Option AO) : Nat → Option AO
  | 0 => b
  | k + 1 => bif m k then (match lookE n (D k).en with
    | some o => o
    | none => entR D m n b k) else entR D m n b k
def envR (D : Nat → DRec) (W : Nat → Option Nat) (e0 : T AV) (t k : Nat) : Option AV := match W t with
  | some j => if j < k then some (D j).v else e0.get t
  | none => e0.get t

theorem drawGo_spec {call : Sum} {ops : Array Oper} {bs : T Nat} {h0 : Hp} {D : Nat → DRec} {W : Nat → Option Nat} {e0 : T AV} (hW : ∀ t j, W t = some j ↔ ∃ o, ops[j]? = some o ∧ o.dst = some t) :
    ∀ (l : List Oper) (i : Nat) (e : T AV) (nx : Nat) (ens : Ens) (ds : List DRec) (e' : T AV) (nx' : Nat) (ens' : Ens), ops.toList.drop i = l → i ≤ ops.size → drawGo P call ops bs h0 i l e nx ens = some (ds, e', nx', ens') →
      (∀ (k : Nat) d, ds[k]? = some d → D (i + k) = d) → (∀ t, e.get t = envR D W e0 t i) → nx = nxR D h0.nx i → (∀ m n b, entAt m n b ens = entR D m n b i) →
      ds.length = l.length ∧ (∀ t, e'.get t = envR D W e0 t ops.size) ∧ nx' = nxR D h0.nx ops.size ∧ (∀ m n b, entAt m n b ens' = entR D m n b ops.size) ∧
      ∀ k o, i ≤ k → ops[k]? = some o → ∃ ek ensk, drawOne P call ops (msk bs k) h0 o ek (nxR D h0.nx k) ensk = some (D k) ∧ (∀ t, ek.get t = envR D W e0 t k) ∧ ∀ m n b, entAt m n b ensk = entR D m n b k
  | [], i, e, nx, ens, ds, e', nx', ens', hl, hi, h, hD, he, hn, hE => by
    simp only [drawGo] at h
    cases h
    have : i = ops.size := by
      have := congrArg List.length hl
      simp at this
      omega
    subst this
    refine ⟨rfl, he, hn, hE, fun k o hk ho => ?_⟩
    have := (Array.getElem?_eq_some_iff.1 ho).1
    omega
  | o :: r, i, e, nx, ens, ds, e', nx', ens', hl, hi, h, hD, he, hn, hE => by
    have hio : ops[i]? = some o := by
      have : ops.toList[i]? = some o := by
        have := congrArg (·[0]?) hl
        simpa using this
      simpa using this
    have hr : ops.toList.drop (i + 1) = r := by
      have := congrArg (·.drop 1) hl
      simpa [Nat.add_comm] using this
    have hlt := (Array.getElem?_eq_some_iff.1 hio).1
    simp only [drawGo] at h
    split at h
    · rename_i d hd
      split at h
      · rename_i ds' x hg
        cases h
        have hDi : D i = d := by simpa using hD 0 d rfl
        have ih := drawGo_spec (h0 := h0) (e0 := e0) hW r (i + 1) _ _ _ ds' e' nx' ens' hr (by omega) hg (fun k d' hk => by rw [show i + 1 + k = i + (k + 1) by omega]; exact hD (k + 1) d' (by simpa using hk)) (fun t => ?_) (by show d.hi = (D i).hi; rw [hDi]) (fun m n b => by
          simp only [entAt, entR, hDi, hE]
          cases m i <;> rfl)
        · obtain ⟨h1, h2, h3, h4, h5⟩ := ih
          refine ⟨by simp [h1], h2, h3, h4, fun k o' hk ho' => ?_⟩
          by_cases c : k = i
          · subst c
            rw [hio] at ho'; cases ho'
            exact ⟨e, ens, by rw [← hn, hDi]; exact hd, he, hE⟩
          · exact h5 k o' (by omega) ho'
        · unfold envR
          have hput : (putT e o.dst d.v).get t = if o.dst = some t then some d.v else e.get t := by
            cases hdst : o.dst with
            | none => simp [putT]
            | some q =>
              simp only [putT, T.get_put, upd]
              by_cases c : t = q
              · subst c; simp
              · simp [c, Ne.symm c]
          rw [hput, he t]
          unfold envR
          cases hWt : W t with
          | none =>
            have : o.dst ≠ some t := fun c => by have := (hW t i).2 ⟨o, hio, c⟩; rw [hWt] at this; cases this
            rw [if_neg this]
          | some j =>
            simp only []
            by_cases c : o.dst = some t
            · have := (hW t i).2 ⟨o, hio, c⟩
              rw [hWt] at this; cases this
              rw [if_pos c, if_pos (by omega), hDi]
            · have hj : j ≠ i := fun cj => by subst cj; obtain ⟨o', h1, h2⟩ := (hW t j).1 hWt; rw [hio] at h1; cases h1; exact c h2
              rw [if_neg c]
              by_cases cj : j < i
              · rw [if_pos cj, if_pos (by omega)]
              · rw [if_neg cj, if_neg (by omega)]
      · cases h
    · cases h

theorem madeBy_spec {mk n : Nat} : ∀ (l : List DRec) (s : Nat), madeBy mk n s l = false → ∀ (k : Nat) c, l[k]? = some c → mk.testBit (s + k) = true → ¬ (c.lo ≤ n ∧ n < c.hi)
  | [], _, _, k, c, h => by simp at h
  | c :: r, s, h, k, c', hk => by
    simp only [madeBy, Bool.or_eq_false_iff] at h
    cases k with
    | zero =>
      simp at hk; subst hk
      intro hb hc
      rw [Nat.add_zero] at hb
      have := h.1
      have h1 : Nat.ble c.lo n = true := by simpa using hc.1
      have h2 : Nat.blt n c.hi = true := by simpa using hc.2
      rw [hb, h1, h2] at this
      cases this
    | succ k => have := madeBy_spec r (s + 1) h.2 k c' (by simpa using hk); rw [show s + (k + 1) = s + 1 + k by omega]; exact this
theorem clearOf_spec {bs : T Nat} {x j : Nat} {all : List DRec} {d : DRec} : ∀ (l : List DRec) (i : Nat), clearOf bs x all j d i l = true → ∀ (k : Nat) c, l[k]? = some c → i + k = j ∨ ordered bs (i + k) j = true ∨ (clear1 x (msk bs (i + k)) all d c.vw = true ∧ (d.full = true → c.wr = [] ∧ c.lo = c.hi))
  | [], _, _, k, c, h => by simp at h
  | c :: r, i, h, k, c', hk => by
    simp only [clearOf, Bool.and_eq_true, Bool.or_eq_true] at h
    cases k with
    | zero =>
      simp at hk; subst hk
      rcases h.1 with (x | x) | x
      · exact .inl (by have := Nat.eq_of_beq_eq_true x; omega)
      · exact .inr (.inl x)
      · refine .inr (.inr ⟨x.1, fun hf => ?_⟩)
        have := x.2
        rw [hf] at this
        simp at this
        exact ⟨this.1, by simpa using this.2⟩
    | succ k => have := clearOf_spec r (i + 1) h.2 k c' (by simpa using hk); rw [show i + (k + 1) = i + 1 + k by omega]; exact this
theorem clearAll_spec {bs : T Nat} {x : Nat} {all : List DRec} : ∀ (l : List DRec) (j : Nat), clearAll bs x all j l = true → ∀ (k : Nat) d, l[k]? = some d → (d.wr = [] ∧ d.lo = d.hi) ∨ clearOf bs x all (j + k) d 0 all = true
  | [], _, _, k, d, h => by simp at h
  | d :: r, j, h, k, d', hk => by
    simp only [clearAll, Bool.and_eq_true, Bool.or_eq_true] at h
    cases k with
    | zero =>
      simp at hk; subst hk
      rcases h.1 with x | x
      · exact .inl ⟨by simpa using x.1, Nat.eq_of_beq_eq_true x.2⟩
      · exact .inr x
    | succ k => have := clearAll_spec r (j + 1) h.2 k d' (by simpa using hk); rw [show j + (k + 1) = j + 1 + k by omega]; exact this

abbrev bsO (ops : Array Oper) : T Nat := bsGo 0 ops.toList .leaf

/-- What an operation has done is out of another one's sight. -/
def Clear1 (x mk N : Nat) (D : Nat → DRec) (d : DRec) (vw : Option (List Nat)) : Prop := match vw with
  | some l => (l.all fun n => !(Nat.ble d.lo n && Nat.blt n d.hi) && !(d.wr.contains n)) = true
  | none => ∀ n ∈ d.wr, x ≤ n ∧ ∀ k, k < N → mk.testBit k = true → ¬ ((D k).lo ≤ n ∧ n < (D k).hi)
theorem Clear1.of {x mk N : Nat} {D : Nat → DRec} {d : DRec} {vw : Option (List Nat)} {all : List DRec} (hD : ∀ k, k < N → all[k]? = some (D k)) (h : clear1 x mk all d vw = true) : Clear1 x mk N D d vw := by
  unfold clear1 at h
  unfold Clear1
  cases vw with
  | some l => exact h
  | none =>
    simp only [List.all_eq_true, Bool.and_eq_true, Bool.not_eq_true'] at h
    intro n hn
    obtain ⟨h1, h2⟩ := h n hn
    refine ⟨by simpa using h1, fun k hk hb => madeBy_spec all 0 h2 k (D k) (hD k hk) (by simpa using hb)⟩
structure DrawF (P : Program) (call : Sum) (ops : Array Oper) (e0 : T AV) (h0 : Hp) (D : Nat → DRec) (W : Nat → Option Nat) : Prop where
  ok : DrawOk ops W
  kl : SumKL call
  sum : SumOk P call
  one : ∀ k o, ops[k]? = some o → ∃ e ens, drawOne P call ops (msk (bsO ops) k) h0 o e (nxR D h0.nx k) ens = some (D k) ∧ (∀ t, e.get t = envR D W e0 t k) ∧ ∀ m n b, entAt m n b ens = entR D m n b k
  clear : ∀ i j, i < ops.size → j < ops.size → i ≠ j → ordered (bsO ops) i j = false → ((D j).wr = [] ∧ (D j).lo = (D j).hi) ∨ (Clear1 h0.nx (msk (bsO ops) i) ops.size D (D j) (D i).vw ∧ ((D j).full = true → (D i).wr = [] ∧ (D i).lo = (D i).hi))

section
variable {call : Sum} {ops : Array Oper} {e0 : T AV} {h0 : Hp} {D : Nat → DRec} {W : Nat → Option Nat}

theorem DrawF.rcd (F : DrawF P call ops e0 h0 D W) {k : Nat} (hk : k < ops.size) : ∃ ob ob', RecOk (nxR D h0.nx k) (D k) ob ob' := by
  obtain ⟨e, ens, h, _⟩ := F.one k ops[k] (by simp [hk])
  exact drawOne_ok F.kl h
theorem DrawF.step (F : DrawF P call ops e0 h0 D W) {k : Nat} (hk : k < ops.size) : nxR D h0.nx k ≤ nxR D h0.nx (k + 1) := by
  obtain ⟨_, _, h⟩ := F.rcd hk
  exact h.le
theorem DrawF.lo (F : DrawF P call ops e0 h0 D W) {k : Nat} (hk : k < ops.size) : (D k).lo = nxR D h0.nx k := by
  obtain ⟨_, _, h⟩ := F.rcd hk
  exact h.lo
theorem get_clearFrom (n : Nat) : ∀ (k s : Nat) (t : T AO), (clearFrom s k t).get n = if s ≤ n ∧ n < s + k then none else t.get n
  | 0, s, t => by rw [if_neg (by omega)]; rfl
  | k + 1, s, t => by
    simp only [clearFrom]
    rw [get_clearFrom n k (s + 1), T.get_put']
    by_cases c : n = s
    · subst c; rw [if_neg (by omega), if_pos rfl, if_pos (by omega)]
    · rw [if_neg c]
      by_cases c2 : s + 1 ≤ n ∧ n < s + 1 + k
      · rw [if_pos c2, if_pos (by omega)]
      · rw [if_neg c2, if_neg (by omega)]
theorem DrawF.mono (F : DrawF P call ops e0 h0 D W) {i j : Nat} (hij : i ≤ j) (hj : j ≤ ops.size) : nxR D h0.nx i ≤ nxR D h0.nx j := by
  induction j with
  | zero => have : i = 0 := by omega
            subst this; exact Nat.le_refl _
  | succ j ih =>
    by_cases c : i = j + 1
    · subst c; exact Nat.le_refl _
    · exact Nat.le_trans (ih (by omega) (by omega)) (F.step (by omega))
/-- Whose new name it is. -/
def mine (D : Nat → DRec) (x n k : Nat) : Prop := nxR D x k ≤ n ∧ n < nxR D x (k + 1)
theorem DrawF.uniq (F : DrawF P call ops e0 h0 D W) {n i j : Nat} (hi : i < ops.size) (hj : j < ops.size) (h : mine D h0.nx n i) (k : mine D h0.nx n j) : i = j := by
  unfold mine at h k
  rcases Nat.lt_trichotomy i j with c | c | c
  · have := F.mono (i := i + 1) (j := j) (by omega) (by omega); omega
  · exact c
  · have := F.mono (i := j + 1) (j := i) (by omega) (by omega); omega
theorem DrawF.look (F : DrawF P call ops e0 h0 D W) {k n : Nat} (hk : k < ops.size) : (lookE n (D k).en).isSome = true ↔ mine D h0.nx n k ∨ n ∈ (D k).wr := by
  obtain ⟨ob, ob', h⟩ := F.rcd hk
  rw [h.look]
  unfold mine
  by_cases c : (nxR D h0.nx k ≤ n ∧ n < (D k).hi) ∨ n ∈ (D k).wr
  · rw [if_pos c]; simp only [Option.isSome_some, true_iff]; exact c
  · rw [if_neg c]; simp only [Option.isSome_none, Bool.false_eq_true, false_iff]; exact c

/-- The last of a set that has made something of a name. -/
theorem entR_find (D : Nat → DRec) (m : Nat → Bool) (n : Nat) (b : Option AO) : ∀ (N : Nat), (entR D m n b N = b ∧ ∀ k, k < N → m k = true → lookE n (D k).en = none) ∨ ∃ k o, k < N ∧ m k = true ∧ lookE n (D k).en = some o ∧ entR D m n b N = o ∧ ∀ j, k < j → j < N → m j = true → lookE n (D j).en = none
  | 0 => .inl ⟨rfl, fun k hk => by omega⟩
  | N + 1 => by
    simp only [entR]
    cases hm : m N with
    | true =>
      simp only [cond_true]
      cases hl : lookE n (D N).en with
      | some o => exact .inr ⟨N, o, by omega, hm, hl, rfl, fun j h1 h2 => by omega⟩
      | none =>
        rcases entR_find D m n b N with ⟨h1, h2⟩ | ⟨k, o, h1, h2, h3, h4, h5⟩
        · exact .inl ⟨h1, fun k hk hmk => by by_cases c : k = N; (subst c; exact hl); exact h2 k (by omega) hmk⟩
        · exact .inr ⟨k, o, by omega, h2, h3, h4, fun j a1 a2 a3 => by by_cases c : j = N; (subst c; exact hl); exact h5 j a1 (by omega) a3⟩
    | false =>
      simp only [cond_false]
      rcases entR_find D m n b N with ⟨h1, h2⟩ | ⟨k, o, h1, h2, h3, h4, h5⟩
      · exact .inl ⟨h1, fun k hk hmk => h2 k (by by_cases c : k = N; (subst c; rw [hm] at hmk; cases hmk); omega) hmk⟩
      · exact .inr ⟨k, o, by omega, h2, h3, h4, fun j a1 a2 a3 => h5 j a1 (by by_cases c : j = N; (subst c; rw [hm] at a3; cases a3); omega) a3⟩
/-- Two sets alike at a name's makers. -/
theorem entR_congr {D : Nat → DRec} {m m' : Nat → Bool} {n : Nat} {b : Option AO} {N N' : Nat} (h : ∀ k, (k < N ∧ m k = true ∧ (lookE n (D k).en).isSome = true) ↔ (k < N' ∧ m' k = true ∧ (lookE n (D k).en).isSome = true)) : entR D m n b N = entR D m' n b N' := by
  rcases entR_find D m n b N with ⟨h1, h2⟩ | ⟨k, o, h1, h2, h3, h4, h5⟩
  · rcases entR_find D m' n b N' with ⟨k1, k2⟩ | ⟨k, o, k1, k2, k3, k4, k5⟩
    · rw [h1, k1]
    · obtain ⟨a1, a2, a3⟩ := (h k).2 ⟨k1, k2, by rw [k3]; rfl⟩
      rw [h2 k a1 a2] at a3; cases a3
  · rcases entR_find D m' n b N' with ⟨k1, k2⟩ | ⟨k', o', k1, k2, k3, k4, k5⟩
    · obtain ⟨a1, a2, a3⟩ := (h k).1 ⟨h1, h2, by rw [h3]; rfl⟩
      rw [k2 k a1 a2] at a3; cases a3
    · obtain ⟨a1, a2, _⟩ := (h k).1 ⟨h1, h2, by rw [h3]; rfl⟩
      obtain ⟨b1, b2, _⟩ := (h k').2 ⟨k1, k2, by rw [k3]; rfl⟩
      have : k = k' := by
        rcases Nat.lt_trichotomy k k' with c | c | c
        · have := h5 k' c b1 b2; rw [this] at k3; cases k3
        · exact c
        · have := k5 k c a1 a2; rw [this] at h3; cases h3
      subst this
      rw [h3] at k3; cases k3
      rw [h4, k4]

theorem get_viewL (m : Nat → Bool) (h0 : Hp) (ens : Ens) : ∀ (l : List Nat) (n : Nat), (viewL m h0 ens l).get n = if n ∈ l then entAt m n (baseAt h0 n) ens else none
  | [], n => by simp [viewL, T.get]
  | x :: r, n => by
    simp only [viewL]
    rw [T.get_put', get_viewL m h0 ens r n]
    by_cases c : n = x
    · subst c; simp
    · simp [c]
/-- Who writes a new name knows who made it. -/
theorem DrawF.wknows (F : DrawF P call ops e0 h0 D W) : ∀ (k : Nat), k < ops.size → ∀ n j, n ∈ (D k).wr → j < ops.size → mine D h0.nx n j → (msk (bsO ops) k).testBit j = true := by
  intro k
  induction k using Nat.strongRecOn with
  | _ k ih =>
    intro hk n j hn hj hm
    obtain ⟨e, ens, h, _, hens⟩ := F.one k ops[k] (by simp [hk])
    have hb : baseAt h0 n = none := by
      unfold baseAt
      have h1 := F.mono (i := 0) (j := j) (by omega) (by omega)
      have h2 : h0.nx ≤ n := Nat.le_trans h1 hm.1
      have : Nat.blt n h0.nx = false := by cases hc : Nat.blt n h0.nx with
        | false => rfl
        | true => simp at hc; omega
      rw [this]; rfl
    -- the object that it has written was there
    have hsome : entR D (fun i => (msk (bsO ops) k).testBit i) n none k ≠ none := by
      unfold drawOne at h
      rw [cond_eq_ite] at h
      split at h
      · simp only [] at h
        generalize hvw : viewD (opnd e) ops[k] (msk (bsO ops) k) h0 ens = vw at h
        have key : ∀ (v : AV) (h' : Hp), finishR vw (obOf (msk (bsO ops) k) h0 (nxR D h0.nx k) ens vw) (nxR D h0.nx k) v h' = some (D k) → entR D (fun i => (msk (bsO ops) k).testBit i) n none k ≠ none := by
          intro v h' hf hz
          have hlt : n < nxR D h0.nx k := by
            obtain ⟨_, _, hr⟩ := F.rcd (k := k) (by omega)
            exact hr.wlt n hn
          have hno : (obOf (msk (bsO ops) k) h0 (nxR D h0.nx k) ens vw).get n = none := by
            cases vw with
            | none =>
              simp only [obOf]
              rw [get_viewAll, get_clearFrom]
              have h1 := F.mono (i := 0) (j := j) (by omega) (by omega)
              have h2 : h0.nx ≤ n := Nat.le_trans h1 hm.1
              rw [if_pos (by omega), hens]
              exact hz
            | some l =>
              simp only [obOf]
              rw [get_viewL, hb, hens]
              rw [hz]
              split <;> rfl
          unfold finishR at hf
          simp only [cond_eq_ite] at hf
          split at hf
          · rename_i hc
            injection hf with hf
            have hwr : n ∈ h'.lg.filter (fun m => Nat.blt m (nxR D h0.nx k)) := by rw [← hf] at hn; exact hn
            have := List.all_eq_true.1 hc n hwr
            rw [hno] at this
            simp [unshared] at this
          · split at hf
            · injection hf with hf
              rename_i hc
              simp only [Bool.and_eq_true, List.all_eq_true] at hc
              rw [← hf] at hn
              rcases List.mem_append.1 hn with x | x
              · have := hc.2 n x
                rw [hno] at this
                simp at this
              · have := shared_some (List.mem_filter.1 x).2
                rw [hno] at this
                simp at this
            · cases hf
        split at h
        · exact key _ _ h
        · split at h
          · exact key _ _ h
          · cases h
        · cases h
      · injection h with h
        rw [← h] at hn
        simp at hn
    rcases entR_find D (fun i => (msk (bsO ops) k).testBit i) n none k with ⟨h1, _⟩ | ⟨i, o, h1, h2, h3, _, _⟩
    · exact absurd h1 hsome
    · have hl := (F.look (k := i) (n := n) (by omega)).1 (by rw [h3]; rfl)
      rcases hl with hl | hl
      · have := F.uniq (by omega) hj hl hm
        subst this
        exact h2
      · exact mk_trans F.ok.back h2 (ih i h1 (by omega) n j hl hj hm)
end

end Ev
end Go.Proofs.Ytengccmjlaejfaa
end
section
namespace Go.Proofs.Ytengccmjlaejfaa
namespace Ev
open Go.RowKit
set_option linter.unusedSectionVars false
variable [Fz]
variable {P : Program} {call : Sum} {ops : Array Oper} {e0 : T AV} {h0 : Hp} {D : Nat → DRec} {W : Nat → Option Nat}

def cut (ρ : Rho) (l : Nat) : Rho := fun k => if k < l then ρ k else none
theorem cut_some {ρ : Rho} {l n : Nat} {p : Pl} (h : cut ρ l n = some p) : ρ n = some p ∧ n < l := by
  unfold cut at h
  split at h
  · exact ⟨h, by assumption⟩
  · cases h
theorem cut_lt {ρ : Rho} {l n : Nat} (h : n < l) : cut ρ l n = ρ n := by unfold cut; rw [if_pos h]
theorem cut_sub (ρ : Rho) {l l' : Nat} (h : l ≤ l') : Sub (cut ρ l) (cut ρ l') := fun n p e => by
  obtain ⟨h1, h2⟩ := cut_some e
  rw [cut_lt (by omega)]; exact h1

abbrev X (D : Nat → DRec) (h0 : Hp) : Nat → Nat := nxR D h0.nx
def cont (D : Nat → DRec) (h0 : Hp) (ops : Array Oper) (S : Nat → Bool) (n : Nat) : Option AO := entR D S n (baseAt h0 n) ops.size
def Made (D : Nat → DRec) (h0 : Hp) (S : Nat → Bool) (n : Nat) : Prop := n < h0.nx ∨ ∃ j, S j = true ∧ mine D h0.nx n j

structure Inv (ops : Array Oper) (e0 : T AV) (h0 : Hp) (D : Nat → DRec) (W : Nat → Option Nat) (S : Nat → Bool) (ρ0 ρ : Rho) (w0 w : World) (a : Act) (N : Nat) (ds : List Deferred) : Prop where
  lt : ∀ i, S i = true → i < ops.size
  closed : ∀ i j, S i = true → (msk (bsO ops) i).testBit j = true → S j = true
  envS : ∀ t j, W t = some j → S j = true → VRel (cut ρ (X D h0 (j + 1))) (D j).v (a.tmps.getD t undef)
  env0 : ∀ t, (∀ j, W t = some j → S j = false) → VRel ρ0 ((e0.get t).getD (.v undef)) (a.tmps.getD t undef)
  dom : ∀ n p, ρ n = some p → p.b < w.heap.size ∧ Made D h0 S n
  old : ∀ n, n < h0.nx → ρ n = ρ0 n
  dom0 : ∀ n p, ρ0 n = some p → n < h0.nx
  obj : ∀ n o, Made D h0 S n → cont D h0 ops S n = some o → (∃ p l, ρ n = some p ∧ ORel (cut ρ l) o p w ∧ ∀ i, i ≤ ops.size → (∀ k, S k = true → (lookE n (D k).en).isSome = true → k < i) → l ≤ X D h0 i) ∨ (ρ n = none ∧ o.nil0)
  fz : ∀ b o, Fz.m b = some o → w.heap[b]? = some o
  nf : ∀ n p, ρ n = some p → Fz.m p.b = none
  opn : Fz.gc = false → openB ≤ h0.nx
  sep : ∀ n m p q o o', n ≠ m → ρ n = some p → ρ m = some q → p.b = q.b → cont D h0 ops S n = some o → cont D h0 ops S m = some o' → o.fam = o'.fam ∧ o.sh = true ∧ o'.sh = true
  tip : ∀ n m p q o o', ρ n = some p → ρ m = some q → p.b = q.b → cont D h0 ops S n = some o → cont D h0 ops S m = some o' → o.tp = true → q.o + o'.len ≤ p.o + o.len
  one : ∀ n m p q o o', n ≠ m → ρ n = some p → ρ m = some q → p.b = q.b → cont D h0 ops S n = some o → cont D h0 ops S m = some o' → o.tp = true → o'.tp = false
  size : w0.heap.size ≤ w.heap.size
  os : w.os = w0.os
  tape : w.tape = w0.tape
  output : w.output = w0.output
  new : ∀ n p, h0.nx ≤ n → ρ n = some p → w0.heap.size ≤ p.b ∨ ∃ m q j, S j = true ∧ m ∈ (D j).wr ∧ m < h0.nx ∧ ρ0 m = some q ∧ q.b = p.b
  block : ∀ b, b < w0.heap.size → (∀ n p j, S j = true → n ∈ (D j).wr → n < h0.nx → ρ0 n = some p → p.b ≠ b) → w.heap[b]? = w0.heap[b]?
  d : a.defers = ds
  n : N ≤ a.tmps.size

instance (D : Nat → DRec) (x n k : Nat) : Decidable (mine D x n k) := by unfold mine; infer_instance
theorem mine_cover {n : Nat} : ∀ (i : Nat), h0.nx ≤ n → n < X D h0 i → ∃ j, j < i ∧ mine D h0.nx n j
  | 0, h, k => by unfold X at k; simp only [nxR] at k; omega
  | i + 1, h, k => by
    by_cases c : n < X D h0 i
    · obtain ⟨j, h1, h2⟩ := mine_cover i h c; exact ⟨j, by omega, h2⟩
    · exact ⟨i, by omega, by unfold mine; unfold X at c k; omega⟩

theorem baseAt_lt {n : Nat} (h : n < h0.nx) : baseAt h0 n = h0.ob.get n := by
  unfold baseAt
  rw [show Nat.blt n h0.nx = true by simpa using h]; rfl
theorem baseAt_ge {n : Nat} (h : h0.nx ≤ n) : baseAt h0 n = none := by
  unfold baseAt
  have : Nat.blt n h0.nx = false := by
    cases hc : Nat.blt n h0.nx with
    | false => rfl
    | true => simp at hc; omega
  rw [this]; rfl

section
variable {S : Nat → Bool} {ρ0 ρ : Rho} {w0 w : World} {a : Act} {N : Nat} {ds : List Deferred}

/-- The makers of what an operation sees lie ahead of it. -/
theorem Inv.seen (F : DrawF P call ops e0 h0 D W) (I : Inv ops e0 h0 D W S ρ0 ρ w0 w a N ds) {i : Nat} (hi : i < ops.size) (hS : S i = false) (hp : ∀ j, (msk (bsO ops) i).testBit j = true → S j = true) {n : Nat} {o : AO}
    (hn : n < X D h0 i) (hv : ∀ l, (D i).vw = some l → n ∈ l) (hg : entR D (fun j => (msk (bsO ops) i).testBit j) n (baseAt h0 n) i = some o) :
    cont D h0 ops S n = some o ∧ Made D h0 S n ∧ ∀ k, S k = true → (lookE n (D k).en).isSome = true → k < i := by
  have hmak : ∀ k, S k = true → (lookE n (D k).en).isSome = true → (msk (bsO ops) i).testBit k = true := by
    intro k hk hl
    have hki : i ≠ k := fun c => by subst c; rw [hS] at hk; cases hk
    cases ho : ordered (bsO ops) i k with
    | true =>
      unfold ordered at ho
      simp only [Bool.or_eq_true] at ho
      rcases ho with h | h
      · exact h
      · have := I.closed k i hk h; rw [hS] at this; cases this
    | false =>
      have hlk := (F.look (I.lt k hk)).1 hl
      exfalso
      rcases F.clear i k hi (I.lt k hk) hki ho with ⟨h1, h2⟩ | h
      · rcases hlk with h | h
        · unfold mine at h
          rw [F.lo (I.lt k hk)] at h2
          have : nxR D h0.nx (k + 1) = (D k).hi := rfl
          omega
        · rw [h1] at h; simp at h
      · have h := h.1
        unfold Clear1 at h
        cases hvw : (D i).vw with
        | some l =>
          rw [hvw] at h
          simp only [List.all_eq_true] at h
          have := h n (hv l hvw)
          simp only [Bool.and_eq_true, Bool.not_eq_true', Bool.and_eq_false_iff] at this
          rcases hlk with hm | hm
          · unfold mine at hm
            rw [F.lo (I.lt k hk)] at this
            have e : nxR D h0.nx (k + 1) = (D k).hi := rfl
            rcases this.1 with x | x
            · have := ble_false x; omega
            · have := blt_false x; omega
          · have := this.2
            simp at this
            exact this hm
        | none =>
          rw [hvw] at h
          rcases hlk with hm | hm
          · have hge : h0.nx ≤ n := Nat.le_trans (F.mono (i := 0) (j := k) (by omega) (Nat.le_of_lt (I.lt k hk))) hm.1
            rw [baseAt_ge hge] at hg
            rcases entR_find D (fun j => (msk (bsO ops) i).testBit j) n none i with ⟨h1, _⟩ | ⟨k', o', h1, h2, h3, _, _⟩
            · rw [h1] at hg; cases hg
            · have h2 : (msk (bsO ops) i).testBit k' = true := h2
              have hl' := (F.look (k := k') (n := n) (by omega)).1 (by rw [h3]; rfl)
              have hik : (msk (bsO ops) i).testBit k = true := by
                rcases hl' with hm' | hm'
                · have := F.uniq (by omega) (I.lt k hk) hm' hm
                  subst this; exact h2
                · exact mk_trans F.ok.back h2 (F.wknows k' (by omega) n k hm' (I.lt k hk) hm)
              unfold ordered at ho
              rw [hik] at ho; simp at ho
          · obtain ⟨hge, hno⟩ := h n hm
            rw [baseAt_ge hge] at hg
            rcases entR_find D (fun j => (msk (bsO ops) i).testBit j) n none i with ⟨h1, _⟩ | ⟨k', o', h1, h2, h3, _, _⟩
            · rw [h1] at hg; cases hg
            · have h2 : (msk (bsO ops) i).testBit k' = true := h2
              have hl' := (F.look (k := k') (n := n) (by omega)).1 (by rw [h3]; rfl)
              rcases hl' with hm' | hm'
              · exact hno k' (by omega) h2 (by rw [F.lo (by omega)]; exact hm')
              · obtain ⟨j, hj, hmj⟩ := mine_cover i hge hn
                have hj2 := F.wknows k' (by omega) n j hm' (by omega) hmj
                exact hno j (by omega) (mk_trans F.ok.back h2 hj2) (by rw [F.lo (by omega)]; exact hmj)
  have hc : cont D h0 ops S n = some o := by
    rw [← hg]
    unfold cont
    refine entR_congr fun k => ?_
    constructor
    · rintro ⟨h1, h2, h3⟩; exact ⟨mk_lt F.ok.back (hmak k h2 h3), hmak k h2 h3, h3⟩
    · rintro ⟨h1, h2, h3⟩; exact ⟨by omega, hp k h2, h3⟩
  refine ⟨hc, ?_, fun k h1 h2 => mk_lt F.ok.back (hmak k h1 h2)⟩
  by_cases c : n < h0.nx
  · exact .inl c
  · obtain ⟨j, hj, hm⟩ := mine_cover i (by omega) hn
    rw [baseAt_ge (by omega)] at hg
    rcases entR_find D (fun j => (msk (bsO ops) i).testBit j) n none i with ⟨h1, _⟩ | ⟨k', o', h1, h2, h3, _, _⟩
    · rw [h1] at hg; cases hg
    · have h2 : (msk (bsO ops) i).testBit k' = true := h2
      have hl' := (F.look (k := k') (n := n) (by omega)).1 (by rw [h3]; rfl)
      rcases hl' with hm' | hm'
      · exact .inr ⟨k', hp k' h2, hm'⟩
      · exact .inr ⟨j, I.closed k' j (hp k' h2) (F.wknows k' (by omega) n j hm' (by omega) hm), hm⟩

/-- What an operation sees stands in memory. -/
theorem Inv.view (F : DrawF P call ops e0 h0 D W) (I : Inv ops e0 h0 D W S ρ0 ρ w0 w a N ds) {i : Nat} (hi : i < ops.size) (hS : S i = false) (hp : ∀ j, (msk (bsO ops) i).testBit j = true → S j = true) {g : Nat → Option AO}
    (hg : ∀ n o, g n = some o → n < X D h0 i → (∀ l, (D i).vw = some l → n ∈ l) ∧ entR D (fun j => (msk (bsO ops) i).testBit j) n (baseAt h0 n) i = some o) :
    HRel (cut ρ (X D h0 i)) g (X D h0 i) w := by
  have see : ∀ n o p, g n = some o → cut ρ (X D h0 i) n = some p → ρ n = some p ∧ cont D h0 ops S n = some o := fun n o p h1 h2 => by
    obtain ⟨h3, h4⟩ := cut_some h2
    obtain ⟨h5, h6⟩ := hg n o h1 h4
    exact ⟨h3, (I.seen F hi hS hp h4 h5 h6).1⟩
  refine ⟨fun n p e => ⟨(cut_some e).2, (I.dom n p (cut_some e).1).1⟩, fun n o e hn => ?_, fun n m p q o o' hnm e1 e2 hb e3 e4 => ?_, fun n m p q o o' e1 e2 hb e3 e4 ht => ?_, fun n m p q o o' hnm e1 e2 hb e3 e4 ht => ?_, I.fz, fun n p e => I.nf n p (cut_some e).1, fun e => Nat.le_trans (I.opn e) (F.mono (i := 0) (j := i) (by omega) (Nat.le_of_lt hi))⟩
  · obtain ⟨h5, h6⟩ := hg n o e hn
    obtain ⟨h7, h8, h9⟩ := I.seen F hi hS hp hn h5 h6
    rcases I.obj n o h8 h7 with ⟨p, l, h10, h11, h12⟩ | ⟨h10, h11⟩
    rotate_left
    · exact .inr ⟨by rw [cut_lt hn]; exact h10, h11⟩
    exact .inl ⟨p, by rw [cut_lt hn]; exact h10, h11.mono (cut_sub ρ (h12 i (by omega) h9))⟩
  · exact I.sep n m p q o o' hnm (see n o p e3 e1).1 (see m o' q e4 e2).1 hb (see n o p e3 e1).2 (see m o' q e4 e2).2
  · exact I.tip n m p q o o' (see n o p e3 e1).1 (see m o' q e4 e2).1 hb (see n o p e3 e1).2 (see m o' q e4 e2).2 ht
  · exact I.one n m p q o o' hnm (see n o p e3 e1).1 (see m o' q e4 e2).1 hb (see n o p e3 e1).2 (see m o' q e4 e2).2 ht

def addS (S : Nat → Bool) (i : Nat) : Nat → Bool := fun k => k == i || S k
def merge (ρ ρ' : Rho) (l r : Nat) : Rho := fun n => if l ≤ n ∧ n < r then ρ' n else ρ n

/-- One operation more has come up. -/
theorem Inv.add (F : DrawF P call ops e0 h0 D W) (I : Inv ops e0 h0 D W S ρ0 ρ w0 w a N ds) {i : Nat} {o : Oper} (ho : ops[i]? = some o) (hS : S i = false) (hp : ∀ j, (msk (bsO ops) i).testBit j = true → S j = true)
    {ρ' : Rho} {w' : World} {L : List Nat} {g' : Nat → Option AO} {y : Value} (hy : VRel ρ' (D i).v y) (hst : Stepped (cut ρ (X D h0 i)) (X D h0 i) L w ρ' (X D h0 (i + 1)) w') (hh : HRel ρ' g' (X D h0 (i + 1)) w')
    (hlook : ∀ n, lookE n (D i).en = if mine D h0.nx n i ∨ n ∈ (D i).wr then some (g' n) else none) (hL : ∀ n ∈ L, n < X D h0 i → n ∈ (D i).wr)
    (hwr : ∀ n ∈ (D i).wr, n < X D h0 i ∧ Made D h0 S n ∧ (cont D h0 ops S n).isSome = true ∧ ∀ k, S k = true → (lookE n (D k).en).isSome = true → k < i)
    (hsh : (∀ n ∈ (D i).wr, unshared (cont D h0 ops S n) = true) ∨ ∀ m q o', ρ m = some q → cont D h0 ops S m = some o' → o'.sh = true → m ∈ (D i).wr) (hdst : ∀ x, o.dst = some x → x < a.tmps.size) :
    Inv ops e0 h0 D W (addS S i) ρ0 (merge ρ ρ' (X D h0 i) (X D h0 (i + 1))) w0 w' (a.put o.dst y) N ds := by
  have hi := (Array.getElem?_eq_some_iff.1 ho).1
  have hX : X D h0 i ≤ X D h0 (i + 1) := F.step hi
  have hX0 : ∀ k, k ≤ ops.size → h0.nx ≤ X D h0 k := fun k hk => F.mono (i := 0) (j := k) (by omega) hk
  have aS : ∀ k, addS S i k = true ↔ k = i ∨ S k = true := fun k => by unfold addS; simp
  have notmine : ∀ n, Made D h0 S n → ¬ mine D h0.nx n i := fun n hm hmi => by
    rcases hm with hm | ⟨j, hj, hm⟩
    · have := hX0 i (by omega); unfold mine at hmi; unfold X at this; omega
    · have := F.uniq (I.lt j hj) hi hm hmi
      subst this; rw [hS] at hj; cases hj
  -- old names keep their places
  have hkeep : ∀ n p, ρ n = some p → merge ρ ρ' (X D h0 i) (X D h0 (i + 1)) n = some p := fun n p e => by
    unfold merge
    rw [if_neg]
    · exact e
    · exact notmine n (I.dom n p e).2
  have hsub : Sub ρ (merge ρ ρ' (X D h0 i) (X D h0 (i + 1))) := hkeep
  have hsubc : ∀ l, Sub (cut ρ l) (cut (merge ρ ρ' (X D h0 i) (X D h0 (i + 1))) l) := fun l n p e => by
    obtain ⟨h1, h2⟩ := cut_some e
    rw [cut_lt h2]; exact hkeep n p h1
  have hcut : cut (merge ρ ρ' (X D h0 i) (X D h0 (i + 1))) (X D h0 (i + 1)) = ρ' := by
    funext n
    unfold cut merge
    by_cases c1 : n < X D h0 (i + 1)
    · rw [if_pos c1]
      by_cases c2 : X D h0 i ≤ n
      · rw [if_pos ⟨c2, c1⟩]
      · rw [if_neg (by omega)]
        have := hst.old n (by omega)
        rw [cut_lt (by omega)] at this
        exact this.symm
    · rw [if_neg c1]
      cases hr : ρ' n with
      | none => rfl
      | some p => exact absurd (hh.dom n p hr).1 c1
  have hnew : ∀ n p, merge ρ ρ' (X D h0 i) (X D h0 (i + 1)) n = some p → (mine D h0.nx n i ∧ ρ' n = some p) ∨ (¬ mine D h0.nx n i ∧ ρ n = some p) := fun n p e => by
    unfold merge at e
    split at e
    · rename_i c; exact .inl ⟨c, e⟩
    · rename_i c; exact .inr ⟨c, e⟩
  -- contents
  have contI : ∀ n, (mine D h0.nx n i ∨ n ∈ (D i).wr) → cont D h0 ops (addS S i) n = g' n := fun n hn => by
    unfold cont
    have hli : lookE n (D i).en = some (g' n) := by rw [hlook, if_pos hn]
    -- i is the last of its makers
    have hlast : ∀ k, addS S i k = true → (lookE n (D k).en).isSome = true → k ≤ i := fun k hk hl => by
      rcases (aS k).1 hk with rfl | hk
      · exact Nat.le_refl _
      · rcases hn with hn | hn
        · rcases (F.look (I.lt k hk)).1 hl with h | h
          · have := F.uniq (I.lt k hk) hi h hn; omega
          · have := F.wknows k (I.lt k hk) n i h hi hn
            have := I.closed k i hk this; rw [hS] at this; cases this
        · exact Nat.le_of_lt ((hwr n hn).2.2.2 k hk hl)
    rcases entR_find D (addS S i) n (baseAt h0 n) ops.size with ⟨h1, h2⟩ | ⟨k, o', h1, h2, h3, h4, h5⟩
    · have := h2 i hi ((aS i).2 (.inl rfl)); rw [hli] at this; cases this
    · have hk := hlast k h2 (by rw [h3]; rfl)
      by_cases c : k = i
      · subst c; rw [hli] at h3; cases h3; exact h4
      · have := h5 i (by omega) hi ((aS i).2 (.inl rfl)); rw [hli] at this; cases this
  have contO : ∀ n, ¬ (mine D h0.nx n i ∨ n ∈ (D i).wr) → cont D h0 ops (addS S i) n = cont D h0 ops S n := fun n hn => by
    unfold cont
    refine entR_congr fun k => ?_
    have hli : lookE n (D i).en = none := by rw [hlook, if_neg hn]
    constructor
    · rintro ⟨h1, h2, h3⟩
      rcases (aS k).1 h2 with rfl | h2
      · rw [hli] at h3; cases h3
      · exact ⟨h1, h2, h3⟩
    · rintro ⟨h1, h2, h3⟩; exact ⟨h1, (aS k).2 (.inr h2), h3⟩
  have ush : ∀ {x : Option AO}, unshared x = true → ∃ o, x = some o ∧ o.sh = false := fun {x} h => by
    unfold unshared at h
    split at h
    · rename_i sh; exact ⟨_, rfl, by simpa [AO.sh] using h⟩
    · exact ⟨_, rfl, rfl⟩
    · exact ⟨_, rfl, rfl⟩
    · cases h
  -- who is not written keeps its block
  have hblock : ∀ m q o', ρ m = some q → cont D h0 ops S m = some o' → m ∉ (D i).wr → w'.heap[q.b]? = w.heap[q.b]? := fun m q o' hq ho' hm => by
    refine hst.block q.b (I.dom m q hq).1 fun n p hn hlt hp hb => ?_
    have hnw := hL n hn hlt
    obtain ⟨o1, e1⟩ := Option.isSome_iff_exists.1 (hwr n hnw).2.2.1
    have hsep := I.sep n m p q o1 o' (fun c => hm (c ▸ hnw)) (cut_some hp).1 hq hb e1 ho'
    rcases hsh with hsh | hsh
    rotate_left
    · exact hm (hsh m q o' hq ho' hsep.2.2)
    obtain ⟨o1, e1, e2⟩ := ush (hsh n hnw)
    have := I.sep n m p q o1 o' (fun c => hm (c ▸ hnw)) (cut_some hp).1 hq hb e1 ho'
    rw [e2] at this; exact absurd this.2.1 (by simp)
  -- whose block it is
  let Mark : Nat → Prop := fun b => w.heap.size ≤ b ∨ ∃ m q o2, m ∈ (D i).wr ∧ ρ m = some q ∧ q.b = b ∧ cont D h0 ops S m = some o2 ∧ (o2.sh = false ∨ ∀ m q o', ρ m = some q → cont D h0 ops S m = some o' → o'.sh = true → m ∈ (D i).wr)
  have hfresh : ∀ n p, mine D h0.nx n i → ρ' n = some p → Mark p.b := fun n p hm hp' => by
    rcases hst.new n p hm.1 hp' with h | ⟨m, q, h1, h2, h3, h4⟩
    · exact .inl h
    · have hmw := hL m h1 h2
      rcases hsh with hsh | hsh
      · obtain ⟨o2, e1, e2⟩ := ush (hsh m hmw)
        exact .inr ⟨m, q, o2, hmw, (cut_some h3).1, h4, e1, .inl e2⟩
      · obtain ⟨o2, e1⟩ := Option.isSome_iff_exists.1 (hwr m hmw).2.2.1
        exact .inr ⟨m, q, o2, hmw, (cut_some h3).1, h4, e1, .inr hsh⟩
  -- a live name of the new set: of the step, or old and not written
  have live : ∀ n p o1, merge ρ ρ' (X D h0 i) (X D h0 (i + 1)) n = some p → cont D h0 ops (addS S i) n = some o1 →
      (ρ' n = some p ∧ g' n = some o1 ∧ Mark p.b) ∨ (n ∉ (D i).wr ∧ ρ n = some p ∧ cont D h0 ops S n = some o1 ∧ p.b < w.heap.size) := fun n p o1 e1 e2 => by
    rcases hnew n p e1 with ⟨h1, h2⟩ | ⟨h1, h2⟩
    · rw [contI n (.inl h1)] at e2
      exact .inl ⟨h2, e2, hfresh n p h1 h2⟩
    · by_cases c : n ∈ (D i).wr
      · rw [contI n (.inr c)] at e2
        have hlt := (hwr n c).1
        obtain ⟨o2, e3⟩ := Option.isSome_iff_exists.1 (hwr n c).2.2.1
        refine .inl ⟨?_, e2, .inr ⟨n, p, o2, c, h2, rfl, e3, ?_⟩⟩
        rotate_left
        · rcases hsh with hsh | hsh
          · have := hsh n c
            obtain ⟨o3, e5, e6⟩ := ush this
            rw [e3] at e5; cases e5; exact .inl e6
          · exact .inr hsh
        rw [hst.old n hlt, cut_lt hlt]; exact h2
      · rw [contO n (by rintro (x | x) <;> first | exact h1 x | exact c x)] at e2
        exact .inr ⟨c, h2, e2, (I.dom n p h2).1⟩
  -- the two never meet
  have apart : ∀ m q o2 b, Mark b → m ∉ (D i).wr → ρ m = some q → cont D h0 ops S m = some o2 → q.b = b → q.b < w.heap.size → False := fun m q o2 b hM hm hq hc hb hlt => by
    rcases hM with h | ⟨k, r, o3, h1, h2, h3, h4, h5⟩
    · omega
    · have := I.sep k m r q o3 o2 (fun c => hm (c ▸ h1)) h2 hq (h3.trans hb.symm) h4 hc
      rcases h5 with h5 | h5
      · rw [h5] at this; exact absurd this.2.1 (by simp)
      · exact hm (h5 m q o2 hq hc this.2.2)
  have putD : ∀ t, o.dst ≠ some t → (a.put o.dst y).tmps.getD t undef = a.tmps.getD t undef := fun t ht => by
    cases hd : o.dst with
    | none => rfl
    | some q =>
      have hq : q ≠ t := fun c => ht (by rw [hd, c])
      simp [Act.put, Array.getElem?_setIfInBounds_ne hq]
  have putS : ∀ t, o.dst = some t → (a.put o.dst y).tmps.getD t undef = y := fun t ht => by
    have := hdst t ht
    rw [ht]
    simp [Act.put, this]
  refine
    { lt := fun k hk => ?_, closed := fun k j hk hj => ?_, envS := fun t j hw hj => ?_, env0 := fun t hw => ?_, dom := fun n p e => ?_, old := fun n hn => ?_, dom0 := I.dom0, obj := fun n o1 hm hc => ?_, sep := fun n m p q o1 o2 hnm e1 e2 hb e3 e4 => ?_, tip := fun n m p q o1 o2 e1 e2 hb e3 e4 ht => ?_, one := fun n m p q o1 o2 hnm e1 e2 hb e3 e4 ht => ?_,
      size := Nat.le_trans I.size hst.size, os := hst.os.trans I.os, tape := hst.tape.trans I.tape, output := hst.output.trans I.output, fz := hh.fz, nf := fun n p e => (hnew n p e).elim (fun x => hh.nf n p x.2) (fun x => I.nf n p x.2), opn := I.opn, new := fun n p hn e => ?_, block := fun b hb hne => ?_, d := by rw [put_defers]; exact I.d, n := by rw [put_size]; exact I.n }
  · rcases (aS k).1 hk with rfl | hk
    · exact hi
    · exact I.lt k hk
  · rcases (aS k).1 hk with rfl | hk
    · exact (aS j).2 (.inr (hp j hj))
    · exact (aS j).2 (.inr (I.closed k j hk hj))
  · obtain ⟨oj, hoj, hdj⟩ := (F.ok.w t j).1 hw
    rcases (aS j).1 hj with rfl | hj
    · rw [ho] at hoj; cases hoj
      rw [putS t hdj, hcut]; exact hy
    · have hne : o.dst ≠ some t := fun c => by
        have := (F.ok.w t i).2 ⟨o, ho, c⟩
        rw [hw] at this; cases this; rw [hS] at hj; cases hj
      rw [putD t hne]
      exact (I.envS t j hw hj).mono (hsubc _)
  · have hne : o.dst ≠ some t := fun c => by
      have := hw i ((F.ok.w t i).2 ⟨o, ho, c⟩)
      rw [(aS i).2 (.inl rfl)] at this; cases this
    rw [putD t hne]
    refine I.env0 t fun j hj => ?_
    have := hw j hj
    cases hSj : S j with
    | false => rfl
    | true => rw [(aS j).2 (.inr hSj)] at this; cases this
  · rcases hnew n p e with ⟨h1, h2⟩ | ⟨h1, h2⟩
    · exact ⟨(hh.dom n p h2).2, .inr ⟨i, (aS i).2 (.inl rfl), h1⟩⟩
    · obtain ⟨h3, h4⟩ := I.dom n p h2
      refine ⟨Nat.lt_of_lt_of_le h3 hst.size, ?_⟩
      rcases h4 with h4 | ⟨j, h4, h5⟩
      · exact .inl h4
      · exact .inr ⟨j, (aS j).2 (.inr h4), h5⟩
  · rw [← I.old n hn]
    unfold merge
    rw [if_neg]
    exact notmine n (.inl hn)
  · by_cases c : mine D h0.nx n i ∨ n ∈ (D i).wr
    · rw [contI n c] at hc
      have hlt : n < X D h0 (i + 1) := by
        rcases c with c | c
        · exact c.2
        · exact Nat.lt_of_lt_of_le (hwr n c).1 hX
      rcases hh.obj0 n o1 hc hlt with ⟨p, h1, h2⟩ | ⟨h1, h2⟩
      rotate_left
      · refine .inr ⟨?_, h2⟩
        have := congrFun hcut n
        rw [cut_lt hlt] at this
        rw [this]; exact h1
      refine .inl ⟨p, X D h0 (i + 1), ?_, by rw [hcut]; exact h2, fun i' hi' hk => ?_⟩
      · have := congrFun hcut n
        rw [cut_lt hlt] at this
        rw [this]; exact h1
      · have := hk i ((aS i).2 (.inl rfl)) (by rw [hlook, if_pos c]; rfl)
        exact F.mono (by omega) hi'
    · rw [contO n c] at hc
      have hm' : Made D h0 S n := by
        rcases hm with hm | ⟨j, h1, h2⟩
        · exact .inl hm
        · rcases (aS j).1 h1 with rfl | h1
          · exact absurd (.inl h2) c
          · exact .inr ⟨j, h1, h2⟩
      rcases I.obj n o1 hm' hc with ⟨p, l, h1, h2, h3⟩ | ⟨h1, h2⟩
      rotate_left
      · refine .inr ⟨?_, h2⟩
        unfold merge
        rw [if_neg]
        · exact h1
        · exact fun x => c (.inl x)
      exact .inl ⟨p, l, hkeep n p h1, (h2.mono (hsubc l)).world (hblock n p o1 h1 hc (fun x => c (.inr x))), fun i' hi' hk => h3 i' hi' fun k hkS => hk k ((aS k).2 (.inr hkS))⟩
  · rcases live n p o1 e1 e3 with ⟨a1, a2, a3⟩ | ⟨a1, a2, a3, a4⟩ <;> rcases live m q o2 e2 e4 with ⟨b1, b2, b3⟩ | ⟨b1, b2, b3, b4⟩
    · exact hh.sep n m p q o1 o2 hnm a1 b1 hb a2 b2
    · exact (apart m q o2 _ a3 b1 b2 b3 hb.symm b4).elim
    · exact (apart n p o1 _ b3 a1 a2 a3 hb a4).elim
    · exact I.sep n m p q o1 o2 hnm a2 b2 hb a3 b3
  · rcases live n p o1 e1 e3 with ⟨a1, a2, a3⟩ | ⟨a1, a2, a3, a4⟩ <;> rcases live m q o2 e2 e4 with ⟨b1, b2, b3⟩ | ⟨b1, b2, b3, b4⟩
    · exact hh.tip n m p q o1 o2 a1 b1 hb a2 b2 ht
    · exact (apart m q o2 _ a3 b1 b2 b3 hb.symm b4).elim
    · exact (apart n p o1 _ b3 a1 a2 a3 hb a4).elim
    · exact I.tip n m p q o1 o2 a2 b2 hb a3 b3 ht
  · rcases live n p o1 e1 e3 with ⟨a1, a2, a3⟩ | ⟨a1, a2, a3, a4⟩ <;> rcases live m q o2 e2 e4 with ⟨b1, b2, b3⟩ | ⟨b1, b2, b3, b4⟩
    · exact hh.one n m p q o1 o2 hnm a1 b1 hb a2 b2 ht
    · exact (apart m q o2 _ a3 b1 b2 b3 hb.symm b4).elim
    · exact (apart n p o1 _ b3 a1 a2 a3 hb a4).elim
    · exact I.one n m p q o1 o2 hnm a2 b2 hb a3 b3 ht
  · have up : (w0.heap.size ≤ p.b ∨ ∃ m q j, S j = true ∧ m ∈ (D j).wr ∧ m < h0.nx ∧ ρ0 m = some q ∧ q.b = p.b) → w0.heap.size ≤ p.b ∨ ∃ m q j, addS S i j = true ∧ m ∈ (D j).wr ∧ m < h0.nx ∧ ρ0 m = some q ∧ q.b = p.b := by
      rintro (x | ⟨m, q, j, x1, x2⟩)
      · exact .inl x
      · exact .inr ⟨m, q, j, (aS j).2 (.inr x1), x2⟩
    rcases hnew n p e with ⟨h1, h2⟩ | ⟨h1, h2⟩
    · rcases hst.new n p h1.1 h2 with h | ⟨m, q, x1, x2, x3, x4⟩
      · exact .inl (Nat.le_trans I.size h)
      · have hmw := hL m x1 x2
        have hρm := (cut_some x3).1
        by_cases c : m < h0.nx
        · exact .inr ⟨m, q, i, (aS i).2 (.inl rfl), hmw, c, by rw [← I.old m c]; exact hρm, x4⟩
        · have := I.new m q (by omega) hρm
          rw [x4] at this
          exact up this
    · exact up (I.new n p hn h2)
  · rw [hst.block b (Nat.lt_of_lt_of_le hb I.size) ?_, I.block b hb fun n p j hj => hne n p j ((aS j).2 (.inr hj))]
    intro n p hn hlt hp' hbe
    have hnw := hL n hn hlt
    have hρn := (cut_some hp').1
    by_cases c : n < h0.nx
    · exact hne n p i ((aS i).2 (.inl rfl)) hnw c (by rw [← I.old n c]; exact hρn) hbe
    · rcases I.new n p (by omega) hρn with h | ⟨m, q, j, x1, x2, x3, x4, x5⟩
      · omega
      · exact hne m q j ((aS j).2 (.inr x1)) x2 x3 x4 (x5.trans hbe)
end

end Ev
end Go.Proofs.Ytengccmjlaejfaa
end
