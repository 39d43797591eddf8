/- What the evaluator says of code and of a call, the model does (regions that do not draw their order). No condition. -/
import Derived.Test.YtffcaapbmkaceaaDoorEvK
import Derived.LoopNIn
import Derived.OrdersIn
import Derived.OwnWalkIn
import Derived.RangeFuncCalls
import Derived.RangeFuncLeaves
import Derived.RangeFuncSeq
import Derived.RangeFuncBound
import Derived.RangeFuncRecord
import Derived.ScopeJumps
namespace Go.Proofs.YtffcaapbmkaceaaDoor
namespace Ev
open Go.RowKit
set_option linter.unusedSectionVars false
variable [Fz]
variable {P : Program}

/-- The wide fence, out of a round or in one. -/
def FR : Option Nat → Fence
  | none => Fence.wide
  | some l => Fence.wide.inRound l
theorem FR_fn (r : Option Nat) (f : FuncId) : (FR r).fn f := by cases r <;> exact trivial
theorem FR_depth (r : Option Nat) : (FR r).depth = none := by cases r <;> rfl
theorem FR_round (r : Option Nat) : (FR r).round = r := by cases r <;> rfl
theorem FR_room (r : Option Nat) (n : Nat) : (FR r).room n := fun d h => by rw [FR_depth] at h; cases h
theorem callsFR {r : Option Nat} {m : Nat} {f : FuncId} {args : Array Value} {w : World} {R : Ending → World → Prop} (h : Calls P f args w R) : CallsIn (FR r) m P f args w R := by
  cases r with
  | none => exact callsIn_wide.2 h
  | some l => exact CallsIn.inRound l (callsIn_wide.2 h)
theorem aop_nd {f : Operand → AV} {o : Oper} {h : Hp} {s : Stp} (ha : aop P f o h = some s) : ∀ c, o.op ≠ .defer c := fun c hc => by
  have h1 : openA P f o h = none := by unfold openA openS openL; simp only [hc]
  unfold aop at ha
  rw [h1] at ha
  unfold aopC at ha
  rw [hc] at ha
  cases ha
theorem semFR {r : Option Nat} {g : Operand → Value} {o : Oper} (h : ∀ c, o.op ≠ .defer c) : o.semAt (FR r).round g = execOp g o := Oper.semAt_plain (FR r) g o h

def exOf : Ex → Exit
  | .normal => .normal
  | .exit id => .exit id
  | .goto l => .goto l
  | .ret => .ret

def CallOk (P : Program) (f : FuncId) (args : List AV) (h : Hp) (v : AV) (h' : Hp) : Prop :=
  ∀ (ρ : Rho) (w : World) (ys : Array Value), VRels ρ args ys.toList → HR ρ h w →
    Calls P f ys w fun e w' => ∃ y ρ' L, e = .returned y ∧ VRel ρ' v y ∧ HR ρ' h' w' ∧ Stepped ρ h.nx L w ρ' h'.nx w' ∧ h'.lg = L ++ h.lg
def Enters (P : Program) (f : FuncId) : Prop := ∃ fn, P.funcs[f]? = some fn ∧ fn.body.isSome = true ∧ fn.name ≠ "runtime.NumGoroutine"
def SumOk (P : Program) (S : Sum) : Prop := ∀ f args h v h', S f args h = some (v, h') → Enters P f ∧ CallOk P f args h v h'

theorem Enters.run {f : FuncId} (h : Enters P f) (ys : Array Value) (w : World) : (callFunc f ys).run P w = .ok (.enter f ys) w := by
  obtain ⟨fn, h1, h2, h3⟩ := h
  obtain ⟨c, hb⟩ := Option.isSome_iff_exists.1 h2
  simp [callFunc, h1, h3, hb]

theorem ERel.mono {ρ ρ' : Rho} {e : T AV} {a : Act} (h : ERel ρ e a) (hs : Sub ρ ρ') : ERel ρ' e a := fun t => (h t).mono hs
theorem ERel.put {ρ : Rho} {e : T AV} {a : Act} (h : ERel ρ e a) {d : Tmp} {v : AV} {y : Value} (hr : VRel ρ v y) (hd : d < a.tmps.size) : ERel ρ (putT e (some d) v) (a.put (some d) y) := by
  intro t
  unfold putT Act.put
  rw [T.get_put]
  by_cases c : t = d
  · subst c
    rw [upd_same]
    simpa [hd] using hr
  · rw [upd_ne _ _ c]
    have := h t
    have e1 : (a.tmps.setIfInBounds d y).getD t undef = a.tmps.getD t undef := by
      simp [Array.getElem?_setIfInBounds_ne (Ne.symm c)]
    simpa [e1] using this
theorem ERel.put' {ρ : Rho} {e : T AV} {a : Act} (h : ERel ρ e a) {d : Option Tmp} {v : AV} {y : Value} (hr : VRel ρ v y) (hd : ∀ x, d = some x → x < a.tmps.size) : ERel ρ (putT e d v) (a.put d y) := by
  cases d with
  | none => exact h
  | some d => exact h.put hr (hd d rfl)
theorem put_size (a : Act) (d : Option Tmp) (y : Value) : (a.put d y).tmps.size = a.tmps.size := by cases d <;> simp [Act.put]
theorem put_defers (a : Act) (d : Option Tmp) (y : Value) : (a.put d y).defers = a.defers := by cases d <;> rfl

theorem yielded_rel {ρ : Rho} {ops : Array Oper} {e : T AV} {a : Act} (h : ERel ρ e a) (j : Nat) (hd : ∀ d, ((ops[j]?).bind (·.dst)) = some d → d < a.tmps.size) : yieldedA ops e j = yielded ops a.tmps j := by
  unfold yieldedA yielded
  cases hj : (ops[j]?).bind (·.dst) with
  | none => simp
  | some d =>
    simp only [Option.bind_some]
    have hlt := hd d hj
    have hr := h d
    have e1 : a.tmps[d]? = some (a.tmps.getD d undef) := by simp [hlt]
    rw [e1]
    generalize a.tmps.getD d undef = y at hr
    cases hg : e.get d with
    | none => rw [hg] at hr; simp only [Option.getD_none] at hr; cases hr; simp [undef]
    | some x =>
      rw [hg] at hr
      simp only [Option.getD_some] at hr
      cases x with
      | v z => cases hr; cases y <;> rfl
      | s z => cases hr; cases y <;> rfl
      | ptr => obtain ⟨p, hp, rfl⟩ := hr; rfl
      | sl => obtain ⟨p, k, hp, rfl, _⟩ := hr; rfl
      | none0 => obtain ⟨q, k, rfl, _⟩ := hr; rfl
      | mp => obtain ⟨p, hp, rfl⟩ := hr; rfl
      | fn => obtain ⟨ys, rfl, _⟩ := hr; rfl
      | agg => obtain ⟨ys, rfl, _⟩ := hr; rfl
      | tup => obtain ⟨ys, rfl, _⟩ := hr; rfl
      | yld => obtain ⟨p, hp, rfl⟩ := hr; rfl
      | osl => rcases hr with ⟨_, ⟨_, q, rfl⟩ | ⟨p, k, hp, rfl, _⟩⟩ <;> rfl
      | fz => obtain ⟨_, hr⟩ := hr; unfold FzRel at hr; rcases hr with ⟨_, q, k, rfl, _⟩ | ⟨b, o, k, C, e', fr, rfl, _⟩ <;> rfl
      | fzp => obtain ⟨_, b, o, _, _, rfl⟩ := hr; rfl
      | z0 => obtain ⟨q, rfl⟩ := hr; rfl

theorem okOps_lt {n : Nat} {ops : Array Oper} (h : okOps n ops = true) {i : Nat} {o : Oper} (ho : ops[i]? = some o) : ∀ d, o.dst = some d → d < n := by
  intro d hd
  unfold okOps at h
  rw [Array.all_eq_true] at h
  obtain ⟨hi, rfl⟩ := Array.getElem?_eq_some_iff.1 ho
  have := h i hi
  rw [hd] at this
  simpa using this

/-- A round of a loop over a function. -/
def YldOk (P : Program) (yl : Yl) : Prop := ∀ n args h b h', yl n args h = some (b, h') → ∀ (ρ : Rho) (w : World) (ys : Array Value) (p : Pl) (m : Nat), VRels ρ args ys.toList → HR ρ h w → ρ n = some p →
  YieldAt Fence.wide m P p.b ys w fun e w' => ∃ ρ' L, e = .returned (.bool b) ∧ HR ρ' h' w' ∧ Stepped ρ h.nx L w ρ' h'.nx w' ∧ h'.lg = L ++ h.lg
theorem roundFR {r : Option Nat} {m l : Nat} {f : FuncId} {tmps : Array Value} {asg body : Code} {w : World} {R : Ending → World → Prop} (h : RoundIn Fence.wide m P l f tmps asg body w R) : RoundIn (FR r) m P l f tmps asg body w R := by
  cases r with
  | none => exact h
  | some k => exact h

/-- The marks of loops over functions that are over. -/
def Marks (B : Nat) (ρ : Rho) (w : World) : List Deferred → Prop
  | [] => True
  | d :: ds => (∃ D, d = { target := .collected D, args := #[] } ∧ B ≤ D ∧ w.heap[D]? = some (.deferred (some [])) ∧ (∀ n p, ρ n = some p → p.b ≠ D) ∧ ∀ d' ∈ ds, d'.target ≠ .collected D) ∧ Marks B ρ w ds
theorem Marks.step {B nx nx' : Nat} {ρ ρ' : Rho} {L : List Nat} {w w' : World} (st : Stepped ρ nx L w ρ' nx' w') : ∀ {ds : List Deferred}, Marks B ρ w ds → Marks B ρ' w' ds
  | [], _ => trivial
  | d :: ds, ⟨⟨D, h1, h2, h3, h4, h5⟩, h6⟩ => by
    have hlt : D < w.heap.size := by
      rcases Nat.lt_or_ge D w.heap.size with c | c
      · exact c
      · rw [Array.getElem?_eq_none c] at h3; cases h3
    refine ⟨⟨D, h1, h2, ?_, fun n p e => ?_, h5⟩, Marks.step st h6⟩
    · rw [st.block D hlt fun n p _ _ e => h4 n p e]; exact h3
    · by_cases c : n < nx
      · rw [st.old n c] at e; exact h4 n p e
      · rcases st.new n p (by omega) e with x | ⟨m, q, _, _, x3, x4⟩
        · omega
        · rw [← x4]; exact h4 m q x3

/-- Where code may end: what the evaluator says. -/
def After (Q : Exit → Act → World → Prop) (ρ : Rho) (h : Hp) (w : World) (n B : Nat) (x : Exit) (e' : T AV) (h' : Hp) : Prop :=
  ∀ ρ' a' w' L, ERel ρ' e' a' → HR ρ' h' w' → Stepped ρ h.nx L w ρ' h'.nx w' → h'.lg = L ++ h.lg → Marks B ρ' w' a'.defers → n ≤ a'.tmps.size → Q x a' w'

theorem After.step {Q : Exit → Act → World → Prop} {ρ ρ1 : Rho} {h h1 : Hp} {w w1 : World} {n B : Nat} {x : Exit} {e' : T AV} {h' : Hp} {L : List Nat} (hs : Stepped ρ h.nx L w ρ1 h1.nx w1) (hl : h1.lg = L ++ h.lg) (k : After Q ρ h w n B x e' h') : After Q ρ1 h1 w1 n B x e' h' :=
  fun ρ' a' w' L' he hh hst hlg hd hn => k ρ' a' w' (L' ++ L) he hh (hs.trans hst) (by rw [hlg, hl, List.append_assoc]) hd hn

theorem seqOps_wp {ro : Option Nat} {m B : Nat} {call : Sum} (hc : SumOk P call) {yl : Yl} (hyl : YldOk P yl) {ops : Array Oper} {n : Nat} (hok : okOps n ops = true) {Q : Exit → Act → World → Prop} : ∀ (l : List Oper) (i : Nat) (e e' : T AV) (h h' : Hp) (ρ : Rho) (a : Act) (w : World), ops.toList.drop i = l → seqOps P call yl ops l e h = some (e', h') →
    ERel ρ e a → HR ρ h w → Marks B ρ w a.defers → n ≤ a.tmps.size → After Q ρ h w n B .normal e' h' → wpOpsIn (FR ro) m P ops Q (List.range' i l.length) a w
  | [], i, e, e', h, h', ρ, a, w, hl, hs, he, hh, hd, hn, k => by
    simp only [seqOps] at hs
    cases hs
    exact k ρ a w [] he hh (.refl hh.dm) rfl hd hn
  | o :: r, i, e, e', h, h', ρ, a, w, hl, hs, he, hh, hd, hn, k => by
    have hi : ops[i]? = some o := by
      have : ops.toList[i]? = some o := by
        have := congrArg (·[0]?) hl
        simpa using this
      simpa using this
    have hr : ops.toList.drop (i + 1) = r := by
      have := congrArg (·.drop 1) hl
      simpa [Nat.add_comm] using this
    have hdst := okOps_lt hok hi
    have hy : (fun j => yieldedA ops e j) = yielded ops a.tmps := funext fun j => yielded_rel he j (fun d hd' => by
      cases hj : ops[j]? with
      | none => simp [hj] at hd'
      | some oj => simp [hj] at hd'; exact Nat.lt_of_lt_of_le (okOps_lt hok hj d hd') hn)
    have hf : ∀ x, VRel ρ (opnd e x) (a.eval x) := opnd_rel he
    show wpOpsIn (FR ro) m P ops Q (i :: List.range' (i + 1) r.length) a w
    simp only [wpOpsIn, hi]
    simp only [seqOps] at hs
    have hy' : Region.wanted o (yieldedA ops e) = Region.wanted o (yielded ops a.tmps) := by rw [← hy]
    rw [hy'] at hs
    cases hw : Region.wanted o (yielded ops a.tmps) with
    | true =>
      simp only [hw, cond_true] at hs
      simp only [if_true]
      refine ⟨fun _ _ => FR_fn _ _, ?_⟩
      split at hs
      · rename_i v h1 ha
        rw [semFR (aop_nd ha)]
        obtain ⟨ρ1, w1, y, L, hrun, hv, hh1, hst, hlg⟩ := aop_val (P := P) (w := w) hh hf ha
        have ih := seqOps_wp (ro := ro) (m := m) hc hyl hok r (i + 1) (putT e o.dst v) e' h1 h' ρ1 (a.put o.dst y) w1 hr hs ((he.mono (hst.sub hh.dm)).put' hv (fun d hd' => Nat.lt_of_lt_of_le (hdst d hd') hn)) hh1 (by rw [put_defers]; exact hd.step hst) (by rw [put_size]; exact hn) (k.step hst hlg)
        rcases hrun with hrun | ⟨hrun, rfl⟩
        · have hrun : (execOp a.eval o).run P w = .ok (.value y) w1 := hrun
          rw [hrun]; exact ih
        · have hrun : (execOp a.eval o).run P w = .ok .skip w1 := hrun
          rw [hrun]; exact ih
      · rename_i f args h1 ha
        split at hs
        · rename_i v h2 hcall
          obtain ⟨rfl, ys, hys, hrun⟩ := aop_call (P := P) hf ha
          obtain ⟨hent, hck⟩ := hc _ _ _ _ _ hcall
          rw [semFR (aop_nd ha), hrun w, hent.run ys w]
          refine ⟨fun h => (by rw [FR_depth] at h; cases h), callsFR ((hck ρ w ys hys hh).mono ?_)⟩
          rintro en w1 ⟨y, ρ1, L, rfl, hv, hh1, hst, hlg⟩
          exact seqOps_wp (ro := ro) (m := m) hc hyl hok r (i + 1) (putT e o.dst v) e' h2 h' ρ1 (a.put o.dst y) w1 hr hs ((he.mono (hst.sub hh.dm)).put' hv (fun d hd' => Nat.lt_of_lt_of_le (hdst d hd') hn)) hh1 (by rw [put_defers]; exact hd.step hst) (by rw [put_size]; exact hn) (k.step hst hlg)
        · cases hs
      · rename_i k args h1 ha
        split at hs
        · rename_i b h2 hcall
          obtain ⟨rfl, ys, p, hys, hp, hrun⟩ := aop_yield (P := P) hf ha
          obtain ⟨fn, tmps, asg, bd, hry, hround⟩ := hyl _ _ _ _ _ hcall ρ w ys p (m - 1) hys hh hp
          rw [semFR (aop_nd ha), hrun w, hry]
          refine ⟨fun h => (by rw [FR_depth] at h; cases h), roundFR (hround.mono ?_)⟩
          rintro en w1 ⟨ρ1, L, rfl, hh1, hst, hlg⟩
          exact seqOps_wp (ro := ro) (m := m) hc hyl hok r (i + 1) (putT e o.dst (.v (.bool b))) e' h2 h' ρ1 (a.put o.dst (.bool b)) w1 hr hs ((he.mono (hst.sub hh.dm)).put' rfl (fun d hd' => Nat.lt_of_lt_of_le (hdst d hd') hn)) hh1 (by rw [put_defers]; exact hd.step hst) (by rw [put_size]; exact hn) (k.step hst hlg)
        · cases hs
      · cases hs
    | false =>
      simp only [hw, cond_false] at hs
      simp only [Bool.false_eq_true, if_false]
      refine ⟨fun _ _ => FR_fn _ _, ?_⟩
      exact seqOps_wp (ro := ro) (m := m) hc hyl hok r (i + 1) (putT e o.dst (.v undef)) e' h h' ρ (a.put o.dst undef) w hr hs (he.put' rfl (fun d hd' => Nat.lt_of_lt_of_le (hdst d hd') hn)) hh (by rw [put_defers]; exact hd) (by rw [put_size]; exact hn) k

/-- The results. -/
def resS (tmps : Array Value) : ResultVar → Sem Value
  | .tmp t => pure (tmps.getD t undef)
  | .cell a t => do loadVar t (← asAddr (tmps.getD a undef))
theorem results_eq (fn : Func) (tmps : Array Value) : results fn tmps = (do let vs ← fn.results.mapM (resS tmps); pure (if h : vs.size = 1 then vs[0] else .tuple vs)) := by
  unfold results
  congr 1
theorem resA_run {ρ : Rho} {h : Hp} {e : T AV} {a : Act} {w : World} (he : ERel ρ e a) (hh : HR ρ h w) : ∀ {rs : List ResultVar} {l : List AV}, resA P h e rs = some l →
    ∃ ys, VRels ρ l ys ∧ (rs.mapM (resS a.tmps)).run P w = .ok ys w
  | [], l, hr => by simp only [resA] at hr; cases hr; exact ⟨[], rfl, by simp⟩
  | .tmp t :: r, l, hr => by
    simp only [resA, Option.map_eq_some_iff] at hr
    obtain ⟨l', hr, rfl⟩ := hr
    obtain ⟨ys, h1, h2⟩ := resA_run he hh hr
    refine ⟨_ :: ys, ⟨_, ys, rfl, he t, h1⟩, ?_⟩
    simp only [List.mapM_cons, Sem.run_bind, h2, resS, Sem.run_pure, Result.andThen_ok]
  | .cell x t :: r, l, hr => by
    simp only [resA] at hr
    split at hr
    · rename_i v l' hv hr'
      cases hr
      obtain ⟨ys, h1, h2⟩ := resA_run he hh hr'
      obtain ⟨z, hz, hzr⟩ := loadA_run hh (he x) hv
      have haddr : ∃ p, a.tmps.getD x undef = .pointer (some p) := by
        have hx := he x
        unfold loadA at hv
        split at hv
        · rename_i n i c hxe
          rw [hxe] at hx
          obtain ⟨p, _, hp⟩ := hx
          exact ⟨_, hp⟩
        · rename_i hxe
          rw [hxe] at hx
          obtain ⟨_, b, o, _, _, hp⟩ := hx
          exact ⟨_, hp⟩
        · cases hv
      obtain ⟨p, hp⟩ := haddr
      rw [hp] at hz
      have hz' : (loadVar t p).run P w = .ok z w := by simpa [Instr.loadAt, Instr.sureAddr] using hz
      exact ⟨z :: ys, ⟨z, ys, rfl, hzr, h1⟩, by simp only [List.mapM_cons, Sem.run_bind, resS, hp, asAddr, Sem.run_pure, Result.andThen_ok, hz', h2]⟩
    · cases hr
theorem one_rel {ρ : Rho} {l : List AV} {ys : List Value} (h : VRels ρ l ys) : VRel ρ (one l) (if hs : ys.toArray.size = 1 then ys.toArray[0] else .tuple ys.toArray) := by
  match l, ys, h with
  | [], _, h => simp only [VRels] at h; subst h; exact mkTup_rel (ρ := ρ) (cs := []) (ys := []) rfl
  | [x], _, ⟨y, r, e, hx, hr⟩ => simp only [VRels] at hr; subst hr; subst e; exact hx
  | x :: x' :: l, _, ⟨y, r, e, hx, ⟨y', r', e', hr⟩⟩ =>
    subst e'; subst e
    have : ¬ ((y :: y' :: r').toArray.size = 1) := by simp
    rw [dif_neg this]
    exact mkTup_rel ⟨y, _, rfl, hx, ⟨y', _, rfl, hr⟩⟩
theorem results_run {ρ : Rho} {h : Hp} {e : T AV} {a : Act} {w : World} {fn : Func} {l : List AV} (he : ERel ρ e a) (hh : HR ρ h w) (hr : resA P h e fn.results.toList = some l) :
    ∃ y, (results fn a.tmps).run P w = .ok y w ∧ VRel ρ (one l) y := by
  obtain ⟨ys, h1, h2⟩ := resA_run (P := P) he hh hr
  refine ⟨_, ?_, one_rel h1⟩
  rw [results_eq, Sem.run_bind, Array.mapM_eq_mapM_toList, Sem.run_map, h2]
  rfl

theorem get_paramsFrom : ∀ (args : List AV) (i : Nat) (e : T AV) (t : Nat), (paramsFrom i args e).get t = if i ≤ t ∧ t < i + args.length then args[t - i]? else e.get t
  | [], i, e, t => by simp [paramsFrom]; intro h1 h2; omega
  | x :: r, i, e, t => by
    simp only [paramsFrom]
    rw [get_paramsFrom r (i + 1), T.get_put]
    simp only [List.length_cons]
    by_cases c : t = i
    · subst c; rw [if_neg (by omega), upd_same, if_pos (by omega)]; simp
    · by_cases c2 : i + 1 ≤ t ∧ t < i + 1 + r.length
      · rw [if_pos c2, if_pos (by omega)]
        rw [show t - i = (t - (i + 1)) + 1 by omega, List.getElem?_cons_succ]
      · rw [if_neg c2, upd_ne _ _ c, if_neg (by omega)]
theorem params_rel {ρ : Rho} {args : List AV} {ys : Array Value} (h : VRels ρ args ys.toList) (m : Nat) : ERel ρ (params args) { tmps := ys ++ Array.replicate m undef, defers := [] } := by
  intro t
  unfold params
  rw [get_paramsFrom]
  have hl := h.length
  simp only [Array.length_toList] at hl
  by_cases c : t < args.length
  · rw [if_pos (by omega)]
    obtain ⟨y, hy, hr⟩ := h.get (List.getElem?_eq_getElem c)
    have hy' : ys[t]? = some y := by simpa using hy
    have hlt : t < ys.size := by omega
    have : (ys ++ Array.replicate m undef).getD t undef = y := by
      simp only [Array.getD_eq_getD_getElem?]
      rw [Array.getElem?_append_left hlt, hy']; rfl
    rw [this]
    simpa [List.getElem?_eq_getElem c] using hr
  · rw [if_neg (by omega)]
    have : (ys ++ Array.replicate m undef).getD t undef = undef := by
      simp only [Array.getD_eq_getD_getElem?]
      rw [Array.getElem?_append_right (by omega)]
      by_cases c2 : t - ys.size < m
      · simp [c2]
      · simp [c2]
    rw [this]
    rfl

/-- What a call leaves. -/
theorem T.all_get {f : AV → Bool} : ∀ {t : T AV} {k : Nat} {x : AV}, t.all f = true → t.get k = some x → f x = true
  | .leaf, k, x, _, h => by cases h
  | .node y l r, k, x, ha, h => by
    simp only [T.all, Bool.and_eq_true] at ha
    simp only [T.get] at h
    cases h0 : Nat.beq k 0 with
    | true => rw [h0] at h; simp only [cond_true] at h; subst h; exact ha.1.1
    | false =>
      rw [h0] at h
      cases h1 : Nat.beq (k % 2) 1 with
      | true => rw [h1] at h; exact T.all_get ha.1.2 h
      | false => rw [h1] at h; exact T.all_get ha.2 h
theorem T.all_getD {f : AV → Bool} {t : T AV} {d : AV} (ha : t.all f = true) (hd : f d = true) (k : Nat) : f ((t.get k).getD d) = true := by
  cases h : t.get k with
  | none => exact hd
  | some x => exact T.all_get ha h
theorem T.all_of_get {f : AV → Bool} : ∀ (t : T AV), (∀ k x, t.get k = some x → f x = true) → t.all f = true
  | .leaf, _ => rfl
  | .node y l r, h => by
    simp only [T.all, Bool.and_eq_true]
    refine ⟨⟨?_, T.all_of_get l fun k x hk => h (2 * k + 1) x ?_⟩, T.all_of_get r fun k x hk => h (2 * k + 2) x ?_⟩
    · cases y with
      | none => rfl
      | some y => exact h 0 y rfl
    · have h0 : Nat.beq (2 * k + 1) 0 = false := rfl
      have h1 : Nat.beq ((2 * k + 1) % 2) 1 = true := by rw [show (2 * k + 1) % 2 = 1 by omega]; rfl
      simp only [T.get, h0, h1, cond_true, cond_false]
      rw [show (2 * k + 1) / 2 = k by omega]; exact hk
    · have h0 : Nat.beq (2 * k + 2) 0 = false := rfl
      have h1 : Nat.beq ((2 * k + 2) % 2) 1 = false := by rw [show (2 * k + 2) % 2 = 0 by omega]; rfl
      simp only [T.get, h0, h1, cond_false]
      rw [show (2 * k + 2) / 2 - 1 = k by omega]; exact hk
theorem HRel.dropTo {ρ : Rho} {g : Nat → Option AO} {nx nx' : Nat} {w : World} (h : HRel ρ g nx' w) (hle : nx ≤ nx') (hlow : ∀ n o, n < nx → g n = some o → o.low nx = true) (hop : Fz.gc = false → openB ≤ nx) :
    HRel (fun k => if k < nx then ρ k else none) g nx w := by
  have hold : ∀ n p, (if n < nx then ρ n else none) = some p → ρ n = some p ∧ n < nx := fun n p e => by
    split at e
    · exact ⟨e, by assumption⟩
    · cases e
  refine ⟨fun n p e => ?_, fun n o e hn => ?_, fun n m p q o o' hnm e1 e2 => ?_, fun n m p q o o' e1 e2 => ?_, fun n m p q o o' hnm e1 e2 => ?_, h.fz, fun n p e => h.nf n p (hold n p e).1, hop⟩
  · obtain ⟨h1, h2⟩ := hold n p e; exact ⟨h2, (h.dom n p h1).2⟩
  · rcases h.obj0 n o e (by omega) with ⟨p, h1, h2⟩ | ⟨h1, h2⟩
    rotate_left
    · exact .inr ⟨by rw [if_pos hn]; exact h1, h2⟩
    refine .inl ⟨p, by rw [if_pos hn]; exact h1, ?_⟩
    have hl := hlow n o hn e
    cases o with
    | cells cs sz f t s =>
      obtain ⟨r1, r2, C, e, r3, r4, r5⟩ := h2
      refine ⟨r1, r2, C, e, r3, r4, fun j x hj => ?_⟩
      obtain ⟨y, hy, hr⟩ := r5 j x hj
      exact ⟨y, hy, VRel.low x y (lowL_get hl hj) hr⟩
    | map es clk =>
      obtain ⟨E, r1, r2⟩ := h2
      exact ⟨E, r1, ERelM_low hl r2⟩
    | loop st ev ps asg body pe =>
      obtain ⟨fn, tmps, D, N, r1, r2, r3⟩ := h2
      exact ⟨fn, tmps, D, N, r1, fun t => VRel.low _ _ (T.all_getD hl rfl t) (r2 t), r3⟩
    | rows f len ks => exact h2
  · exact h.sep n m p q o o' hnm (hold n p e1).1 (hold m q e2).1
  · exact h.tip n m p q o o' (hold n p e1).1 (hold m q e2).1
  · exact h.one n m p q o o' hnm (hold n p e1).1 (hold m q e2).1
where
  lowL_get {nx : Nat} : ∀ {cs : List AV} {j : Nat} {x : AV}, lowL nx cs = true → cs[j]? = some x → x.low nx = true
    | [], j, x, _, h => by simp at h
    | c :: cs, 0, x, hl, h => by simp at h; subst h; simp only [lowL, Bool.and_eq_true] at hl; exact hl.1
    | c :: cs, j + 1, x, hl, h => by simp at h; simp only [lowL, Bool.and_eq_true] at hl; exact lowL_get hl.2 h
  ERelM_low {ρ : Rho} {nx : Nat} : ∀ {es : List (Value × Nat × AV)} {E : List MapEntry}, lowL nx (es.map (·.2.2)) = true → ERelM ρ es E → ERelM (fun k => if k < nx then ρ k else none) es E
    | [], _, _, e => e
    | (_, _, v) :: es, _, hl, ⟨e, r, e1, e2, e3, e4⟩ => by
      simp only [List.map_cons, lowL, Bool.and_eq_true] at hl
      exact ⟨e, r, e1, e2, VRel.low v _ hl.1 e3, ERelM_low hl.2 e4⟩

mutual
theorem VRel.isLow {ρ : Rho} {nx : Nat} (hgc : Fz.gc = true) (hd : ∀ n p, ρ n = some p → n < nx) : ∀ (x : AV) (y : Value), VRel ρ x y → x.low nx = true
  | .v _, _, _ => rfl
  | .ptr m _ _, _, ⟨p, hp, _⟩ => by simpa [AV.low] using hd _ _ hp
  | .sl m _ _ _, _, ⟨p, k, hp, _⟩ => by simpa [AV.low] using hd _ _ hp
  | .none0 _, _, _ => rfl
  | .mp m, _, ⟨p, hp, _⟩ => by simpa [AV.low] using hd _ _ hp
  | .fn _ cs, _, ⟨ys, e, r⟩ => by simpa [AV.low] using VRels.isLow hgc hd cs _ r
  | .agg cs, _, ⟨ys, e, r⟩ => by simpa [AV.low] using VRels.isLow hgc hd cs _ r
  | .tup cs, _, ⟨ys, e, r⟩ => by simpa [AV.low] using VRels.isLow hgc hd cs _ r
  | .yld m, _, ⟨p, hp, _⟩ => by simpa [AV.low] using hd _ _ hp
  | .s _, _, _ => rfl
  | .osl _ _, _, ⟨h, _⟩ => by rw [hgc] at h; cases h
  | .fz _ _ _, _, _ => rfl
  | .fzp _ _ _ _ _, _, _ => rfl
  | .z0, _, _ => rfl
theorem VRels.isLow {ρ : Rho} {nx : Nat} (hgc : Fz.gc = true) (hd : ∀ n p, ρ n = some p → n < nx) : ∀ (xs : List AV) (ys : List Value), VRels ρ xs ys → lowL nx xs = true
  | [], _, _ => rfl
  | x :: xs, _, ⟨y, r, e, hx, hr⟩ => by simp only [lowL, VRel.isLow hgc hd x y hx, VRels.isLow hgc hd xs r hr, Bool.and_self]
end
theorem ORel.isLow {ρ : Rho} {nx : Nat} (hgc : Fz.gc = true) (hd : ∀ n p, ρ n = some p → n < nx) {o : AO} {p : Pl} {w : World} (h : ORel ρ o p w) : o.low nx = true := by
  cases o with
  | cells cs sz f t s =>
    obtain ⟨_, _, C, e, _, _, h⟩ := h
    have : ∀ (l : List AV), (∀ (j : Nat) x, l[j]? = some x → ∃ y, VRel ρ x y) → lowL nx l = true := by
      intro l
      induction l with
      | nil => intro _; rfl
      | cons a l ih =>
        intro h
        obtain ⟨y, hy⟩ := h 0 a rfl
        simp only [lowL, VRel.isLow hgc hd a y hy, Bool.true_and]
        exact ih fun j x hj => h (j + 1) x (by simpa using hj)
    exact this cs fun j x hj => by obtain ⟨y, _, hr⟩ := h j x hj; exact ⟨y, hr⟩
  | map es clk =>
    obtain ⟨E, _, h⟩ := h
    show lowL nx (es.map (·.2.2)) = true
    generalize E.toList = El at h
    induction es generalizing El with
    | nil => rfl
    | cons x es ih =>
      obtain ⟨k, b, v⟩ := x
      obtain ⟨e, r, _, _, e3, e4⟩ := h
      simp only [List.map_cons, lowL, VRel.isLow hgc hd v _ e3, Bool.true_and]
      exact ih r e4
  | loop st ev ps asg body pe =>
    obtain ⟨fn, tmps, D, N, _, r2, _⟩ := h
    refine T.all_of_get ev fun t x hx => ?_
    have := r2 t
    rw [hx] at this
    exact VRel.isLow hgc hd x _ this
  | rows => rfl

theorem leave_ok {ρ ρ' : Rho} {h h' : Hp} {w w' : World} {v : AV} {y : Value} {L : List Nat} (hh : HR ρ h w) (hk : KL { ob := h.ob, nx := h.nx, lg := [] } h') (hv : VRel ρ' v y) (hh' : HR ρ' h' w') (hst : Stepped ρ h.nx L w ρ' h'.nx w') (hl : h'.lg = L) :
    ∃ ρ'' L', VRel ρ'' v y ∧ HR ρ'' (leave h.nx h.lg v h') w' ∧ Stepped ρ h.nx L' w ρ'' (leave h.nx h.lg v h').nx w' ∧ (leave h.nx h.lg v h').lg = L' ++ h.lg := by
  unfold leave
  rw [cond_eq_ite]
  split
  · rename_i hc
    simp only [Bool.and_eq_true, List.all_eq_true] at hc
    obtain ⟨⟨c0, c1⟩, c2⟩ := hc
    have hgc : Fz.gc = true := by
      cases hg : Fz.gc with
      | true => rfl
      | false => have := hh.op hg; simp at c0; omega
    refine ⟨_, _, VRel.low v y c1 hv, HRel.dropTo hh' hst.le ?_ hh.op, ?_, rfl⟩
    · intro n o hn ho
      obtain ⟨k1, L0, k2, k3⟩ := hk
      simp only [List.append_nil] at k2
      by_cases hL : n ∈ L0
      · have := c2 n (by rw [k2]; simp [hL, hn])
        rw [ho] at this
        exact this
      · rcases k3 n o hn hL ho with x | x
        · rcases hh.obj0 n o x hn with ⟨p, hp, hr⟩ | ⟨_, hr⟩
          · exact hr.isLow hgc hh.dm
          · cases o <;> first | rfl | exact hr.elim
        · exact x h.nx
    · refine ⟨Nat.le_refl _, fun n hn => by rw [if_pos hn]; exact hst.old n hn, fun n p hn e => ?_, hst.size, hst.os, hst.tape, hst.output, fun b hb hne => hst.block b hb fun n p hnL hn hp => hne n p ?_ hn hp⟩
      · rw [if_neg (by omega)] at e; cases e
      · rw [hl]; simp [hnL, hn]
  · exact ⟨ρ', L, hv, hh', hst, by rw [hl]⟩

end Ev
end Go.Proofs.YtffcaapbmkaceaaDoor
