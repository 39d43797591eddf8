/- Maps, and objects that are made and set whole: what the evaluator says of them the model does. No condition. -/
import Derived.Test.YtffcaapbmkaceaaDoorEvP
namespace Go.Proofs.YtffcaapbmkaceaaDoor
namespace Ev
open Go.RowKit
set_option linter.unusedSectionVars false
variable [Fz]
variable {P : Program}

theorem HRel.newObj {ρ : Rho} {g : Nat → Option AO} {nx : Nat} {w w' : World} (h : HRel ρ g nx w) {o : AO} {p : Pl} (hold : ∀ b, b < w.heap.size → w'.heap[b]? = w.heap[b]?) (hp : w.heap.size ≤ p.b) (hp' : p.b < w'.heap.size)
    (ho : ORel (upd ρ nx p) o p w') (htp : o.tp = false) : HRel (upd ρ nx p) (upd g nx o) (nx + 1) w' := by
  have hsub : Sub ρ (upd ρ nx p) := fun n q e => by have := (h.dom n q e).1; rw [upd_ne _ _ (by omega)]; exact e
  have hold' : ∀ n q, n ≠ nx → upd ρ nx p n = some q → ρ n = some q ∧ q.b < w.heap.size := fun n q hn e => by
    rw [upd_ne _ _ hn] at e; exact ⟨e, (h.dom n q e).2⟩
  have hnew : ∀ q, upd ρ nx p nx = some q → q = p := fun q e => by rw [upd_same] at e; cases e; rfl
  refine ⟨fun n q e => ?_, fun n o' e hn => ?_, fun n m q r o1 o2 hnm e1 e2 hb e3 e4 => ?_, fun n m q r o1 o2 e1 e2 hb e3 e4 ht => ?_, fun n m q r o1 o2 hnm e1 e2 hb e3 e4 ht => ?_, fun b o e => (hold b (Array.getElem?_eq_some_iff.1 (h.fz b o e)).1).trans (h.fz b o e), fun n q e => ?_, fun e => Nat.le_succ_of_le (h.op e)⟩
  · by_cases c : n = nx
    · subst c; rw [hnew q e]; exact ⟨by omega, hp'⟩
    · obtain ⟨x1, x2⟩ := hold' n q c e; have := (h.dom n q x1).1; exact ⟨by omega, by omega⟩
  · by_cases c : n = nx
    · subst c; rw [upd_same] at e; cases e; exact .inl ⟨p, upd_same _ _ _, ho⟩
    · rw [upd_ne _ _ c] at e
      rcases h.obj0 n o' e (by omega) with ⟨q, x1, x2⟩ | ⟨x1, x2⟩
      · exact .inl ⟨q, hsub _ _ x1, (x2.mono hsub).world (hold _ (h.dom n q x1).2)⟩
      · exact .inr ⟨by rw [upd_ne _ _ c]; exact x1, x2⟩
  · by_cases c : n = nx
    · subst c; have := hnew q e1; subst this; obtain ⟨x1, x2⟩ := hold' m r (Ne.symm hnm) e2; omega
    · by_cases c' : m = nx
      · subst c'; have := hnew r e2; subst this; obtain ⟨x1, x2⟩ := hold' n q c e1; omega
      · rw [upd_ne _ _ c] at e1 e3; rw [upd_ne _ _ c'] at e2 e4; exact h.sep n m q r o1 o2 hnm e1 e2 hb e3 e4
  · by_cases c : n = nx
    · subst c; rw [upd_same] at e3; cases e3; rw [htp] at ht; cases ht
    · by_cases c' : m = nx
      · subst c'; have := hnew r e2; subst this; obtain ⟨x1, x2⟩ := hold' n q c e1; omega
      · rw [upd_ne _ _ c] at e1 e3; rw [upd_ne _ _ c'] at e2 e4; exact h.tip n m q r o1 o2 e1 e2 hb e3 e4 ht
  · by_cases c : n = nx
    · subst c; rw [upd_same] at e3; cases e3; rw [htp] at ht; cases ht
    · by_cases c' : m = nx
      · subst c'; have := hnew r e2; subst this; obtain ⟨x1, x2⟩ := hold' n q c e1; omega
      · rw [upd_ne _ _ c] at e1 e3; rw [upd_ne _ _ c'] at e2 e4; exact h.one n m q r o1 o2 hnm e1 e2 hb e3 e4 ht
  · by_cases c : n = nx
    · subst c; rw [hnew q e]; exact h.fzlt hp
    · exact h.nf n q (hold' n q c e).1

theorem HRel.setObj {ρ : Rho} {g : Nat → Option AO} {nx : Nat} {w w' : World} (h : HRel ρ g nx w) {n : Nat} {p : Pl} {o o' : AO} (hp : ρ n = some p) (ho : g n = some o) (hs : o.sh = false) (htp : o'.tp = false) (hw : w'.heap.size = w.heap.size)
    (hne : ∀ b, b ≠ p.b → w'.heap[b]? = w.heap[b]?) (hr : ORel ρ o' p w') : HRel ρ (upd g n o') nx w' := by
  have apart : ∀ m q o2, m ≠ n → ρ m = some q → g m = some o2 → q.b ≠ p.b := fun m q o2 hm hq hg hb => by
    have := h.sep n m p q o o2 (Ne.symm hm) hp hq hb.symm ho hg
    rw [hs] at this; exact absurd this.2.1 (by simp)
  refine ⟨fun m q e => ⟨(h.dom m q e).1, by rw [hw]; exact (h.dom m q e).2⟩, fun m o2 e hm => ?_, fun a b q r o1 o2 hab e1 e2 hb e3 e4 => ?_, fun a b q r o1 o2 e1 e2 hb e3 e4 ht => ?_, fun a b q r o1 o2 hab e1 e2 hb e3 e4 ht => ?_, fun b o e => (hne b (fun c => by rw [c, h.nf n p hp] at e; cases e)).trans (h.fz b o e), h.nf, h.op⟩
  · by_cases c : m = n
    · subst c; rw [upd_same] at e; cases e; exact .inl ⟨p, hp, hr⟩
    · rw [upd_ne _ _ c] at e
      rcases h.obj0 m o2 e hm with ⟨q, x1, x2⟩ | x
      · exact .inl ⟨q, x1, x2.world (hne _ (apart m q o2 c x1 e))⟩
      · exact .inr x
  · by_cases c : a = n
    · subst c
      rw [hp] at e1; cases e1
      rw [upd_ne _ _ (Ne.symm hab)] at e4
      exact absurd hb.symm (apart b r o2 (Ne.symm hab) e2 e4)
    · rw [upd_ne _ _ c] at e3
      by_cases c' : b = n
      · subst c'; rw [hp] at e2; cases e2; exact absurd hb (apart a q o1 c e1 e3)
      · rw [upd_ne _ _ c'] at e4; exact h.sep a b q r o1 o2 hab e1 e2 hb e3 e4
  · by_cases c : a = n
    · subst c; rw [upd_same] at e3; cases e3; rw [htp] at ht; cases ht
    · rw [upd_ne _ _ c] at e3
      by_cases c' : b = n
      · subst c'; rw [hp] at e2; cases e2; exact absurd hb (apart a q o1 c e1 e3)
      · rw [upd_ne _ _ c'] at e4; exact h.tip a b q r o1 o2 e1 e2 hb e3 e4 ht
  · by_cases c : a = n
    · subst c; rw [upd_same] at e3; cases e3; rw [htp] at ht; cases ht
    · rw [upd_ne _ _ c] at e3
      by_cases c' : b = n
      · subst c'; rw [hp] at e2; cases e2; exact absurd hb (apart a q o1 c e1 e3)
      · rw [upd_ne _ _ c'] at e4; exact h.one a b q r o1 o2 hab e1 e2 hb e3 e4 ht

/-- A new object. -/
theorem HR.newO {ρ : Rho} {h : Hp} {w : World} (hh : HR ρ h w) {o : AO} {O : Obj} {p : Pl} (hp : p.b = w.heap.size) (htp : o.tp = false) (ho : ORel (upd ρ h.nx p) o p (w.alloc O)) :
    HR (upd ρ h.nx p) (h.new o) (w.alloc O) ∧ Stepped ρ h.nx [] w (upd ρ h.nx p) (h.new o).nx (w.alloc O) := by
  have hold : ∀ b, b < w.heap.size → (w.alloc O).heap[b]? = w.heap[b]? := fun b hb => Below.heap_alloc _ _ _ hb
  refine ⟨?_, ⟨Nat.le_succ _, fun n hn => upd_ne _ _ (by omega), fun n q hn e => .inl ?_, by simp, rfl, rfl, rfl, fun b hb _ => hold b hb⟩⟩
  · have := HRel.newObj hh (w' := w.alloc O) (o := o) (p := p) hold (by omega) (by rw [World.size_alloc]; omega) ho htp
    unfold HR Hp.new
    rw [T.get_put]
    exact this
  · by_cases c : n = h.nx
    · subst c; rw [upd_same] at e; cases e; omega
    · rw [upd_ne _ _ c] at e; exact absurd (hh.dm n q e) (by omega)
/-- An object that nobody shares is set anew. -/
theorem HR.setO {ρ : Rho} {h : Hp} {w : World} (hh : HR ρ h w) {n : Nat} {p : Pl} {o o' : AO} {O : Obj} (hp : ρ n = some p) (ho : h.ob.get n = some o) (hs : o.sh = false) (htp : o'.tp = false) (hr : ORel ρ o' p (w.putObj p.b O)) :
    HR ρ (h.set n o') (w.putObj p.b O) ∧ Stepped ρ h.nx [n] w ρ (h.set n o').nx (w.putObj p.b O) ∧ (h.set n o').lg = [n] ++ h.lg := by
  have hb := (hh.dom n p hp).2
  have hsz : (w.putObj p.b O).heap.size = w.heap.size := by simp [World.putObj]
  have hrel := HRel.setObj hh hp ho hs htp hsz (fun b hb => World.putObj_heap_other hb) hr
  refine ⟨?_, ⟨Nat.le_refl _, fun _ _ => rfl, fun m q hm e => absurd (hh.dm m q e) (by omega), Nat.le_of_eq hsz.symm, rfl, rfl, rfl, fun b _ hne => World.putObj_heap_other fun c => hne n p (by simp) (hh.dm n p hp) hp c.symm⟩, rfl⟩
  unfold HR Hp.set Hp.log Hp.put
  rw [T.get_put]
  exact hrel

theorem run_getM {w : World} {r : Nat} {E : Array MapEntry} {clk : Nat} (h : w.heap[r]? = some (.map E clk)) : (getObj r).run P w = .ok (.map E clk) w := by simp [getObj, Sem.run, h]
theorem run_setM {w : World} {r : Nat} {E : Array MapEntry} {clk : Nat} (o' : Obj) (h : w.heap[r]? = some (.map E clk)) : (setObj r o').run P w = .ok () (w.putObj r o') := by simp [setObj, Sem.run, h, World.putObj]

/- What lies at a key. -/
def FRel (ρ : Rho) : Option (Nat × AV) → Option (Nat × Value) → Prop
  | none, r => r = none
  | some (j, v), r => ∃ y, r = some (j, y) ∧ VRel ρ v y

theorem ERelM.length {ρ : Rho} : ∀ {es : List ME} {E : List MapEntry}, ERelM ρ es E → E.length = es.length
  | [], _, e => by simp only [ERelM] at e; simp [e]
  | (_, _, _) :: es, _, ⟨e, r, e1, _, _, e4⟩ => by simp [e1, e4.length]
theorem findNow_rel {ρ : Rho} {d : TypeDesc} {k : Value} : ∀ {es : List ME} {E : List MapEntry} (i : Nat), ERelM ρ es E →
    match findNowA d k es i with
    | some r => ∃ r', Instr.findNow d k E i = some r' ∧ FRel ρ r r'
    | none => Instr.findNow d k E i = none
  | [], _, i, e => by simp only [ERelM] at e; subst e; exact ⟨none, rfl, rfl⟩
  | (k0, b0, v0) :: es, _, i, ⟨e, r, e1, ⟨e2, _⟩, e3, e4⟩ => by
    subst e1
    simp only [findNowA, Instr.findNow, e2]
    cases hs : Instr.sameNow d k k0 with
    | none => rfl
    | some b =>
      cases b with
      | true => exact ⟨_, rfl, _, rfl, e3⟩
      | false => exact findNow_rel (i + 1) e4
theorem findAsk_rel {ρ : Rho} {kt : TypeId} {k : Value} : ∀ {es : List ME} {E : List MapEntry} (i : Nat) {r : Option (Nat × AV)}, ERelM ρ es E → findAskA P kt k es i = some r →
    ∃ r', (∀ w, (Instr.findAsking kt k E i).run P w = .ok r' w) ∧ FRel ρ r r'
  | [], _, i, r, e, h => by simp only [ERelM] at e; subst e; simp only [findAskA] at h; cases h; exact ⟨none, fun w => rfl, rfl⟩
  | (k0, b0, v0) :: es, _, i, r, ⟨e, r0, e1, ⟨e2, _⟩, e3, e4⟩, h => by
    subst e1
    simp only [findAskA] at h
    split at h
    · rename_i hq
      cases h
      exact ⟨some (i, e.val), fun w => by simp [Instr.findAsking, e2, Sem.run_bind, pureRun_ok _ _ hq w, Result.andThen], _, rfl, e3⟩
    · rename_i hq
      obtain ⟨r', h1, h2⟩ := findAsk_rel (i + 1) e4 h
      exact ⟨r', fun w => by simp [Instr.findAsking, e2, Sem.run_bind, pureRun_ok _ _ hq w, Result.andThen, h1], h2⟩
    · cases h
theorem findKeyA_run {ρ : Rho} {kt : TypeId} {k : Value} {es : List ME} {E : List MapEntry} {r : Option (Nat × AV)} (hE : ERelM ρ es E) (h : findKeyA P kt k es = some r) :
    ∃ r', (∀ w, (Instr.findKey kt k E).run P w = .ok r' w) ∧ FRel ρ r r' := by
  unfold findKeyA at h
  split at h
  · rename_i d hd
    have hn := findNow_rel (d := d) (k := k) 0 hE
    split at h
    · rename_i r0 h0
      cases h
      rw [h0] at hn
      obtain ⟨r', h1, h2⟩ := hn
      exact ⟨r', fun w => by simp [Instr.findKey, Sem.run_bind, run_underlying hd, Result.andThen, h1], h2⟩
    · rename_i h0
      rw [h0] at hn
      obtain ⟨r', h1, h2⟩ := findAsk_rel 0 hE h
      exact ⟨r', fun w => by simp [Instr.findKey, Sem.run_bind, run_underlying hd, Result.andThen, hn, h1], h2⟩
  · cases h
theorem lookA_run {ρ : Rho} {kt : TypeId} {mt : Bool} {k : Value} {es : List ME} {E : List MapEntry} {r : Option (Nat × AV)} (hE : ERelM ρ es E) (h : lookA P kt mt k es = some r) :
    (∀ w, (Instr.checkKey mt 10000 kt k).run P w = .ok () w) ∧ ∃ r', (∀ w, (Instr.findKey kt k E).run P w = .ok r' w) ∧ FRel ρ r r' := by
  unfold lookA at h
  split at h
  · rename_i u hu
    exact ⟨fun w => pureRun_ok _ _ hu w, findKeyA_run hE h⟩
  · cases h
theorem zeroVA_run {t : TypeId} {z : Value} (h : zeroVA P t = some z) (w : World) : (zeroValue t).run P w = .ok z w := by
  unfold zeroVA at h
  split at h
  · rename_i i hi; simp [zeroValue, typeInfo, hi, h]
  · cases h
theorem isEmpty_rel {ρ : Rho} {es : List ME} {E : Array MapEntry} (hE : ERelM ρ es E.toList) : E.isEmpty = es.isEmpty := by
  have := hE.length
  cases es with
  | nil => simp only [ERelM] at hE; simp [Array.isEmpty, show E.size = 0 by simpa using congrArg List.length hE]
  | cons a r => simp [Array.isEmpty, show E.size = r.length + 1 by simpa using this]

/-- The entries of a map, nil or not. -/
theorem mapES_run {x : AV} {y : Value} {ρ : Rho} {h : Hp} {w : World} {es : List ME} (hh : HR ρ h w) (hx : VRel ρ x y) (he : mapES x h = some es) :
    (y = .map none ∧ es = []) ∨ ∃ n p E clk, x = .mp n ∧ ρ n = some p ∧ y = .map (some p.b) ∧ h.ob.get n = some (.map es clk) ∧ w.heap[p.b]? = some (.map E clk) ∧ ERelM ρ es E.toList := by
  unfold mapES at he
  split at he
  · rename_i n
    split at he
    · rename_i es' clk ho
      cases he
      obtain ⟨p, hp, rfl⟩ := hx
      obtain ⟨p', hp', E, hb, hE⟩ := hh.obj n _ ho (hh.dm n p hp)
      rw [hp] at hp'; cases hp'
      exact .inr ⟨n, p, E, clk, rfl, hp, rfl, ho, hb, hE⟩
    · cases he
  · cases he; cases hx; exact .inl ⟨rfl, rfl⟩
  · cases he

theorem lookupA_run {xt : TypeId} {x ix v : AV} {y iy : Value} {ok : Bool} {ρ : Rho} {h : Hp} {w : World} (hh : HR ρ h w) (hx : VRel ρ x y) (hi : VRel ρ ix iy) (hl : lookupA P xt x ix ok h = some v) :
    ∃ z, (Instr.lookup xt y iy ok).run P w = .ok z w ∧ VRel ρ v z := by
  unfold lookupA at hl
  split at hl
  · rename_i kt et hu
    split at hl
    · rename_i es k he hk
      obtain rfl := plain_rel hk hi
      have key : ∃ E : Array MapEntry, ERelM ρ es E.toList ∧ ((y = .map none ∧ E = #[]) ∨ ∃ b clk, y = .map (some b) ∧ w.heap[b]? = some (.map E clk)) := by
        rcases mapES_run hh hx he with ⟨rfl, rfl⟩ | ⟨n, p, E, clk, rfl, _, rfl, _, hb, hE⟩
        · exact ⟨#[], rfl, .inl ⟨rfl, rfl⟩⟩
        · exact ⟨E, hE, .inr ⟨_, _, rfl, hb⟩⟩
      obtain ⟨E, hE, hy⟩ := key
      have hem := isEmpty_rel hE
      split at hl
      · rename_i j u hlk
        cases hl
        obtain ⟨hck, r', hfk, z, rfl, hz⟩ := lookA_run hE hlk
        rw [← hem] at hck
        refine ⟨if ok then .tuple #[z, .bool true] else z, ?_, ?_⟩
        · rcases hy with ⟨rfl, rfl⟩ | ⟨b, clk, rfl, hb⟩
          · have hck : ∀ w, (Instr.checkKey true 10000 kt iy).run P w = .ok () w := hck
            have hfk : ∀ w, (Instr.findKey kt iy []).run P w = _ := hfk
            simp [Instr.lookup, Sem.run_bind, run_underlying hu, Result.andThen, hck, hfk]
          · simp [Instr.lookup, Sem.run_bind, run_underlying hu, Result.andThen, run_getM hb, hck, hfk]
        · cases ok with
          | true => exact mkTup_rel (ys := [z, .bool true]) ⟨_, _, rfl, hz, _, _, rfl, rfl, rfl⟩
          | false => exact hz
      · rename_i hlk
        simp only [Option.map_eq_some_iff] at hl
        obtain ⟨z, hz, rfl⟩ := hl
        obtain ⟨hck, r', hfk, hr⟩ := lookA_run hE hlk
        simp only [FRel] at hr
        subst hr
        rw [← hem] at hck
        refine ⟨if ok then .tuple #[z, .bool false] else z, ?_, ?_⟩
        · rcases hy with ⟨rfl, rfl⟩ | ⟨b, clk, rfl, hb⟩
          · have hck : ∀ w, (Instr.checkKey true 10000 kt iy).run P w = .ok () w := hck
            have hfk : ∀ w, (Instr.findKey kt iy []).run P w = _ := hfk
            simp [Instr.lookup, Sem.run_bind, run_underlying hu, Result.andThen, hck, hfk, zeroVA_run hz]
          · simp [Instr.lookup, Sem.run_bind, run_underlying hu, Result.andThen, run_getM hb, hck, hfk, zeroVA_run hz]
        · cases ok with
          | true => exact mkTup_rel (cs := [.v z, .v (.bool false)]) (ys := [z, .bool false]) ⟨_, _, rfl, rfl, _, _, rfl, rfl, rfl⟩
          | false => rfl
      · cases hl
    · cases hl
  · cases hl

/- The entries, one of them set. -/
theorem ERelM.get {ρ : Rho} : ∀ {es : List ME} {E : List MapEntry} {i : Nat} {k : Value} {b : Nat} {v : AV}, ERelM ρ es E → es[i]? = some (k, b, v) → ∃ e, E[i]? = some e ∧ e.key = k ∧ e.born = b ∧ VRel ρ v e.val
  | [], _, i, k, b, v, _, h => by simp at h
  | (k0, b0, v0) :: es, _, 0, k, b, v, ⟨e, r, e1, ⟨e2, e3⟩, e4, e5⟩, h => by simp at h; obtain ⟨rfl, rfl, rfl⟩ := h; exact ⟨e, by simp [e1], e2, e3, e4⟩
  | (k0, b0, v0) :: es, _, i + 1, k, b, v, ⟨e, r, e1, _, _, e5⟩, h => by
    obtain ⟨e', h1, h2⟩ := e5.get (i := i) (by simpa using h)
    exact ⟨e', by simpa [e1] using h1, h2⟩
theorem ERelM.set {ρ : Rho} : ∀ {es : List ME} {E : List MapEntry} {i : Nat} {k : Value} {b : Nat} {v : AV} {f : MapEntry → MapEntry}, ERelM ρ es E → (∀ e, E[i]? = some e → ((f e).key = k ∧ (f e).born = b) ∧ VRel ρ v (f e).val) → ERelM ρ (es.set i (k, b, v)) (E.modify i f)
  | [], _, i, k, b, v, f, h, _ => by simp only [ERelM] at h; subst h; simp [ERelM]
  | (k0, b0, v0) :: es, _, 0, k, b, v, f, ⟨e, r, e1, e2, e4, e5⟩, h => by
    subst e1
    obtain ⟨h1, h2⟩ := h e rfl
    exact ⟨f e, r, rfl, h1, h2, e5⟩
  | (k0, b0, v0) :: es, _, i + 1, k, b, v, f, ⟨e, r, e1, e2, e4, e5⟩, h => by
    subst e1
    exact ⟨e, _, rfl, e2, e4, e5.set fun e' he' => h e' (by simpa using he')⟩
theorem ERelM.push {ρ : Rho} : ∀ {es : List ME} {E : List MapEntry} {k : Value} {b : Nat} {v : AV} {y : Value}, ERelM ρ es E → VRel ρ v y → ERelM ρ (es ++ [(k, b, v)]) (E ++ [{ key := k, val := y, born := b }])
  | [], _, k, b, v, y, h, hv => by simp only [ERelM] at h; subst h; exact ⟨_, _, rfl, ⟨rfl, rfl⟩, hv, rfl⟩
  | (_, _, _) :: es, _, k, b, v, y, ⟨e, r, e1, e2, e4, e5⟩, hv => by subst e1; exact ⟨e, _, rfl, e2, e4, e5.push hv⟩
theorem ERelM.erase {ρ : Rho} : ∀ {es : List ME} {E : List MapEntry} (i : Nat), ERelM ρ es E → ERelM ρ (es.eraseIdx i) (E.eraseIdx i)
  | [], _, i, h => by simp only [ERelM] at h; subst h; simp [ERelM]
  | (_, _, _) :: es, _, 0, ⟨e, r, e1, e2, e4, e5⟩ => by subst e1; exact e5
  | (_, _, _) :: es, _, i + 1, ⟨e, r, e1, e2, e4, e5⟩ => by subst e1; exact ⟨e, _, rfl, e2, e4, e5.erase i⟩
theorem ERelM.find {ρ : Rho} (j : Int) : ∀ {es : List ME} {E : List MapEntry}, ERelM ρ es E → E.findIdx? (fun e => (e.born : Int) == j) = es.findIdx? (fun e => decide ((e.2.1 : Int) = j))
  | [], _, h => by simp only [ERelM] at h; subst h; rfl
  | (k0, b0, v0) :: es, _, ⟨e, r, e1, ⟨e2, e3⟩, e4, e5⟩ => by
    subst e1
    simp only [List.findIdx?_cons, e3]
    rw [show ((b0 : Int) == j) = decide ((b0 : Int) = j) from rfl]
    cases decide ((b0 : Int) = j) with
    | true => rfl
    | false => simp only [Bool.false_eq_true, if_false]; rw [e5.find]

/-- A map's block. -/
theorem map_at {ρ : Rho} {h : Hp} {w : World} (hh : HR ρ h w) {n clk : Nat} {es : List ME} {y : Value} (hx : VRel ρ (.mp n) y) (ho : h.ob.get n = some (.map es clk)) :
    ∃ p E, ρ n = some p ∧ y = .map (some p.b) ∧ w.heap[p.b]? = some (.map E clk) ∧ ERelM ρ es E.toList ∧ ∀ es' E' clk', ERelM ρ es' E'.toList →
      HR ρ (h.set n (.map es' clk')) (w.putObj p.b (.map E' clk')) ∧ Stepped ρ h.nx [n] w ρ (h.set n (.map es' clk')).nx (w.putObj p.b (.map E' clk')) ∧ (h.set n (.map es' clk')).lg = [n] ++ h.lg := by
  obtain ⟨p, hp, rfl⟩ := hx
  obtain ⟨p', hp', E, hb, hE⟩ := hh.obj n _ ho (hh.dm n p hp)
  rw [hp] at hp'; cases hp'
  exact ⟨p, E, hp, rfl, hb, hE, fun es' E' clk' h' => hh.setO hp ho rfl rfl ⟨E', World.putObj_heap_same (hh.dom n p hp).2, h'⟩⟩

theorem mapSetA_run {mt : TypeId} {m k v : AV} {ym yk yv : Value} {ρ : Rho} {h h' : Hp} {w : World} (hh : HR ρ h w) (hm : VRel ρ m ym) (hk : VRel ρ k yk) (hv : VRel ρ v yv) (hs : mapSetA P mt m k v h = some h') :
    ∃ w' L, (Instr.mapUpdate mt ym yk yv).run P w = .ok () w' ∧ HR ρ h' w' ∧ Stepped ρ h.nx L w ρ h'.nx w' ∧ h'.lg = L ++ h.lg := by
  unfold mapSetA at hs
  split at hs
  · rename_i kt et hu
    split at hs
    · rename_i n k0 hk0
      obtain rfl := plain_rel hk0 hk
      split at hs
      · rename_i es clk ho
        obtain ⟨p, E, hp, rfl, hb, hE, hset⟩ := map_at hh hm ho
        split at hs
        · rename_i i u hlk
          obtain ⟨hck, r', hfk, z, rfl, hz⟩ := lookA_run hE hlk
          split at hs
          · rename_i kk b v' hi
            obtain ⟨e, he, hek, heb, _⟩ := hE.get hi
            split at hs
            · rename_i k' hst
              cases hs
              have he' : E[i]? = some e := by simpa using he
              obtain ⟨s1, s2, s3⟩ := hset (es.set i (k', b, v)) (E.modify i fun e => { e with key := k', val := yv }) clk (by
                rw [Array.toList_modify]
                exact hE.set fun e' he' => by rw [he] at he'; cases he'; exact ⟨⟨rfl, heb⟩, hv⟩)
              refine ⟨_, _, ?_, s1, s2, s3⟩
              have hst' : ∀ w, (Instr.keyThatStays (((E[i]?).map (·.key)).getD yk) yk).run P w = .ok k' w := fun w => by rw [he']; simp only [Option.map_some, Option.getD_some, hek]; exact pureRun_ok _ _ hst w
              simp only [Instr.mapUpdate, Sem.run_bind, run_underlying hu, Result.andThen_ok, run_getM hb, hck, hfk, hst', run_setM _ hb]
            · cases hs
          · cases hs
        · rename_i hlk
          cases hs
          obtain ⟨hck, r', hfk, hr⟩ := lookA_run hE hlk
          simp only [FRel] at hr
          subst hr
          obtain ⟨s1, s2, s3⟩ := hset (es ++ [(yk, clk, v)]) (E.push { key := yk, val := yv, born := clk }) (clk + 1) (by rw [Array.toList_push]; exact hE.push hv)
          refine ⟨_, _, ?_, s1, s2, s3⟩
          simp only [Instr.mapUpdate, Sem.run_bind, run_underlying hu, Result.andThen_ok, run_getM hb, hck, hfk, run_setM _ hb]
        · cases hs
      · cases hs
    · cases hs
  · cases hs

theorem mapEntA_run {mt : TypeId} {m k v : AV} {ym yk : Value} {ρ : Rho} {h h' : Hp} {w : World} (hh : HR ρ h w) (hm : VRel ρ m ym) (hk : VRel ρ k yk) (hs : mapEntA P mt m k h = some (v, h')) :
    ∃ w' y L, (Instr.mapEntry mt ym yk).run P w = .ok y w' ∧ VRel ρ v y ∧ HR ρ h' w' ∧ Stepped ρ h.nx L w ρ h'.nx w' ∧ h'.lg = L ++ h.lg := by
  unfold mapEntA at hs
  split at hs
  · rename_i kt et hu
    split at hs
    · rename_i n k0 hk0
      obtain rfl := plain_rel hk0 hk
      split at hs
      · rename_i es clk ho
        obtain ⟨p, E, hp, rfl, hb, hE, hset⟩ := map_at hh hm ho
        split at hs
        · rename_i i u hlk
          obtain ⟨hck, r', hfk, z, rfl, hz⟩ := lookA_run hE hlk
          split at hs
          · rename_i kk b v' hi
            obtain ⟨e, he, hek, heb, hev⟩ := hE.get hi
            split at hs
            · rename_i k' hst
              cases hs
              have he' : E[i]? = some e := by simpa using he
              obtain ⟨s1, s2, s3⟩ := hset (es.set i (k', b, v')) (E.modify i fun e => { e with key := k' }) clk (by
                rw [Array.toList_modify]
                exact hE.set fun e' he' => by rw [he] at he'; cases he'; exact ⟨⟨rfl, heb⟩, hev⟩)
              refine ⟨_, .tuple #[z, goInt b], _, ?_, mkTup_rel (ys := [z, goInt b]) ⟨_, _, rfl, hz, _, _, rfl, rfl, rfl⟩, s1, s2, s3⟩
              have hst' : ∀ w, (Instr.keyThatStays (((E[i]?).map (·.key)).getD yk) yk).run P w = .ok k' w := fun w => by rw [he']; simp only [Option.map_some, Option.getD_some, hek]; exact pureRun_ok _ _ hst w
              simp only [Instr.mapEntry, Sem.run_bind, run_underlying hu, Result.andThen_ok, run_getM hb, hck, hfk, hst', run_setM _ hb, Sem.run_pure]
              simp [he', heb]
            · cases hs
          · cases hs
        · rename_i hlk
          simp only [Option.map_eq_some_iff, Prod.mk.injEq] at hs
          obtain ⟨z, hz, rfl, rfl⟩ := hs
          obtain ⟨hck, r', hfk, hr⟩ := lookA_run hE hlk
          simp only [FRel] at hr
          subst hr
          obtain ⟨s1, s2, s3⟩ := hset (es ++ [(yk, clk, .v z)]) (E.push { key := yk, val := z, born := clk }) (clk + 1) (by rw [Array.toList_push]; exact hE.push rfl)
          refine ⟨_, .tuple #[z, goInt clk], _, ?_, mkTup_rel (ys := [z, goInt clk]) ⟨_, _, rfl, rfl, _, _, rfl, rfl, rfl⟩, s1, s2, s3⟩
          simp only [Instr.mapEntry, Sem.run_bind, run_underlying hu, Result.andThen_ok, run_getM hb, hck, hfk, zeroVA_run hz, run_setM _ hb, Sem.run_pure]
        · cases hs
      · cases hs
    · cases hs
  · cases hs

theorem entSetA_run {mt : TypeId} {m b v : AV} {ym yb yv : Value} {ρ : Rho} {h h' : Hp} {w : World} (hh : HR ρ h w) (hm : VRel ρ m ym) (hb' : VRel ρ b yb) (hv : VRel ρ v yv) (hs : entSetA m b v h = some h') :
    ∃ w' L, (Instr.entryStore mt ym yb yv).run P w = .ok () w' ∧ HR ρ h' w' ∧ Stepped ρ h.nx L w ρ h'.nx w' ∧ h'.lg = L ++ h.lg := by
  unfold entSetA at hs
  split at hs
  · rename_i n q j
    cases hb'
    split at hs
    · rename_i es clk ho
      obtain ⟨p, E, hp, rfl, hb, hE, hset⟩ := map_at hh hm ho
      split at hs
      · rename_i i hi
        split at hs
        · rename_i k0 b0 v0 hg
          cases hs
          obtain ⟨e, he, hek, heb, hev⟩ := hE.get hg
          obtain ⟨s1, s2, s3⟩ := hset (es.set i (k0, b0, v)) (E.modify i fun e => { e with val := yv }) clk (by
            rw [Array.toList_modify]
            exact hE.set fun e' he' => by rw [he] at he'; cases he'; exact ⟨⟨hek, heb⟩, hv⟩)
          refine ⟨_, _, ?_, s1, s2, s3⟩
          have hf : E.findIdx? (fun e => (e.born : Int) == j) = some i := by rw [← hi, ← hE.find j]; cases E; simp
          simp [Instr.entryStore, Sem.run_bind, Result.andThen, run_getM hb, hf, run_setM _ hb, asInt, asIntOf]
        · cases hs
      · cases hs
    · cases hs
  · cases hs

theorem mapDelA_run {mt ty : TypeId} {ts : Array TypeId} {m k : AV} {ym yk : Value} {ρ : Rho} {h h' : Hp} {w : World} (hts : ts[0]? = some mt) (hh : HR ρ h w) (hm : VRel ρ m ym) (hk : VRel ρ k yk) (hs : mapDelA P mt m k h = some h') :
    ∃ w' L, (Builtin.delete_ ts ty #[ym, yk]).run P w = .ok (.tuple #[]) w' ∧ HR ρ h' w' ∧ Stepped ρ h.nx L w ρ h'.nx w' ∧ h'.lg = L ++ h.lg := by
  unfold mapDelA at hs
  split at hs
  · rename_i kt et hu
    split at hs
    · rename_i n k0 hk0
      obtain rfl := plain_rel hk0 hk
      split at hs
      · rename_i es clk ho
        obtain ⟨p, E, hp, rfl, hb, hE, hset⟩ := map_at hh hm ho
        have hem := isEmpty_rel hE
        split at hs
        · rename_i i u hlk
          cases hs
          obtain ⟨hck, r', hfk, z, rfl, hz⟩ := lookA_run hE hlk
          rw [← hem] at hck
          obtain ⟨s1, s2, s3⟩ := hset (es.eraseIdx i) (E.eraseIdxIfInBounds i) clk (by
            rw [Array.toList_eraseIdxIfInBounds]; exact hE.erase i)
          refine ⟨_, _, ?_, s1, s2, s3⟩
          simp [Builtin.delete_, hts, Sem.run_bind, run_underlying hu, Result.andThen, run_getM hb, hck, hfk, run_setM _ hb]
        · rename_i hlk
          cases hs
          obtain ⟨hck, r', hfk, hr⟩ := lookA_run hE hlk
          simp only [FRel] at hr
          subst hr
          rw [← hem] at hck
          obtain ⟨s1, s2, s3⟩ := hset es E clk hE
          refine ⟨_, _, ?_, s1, s2, s3⟩
          simp [Builtin.delete_, hts, Sem.run_bind, run_underlying hu, Result.andThen, run_getM hb, hck, hfk, run_setM _ hb]
        · cases hs
      · cases hs
    · cases hs
  · cases hs

end Ev
end Go.Proofs.YtffcaapbmkaceaaDoor
