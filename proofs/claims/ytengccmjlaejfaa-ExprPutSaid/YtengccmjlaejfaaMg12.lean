/- Regions that draw their order: the theorem. No condition. -/
import Derived.Test.YtengccmjlaejfaaMg11
section
namespace Go.Proofs.Ytengccmjlaejfaa
namespace Ev
open Go.RowKit
set_option linter.unusedSectionVars false
variable [Fz]
variable {P : Program} {call : Sum} {ops : Array Oper} {e0 : T AV} {h0 : Hp} {D : Nat → DRec} {W : Nat → Option Nat}
variable {S : Nat → Bool} {ρ0 ρ : Rho} {w0 w : World} {a : Act} {N : Nat} {ds : List Deferred}

theorem Inv.sub0 (I : Inv ops e0 h0 D W S ρ0 ρ w0 w a N ds) : Sub ρ0 ρ := fun n p e => by rw [I.old n (I.dom0 n p e)]; exact e

/-- What an operation looks at among the temporaries. -/
theorem Inv.tmp (F : DrawF P call ops e0 h0 D W) (I : Inv ops e0 h0 D W S ρ0 ρ w0 w a N ds) {i : Nat} {o : Oper} (ho : ops[i]? = some o) (hS : S i = false) (hp : ∀ j, (msk (bsO ops) i).testBit j = true → S j = true) {t : Nat} (ht : t ∈ o.looksAt ops) :
    VRel (cut ρ (X D h0 i)) ((envR D W e0 t i).getD (.v undef)) (a.tmps.getD t undef) := by
  have hi := (Array.getElem?_eq_some_iff.1 ho).1
  have hX0 : h0.nx ≤ X D h0 i := F.mono (i := 0) (j := i) (by omega) (by omega)
  have sub0 : Sub ρ0 (cut ρ (X D h0 i)) := fun n p e => by
    have := I.dom0 n p e
    rw [cut_lt (by omega)]; exact I.sub0 n p e
  unfold envR
  cases hW : W t with
  | none => exact (I.env0 t (fun j hj => by rw [hW] at hj; cases hj)).mono sub0
  | some j =>
    simp only []
    have base : S j = false → VRel (cut ρ (X D h0 i)) ((e0.get t).getD (.v undef)) (a.tmps.getD t undef) := fun hj => (I.env0 t (fun j' hj' => by rw [hW] at hj'; cases hj'; exact hj)).mono sub0
    rcases F.ok.looks i o t j ho ht hW with c | c
    · subst c
      rw [if_neg (Nat.lt_irrefl _)]
      exact base hS
    · unfold ordered at c
      simp only [Bool.or_eq_true] at c
      rcases c with c | c
      · have hji := mk_lt F.ok.back c
        rw [if_pos hji]
        exact (I.envS t j hW (hp j c)).mono (cut_sub ρ (F.mono (by omega) (by omega)))
      · have hij := mk_lt F.ok.back c
        rw [if_neg (by omega)]
        refine base ?_
        cases hSj : S j with
        | false => rfl
        | true => have := I.closed j i hSj c; rw [hS] at this; cases this

theorem bool_rel {r : Rho} {x : AV} {y : Value} (h : VRel r x y) : (match some x with | some (.v (.bool b)) => some b | some (.s (.bool b)) => some b | _ => none) = (match some y with | some (.bool b) => some b | _ => none : Option Bool) := by
  cases x with
  | v z => cases h; cases y <;> rfl
  | s z => cases h; cases y <;> rfl
  | ptr => obtain ⟨p, hp, rfl⟩ := h; rfl
  | sl => obtain ⟨p, k, hp, rfl, _⟩ := h; rfl
  | none0 => obtain ⟨q, k, rfl, _⟩ := h; rfl
  | mp => obtain ⟨p, hp, rfl⟩ := h; rfl
  | fn => obtain ⟨ys, rfl, _⟩ := h; rfl
  | agg => obtain ⟨ys, rfl, _⟩ := h; rfl
  | tup => obtain ⟨ys, rfl, _⟩ := h; rfl
  | yld => obtain ⟨p, hp, rfl⟩ := h; rfl
  | osl => rcases h with ⟨_, ⟨_, q, rfl⟩ | ⟨p, k, hp, rfl, _⟩⟩ <;> rfl
  | fz => obtain ⟨_, h⟩ := h; unfold FzRel at h; rcases h with ⟨_, q, k, rfl, _⟩ | ⟨b, o, k, C, e', fr, rfl, _⟩ <;> rfl
  | fzp => obtain ⟨_, b, o, _, _, rfl⟩ := h; rfl
  | z0 => obtain ⟨q, rfl⟩ := h; rfl
  | xs => obtain ⟨q, l, c, rfl⟩ := h; rfl

theorem Inv.op {ro : Option Nat} {mr : Nat} (F : DrawF P call ops e0 h0 D W) (hok : okOps N ops = true) (I : Inv ops e0 h0 D W S ρ0 ρ w0 w a N ds) {i : Nat} {o : Oper} (ho : ops[i]? = some o) (hS : S i = false) (hp : ∀ j, (msk (bsO ops) i).testBit j = true → S j = true) {Q : Exit → Act → World → Prop} {K : Act → World → Prop}
    (hK : ∀ ρ' a' w', Inv ops e0 h0 D W (addS S i) ρ0 ρ' w0 w' a' N ds → K a' w') : wpOpIn (FR ro) mr P ops Q i K a w := by
  have hi := (Array.getElem?_eq_some_iff.1 ho).1
  have hdst : ∀ x, o.dst = some x → x < a.tmps.size := fun x hx => Nat.lt_of_lt_of_le (okOps_lt hok ho x hx) I.n
  obtain ⟨e, ens, hd, he, hens⟩ := F.one i o ho
  have hwant : Region.wanted o (yieldedA ops e) = Region.wanted o (yielded ops a.tmps) := by
    unfold Region.wanted
    cases hg : o.guard with
    | none => rfl
    | some g =>
      obtain ⟨j, want⟩ := g
      simp only []
      congr 1
      unfold yieldedA yielded
      cases hj : (ops[j]?).bind (·.dst) with
      | none => simp
      | some d =>
        simp only [Option.bind_some]
        have hlk : d ∈ o.looksAt ops := by unfold Oper.looksAt; rw [hg]; simp [hj]
        have hr := I.tmp F ho hS hp hlk
        have hlt : d < a.tmps.size := by
          cases hoj : ops[j]? with
          | none => simp [hoj] at hj
          | some oj => simp [hoj] at hj; exact Nat.lt_of_lt_of_le (okOps_lt hok hoj d hj) I.n
        have e1 : a.tmps[d]? = some (a.tmps.getD d undef) := by simp [hlt]
        rw [e1]
        have := bool_rel hr
        rw [he d]
        cases hen : envR D W e0 d i with
        | none => rw [hen] at this; exact this
        | some x => rw [hen] at this; exact this
  unfold wpOpIn
  simp only [ho]
  unfold drawOne at hd
  rw [cond_eq_ite] at hd
  cases hw : Region.wanted o (yielded ops a.tmps) with
  | false =>
    rw [hwant, hw] at hd
    simp only [Bool.false_eq_true, if_false, Option.some.injEq] at hd
    simp only [Bool.false_eq_true, if_false]
    have hv : (D i).v = .v undef := by rw [← hd]
    have hhi : X D h0 (i + 1) = X D h0 i := by show (D i).hi = _; rw [← hd]
    have hen : (D i).en = [] := by rw [← hd]
    have hwr : (D i).wr = [] := by rw [← hd]
    refine ⟨fun _ _ => FR_fn _ _, ?_⟩
    refine hK _ _ _ (I.add F ho hS hp (ρ' := cut ρ (X D h0 i)) (w' := w) (L := []) (g' := fun _ => none) (y := undef) (by rw [hv]; rfl) ?_ ?_ (fun n => ?_) (fun n hn => by simp at hn) (fun n hn => by rw [hwr] at hn; simp at hn) (.inl fun n hn => by rw [hwr] at hn; simp at hn) hdst)
    · rw [hhi]; exact .refl fun n p e => (cut_some e).2
    · rw [hhi]
      exact ⟨fun n p e => ⟨(cut_some e).2, (I.dom n p (cut_some e).1).1⟩, fun n o' e => (by cases e), fun n m p q o1 o2 _ _ _ _ e _ => (by cases e), fun n m p q o1 o2 _ _ _ e _ _ => (by cases e), fun n m p q o1 o2 _ _ _ _ e _ _ => (by cases e), I.fz, fun n p e => I.nf n p (cut_some e).1, fun e => Nat.le_trans (I.opn e) (F.mono (i := 0) (j := i) (by omega) (by omega))⟩
    · rw [hen, if_neg]
      · rfl
      · rw [hwr]
        rintro (x | x)
        · unfold mine at x
          have : nxR D h0.nx (i + 1) = nxR D h0.nx i := hhi
          omega
        · simp at x
  | true =>
    rw [hwant, hw] at hd
    simp only [if_true] at hd
    simp only [if_true]
    refine ⟨fun _ _ => FR_fn _ _, ?_⟩
    generalize hvv : viewD (opnd e) o (msk (bsO ops) i) h0 ens = vv at hd
    generalize hob : obOf (msk (bsO ops) i) h0 (nxR D h0.nx i) ens vv = ob at hd
    have hX0 : h0.nx ≤ X D h0 i := F.mono (i := 0) (j := i) (by omega) (by omega)
    have hvw : (D i).vw = vv := by
      split at hd
      · rename_i v h' ha; exact (finishR_ok (aop_kl ha).1 hd).2.2.2.1
      · rename_i f args h' ha
        split at hd
        · rename_i v h'' hc
          have e := aop_call_h ha
          subst e
          exact (finishR_ok (F.kl _ _ _ _ _ hc).1 hd).2.2.2.1
        · cases hd
      · cases hd
    -- what it sees
    have hg : ∀ n o', ob.get n = some o' → n < X D h0 i → (∀ l, (D i).vw = some l → n ∈ l) ∧ entR D (fun j => (msk (bsO ops) i).testBit j) n (baseAt h0 n) i = some o' := fun n o' hn hlt => by
      rw [hvw]
      cases vv with
      | none =>
        simp only [obOf] at hob
        refine ⟨fun l hl => (by cases hl), ?_⟩
        rw [← hob, get_viewAll, get_clearFrom, hens] at hn
        have : (if h0.nx ≤ n ∧ n < h0.nx + (nxR D h0.nx i - h0.nx) then none else h0.ob.get n) = baseAt h0 n := by
          by_cases c : n < h0.nx
          · rw [if_neg (by omega), baseAt_lt c]
          · rw [if_pos (by unfold X at hlt hX0; omega), baseAt_ge (by omega)]
        rw [this] at hn
        exact hn
      | some l =>
        simp only [obOf] at hob
        rw [← hob, get_viewL, hens] at hn
        split at hn
        · rename_i hmem; exact ⟨fun l' hl' => (by cases hl'; exact hmem), hn⟩
        · cases hn
    have hview := I.view F hi hS hp hg
    have hH : HR (cut ρ (X D h0 i)) ⟨ob, X D h0 i, []⟩ w := hview
    -- what it looks at
    let f' : Operand → AV := fun x => match x with
      | .tmp t => if t ∈ o.looksAt ops then opnd e (.tmp t) else .v (a.eval (.tmp t))
      | x => opnd e x
    have hf' : ∀ x, VRel (cut ρ (X D h0 i)) (f' x) (a.eval x) := fun x => by
      cases x with
      | tmp t =>
        show VRel _ (if t ∈ o.looksAt ops then opnd e (.tmp t) else .v (a.eval (.tmp t))) _
        by_cases c : t ∈ o.looksAt ops
        · rw [if_pos c]
          have := I.tmp F ho hS hp c
          rw [← he t] at this
          exact this
        · rw [if_neg c]; rfl
      | const v => rfl
      | global g => rfl
      | func f => exact ⟨#[], rfl, rfl⟩
    have hcg : ∀ x ∈ o.op.operands, opnd e x = f' x := fun x hx => by
      cases x with
      | tmp t =>
        show _ = (if t ∈ o.looksAt ops then opnd e (.tmp t) else .v (a.eval (.tmp t)))
        rw [if_pos]
        unfold Oper.looksAt
        simp only [List.mem_append, List.mem_filterMap]
        exact .inl ⟨.tmp t, by simpa using hx, rfl⟩
      | _ => rfl
    rw [aop_congr hcg] at hd
    -- what comes of it
    have done : ∀ (ρ' : Rho) (w' : World) (v : AV) (y : Value) (L : List Nat) (h' : Hp), nxR D h0.nx i ≤ h'.nx → finishR vv ob (nxR D h0.nx i) v h' = some (D i) → VRel ρ' v y → HR ρ' h' w' → Stepped (cut ρ (X D h0 i)) (X D h0 i) L w ρ' h'.nx w' → h'.lg = L → K (a.put o.dst y) w' := by
      intro ρ' w' v y L h' hle hfin hv hh hst hlg
      obtain ⟨r1, r2, r3, r4, r5⟩ := finishR_ok hle hfin
      have hX1 : X D h0 (i + 1) = h'.nx := r3
      refine hK _ _ _ (I.add F ho hS hp (g' := h'.ob.get) (by rw [r2]; exact hv) (by rw [hX1]; exact hst) (by rw [hX1]; exact hh) (fun n => ?_) (fun n hn hlt => ?_) (fun n hn => ?_) ?_ hdst)
      · rw [r1.look]
        unfold mine
        rfl
      · exact r5 n (by rw [hlg]; exact hn) hlt
      · have hlt := r1.wlt n hn
        have hsome : ∃ o1, ob.get n = some o1 := by
          rcases r1.wsh with s2 | ⟨_, _, s2, _⟩
          · cases hx : ob.get n with
            | none => have := s2 n hn; rw [hx] at this; simp [unshared] at this
            | some o1 => exact ⟨o1, rfl⟩
          · exact Option.isSome_iff_exists.1 (s2 n hn)
        obtain ⟨o1, ho1⟩ := hsome
        obtain ⟨g1, g2⟩ := hg n o1 ho1 hlt
        obtain ⟨c1, c2, c3⟩ := I.seen F hi hS hp hlt g1 g2
        exact ⟨hlt, c2, by rw [c1]; rfl, c3⟩
      · rcases r1.wsh with s2 | ⟨sb, sv, s2, s3⟩
        · refine .inl fun n hn => ?_
          have hlt := r1.wlt n hn
          cases hx : ob.get n with
          | none => have := s2 n hn; rw [hx] at this; simp [unshared] at this
          | some o1 =>
            obtain ⟨g1, g2⟩ := hg n o1 hx hlt
            obtain ⟨c1, c2, c3⟩ := I.seen F hi hS hp hlt g1 g2
            rw [c1, ← hx]; exact s2 n hn
        · by_cases hnil : (D i).wr = []
          · exact .inl fun n hn => by rw [hnil] at hn; simp at hn
          refine .inr fun m q o' hq hc hsh => ?_
          -- who stands neither ahead of it nor behind has done nothing
          have idle : ∀ k, S k = true → (msk (bsO ops) i).testBit k = false → (D k).wr = [] ∧ (D k).lo = (D k).hi := fun k hk hm => by
            have hkn := I.lt k hk
            have hki : k ≠ i := fun c => by subst c; rw [hS] at hk; cases hk
            have hord : ordered (bsO ops) k i = false := by
              unfold ordered
              rw [hm, Bool.or_false]
              cases hb : (msk (bsO ops) k).testBit i with
              | false => rfl
              | true => have := I.closed k i hk hb; rw [hS] at this; cases this
            rcases F.clear k i hkn hi hki hord with x | x
            · exact absurd x.1 hnil
            · exact x.2 sb
          have noen : ∀ k, S k = true → (msk (bsO ops) i).testBit k = false → ∀ n, ¬ mine D h0.nx n k ∧ lookE n (D k).en = none := fun k hk hm n => by
            obtain ⟨x1, x2⟩ := idle k hk hm
            have hkn := I.lt k hk
            have h1 : ¬ mine D h0.nx n k := fun h => by
              unfold mine at h
              have e1 := F.lo hkn
              have e2 : nxR D h0.nx (k + 1) = (D k).hi := rfl
              omega
            refine ⟨h1, ?_⟩
            cases hl : lookE n (D k).en with
            | none => rfl
            | some z =>
              rcases (F.look hkn).1 (by rw [hl]; rfl) with y | y
              · exact absurd y h1
              · rw [x1] at y; simp at y
          have hmd := (I.dom m q hq).2
          have hlt : m < X D h0 i := by
            rcases hmd with x | ⟨j, x1, x2⟩
            · exact Nat.lt_of_lt_of_le x hX0
            · have hj : (msk (bsO ops) i).testBit j = true := by
                cases hb : (msk (bsO ops) i).testBit j with
                | true => rfl
                | false => exact absurd x2 (noen j x1 hb m).1
              exact Nat.lt_of_lt_of_le x2.2 (F.mono (mk_lt F.ok.back hj) (by omega))
          refine s3 m hlt ?_
          have hvn : vv = none := hvw.symm.trans sv
          rw [hvn] at hob
          simp only [obOf] at hob
          rw [← hob, get_viewAll, get_clearFrom, hens]
          have hbase : (if h0.nx ≤ m ∧ m < h0.nx + (nxR D h0.nx i - h0.nx) then none else h0.ob.get m) = baseAt h0 m := by
            by_cases c : m < h0.nx
            · rw [if_neg (by omega), baseAt_lt c]
            · rw [if_pos (by unfold X at hlt hX0; omega), baseAt_ge (by omega)]
          rw [hbase]
          have : entR D (fun j => (msk (bsO ops) i).testBit j) m (baseAt h0 m) i = cont D h0 ops S m := by
            unfold cont
            refine entR_congr fun k => ?_
            constructor
            · rintro ⟨h1, h2, h3⟩; exact ⟨by omega, hp k h2, h3⟩
            · rintro ⟨h1, h2, h3⟩
              have hk : (msk (bsO ops) i).testBit k = true := by
                cases hb : (msk (bsO ops) i).testBit k with
                | true => rfl
                | false => rw [(noen k h2 hb m).2] at h3; cases h3
              exact ⟨mk_lt F.ok.back hk, hk, h3⟩
          rw [this, hc]
          cases o' with
          | cells cs sz f t sh => exact hsh
          | map => cases hsh
          | loop => cases hsh
          | rows => cases hsh
    split at hd
    · rename_i v h' ha
      rw [semFR (aop_nd ha)]
      obtain ⟨ρ', w', y, L, hrun, h1, h2, h3, h4⟩ := aop_val (P := P) (w := w) hH hf' ha
      have hk := done ρ' w' v y L h' (aop_kl ha).1 hd h1 h2 h3 (by simpa using h4)
      rcases hrun with hrun | ⟨hrun, rfl⟩
      · have hrun : (execOp a.eval o).run P w = .ok (.value y) w' := hrun
        rw [hrun]; exact hk
      · have hrun : (execOp a.eval o).run P w = .ok .skip w' := hrun
        rw [hrun]; exact hk
    · rename_i f args h' ha
      split at hd
      · rename_i v h'' hc
        obtain ⟨e1, ys, hys, hrun⟩ := aop_call (P := P) hf' ha
        subst e1
        obtain ⟨hent, hck⟩ := F.sum _ _ _ _ _ hc
        rw [semFR (aop_nd ha), hrun w, hent.run ys w]
        refine ⟨fun h => (by rw [FR_depth] at h; cases h), callsFR ((hck _ w ys hys hH).mono ?_)⟩
        rintro en w1 ⟨y, ρ1, L, rfl, hv, hh1, hst, hlg⟩
        exact done ρ1 w1 v y L h'' (F.kl _ _ _ _ _ hc).1 hd hv hh1 hst (by simpa using hlg)
      · cases hd
    · cases hd

/- How many are left. -/
def left (n : Nat) (S : Nat → Bool) : Nat := ((List.range n).filter fun i => !S i).length
theorem filter_lt {α : Type} {p q : α → Bool} (h : ∀ x, q x = true → p x = true) : ∀ {l : List α} {x : α}, x ∈ l → p x = true → q x = false → (l.filter q).length < (l.filter p).length
  | [], _, hx, _, _ => by simp at hx
  | y :: r, x, hx, hp, hq => by
    have le : ∀ (l : List α), (l.filter q).length ≤ (l.filter p).length := fun l => by
      induction l with
      | nil => simp
      | cons z l ih =>
        simp only [List.filter_cons]
        cases hqz : q z with
        | true => simp [h z hqz, ih]
        | false => cases p z <;> simp <;> omega
    rcases List.mem_cons.1 hx with rfl | hx
    · simp only [List.filter_cons, hp, hq, if_true]
      have := le r
      simp; omega
    · have ih := filter_lt h hx hp hq
      simp only [List.filter_cons]
      cases hqz : q y with
      | true => simp [h y hqz, ih]
      | false => cases p y <;> simp <;> omega

theorem Inv.all {ro : Option Nat} {mr : Nat} (F : DrawF P call ops e0 h0 D W) (hok : okOps N ops = true) {Q : Exit → Act → World → Prop} (hQ : ∀ ρ' a' w' S', (∀ i, i < ops.size → S' i = true) → Inv ops e0 h0 D W S' ρ0 ρ' w0 w' a' N ds → Q .normal a' w') :
    ∀ (fuel : Nat) (listed : Array Bool) (ρ : Rho) (a : Act) (w : World), listed.size = ops.size → Inv ops e0 h0 D W (fun i => listed.getD i false) ρ0 ρ w0 w a N ds → left ops.size (fun i => listed.getD i false) ≤ fuel → wpAnyIn (FR ro) mr P .any ops Q fuel listed a w := by
  have full : ∀ (listed : Array Bool) (ρ : Rho) (a : Act) (w : World), listed.size = ops.size → Inv ops e0 h0 D W (fun i => listed.getD i false) ρ0 ρ w0 w a N ds → Region.ready .any ops listed = [] → Q .normal a w := by
    intro listed ρ a w hsz I hr
    refine hQ ρ a w _ (fun i => ?_) I
    induction i using Nat.strongRecOn with
    | _ i ih =>
      intro hi
      cases hl : listed.getD i false with
      | true => rfl
      | false =>
        exfalso
        have : i ∈ Region.ready .any ops listed := by
          refine mem_ready.2 ⟨?_, ops[i], by simp [hi], fun e he hb => ?_⟩
          · have hlt : i < listed.size := by omega
            simp only [Array.getD_eq_getD_getElem?, Array.getElem?_eq_getElem hlt, Option.getD_some] at hl ⊢
            exact hl
          · have hlt := F.ok.back i ops[i] (by simp [hi]) e he hb
            exact ih e.on hlt (by omega)
        rw [hr] at this
        cases this
  intro fuel
  induction fuel with
  | zero =>
    intro listed ρ a w hsz I hf
    have hr : Region.ready .any ops listed = [] := by
      rw [List.eq_nil_iff_forall_not_mem]
      intro j hj
      obtain ⟨h1, o, ho, _⟩ := mem_ready.1 hj
      have hj' := (Array.getElem?_eq_some_iff.1 ho).1
      unfold left at hf
      have : (List.range ops.size).filter (fun i => !listed.getD i false) = [] := List.eq_nil_of_length_eq_zero (Nat.le_zero.1 hf)
      rw [List.filter_eq_nil_iff] at this
      have := this j (by simpa using hj')
      have hlt : j < listed.size := by omega
      simp only [Array.getD_eq_getD_getElem?, Array.getElem?_eq_getElem hlt, Option.getD_some] at h1 this
      rw [h1] at this
      simp at this
    exact ⟨hr, full listed ρ a w hsz I hr⟩
  | succ fuel ih =>
    intro listed ρ a w hsz I hf
    refine ⟨full listed ρ a w hsz I, fun i hi => ?_⟩
    obtain ⟨h1, o, ho, hedge⟩ := mem_ready.1 hi
    have hi' := (Array.getElem?_eq_some_iff.1 ho).1
    have hlt : i < listed.size := by omega
    have hSi : listed.getD i false = false := by
      simp only [Array.getD_eq_getD_getElem?, Array.getElem?_eq_getElem hlt, Option.getD_some] at h1 ⊢
      exact h1
    have hset : (fun k => (listed.setIfInBounds i true).getD k false) = addS (fun k => listed.getD k false) i := by
      funext k
      unfold addS
      simp only [Array.getD_eq_getD_getElem?, Array.getElem?_setIfInBounds]
      by_cases c : i = k
      · subst c; simp [hlt]
      · simp [c, Ne.symm c]
    refine I.op F hok ho hSi (fun j hj => ?_) fun ρ' a' w' I' => ?_
    · obtain ⟨e, he, hb, h⟩ := (mk_iff F.ok.back ho j).1 hj
      have hon := hedge e he hb
      rcases h with rfl | h
      · exact hon
      · exact I.closed e.on j hon h
    · refine ih _ ρ' a' w' (by simpa using hsz) (by rw [hset]; exact I') ?_
      rw [hset]
      have := filter_lt (p := fun k => !listed.getD k false) (q := fun k => !addS (fun k => listed.getD k false) i k) (l := List.range ops.size) (x := i) (fun x hx => by unfold addS at hx; simp at hx ⊢; exact hx.2) (by simpa using hi') (by simp [hSi]) (by simp [addS])
      exact Nat.le_of_lt_succ (Nat.lt_of_lt_of_le this hf)

theorem entR_base {D : Nat → DRec} {m : Nat → Bool} {n : Nat} {b b' : Option AO} {N : Nat} (h : ∃ k, k < N ∧ m k = true ∧ (lookE n (D k).en).isSome = true) : entR D m n b N = entR D m n b' N := by
  obtain ⟨k, h1, h2, h3⟩ := h
  rcases entR_find D m n b N with ⟨_, h4⟩ | ⟨i, o, a1, a2, a3, a4, a5⟩
  · rw [h4 k h1 h2] at h3; cases h3
  · rcases entR_find D m n b' N with ⟨_, h4⟩ | ⟨i', o', b1, b2, b3, b4, b5⟩
    · rw [h4 k h1 h2] at h3; cases h3
    · have : i = i' := by
        rcases Nat.lt_trichotomy i i' with c | c | c
        · have := a5 i' c b1 b2; rw [this] at b3; cases b3
        · exact c
        · have := b5 i c a1 a2; rw [this] at a3; cases a3
      subst this
      rw [a3] at b3; cases b3
      rw [a4, b4]

theorem mem_wrs : ∀ {ds : List DRec} {n : Nat}, n ∈ wrs ds ↔ ∃ (j : Nat) (d : DRec), ds[j]? = some d ∧ n ∈ d.wr
  | [], n => by simp [wrs]
  | d :: r, n => by
    simp only [wrs, List.mem_append]
    rw [mem_wrs]
    constructor
    · rintro (h | ⟨j, d', h1, h2⟩)
      · exact ⟨0, d, rfl, h⟩
      · exact ⟨j + 1, d', by simpa using h1, h2⟩
    · rintro ⟨j, d', h1, h2⟩
      cases j with
      | zero => simp at h1; subst h1; exact .inl h2
      | succ j => exact .inr ⟨j, d', by simpa using h1, h2⟩

/-- **A region that draws its order**. -/
theorem drawn_any {ro : Option Nat} {mr B : Nat} (hc : SumOk P call) (hk : SumKL call) {n : Nat} (hok : okOps n ops = true) {e e' : T AV} {h h' : Hp} (hd : drawn P call ops e h = some (e', h')) {ρ : Rho} {a : Act} {w : World} {Q : Exit → Act → World → Prop}
    (he : ERel ρ e a) (hh : HR ρ h w) (hdf : Marks B ρ w a.defers) (hn : n ≤ a.tmps.size) (hQ : After Q ρ h w n B .normal e' h') : wpAnyIn (FR ro) mr P .any ops Q ops.size (Array.replicate ops.size false) a { w with drawn := w.drawn + 1 } := by
  unfold drawn at hd
  simp only [cond_eq_ite] at hd
  split at hd
  · rename_i hdr
    split at hd
    · rename_i ds e1 nx1 ens1 hg
      split at hd
      · rename_i hcl
        injection hd with hd
        injection hd with hd1 hd2
        subst hd1
        obtain ⟨W, hW⟩ := drawOk_spec hdr
        let D : Nat → DRec := fun k => ds.getD k default
        have hD : ∀ (k : Nat) d, ds[k]? = some d → D (0 + k) = d := fun k d hk => by show ds.getD (0 + k) default = d; simp [hk]
        obtain ⟨l1, l2, l3, l4, l5⟩ := drawGo_spec (D := D) (W := W) (e0 := e) (h0 := h) hW.w ops.toList 0 e h.nx [] ds e1 nx1 ens1 (by simp) (Nat.zero_le _) hg hD (fun t => by unfold envR; cases W t <;> simp) rfl (fun m n b => rfl)
        have hDs : ∀ k, k < ops.size → ds[k]? = some (D k) := fun k hk' => by
          have : k < ds.length := by rw [l1]; simpa using hk'
          show ds[k]? = some (ds.getD k default)
          simp [this]
        have F : DrawF P call ops e h D W := ⟨hW, hk, hc, fun k o ho => l5 k o (Nat.zero_le _) ho, fun i j hi hj hij hor => by
          rcases clearAll_spec ds 0 hcl j (D j) (hDs j hj) with x | x
          · exact .inl x
          · rw [Nat.zero_add] at x
            rcases clearOf_spec ds 0 x i (D i) (hDs i hi) with y | y | y
            · omega
            · rw [Nat.zero_add] at y; rw [y] at hor; cases hor
            · rw [Nat.zero_add] at y; exact .inr ⟨Clear1.of hDs y.1, y.2⟩⟩
        have I0 : Inv ops e h D W (fun i => (Array.replicate ops.size false).getD i false) ρ ρ w { w with drawn := w.drawn + 1 } a n a.defers := by
          have hno : ∀ i, (Array.replicate ops.size false).getD i false = false := fun i => by
            simp only [Array.getD_eq_getD_getElem?, Array.getElem?_replicate]
            split <;> rfl
          have hcont : ∀ k, cont D h ops (fun i => (Array.replicate ops.size false).getD i false) k = baseAt h k := fun k => by
            unfold cont
            rcases entR_find D (fun i => (Array.replicate ops.size false).getD i false) k (baseAt h k) ops.size with ⟨h1, _⟩ | ⟨j, o, _, h2, _⟩
            · exact h1
            · simp only [hno] at h2; cases h2
          have base_lt : ∀ k o, baseAt h k = some o → k < h.nx ∧ h.ob.get k = some o := fun k o ho => by
            by_cases c : k < h.nx
            · rw [baseAt_lt c] at ho; exact ⟨c, ho⟩
            · rw [baseAt_ge (by omega)] at ho; cases ho
          refine { lt := fun i hi => (by simp only [hno] at hi; cases hi), closed := fun i j hi => (by simp only [hno] at hi; cases hi), envS := fun t j _ hj => (by simp only [hno] at hj; cases hj), env0 := fun t _ => he t, dom := fun k p hp => ⟨(hh.dom k p hp).2, .inl (hh.dom k p hp).1⟩, old := fun _ _ => rfl, dom0 := hh.dm, fz := hh.fz, nf := hh.nf, opn := hh.op, obj := fun k o hmk hco => ?_, sep := fun k m p q o o' hkm e1 e2 hb e3 e4 => ?_, tip := fun k m p q o o' e1 e2 hb e3 e4 ht => ?_, one := fun k m p q o o' hkm e1 e2 hb e3 e4 ht => ?_, size := Nat.le_refl _, os := rfl, tape := rfl, output := rfl, new := fun k p hk' hp => absurd (hh.dm k p hp) (by omega), block := fun b hb _ => rfl, d := rfl, n := hn }
          · rw [hcont] at hco
            obtain ⟨hlt, ho⟩ := base_lt k o hco
            rcases hh.obj0 k o ho hlt with ⟨p, h1, h2⟩ | hz0
            rotate_left
            · exact .inr hz0
            refine .inl ⟨p, h.nx, h1, ?_, fun i hi _ => F.mono (i := 0) (j := i) (by omega) hi⟩
            have : cut ρ h.nx = ρ := by
              funext m
              unfold cut
              split
              · rfl
              · cases hr : ρ m with
                | none => rfl
                | some q => exact absurd (hh.dm m q hr) (by assumption)
            rw [this]
            exact ORel.world (w := w) rfl h2
          · rw [hcont] at e3 e4
            exact hh.sep k m p q o o' hkm e1 e2 hb (base_lt _ _ e3).2 (base_lt _ _ e4).2
          · rw [hcont] at e3 e4
            exact hh.tip k m p q o o' e1 e2 hb (base_lt _ _ e3).2 (base_lt _ _ e4).2 ht
          · rw [hcont] at e3 e4
            exact hh.one k m p q o o' hkm e1 e2 hb (base_lt _ _ e3).2 (base_lt _ _ e4).2 ht
        refine Inv.all F hok ?_ ops.size _ ρ a _ (by simp) I0 (by unfold left; exact Nat.le_trans (List.length_filter_le _ _) (by simp))
        intro ρ' a' w' S' hS' I
        have hXN : X D h ops.size = nx1 := l3.symm
        have hget : ∀ k, k < nx1 → (viewAll (fun _ => true) ens1 h.ob).get k = cont D h ops S' k := fun k hk' => by
          rw [get_viewAll, l4]
          unfold cont
          rw [entR_congr (m := S') (m' := fun _ => true) (N := ops.size) (N' := ops.size) (fun j => ⟨fun ⟨x1, _, x3⟩ => ⟨x1, rfl, x3⟩, fun ⟨x1, _, x3⟩ => ⟨x1, hS' j x1, x3⟩⟩)]
          by_cases c : k < h.nx
          · rw [baseAt_lt c]
          · obtain ⟨j, hj, hm'⟩ := mine_cover (D := D) (h0 := h) (n := k) ops.size (by omega) (by rw [hXN]; exact hk')
            exact entR_base ⟨j, hj, rfl, (F.look hj).2 (.inl hm')⟩
        have hmade : ∀ k, k < nx1 → Made D h S' k := fun k hk' => by
          by_cases c : k < h.nx
          · exact .inl c
          · obtain ⟨j, hj, hm'⟩ := mine_cover (D := D) (h0 := h) (n := k) ops.size (by omega) (by rw [hXN]; exact hk')
            exact .inr ⟨j, hS' j hj, hm'⟩
        have hlt : ∀ k p, ρ' k = some p → k < nx1 := fun k p hp => by
          rcases (I.dom k p hp).2 with x | ⟨j, x1, x2⟩
          · have := F.mono (i := 0) (j := ops.size) (by omega) (Nat.le_refl _)
            have e2 : nxR D h.nx ops.size = nx1 := hXN
            have e3 : nxR D h.nx 0 = h.nx := rfl
            omega
          · have := F.mono (i := j + 1) (j := ops.size) (I.lt j x1) (Nat.le_refl _)
            have e2 : nxR D h.nx ops.size = nx1 := hXN
            unfold mine at x2
            omega
        have hst : Stepped ρ h.nx (wrs ds) w ρ' nx1 w' := by
          refine ⟨?_, I.old, fun k p hk' hp => ?_, I.size, I.os, I.tape, I.output, fun b hb hne => ?_⟩
          · have := F.mono (i := 0) (j := ops.size) (by omega) (Nat.le_refl _)
            have e2 : nxR D h.nx ops.size = nx1 := hXN
            have e3 : nxR D h.nx 0 = h.nx := rfl
            show h.nx ≤ nx1
            omega
          · rcases I.new k p hk' hp with x | ⟨m, q, j, x1, x2, x3, x4, x5⟩
            · exact .inl x
            · exact .inr ⟨m, q, mem_wrs.2 ⟨j, D j, hDs j (I.lt j x1), x2⟩, x3, x4, x5⟩
          · exact I.block b hb fun k p j x1 x2 x3 x4 => hne k p (mem_wrs.2 ⟨j, D j, hDs j (I.lt j x1), x2⟩) x3 x4
        rw [← hd2] at hQ
        refine hQ ρ' a' w' (wrs ds) (fun t => ?_) ⟨fun k p hp => ⟨hlt k p hp, (I.dom k p hp).1⟩, fun k o ho hk' => ?_, fun k m p q o o' hkm e1 e2 hb e3 e4 => ?_, fun k m p q o o' e1 e2 hb e3 e4 ht => ?_, fun k m p q o o' hkm e1 e2 hb e3 e4 ht => ?_, I.fz, I.nf, fun e => Nat.le_trans (hh.op e) hst.le⟩ hst rfl (by rw [I.d]; exact hdf.step hst) I.n
        · rw [l2 t]
          unfold envR
          cases hWt : W t with
          | none => exact (I.env0 t (fun j hj => by rw [hWt] at hj; cases hj)).mono I.sub0
          | some j =>
            obtain ⟨o, ho, _⟩ := (hW.w t j).1 hWt
            have hj := (Array.getElem?_eq_some_iff.1 ho).1
            simp only [if_pos hj, Option.getD_some]
            exact (I.envS t j hWt (hS' j hj)).mono fun m p hmp => (cut_some hmp).1
        · rw [hget k hk'] at ho
          rcases I.obj k o (hmade k hk') ho with ⟨p, l, h1, h2, _⟩ | hz0
          · exact .inl ⟨p, h1, h2.mono fun m q hq => (cut_some hq).1⟩
          · exact .inr hz0
        · rw [hget k (hlt k p e1)] at e3; rw [hget m (hlt m q e2)] at e4
          exact I.sep k m p q o o' hkm e1 e2 hb e3 e4
        · rw [hget k (hlt k p e1)] at e3; rw [hget m (hlt m q e2)] at e4
          exact I.tip k m p q o o' e1 e2 hb e3 e4 ht
        · rw [hget k (hlt k p e1)] at e3; rw [hget m (hlt m q e2)] at e4
          exact I.one k m p q o o' hkm e1 e2 hb e3 e4 ht
      · cases hd
    · cases hd
  · cases hd
end Ev
end Go.Proofs.Ytengccmjlaejfaa
end
section
namespace Go.Proofs.Ytengccmjlaejfaa
namespace Ev
open Go.RowKit
set_option linter.unusedSectionVars false
variable [Fz]
variable {P : Program}

theorem edgesBack_ok : ∀ {l : List Oper} {i : Nat}, edgesBack i l = true → ∀ k o, l[k]? = some o → ∀ e ∈ o.after, Region.binds .any e = true → e.on < i + k
  | [], _, _, k, o, h, _, _, _ => by simp at h
  | o :: r, i, h, 0, o', ho, e, he, hb => by
    simp at ho
    subst ho
    simp only [edgesBack, Bool.and_eq_true] at h
    have h1 := h.1
    rw [Array.all_eq_true] at h1
    obtain ⟨j, hj, rfl⟩ := Array.getElem_of_mem he
    have := h1 j hj
    rw [hb] at this
    simpa using this
  | o :: r, i, h, k + 1, o', ho, e, he, hb => by
    simp only [edgesBack, Bool.and_eq_true] at h
    have := edgesBack_ok h.2 k o' (by simpa using ho) e he hb
    omega
theorem backOk_of {ops : Array Oper} (h : edgesBack 0 ops.toList = true) : BackOk ops := fun k o ho e he hb => by
  have := edgesBack_ok h k o (by simpa using ho) e he hb
  omega
theorem allBelow_ok {m : Nat} : ∀ {k : Nat}, allBelow m k = true → ∀ j, j < k → m.testBit j = true
  | 0, _, j, h => by omega
  | k + 1, h, j, hj => by
    simp only [allBelow, Bool.and_eq_true] at h
    by_cases c : j = k
    · subst c; exact h.1
    · exact allBelow_ok h.2 j (by omega)
theorem tailAt_le {bs : T Nat} : ∀ (n : Nat), tailAt bs n ≤ n
  | 0 => Nat.le_refl _
  | k + 1 => by
    simp only [tailAt, cond_eq_ite]
    split
    · exact Nat.le_succ_of_le (tailAt_le k)
    · exact Nat.le_refl _
theorem tailAt_ok {bs : T Nat} : ∀ (n k : Nat), tailAt bs n ≤ k → k < n → ∀ j, j < k → (msk bs k).testBit j = true
  | 0, k, _, h, _, _ => by omega
  | n + 1, k, h1, h2, j, hj => by
    simp only [tailAt, cond_eq_ite] at h1
    split at h1
    · rename_i hb
      by_cases c : k = n
      · subst c; exact allBelow_ok hb j hj
      · exact tailAt_ok n k h1 (by omega) j hj
    · omega

section
variable {F : Fence} {m t : Nat} {ops : Array Oper} {Q : Exit → Act → World → Prop}
/-- The end. -/
theorem tail_any (hb : BackOk ops) (ht : ∀ k, t ≤ k → k < ops.size → ∀ j, j < k → (msk (bsO ops) k).testBit j = true) : ∀ (d k : Nat) (listed : Array Bool) (a : Act) (w : World), ops.size - k ≤ d → t ≤ k → k ≤ ops.size → listed.size = ops.size → (∀ j, j < ops.size → (listed.getD j false = true ↔ j < k)) →
    wpOpsIn F m P ops Q (List.range' k (ops.size - k)) a w → wpAnyIn F m P .any ops Q d listed a w := by
  intro d
  induction d with
  | zero =>
    intro k listed a w hd htk hk hsz hl h
    have hk' : ops.size - k = 0 := by omega
    rw [hk'] at h
    refine ⟨?_, h⟩
    rw [List.eq_nil_iff_forall_not_mem]
    intro j hj
    obtain ⟨h1, o, ho, _⟩ := mem_ready.1 hj
    have hjn := (Array.getElem?_eq_some_iff.1 ho).1
    have := (hl j hjn).2 (by omega)
    have hlt : j < listed.size := by omega
    simp only [Array.getD_eq_getD_getElem?, Array.getElem?_eq_getElem hlt, Option.getD_some] at h1 this
    rw [h1] at this; cases this
  | succ d ih =>
    intro k listed a w hd htk hk hsz hl h
    have hfalse : ∀ j, j < ops.size → listed.getD j true = false → ¬ j < k := fun j hjn h1 hjk => by
      have := (hl j hjn).2 hjk
      have hlt : j < listed.size := by omega
      simp only [Array.getD_eq_getD_getElem?, Array.getElem?_eq_getElem hlt, Option.getD_some] at h1 this
      rw [h1] at this; cases this
    by_cases c : k = ops.size
    · have hk' : ops.size - k = 0 := by omega
      rw [hk'] at h
      refine ⟨fun _ => h, fun i hi => ?_⟩
      obtain ⟨h1, o, ho, _⟩ := mem_ready.1 hi
      have hjn := (Array.getElem?_eq_some_iff.1 ho).1
      exact absurd (show i < k by omega) (hfalse i hjn h1)
    · have hkn : k < ops.size := by omega
      have hready : k ∈ Region.ready .any ops listed := by
        refine mem_ready.2 ⟨?_, ops[k], by simp [hkn], fun e he hbn => ?_⟩
        · have hlt : k < listed.size := by omega
          have : listed.getD k false = false := by
            cases hx : listed.getD k false with
            | false => rfl
            | true => have := (hl k hkn).1 hx; omega
          simp only [Array.getD_eq_getD_getElem?, Array.getElem?_eq_getElem hlt, Option.getD_some] at this ⊢
          exact this
        · have := hb k ops[k] (by simp [hkn]) e he hbn
          exact (hl e.on (by omega)).2 this
      refine ⟨fun hr => (by rw [hr] at hready; cases hready), fun i hi => ?_⟩
      obtain ⟨h1, o, ho, hedge⟩ := mem_ready.1 hi
      have hin := (Array.getElem?_eq_some_iff.1 ho).1
      have hik : i = k := by
        have h2 := hfalse i hin h1
        rcases Nat.lt_trichotomy i k with c2 | c2 | c2
        · exact absurd c2 h2
        · exact c2
        · exfalso
          have hbit := ht i (by omega) hin k c2
          obtain ⟨e, he, hbn, hor⟩ := (mk_iff hb ho k).1 hbit
          have hon := hedge e he hbn
          have hlt := hb i o ho e he hbn
          have hok := (hl e.on (by omega)).1 hon
          rcases hor with rfl | hor
          · omega
          · have := mk_lt hb hor; omega
      subst hik
      have hstep : ops.size - i = (ops.size - (i + 1)) + 1 := by omega
      rw [hstep, List.range'_succ, wpOpsIn_cons] at h
      refine wpOpIn_mono (fun a' w' h' => ?_) h
      refine ih (i + 1) _ a' w' (by omega) (by omega) (by omega) (by simpa using hsz) (fun j hj => ?_) h'
      simp only [Array.getD_eq_getD_getElem?, Array.getElem?_setIfInBounds]
      by_cases c2 : i = j
      · subst c2; simp [show i < listed.size by omega]
      · rw [if_neg c2]
        have := hl j hj
        simp only [Array.getD_eq_getD_getElem?] at this
        rw [this]; omega

/-- An operation, over a region's beginning or over all of it. -/
theorem op_pre {pre : Array Oper} (hpre : ∀ i, i < t → pre[i]? = ops[i]?) {Q' : Exit → Act → World → Prop} (hQ : ∀ x a w, x ≠ .normal → Q' x a w → Q x a w) {i : Nat} (hi : i < t) {o : Oper} (ho : ops[i]? = some o) (hg : ∀ j b, o.guard = some (j, b) → j < t) {K : Act → World → Prop} {a : Act} {w : World} (h : wpOpIn F m P pre Q' i K a w) : wpOpIn F m P ops Q i K a w := by
  unfold wpOpIn at h ⊢
  rw [hpre i hi] at h
  simp only [ho] at h ⊢
  have hw : Region.wanted o (yielded pre a.tmps) = Region.wanted o (yielded ops a.tmps) := by
    unfold Region.wanted
    cases hgo : o.guard with
    | none => rfl
    | some g =>
      obtain ⟨j, b⟩ := g
      simp only []
      unfold yielded
      rw [hpre j (hg j b hgo)]
  rw [hw] at h
  split
  · rename_i hwt
    rw [if_pos hwt] at h
    refine ⟨h.1, ?_⟩
    have h := h.2
    have lo : LetsOut Q' → LetsOut Q := fun ⟨a, w, h⟩ => ⟨a, w, hQ _ _ _ (by simp) h⟩
    generalize (o.semAt F.round a.eval).run P w = r at *
    cases r with
    | ok x w' =>
      cases x <;> simp only [Oper.uponIn] at h ⊢ <;>
        first
          | exact h
          | exact ⟨h.1, CallsIn.mono h.2 (fun e w'' he => by cases e <;> first | exact he | exact hQ _ _ _ (by simp) he | exact lo he)⟩
          | exact ⟨h.1, RoundIn.mono h.2 (fun e w'' he => by cases e <;> first | exact he | exact hQ _ _ _ (by simp) he | exact lo he)⟩
          | exact hQ _ _ _ (by simp) h
    | halt x w' => cases x <;> simp only [Oper.uponIn] at h ⊢ <;> first | exact h | exact hQ _ _ _ (by simp) h | exact lo h
  · rename_i hwt
    rw [if_neg hwt] at h
    exact h
/-- The beginning. -/
theorem pre_any (hb : BackOk ops) (ht : ∀ k, t ≤ k → k < ops.size → ∀ j, j < k → (msk (bsO ops) k).testBit j = true) {pre : Array Oper} (hps : pre.size = t) (htn : t ≤ ops.size) (hpre : ∀ i, i < t → pre[i]? = ops[i]?) (hg : ∀ i o, i < t → ops[i]? = some o → ∀ j b, o.guard = some (j, b) → j < t)
    {Q' : Exit → Act → World → Prop} (hQ : ∀ x a w, x ≠ .normal → Q' x a w → Q x a w) (hN : ∀ a w, Q' .normal a w → wpOpsIn F m P ops Q (List.range' t (ops.size - t)) a w) :
    ∀ (fuel : Nat) (lp listed : Array Bool) (a : Act) (w : World), lp.size = t → listed.size = ops.size → (∀ j, j < t → listed.getD j false = lp.getD j false) → (∀ j, t ≤ j → j < ops.size → listed.getD j false = false) →
      (∀ i j, listed.getD i false = true → (msk (bsO ops) i).testBit j = true → listed.getD j false = true) → wpAnyIn F m P .any pre Q' fuel lp a w → wpAnyIn F m P .any ops Q (fuel + (ops.size - t)) listed a w := by
  have un : ∀ (l : Array Bool) (j : Nat), j < l.size → l.getD j true = l.getD j false := fun l j h => by simp [Array.getD_eq_getD_getElem?, h]
  intro fuel
  induction fuel with
  | zero =>
    intro lp listed a w hlp hls heq hfl hcl h
    obtain ⟨hr, hq⟩ := h
    have hall : ∀ j, j < t → listed.getD j false = true := by
      intro j
      induction j using Nat.strongRecOn with
      | _ j ih =>
        intro hj
        cases hl : listed.getD j false with
        | true => rfl
        | false =>
          exfalso
          have hjn : j < pre.size := by omega
          have : j ∈ Region.ready .any pre lp := by
            refine mem_ready.2 ⟨?_, pre[j], by simp [hjn], fun e he hbn => ?_⟩
            · rw [un _ _ (by omega), ← heq j hj]; exact hl
            · have ho : ops[j]? = some pre[j] := by rw [← hpre j hj]; simp [hjn]
              have hlt := hb j _ ho e he hbn
              rw [← heq e.on (by omega)]
              exact ih e.on hlt (by omega)
          rw [hr] at this; cases this
    refine tail_any hb ht _ t listed a w (by omega) (Nat.le_refl _) htn hls (fun j hj => ⟨fun h => ?_, hall j⟩) (hN a w hq)
    rcases Nat.lt_or_ge j t with c | c
    · exact c
    · rw [hfl j c hj] at h; cases h
  | succ fuel ih =>
    intro lp listed a w hlp hls heq hfl hcl h
    obtain ⟨h0, h1⟩ := h
    have hrd : ∀ i, i < t → (i ∈ Region.ready .any ops listed ↔ i ∈ Region.ready .any pre lp) := by
      intro i hi
      have hin : i < pre.size := by omega
      have ho : ops[i]? = some pre[i] := by rw [← hpre i hi]; simp [hin]
      have ho' : pre[i]? = some pre[i] := by simp [hin]
      constructor
      · intro hm
        obtain ⟨k1, o, k2, k3⟩ := mem_ready.1 hm
        rw [ho] at k2; cases k2
        refine mem_ready.2 ⟨?_, _, ho', fun e he hbn => ?_⟩
        · rw [un _ _ (by omega)] at k1 ⊢; rw [← heq i hi]; exact k1
        · have hlt := hb i _ ho e he hbn
          rw [← heq e.on (by omega)]; exact k3 e he hbn
      · intro hm
        obtain ⟨k1, o, k2, k3⟩ := mem_ready.1 hm
        rw [ho'] at k2; cases k2
        refine mem_ready.2 ⟨?_, _, ho, fun e he hbn => ?_⟩
        · rw [un _ _ (by omega)] at k1 ⊢; rw [heq i hi]; exact k1
        · have hlt := hb i _ ho e he hbn
          rw [heq e.on (by omega)]; exact k3 e he hbn
    by_cases hr : Region.ready .any pre lp = []
    · have hall : ∀ j, j < t → listed.getD j false = true := by
        intro j
        induction j using Nat.strongRecOn with
        | _ j ih =>
          intro hj
          cases hl : listed.getD j false with
          | true => rfl
          | false =>
            exfalso
            have hjn : j < pre.size := by omega
            have : j ∈ Region.ready .any pre lp := by
              refine mem_ready.2 ⟨?_, pre[j], by simp [hjn], fun e he hbn => ?_⟩
              · rw [un _ _ (by omega), ← heq j hj]; exact hl
              · have ho : ops[j]? = some pre[j] := by rw [← hpre j hj]; simp [hjn]
                have hlt := hb j _ ho e he hbn
                rw [← heq e.on (by omega)]
                exact ih e.on hlt (by omega)
            rw [hr] at this; cases this
      refine tail_any hb ht _ t listed a w (by omega) (Nat.le_refl _) htn hls (fun j hj => ⟨fun h => ?_, hall j⟩) (hN a w (h0 hr))
      rcases Nat.lt_or_ge j t with c | c
      · exact c
      · rw [hfl j c hj] at h; cases h
    · obtain ⟨j0, hj0⟩ := List.exists_mem_of_ne_nil _ hr
      obtain ⟨u1, o0, u2, _⟩ := mem_ready.1 hj0
      have hj0t : j0 < t := by have := (Array.getElem?_eq_some_iff.1 u2).1; omega
      have hj0f : listed.getD j0 false = false := by rw [heq j0 hj0t, ← un _ _ (by omega)]; exact u1
      rw [show fuel + 1 + (ops.size - t) = (fuel + (ops.size - t)) + 1 by omega]
      refine ⟨fun hro => ?_, fun i hi => ?_⟩
      · have := (hrd j0 hj0t).2 hj0
        rw [hro] at this; cases this
      · obtain ⟨k1, o, k2, k3⟩ := mem_ready.1 hi
        have hin := (Array.getElem?_eq_some_iff.1 k2).1
        have hit : i < t := by
          rcases Nat.lt_or_ge i t with c | c
          · exact c
          · exfalso
            have hbit := ht i c hin j0 (by omega)
            obtain ⟨e, he, hbn, hor⟩ := (mk_iff hb k2 j0).1 hbit
            have hon := k3 e he hbn
            rcases hor with rfl | hor
            · rw [hon] at hj0f; cases hj0f
            · rw [hcl e.on j0 hon hor] at hj0f; cases hj0f
        refine op_pre hpre hQ hit k2 (hg i o hit k2) (wpOpIn_mono (fun a' w' h' => ?_) (h1 i ((hrd i hit).1 hi)))
        have hset : ∀ (l : Array Bool) (j : Nat), i < l.size → (l.setIfInBounds i true).getD j false = if j = i then true else l.getD j false := fun l j hl => by
          simp only [Array.getD_eq_getD_getElem?, Array.getElem?_setIfInBounds]
          by_cases c : i = j
          · subst c; simp [hl]
          · rw [if_neg c, if_neg (Ne.symm c)]
        refine ih _ _ a' w' (by simpa using hlp) (by simpa using hls) (fun j hj => ?_) (fun j hj hj2 => ?_) (fun x y hx hxy => ?_) h'
        · rw [hset _ _ (by omega), hset _ _ (by omega), heq j hj]
        · rw [hset _ _ (by omega), if_neg (by omega)]; exact hfl j hj hj2
        · rw [hset _ _ (by omega)] at hx ⊢
          by_cases c : y = i
          · rw [if_pos c]
          · rw [if_neg c]
            by_cases c2 : x = i
            · subst c2
              obtain ⟨e, he, hbn, hor⟩ := (mk_iff hb k2 y).1 hxy
              have hon := k3 e he hbn
              rcases hor with rfl | hor
              · exact hon
              · exact hcl e.on y hon hor
            · rw [if_neg c2] at hx; exact hcl x y hx hxy
end

/-- **A region that draws its order, but for its end.** -/
theorem drawnT_wp {ro : Option Nat} {mr B : Nat} (hm : P.follows .mixedOrders = true) {id : Nat} {call : Sum} (hc : SumOk P call) (hk : SumKL call) {yl : Yl} (hyl : YldOk P yl) {ops : Array Oper} {n : Nat} (hok : okOps n ops = true) {e e' : T AV} {h h' : Hp} (hd : drawnT P call yl ops e h = some (e', h')) {ρ : Rho} {a : Act} {w : World} {Q : Exit → Act → World → Prop}
    (he : ERel ρ e a) (hh : HR ρ h w) (hdf : Marks B ρ w a.defers) (hn : n ≤ a.tmps.size) (hQ : After Q ρ h w n B .normal e' h') : (Code.region id ops true).wpIn (FR ro) mr P Q a w := by
  unfold drawnT at hd
  simp only [cond_eq_ite] at hd
  split at hd
  · rename_i hp
    unfold preOk at hp
    simp only [Bool.and_eq_true] at hp
    obtain ⟨hp1, hp2⟩ := hp
    generalize htt : tailAt (bsGo 0 ops.toList .leaf) ops.size = t at hd hp2
    have htn : t ≤ ops.size := by rw [← htt]; exact tailAt_le _
    have htail : ∀ k, t ≤ k → k < ops.size → ∀ j, j < k → (msk (bsO ops) k).testBit j = true := fun k h1 h2 j hj => tailAt_ok ops.size k (by rw [htt]; exact h1) h2 j hj
    split at hd
    · rename_i e1 h1 h0
      have hps : (ops.toList.take t).toArray.size = t := by simp; omega
      have hpre : ∀ i, i < t → (ops.toList.take t).toArray[i]? = ops[i]? := fun i hi => by simp [hi]
      have hokp : okOps n (ops.toList.take t).toArray = true := by
        unfold okOps at hok ⊢
        rw [Array.all_eq_true] at hok ⊢
        intro i hi
        have hit : i < t := by rw [hps] at hi; exact hi
        have := hok i (by omega)
        simpa using this
      have hg : ∀ i o, i < t → ops[i]? = some o → ∀ j b, o.guard = some (j, b) → j < t := fun i o hi ho j b hgd => by
        unfold guardsIn at hp2
        rw [List.all_eq_true] at hp2
        have hmem : o ∈ ops.toList.take t := by
          rw [List.mem_iff_getElem?]
          exact ⟨i, by simpa [List.getElem?_take, hi] using ho⟩
        have := hp2 o hmem
        rw [hgd] at this
        simpa using this
      have hany := drawn_any (ro := ro) (mr := mr) (B := B) (Q := fun x a w => match x with
        | .normal => wpOpsIn (FR ro) mr P ops Q (List.range' t (ops.size - t)) a w
        | x => Q x a w) hc hk hokp h0 he hh hdf hn (fun ρ1 a1 w1 L k1 k2 k3 k4 k5 k6 => by
          have := seqOps_wp (ro := ro) (m := mr) hc hyl hok (Q := Q) (ops.toList.drop t) t e1 e' h1 h' ρ1 a1 w1 rfl hd k1 k2 k5 k6 (hQ.step k3 k4)
          simpa using this)
      refine wpIn_region_any hm ?_
      have hfin := pre_any (F := FR ro) (m := mr) (Q := Q) (backOk_of hp1) htail hps htn hpre hg (Q' := fun x a w => match x with
        | .normal => wpOpsIn (FR ro) mr P ops Q (List.range' t (ops.size - t)) a w
        | x => Q x a w) (fun x a w hx h => by cases x <;> first | exact absurd rfl hx | exact h) (fun a w h => h) _ _ (Array.replicate ops.size false) a _ (by simp; omega) (by simp) (fun j hj => ?_) (fun j h1 h2 => by simp [Array.getD_eq_getD_getElem?, h2]) (fun i j hi => ?_) hany
      · rw [hps] at hfin
        rw [show t + (ops.size - t) = ops.size by omega] at hfin
        exact hfin
      · have h1 : j < ops.size := by omega
        have h2 : j < min t ops.size := by omega
        simp [Array.getD_eq_getD_getElem?, h1, h2]
      · simp only [Array.getD_eq_getD_getElem?, Array.getElem?_replicate] at hi
        split at hi <;> cases hi
    · cases hd
  · cases hd

end Ev
end Go.Proofs.Ytengccmjlaejfaa
end
section
namespace Go.Proofs.Ytengccmjlaejfaa
namespace Ev
open Go.RowKit
set_option linter.unusedSectionVars false
variable [Fz]
variable {P : Program}

theorem stepR_scope {c : Code} {b : Frame} {a : Act} {k : List Item} {cs : List Frame} {w : World} : step P (lone (b.atR a (.code (.scope c) :: k)) cs w) = .next (lone (b.atR a (.code c :: .inScope c :: k)) cs w) :=
  step_lone_go (by simp [stepG, stepG.exec, Frame.atR])
theorem stepR_inScope {c : Code} {b : Frame} {a : Act} {k : List Item} {cs : List Frame} {w : World} : step P (lone (b.atR a (.inScope c :: k)) cs w) = .next (lone (b.atR a k) cs w) :=
  step_lone_go (by simp [stepG, stepG.exec, Frame.atR])
/-- Passes through a scope, n at most. -/
def jumps (F : Fence) (m : Nat) (P : Program) (body : Code) (Q : Exit → Act → World → Prop) : Nat → Code → Act → World → Prop
  | 0, _, _, _ => False
  | n + 1, c, a, w => c.wpIn F m P (fun x a w => match x with
    | .goto l => ∃ rest, findLabel body l = some rest ∧ jumps F m P body Q n rest a w
    | x => Q x a w) a w
theorem wpIn_scope_jumpsN {F : Fence} {m : Nat} {body : Code} {Q : Exit → Act → World → Prop} (n : Nat) {a : Act} {w : World} (h : jumps F m P body Q n body a w) : (Code.scope body).wpIn F m P Q a w := by
  intro b k cs hro hb hr
  have key : ∀ n c a w, jumps F m P body Q n c a w → ∃ e a' w', Q e a' w' ∧ ArrivesIn (Machine.fenced P F) P (lone (b.atR a (.code c :: .inScope body :: k)) cs w) b k cs e a' w' := by
    intro n
    induction n with
    | zero => intro c a w h; exact h.elim
    | succ n ih =>
      intro c a w h
      obtain ⟨e, a₁, w₁, hq, harr⟩ := h b (.inScope body :: k) cs hro hb hr
      cases e with
      | normal => exact ⟨.normal, a₁, w₁, hq, StepsIn.trans harr (.one (fenced_calm hb hr rfl) stepR_inScope)⟩
      | exit id => exact ⟨.exit id, a₁, w₁, hq, fun k' hk => harr.1 k' (by simp [exitTo, hk]), fun hr' hk => harr.2 hr' (by simp [exitTo, hk])⟩
      | goto l' =>
        obtain ⟨rest, hf, hj⟩ := hq
        have hg : gotoIn l' (.inScope body :: k) = some (.code rest :: .inScope body :: k) := by simp [gotoIn, hf]
        obtain ⟨e₂, a₂, w₂, hq₂, harr₂⟩ := ih rest a₁ w₁ hj
        exact ⟨e₂, a₂, w₂, hq₂, .of_steps (harr.1 _ hg) harr₂⟩
      | ret => exact ⟨_, a₁, w₁, hq, harr⟩
      | panic ch => exact ⟨_, a₁, w₁, hq, harr⟩
      | outgrown => exact ⟨_, a₁, w₁, hq, harr⟩
  obtain ⟨e, a', w', hq, harr⟩ := key n body a w h
  exact ⟨e, a', w', hq, .of_steps (.one (fenced_calm hb hr rfl) stepR_scope) harr⟩
theorem ok_label {n : Nat} : ∀ {c rest : Code} {l : Nat}, okCode n c = true → findLabel c l = some rest → okCode n rest = true
  | .seq a b, rest, l, h, hf => by
    simp only [okCode, Bool.and_eq_true] at h
    simp only [findLabel] at hf
    split at hf
    · rename_i r hr; cases hf; simp only [okCode, Bool.and_eq_true]; exact ⟨ok_label h.1 hr, h.2⟩
    · exact ok_label h.2 hf
  | .label l', rest, l, _, hf => by
    simp only [findLabel] at hf
    split at hf
    · cases hf; rfl
    · cases hf
  | .skip, _, _, _, hf => by simp [findLabel] at hf
  | .region .., _, _, _, hf => by simp [findLabel] at hf
  | .cond .., _, _, _, hf => by simp [findLabel] at hf
  | .block .., _, _, _, hf => by simp [findLabel] at hf
  | .loop .., _, _, _, hf => by simp [findLabel] at hf
  | .rangeFunc .., _, _, _, hf => by simp [findLabel] at hf
  | .exit .., _, _, _, hf => by simp [findLabel] at hf
  | .scope .., _, _, _, hf => by simp [findLabel] at hf
  | .goto .., _, _, _, hf => by simp [findLabel] at hf
  | .ret, _, _, _, hf => by simp [findLabel] at hf
  | .refuse .., _, _, _, hf => by simp [findLabel] at hf

/-- The setting of a piece of code. -/
structure At (ρ : Rho) (e : T AV) (h : Hp) (a : Act) (w : World) (n B : Nat) : Prop where
  e : ERel ρ e a
  h : HR ρ h w
  d : Marks B ρ w a.defers
  n : n ≤ a.tmps.size
  b : B ≤ w.heap.size

def RunOk (P : Program) (f : Bool → Code → T AV → Hp → Option (Ex × T AV × Hp)) : Prop :=
  ∀ r c e h x e' h', f r c e h = some (x, e', h') → ∀ n, okCode n c = true → ∀ B ρ a w Q, At ρ e h a w n B → After Q ρ h w n B (exOf x) e' h' → ∀ ro m, (ro.isSome = true → r = true) → c.wpIn (FR ro) m P Q a w
def LoopOk (P : Program) (m : Nat) (f : Bool → Code → T AV → Hp → Option (Ex × T AV × Hp)) : Prop :=
  ∀ r c e h x e' h', f r (.loop c) e h = some (x, e', h') → ∀ n, okCode n c = true → ∀ B ρ a w Q, At ρ e h a w n B → After Q ρ h w n B (exOf x) e' h' → ∀ ro mr, (ro.isSome = true → r = true) → Code.roundsIn (FR ro) mr P c Q m a w
def ScpOk (P : Program) (m : Nat) (f : Bool → Code → Code → T AV → Hp → Option (Ex × T AV × Hp)) : Prop :=
  ∀ r b c e h x e' h', f r b c e h = some (x, e', h') → ∀ n, okCode n b = true → okCode n c = true → ∀ B ρ a w Q, At ρ e h a w n B → After Q ρ h w n B (exOf x) e' h' → ∀ ro mr, (ro.isSome = true → r = true) → jumps (FR ro) mr P b Q m c a w

/-- On, where code goes on. -/
theorem After.on {Q : Exit → Act → World → Prop} {ρ : Rho} {h h' : Hp} {w : World} {n B : Nat} {e' : T AV} {x : Exit} (hB : B ≤ w.heap.size) (hk : ∀ ρ' a' w' L, At ρ' e' h' a' w' n B → Stepped ρ h.nx L w ρ' h'.nx w' → h'.lg = L ++ h.lg → Q x a' w') : After Q ρ h w n B x e' h' :=
  fun ρ' a' w' L h1 h2 h3 h4 h5 h6 => hk ρ' a' w' L ⟨h1, h2, h5, h6, Nat.le_trans hB h3.size⟩ h3 h4

/-- A loop's record is set anew. -/
theorem set_loop {ρ : Rho} {h : Hp} {w : World} (hh : HR ρ h w) {n : Nat} {st : LoopState} {e : T AV} {ps : List Tmp} {asg body : Code} {pe : Option Ex} (hn : n < h.nx) (ho : h.ob.get n = some (.loop st e ps asg body pe)) :
    ∃ p fn tmps D N, ρ n = some p ∧ w.heap[p.b]? = some (.loop (lrec fn tmps ps asg body D st pe)) ∧ (∀ t, VRel ρ ((e.get t).getD (.v undef)) (tmps.getD t undef)) ∧ N ≤ tmps.size ∧ okCode N asg = true ∧ okCode N body = true ∧ (∀ q ∈ ps, q < N) ∧
      ∀ st' pe', HR ρ (h.set n (.loop st' e ps asg body pe')) (w.putObj p.b (.loop (lrec fn tmps ps asg body D st' pe'))) ∧
        Stepped ρ h.nx [n] w ρ (h.set n (.loop st' e ps asg body pe')).nx (w.putObj p.b (.loop (lrec fn tmps ps asg body D st' pe'))) := by
  obtain ⟨p, hp, fn, tmps, D, N, h1, h2, h3, h4, h5, h6⟩ := hh.obj n _ ho hn
  refine ⟨p, fn, tmps, D, N, hp, h1, h2, h3, h4, h5, h6, fun st' pe' => ?_⟩
  have hb := (hh.dom n p hp).2
  have hsz : (w.putObj p.b (.loop (lrec fn tmps ps asg body D st' pe'))).heap.size = w.heap.size := by simp [World.putObj]
  have hrel := HRel.setObj hh hp ho rfl (o' := .loop st' e ps asg body pe') rfl hsz (fun b hb => World.putObj_heap_other hb) ⟨fn, tmps, D, N, World.putObj_heap_same hb, h2, h3, h4, h5, h6⟩
  refine ⟨?_, ⟨Nat.le_refl _, fun _ _ => rfl, fun m q hm e => absurd (hh.dm m q e) (by omega), Nat.le_of_eq hsz.symm, rfl, rfl, rfl, fun b _ hne => World.putObj_heap_other fun c => hne n p (by simp) hn hp c.symm⟩⟩
  unfold HR Hp.set Hp.log Hp.put
  rw [T.get_put]
  exact hrel

theorem Marks.lt {B : Nat} {ρ : Rho} {w : World} : ∀ {ds : List Deferred}, Marks B ρ w ds → ∀ d ∈ ds, d.target ≠ .collected w.heap.size
  | [], _, d, hd => by simp at hd
  | d0 :: ds, ⟨⟨D, h1, h2, h3, h4, h5⟩, h6⟩, d, hd => by
    rcases List.mem_cons.1 hd with rfl | hd
    · have hlt : D < w.heap.size := by
        rcases Nat.lt_or_ge D w.heap.size with c | c
        · exact c
        · rw [Array.getElem?_eq_none c] at h3; cases h3
      rw [h1]
      intro c
      injection c with c
      omega
    · exact Marks.lt h6 d hd
/-- **A range over a function.** -/
theorem range_ok {S : Sum} {R : Sm} (hC : SumOk P R.call) {r : Bool} {g : Operand} {ps : Array Tmp} {asg body : Code} {e : T AV} {h : Hp} {x : Ex} {e' : T AV} {h' : Hp} (hr : (stepS P S R).run r (.rangeFunc g ps asg body) e h = some (x, e', h')) {n : Nat} (hn : okCode n (.rangeFunc g ps asg body) = true)
    {B : Nat} {ρ : Rho} {a : Act} {w : World} {Q : Exit → Act → World → Prop} (hat : At ρ e h a w n B) (hk : After Q ρ h w n B (exOf x) e' h') (ro : Option Nat) (m : Nat) (hro : ro.isSome = true → r = true) : (Code.rangeFunc g ps asg body).wpIn (FR ro) m P Q a w := by
  simp only [okCode, Bool.and_eq_true] at hn
  simp only [stepS, cond_eq_ite] at hr
  split at hr
  · cases hr
  rename_i hrf
  obtain rfl : ro = none := by cases ro with | none => rfl | some l => exact absurd (hro rfl) hrf
  split at hr
  · rename_i f cs hg
    have hgv := opnd_rel hat.e g
    rw [hg] at hgv
    obtain ⟨lb, hgv, hlb⟩ := hgv
    split at hr
    · rename_i v h2 hcall
      obtain ⟨hent, hck⟩ := hC _ _ _ _ _ hcall
      have hsz : ((w.alloc (.deferred (some []))).heap).size = w.heap.size + 1 := World.size_alloc _ _
      obtain ⟨ρ1, hρ1⟩ : ∃ ρ1, ρ1 = upd ρ h.nx ⟨w.heap.size + 1, 0, 0, 0⟩ := ⟨_, rfl⟩
      refine wpIn_rangeFunc (F := FR none) ?_
      intro fn _
      obtain ⟨w1, hw1⟩ : ∃ w1, w1 = (w.alloc (.deferred (some []))).alloc (.loop (lrec fn a.tmps ps.toList asg body w.heap.size .ready none)) := ⟨_, rfl⟩
      have hs1 : w1.heap.size = w.heap.size + 2 := by rw [hw1, World.size_alloc, hsz]
      have hold : ∀ b, b < w.heap.size → w1.heap[b]? = w.heap[b]? := fun b hb => by
        rw [hw1, Below.heap_alloc _ _ _ (by rw [hsz]; omega), Below.heap_alloc _ _ _ hb]
      have hD : w1.heap[w.heap.size]? = some (.deferred (some [])) := by
        rw [hw1, Below.heap_alloc _ _ _ (by rw [hsz]; omega)]; exact World.alloc_heap_new w _
      have hL : w1.heap[w.heap.size + 1]? = some (.loop (lrec fn a.tmps ps.toList asg body w.heap.size .ready none)) := by
        have := World.alloc_heap_new (w.alloc (.deferred (some []))) (.loop (lrec fn a.tmps ps.toList asg body w.heap.size .ready none))
        rw [hsz] at this
        rw [hw1]; exact this
      have hsub : Sub ρ ρ1 := fun k q hq => by have := hat.h.dm k q hq; rw [hρ1, upd_ne _ _ (by omega)]; exact hq
      have hR1 : HR ρ1 (h.new (.loop .ready e ps.toList asg body none)) w1 := by
        have := HRel.newObj hat.h (w' := w1) (o := .loop .ready e ps.toList asg body none) (p := ⟨w.heap.size + 1, 0, 0, 0⟩) hold (by show w.heap.size ≤ w.heap.size + 1; omega) (by show w.heap.size + 1 < _; omega)
          ⟨fn, a.tmps, w.heap.size, n, hL, fun t => by rw [← hρ1]; exact (hat.e t).mono hsub, hat.n, hn.1.1, hn.1.2, fun q hq => by have := Array.all_eq_true_iff_forall_mem.1 hn.2 q (by simpa using hq); simpa using this⟩ rfl
        unfold HR Hp.new
        rw [T.get_put, hρ1]
        exact this
      have hst1 : Stepped ρ h.nx [] w ρ1 (h.nx + 1) w1 := by
        refine ⟨by omega, fun k hk' => by rw [hρ1, upd_ne _ _ (by omega)], fun k q hk' hq => .inl ?_, by omega, by rw [hw1]; rfl, by rw [hw1]; rfl, by rw [hw1]; rfl, fun b hb _ => hold b hb⟩
        by_cases c : k = h.nx
        · subst c; rw [hρ1, upd_same] at hq; cases hq; show w.heap.size ≤ w.heap.size + 1; omega
        · rw [hρ1, upd_ne _ _ c] at hq; exact absurd (hat.h.dm k q hq) (by omega)
      obtain ⟨ys, hys⟩ : ∃ ys : Array Value, ys = #[.func (.yield (w.heap.size + 1)) #[] #[]] ++ lb := ⟨_, rfl⟩
      have hrel : VRels ρ1 (.yld h.nx :: cs) ys.toList := by
        rw [hys, Array.toList_append]
        exact ⟨_, _, rfl, ⟨⟨w.heap.size + 1, 0, 0, 0⟩, by rw [hρ1, upd_same], rfl⟩, VRels.mono hsub _ _ hlb⟩
      have hcalls := hck ρ1 w1 ys hrel hR1
      have e1 : (Instr.enterLoop fn a.tmps ps asg body (FR none).round).run P w = .ok (w.heap.size + 1, [{ target := .collected w.heap.size, args := #[] }]) w1 := by
        rw [FR_round, run_enterLoop_outer, hw1]
        simp [lrec]
      have e2 : (resolve a.eval (rangeCall g (w.heap.size + 1)) 0).run P w1 = .ok { target := .fn (.func f) lb, args := #[.func (.yield (w.heap.size + 1)) #[] #[]] } w1 := by
        simp only [resolve, hgv]
        simp [go_sem]
      have e3 : (invoke (.fn (.func f) lb) #[.func (.yield (w.heap.size + 1)) #[] #[]]).run P w1 = .ok (.enter f ys) w1 := by
        rw [hys]
        simp [invoke, go_sem, hent.run]
      refine ⟨w.heap.size + 1, [{ target := .collected w.heap.size, args := #[] }], w1, { target := .fn (.func f) lb, args := #[.func (.yield (w.heap.size + 1)) #[] #[]] }, w1, f, ys, w1, e1, e2, fun _ _ => FR_fn _ _, e3, fun hd => (by rw [FR_depth] at hd; cases hd), callsFR (hcalls.mono ?_)⟩
      have hm1 : Marks B ρ1 w1 ({ target := .collected w.heap.size, args := #[] } :: a.defers) := by
        refine ⟨⟨w.heap.size, rfl, hat.b, hD, fun k q hq => ?_, hat.d.lt⟩, hat.d.step hst1⟩
        by_cases c : k = h.nx
        · subst c; rw [hρ1, upd_same] at hq; cases hq; show w.heap.size + 1 ≠ w.heap.size; omega
        · rw [hρ1, upd_ne _ _ c] at hq; have := (hat.h.dom k q hq).2; omega
      rintro en w2 ⟨y, ρ2, L, rfl, _, hh2, hst2, hlg2⟩
      have hst2 : Stepped ρ1 (h.nx + 1) L w1 ρ2 h2.nx w2 := hst2
      have hlg2 : h2.lg = L ++ h.lg := hlg2
      have hn2 : h.nx < h2.nx := Nat.lt_of_lt_of_le (Nat.lt_succ_self _) hst2.le
      have hat2 : ∀ st pe e2 ps2 asg2 body2, h2.ob.get h.nx = some (.loop st e2 ps2 asg2 body2 pe) → ∃ r : Loop, w2.heap[w.heap.size + 1]? = some (.loop r) ∧ r.state = st ∧ r.pending = pe.map exC ∧
          ∀ Q', After Q' ρ h w n B (exOf x) e (h2.set h.nx (.loop .exhausted e2 ps2 asg2 body2 pe)) → Q' (exOf x) { a with defers := { target := .collected w.heap.size, args := #[] } :: a.defers } (w2.putObj (w.heap.size + 1) (.loop { r with state := .exhausted })) := by
        intro st pe e2 ps2 asg2 body2 ho
        obtain ⟨p, fn2, tmps2, D2, N2, hp, hl, _, _, _, _, _, hset⟩ := set_loop hh2 hn2 ho
        have hp1 : p = ⟨w.heap.size + 1, 0, 0, 0⟩ := by
          have := hst2.old h.nx (Nat.lt_succ_self _)
          rw [hp, hρ1, upd_same] at this
          cases this; rfl
        subst hp1
        obtain ⟨k1, k2⟩ := hset .exhausted pe
        refine ⟨_, hl, rfl, rfl, fun Q' hk' => ?_⟩
        have hst3 := hst1.trans (hst2.trans k2)
        refine hk' ρ2 _ _ _ (fun t => (hat.e t).mono (hst3.sub hat.h.dm)) k1 hst3 ?_ (hm1.step (hst2.trans k2)) hat.n
        show h.nx :: h2.lg = _
        rw [hlg2]
        simp
      split at hr
      · rename_i e2 ps2 asg2 body2 ho
        cases hr
        obtain ⟨rr, q1, q2, q3, q4⟩ := hat2 _ _ _ _ _ _ ho
        have h4 := q4 Q hk
        refine ⟨rr.pending, _, run_endLoop q1 (by rw [q2]; simp), ?_⟩
        cases rr
        cases q3
        exact h4
      · rename_i e2 ps2 asg2 body2 x' ho
        cases hr
        obtain ⟨rr, q1, q2, q3, q4⟩ := hat2 _ _ _ _ _ _ ho
        have h4 := q4 Q hk
        refine ⟨rr.pending, _, run_endLoop q1 (by rw [q2]; simp), ?_⟩
        cases rr
        cases q3
        cases x with
        | normal => exact wpIn_skip h4
        | exit id => exact wpIn_exit h4
        | goto l => exact wpIn_goto h4
        | ret => exact wpIn_ret h4
      · cases hr
    · cases hr
  · cases hr

theorem step_run {S : Sum} {R : Sm} {m : Nat} (hmix : P.follows .mixedOrders = true) (hKc : SumKL R.call) (hR : RunOk P R.run) (hL : LoopOk P m R.run) (hJ : ScpOk P m R.scp) (hC : SumOk P R.call) (hY : YldOk P R.yld) : RunOk P (stepS P S R).run ∧ LoopOk P (m + 1) (stepS P S R).run := by
  have hloop : LoopOk P (m + 1) (stepS P S R).run := by
    intro r c e h x e' h' hr n hn B ρ a w Q hat hk ro mr hro
    simp only [stepS] at hr
    show c.wpIn (FR ro) mr P (Exit.then (Code.roundsIn (FR ro) mr P c Q m) Q) a w
    split at hr
    · rename_i e1 h1 h0
      refine hR r c e h _ _ _ h0 n hn B ρ a w _ hat (.on hat.b fun ρ1 a1 w1 L hat1 hst hlg => ?_) ro mr hro
      exact hL r c e1 h1 x e' h' hr n hn B ρ1 a1 w1 Q hat1 (hk.step hst hlg) ro mr hro
    · rename_i h0
      refine hR r c e h _ _ _ hr n hn B ρ a w _ hat ?_ ro mr hro
      cases x with
      | normal => exact absurd hr (h0 e' h')
      | exit id => exact hk
      | goto l => exact hk
      | ret => exact hk
  refine ⟨?_, hloop⟩
  intro r c e h x e' h' hr n hn B ρ a w Q hat hk ro mr hro
  cases c with
  | skip => simp only [stepS] at hr; cases hr; exact wpIn_skip (hk ρ a w [] hat.e hat.h (.refl hat.h.dm) rfl hat.d hat.n)
  | label l => simp only [stepS] at hr; cases hr; exact wpIn_label (hk ρ a w [] hat.e hat.h (.refl hat.h.dm) rfl hat.d hat.n)
  | ret => simp only [stepS] at hr; cases hr; exact wpIn_ret (hk ρ a w [] hat.e hat.h (.refl hat.h.dm) rfl hat.d hat.n)
  | exit id => simp only [stepS] at hr; cases hr; exact wpIn_exit (hk ρ a w [] hat.e hat.h (.refl hat.h.dm) rfl hat.d hat.n)
  | goto l => simp only [stepS] at hr; cases hr; exact wpIn_goto (hk ρ a w [] hat.e hat.h (.refl hat.h.dm) rfl hat.d hat.n)
  | region id ops d =>
    simp only [stepS] at hr
    cases d with
    | true =>
      simp only [cond_true, Option.map_eq_some_iff, Prod.exists, Prod.mk.injEq] at hr
      obtain ⟨e1, h1, hs, rfl, rfl, rfl⟩ := hr
      exact drawnT_wp hmix hC hKc hY hn hs hat.e hat.h hat.d hat.n hk
    | false =>
      simp only [cond_false, Option.map_eq_some_iff, Prod.exists, Prod.mk.injEq] at hr
      obtain ⟨e1, h1, hs, rfl, rfl, rfl⟩ := hr
      refine wpIn_region ?_
      have := seqOps_wp (ro := ro) (m := mr) hC hY hn (Q := Q) ops.toList 0 e e1 h h1 ρ a w (by simp) hs hat.e hat.h hat.d hat.n hk
      rw [List.range_eq_range']
      simpa using this
  | seq c1 c2 =>
    simp only [okCode, Bool.and_eq_true] at hn
    simp only [stepS] at hr
    refine wpIn_seq ?_
    split at hr
    · rename_i e1 h1 h0
      refine hR r c1 e h _ _ _ h0 n hn.1 B ρ a w _ hat (.on hat.b fun ρ1 a1 w1 L hat1 hst hlg => ?_) ro mr hro
      exact hR r c2 e1 h1 x e' h' hr n hn.2 B ρ1 a1 w1 Q hat1 (hk.step hst hlg) ro mr hro
    · rename_i h0
      refine hR r c1 e h _ _ _ hr n hn.1 B ρ a w _ hat ?_ ro mr hro
      cases x with
      | normal => exact absurd hr (h0 e' h')
      | exit id => exact hk
      | goto l => exact hk
      | ret => exact hk
  | cond o c1 c2 =>
    simp only [okCode, Bool.and_eq_true] at hn
    simp only [stepS] at hr
    split at hr
    · rename_i b hb
      have hv := opnd_rel hat.e o
      rw [hb] at hv
      refine wpIn_cond (t := b) hv ?_
      cases b with
      | true => exact hR r c1 e h x e' h' hr n hn.1 B ρ a w Q hat hk ro mr hro
      | false => exact hR r c2 e h x e' h' hr n hn.2 B ρ a w Q hat hk ro mr hro
    · rename_i b hb
      have hv := opnd_rel hat.e o
      rw [hb] at hv
      refine wpIn_cond (t := b) hv ?_
      cases b with
      | true => exact hR r c1 e h x e' h' hr n hn.1 B ρ a w Q hat hk ro mr hro
      | false => exact hR r c2 e h x e' h' hr n hn.2 B ρ a w Q hat hk ro mr hro
    · cases hr
  | block id c =>
    simp only [stepS] at hr
    refine wpIn_block ?_
    split at hr
    · rename_i id' e1 h1 h0
      refine hR r c e h _ _ _ h0 n hn B ρ a w _ hat ?_ ro mr hro
      cases hb : Nat.beq id' id with
      | true =>
        simp only [hb, cond_true] at hr
        cases hr
        have : id' = id := Nat.eq_of_beq_eq_true hb
        refine fun ρ1 a1 w1 L h1 h2 h3 h4 h5 h6 => ?_
        show (if id' = id then Q .normal a1 w1 else Q (.exit id') a1 w1)
        rw [if_pos this]
        exact hk ρ1 a1 w1 L h1 h2 h3 h4 h5 h6
      | false =>
        simp only [hb, cond_false] at hr
        cases hr
        have : ¬ id' = id := fun c => by subst c; simp at hb
        refine fun ρ1 a1 w1 L h1 h2 h3 h4 h5 h6 => ?_
        show (if id' = id then Q .normal a1 w1 else Q (.exit id') a1 w1)
        rw [if_neg this]
        exact hk ρ1 a1 w1 L h1 h2 h3 h4 h5 h6
    · rename_i h0
      refine hR r c e h _ _ _ hr n hn B ρ a w _ hat ?_ ro mr hro
      cases x with
      | normal => exact hk
      | exit id => exact absurd hr (h0 id e' h')
      | goto l => exact hk
      | ret => exact hk
  | loop c => exact wpIn_loop_rounds (m + 1) (hloop r c e h x e' h' hr n hn B ρ a w Q hat hk ro mr hro)
  | scope c =>
    simp only [stepS] at hr
    exact wpIn_scope_jumpsN m (hJ r c c e h x e' h' hr n hn hn B ρ a w Q hat hk ro mr hro)
  | rangeFunc g ps asg body => exact range_ok hC hr hn hat hk ro mr hro
  | refuse _ => simp [stepS] at hr

theorem step_scp {S : Sum} {R : Sm} {m : Nat} (hR : RunOk P R.run) (hJ : ScpOk P m R.scp) : ScpOk P (m + 1) (stepS P S R).scp := by
  intro r b c e h x e' h' hr n hb hn B ρ a w Q hat hk ro mr hro
  simp only [stepS] at hr
  show c.wpIn (FR ro) mr P _ a w
  split at hr
  · rename_i l e1 h1 h0
    split at hr
    · rename_i rest hf
      refine hR r c e h _ _ _ h0 n hn B ρ a w _ hat (.on hat.b fun ρ1 a1 w1 L hat1 hst hlg => ?_) ro mr hro
      exact ⟨rest, hf, hJ r b rest e1 h1 x e' h' hr n hb (ok_label hb hf) B ρ1 a1 w1 Q hat1 (hk.step hst hlg) ro mr hro⟩
    · cases hr
  · rename_i h0
    refine hR r c e h _ _ _ hr n hn B ρ a w _ hat ?_ ro mr hro
    cases x with
    | normal => exact hk
    | exit id => exact hk
    | goto l => exact absurd hr (h0 l e' h')
    | ret => exact hk

/-- The marks' blocks are shut: blocks that nobody names. -/
structure Shut (B : Nat) (ρ : Rho) (w w' : World) : Prop where
  size : w'.heap.size = w.heap.size
  os : w'.os = w.os
  tape : w'.tape = w.tape
  output : w'.output = w.output
  keep : ∀ b, (b < B ∨ ∃ n p, ρ n = some p ∧ p.b = b) → w'.heap[b]? = w.heap[b]?
theorem Shut.refl (B : Nat) (ρ : Rho) (w : World) : Shut B ρ w w := ⟨rfl, rfl, rfl, rfl, fun _ _ => rfl⟩
theorem putObj_ne {w : World} {b c : Nat} {o : Obj} (h : c ≠ b) : (w.putObj b o).heap[c]? = w.heap[c]? := World.putObj_heap_other h
theorem Marks.put {B D : Nat} {ρ : Rho} {w : World} {o : Obj} : ∀ {ds : List Deferred}, (∀ d ∈ ds, d.target ≠ .collected D) → Marks B ρ w ds → Marks B ρ (w.putObj D o) ds
  | [], _, _ => trivial
  | d :: ds, h, ⟨⟨E, h1, h2, h3, h4, h5⟩, h6⟩ => by
    have hne : E ≠ D := fun c => h d (by simp) (by rw [h1, c])
    exact ⟨⟨E, h1, h2, (putObj_ne hne).trans h3, h4, h5⟩, Marks.put (fun d' hd' => h d' (by simp [hd'])) h6⟩
theorem leaves_marks {B n : Nat} {ρ : Rho} {fn : Func} {tmps : Array Value} {R : Ending → World → Prop} : ∀ (ds : List Deferred) (w : World), Marks B ρ w ds →
    (∀ w', Shut B ρ w w' → ∃ v, (results fn tmps).run P w' = .ok v w' ∧ R (.returned v) w') → LeavesInM Fence.wide n P fn tmps R ds .returning w
  | [], w, _, h => h w (.refl B ρ w)
  | d :: ds, w, ⟨⟨D, h1, h2, h3, h4, h5⟩, h6⟩, h => by
    refine ⟨by simp, .inl ⟨D, w.putObj D (.deferred none), by rw [h1], run_takeDeferred h3, leaves_marks ds _ (h6.put h5) fun w' hs => h w' ?_⟩⟩
    refine ⟨hs.size.trans (by simp [World.putObj]), hs.os, hs.tape, hs.output, fun b hb => (hs.keep b hb).trans (putObj_ne fun c => ?_)⟩
    subst c
    rcases hb with hb | ⟨n, p, e1, e2⟩
    · omega
    · exact h4 n p e1 e2

theorem step_call {S : Sum} {R : Sm} (hP : P.funcs.all okFunc = true) (hS : SumOk P S) (hR : RunOk P R.run) (hK : ∀ r c e h x e' h', R.run r c e h = some (x, e', h') → KL h h') : SumOk P (stepS P S R).call := by
  intro f args h v h' hr
  simp only [stepS] at hr
  split at hr
  · rename_i r hs; cases hr; exact hS _ _ _ _ _ hs
  · split at hr
    · rename_i fn hfn
      split at hr
      · rename_i c hb
        have hok : okFunc fn = true := by
          rw [Array.all_eq_true] at hP
          obtain ⟨hi, rfl⟩ := Array.getElem?_eq_some_iff.1 hfn
          exact hP f hi
        unfold okFunc at hok
        simp only [hb, Bool.and_eq_true] at hok
        refine ⟨⟨fn, hfn, by rw [hb]; rfl, fun e => by rw [e] at hok; simp at hok⟩, ?_⟩
        have body : ∀ (x : Ex) (e1 : T AV) (h1 : Hp), (x = .normal ∨ x = .ret) → R.run false c (params args) { ob := h.ob, nx := h.nx, lg := [] } = some (x, e1, h1) → (resA P h1 e1 fn.results.toList).map (fun l => (one l, leave h.nx h.lg (one l) h1)) = some (v, h') → CallOk P f args h v h' := by
          intro x e1 h1 hx hrun hres ρ w ys hys hh
          simp only [Option.map_eq_some_iff, Prod.mk.injEq] at hres
          obtain ⟨l, hl, rfl, rfl⟩ := hres
          refine callsIn_wide.1 (callsIn_of_wp_marks (n := 0) (F := Fence.wide) hfn hb trivial ?_)
          refine hR false c _ _ _ _ _ hrun fn.ntmps hok.2 w.heap.size ρ _ w _ ⟨params_rel hys _, hh, trivial, by simp; omega, Nat.le_refl _⟩ ?_ none 0 (fun h => by cases h)
          intro ρ' a' w1 L he' hh1 hst1 hlg hd' hn'
          have fin : LeavesInM Fence.wide 0 P fn a'.tmps (fun e w' => ∃ y ρ' L, e = .returned y ∧ VRel ρ' (one l) y ∧ HR ρ' (leave h.nx h.lg (one l) h1) w' ∧ Stepped ρ h.nx L w ρ' (leave h.nx h.lg (one l) h1).nx w' ∧ (leave h.nx h.lg (one l) h1).lg = L ++ h.lg) a'.defers .returning w1 := by
            refine leaves_marks _ _ hd' fun w' hs => ?_
            have hh' : HR ρ' h1 w' := HRel.world hh1 (Nat.le_of_eq hs.size.symm) (fun n p e => hs.keep p.b (.inr ⟨n, p, e, rfl⟩)) fun b o e => hs.keep b (.inl (Array.getElem?_eq_some_iff.1 (hh.fz b o e)).1)
            have hst : Stepped ρ h.nx L w ρ' h1.nx w' := ⟨hst1.le, hst1.old, hst1.new, by rw [hs.size]; exact hst1.size, hs.os.trans hst1.os, hs.tape.trans hst1.tape, hs.output.trans hst1.output, fun b hb hne => (hs.keep b (.inl hb)).trans (hst1.block b hb hne)⟩
            obtain ⟨y, hy, hvr⟩ := results_run (P := P) he' hh' hl
            obtain ⟨ρ'', L', r1, r2, r3, r4⟩ := leave_ok (v := one l) hh (hK _ _ _ _ _ _ _ hrun) hvr hh' hst (by simpa using hlg)
            exact ⟨y, hy, y, ρ'', L', rfl, r1, r2, r3, r4⟩
          rcases hx with rfl | rfl
          · exact fin
          · exact fin
        split at hr
        · rename_i e1 h1 h0; exact body _ e1 h1 (.inl rfl) h0 hr
        · rename_i e1 h1 h0; exact body _ e1 h1 (.inr rfl) h0 hr
        · cases hr
      · cases hr
    · cases hr

theorem bind_rel {ρ : Rho} : ∀ {ps : List Tmp} {xs : List AV} {ys : List Value} {e : T AV} {tm : Array Value}, VRels ρ xs ys → (∀ q ∈ ps, q < tm.size) → (∀ t, VRel ρ ((e.get t).getD (.v undef)) (tm.getD t undef)) →
    (∀ t, VRel ρ (((bindT ps xs e).get t).getD (.v undef)) (((ps.zip ys).foldl (fun t (p, v) => t.setIfInBounds p v) tm).getD t undef)) ∧ ((ps.zip ys).foldl (fun (t : Array Value) (p, v) => t.setIfInBounds p v) tm).size = tm.size
  | [], xs, ys, e, tm, _, _, he => by simp only [bindT, List.zip_nil_left, List.foldl_nil]; exact ⟨he, trivial⟩
  | p :: ps, [], ys, e, tm, hx, _, he => by simp only [VRels] at hx; subst hx; simp only [bindT, List.zip_nil_right, List.foldl_nil]; exact ⟨he, trivial⟩
  | p :: ps, x :: xs, ys, e, tm, ⟨y, r, hy, hxy, hr⟩, hp, he => by
    subst hy
    simp only [bindT, List.zip_cons_cons, List.foldl_cons]
    have hp0 : p < tm.size := hp p (by simp)
    obtain ⟨h1, h2⟩ := bind_rel (ps := ps) (e := T.put (p + 2) e p (some x)) (tm := tm.setIfInBounds p y) hr (fun q hq => by rw [Array.size_setIfInBounds]; exact hp q (by simp [hq])) (fun t => by
      rw [T.get_put]
      by_cases c : t = p
      · subst c
        rw [upd_same]
        simpa [hp0] using hxy
      · rw [upd_ne _ _ c]
        have e1 : (tm.setIfInBounds p y).getD t undef = tm.getD t undef := by
          simp [Array.getElem?_setIfInBounds_ne (Ne.symm c)]
        rw [e1]; exact he t)
    exact ⟨h1, by rw [h2, Array.size_setIfInBounds]⟩

/-- **A round of a loop over a function.** -/
theorem step_yld {S : Sum} {R : Sm} (hR : RunOk P R.run) : YldOk P (stepS P S R).yld := by
  intro n args h b h' hr ρ w ys p m hys hh hp
  simp only [stepS, cond_eq_ite] at hr
  split at hr
  · rename_i e ps asg body ho
    split at hr
    · rename_i hc
      simp only [Bool.and_eq_true, Nat.blt_eq] at hc
      obtain ⟨hlen, hn⟩ := hc
      have hlen := Nat.eq_of_beq_eq_true hlen
      split at hr
      · rename_i e1 h1 hrun1
        split at hr
        · rename_i e2 ps2 asg2 body2 ho1
          split at hr
          · rename_i x e4 h2 hrun2
            split at hr
            · rename_i e3 ps3 asg3 body3 ho2
              obtain ⟨p0, fn, tmps, D, N, hp0, hheap, hE, hN, hasg, hbody, hps, _⟩ := set_loop hh hn ho
              obtain rfl : p0 = p := by rw [hp] at hp0; cases hp0; rfl
              have hl : ys.size = (lrec fn tmps ps asg body D .ready none).params.size := by
                have := hys.length
                simp only [Array.length_toList] at this
                simp [lrec, this, hlen]
              refine ⟨fn, _, asg, body, run_yield (P := P) (args := ys) hheap hl, roundIn_of_wpIn trivial ?_⟩
              obtain ⟨b1, b2⟩ := bind_rel (e := e) (tm := tmps) hys (fun q hq => Nat.lt_of_lt_of_le (hps q hq) hN) hE
              have hz : ((lrec fn tmps ps asg body D .ready none).params.zip ys).foldl (fun (t : Array Value) (p, v) => t.setIfInBounds p v) (lrec fn tmps ps asg body D .ready none).tmps = (ps.zip ys.toList).foldl (fun (t : Array Value) (p, v) => t.setIfInBounds p v) tmps := by
                rw [← Array.foldl_toList, Array.toList_zip]; rfl
              rw [hz]
              have hat0 : At ρ (bindT ps args e) h { tmps := (ps.zip ys.toList).foldl (fun (t : Array Value) (p, v) => t.setIfInBounds p v) tmps, defers := [] } w N w.heap.size := ⟨b1, hh, trivial, by rw [b2]; exact hN, Nat.le_refl _⟩
              refine hR true asg _ h _ _ _ hrun1 N hasg w.heap.size ρ _ w _ hat0 (.on (Nat.le_refl _) fun ρ1 a1 w1 L1 hat1 hst1 hlg1 => ?_) (some p0.b) m (fun _ => rfl)
              have hn1 : n < h1.nx := Nat.lt_of_lt_of_le hn hst1.le
              obtain ⟨p1, fn1, tmps1, D1, N1, hp1, hheap1, _, _, _, _, _, hset1⟩ := set_loop hat1.h hn1 ho1
              obtain rfl : p1 = p0 := by rw [hst1.old n hn, hp] at hp1; cases hp1; rfl
              obtain ⟨k1, k2⟩ := hset1 .busy none
              refine ⟨_, run_beginRound hheap1 rfl, ?_⟩
              refine hR true body e1 _ _ _ _ hrun2 N hbody w.heap.size ρ1 a1 _ _ ⟨hat1.e, k1, hat1.d.step k2, hat1.n, Nat.le_trans hat1.b k2.size⟩ (fun ρ2 a2 w2 L2 he2 hh2 hst2 hlg2 _ _ => ?_) (some p1.b) m (fun _ => rfl)
              have hn2 : n < h2.nx := Nat.lt_of_lt_of_le (Nat.lt_of_lt_of_le hn1 k2.le) hst2.le
              obtain ⟨p2, fn2, tmps2, D2, N2, hp2, hheap2, _, _, _, _, _, hset2⟩ := set_loop hh2 hn2 ho2
              obtain rfl : p2 = p1 := by rw [hst2.old n (Nat.lt_of_lt_of_le hn1 k2.le), hp1] at hp2; cases hp2; rfl
              have fin : ∀ (pe : Option Ex) (b : Bool) (h' : Hp), (b, h') = (pe.isNone, h2.set n (.loop (if pe.isNone then .ready else .done) e3 ps3 asg3 body3 pe)) →
                  ∃ v w', (Instr.endRound p2.b (pe.map exC)).run P w2 = .ok v w' ∧ ∃ ρ' L, Ending.returned v = .returned (.bool b) ∧ HR ρ' h' w' ∧ Stepped ρ h.nx L w ρ' h'.nx w' ∧ h'.lg = L ++ h.lg := by
                intro pe b h' hbh
                cases hbh
                obtain ⟨k3, k4⟩ := hset2 (if pe.isNone then .ready else .done) pe
                have hk4 := hst1.trans (k2.trans (hst2.trans k4))
                refine ⟨_, _, run_endRound (P := P) (pe.map exC) hheap2, ρ2, _, by cases pe <;> rfl, by cases pe <;> exact k3, by cases pe <;> exact hk4, ?_⟩
                · show n :: h2.lg = _
                  have : h2.lg = L2 ++ n :: h1.lg := hlg2
                  rw [this, hlg1]; simp
              cases x with
              | normal => cases hr; exact fin none _ _ rfl
              | exit id => cases hr; exact fin (some (.exit id)) _ _ rfl
              | goto l => cases hr; exact fin (some (.goto l)) _ _ rfl
              | ret => cases hr; exact fin (some .ret) _ _ rfl
            · cases hr
          · cases hr
        · cases hr
      · cases hr
    · cases hr
  · cases hr

theorem sm_ok {S : Sum} (hmix : P.follows .mixedOrders = true) (hP : P.funcs.all okFunc = true) (hS : SumOk P S) (hK : SumKL S) : ∀ n, RunOk P (sm P S n).run ∧ LoopOk P n (sm P S n).run ∧ ScpOk P n (sm P S n).scp ∧ SumOk P (sm P S n).call ∧ YldOk P (sm P S n).yld
  | 0 => ⟨fun _ _ _ _ _ _ _ h => by simp [sm] at h, fun _ _ _ _ _ _ _ h => by simp [sm] at h, fun _ _ _ _ _ _ _ _ h => by simp [sm] at h, fun _ _ _ _ _ h => by simp [sm] at h, fun _ _ _ _ _ h => by simp [sm] at h⟩
  | n + 1 => by
    obtain ⟨h1, h2, h3, h4, h5⟩ := sm_ok hmix hP hS hK n
    obtain ⟨r1, r2⟩ := step_run (S := S) hmix (sm_kl hK n).2.2.1 h1 h2 h3 h4 h5
    exact ⟨r1, r2, step_scp h1 h3, step_call hP hS h1 (sm_kl hK n).1, step_yld h1⟩

/-- What is to be known of a program and of the summaries. -/
structure Good (P : Program) (S : Sum) : Prop where
  mix : P.follows .mixedOrders = true
  ok : P.funcs.all okFunc = true
  sum : SumOk P S
  kl : SumKL S

/-- The empty heap stands wherever what is frozen stands. -/
theorem HR.start {w : World} (nx : Nat) (lg : List Nat) (hf : ∀ b o, Fz.m b = some o → w.heap[b]? = some o) (hop : Fz.gc = false → openB ≤ nx) : HR (fun _ => none) ⟨.leaf, nx, lg⟩ w :=
  ⟨fun n p e => (by cases e), fun n o e => (by simp [T.get] at e), fun n m p q o o' _ e => (by cases e), fun n m p q o o' e => (by cases e), fun n m p q o o' _ e => (by cases e), hf, fun n p e => (by cases e), hop⟩

/-- **A call over plain arguments that comes to a plain value**: new memory alone is made. -/
theorem calls_plain {S : Sum} (G : Good P S) (hnof : ∀ b, Fz.m b = none) (hgc : Fz.gc = true) {f : FuncId} {args : List AV} {xs : List Value} {v : Value} {h' : Hp} (n : Nat) (hp : plains args = some xs) (hr : (sm P S n).call f args ⟨.leaf, 0, []⟩ = some (.v v, h')) (w : World) :
    Calls P f xs.toArray w fun e w' => e = .returned v ∧ Fr noB w w' := by
  obtain ⟨_, _, _, h4, _⟩ := sm_ok G.mix G.ok G.sum G.kl n
  have hrel : ∀ {args : List AV} {xs : List Value}, plains args = some xs → VRels (fun _ => none) args xs := by
    intro args
    induction args with
    | nil => intro xs h; simp only [plains] at h; cases h; rfl
    | cons x r ih =>
      intro xs h
      simp only [plains] at h
      split at h
      · rename_i a b ha hb
        cases h
        refine ⟨a, b, rfl, ?_, ih hb⟩
        cases x <;> simp only [AV.plain?] at ha
        case v => cases ha; rfl
        case fn fid cs =>
          cases cs with
          | nil => cases ha; exact ⟨#[], rfl, rfl⟩
          | cons => simp at ha
        all_goals simp at ha
      · cases h
  refine ((h4 f args _ _ h' hr).2 _ w xs.toArray (by simpa using hrel hp) (HR.start 0 [] (fun b o e => by rw [hnof] at e; cases e) (fun e => by rw [hgc] at e; cases e))).mono ?_
  rintro e w' ⟨y, ρ', L, rfl, hy, hh, hst, hlg⟩
  refine ⟨by rw [hy], hst.os, hst.tape, hst.output, hst.size, fun b hb _ => hst.block b hb fun n p _ hn => absurd hn (Nat.not_lt_zero _)⟩

end Ev
end Go.Proofs.Ytengccmjlaejfaa
end
