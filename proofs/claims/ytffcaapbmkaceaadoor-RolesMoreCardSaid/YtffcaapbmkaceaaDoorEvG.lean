/- Regions that draw their order: the theorem. No condition. -/
import Derived.Test.YtffcaapbmkaceaaDoorEvF
namespace Go.Proofs.YtffcaapbmkaceaaDoor
namespace Ev
open Go.RowKit
set_option linter.unusedSectionVars false
variable [Fz]
variable {P : Program} {call : Sum} {ops : Array Oper} {e0 : T AV} {h0 : Hp} {D : Nat → DRec} {W : Nat → Option Nat}
variable {S : Nat → Bool} {ρ0 ρ : Rho} {w0 w : World} {a : Act} {N : Nat} {ds : List Deferred}

theorem Inv.sub0 (I : Inv ops e0 h0 D W S ρ0 ρ w0 w a N ds) : Sub ρ0 ρ := fun n p e => by rw [I.old n (I.dom0 n p e)]; exact e

/-- What an operation looks at among the temporaries. -/
theorem Inv.tmp (F : DrawF P call ops e0 h0 D W) (I : Inv ops e0 h0 D W S ρ0 ρ w0 w a N ds) {i : Nat} {o : Oper} (ho : ops[i]? = some o) (hS : S i = false) (hp : ∀ j, (msk (bsO ops) i).testBit j = true → S j = true) {t : Nat} (ht : t ∈ o.looksAt ops) :
    VRel (cut ρ (X D h0 i)) ((envR D W e0 t i).getD (.v undef)) (a.tmps.getD t undef) := by
  have hi := (Array.getElem?_eq_some_iff.1 ho).1
  have hX0 : h0.nx ≤ X D h0 i := F.mono (i := 0) (j := i) (by omega) (by omega)
  have sub0 : Sub ρ0 (cut ρ (X D h0 i)) := fun n p e => by
    have := I.dom0 n p e
    rw [cut_lt (by omega)]; exact I.sub0 n p e
  unfold envR
  cases hW : W t with
  | none => exact (I.env0 t (fun j hj => by rw [hW] at hj; cases hj)).mono sub0
  | some j =>
    simp only []
    have base : S j = false → VRel (cut ρ (X D h0 i)) ((e0.get t).getD (.v undef)) (a.tmps.getD t undef) := fun hj => (I.env0 t (fun j' hj' => by rw [hW] at hj'; cases hj'; exact hj)).mono sub0
    rcases F.ok.looks i o t j ho ht hW with c | c
    · subst c
      rw [if_neg (Nat.lt_irrefl _)]
      exact base hS
    · unfold ordered at c
      simp only [Bool.or_eq_true] at c
      rcases c with c | c
      · have hji := mk_lt F.ok.back c
        rw [if_pos hji]
        exact (I.envS t j hW (hp j c)).mono (cut_sub ρ (F.mono (by omega) (by omega)))
      · have hij := mk_lt F.ok.back c
        rw [if_neg (by omega)]
        refine base ?_
        cases hSj : S j with
        | false => rfl
        | true => have := I.closed j i hSj c; rw [hS] at this; cases this

theorem bool_rel {r : Rho} {x : AV} {y : Value} (h : VRel r x y) : (match some x with | some (.v (.bool b)) => some b | some (.s (.bool b)) => some b | _ => none) = (match some y with | some (.bool b) => some b | _ => none : Option Bool) := by
  cases x with
  | v z => cases h; cases y <;> rfl
  | s z => cases h; cases y <;> rfl
  | ptr => obtain ⟨p, hp, rfl⟩ := h; rfl
  | sl => obtain ⟨p, k, hp, rfl, _⟩ := h; rfl
  | none0 => obtain ⟨q, k, rfl, _⟩ := h; rfl
  | mp => obtain ⟨p, hp, rfl⟩ := h; rfl
  | fn => obtain ⟨ys, rfl, _⟩ := h; rfl
  | agg => obtain ⟨ys, rfl, _⟩ := h; rfl
  | tup => obtain ⟨ys, rfl, _⟩ := h; rfl
  | yld => obtain ⟨p, hp, rfl⟩ := h; rfl
  | osl => rcases h with ⟨_, ⟨_, q, rfl⟩ | ⟨p, k, hp, rfl, _⟩⟩ <;> rfl
  | fz => obtain ⟨_, h⟩ := h; unfold FzRel at h; rcases h with ⟨_, q, k, rfl, _⟩ | ⟨b, o, k, C, e', fr, rfl, _⟩ <;> rfl
  | fzp => obtain ⟨_, b, o, _, _, rfl⟩ := h; rfl
  | z0 => obtain ⟨q, rfl⟩ := h; rfl

theorem Inv.op {ro : Option Nat} {mr : Nat} (F : DrawF P call ops e0 h0 D W) (hok : okOps N ops = true) (I : Inv ops e0 h0 D W S ρ0 ρ w0 w a N ds) {i : Nat} {o : Oper} (ho : ops[i]? = some o) (hS : S i = false) (hp : ∀ j, (msk (bsO ops) i).testBit j = true → S j = true) {Q : Exit → Act → World → Prop} {K : Act → World → Prop}
    (hK : ∀ ρ' a' w', Inv ops e0 h0 D W (addS S i) ρ0 ρ' w0 w' a' N ds → K a' w') : wpOpIn (FR ro) mr P ops Q i K a w := by
  have hi := (Array.getElem?_eq_some_iff.1 ho).1
  have hdst : ∀ x, o.dst = some x → x < a.tmps.size := fun x hx => Nat.lt_of_lt_of_le (okOps_lt hok ho x hx) I.n
  obtain ⟨e, ens, hd, he, hens⟩ := F.one i o ho
  have hwant : Region.wanted o (yieldedA ops e) = Region.wanted o (yielded ops a.tmps) := by
    unfold Region.wanted
    cases hg : o.guard with
    | none => rfl
    | some g =>
      obtain ⟨j, want⟩ := g
      simp only []
      congr 1
      unfold yieldedA yielded
      cases hj : (ops[j]?).bind (·.dst) with
      | none => simp
      | some d =>
        simp only [Option.bind_some]
        have hlk : d ∈ o.looksAt ops := by unfold Oper.looksAt; rw [hg]; simp [hj]
        have hr := I.tmp F ho hS hp hlk
        have hlt : d < a.tmps.size := by
          cases hoj : ops[j]? with
          | none => simp [hoj] at hj
          | some oj => simp [hoj] at hj; exact Nat.lt_of_lt_of_le (okOps_lt hok hoj d hj) I.n
        have e1 : a.tmps[d]? = some (a.tmps.getD d undef) := by simp [hlt]
        rw [e1]
        have := bool_rel hr
        rw [he d]
        cases hen : envR D W e0 d i with
        | none => rw [hen] at this; exact this
        | some x => rw [hen] at this; exact this
  unfold wpOpIn
  simp only [ho]
  unfold drawOne at hd
  rw [cond_eq_ite] at hd
  cases hw : Region.wanted o (yielded ops a.tmps) with
  | false =>
    rw [hwant, hw] at hd
    simp only [Bool.false_eq_true, if_false, Option.some.injEq] at hd
    simp only [Bool.false_eq_true, if_false]
    have hv : (D i).v = .v undef := by rw [← hd]
    have hhi : X D h0 (i + 1) = X D h0 i := by show (D i).hi = _; rw [← hd]
    have hen : (D i).en = [] := by rw [← hd]
    have hwr : (D i).wr = [] := by rw [← hd]
    refine ⟨fun _ _ => FR_fn _ _, ?_⟩
    refine hK _ _ _ (I.add F ho hS hp (ρ' := cut ρ (X D h0 i)) (w' := w) (L := []) (g' := fun _ => none) (y := undef) (by rw [hv]; rfl) ?_ ?_ (fun n => ?_) (fun n hn => by simp at hn) (fun n hn => by rw [hwr] at hn; simp at hn) (.inl fun n hn => by rw [hwr] at hn; simp at hn) hdst)
    · rw [hhi]; exact .refl fun n p e => (cut_some e).2
    · rw [hhi]
      exact ⟨fun n p e => ⟨(cut_some e).2, (I.dom n p (cut_some e).1).1⟩, fun n o' e => (by cases e), fun n m p q o1 o2 _ _ _ _ e _ => (by cases e), fun n m p q o1 o2 _ _ _ e _ _ => (by cases e), fun n m p q o1 o2 _ _ _ _ e _ _ => (by cases e), I.fz, fun n p e => I.nf n p (cut_some e).1, fun e => Nat.le_trans (I.opn e) (F.mono (i := 0) (j := i) (by omega) (by omega))⟩
    · rw [hen, if_neg]
      · rfl
      · rw [hwr]
        rintro (x | x)
        · unfold mine at x
          have : nxR D h0.nx (i + 1) = nxR D h0.nx i := hhi
          omega
        · simp at x
  | true =>
    rw [hwant, hw] at hd
    simp only [if_true] at hd
    simp only [if_true]
    refine ⟨fun _ _ => FR_fn _ _, ?_⟩
    generalize hvv : viewD (opnd e) o (msk (bsO ops) i) h0 ens = vv at hd
    generalize hob : obOf (msk (bsO ops) i) h0 (nxR D h0.nx i) ens vv = ob at hd
    have hX0 : h0.nx ≤ X D h0 i := F.mono (i := 0) (j := i) (by omega) (by omega)
    have hvw : (D i).vw = vv := by
      split at hd
      · rename_i v h' ha; exact (finishR_ok (aop_kl ha).1 hd).2.2.2.1
      · rename_i f args h' ha
        split at hd
        · rename_i v h'' hc
          have e := aop_call_h ha
          subst e
          exact (finishR_ok (F.kl _ _ _ _ _ hc).1 hd).2.2.2.1
        · cases hd
      · cases hd
    -- what it sees
    have hg : ∀ n o', ob.get n = some o' → n < X D h0 i → (∀ l, (D i).vw = some l → n ∈ l) ∧ entR D (fun j => (msk (bsO ops) i).testBit j) n (baseAt h0 n) i = some o' := fun n o' hn hlt => by
      rw [hvw]
      cases vv with
      | none =>
        simp only [obOf] at hob
        refine ⟨fun l hl => (by cases hl), ?_⟩
        rw [← hob, get_viewAll, get_clearFrom, hens] at hn
        have : (if h0.nx ≤ n ∧ n < h0.nx + (nxR D h0.nx i - h0.nx) then none else h0.ob.get n) = baseAt h0 n := by
          by_cases c : n < h0.nx
          · rw [if_neg (by omega), baseAt_lt c]
          · rw [if_pos (by unfold X at hlt hX0; omega), baseAt_ge (by omega)]
        rw [this] at hn
        exact hn
      | some l =>
        simp only [obOf] at hob
        rw [← hob, get_viewL, hens] at hn
        split at hn
        · rename_i hmem; exact ⟨fun l' hl' => (by cases hl'; exact hmem), hn⟩
        · cases hn
    have hview := I.view F hi hS hp hg
    have hH : HR (cut ρ (X D h0 i)) ⟨ob, X D h0 i, []⟩ w := hview
    -- what it looks at
    let f' : Operand → AV := fun x => match x with
      | .tmp t => if t ∈ o.looksAt ops then opnd e (.tmp t) else .v (a.eval (.tmp t))
      | x => opnd e x
    have hf' : ∀ x, VRel (cut ρ (X D h0 i)) (f' x) (a.eval x) := fun x => by
      cases x with
      | tmp t =>
        show VRel _ (if t ∈ o.looksAt ops then opnd e (.tmp t) else .v (a.eval (.tmp t))) _
        by_cases c : t ∈ o.looksAt ops
        · rw [if_pos c]
          have := I.tmp F ho hS hp c
          rw [← he t] at this
          exact this
        · rw [if_neg c]; rfl
      | const v => rfl
      | global g => rfl
      | func f => exact ⟨#[], rfl, rfl⟩
    have hcg : ∀ x ∈ o.op.operands, opnd e x = f' x := fun x hx => by
      cases x with
      | tmp t =>
        show _ = (if t ∈ o.looksAt ops then opnd e (.tmp t) else .v (a.eval (.tmp t)))
        rw [if_pos]
        unfold Oper.looksAt
        simp only [List.mem_append, List.mem_filterMap]
        exact .inl ⟨.tmp t, by simpa using hx, rfl⟩
      | _ => rfl
    rw [aop_congr hcg] at hd
    -- what comes of it
    have done : ∀ (ρ' : Rho) (w' : World) (v : AV) (y : Value) (L : List Nat) (h' : Hp), nxR D h0.nx i ≤ h'.nx → finishR vv ob (nxR D h0.nx i) v h' = some (D i) → VRel ρ' v y → HR ρ' h' w' → Stepped (cut ρ (X D h0 i)) (X D h0 i) L w ρ' h'.nx w' → h'.lg = L → K (a.put o.dst y) w' := by
      intro ρ' w' v y L h' hle hfin hv hh hst hlg
      obtain ⟨r1, r2, r3, r4, r5⟩ := finishR_ok hle hfin
      have hX1 : X D h0 (i + 1) = h'.nx := r3
      refine hK _ _ _ (I.add F ho hS hp (g' := h'.ob.get) (by rw [r2]; exact hv) (by rw [hX1]; exact hst) (by rw [hX1]; exact hh) (fun n => ?_) (fun n hn hlt => ?_) (fun n hn => ?_) ?_ hdst)
      · rw [r1.look]
        unfold mine
        rfl
      · exact r5 n (by rw [hlg]; exact hn) hlt
      · have hlt := r1.wlt n hn
        have hsome : ∃ o1, ob.get n = some o1 := by
          rcases r1.wsh with s2 | ⟨_, _, s2, _⟩
          · cases hx : ob.get n with
            | none => have := s2 n hn; rw [hx] at this; simp [unshared] at this
            | some o1 => exact ⟨o1, rfl⟩
          · exact Option.isSome_iff_exists.1 (s2 n hn)
        obtain ⟨o1, ho1⟩ := hsome
        obtain ⟨g1, g2⟩ := hg n o1 ho1 hlt
        obtain ⟨c1, c2, c3⟩ := I.seen F hi hS hp hlt g1 g2
        exact ⟨hlt, c2, by rw [c1]; rfl, c3⟩
      · rcases r1.wsh with s2 | ⟨sb, sv, s2, s3⟩
        · refine .inl fun n hn => ?_
          have hlt := r1.wlt n hn
          cases hx : ob.get n with
          | none => have := s2 n hn; rw [hx] at this; simp [unshared] at this
          | some o1 =>
            obtain ⟨g1, g2⟩ := hg n o1 hx hlt
            obtain ⟨c1, c2, c3⟩ := I.seen F hi hS hp hlt g1 g2
            rw [c1, ← hx]; exact s2 n hn
        · by_cases hnil : (D i).wr = []
          · exact .inl fun n hn => by rw [hnil] at hn; simp at hn
          refine .inr fun m q o' hq hc hsh => ?_
          -- who stands neither ahead of it nor behind has done nothing
          have idle : ∀ k, S k = true → (msk (bsO ops) i).testBit k = false → (D k).wr = [] ∧ (D k).lo = (D k).hi := fun k hk hm => by
            have hkn := I.lt k hk
            have hki : k ≠ i := fun c => by subst c; rw [hS] at hk; cases hk
            have hord : ordered (bsO ops) k i = false := by
              unfold ordered
              rw [hm, Bool.or_false]
              cases hb : (msk (bsO ops) k).testBit i with
              | false => rfl
              | true => have := I.closed k i hk hb; rw [hS] at this; cases this
            rcases F.clear k i hkn hi hki hord with x | x
            · exact absurd x.1 hnil
            · exact x.2 sb
          have noen : ∀ k, S k = true → (msk (bsO ops) i).testBit k = false → ∀ n, ¬ mine D h0.nx n k ∧ lookE n (D k).en = none := fun k hk hm n => by
            obtain ⟨x1, x2⟩ := idle k hk hm
            have hkn := I.lt k hk
            have h1 : ¬ mine D h0.nx n k := fun h => by
              unfold mine at h
              have e1 := F.lo hkn
              have e2 : nxR D h0.nx (k + 1) = (D k).hi := rfl
              omega
            refine ⟨h1, ?_⟩
            cases hl : lookE n (D k).en with
            | none => rfl
            | some z =>
              rcases (F.look hkn).1 (by rw [hl]; rfl) with y | y
              · exact absurd y h1
              · rw [x1] at y; simp at y
          have hmd := (I.dom m q hq).2
          have hlt : m < X D h0 i := by
            rcases hmd with x | ⟨j, x1, x2⟩
            · exact Nat.lt_of_lt_of_le x hX0
            · have hj : (msk (bsO ops) i).testBit j = true := by
                cases hb : (msk (bsO ops) i).testBit j with
                | true => rfl
                | false => exact absurd x2 (noen j x1 hb m).1
              exact Nat.lt_of_lt_of_le x2.2 (F.mono (mk_lt F.ok.back hj) (by omega))
          refine s3 m hlt ?_
          have hvn : vv = none := hvw.symm.trans sv
          rw [hvn] at hob
          simp only [obOf] at hob
          rw [← hob, get_viewAll, get_clearFrom, hens]
          have hbase : (if h0.nx ≤ m ∧ m < h0.nx + (nxR D h0.nx i - h0.nx) then none else h0.ob.get m) = baseAt h0 m := by
            by_cases c : m < h0.nx
            · rw [if_neg (by omega), baseAt_lt c]
            · rw [if_pos (by unfold X at hlt hX0; omega), baseAt_ge (by omega)]
          rw [hbase]
          have : entR D (fun j => (msk (bsO ops) i).testBit j) m (baseAt h0 m) i = cont D h0 ops S m := by
            unfold cont
            refine entR_congr fun k => ?_
            constructor
            · rintro ⟨h1, h2, h3⟩; exact ⟨by omega, hp k h2, h3⟩
            · rintro ⟨h1, h2, h3⟩
              have hk : (msk (bsO ops) i).testBit k = true := by
                cases hb : (msk (bsO ops) i).testBit k with
                | true => rfl
                | false => rw [(noen k h2 hb m).2] at h3; cases h3
              exact ⟨mk_lt F.ok.back hk, hk, h3⟩
          rw [this, hc]
          cases o' with
          | cells cs sz f t sh => exact hsh
          | map => cases hsh
          | loop => cases hsh
          | rows => cases hsh
    split at hd
    · rename_i v h' ha
      rw [semFR (aop_nd ha)]
      obtain ⟨ρ', w', y, L, hrun, h1, h2, h3, h4⟩ := aop_val (P := P) (w := w) hH hf' ha
      have hk := done ρ' w' v y L h' (aop_kl ha).1 hd h1 h2 h3 (by simpa using h4)
      rcases hrun with hrun | ⟨hrun, rfl⟩
      · have hrun : (execOp a.eval o).run P w = .ok (.value y) w' := hrun
        rw [hrun]; exact hk
      · have hrun : (execOp a.eval o).run P w = .ok .skip w' := hrun
        rw [hrun]; exact hk
    · rename_i f args h' ha
      split at hd
      · rename_i v h'' hc
        obtain ⟨e1, ys, hys, hrun⟩ := aop_call (P := P) hf' ha
        subst e1
        obtain ⟨hent, hck⟩ := F.sum _ _ _ _ _ hc
        rw [semFR (aop_nd ha), hrun w, hent.run ys w]
        refine ⟨fun h => (by rw [FR_depth] at h; cases h), callsFR ((hck _ w ys hys hH).mono ?_)⟩
        rintro en w1 ⟨y, ρ1, L, rfl, hv, hh1, hst, hlg⟩
        exact done ρ1 w1 v y L h'' (F.kl _ _ _ _ _ hc).1 hd hv hh1 hst (by simpa using hlg)
      · cases hd
    · cases hd

/- How many are left. -/
def left (n : Nat) (S : Nat → Bool) : Nat := ((List.range n).filter fun i => !S i).length
theorem filter_lt {α : Type} {p q : α → Bool} (h : ∀ x, q x = true → p x = true) : ∀ {l : List α} {x : α}, x ∈ l → p x = true → q x = false → (l.filter q).length < (l.filter p).length
  | [], _, hx, _, _ => by simp at hx
  | y :: r, x, hx, hp, hq => by
    have le : ∀ (l : List α), (l.filter q).length ≤ (l.filter p).length := fun l => by
      induction l with
      | nil => simp
      | cons z l ih =>
        simp only [List.filter_cons]
        cases hqz : q z with
        | true => simp [h z hqz, ih]
        | false => cases p z <;> simp <;> omega
    rcases List.mem_cons.1 hx with rfl | hx
    · simp only [List.filter_cons, hp, hq, if_true]
      have := le r
      simp; omega
    · have ih := filter_lt h hx hp hq
      simp only [List.filter_cons]
      cases hqz : q y with
      | true => simp [h y hqz, ih]
      | false => cases p y <;> simp <;> omega

theorem Inv.all {ro : Option Nat} {mr : Nat} (F : DrawF P call ops e0 h0 D W) (hok : okOps N ops = true) {Q : Exit → Act → World → Prop} (hQ : ∀ ρ' a' w' S', (∀ i, i < ops.size → S' i = true) → Inv ops e0 h0 D W S' ρ0 ρ' w0 w' a' N ds → Q .normal a' w') :
    ∀ (fuel : Nat) (listed : Array Bool) (ρ : Rho) (a : Act) (w : World), listed.size = ops.size → Inv ops e0 h0 D W (fun i => listed.getD i false) ρ0 ρ w0 w a N ds → left ops.size (fun i => listed.getD i false) ≤ fuel → wpAnyIn (FR ro) mr P .any ops Q fuel listed a w := by
  have full : ∀ (listed : Array Bool) (ρ : Rho) (a : Act) (w : World), listed.size = ops.size → Inv ops e0 h0 D W (fun i => listed.getD i false) ρ0 ρ w0 w a N ds → Region.ready .any ops listed = [] → Q .normal a w := by
    intro listed ρ a w hsz I hr
    refine hQ ρ a w _ (fun i => ?_) I
    induction i using Nat.strongRecOn with
    | _ i ih =>
      intro hi
      cases hl : listed.getD i false with
      | true => rfl
      | false =>
        exfalso
        have : i ∈ Region.ready .any ops listed := by
          refine mem_ready.2 ⟨?_, ops[i], by simp [hi], fun e he hb => ?_⟩
          · have hlt : i < listed.size := by omega
            simp only [Array.getD_eq_getD_getElem?, Array.getElem?_eq_getElem hlt, Option.getD_some] at hl ⊢
            exact hl
          · have hlt := F.ok.back i ops[i] (by simp [hi]) e he hb
            exact ih e.on hlt (by omega)
        rw [hr] at this
        cases this
  intro fuel
  induction fuel with
  | zero =>
    intro listed ρ a w hsz I hf
    have hr : Region.ready .any ops listed = [] := by
      rw [List.eq_nil_iff_forall_not_mem]
      intro j hj
      obtain ⟨h1, o, ho, _⟩ := mem_ready.1 hj
      have hj' := (Array.getElem?_eq_some_iff.1 ho).1
      unfold left at hf
      have : (List.range ops.size).filter (fun i => !listed.getD i false) = [] := List.eq_nil_of_length_eq_zero (Nat.le_zero.1 hf)
      rw [List.filter_eq_nil_iff] at this
      have := this j (by simpa using hj')
      have hlt : j < listed.size := by omega
      simp only [Array.getD_eq_getD_getElem?, Array.getElem?_eq_getElem hlt, Option.getD_some] at h1 this
      rw [h1] at this
      simp at this
    exact ⟨hr, full listed ρ a w hsz I hr⟩
  | succ fuel ih =>
    intro listed ρ a w hsz I hf
    refine ⟨full listed ρ a w hsz I, fun i hi => ?_⟩
    obtain ⟨h1, o, ho, hedge⟩ := mem_ready.1 hi
    have hi' := (Array.getElem?_eq_some_iff.1 ho).1
    have hlt : i < listed.size := by omega
    have hSi : listed.getD i false = false := by
      simp only [Array.getD_eq_getD_getElem?, Array.getElem?_eq_getElem hlt, Option.getD_some] at h1 ⊢
      exact h1
    have hset : (fun k => (listed.setIfInBounds i true).getD k false) = addS (fun k => listed.getD k false) i := by
      funext k
      unfold addS
      simp only [Array.getD_eq_getD_getElem?, Array.getElem?_setIfInBounds]
      by_cases c : i = k
      · subst c; simp [hlt]
      · simp [c, Ne.symm c]
    refine I.op F hok ho hSi (fun j hj => ?_) fun ρ' a' w' I' => ?_
    · obtain ⟨e, he, hb, h⟩ := (mk_iff F.ok.back ho j).1 hj
      have hon := hedge e he hb
      rcases h with rfl | h
      · exact hon
      · exact I.closed e.on j hon h
    · refine ih _ ρ' a' w' (by simpa using hsz) (by rw [hset]; exact I') ?_
      rw [hset]
      have := filter_lt (p := fun k => !listed.getD k false) (q := fun k => !addS (fun k => listed.getD k false) i k) (l := List.range ops.size) (x := i) (fun x hx => by unfold addS at hx; simp at hx ⊢; exact hx.2) (by simpa using hi') (by simp [hSi]) (by simp [addS])
      exact Nat.le_of_lt_succ (Nat.lt_of_lt_of_le this hf)

theorem entR_base {D : Nat → DRec} {m : Nat → Bool} {n : Nat} {b b' : Option AO} {N : Nat} (h : ∃ k, k < N ∧ m k = true ∧ (lookE n (D k).en).isSome = true) : entR D m n b N = entR D m n b' N := by
  obtain ⟨k, h1, h2, h3⟩ := h
  rcases entR_find D m n b N with ⟨_, h4⟩ | ⟨i, o, a1, a2, a3, a4, a5⟩
  · rw [h4 k h1 h2] at h3; cases h3
  · rcases entR_find D m n b' N with ⟨_, h4⟩ | ⟨i', o', b1, b2, b3, b4, b5⟩
    · rw [h4 k h1 h2] at h3; cases h3
    · have : i = i' := by
        rcases Nat.lt_trichotomy i i' with c | c | c
        · have := a5 i' c b1 b2; rw [this] at b3; cases b3
        · exact c
        · have := b5 i c a1 a2; rw [this] at a3; cases a3
      subst this
      rw [a3] at b3; cases b3
      rw [a4, b4]

theorem mem_wrs : ∀ {ds : List DRec} {n : Nat}, n ∈ wrs ds ↔ ∃ (j : Nat) (d : DRec), ds[j]? = some d ∧ n ∈ d.wr
  | [], n => by simp [wrs]
  | d :: r, n => by
    simp only [wrs, List.mem_append]
    rw [mem_wrs]
    constructor
    · rintro (h | ⟨j, d', h1, h2⟩)
      · exact ⟨0, d, rfl, h⟩
      · exact ⟨j + 1, d', by simpa using h1, h2⟩
    · rintro ⟨j, d', h1, h2⟩
      cases j with
      | zero => simp at h1; subst h1; exact .inl h2
      | succ j => exact .inr ⟨j, d', by simpa using h1, h2⟩

/-- **A region that draws its order**. -/
theorem drawn_any {ro : Option Nat} {mr B : Nat} (hc : SumOk P call) (hk : SumKL call) {n : Nat} (hok : okOps n ops = true) {e e' : T AV} {h h' : Hp} (hd : drawn P call ops e h = some (e', h')) {ρ : Rho} {a : Act} {w : World} {Q : Exit → Act → World → Prop}
    (he : ERel ρ e a) (hh : HR ρ h w) (hdf : Marks B ρ w a.defers) (hn : n ≤ a.tmps.size) (hQ : After Q ρ h w n B .normal e' h') : wpAnyIn (FR ro) mr P .any ops Q ops.size (Array.replicate ops.size false) a { w with drawn := w.drawn + 1 } := by
  unfold drawn at hd
  simp only [cond_eq_ite] at hd
  split at hd
  · rename_i hdr
    split at hd
    · rename_i ds e1 nx1 ens1 hg
      split at hd
      · rename_i hcl
        injection hd with hd
        injection hd with hd1 hd2
        subst hd1
        obtain ⟨W, hW⟩ := drawOk_spec hdr
        let D : Nat → DRec := fun k => ds.getD k default
        have hD : ∀ (k : Nat) d, ds[k]? = some d → D (0 + k) = d := fun k d hk => by show ds.getD (0 + k) default = d; simp [hk]
        obtain ⟨l1, l2, l3, l4, l5⟩ := drawGo_spec (D := D) (W := W) (e0 := e) (h0 := h) hW.w ops.toList 0 e h.nx [] ds e1 nx1 ens1 (by simp) (Nat.zero_le _) hg hD (fun t => by unfold envR; cases W t <;> simp) rfl (fun m n b => rfl)
        have hDs : ∀ k, k < ops.size → ds[k]? = some (D k) := fun k hk' => by
          have : k < ds.length := by rw [l1]; simpa using hk'
          show ds[k]? = some (ds.getD k default)
          simp [this]
        have F : DrawF P call ops e h D W := ⟨hW, hk, hc, fun k o ho => l5 k o (Nat.zero_le _) ho, fun i j hi hj hij hor => by
          rcases clearAll_spec ds 0 hcl j (D j) (hDs j hj) with x | x
          · exact .inl x
          · rw [Nat.zero_add] at x
            rcases clearOf_spec ds 0 x i (D i) (hDs i hi) with y | y | y
            · omega
            · rw [Nat.zero_add] at y; rw [y] at hor; cases hor
            · rw [Nat.zero_add] at y; exact .inr ⟨Clear1.of hDs y.1, y.2⟩⟩
        have I0 : Inv ops e h D W (fun i => (Array.replicate ops.size false).getD i false) ρ ρ w { w with drawn := w.drawn + 1 } a n a.defers := by
          have hno : ∀ i, (Array.replicate ops.size false).getD i false = false := fun i => by
            simp only [Array.getD_eq_getD_getElem?, Array.getElem?_replicate]
            split <;> rfl
          have hcont : ∀ k, cont D h ops (fun i => (Array.replicate ops.size false).getD i false) k = baseAt h k := fun k => by
            unfold cont
            rcases entR_find D (fun i => (Array.replicate ops.size false).getD i false) k (baseAt h k) ops.size with ⟨h1, _⟩ | ⟨j, o, _, h2, _⟩
            · exact h1
            · simp only [hno] at h2; cases h2
          have base_lt : ∀ k o, baseAt h k = some o → k < h.nx ∧ h.ob.get k = some o := fun k o ho => by
            by_cases c : k < h.nx
            · rw [baseAt_lt c] at ho; exact ⟨c, ho⟩
            · rw [baseAt_ge (by omega)] at ho; cases ho
          refine { lt := fun i hi => (by simp only [hno] at hi; cases hi), closed := fun i j hi => (by simp only [hno] at hi; cases hi), envS := fun t j _ hj => (by simp only [hno] at hj; cases hj), env0 := fun t _ => he t, dom := fun k p hp => ⟨(hh.dom k p hp).2, .inl (hh.dom k p hp).1⟩, old := fun _ _ => rfl, dom0 := hh.dm, fz := hh.fz, nf := hh.nf, opn := hh.op, obj := fun k o hmk hco => ?_, sep := fun k m p q o o' hkm e1 e2 hb e3 e4 => ?_, tip := fun k m p q o o' e1 e2 hb e3 e4 ht => ?_, one := fun k m p q o o' hkm e1 e2 hb e3 e4 ht => ?_, size := Nat.le_refl _, os := rfl, tape := rfl, output := rfl, new := fun k p hk' hp => absurd (hh.dm k p hp) (by omega), block := fun b hb _ => rfl, d := rfl, n := hn }
          · rw [hcont] at hco
            obtain ⟨hlt, ho⟩ := base_lt k o hco
            rcases hh.obj0 k o ho hlt with ⟨p, h1, h2⟩ | hz0
            rotate_left
            · exact .inr hz0
            refine .inl ⟨p, h.nx, h1, ?_, fun i hi _ => F.mono (i := 0) (j := i) (by omega) hi⟩
            have : cut ρ h.nx = ρ := by
              funext m
              unfold cut
              split
              · rfl
              · cases hr : ρ m with
                | none => rfl
                | some q => exact absurd (hh.dm m q hr) (by assumption)
            rw [this]
            exact ORel.world (w := w) rfl h2
          · rw [hcont] at e3 e4
            exact hh.sep k m p q o o' hkm e1 e2 hb (base_lt _ _ e3).2 (base_lt _ _ e4).2
          · rw [hcont] at e3 e4
            exact hh.tip k m p q o o' e1 e2 hb (base_lt _ _ e3).2 (base_lt _ _ e4).2 ht
          · rw [hcont] at e3 e4
            exact hh.one k m p q o o' hkm e1 e2 hb (base_lt _ _ e3).2 (base_lt _ _ e4).2 ht
        refine Inv.all F hok ?_ ops.size _ ρ a _ (by simp) I0 (by unfold left; exact Nat.le_trans (List.length_filter_le _ _) (by simp))
        intro ρ' a' w' S' hS' I
        have hXN : X D h ops.size = nx1 := l3.symm
        have hget : ∀ k, k < nx1 → (viewAll (fun _ => true) ens1 h.ob).get k = cont D h ops S' k := fun k hk' => by
          rw [get_viewAll, l4]
          unfold cont
          rw [entR_congr (m := S') (m' := fun _ => true) (N := ops.size) (N' := ops.size) (fun j => ⟨fun ⟨x1, _, x3⟩ => ⟨x1, rfl, x3⟩, fun ⟨x1, _, x3⟩ => ⟨x1, hS' j x1, x3⟩⟩)]
          by_cases c : k < h.nx
          · rw [baseAt_lt c]
          · obtain ⟨j, hj, hm'⟩ := mine_cover (D := D) (h0 := h) (n := k) ops.size (by omega) (by rw [hXN]; exact hk')
            exact entR_base ⟨j, hj, rfl, (F.look hj).2 (.inl hm')⟩
        have hmade : ∀ k, k < nx1 → Made D h S' k := fun k hk' => by
          by_cases c : k < h.nx
          · exact .inl c
          · obtain ⟨j, hj, hm'⟩ := mine_cover (D := D) (h0 := h) (n := k) ops.size (by omega) (by rw [hXN]; exact hk')
            exact .inr ⟨j, hS' j hj, hm'⟩
        have hlt : ∀ k p, ρ' k = some p → k < nx1 := fun k p hp => by
          rcases (I.dom k p hp).2 with x | ⟨j, x1, x2⟩
          · have := F.mono (i := 0) (j := ops.size) (by omega) (Nat.le_refl _)
            have e2 : nxR D h.nx ops.size = nx1 := hXN
            have e3 : nxR D h.nx 0 = h.nx := rfl
            omega
          · have := F.mono (i := j + 1) (j := ops.size) (I.lt j x1) (Nat.le_refl _)
            have e2 : nxR D h.nx ops.size = nx1 := hXN
            unfold mine at x2
            omega
        have hst : Stepped ρ h.nx (wrs ds) w ρ' nx1 w' := by
          refine ⟨?_, I.old, fun k p hk' hp => ?_, I.size, I.os, I.tape, I.output, fun b hb hne => ?_⟩
          · have := F.mono (i := 0) (j := ops.size) (by omega) (Nat.le_refl _)
            have e2 : nxR D h.nx ops.size = nx1 := hXN
            have e3 : nxR D h.nx 0 = h.nx := rfl
            show h.nx ≤ nx1
            omega
          · rcases I.new k p hk' hp with x | ⟨m, q, j, x1, x2, x3, x4, x5⟩
            · exact .inl x
            · exact .inr ⟨m, q, mem_wrs.2 ⟨j, D j, hDs j (I.lt j x1), x2⟩, x3, x4, x5⟩
          · exact I.block b hb fun k p j x1 x2 x3 x4 => hne k p (mem_wrs.2 ⟨j, D j, hDs j (I.lt j x1), x2⟩) x3 x4
        rw [← hd2] at hQ
        refine hQ ρ' a' w' (wrs ds) (fun t => ?_) ⟨fun k p hp => ⟨hlt k p hp, (I.dom k p hp).1⟩, fun k o ho hk' => ?_, fun k m p q o o' hkm e1 e2 hb e3 e4 => ?_, fun k m p q o o' e1 e2 hb e3 e4 ht => ?_, fun k m p q o o' hkm e1 e2 hb e3 e4 ht => ?_, I.fz, I.nf, fun e => Nat.le_trans (hh.op e) hst.le⟩ hst rfl (by rw [I.d]; exact hdf.step hst) I.n
        · rw [l2 t]
          unfold envR
          cases hWt : W t with
          | none => exact (I.env0 t (fun j hj => by rw [hWt] at hj; cases hj)).mono I.sub0
          | some j =>
            obtain ⟨o, ho, _⟩ := (hW.w t j).1 hWt
            have hj := (Array.getElem?_eq_some_iff.1 ho).1
            simp only [if_pos hj, Option.getD_some]
            exact (I.envS t j hWt (hS' j hj)).mono fun m p hmp => (cut_some hmp).1
        · rw [hget k hk'] at ho
          rcases I.obj k o (hmade k hk') ho with ⟨p, l, h1, h2, _⟩ | hz0
          · exact .inl ⟨p, h1, h2.mono fun m q hq => (cut_some hq).1⟩
          · exact .inr hz0
        · rw [hget k (hlt k p e1)] at e3; rw [hget m (hlt m q e2)] at e4
          exact I.sep k m p q o o' hkm e1 e2 hb e3 e4
        · rw [hget k (hlt k p e1)] at e3; rw [hget m (hlt m q e2)] at e4
          exact I.tip k m p q o o' e1 e2 hb e3 e4 ht
        · rw [hget k (hlt k p e1)] at e3; rw [hget m (hlt m q e2)] at e4
          exact I.one k m p q o o' hkm e1 e2 hb e3 e4 ht
      · cases hd
    · cases hd
  · cases hd
theorem drawn_wp {ro : Option Nat} {mr B : Nat} (hm : P.follows .mixedOrders = true) {id : Nat} (hc : SumOk P call) (hk : SumKL call) {n : Nat} (hok : okOps n ops = true) {e e' : T AV} {h h' : Hp} (hd : drawn P call ops e h = some (e', h')) {ρ : Rho} {a : Act} {w : World} {Q : Exit → Act → World → Prop}
    (he : ERel ρ e a) (hh : HR ρ h w) (hdf : Marks B ρ w a.defers) (hn : n ≤ a.tmps.size) (hQ : After Q ρ h w n B .normal e' h') : (Code.region id ops true).wpIn (FR ro) mr P Q a w :=
  wpIn_region_any hm (drawn_any hc hk hok hd he hh hdf hn hQ)

end Ev
end Go.Proofs.YtffcaapbmkaceaaDoor
