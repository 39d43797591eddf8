/- Regions that draw their order: whatever order is drawn, what the evaluator says comes of it. No condition. -/
import Derived.Test.YtffcaapbmkaceaaDoorEvD
namespace Go.Proofs.YtffcaapbmkaceaaDoor
namespace Ev
open Go.RowKit
set_option linter.unusedSectionVars false
variable [Fz]
variable {P : Program}

instance : Inhabited DRec := ⟨⟨.v undef, 0, 0, none, [], [], false⟩⟩
def nxR (D : Nat → DRec) (x : Nat) : Nat → Nat
  | 0 => x
  | k + 1 => (D k).hi
def entR (D : Nat → DRec) (m : Nat → Bool) (n : Nat) (b : Option AO) : Nat → Option AO
  | 0 => b
  | k + 1 => bif m k then (match lookE n (D k).en with
    | some o => o
    | none => entR D m n b k) else entR D m n b k
def envR (D : Nat → DRec) (W : Nat → Option Nat) (e0 : T AV) (t k : Nat) : Option AV := match W t with
  | some j => if j < k then some (D j).v else e0.get t
  | none => e0.get t

theorem drawGo_spec {call : Sum} {ops : Array Oper} {bs : T Nat} {h0 : Hp} {D : Nat → DRec} {W : Nat → Option Nat} {e0 : T AV} (hW : ∀ t j, W t = some j ↔ ∃ o, ops[j]? = some o ∧ o.dst = some t) :
    ∀ (l : List Oper) (i : Nat) (e : T AV) (nx : Nat) (ens : Ens) (ds : List DRec) (e' : T AV) (nx' : Nat) (ens' : Ens), ops.toList.drop i = l → i ≤ ops.size → drawGo P call ops bs h0 i l e nx ens = some (ds, e', nx', ens') →
      (∀ (k : Nat) d, ds[k]? = some d → D (i + k) = d) → (∀ t, e.get t = envR D W e0 t i) → nx = nxR D h0.nx i → (∀ m n b, entAt m n b ens = entR D m n b i) →
      ds.length = l.length ∧ (∀ t, e'.get t = envR D W e0 t ops.size) ∧ nx' = nxR D h0.nx ops.size ∧ (∀ m n b, entAt m n b ens' = entR D m n b ops.size) ∧
      ∀ k o, i ≤ k → ops[k]? = some o → ∃ ek ensk, drawOne P call ops (msk bs k) h0 o ek (nxR D h0.nx k) ensk = some (D k) ∧ (∀ t, ek.get t = envR D W e0 t k) ∧ ∀ m n b, entAt m n b ensk = entR D m n b k
  | [], i, e, nx, ens, ds, e', nx', ens', hl, hi, h, hD, he, hn, hE => by
    simp only [drawGo] at h
    cases h
    have : i = ops.size := by
      have := congrArg List.length hl
      simp at this
      omega
    subst this
    refine ⟨rfl, he, hn, hE, fun k o hk ho => ?_⟩
    have := (Array.getElem?_eq_some_iff.1 ho).1
    omega
  | o :: r, i, e, nx, ens, ds, e', nx', ens', hl, hi, h, hD, he, hn, hE => by
    have hio : ops[i]? = some o := by
      have : ops.toList[i]? = some o := by
        have := congrArg (·[0]?) hl
        simpa using this
      simpa using this
    have hr : ops.toList.drop (i + 1) = r := by
      have := congrArg (·.drop 1) hl
      simpa [Nat.add_comm] using this
    have hlt := (Array.getElem?_eq_some_iff.1 hio).1
    simp only [drawGo] at h
    split at h
    · rename_i d hd
      split at h
      · rename_i ds' x hg
        cases h
        have hDi : D i = d := by simpa using hD 0 d rfl
        have ih := drawGo_spec (h0 := h0) (e0 := e0) hW r (i + 1) _ _ _ ds' e' nx' ens' hr (by omega) hg (fun k d' hk => by rw [show i + 1 + k = i + (k + 1) by omega]; exact hD (k + 1) d' (by simpa using hk)) (fun t => ?_) (by show d.hi = (D i).hi; rw [hDi]) (fun m n b => by
          simp only [entAt, entR, hDi, hE]
          cases m i <;> rfl)
        · obtain ⟨h1, h2, h3, h4, h5⟩ := ih
          refine ⟨by simp [h1], h2, h3, h4, fun k o' hk ho' => ?_⟩
          by_cases c : k = i
          · subst c
            rw [hio] at ho'; cases ho'
            exact ⟨e, ens, by rw [← hn, hDi]; exact hd, he, hE⟩
          · exact h5 k o' (by omega) ho'
        · unfold envR
          have hput : (putT e o.dst d.v).get t = if o.dst = some t then some d.v else e.get t := by
            cases hdst : o.dst with
            | none => simp [putT]
            | some q =>
              simp only [putT, T.get_put, upd]
              by_cases c : t = q
              · subst c; simp
              · simp [c, Ne.symm c]
          rw [hput, he t]
          unfold envR
          cases hWt : W t with
          | none =>
            have : o.dst ≠ some t := fun c => by have := (hW t i).2 ⟨o, hio, c⟩; rw [hWt] at this; cases this
            rw [if_neg this]
          | some j =>
            simp only []
            by_cases c : o.dst = some t
            · have := (hW t i).2 ⟨o, hio, c⟩
              rw [hWt] at this; cases this
              rw [if_pos c, if_pos (by omega), hDi]
            · have hj : j ≠ i := fun cj => by subst cj; obtain ⟨o', h1, h2⟩ := (hW t j).1 hWt; rw [hio] at h1; cases h1; exact c h2
              rw [if_neg c]
              by_cases cj : j < i
              · rw [if_pos cj, if_pos (by omega)]
              · rw [if_neg cj, if_neg (by omega)]
      · cases h
    · cases h

theorem madeBy_spec {mk n : Nat} : ∀ (l : List DRec) (s : Nat), madeBy mk n s l = false → ∀ (k : Nat) c, l[k]? = some c → mk.testBit (s + k) = true → ¬ (c.lo ≤ n ∧ n < c.hi)
  | [], _, _, k, c, h => by simp at h
  | c :: r, s, h, k, c', hk => by
    simp only [madeBy, Bool.or_eq_false_iff] at h
    cases k with
    | zero =>
      simp at hk; subst hk
      intro hb hc
      rw [Nat.add_zero] at hb
      have := h.1
      have h1 : Nat.ble c.lo n = true := by simpa using hc.1
      have h2 : Nat.blt n c.hi = true := by simpa using hc.2
      rw [hb, h1, h2] at this
      cases this
    | succ k => have := madeBy_spec r (s + 1) h.2 k c' (by simpa using hk); rw [show s + (k + 1) = s + 1 + k by omega]; exact this
theorem clearOf_spec {bs : T Nat} {x j : Nat} {all : List DRec} {d : DRec} : ∀ (l : List DRec) (i : Nat), clearOf bs x all j d i l = true → ∀ (k : Nat) c, l[k]? = some c → i + k = j ∨ ordered bs (i + k) j = true ∨ (clear1 x (msk bs (i + k)) all d c.vw = true ∧ (d.full = true → c.wr = [] ∧ c.lo = c.hi))
  | [], _, _, k, c, h => by simp at h
  | c :: r, i, h, k, c', hk => by
    simp only [clearOf, Bool.and_eq_true, Bool.or_eq_true] at h
    cases k with
    | zero =>
      simp at hk; subst hk
      rcases h.1 with (x | x) | x
      · exact .inl (by have := Nat.eq_of_beq_eq_true x; omega)
      · exact .inr (.inl x)
      · refine .inr (.inr ⟨x.1, fun hf => ?_⟩)
        have := x.2
        rw [hf] at this
        simp at this
        exact ⟨this.1, by simpa using this.2⟩
    | succ k => have := clearOf_spec r (i + 1) h.2 k c' (by simpa using hk); rw [show i + (k + 1) = i + 1 + k by omega]; exact this
theorem clearAll_spec {bs : T Nat} {x : Nat} {all : List DRec} : ∀ (l : List DRec) (j : Nat), clearAll bs x all j l = true → ∀ (k : Nat) d, l[k]? = some d → (d.wr = [] ∧ d.lo = d.hi) ∨ clearOf bs x all (j + k) d 0 all = true
  | [], _, _, k, d, h => by simp at h
  | d :: r, j, h, k, d', hk => by
    simp only [clearAll, Bool.and_eq_true, Bool.or_eq_true] at h
    cases k with
    | zero =>
      simp at hk; subst hk
      rcases h.1 with x | x
      · exact .inl ⟨by simpa using x.1, Nat.eq_of_beq_eq_true x.2⟩
      · exact .inr x
    | succ k => have := clearAll_spec r (j + 1) h.2 k d' (by simpa using hk); rw [show j + (k + 1) = j + 1 + k by omega]; exact this

abbrev bsO (ops : Array Oper) : T Nat := bsGo 0 ops.toList .leaf

/-- What an operation has done is out of another one's sight. -/
def Clear1 (x mk N : Nat) (D : Nat → DRec) (d : DRec) (vw : Option (List Nat)) : Prop := match vw with
  | some l => (l.all fun n => !(Nat.ble d.lo n && Nat.blt n d.hi) && !(d.wr.contains n)) = true
  | none => ∀ n ∈ d.wr, x ≤ n ∧ ∀ k, k < N → mk.testBit k = true → ¬ ((D k).lo ≤ n ∧ n < (D k).hi)
theorem Clear1.of {x mk N : Nat} {D : Nat → DRec} {d : DRec} {vw : Option (List Nat)} {all : List DRec} (hD : ∀ k, k < N → all[k]? = some (D k)) (h : clear1 x mk all d vw = true) : Clear1 x mk N D d vw := by
  unfold clear1 at h
  unfold Clear1
  cases vw with
  | some l => exact h
  | none =>
    simp only [List.all_eq_true, Bool.and_eq_true, Bool.not_eq_true'] at h
    intro n hn
    obtain ⟨h1, h2⟩ := h n hn
    refine ⟨by simpa using h1, fun k hk hb => madeBy_spec all 0 h2 k (D k) (hD k hk) (by simpa using hb)⟩
structure DrawF (P : Program) (call : Sum) (ops : Array Oper) (e0 : T AV) (h0 : Hp) (D : Nat → DRec) (W : Nat → Option Nat) : Prop where
  ok : DrawOk ops W
  kl : SumKL call
  sum : SumOk P call
  one : ∀ k o, ops[k]? = some o → ∃ e ens, drawOne P call ops (msk (bsO ops) k) h0 o e (nxR D h0.nx k) ens = some (D k) ∧ (∀ t, e.get t = envR D W e0 t k) ∧ ∀ m n b, entAt m n b ens = entR D m n b k
  clear : ∀ i j, i < ops.size → j < ops.size → i ≠ j → ordered (bsO ops) i j = false → ((D j).wr = [] ∧ (D j).lo = (D j).hi) ∨ (Clear1 h0.nx (msk (bsO ops) i) ops.size D (D j) (D i).vw ∧ ((D j).full = true → (D i).wr = [] ∧ (D i).lo = (D i).hi))

section
variable {call : Sum} {ops : Array Oper} {e0 : T AV} {h0 : Hp} {D : Nat → DRec} {W : Nat → Option Nat}

theorem DrawF.rcd (F : DrawF P call ops e0 h0 D W) {k : Nat} (hk : k < ops.size) : ∃ ob ob', RecOk (nxR D h0.nx k) (D k) ob ob' := by
  obtain ⟨e, ens, h, _⟩ := F.one k ops[k] (by simp [hk])
  exact drawOne_ok F.kl h
theorem DrawF.step (F : DrawF P call ops e0 h0 D W) {k : Nat} (hk : k < ops.size) : nxR D h0.nx k ≤ nxR D h0.nx (k + 1) := by
  obtain ⟨_, _, h⟩ := F.rcd hk
  exact h.le
theorem DrawF.lo (F : DrawF P call ops e0 h0 D W) {k : Nat} (hk : k < ops.size) : (D k).lo = nxR D h0.nx k := by
  obtain ⟨_, _, h⟩ := F.rcd hk
  exact h.lo
theorem get_clearFrom (n : Nat) : ∀ (k s : Nat) (t : T AO), (clearFrom s k t).get n = if s ≤ n ∧ n < s + k then none else t.get n
  | 0, s, t => by rw [if_neg (by omega)]; rfl
  | k + 1, s, t => by
    simp only [clearFrom]
    rw [get_clearFrom n k (s + 1), T.get_put']
    by_cases c : n = s
    · subst c; rw [if_neg (by omega), if_pos rfl, if_pos (by omega)]
    · rw [if_neg c]
      by_cases c2 : s + 1 ≤ n ∧ n < s + 1 + k
      · rw [if_pos c2, if_pos (by omega)]
      · rw [if_neg c2, if_neg (by omega)]
theorem DrawF.mono (F : DrawF P call ops e0 h0 D W) {i j : Nat} (hij : i ≤ j) (hj : j ≤ ops.size) : nxR D h0.nx i ≤ nxR D h0.nx j := by
  induction j with
  | zero => have : i = 0 := by omega
            subst this; exact Nat.le_refl _
  | succ j ih =>
    by_cases c : i = j + 1
    · subst c; exact Nat.le_refl _
    · exact Nat.le_trans (ih (by omega) (by omega)) (F.step (by omega))
/-- Whose new name it is. -/
def mine (D : Nat → DRec) (x n k : Nat) : Prop := nxR D x k ≤ n ∧ n < nxR D x (k + 1)
theorem DrawF.uniq (F : DrawF P call ops e0 h0 D W) {n i j : Nat} (hi : i < ops.size) (hj : j < ops.size) (h : mine D h0.nx n i) (k : mine D h0.nx n j) : i = j := by
  unfold mine at h k
  rcases Nat.lt_trichotomy i j with c | c | c
  · have := F.mono (i := i + 1) (j := j) (by omega) (by omega); omega
  · exact c
  · have := F.mono (i := j + 1) (j := i) (by omega) (by omega); omega
theorem DrawF.look (F : DrawF P call ops e0 h0 D W) {k n : Nat} (hk : k < ops.size) : (lookE n (D k).en).isSome = true ↔ mine D h0.nx n k ∨ n ∈ (D k).wr := by
  obtain ⟨ob, ob', h⟩ := F.rcd hk
  rw [h.look]
  unfold mine
  by_cases c : (nxR D h0.nx k ≤ n ∧ n < (D k).hi) ∨ n ∈ (D k).wr
  · rw [if_pos c]; simp only [Option.isSome_some, true_iff]; exact c
  · rw [if_neg c]; simp only [Option.isSome_none, Bool.false_eq_true, false_iff]; exact c

/-- The last of a set that has made something of a name. -/
theorem entR_find (D : Nat → DRec) (m : Nat → Bool) (n : Nat) (b : Option AO) : ∀ (N : Nat), (entR D m n b N = b ∧ ∀ k, k < N → m k = true → lookE n (D k).en = none) ∨ ∃ k o, k < N ∧ m k = true ∧ lookE n (D k).en = some o ∧ entR D m n b N = o ∧ ∀ j, k < j → j < N → m j = true → lookE n (D j).en = none
  | 0 => .inl ⟨rfl, fun k hk => by omega⟩
  | N + 1 => by
    simp only [entR]
    cases hm : m N with
    | true =>
      simp only [cond_true]
      cases hl : lookE n (D N).en with
      | some o => exact .inr ⟨N, o, by omega, hm, hl, rfl, fun j h1 h2 => by omega⟩
      | none =>
        rcases entR_find D m n b N with ⟨h1, h2⟩ | ⟨k, o, h1, h2, h3, h4, h5⟩
        · exact .inl ⟨h1, fun k hk hmk => by by_cases c : k = N; (subst c; exact hl); exact h2 k (by omega) hmk⟩
        · exact .inr ⟨k, o, by omega, h2, h3, h4, fun j a1 a2 a3 => by by_cases c : j = N; (subst c; exact hl); exact h5 j a1 (by omega) a3⟩
    | false =>
      simp only [cond_false]
      rcases entR_find D m n b N with ⟨h1, h2⟩ | ⟨k, o, h1, h2, h3, h4, h5⟩
      · exact .inl ⟨h1, fun k hk hmk => h2 k (by by_cases c : k = N; (subst c; rw [hm] at hmk; cases hmk); omega) hmk⟩
      · exact .inr ⟨k, o, by omega, h2, h3, h4, fun j a1 a2 a3 => h5 j a1 (by by_cases c : j = N; (subst c; rw [hm] at a3; cases a3); omega) a3⟩
/-- Two sets alike at a name's makers. -/
theorem entR_congr {D : Nat → DRec} {m m' : Nat → Bool} {n : Nat} {b : Option AO} {N N' : Nat} (h : ∀ k, (k < N ∧ m k = true ∧ (lookE n (D k).en).isSome = true) ↔ (k < N' ∧ m' k = true ∧ (lookE n (D k).en).isSome = true)) : entR D m n b N = entR D m' n b N' := by
  rcases entR_find D m n b N with ⟨h1, h2⟩ | ⟨k, o, h1, h2, h3, h4, h5⟩
  · rcases entR_find D m' n b N' with ⟨k1, k2⟩ | ⟨k, o, k1, k2, k3, k4, k5⟩
    · rw [h1, k1]
    · obtain ⟨a1, a2, a3⟩ := (h k).2 ⟨k1, k2, by rw [k3]; rfl⟩
      rw [h2 k a1 a2] at a3; cases a3
  · rcases entR_find D m' n b N' with ⟨k1, k2⟩ | ⟨k', o', k1, k2, k3, k4, k5⟩
    · obtain ⟨a1, a2, a3⟩ := (h k).1 ⟨h1, h2, by rw [h3]; rfl⟩
      rw [k2 k a1 a2] at a3; cases a3
    · obtain ⟨a1, a2, _⟩ := (h k).1 ⟨h1, h2, by rw [h3]; rfl⟩
      obtain ⟨b1, b2, _⟩ := (h k').2 ⟨k1, k2, by rw [k3]; rfl⟩
      have : k = k' := by
        rcases Nat.lt_trichotomy k k' with c | c | c
        · have := h5 k' c b1 b2; rw [this] at k3; cases k3
        · exact c
        · have := k5 k c a1 a2; rw [this] at h3; cases h3
      subst this
      rw [h3] at k3; cases k3
      rw [h4, k4]

theorem get_viewL (m : Nat → Bool) (h0 : Hp) (ens : Ens) : ∀ (l : List Nat) (n : Nat), (viewL m h0 ens l).get n = if n ∈ l then entAt m n (baseAt h0 n) ens else none
  | [], n => by simp [viewL, T.get]
  | x :: r, n => by
    simp only [viewL]
    rw [T.get_put', get_viewL m h0 ens r n]
    by_cases c : n = x
    · subst c; simp
    · simp [c]
/-- Who writes a new name knows who made it. -/
theorem DrawF.wknows (F : DrawF P call ops e0 h0 D W) : ∀ (k : Nat), k < ops.size → ∀ n j, n ∈ (D k).wr → j < ops.size → mine D h0.nx n j → (msk (bsO ops) k).testBit j = true := by
  intro k
  induction k using Nat.strongRecOn with
  | _ k ih =>
    intro hk n j hn hj hm
    obtain ⟨e, ens, h, _, hens⟩ := F.one k ops[k] (by simp [hk])
    have hb : baseAt h0 n = none := by
      unfold baseAt
      have h1 := F.mono (i := 0) (j := j) (by omega) (by omega)
      have h2 : h0.nx ≤ n := Nat.le_trans h1 hm.1
      have : Nat.blt n h0.nx = false := by cases hc : Nat.blt n h0.nx with
        | false => rfl
        | true => simp at hc; omega
      rw [this]; rfl
    -- the object that it has written was there
    have hsome : entR D (fun i => (msk (bsO ops) k).testBit i) n none k ≠ none := by
      unfold drawOne at h
      rw [cond_eq_ite] at h
      split at h
      · simp only [] at h
        generalize hvw : viewD (opnd e) ops[k] (msk (bsO ops) k) h0 ens = vw at h
        have key : ∀ (v : AV) (h' : Hp), finishR vw (obOf (msk (bsO ops) k) h0 (nxR D h0.nx k) ens vw) (nxR D h0.nx k) v h' = some (D k) → entR D (fun i => (msk (bsO ops) k).testBit i) n none k ≠ none := by
          intro v h' hf hz
          have hlt : n < nxR D h0.nx k := by
            obtain ⟨_, _, hr⟩ := F.rcd (k := k) (by omega)
            exact hr.wlt n hn
          have hno : (obOf (msk (bsO ops) k) h0 (nxR D h0.nx k) ens vw).get n = none := by
            cases vw with
            | none =>
              simp only [obOf]
              rw [get_viewAll, get_clearFrom]
              have h1 := F.mono (i := 0) (j := j) (by omega) (by omega)
              have h2 : h0.nx ≤ n := Nat.le_trans h1 hm.1
              rw [if_pos (by omega), hens]
              exact hz
            | some l =>
              simp only [obOf]
              rw [get_viewL, hb, hens]
              rw [hz]
              split <;> rfl
          unfold finishR at hf
          simp only [cond_eq_ite] at hf
          split at hf
          · rename_i hc
            injection hf with hf
            have hwr : n ∈ h'.lg.filter (fun m => Nat.blt m (nxR D h0.nx k)) := by rw [← hf] at hn; exact hn
            have := List.all_eq_true.1 hc n hwr
            rw [hno] at this
            simp [unshared] at this
          · split at hf
            · injection hf with hf
              rename_i hc
              simp only [Bool.and_eq_true, List.all_eq_true] at hc
              rw [← hf] at hn
              rcases List.mem_append.1 hn with x | x
              · have := hc.2 n x
                rw [hno] at this
                simp at this
              · have := shared_some (List.mem_filter.1 x).2
                rw [hno] at this
                simp at this
            · cases hf
        split at h
        · exact key _ _ h
        · split at h
          · exact key _ _ h
          · cases h
        · cases h
      · injection h with h
        rw [← h] at hn
        simp at hn
    rcases entR_find D (fun i => (msk (bsO ops) k).testBit i) n none k with ⟨h1, _⟩ | ⟨i, o, h1, h2, h3, _, _⟩
    · exact absurd h1 hsome
    · have hl := (F.look (k := i) (n := n) (by omega)).1 (by rw [h3]; rfl)
      rcases hl with hl | hl
      · have := F.uniq (by omega) hj hl hm
        subst this
        exact h2
      · exact mk_trans F.ok.back h2 (ih i h1 (by omega) n j hl hj hm)
end

end Ev
end Go.Proofs.YtffcaapbmkaceaaDoor
