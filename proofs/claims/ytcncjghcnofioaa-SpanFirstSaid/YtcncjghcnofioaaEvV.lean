/- Loops whose number of rounds is not known: a rule; and calls whose code holds them. No condition. -/
import Derived.Test.YtcncjghcnofioaaEvU
namespace Go.Proofs.Ytcncjghcnofioaa
namespace Ev
open Go.RowKit
variable {P : Program}

/-- What code comes to, out of a round. -/
def RunS (P : Program) (c : Code) (e : T AV) (h : Hp) (K : Ex → T AV → Hp → Prop) : Prop :=
  ∀ n, okCode n c = true → ∀ B ρ a w Q, At ρ e h a w n B → (∀ x e' h', K x e' h' → After Q ρ h w n B (exOf x) e' h') → ∀ m, c.wpIn (FR none) m P Q a w
theorem RunS.mono {c : Code} {e : T AV} {h : Hp} {K K' : Ex → T AV → Hp → Prop} (hr : RunS P c e h K) (hk : ∀ x e' h', K x e' h' → K' x e' h') : RunS P c e h K' :=
  fun n hok B ρ a w Q hA hQ m => hr n hok B ρ a w Q hA (fun x e' h' k => hQ x e' h' (hk x e' h' k)) m
theorem run_bm {X : SumBr} {S : Sum} (G : Good P (orS (sumS X) S)) {N : Nat} {c : Code} {e : T AV} {h : Hp} {K : Ex → T AV → Hp → Prop} (hb : ((bmX P X S N).run false c e h).Holds fun x => K x.1 x.2.1 x.2.2) : RunS P c e h K := by
  obtain ⟨⟨x, e', h'⟩, hat, hk⟩ := hb.out
  have hsm := (bm_sim N).run _ _ _ _ _ hat
  intro n hok B ρ a w Q hA hQ m
  exact (sm_ok G.mix G.ok G.sum G.kl N).1 false c e h x e' h' hsm n hok B ρ a w Q hA (hQ x e' h' hk) none m (fun h => by cases h)
theorem RunS.seq {a b : Code} {e : T AV} {h : Hp} {K1 K : Ex → T AV → Hp → Prop} (ha : RunS P a e h K1) (hb : ∀ e1 h1, K1 .normal e1 h1 → RunS P b e1 h1 K) (hx : ∀ x e1 h1, x ≠ .normal → K1 x e1 h1 → K x e1 h1) : RunS P (.seq a b) e h K := by
  intro n hok B ρ ac w Q hA hQ m
  simp only [okCode, Bool.and_eq_true] at hok
  refine wpIn_seq (ha n hok.1 B ρ ac w _ hA (fun x e1 h1 k1 => ?_) m)
  cases x with
  | normal => exact .on hA.b fun ρ1 a1 w1 L hat1 hst hlg => hb e1 h1 k1 n hok.2 B ρ1 a1 w1 Q hat1 (fun x e' h' k => (hQ x e' h' k).step hst hlg) m
  | exit id => exact hQ _ e1 h1 (hx _ _ _ (by simp) k1)
  | goto l => exact hQ _ e1 h1 (hx _ _ _ (by simp) k1)
  | ret => exact hQ _ e1 h1 (hx _ _ _ (by simp) k1)
theorem RunS.cond {o : Operand} {c1 c2 : Code} {e : T AV} {h : Hp} {K : Ex → T AV → Hp → Prop} {b : Bool} (ho : opnd e o = .s (.bool b)) (hr : RunS P (bif b then c1 else c2) e h K) : RunS P (.cond o c1 c2) e h K := by
  intro n hok B ρ a w Q hA hQ m
  simp only [okCode, Bool.and_eq_true] at hok
  have hv := opnd_rel hA.e o
  rw [ho] at hv
  refine wpIn_cond (t := b) hv ?_
  cases b with
  | true => exact hr n hok.1 B ρ a w Q hA hQ m
  | false => exact hr n hok.2 B ρ a w Q hA hQ m
theorem RunS.skip {e : T AV} {h : Hp} {K : Ex → T AV → Hp → Prop} (hk : K .normal e h) : RunS P .skip e h K := by
  intro n hok B ρ a w Q hA hQ m
  exact wpIn_skip (hQ .normal e h hk ρ a w [] hA.e hA.h (.refl hA.h.dm) rfl hA.d hA.n)
def unblock (id : Nat) : Ex → Ex
  | .exit id' => if id' = id then .normal else .exit id'
  | x => x
theorem RunS.block {id : Nat} {c : Code} {e : T AV} {h : Hp} {K1 K : Ex → T AV → Hp → Prop} (hc : RunS P c e h K1) (hx : ∀ x e1 h1, K1 x e1 h1 → K (unblock id x) e1 h1) : RunS P (.block id c) e h K := by
  intro n hok B ρ ac w Q hA hQ m
  refine wpIn_block (hc n hok B ρ ac w _ hA (fun x e1 h1 k1 => ?_) m)
  have := hQ _ e1 h1 (hx _ _ _ k1)
  cases x with
  | normal => exact this
  | exit id' =>
    intro ρ1 a1 w1 L h1 h2 h3 h4 h5 h6
    have := this ρ1 a1 w1 L h1 h2 h3 h4 h5 h6
    show (if id' = id then Q .normal a1 w1 else Q (.exit id') a1 w1)
    by_cases c : id' = id
    · have e : unblock id (.exit id') = .normal := if_pos c
      rw [e] at this; rw [if_pos c]; exact this
    · have e : unblock id (.exit id') = .exit id' := if_neg c
      rw [e] at this; rw [if_neg c]; exact this
  | goto l => exact this
  | ret => exact this

/-- The loop at a place of a function's code. -/
def loops : Code → List Code
  | .loop c => c :: loops c
  | .seq a b => loops a ++ loops b
  | .cond _ a b => loops a ++ loops b
  | .block _ c => loops c
  | .scope c => loops c
  | _ => []

/- Temporaries: those that are kept, and those of which nothing is known. -/
def mkJ (kept : List (Nat × AV)) (jk : List Nat) (j : Nat → Value) : T AV := kept.foldr (fun x t => T.put (x.1 + 2) t x.1 (some x.2)) (jk.foldr (fun k t => T.put (k + 2) t k (some (.s (j k)))) .leaf)
def T.chk {α : Type} (p : Nat → Bool) : T α → Nat → Nat → Bool
  | .leaf, _, _ => true
  | .node x l r, m, a => (match x with | some _ => p a | none => true) && T.chk p l (2 * m) (m + a) && T.chk p r (2 * m) (2 * m + a)
theorem T.chk_ok {α : Type} {p : Nat → Bool} : ∀ {t : T α} {m a k : Nat} {x : α}, T.chk p t m a = true → t.get k = some x → p (m * k + a) = true
  | .leaf, _, _, _, _, _, h => by cases h
  | .node y l r, m, a, k, x, hc, h => by
    simp only [T.chk, Bool.and_eq_true] at hc
    simp only [T.get] at h
    cases h0 : Nat.beq k 0 with
    | true =>
      have : k = 0 := Nat.eq_of_beq_eq_true h0
      subst this
      rw [h0] at h; simp only [cond_true] at h; subst h
      simpa using hc.1.1
    | false =>
      have hk : k ≠ 0 := fun c => by subst c; simp at h0
      rw [h0] at h
      simp only [cond_false] at h
      cases h1 : Nat.beq (k % 2) 1 with
      | true =>
        rw [h1] at h; simp only [cond_true] at h
        have hm : k % 2 = 1 := Nat.eq_of_beq_eq_true h1
        have := T.chk_ok hc.1.2 h
        have e : 2 * m * (k / 2) + (m + a) = m * k + a := by
          obtain ⟨q, hq⟩ : ∃ q, q = k / 2 := ⟨_, rfl⟩
          have hkq : k = 2 * q + 1 := by omega
          rw [← hq, hkq, Nat.mul_add, Nat.mul_comm 2 m, Nat.mul_assoc, Nat.mul_one]; omega
        rw [e] at this
        exact this
      | false =>
        rw [h1] at h; simp only [cond_false] at h
        have hm : k % 2 = 0 := by
          have : k % 2 ≠ 1 := fun c => by rw [c] at h1; simp at h1
          omega
        have := T.chk_ok hc.2 h
        have e : 2 * m * (k / 2 - 1) + (2 * m + a) = m * k + a := by
          obtain ⟨q, hq⟩ : ∃ q, q = k / 2 - 1 := ⟨_, rfl⟩
          have hkq : k = 2 * q + 2 := by omega
          rw [← hq, hkq, Nat.mul_add, Nat.mul_comm 2 m, Nat.mul_assoc]; omega
        rw [e] at this
        exact this
/-- A value known is one that is not known. -/
def kOk (o : Option AV) (v : AV) : Prop := o = some v ∨ ∃ x, v = .s x ∧ o = some (.v x)
theorem kOk.rel {o : Option AV} {v : AV} (h : kOk o v) {ρ : Rho} {y : Value} (r : VRel ρ (o.getD (.v undef)) y) : VRel ρ v y := by
  rcases h with rfl | ⟨x, rfl, rfl⟩
  · exact r
  · exact r
/-- A state of temporaries keeps what a loop's head asks. -/
def KeptAt (nx : Nat) (e : T AV) (kept : List (Nat × AV)) (jk : List Nat) : Prop :=
  T.chk (fun k => (kept.map (·.1)).any (fun x => Nat.beq x k) || jk.any (fun x => Nat.beq x k)) e 1 0 = true ∧ kept.all (fun x => x.2.low nx) = true ∧ (kept.foldr (fun x p => kOk (e.get x.1) x.2 ∧ p) True)
theorem get_mkJ {kept : List (Nat × AV)} {jk : List Nat} {j : Nat → Value} (t : Nat) :
    (∃ x ∈ kept, x.1 = t ∧ (mkJ kept jk j).get t = some x.2) ∨ ((∀ x ∈ kept, x.1 ≠ t) ∧ ((t ∈ jk ∧ (mkJ kept jk j).get t = some (.s (j t))) ∨ (t ∉ jk ∧ (mkJ kept jk j).get t = none))) := by
  have base : ∀ (l : List Nat), (t ∈ l ∧ (l.foldr (fun k t => T.put (k + 2) t k (some (.s (j k)))) (.leaf : T AV)).get t = some (.s (j t))) ∨ (t ∉ l ∧ (l.foldr (fun k t => T.put (k + 2) t k (some (.s (j k)))) (.leaf : T AV)).get t = none) := by
    intro l
    induction l with
    | nil => exact .inr ⟨by simp, rfl⟩
    | cons k l ih =>
      simp only [List.foldr_cons]
      rw [T.get_put']
      by_cases c : t = k
      · subst c; rw [if_pos rfl]; exact .inl ⟨by simp, rfl⟩
      · rw [if_neg c]
        rcases ih with ⟨h1, h2⟩ | ⟨h1, h2⟩
        · exact .inl ⟨by simp [h1], h2⟩
        · exact .inr ⟨by simp [c, h1], h2⟩
  unfold mkJ
  induction kept with
  | nil => exact .inr ⟨by simp, base jk⟩
  | cons y l ih =>
    simp only [List.foldr_cons]
    rw [T.get_put']
    by_cases c : t = y.1
    · rw [if_pos c]; exact .inl ⟨y, by simp, c.symm, rfl⟩
    · rw [if_neg c]
      rcases ih with ⟨x, h1, h2, h3⟩ | ⟨h1, h2⟩
      · exact .inl ⟨x, by simp [h1], h2, h3⟩
      · refine .inr ⟨fun x hx => ?_, h2⟩
        rcases List.mem_cons.1 hx with rfl | hx
        · exact fun e => c e.symm
        · exact h1 x hx
theorem kept_mem {e : T AV} : ∀ {kept : List (Nat × AV)}, kept.foldr (fun x p => kOk (e.get x.1) x.2 ∧ p) True → ∀ x ∈ kept, kOk (e.get x.1) x.2
  | [], _, x, hx => by simp at hx
  | y :: l, h, x, hx => by
    rcases List.mem_cons.1 hx with rfl | hx
    · exact h.1
    · exact kept_mem h.2 x hx
theorem KeptAt.rel {nx : Nat} {e : T AV} {kept : List (Nat × AV)} {jk : List Nat} (hk : KeptAt nx e kept jk) {ρ ρ' : Rho} {a : Act} (hold : ∀ n, n < nx → ρ' n = ρ n) (hd : ∀ n p, ρ n = some p → n < nx) (he : ERel ρ' e a) :
    ERel ρ (mkJ kept jk fun t => a.tmps.getD t undef) a := by
  obtain ⟨h1, h2, h3⟩ := hk
  have hcut : (fun k => if k < nx then ρ' k else none) = ρ := by
    funext k
    by_cases c : k < nx
    · rw [if_pos c, hold k c]
    · rw [if_neg c]
      cases hr : ρ k with
      | none => rfl
      | some p => exact absurd (hd k p hr) c
  intro t
  rcases get_mkJ (kept := kept) (jk := jk) (j := fun t => a.tmps.getD t undef) t with ⟨x, hx, rfl, hg⟩ | ⟨hn, ⟨_, hg⟩ | ⟨hn2, hg⟩⟩
  · rw [hg]
    have := (kept_mem h3 x hx).rel (he x.1)
    have hl := VRel.low x.2 _ (List.all_eq_true.1 h2 x hx) this
    rw [hcut] at hl
    exact hl
  · rw [hg]; rfl
  · rw [hg]
    cases hx : e.get t with
    | none => have := he t; rw [hx] at this; exact this
    | some v =>
      exfalso
      have := T.chk_ok h1 hx
      simp only [Nat.one_mul, Nat.add_zero, Bool.or_eq_true, List.any_eq_true, List.mem_map] at this
      rcases this with ⟨y, ⟨z, hz, hzy⟩, hb⟩ | ⟨y, hy, hb⟩
      · exact hn z hz (hzy.trans (Nat.eq_of_beq_eq_true hb))
      · have := Nat.eq_of_beq_eq_true hb
        subst this; exact hn2 hy

/-- At a loop's head less is known. -/
theorem RunS.weaken {c : Code} {e : T AV} {H : Hp} {K : Ex → T AV → Hp → Prop} {kept : List (Nat × AV)} {jk : List Nat} (hk : KeptAt H.nx e kept jk) (hr : ∀ j, RunS P c (mkJ kept jk j) H K) : RunS P c e H K :=
  fun n hok B ρ a w Q hA hQ m => hr _ n hok B ρ a w Q ⟨hk.rel (fun _ _ => rfl) hA.h.dm hA.e, hA.h, hA.d, hA.n, hA.b⟩ hQ m

/- One way through a tree. -/
def Br.pathTo {α : Type} : Br α → List Bool → Option α
  | .no, _ => none
  | .leaf a, [] => some a
  | .leaf _, _ :: _ => none
  | .test _ _ _, [] => none
  | .test _ t e, b :: p => bif b then t.pathTo p else e.pathTo p
  | .ob _ _, _ => none
def Br.tests {α : Type} : Br α → List Bool → List Bool
  | .test b t e, c :: p => b :: (bif c then t.tests p else e.tests p)
  | _, _ => []
theorem Br.holds_path {α : Type} {K : α → Prop} : ∀ {B : Br α} {path : List Bool} {a : α}, B.pathTo path = some a → B.tests path = path → K a → B.Holds K
  | .no, _, _, h, _, _ => by cases h
  | .leaf _, [], _, h, _, hk => by cases h; exact hk
  | .leaf _, _ :: _, _, h, _, _ => by cases h
  | .test _ _ _, [], _, h, _, _ => by cases h
  | .test b t e, c :: p, a, h, ht, hk => by
    simp only [Br.tests, List.cons.injEq] at ht
    obtain ⟨rfl, ht⟩ := ht
    cases b with
    | true => exact ⟨fun _ => Br.holds_path h ht hk, fun x => by cases x⟩
    | false => exact ⟨fun x => (by cases x), fun _ => Br.holds_path h ht hk⟩
  | .ob _ _, _, _, h, _, _ => by cases h
/-- What is looked at of an outcome: the exit, whether all that is set is named, what lies in some temporaries, whether nothing old is written. -/
def obsA (ks jk : List Nat) (nx : Nat) (a : Ex × T AV × Hp) : Ex × Bool × List (Option AV) × Bool :=
  (a.1, T.chk (fun k => ks.any (fun x => Nat.beq x k) || jk.any (fun x => Nat.beq x k)) a.2.1 1 0, ks.map a.2.1.get, a.2.2.lg.all (fun n => Nat.ble nx n))
theorem run_path {X : SumBr} {S : Sum} (G : Good P (orS (sumS X) S)) {N : Nat} {c : Code} {e : T AV} {h : Hp} (path : List Bool) (ks jk : List Nat) {bs : List Bool} {o : Ex × Bool × List (Option AV) × Bool} (h1 : (((bmX P X S N).run false c e h).pathTo path).map (obsA ks jk h.nx) = some o) (h2 : ((bmX P X S N).run false c e h).tests path = bs) (h3 : bs = path) {K : Ex → T AV → Hp → Prop}
    (hk : ∀ a : Ex × T AV × Hp, obsA ks jk h.nx a = o → K a.1 a.2.1 a.2.2) : RunS P c e h K := by
  simp only [Option.map_eq_some_iff] at h1
  obtain ⟨a, ha, hoa⟩ := h1
  exact run_bm G (Br.holds_path (K := fun x => K x.1 x.2.1 x.2.2) ha (h2.trans h3) (hk a hoa))

theorem run_pathH {X : SumBr} {S : Sum} (G : Good P (orS (sumS X) S)) {N : Nat} {c : Code} {e : T AV} {h : Hp} (path : List Bool) (ks jk : List Nat) {bs : List Bool} {o : Ex × Bool × List (Option AV) × Bool} {H' : Hp} (h1 : (((bmX P X S N).run false c e h).pathTo path).map (fun a => (obsA ks jk h.nx a, a.2.2)) = some (o, H')) (h2 : ((bmX P X S N).run false c e h).tests path = bs) (h3 : bs = path) {K : Ex → T AV → Hp → Prop}
    (hk : ∀ x e', obsA ks jk h.nx (x, e', H') = o → K x e' H') : RunS P c e h K := by
  simp only [Option.map_eq_some_iff, Prod.mk.injEq] at h1
  obtain ⟨⟨x, e', h'⟩, ha, hoa, rfl⟩ := h1
  exact run_bm G (Br.holds_path (K := fun x => K x.1 x.2.1 x.2.2) ha (h2.trans h3) (hk x e' hoa))

/-- Two objects that stand apart. -/
def rho2 (p q : Pl) : Rho := fun n => if n = 0 then some p else if n = 1 then some q else none
theorem HR.two {o1 o2 : AO} {p q : Pl} {w : World} (h1 : ORel (fun _ => none) o1 p w) (h2 : ORel (fun _ => none) o2 q w) (hne : p.b ≠ q.b) (lp : p.b < w.heap.size) (lq : q.b < w.heap.size) : HR (rho2 p q) (((⟨.leaf, 0, []⟩ : Hp).new o1).new o2) w := by
  have g : ∀ n, (((⟨.leaf, 0, []⟩ : Hp).new o1).new o2).ob.get n = if n = 1 then some o2 else if n = 0 then some o1 else none := fun n => by
    unfold Hp.new
    simp only []
    rw [T.get_put', T.get_put']
    rfl
  have hs : Sub (fun _ => none) (rho2 p q) := fun n r h => by cases h
  have dom : ∀ n r, rho2 p q n = some r → (n = 0 ∧ r = p) ∨ (n = 1 ∧ r = q) := fun n r h => by
    unfold rho2 at h
    split at h
    · rename_i c; cases h; exact .inl ⟨c, rfl⟩
    · split at h
      · rename_i c; cases h; exact .inr ⟨c, rfl⟩
      · cases h
  refine ⟨fun n r h => ?_, fun n o h hn => ?_, fun n m r r' o o' hnm e1 e2 hb _ _ => ?_, fun n m r r' o o' e1 e2 hb e3 e4 _ => ?_, fun n m r r' o o' hnm e1 e2 hb _ _ _ => ?_⟩
  · rcases dom n r h with ⟨rfl, rfl⟩ | ⟨rfl, rfl⟩
    · exact ⟨by show 0 < 2; omega, lp⟩
    · exact ⟨by show 1 < 2; omega, lq⟩
  · rw [g] at h
    split at h
    · rename_i c; subst c; cases h; exact ⟨q, rfl, h2.mono hs⟩
    · split at h
      · rename_i c; subst c; cases h; exact ⟨p, rfl, h1.mono hs⟩
      · cases h
  · exfalso
    rcases dom n r e1 with ⟨rfl, rfl⟩ | ⟨rfl, rfl⟩ <;> rcases dom m r' e2 with ⟨rfl, rfl⟩ | ⟨rfl, rfl⟩
    · exact hnm rfl
    · exact hne hb
    · exact hne hb.symm
    · exact hnm rfl
  · rcases dom n r e1 with ⟨rfl, rfl⟩ | ⟨rfl, rfl⟩ <;> rcases dom m r' e2 with ⟨rfl, rfl⟩ | ⟨rfl, rfl⟩
    · rw [e3] at e4; cases e4; exact Nat.le_refl _
    · exact absurd hb hne
    · exact absurd hb.symm hne
    · rw [e3] at e4; cases e4; exact Nat.le_refl _
  · exfalso
    rcases dom n r e1 with ⟨rfl, rfl⟩ | ⟨rfl, rfl⟩ <;> rcases dom m r' e2 with ⟨rfl, rfl⟩ | ⟨rfl, rfl⟩
    · exact hnm rfl
    · exact hne hb
    · exact hne hb.symm
    · exact hnm rfl

/-- One object. -/
theorem HR.one {o1 : AO} {p : Pl} {w : World} (h1 : ORel (fun _ => none) o1 p w) (lp : p.b < w.heap.size) : HR (fun n => if n = 0 then some p else none) ((⟨.leaf, 0, []⟩ : Hp).new o1) w := by
  have g : ∀ n, ((⟨.leaf, 0, []⟩ : Hp).new o1).ob.get n = if n = 0 then some o1 else none := fun n => by
    unfold Hp.new
    simp only []
    rw [T.get_put']
    rfl
  have dom : ∀ n r, (fun n => if n = 0 then some p else none : Rho) n = some r → n = 0 ∧ r = p := fun n r h => by
    simp only [] at h
    split at h
    · rename_i c; cases h; exact ⟨c, rfl⟩
    · cases h
  refine ⟨fun n r h => ?_, fun n o h hn => ?_, fun n m r r' o o' hnm e1 e2 hb _ _ => ?_, fun n m r r' o o' e1 e2 hb e3 e4 _ => ?_, fun n m r r' o o' hnm e1 e2 hb _ _ _ => ?_⟩
  · obtain ⟨rfl, rfl⟩ := dom n r h; exact ⟨by show 0 < 1; omega, lp⟩
  · rw [g] at h
    split at h
    · rename_i c; subst c; cases h; exact ⟨p, rfl, h1.mono fun n r h => by cases h⟩
    · cases h
  · obtain ⟨rfl, rfl⟩ := dom n r e1; obtain ⟨rfl, rfl⟩ := dom m r' e2; exact absurd rfl hnm
  · obtain ⟨rfl, rfl⟩ := dom n r e1; obtain ⟨rfl, rfl⟩ := dom m r' e2; rw [e3] at e4; cases e4; exact Nat.le_refl _
  · obtain ⟨rfl, rfl⟩ := dom n r e1; obtain ⟨rfl, rfl⟩ := dom m r' e2; exact absurd rfl hnm

theorem Marks.cut {B nx : Nat} {ρ ρ' : Rho} {w : World} (hold : ∀ n, n < nx → ρ' n = ρ n) (hd : ∀ n p, ρ n = some p → n < nx) : ∀ {ds : List Deferred}, Marks B ρ' w ds → Marks B ρ w ds
  | [], _ => trivial
  | d :: ds, ⟨⟨D, h1, h2, h3, h4, h5⟩, h6⟩ => ⟨⟨D, h1, h2, h3, fun n p e => h4 n p (by rw [hold n (hd n p e)]; exact e), h5⟩, Marks.cut hold hd h6⟩

/-- Nothing old is written. -/
def NoOld (H h : Hp) : Prop := ∃ L, h.lg = L ++ H.lg ∧ ∀ n ∈ L, H.nx ≤ n
theorem noOld_of {H h : Hp} (hl : H.lg = []) (ha : h.lg.all (fun n => Nat.ble H.nx n) = true) : NoOld H h :=
  ⟨h.lg, by rw [hl, List.append_nil], fun n hn => by have := List.all_eq_true.1 ha n hn; simpa using this⟩
/-- **A loop that writes nothing old.** -/
theorem RunS.loop {σ : Type} {c : Code} {H : Hp} (J : σ → Prop) (μ : σ → Nat) (kept : σ → List (Nat × AV)) (jk : List Nat) {K : Ex → T AV → Hp → Prop}
    (hb : ∀ s j, J s → RunS P c (mkJ (kept s) jk j) H (fun x e' h' => NoOld H h' ∧ match x with
      | .normal => ∃ s', J s' ∧ μ s' < μ s ∧ KeptAt H.nx e' (kept s') jk
      | x => K x e' h')) : ∀ s j, J s → RunS P (.loop c) (mkJ (kept s) jk j) H K := by
  intro s0 j0 hJ0 n hok B ρ a0 w0 Q hA0 hQ m
  have key : ∀ k s j a w, J s → μ s < k → At ρ (mkJ (kept s) jk j) H a w n B → Stepped ρ H.nx [] w0 ρ H.nx w → Code.roundsIn (FR none) m P c Q k a w := by
    intro k
    induction k with
    | zero => intro s j a w _ h; omega
    | succ k ih =>
      intro s j a w hJ hmu hA hst0
      show c.wpIn (FR none) m P (Exit.then (Code.roundsIn (FR none) m P c Q k) Q) a w
      refine hb s j hJ n hok B ρ a w _ hA (fun x e' h' hx => ?_) m
      obtain ⟨⟨L0, hL0, hL1⟩, hx⟩ := hx
      cases x with
      | normal =>
        obtain ⟨s', hJ', hmu', hkept⟩ := hx
        intro ρ' a' w' L he hh hst hlg hd hn
        have hLL : L = L0 := by rw [hL0] at hlg; exact (List.append_cancel_right hlg).symm
        subst hLL
        have hblk : ∀ b, b < w.heap.size → w'.heap[b]? = w.heap[b]? := fun b hb => hst.block b hb fun n p hn hlt _ => absurd (hL1 n hn) (by omega)
        have hstep : Stepped ρ H.nx [] w ρ H.nx w' := ⟨Nat.le_refl _, fun _ _ => rfl, fun k q hk e => absurd (hA.h.dm k q e) (by omega), hst.size, hst.os, hst.tape, hst.output, fun b hb _ => hblk b hb⟩
        refine ih s' _ a' w' hJ' (by omega) ⟨hkept.rel hst.old hA.h.dm he, ?_, Marks.cut hst.old hA.h.dm hd, hn, Nat.le_trans hA.b hst.size⟩ ?_
        · exact HRel.world hA.h hst.size fun n p e => hblk p.b (hA.h.dom n p e).2
        · exact hst0.trans hstep
      | exit id => exact (hQ _ e' h' hx).step hst0 rfl
      | goto l => exact (hQ _ e' h' hx).step hst0 rfl
      | ret => exact (hQ _ e' h' hx).step hst0 rfl
  exact wpIn_loop_rounds (μ s0 + 1) (key (μ s0 + 1) s0 j0 a0 w0 hJ0 (Nat.lt_succ_self _) hA0 (.refl hA0.h.dm))

/-- A call whose code comes to a plain value and writes nothing old. -/
theorem calls_run {f : FuncId} {fn : Func} {c : Code} (hfn : P.funcs[f]? = some fn) (hb : fn.body = some c) (hok : okCode fn.ntmps c = true) {args : List AV} {ys : Array Value} {h : Hp} {ρ : Rho} {w : World} (hys : VRels ρ args ys.toList) (hh : HR ρ h w) {u : Value}
    (hr : RunS P c (params args) h (fun x e1 h1 => (x = .normal ∨ x = .ret) ∧ (∃ l, resA P h1 e1 fn.results.toList = some l ∧ unP (one l) = some u) ∧ NoOld h h1)) :
    Calls P f ys w fun e w' => e = .returned u ∧ Fr noB w w' := by
  refine callsIn_wide.1 (callsIn_of_wp_marks (n := 0) (F := Fence.wide) hfn hb trivial ?_)
  refine hr fn.ntmps hok w.heap.size ρ _ w _ ⟨params_rel hys _, hh, trivial, by simp; omega, Nat.le_refl _⟩ ?_ 0
  rintro x e1 h1 ⟨hx, ⟨l, hl, hu⟩, L0, hL0, hL1⟩ ρ' a' w1 L he' hh1 hst1 hlg hd' hn'
  have hLL : L = L0 := by rw [hL0] at hlg; exact (List.append_cancel_right hlg).symm
  subst hLL
  have fin : LeavesInM Fence.wide 0 P fn a'.tmps (fun e w' => e = .returned u ∧ Fr noB w w') a'.defers .returning w1 := by
    refine leaves_marks _ _ hd' fun w' hs => ?_
    have hh' : HR ρ' h1 w' := HRel.world hh1 (Nat.le_of_eq hs.size.symm) fun n p e => hs.keep p.b (.inr ⟨n, p, e, rfl⟩)
    obtain ⟨y, hy, hvr⟩ := results_run (P := P) he' hh' hl
    refine ⟨y, hy, by rw [unP_rel hu hvr], hs.os.trans hst1.os, hs.tape.trans hst1.tape, hs.output.trans hst1.output, by rw [hs.size]; exact hst1.size, fun b hb _ => ?_⟩
    rw [hs.keep b (.inl hb)]
    exact hst1.block b hb fun n p hn hlt _ => absurd (hL1 n hn) (by omega)
  rcases hx with rfl | rfl
  · exact fin
  · exact fin

end Ev
end Go.Proofs.Ytcncjghcnofioaa
