/- Code with loops whose number of rounds is not known: what code comes to, from a base on; a loop's head, by names of its own; a round as a tree. No condition. -/
import Derived.Test.YtffcaapbmkaceaaDoorEvU
namespace Go.Proofs.YtffcaapbmkaceaaDoor
namespace Ev
open Go.RowKit
set_option linter.unusedSectionVars false
variable [Fz]
variable {P : Program}

/-- A state, and what has been done since a base: nx0 are the names there. -/
structure AtB (nx0 : Nat) (ρb : Rho) (wb : World) (ρ : Rho) (e : T AV) (h : Hp) (a : Act) (w : World) (n B : Nat) : Prop where
  s : At ρ e h a w n B
  st : Stepped ρb nx0 h.lg wb ρ h.nx w
/-- What code comes to, out of a round. -/
def RunB (P : Program) (nx0 : Nat) (c : Code) (e : T AV) (h : Hp) (K : Ex → T AV → Hp → Prop) : Prop :=
  ∀ n, okCode n c = true → ∀ B ρb wb ρ a w Q, AtB nx0 ρb wb ρ e h a w n B → (∀ x e' h', K x e' h' → ∀ ρ' a' w', AtB nx0 ρb wb ρ' e' h' a' w' n B → Q (exOf x) a' w') → ∀ m, c.wpIn (FR none) m P Q a w
theorem RunB.mono {nx0 : Nat} {c : Code} {e : T AV} {h : Hp} {K K' : Ex → T AV → Hp → Prop} (hr : RunB P nx0 c e h K) (hk : ∀ x e' h', K x e' h' → K' x e' h') : RunB P nx0 c e h K' :=
  fun n hok B ρb wb ρ a w Q hA hQ m => hr n hok B ρb wb ρ a w Q hA (fun x e' h' k => hQ x e' h' (hk x e' h' k)) m
theorem run_bm {nx0 : Nat} {X : SumBr} {S : Sum} (G : Good P (orS (sumS X) S)) {N : Nat} {c : Code} {e : T AV} {h : Hp} {K : Ex → T AV → Hp → Prop} (hb : ((bmX P X S N).run false c e h).Holds fun x => K x.1 x.2.1 x.2.2) : RunB P nx0 c e h K := by
  obtain ⟨⟨x, e', h'⟩, hat, hk⟩ := hb.out
  have hsm := (bm_sim N).run _ _ _ _ _ hat
  intro n hok B ρb wb ρ a w Q hA hQ m
  refine (sm_ok G.mix G.ok G.sum G.kl N).1 false c e h x e' h' hsm n hok B ρ a w Q hA.s (fun ρ' a' w' L h1 h2 h3 h4 h5 h6 => hQ x e' h' hk ρ' a' w' ⟨⟨h1, h2, h5, h6, Nat.le_trans hA.s.b h3.size⟩, ?_⟩) none m (fun h => by cases h)
  rw [h4]; exact hA.st.trans h3
theorem RunB.seq {nx0 : Nat} {a b : Code} {e : T AV} {h : Hp} {K1 K : Ex → T AV → Hp → Prop} (ha : RunB P nx0 a e h K1) (hb : ∀ e1 h1, K1 .normal e1 h1 → RunB P nx0 b e1 h1 K) (hx : ∀ x e1 h1, x ≠ .normal → K1 x e1 h1 → K x e1 h1) : RunB P nx0 (.seq a b) e h K := by
  intro n hok B ρb wb ρ ac w Q hA hQ m
  simp only [okCode, Bool.and_eq_true] at hok
  refine wpIn_seq (ha n hok.1 B ρb wb ρ ac w _ hA (fun x e1 h1 k1 => ?_) m)
  cases x with
  | normal => exact fun ρ1 a1 w1 hat1 => hb e1 h1 k1 n hok.2 B ρb wb ρ1 a1 w1 Q hat1 hQ m
  | exit id => exact hQ _ e1 h1 (hx _ _ _ (by simp) k1)
  | goto l => exact hQ _ e1 h1 (hx _ _ _ (by simp) k1)
  | ret => exact hQ _ e1 h1 (hx _ _ _ (by simp) k1)
theorem RunB.cond {nx0 : Nat} {o : Operand} {c1 c2 : Code} {e : T AV} {h : Hp} {K : Ex → T AV → Hp → Prop} {b : Bool} (ho : opnd e o = .s (.bool b)) (hr : RunB P nx0 (bif b then c1 else c2) e h K) : RunB P nx0 (.cond o c1 c2) e h K := by
  intro n hok B ρb wb ρ a w Q hA hQ m
  simp only [okCode, Bool.and_eq_true] at hok
  have hv := opnd_rel hA.s.e o
  rw [ho] at hv
  refine wpIn_cond (t := b) hv ?_
  cases b with
  | true => exact hr n hok.1 B ρb wb ρ a w Q hA hQ m
  | false => exact hr n hok.2 B ρb wb ρ a w Q hA hQ m
theorem RunB.skip {nx0 : Nat} {e : T AV} {h : Hp} {K : Ex → T AV → Hp → Prop} (hk : K .normal e h) : RunB P nx0 .skip e h K := by
  intro n hok B ρb wb ρ a w Q hA hQ m
  exact wpIn_skip (hQ .normal e h hk ρ a w hA)
def unblock (id : Nat) : Ex → Ex
  | .exit id' => if id' = id then .normal else .exit id'
  | x => x
theorem RunB.block {nx0 : Nat} {id : Nat} {c : Code} {e : T AV} {h : Hp} {K1 K : Ex → T AV → Hp → Prop} (hc : RunB P nx0 c e h K1) (hx : ∀ x e1 h1, K1 x e1 h1 → K (unblock id x) e1 h1) : RunB P nx0 (.block id c) e h K := by
  intro n hok B ρb wb ρ ac w Q hA hQ m
  refine wpIn_block (hc n hok B ρb wb ρ ac w _ hA (fun x e1 h1 k1 => ?_) m)
  have := hQ _ e1 h1 (hx _ _ _ k1)
  cases x with
  | normal => exact this
  | exit id' =>
    intro ρ1 a1 w1 hA1
    have := this ρ1 a1 w1 hA1
    show (if id' = id then Q .normal a1 w1 else Q (.exit id') a1 w1)
    by_cases c : id' = id
    · have e : unblock id (.exit id') = .normal := if_pos c
      rw [e] at this; rw [if_pos c]; exact this
    · have e : unblock id (.exit id') = .exit id' := if_neg c
      rw [e] at this; rw [if_neg c]; exact this
  | goto l => exact this
  | ret => exact this

/-- The loop at a place of a function's code. -/
def loops : Code → List Code
  | .loop c => c :: loops c
  | .seq a b => loops a ++ loops b
  | .cond _ a b => loops a ++ loops b
  | .block _ c => loops c
  | .scope c => loops c
  | _ => []

/- Temporaries: those that are kept, and those of which nothing is known. -/
def mkJ (kept : List (Nat × AV)) (jk : List Nat) (j : Nat → Value) : T AV := kept.foldr (fun x t => T.put (x.1 + 2) t x.1 (some x.2)) (jk.foldr (fun k t => T.put (k + 2) t k (some (.s (j k)))) .leaf)
def T.chk {α : Type} (p : Nat → Bool) : T α → Nat → Nat → Bool
  | .leaf, _, _ => true
  | .node x l r, m, a => (match x with | some _ => p a | none => true) && T.chk p l (2 * m) (m + a) && T.chk p r (2 * m) (2 * m + a)
theorem T.chk_ok {α : Type} {p : Nat → Bool} : ∀ {t : T α} {m a k : Nat} {x : α}, T.chk p t m a = true → t.get k = some x → p (m * k + a) = true
  | .leaf, _, _, _, _, _, h => by cases h
  | .node y l r, m, a, k, x, hc, h => by
    simp only [T.chk, Bool.and_eq_true] at hc
    simp only [T.get] at h
    cases h0 : Nat.beq k 0 with
    | true =>
      have : k = 0 := Nat.eq_of_beq_eq_true h0
      subst this
      rw [h0] at h; simp only [cond_true] at h; subst h
      simpa using hc.1.1
    | false =>
      have hk : k ≠ 0 := fun c => by subst c; simp at h0
      rw [h0] at h
      simp only [cond_false] at h
      cases h1 : Nat.beq (k % 2) 1 with
      | true =>
        rw [h1] at h; simp only [cond_true] at h
        have hm : k % 2 = 1 := Nat.eq_of_beq_eq_true h1
        have := T.chk_ok hc.1.2 h
        have e : 2 * m * (k / 2) + (m + a) = m * k + a := by
          obtain ⟨q, hq⟩ : ∃ q, q = k / 2 := ⟨_, rfl⟩
          have hkq : k = 2 * q + 1 := by omega
          rw [← hq, hkq, Nat.mul_add, Nat.mul_comm 2 m, Nat.mul_assoc, Nat.mul_one]; omega
        rw [e] at this
        exact this
      | false =>
        rw [h1] at h; simp only [cond_false] at h
        have hm : k % 2 = 0 := by
          have : k % 2 ≠ 1 := fun c => by rw [c] at h1; simp at h1
          omega
        have := T.chk_ok hc.2 h
        have e : 2 * m * (k / 2 - 1) + (2 * m + a) = m * k + a := by
          obtain ⟨q, hq⟩ : ∃ q, q = k / 2 - 1 := ⟨_, rfl⟩
          have hkq : k = 2 * q + 2 := by omega
          rw [← hq, hkq, Nat.mul_add, Nat.mul_comm 2 m, Nat.mul_assoc]; omega
        rw [e] at this
        exact this
theorem get_mkJ {kept : List (Nat × AV)} {jk : List Nat} {j : Nat → Value} (t : Nat) :
    (∃ x ∈ kept, x.1 = t ∧ (mkJ kept jk j).get t = some x.2) ∨ ((∀ x ∈ kept, x.1 ≠ t) ∧ ((t ∈ jk ∧ (mkJ kept jk j).get t = some (.s (j t))) ∨ (t ∉ jk ∧ (mkJ kept jk j).get t = none))) := by
  have base : ∀ (l : List Nat), (t ∈ l ∧ (l.foldr (fun k t => T.put (k + 2) t k (some (.s (j k)))) (.leaf : T AV)).get t = some (.s (j t))) ∨ (t ∉ l ∧ (l.foldr (fun k t => T.put (k + 2) t k (some (.s (j k)))) (.leaf : T AV)).get t = none) := by
    intro l
    induction l with
    | nil => exact .inr ⟨by simp, rfl⟩
    | cons k l ih =>
      simp only [List.foldr_cons]
      rw [T.get_put']
      by_cases c : t = k
      · subst c; rw [if_pos rfl]; exact .inl ⟨by simp, rfl⟩
      · rw [if_neg c]
        rcases ih with ⟨h1, h2⟩ | ⟨h1, h2⟩
        · exact .inl ⟨by simp [h1], h2⟩
        · exact .inr ⟨by simp [c, h1], h2⟩
  unfold mkJ
  induction kept with
  | nil => exact .inr ⟨by simp, base jk⟩
  | cons y l ih =>
    simp only [List.foldr_cons]
    rw [T.get_put']
    by_cases c : t = y.1
    · rw [if_pos c]; exact .inl ⟨y, by simp, c.symm, rfl⟩
    · rw [if_neg c]
      rcases ih with ⟨x, h1, h2, h3⟩ | ⟨h1, h2⟩
      · exact .inl ⟨x, by simp [h1], h2, h3⟩
      · refine .inr ⟨fun x hx => ?_, h2⟩
        rcases List.mem_cons.1 hx with rfl | hx
        · exact fun e => c e.symm
        · exact h1 x hx

/- New names. -/
mutual
def AV.ren (r : Nat → Option Nat) : AV → Option AV
  | .v x => some (.v x)
  | .ptr n i c => (r n).map fun m => .ptr m i c
  | .sl n off len cap => (r n).map fun m => .sl m off len cap
  | .none0 z => some (.none0 z)
  | .mp n => (r n).map .mp
  | .fn f cs => (renL r cs).map (.fn f)
  | .agg cs => (renL r cs).map .agg
  | .tup cs => (renL r cs).map .tup
  | .yld n => (r n).map .yld
  | .s x => some (.s x)
  | .osl n len => (r n).map fun m => .osl m len
  | .fz f len ks => some (.fz f len ks)
  | .fzp f len ks i c => some (.fzp f len ks i c)
  | .z0 => some .z0
def renL (r : Nat → Option Nat) : List AV → Option (List AV)
  | [] => some []
  | x :: xs => match x.ren r, renL r xs with
    | some y, some ys => some (y :: ys)
    | _, _ => none
end
def RenOk (r : Nat → Option Nat) (ρ ρ' : Rho) : Prop := ∀ n m p, r n = some m → ρ n = some p → ρ' m = some p
mutual
theorem ren_rel {r : Nat → Option Nat} {ρ ρ' : Rho} (h : RenOk r ρ ρ') : ∀ (x x' : AV) (y : Value), x.ren r = some x' → VRel ρ x y → VRel ρ' x' y
  | .v _, _, _, e, hr => by simp only [AV.ren] at e; cases e; exact hr
  | .s _, _, _, e, hr => by simp only [AV.ren] at e; cases e; exact hr
  | .none0 _, _, _, e, hr => by simp only [AV.ren] at e; cases e; exact hr
  | .fz _ _ _, _, _, e, hr => by simp only [AV.ren] at e; cases e; exact hr
  | .fzp _ _ _ _ _, _, _, e, hr => by simp only [AV.ren] at e; cases e; exact hr
  | .z0, _, _, e, hr => by simp only [AV.ren] at e; cases e; exact hr
  | .ptr n i c, _, _, e, ⟨p, hp, k⟩ => by
    simp only [AV.ren, Option.map_eq_some_iff] at e
    obtain ⟨m, hm, rfl⟩ := e
    exact ⟨p, h _ _ _ hm hp, k⟩
  | .sl n off len cap, _, _, e, ⟨p, q, hp, k⟩ => by
    simp only [AV.ren, Option.map_eq_some_iff] at e
    obtain ⟨m, hm, rfl⟩ := e
    exact ⟨p, q, h _ _ _ hm hp, k⟩
  | .mp n, _, _, e, ⟨p, hp, k⟩ => by
    simp only [AV.ren, Option.map_eq_some_iff] at e
    obtain ⟨m, hm, rfl⟩ := e
    exact ⟨p, h _ _ _ hm hp, k⟩
  | .yld n, _, _, e, ⟨p, hp, k⟩ => by
    simp only [AV.ren, Option.map_eq_some_iff] at e
    obtain ⟨m, hm, rfl⟩ := e
    exact ⟨p, h _ _ _ hm hp, k⟩
  | .osl n len, _, _, e, hr => by
    simp only [AV.ren, Option.map_eq_some_iff] at e
    obtain ⟨m, hm, rfl⟩ := e
    exact ⟨hr.1, hr.2.imp id fun ⟨p, q, hp, k⟩ => ⟨p, q, h _ _ _ hm hp, k⟩⟩
  | .fn f cs, _, _, e, ⟨ys, k, hr⟩ => by
    simp only [AV.ren, Option.map_eq_some_iff] at e
    obtain ⟨cs', hm, rfl⟩ := e
    exact ⟨ys, k, renL_rel h cs cs' _ hm hr⟩
  | .agg cs, _, _, e, ⟨ys, k, hr⟩ => by
    simp only [AV.ren, Option.map_eq_some_iff] at e
    obtain ⟨cs', hm, rfl⟩ := e
    exact ⟨ys, k, renL_rel h cs cs' _ hm hr⟩
  | .tup cs, _, _, e, ⟨ys, k, hr⟩ => by
    simp only [AV.ren, Option.map_eq_some_iff] at e
    obtain ⟨cs', hm, rfl⟩ := e
    exact ⟨ys, k, renL_rel h cs cs' _ hm hr⟩
theorem renL_rel {r : Nat → Option Nat} {ρ ρ' : Rho} (h : RenOk r ρ ρ') : ∀ (xs xs' : List AV) (ys : List Value), renL r xs = some xs' → VRels ρ xs ys → VRels ρ' xs' ys
  | [], _, _, e, hr => by simp only [renL] at e; cases e; exact hr
  | x :: xs, _, _, e, ⟨y, s, e1, hx, hs⟩ => by
    simp only [renL] at e
    split at e
    · rename_i a b ha hb
      cases e
      exact ⟨y, s, e1, ren_rel h x a y ha hx, renL_rel h xs b s hb hs⟩
    · cases e
end

/- Less is known. -/
mutual
inductive Le : AV → AV → Prop
  | refl (x : AV) : Le x x
  | vs (z : Value) : Le (.v z) (.s z)
  | nilv (n : Nat) : Le (.v (.slice none 0 0)) (.osl n 0)
  | nilz (n : Nat) : Le .z0 (.osl n 0)
  | none0 (n : Nat) : Le (.none0 true) (.osl n 0)
  | sl0 (n len : Nat) (cap : Option Nat) : Le (.sl n 0 len cap) (.osl n len)
  | nilf (f : Nat → Nat → D) (ks : List TK) : Le (.v (.slice none 0 0)) (.fz f 0 ks)
  | fz (f f' : Nat → Nat → D) (len : Nat) (ks : List TK) (h : ∀ i c, i < len → c < ks.length → f' i c = f i c) : Le (.fz f len ks) (.fz f' len ks)
  | agg (xs ys : List AV) (h : Les xs ys) : Le (.agg xs) (.agg ys)
  | tup (xs ys : List AV) (h : Les xs ys) : Le (.tup xs) (.tup ys)
inductive Les : List AV → List AV → Prop
  | nil : Les [] []
  | cons (x y : AV) (xs ys : List AV) (h : Le x y) (k : Les xs ys) : Les (x :: xs) (y :: ys)
end
mutual
theorem Le.rel (hgc : Fz.gc = false) {ρ : Rho} : ∀ {x y : AV} {v : Value}, Le x y → VRel ρ x v → VRel ρ y v
  | _, _, _, .refl x, h => h
  | _, _, _, .vs z, h => h
  | _, _, _, .nilv n, h => by cases h; exact ⟨hgc, .inl ⟨rfl, none, rfl⟩⟩
  | _, _, _, .nilz n, h => by obtain ⟨a, rfl⟩ := h; exact ⟨hgc, .inl ⟨rfl, a, rfl⟩⟩
  | _, _, _, .none0 n, h => by obtain ⟨a, k, rfl, hk⟩ := h; have := hk rfl; subst this; exact ⟨hgc, .inl ⟨rfl, some a, rfl⟩⟩
  | _, _, _, .sl0 n len cap, h => by
    obtain ⟨p, k, hp, e, hk, hs, _⟩ := h
    exact ⟨hgc, .inr ⟨p, k, hp, by simpa using e, hk, by simpa using hs⟩⟩
  | _, _, _, .nilf f ks, h => by cases h; refine ⟨hgc, ?_⟩; unfold FzRel; exact .inl ⟨rfl, none, 0, rfl, fun _ => rfl⟩
  | _, _, _, .fz f f' len ks hf, h => by
    refine ⟨hgc, ?_⟩
    have h := h.2
    unfold FzRel at h ⊢
    rcases h with h | ⟨b, o, k, C, e, fr, h1, h2, h3, h4, h5⟩
    · exact .inl h
    · exact .inr ⟨b, o, k, C, e, fr, h1, h2, h3, h4, fun i c hi hc => by rw [hf i c hi hc]; exact h5 i c hi hc⟩
  | _, _, _, .agg xs ys k, h => by obtain ⟨zs, e, hr⟩ := h; exact ⟨zs, e, Les.rel hgc k hr⟩
  | _, _, _, .tup xs ys k, h => by obtain ⟨zs, e, hr⟩ := h; exact ⟨zs, e, Les.rel hgc k hr⟩
theorem Les.rel (hgc : Fz.gc = false) {ρ : Rho} : ∀ {xs ys : List AV} {vs : List Value}, Les xs ys → VRels ρ xs vs → VRels ρ ys vs
  | _, _, _, .nil, h => h
  | _, _, _, .cons x y xs ys hx hk, ⟨v, r, e, h1, h2⟩ => ⟨v, r, e, hx.rel hgc h1, hk.rel hgc h2⟩
end
omit [Fz] in
theorem Les.length : ∀ {xs ys : List AV}, Les xs ys → xs.length = ys.length
  | _, _, .nil => rfl
  | _, _, .cons x y xs ys hx hk => by simp [hk.length]
omit [Fz] in
theorem Les.get : ∀ {xs ys : List AV}, Les xs ys → ∀ {i : Nat} {y : AV}, ys[i]? = some y → ∃ x, xs[i]? = some x ∧ Le x y
  | _, _, .nil, _, _, h => by simp at h
  | _, _, .cons x y xs ys hx hk, i, z, h => by
    cases i with
    | zero => simp at h; subst h; exact ⟨x, rfl, hx⟩
    | succ i => simp at h ⊢; exact hk.get h
omit [Fz] in
theorem Les.refl : ∀ (xs : List AV), Les xs xs
  | [] => .nil
  | x :: xs => .cons x x xs xs (.refl x) (Les.refl xs)

def findN (n : Nat) : List Nat → Nat → Option Nat
  | [], _ => none
  | x :: r, i => bif Nat.beq x n then some i else findN n r (i + 1)
omit [Fz] in
theorem findN_some {n : Nat} : ∀ {l : List Nat} {i j : Nat}, findN n l i = some j → i ≤ j ∧ l[j - i]? = some n
  | [], _, _, h => by cases h
  | x :: r, i, j, h => by
    simp only [findN] at h
    cases hb : Nat.beq x n with
    | true => rw [hb] at h; cases h; exact ⟨Nat.le_refl _, by rw [Nat.sub_self, ← Nat.eq_of_beq_eq_true hb]; rfl⟩
    | false =>
      rw [hb] at h
      obtain ⟨h1, h2⟩ := findN_some h
      refine ⟨by omega, ?_⟩
      rw [show j - i = (j - (i + 1)) + 1 by omega, List.getElem?_cons_succ]; exact h2
/-- The name at a head of what is called n. -/
def rnOf (nx0 : Nat) (ns : List Nat) (n : Nat) : Option Nat := match findN n ns nx0 with
  | some m => some m
  | none => bif Nat.blt n nx0 then some n else none
def renR (ρ : Rho) (ns : List Nat) (nx0 : Nat) : Rho := fun n => if n < nx0 then ρ n else match ns[n - nx0]? with
  | some k => ρ k
  | none => none
theorem renOk (ρ : Rho) (ns : List Nat) (nx0 : Nat) : RenOk (rnOf nx0 ns) ρ (renR ρ ns nx0) := by
  intro n m p hn hp
  unfold rnOf at hn
  unfold renR
  split at hn
  · rename_i k hk
    cases hn
    obtain ⟨h1, h2⟩ := findN_some hk
    rw [if_neg (by omega), h2]; exact hp
  · cases hb : Nat.blt n nx0 with
    | true => rw [hb] at hn; cases hn; simp at hb; rw [if_pos hb]; exact hp
    | false => rw [hb] at hn; cases hn
theorem renR_some {ρ : Rho} {ns : List Nat} {nx0 n : Nat} {p : Pl} (h : renR ρ ns nx0 n = some p) : ∃ k, ρ k = some p ∧ ((n < nx0 ∧ k = n) ∨ (nx0 ≤ n ∧ n < nx0 + ns.length ∧ ns[n - nx0]? = some k)) := by
  unfold renR at h
  by_cases c : n < nx0
  · rw [if_pos c] at h; exact ⟨n, h, .inl ⟨c, rfl⟩⟩
  · rw [if_neg c] at h
    cases hk : ns[n - nx0]? with
    | none => rw [hk] at h; cases h
    | some k =>
      rw [hk] at h
      have := (List.getElem?_eq_some_iff.1 hk).1
      exact ⟨k, h, .inr ⟨by omega, by omega, rfl⟩⟩

omit [Fz] in
/-- What is seen of an object: nothing that can be said, none (a new name), or it. -/
inductive OS where
  | bad
  | nil
  | o (x : AO)
def AO.ren (r : Nat → Option Nat) : AO → OS
  | .cells cs sz fam tip false => match renL r cs with
    | some cs' => .o (.cells cs' sz fam tip false)
    | none => .bad
  | .rows f len ks => .o (.rows f len ks)
  | _ => .bad
def osAt (h : Hp) (r : Nat → Option Nat) (n : Nat) : OS := bif Nat.blt n h.nx then (match h.ob.get n with
  | some o => o.ren r
  | none => .bad) else .nil
omit [Fz] in
/-- An object as it is to be. -/
inductive OLe : OS → AO → Prop
  | nil (f : Nat → Nat → D) (ks : List TK) : OLe .nil (.rows f 0 ks)
  | rows (f f' : Nat → Nat → D) (len : Nat) (ks : List TK) (h : ∀ i c, i < len → c < ks.length → f' i c = f i c) : OLe (.o (.rows f len ks)) (.rows f' len ks)
  | row (cs : List AV) (ds : List D) (fam : Nat) (tip : Bool) (f' : Nat → Nat → D) (len : Nat) (ks : List TK) (h1 : avDs cs = some ds) (h2 : fitsRows ks len ds = true) (h3 : len ≤ 9223372036854775807) (h4 : ∀ i c, i < len → c < ks.length → f' i c = listD ds ks.length i c) : OLe (.o (.cells cs ks.length fam tip false)) (.rows f' len ks)
  | cells (cs cs' : List AV) (sz fam fam' : Nat) (tip tip' : Bool) (h : Les cs cs') : OLe (.o (.cells cs sz fam tip false)) (.cells cs' sz fam' tip' false)
omit [Fz] in
inductive OLes : List OS → List AO → Prop
  | nil : OLes [] []
  | cons (x : OS) (y : AO) (xs : List OS) (ys : List AO) (h : OLe x y) (k : OLes xs ys) : OLes (x :: xs) (y :: ys)
omit [Fz] in
theorem OLes.length : ∀ {xs : List OS} {ys : List AO}, OLes xs ys → xs.length = ys.length
  | _, _, .nil => rfl
  | _, _, .cons x y xs ys hx hk => by simp [hk.length]
omit [Fz] in
theorem OLes.get : ∀ {xs : List OS} {ys : List AO}, OLes xs ys → ∀ {i : Nat} {y : AO}, ys[i]? = some y → ∃ x, xs[i]? = some x ∧ OLe x y
  | _, _, .nil, _, _, h => by simp at h
  | _, _, .cons x y xs ys hx hk, i, z, h => by
    cases i with
    | zero => simp at h; subst h; exact ⟨x, rfl, hx⟩
    | succ i => simp at h ⊢; exact hk.get h

def putO : Nat → List AO → T AO
  | _, [] => .leaf
  | n, o :: r => T.put (n + 2) (putO (n + 1) r) n (some o)
omit [Fz] in
theorem get_putO : ∀ (os : List AO) (a n : Nat), (putO a os).get n = if n < a then none else os[n - a]?
  | [], a, n => by simp [putO, T.get]
  | o :: r, a, n => by
    unfold putO
    rw [T.get_put', get_putO r]
    by_cases c : n = a
    · subst c; rw [if_pos rfl, if_neg (Nat.lt_irrefl _), Nat.sub_self]; rfl
    · rw [if_neg c]
      by_cases c2 : n < a
      · rw [if_pos c2, if_pos (by omega)]
      · rw [if_neg c2, if_neg (by omega), show n - a = (n - (a + 1)) + 1 by omega, List.getElem?_cons_succ]
/-- A heap of such objects alone. -/
def mkH (nx0 : Nat) (os : List AO) : Hp := ⟨putO nx0 os, nx0 + os.length, []⟩

def nodupB : List Nat → Bool
  | [] => true
  | x :: r => !(r.any (fun y => Nat.beq x y)) && nodupB r
omit [Fz] in
theorem nodupB_ok : ∀ {l : List Nat}, nodupB l = true → ∀ (i j k : Nat), l[i]? = some k → l[j]? = some k → i = j
  | [], _, i, j, k, h, _ => by simp at h
  | x :: r, hn, i, j, k, hi, hj => by
    simp only [nodupB, Bool.and_eq_true, Bool.not_eq_true'] at hn
    have hx : ∀ j, r[j]? ≠ some x := fun j h => by
      have := List.any_eq_false.1 hn.1 x (List.mem_of_getElem? h)
      simp at this
    cases i with
    | zero =>
      simp at hi; subst hi
      cases j with
      | zero => rfl
      | succ j => simp at hj; exact absurd hj (hx j)
    | succ i =>
      cases j with
      | zero => simp at hj; subst hj; simp at hi; exact absurd hi (hx i)
      | succ j => simp at hi hj; rw [nodupB_ok hn.2 i j k hi hj]

/-- **A heap by other names**: those of nx0 on are given anew; what is not named is forgotten. -/
theorem HR.ren {ρ : Rho} {h : Hp} {w : World} (hh : HR ρ h w) (hgc : Fz.gc = false) {nx0 : Nat} (hop : openB ≤ nx0) {ns : List Nat} {os : List AO} (hnd : nodupB ns = true) (ho : OLes (ns.map (osAt h (rnOf nx0 ns))) os) : HR (renR ρ ns nx0) (mkH nx0 os) w := by
  have hlen : ns.length = os.length := by simpa using ho.length
  have obj : ∀ n o, (mkH nx0 os).ob.get n = some o → nx0 ≤ n ∧ ∃ k, ns[n - nx0]? = some k ∧ OLe (osAt h (rnOf nx0 ns) k) o := fun n o e => by
    unfold mkH at e
    rw [get_putO] at e
    split at e
    · cases e
    · rename_i c
      obtain ⟨x, h1, h2⟩ := ho.get e
      rw [List.getElem?_map, Option.map_eq_some_iff] at h1
      obtain ⟨k, hk, rfl⟩ := h1
      exact ⟨by omega, k, hk, h2⟩
  have rval : ∀ n k, nx0 ≤ n → ns[n - nx0]? = some k → renR ρ ns nx0 n = ρ k := fun n k hn hk => by
    unfold renR
    rw [if_neg (by omega), hk]
  -- whoever has a place is not shared
  have apart : ∀ n o p k, (mkH nx0 os).ob.get n = some o → renR ρ ns nx0 n = some p → ns[n - nx0]? = some k → ∃ o1, h.ob.get k = some o1 ∧ o1.sh = false := fun n o p k e1 e2 e3 => by
    obtain ⟨hn, k', hk', hle⟩ := obj n o e1
    rw [e3] at hk'; cases hk'
    rw [rval n k hn e3] at e2
    have hlt := hh.dm _ _ e2
    unfold osAt at hle
    rw [show Nat.blt k h.nx = true by simpa using hlt] at hle
    cases hg : h.ob.get k with
    | none => rw [hg] at hle; cases hle
    | some o1 =>
      rw [hg] at hle
      refine ⟨o1, rfl, ?_⟩
      cases o1 with
      | cells cs sz fam tip sh =>
        cases sh with
        | false => rfl
        | true => cases hle
      | map => rfl
      | loop => rfl
      | rows => rfl
  have noshare : ∀ n m p q o o', n ≠ m → renR ρ ns nx0 n = some p → renR ρ ns nx0 m = some q → p.b = q.b → (mkH nx0 os).ob.get n = some o → (mkH nx0 os).ob.get m = some o' → False := fun n m p q o o' hnm e1 e2 hb e3 e4 => by
    obtain ⟨hn, k, hk, _⟩ := obj n o e3
    obtain ⟨hm, l, hl, _⟩ := obj m o' e4
    obtain ⟨o1, g1, s1⟩ := apart n o p k e3 e1 hk
    obtain ⟨o2, g2, s2⟩ := apart m o' q l e4 e2 hl
    rw [rval n k hn hk] at e1
    rw [rval m l hm hl] at e2
    have hkl : k ≠ l := fun c => by
      subst c
      have := nodupB_ok hnd _ _ _ hk hl
      omega
    have := (hh.sep k l p q o1 o2 hkl e1 e2 hb g1 g2).2.1
    rw [s1] at this; cases this
  refine ⟨fun n p e => ?_, fun n o e hn => ?_, fun n m p q o o' hnm e1 e2 hb e3 e4 => ?_, fun n m p q o o' e1 e2 hb e3 e4 ht => ?_, fun n m p q o o' hnm e1 e2 hb e3 e4 ht => ?_, hh.fz, fun n p e => ?_, fun _ => Nat.le_trans hop (Nat.le_add_right _ _)⟩
  · obtain ⟨k, h1, h2⟩ := renR_some e
    refine ⟨?_, (hh.dom _ _ h1).2⟩
    show n < nx0 + os.length
    omega
  · obtain ⟨hge, k, hk, hle⟩ := obj n o e
    rw [rval n k hge hk]
    unfold osAt at hle
    cases hb : Nat.blt k h.nx with
    | false =>
      rw [hb] at hle
      cases hle
      refine .inr ⟨?_, rfl⟩
      cases hr : ρ k with
      | none => rfl
      | some p =>
        have hlt := hh.dm _ _ hr
        rw [show Nat.blt k h.nx = true by simpa using hlt] at hb; cases hb
    | true =>
      rw [hb] at hle
      simp only [cond_true] at hle
      cases hg : h.ob.get k with
      | none => rw [hg] at hle; cases hle
      | some o1 =>
        rw [hg] at hle
        have hlt : k < h.nx := by simpa using hb
        rcases hh.obj0 k o1 hg hlt with ⟨p, hp, hr⟩ | ⟨hp, hz⟩
        · refine .inl ⟨p, hp, ?_⟩
          cases o1 with
          | cells cs sz fam tip sh =>
            cases sh with
            | true => cases hle
            | false =>
              simp only [AO.ren] at hle
              split at hle
              · rename_i cs1 hcs
                obtain ⟨r1, r2, C, eT, r3, r4, r5⟩ := hr
                have hl1 : cs.length = cs1.length := renL_len hcs
                cases hle with
                | row _ ds _ _ f' len ks h1 h2 h3 h4 =>
                  obtain ⟨f1, f2⟩ := fitsRows_get h2
                  have hl2 : ds.length = cs1.length := avDs_len h1
                  refine ⟨r1, ⟨hgc, by omega, h3⟩, C, eT, r3, r4, fun i c hi hc => ?_⟩
                  obtain ⟨tk, d, g1, g2, g3⟩ := f2 i c hi hc
                  have e1 : listD ds ks.length i c = d := by unfold listD; simp [List.getD_eq_getElem?_getD, g2]
                  rw [h4 i c hi hc, e1]
                  obtain ⟨x1, x2, x3⟩ := avDs_get h1 g2
                  obtain ⟨x0, x4, x5⟩ := renL_get hcs x2
                  obtain ⟨y, hy, hrel⟩ := r5 _ x0 x4
                  exact ⟨⟨tk, g1, g3⟩, y, hy, d_rel x3 (ren_rel (renOk ρ ns nx0) _ _ _ x5 hrel)⟩
                | cells _ cs' _ _ fam' _ tip' hles =>
                  refine ⟨r1, by rw [← hles.length, ← hl1]; exact r2, C, eT, r3, r4, fun j x hj => ?_⟩
                  obtain ⟨x1, h1, h2⟩ := hles.get hj
                  obtain ⟨x0, h3, h4⟩ := renL_get hcs h1
                  obtain ⟨y, hy, hrel⟩ := r5 j x0 h3
                  exact ⟨y, hy, h2.rel hgc (ren_rel (renOk ρ ns nx0) _ _ _ h4 hrel)⟩
              · cases hle
          | map => cases hle
          | loop => cases hle
          | rows f len ks =>
            simp only [AO.ren] at hle
            cases hle
            rename_i f' hf
            obtain ⟨r1, r2, C, e, r3, r4, r5⟩ := hr
            exact ⟨r1, r2, C, e, r3, r4, fun i c hi hc => by rw [hf i c hi hc]; exact r5 i c hi hc⟩
        · refine .inr ⟨hp, ?_⟩
          cases o1 with
          | rows f len ks =>
            simp only [AO.ren] at hle
            cases hle
            exact hz
          | cells => exact hz.elim
          | map => exact hz.elim
          | loop => exact hz.elim
  · exact (noshare n m p q o o' hnm e1 e2 hb e3 e4).elim
  · by_cases c : n = m
    · subst c
      rw [e1] at e2; cases e2
      rw [e3] at e4; cases e4
      exact Nat.le_refl _
    · exact (noshare n m p q o o' c e1 e2 hb e3 e4).elim
  · exact (noshare n m p q o o' hnm e1 e2 hb e3 e4).elim
  · obtain ⟨k, h1, _⟩ := renR_some e
    exact hh.nf k p h1
where
  avDs_len : ∀ {xs : List AV} {ds : List D}, avDs xs = some ds → ds.length = xs.length
    | [], _, h => by simp only [avDs] at h; cases h; rfl
    | x :: xs, _, h => by
      simp only [avDs] at h
      split at h
      · rename_i a b ha hb; cases h; simp [avDs_len hb]
      · cases h
  avDs_get : ∀ {xs : List AV} {ds : List D}, avDs xs = some ds → ∀ {i : Nat} {d : D}, ds[i]? = some d → ∃ x, xs[i]? = some x ∧ x.d = some d
    | [], _, h, i, d, hd => by simp only [avDs] at h; cases h; simp at hd
    | x :: xs, _, h, i, d, hd => by
      simp only [avDs] at h
      split at h
      · rename_i a b ha hb
        cases h
        cases i with
        | zero => simp at hd; subst hd; exact ⟨x, rfl, ha⟩
        | succ i => simp at hd ⊢; exact avDs_get hb hd
      · cases h
  renL_len {r : Nat → Option Nat} : ∀ {xs ys : List AV}, renL r xs = some ys → xs.length = ys.length
    | [], _, h => by simp only [renL] at h; cases h; rfl
    | x :: xs, _, h => by
      simp only [renL] at h
      split at h
      · rename_i a b ha hb; cases h; simp [renL_len hb]
      · cases h
  renL_get {r : Nat → Option Nat} : ∀ {xs ys : List AV}, renL r xs = some ys → ∀ {i : Nat} {y : AV}, ys[i]? = some y → ∃ x, xs[i]? = some x ∧ x.ren r = some y
    | [], _, h, i, y, hy => by simp only [renL] at h; cases h; simp at hy
    | x :: xs, _, h, i, y, hy => by
      simp only [renL] at h
      split at h
      · rename_i a b ha hb
        cases h
        cases i with
        | zero => simp at hy; subst hy; exact ⟨x, rfl, ha⟩
        | succ i => simp at hy ⊢; exact renL_get hb hy
      · cases h

/- What is looked at of a state. -/
/-- Where a name stands: in a temporary, and on from there: a part, or a cell. -/
abbrev Loc := Nat × List Nat
def walkL (h : Hp) : List Nat → AV → Option AV
  | [], x => some x
  | i :: r, .agg cs => (cs[i]?).bind (walkL h r)
  | i :: r, .tup cs => (cs[i]?).bind (walkL h r)
  | i :: r, .ptr n j d => match h.ob.get n with
    | some (.cells cs sz _ _ _) => (cs[j * sz + d + i]?).bind (walkL h r)
    | _ => none
  | _, _ => none
def nameOf : AV → Option Nat
  | .osl n _ => some n
  | .ptr n _ _ => some n
  | .sl n _ _ _ => some n
  | .mp n => some n
  | _ => none
def nsOf (h : Hp) (x : Nat → AV) : Nat → List Loc → List Nat
  | _, [] => []
  | i, (t, p) :: r => (((walkL h p (x t)).bind nameOf).getD (h.nx + i)) :: nsOf h x (i + 1) r
omit [Fz] in
structure Cfg where
  ks : List Nat
  jk : List Nat
  loc : List Loc
omit [Fz] in
structure Ob where
  ex : Ex
  ok : Bool
  vals : List (Option AV)
  objs : List OS
def obsB (nx0 : Nat) (cf : Cfg) (a : Ex × T AV × Hp) : Ob :=
  let ns := nsOf a.2.2 (fun t => (a.2.1.get t).getD (.v undef)) 0 cf.loc
  ⟨a.1, T.chk (fun k => cf.ks.any (fun x => Nat.beq x k) || cf.jk.any (fun x => Nat.beq x k)) a.2.1 1 0 && (a.2.2.lg.all (Nat.ble nx0) && (ns.all (Nat.ble nx0) && nodupB ns)),
    cf.ks.map (fun t => ((a.2.1.get t).getD (.v undef)).ren (rnOf nx0 ns)), ns.map (osAt a.2.2 (rnOf nx0 ns))⟩
omit [Fz] in
inductive VLes : List (Option AV) → List AV → Prop
  | nil : VLes [] []
  | cons (x y : AV) (xs : List (Option AV)) (ys : List AV) (h : Le x y) (k : VLes xs ys) : VLes (some x :: xs) (y :: ys)
omit [Fz] in
theorem VLes.length : ∀ {xs : List (Option AV)} {ys : List AV}, VLes xs ys → xs.length = ys.length
  | _, _, .nil => rfl
  | _, _, .cons x y xs ys hx hk => by simp [hk.length]
omit [Fz] in
theorem VLes.get : ∀ {xs : List (Option AV)} {ys : List AV}, VLes xs ys → ∀ {i : Nat} {y : AV}, ys[i]? = some y → ∃ x, xs[i]? = some (some x) ∧ Le x y
  | _, _, .nil, _, _, h => by simp at h
  | _, _, .cons x y xs ys hx hk, i, z, h => by
    cases i with
    | zero => simp at h; subst h; exact ⟨x, rfl, hx⟩
    | succ i => simp at h ⊢; exact hk.get h
omit [Fz] in
/-- What is seen is so, at least. -/
structure Goes (o : Ob) (vals : List AV) (os : List AO) : Prop where
  ok : o.ok = true
  vals : VLes o.vals vals
  objs : OLes o.objs os
def mkE (cf : Cfg) (vals : List AV) (j : Nat → Value) : T AV := mkJ (cf.ks.zip vals) cf.jk j

theorem stepped_low {ρ ρ' ρ'' : Rho} {nx0 nx nx'' : Nat} {L : List Nat} {w w' : World} (h : Stepped ρ nx0 L w ρ' nx w') (hL : ∀ n ∈ L, nx0 ≤ n) (hle : nx0 ≤ nx'') (hold : ∀ n, n < nx0 → ρ'' n = ρ' n) (hnew : ∀ n p, nx0 ≤ n → ρ'' n = some p → ∃ k, nx0 ≤ k ∧ ρ' k = some p) : Stepped ρ nx0 [] w ρ'' nx'' w' := by
  refine ⟨hle, fun n hn => (hold n hn).trans (h.old n hn), fun n p hn e => ?_, h.size, h.os, h.tape, h.output, fun b hb _ => h.block b hb fun n p hn hlt => absurd (hL n hn) (by omega)⟩
  obtain ⟨k, hk, e⟩ := hnew n p hn e
  rcases h.new k p hk e with x | ⟨m, q, x1, x2, _⟩
  · exact .inl x
  · exact absurd (hL m x1) (by omega)
theorem Marks.range {B : Nat} {ρ ρ' : Rho} {w : World} (hr : ∀ n p, ρ' n = some p → ∃ k, ρ k = some p) : ∀ {ds : List Deferred}, Marks B ρ w ds → Marks B ρ' w ds
  | [], _ => trivial
  | d :: ds, ⟨⟨D, h1, h2, h3, h4, h5⟩, h6⟩ => ⟨⟨D, h1, h2, h3, fun n p e => by obtain ⟨k, e⟩ := hr n p e; exact h4 k p e, h5⟩, Marks.range hr h6⟩
theorem AtB.head {nx0 : Nat} (hgc : Fz.gc = false) (hop : openB ≤ nx0) {cf : Cfg} {ρb ρ : Rho} {wb w : World} {x : Ex} {e : T AV} {h : Hp} {a : Act} {n B : Nat} {vals : List AV} {os : List AO} (hA : AtB nx0 ρb wb ρ e h a w n B) (hg : Goes (obsB nx0 cf (x, e, h)) vals os) :
    ∃ ρ', AtB nx0 ρb wb ρ' (mkE cf vals fun t => a.tmps.getD t undef) (mkH nx0 os) a w n B := by
  obtain ⟨ns, hns⟩ : ∃ ns, ns = nsOf h (fun t => (e.get t).getD (.v undef)) 0 cf.loc := ⟨_, rfl⟩
  have hok := hg.ok
  have hv := hg.vals
  have ho := hg.objs
  simp only [obsB, ← hns, Bool.and_eq_true] at hok hv ho
  obtain ⟨hchk, hlg, hnsb, hnd⟩ := hok
  have hlg' : ∀ n ∈ h.lg, nx0 ≤ n := fun n hn => by have := List.all_eq_true.1 hlg n hn; simpa using this
  have hns' : ∀ n ∈ ns, nx0 ≤ n := fun n hn => by have := List.all_eq_true.1 hnsb n hn; simpa using this
  have hrange : ∀ n p, renR ρ ns nx0 n = some p → ∃ k, ρ k = some p := fun n p e => by obtain ⟨k, h1, _⟩ := renR_some e; exact ⟨k, h1⟩
  have hl : cf.ks.length = vals.length := by have := hv.length; simpa using this
  refine ⟨renR ρ ns nx0, ⟨fun t => ?_, HR.ren hA.s.h hgc hop hnd ho, hA.s.d.range hrange, hA.s.n, hA.s.b⟩, stepped_low hA.st hlg' (Nat.le_add_right _ _) (fun n hn => by unfold renR; rw [if_pos hn]) fun n p hn e => ?_⟩
  · unfold mkE
    rcases get_mkJ (kept := cf.ks.zip vals) (jk := cf.jk) (j := fun t => a.tmps.getD t undef) t with ⟨y, hy, rfl, hgt⟩ | ⟨hn, ⟨_, hgt⟩ | ⟨hn2, hgt⟩⟩
    · rw [hgt]
      obtain ⟨i, hi⟩ := List.getElem?_of_mem hy
      rw [List.getElem?_zip_eq_some] at hi
      obtain ⟨hi1, hi2⟩ := hi
      obtain ⟨z, hz, hle⟩ := hv.get hi2
      rw [List.getElem?_map, hi1, Option.map_some, Option.some.injEq] at hz
      exact hle.rel hgc (ren_rel (renOk ρ ns nx0) _ _ _ hz (hA.s.e y.1))
    · rw [hgt]; rfl
    · rw [hgt]
      cases hx : e.get t with
      | none => have := hA.s.e t; rw [hx] at this; exact this
      | some v =>
        exfalso
        have := T.chk_ok hchk hx
        simp only [Nat.one_mul, Nat.add_zero, Bool.or_eq_true, List.any_eq_true] at this
        rcases this with ⟨y, hy, hb⟩ | ⟨y, hy, hb⟩
        · have := Nat.eq_of_beq_eq_true hb
          subst this
          obtain ⟨i, hi⟩ := List.getElem?_of_mem hy
          have hlt := (List.getElem?_eq_some_iff.1 hi).1
          have : (cf.ks.zip vals)[i]? = some (y, vals[i]'(by omega)) := by
            rw [List.getElem?_zip_eq_some]; exact ⟨hi, by simp⟩
          exact hn _ (List.mem_of_getElem? this) rfl
        · have := Nat.eq_of_beq_eq_true hb
          subst this; exact hn2 hy
  · obtain ⟨k, h1, h2⟩ := renR_some e
    rcases h2 with ⟨h2, _⟩ | ⟨_, _, h2⟩
    · omega
    · exact ⟨k, hns' k (List.mem_of_getElem? h2), h1⟩

/-- At a head: by its own names, and less is known. -/
theorem RunB.head {nx0 : Nat} (hgc : Fz.gc = false) (hop : openB ≤ nx0) (cf : Cfg) {c : Code} {x : Ex} {e : T AV} {h : Hp} {K : Ex → T AV → Hp → Prop} {vals : List AV} {os : List AO} (hg : Goes (obsB nx0 cf (x, e, h)) vals os) (hr : ∀ j, RunB P nx0 c (mkE cf vals j) (mkH nx0 os) K) : RunB P nx0 c e h K := by
  intro n hok B ρb wb ρ a w Q hA hQ m
  obtain ⟨ρ', hA'⟩ := hA.head hgc hop hg
  exact hr _ n hok B ρb wb ρ' a w Q hA' hQ m

/-- **A loop.** -/
theorem RunB.loop {nx0 : Nat} (hgc : Fz.gc = false) (hop : openB ≤ nx0) {σ : Type} {c : Code} (cf : Cfg) (J : σ → Prop) (μ : σ → Nat) (vals : σ → List AV) (os : σ → List AO) {K : Ex → T AV → Hp → Prop}
    (hb : ∀ s j, J s → RunB P nx0 c (mkE cf (vals s) j) (mkH nx0 (os s)) (fun x e' h' => match x with
      | .normal => ∃ s', J s' ∧ μ s' < μ s ∧ Goes (obsB nx0 cf (.normal, e', h')) (vals s') (os s')
      | x => K x e' h')) : ∀ s j, J s → RunB P nx0 (.loop c) (mkE cf (vals s) j) (mkH nx0 (os s)) K := by
  intro s0 j0 hJ0 n hok B ρb wb ρ0 a0 w0 Q hA0 hQ m
  have key : ∀ k s j ρ a w, J s → μ s < k → AtB nx0 ρb wb ρ (mkE cf (vals s) j) (mkH nx0 (os s)) a w n B → Code.roundsIn (FR none) m P c Q k a w := by
    intro k
    induction k with
    | zero => intro s j ρ a w _ h; omega
    | succ k ih =>
      intro s j ρ a w hJ hmu hA
      show c.wpIn (FR none) m P (Exit.then (Code.roundsIn (FR none) m P c Q k) Q) a w
      refine hb s j hJ n hok B ρb wb ρ a w _ hA (fun x e' h' hx => ?_) m
      cases x with
      | normal =>
        obtain ⟨s', hJ', hmu', hgo⟩ := hx
        intro ρ' a' w' hA'
        obtain ⟨ρ2, hA2⟩ := hA'.head hgc hop hgo
        exact ih s' _ ρ2 a' w' hJ' (by omega) hA2
      | exit id => exact hQ _ e' h' hx
      | goto l => exact hQ _ e' h' hx
      | ret => exact hQ _ e' h' hx
  exact wpIn_loop_rounds (μ s0 + 1) (key (μ s0 + 1) s0 j0 ρ0 a0 w0 hJ0 (Nat.lt_succ_self _) hA0)

def Br.map {α β : Type} (f : α → β) : Br α → Br β
  | .no => .no
  | .leaf a => .leaf (f a)
  | .test b t e => .test b (t.map f) (e.map f)
  | .ob p k => .ob p (k.map f)
theorem Br.holds_map {α β : Type} {f : α → β} {K : β → Prop} : ∀ {B : Br α}, (B.map f).Holds K → B.Holds fun a => K (f a)
  | .no, h => h.elim
  | .leaf _, h => h
  | .test _ _ _, h => ⟨fun x => Br.holds_map (h.1 x), fun x => Br.holds_map (h.2 x)⟩
  | .ob _ _, h => ⟨h.1, Br.holds_map h.2⟩
theorem Br.Holds.mono {α : Type} {K K' : α → Prop} (hk : ∀ a, K a → K' a) : ∀ {B : Br α}, B.Holds K → B.Holds K'
  | .no, h => h.elim
  | .leaf _, h => hk _ h
  | .test _ _ _, h => ⟨fun x => Br.Holds.mono hk (h.1 x), fun x => Br.Holds.mono hk (h.2 x)⟩
  | .ob _ _, h => ⟨h.1, Br.Holds.mono hk h.2⟩
/-- Code without loops, by its tree. -/
theorem RunB.tree {nx0 : Nat} {X : SumBr} {S : Sum} (G : Good P (orS (sumS X) S)) {β : Type} (φ : Ex × T AV × Hp → β) {N : Nat} {c : Code} {e : T AV} {h : Hp} {Tr : Br β} {KO : β → Prop} (h1 : ((bmX P X S N).run false c e h).map φ = Tr) (hk : Tr.Holds KO) : RunB P nx0 c e h (fun x e' h' => KO (φ (x, e', h'))) := by
  subst h1
  exact run_bm G (Br.holds_map hk)
/-- **A loop whose round has no loops, by its tree.** -/
theorem RunB.loopT {nx0 : Nat} (hgc : Fz.gc = false) (hop : openB ≤ nx0) {X : SumBr} {S : Sum} (G : Good P (orS (sumS X) S)) {σ : Type} {N : Nat} {c : Code} (cf : Cfg) (J : σ → Prop) (μ : σ → Nat) (vals : σ → List AV) (os : σ → List AO) (tr : σ → Br Ob) (KX : Ob → Prop)
    (h1 : ∀ s j, ((bmX P X S N).run false c (mkE cf (vals s) j) (mkH nx0 (os s))).map (obsB nx0 cf) = tr s)
    (h2 : ∀ s, J s → (tr s).Holds fun o => match o.ex with
      | .normal => ∃ s', J s' ∧ μ s' < μ s ∧ Goes o (vals s') (os s')
      | _ => KX o) : ∀ s j, J s → RunB P nx0 (.loop c) (mkE cf (vals s) j) (mkH nx0 (os s)) (fun x e' h' => KX (obsB nx0 cf (x, e', h'))) := by
  refine RunB.loop hgc hop cf J μ vals os fun s j hJ => (RunB.tree G (obsB nx0 cf) (h1 s j) (h2 s hJ)).mono fun x e' h' hk => ?_
  cases x <;> exact hk

/-- **A call, by what its code comes to.** -/
theorem calls_runB {f : FuncId} {fn : Func} {c : Code} (hfn : P.funcs[f]? = some fn) (hb : fn.body = some c) (hok : okCode fn.ntmps c = true) {args : List AV} {ys : Array Value} {h : Hp} {ρ : Rho} {w : World} (hys : VRels ρ args ys.toList) (hh : HR ρ h w) {K : AV → Hp → Prop}
    (hr : RunB P h.nx c (params args) ⟨h.ob, h.nx, []⟩ (fun x e1 h1 => (x = .normal ∨ x = .ret) ∧ ∃ l, resA P h1 e1 fn.results.toList = some l ∧ K (one l) h1)) :
    Calls P f ys w fun e w' => ∃ y v ρ' h1, e = .returned y ∧ K v h1 ∧ VRel ρ' v y ∧ HR ρ' h1 w' ∧ Stepped ρ h.nx h1.lg w ρ' h1.nx w' := by
  refine callsIn_wide.1 (callsIn_of_wp_marks (n := 0) (F := Fence.wide) hfn hb trivial ?_)
  refine hr fn.ntmps hok w.heap.size ρ w ρ _ w _ ⟨⟨params_rel hys _, hh, trivial, by simp; omega, Nat.le_refl _⟩, .refl hh.dm⟩ ?_ 0
  rintro x e1 h1 ⟨hx, l, hl, hk⟩ ρ' a' w1 hA
  have fin : LeavesInM Fence.wide 0 P fn a'.tmps (fun e w' => ∃ y v ρ' h1, e = .returned y ∧ K v h1 ∧ VRel ρ' v y ∧ HR ρ' h1 w' ∧ Stepped ρ h.nx h1.lg w ρ' h1.nx w') a'.defers .returning w1 := by
    refine leaves_marks _ _ hA.s.d fun w' hs => ?_
    have hh' : HR ρ' h1 w' := HRel.world hA.s.h (Nat.le_of_eq hs.size.symm) (fun n p e => hs.keep p.b (.inr ⟨n, p, e, rfl⟩)) fun b o e => hs.keep b (.inl (Array.getElem?_eq_some_iff.1 (hh.fz b o e)).1)
    obtain ⟨y, hy, hvr⟩ := results_run (P := P) hA.s.e hh' hl
    refine ⟨y, hy, y, one l, ρ', h1, rfl, hk, hvr, hh', hA.st.le, hA.st.old, hA.st.new, by rw [hs.size]; exact hA.st.size, hs.os.trans hA.st.os, hs.tape.trans hA.st.tape, hs.output.trans hA.st.output, fun b hb hne => (hs.keep b (.inl hb)).trans (hA.st.block b hb hne)⟩
  rcases hx with rfl | rfl
  · exact fin
  · exact fin

end Ev
end Go.Proofs.YtffcaapbmkaceaaDoor
