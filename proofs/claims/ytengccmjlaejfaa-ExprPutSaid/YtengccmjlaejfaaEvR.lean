/- What the evaluator's states have to do with the model's: relations and their laws. No condition. -/
import Derived.Test.YtengccmjlaejfaaEv
import Derived.Test.YtengccmjlaejfaaFr
import Derived.Laws.CopyRow
namespace Go.Proofs.Ytengccmjlaejfaa
namespace Ev
open Go.RowKit

structure Pl where
  b : Nat
  o : Nat
  z : Nat
  s : Nat

abbrev Rho := Nat → Option Pl

/-- Memory that nobody writes. -/
class Fz where
  m : Nat → Option Obj
  gc : Bool
set_option linter.unusedSectionVars false
variable [Fz]
/-- A value reads so, in memory that nobody writes. -/
def FzRel : D → Value → Prop
  | .v x, y => y = x
  | .l f len ks, y => (len = 0 ∧ ∃ a k, y = .slice a 0 k ∧ (a = none → k = 0)) ∨ ∃ b o k C e fr, y = .slice (some ⟨b, o, none⟩) len k ∧ len ≤ k ∧ Fz.m b = some (.cells C e fr) ∧ (o + len * ks.length ≤ C.size ∧ len ≤ 9223372036854775807) ∧ ∀ i c, i < len → c < ks.length → (∃ tk, ks[c]? = some tk ∧ tk.fit (f i c) = true) ∧ ∃ z, C[o + (i * ks.length + c)]? = some z ∧ FzRel (f i c) z
/-- What lies at a place there. -/
def FzAt (f : Nat → Nat → D) (len : Nat) (ks : List TK) (b o : Nat) : Prop :=
  ∃ C e fr, Fz.m b = some (.cells C e fr) ∧ (o + len * ks.length ≤ C.size ∧ len ≤ 9223372036854775807) ∧ ∀ i c, i < len → c < ks.length → (∃ tk, ks[c]? = some tk ∧ tk.fit (f i c) = true) ∧ ∃ z, C[o + (i * ks.length + c)]? = some z ∧ FzRel (f i c) z

mutual
def VRel (ρ : Rho) : AV → Value → Prop
  | .v x, y => y = x
  | .ptr n i c, y => ∃ p, ρ n = some p ∧ y = .pointer (some ⟨p.b, p.o + (i * p.z + c), none⟩)
  | .sl n off len cap, y => ∃ p k, ρ n = some p ∧ y = .slice (some ⟨p.b, p.o + off * p.z, none⟩) len k ∧ len ≤ k ∧ p.o + (off + k) * p.z ≤ p.s ∧ ∀ c, cap = some c → k = c
  | .none0 z, y => ∃ a k, y = .slice (some a) 0 k ∧ (z = true → k = 0)
  | .mp n, y => ∃ p, ρ n = some p ∧ y = .map (some p.b)
  | .fn f cs, y => ∃ ys, y = .func (.func f) #[] ys ∧ VRels ρ cs ys.toList
  | .agg cs, y => ∃ ys, y = .agg ys ∧ VRels ρ cs ys.toList
  | .tup cs, y => ∃ ys, y = .tuple ys ∧ VRels ρ cs ys.toList
  | .yld n, y => ∃ p, ρ n = some p ∧ y = .func (.yield p.b) #[] #[]
  | .s x, y => y = x
  | .osl n len, y => Fz.gc = false ∧ ((len = 0 ∧ ∃ a, y = .slice a 0 0) ∨ ∃ p k, ρ n = some p ∧ y = .slice (some ⟨p.b, p.o, none⟩) len k ∧ len ≤ k ∧ p.o + k * p.z ≤ p.s)
  | .fz f len ks, y => Fz.gc = false ∧ FzRel (.l f len ks) y
  | .fzp f len ks i c, y => Fz.gc = false ∧ ∃ b o, FzAt f len ks b o ∧ i < len ∧ y = .pointer (some ⟨b, o + (i * ks.length + c), none⟩)
  | .z0, y => ∃ a, y = .slice a 0 0
  | .xs, y => ∃ a l c, y = .slice a l c
def VRels (ρ : Rho) : List AV → List Value → Prop
  | [], ys => ys = []
  | x :: xs, ys => ∃ y r, ys = y :: r ∧ VRel ρ x y ∧ VRels ρ xs r
end

def Sub (ρ ρ' : Rho) : Prop := ∀ n p, ρ n = some p → ρ' n = some p
omit [Fz] in
theorem Sub.refl (ρ : Rho) : Sub ρ ρ := fun _ _ h => h
omit [Fz] in
theorem Sub.trans {a b c : Rho} (h : Sub a b) (k : Sub b c) : Sub a c := fun n p e => k n p (h n p e)

mutual
theorem VRel.mono {ρ ρ' : Rho} (h : Sub ρ ρ') : ∀ (x : AV) (y : Value), VRel ρ x y → VRel ρ' x y
  | .v _, _, e => e
  | .ptr _ _ _, _, ⟨p, hp, e⟩ => ⟨p, h _ _ hp, e⟩
  | .sl _ _ _ _, _, ⟨p, k, hp, e⟩ => ⟨p, k, h _ _ hp, e⟩
  | .none0 _, _, e => e
  | .mp _, _, ⟨p, hp, e⟩ => ⟨p, h _ _ hp, e⟩
  | .fn _ cs, _, ⟨ys, e, r⟩ => ⟨ys, e, VRels.mono h cs _ r⟩
  | .agg cs, _, ⟨ys, e, r⟩ => ⟨ys, e, VRels.mono h cs _ r⟩
  | .tup cs, _, ⟨ys, e, r⟩ => ⟨ys, e, VRels.mono h cs _ r⟩
  | .yld _, _, ⟨p, hp, e⟩ => ⟨p, h _ _ hp, e⟩
  | .s _, _, e => e
  | .osl _ _, _, e => ⟨e.1, e.2.imp id fun ⟨p, k, hp, e⟩ => ⟨p, k, h _ _ hp, e⟩⟩
  | .fz _ _ _, _, e => e
  | .fzp _ _ _ _ _, _, e => e
  | .z0, _, e => e
  | .xs, _, e => e
theorem VRels.mono {ρ ρ' : Rho} (h : Sub ρ ρ') : ∀ (xs : List AV) (ys : List Value), VRels ρ xs ys → VRels ρ' xs ys
  | [], _, e => e
  | x :: xs, _, ⟨y, r, e, hx, hr⟩ => ⟨y, r, e, VRel.mono h x y hx, VRels.mono h xs r hr⟩
end

mutual
/-- A value that names nothing from n on keeps its meaning where the names from n on are struck. -/
theorem VRel.low {ρ : Rho} {n : Nat} : ∀ (x : AV) (y : Value), x.low n = true → VRel ρ x y → VRel (fun k => if k < n then ρ k else none) x y
  | .v _, _, _, e => e
  | .ptr m _ _, _, l, ⟨p, hp, e⟩ => ⟨p, by simp only [AV.low, Nat.blt_eq] at l; simp [l, hp], e⟩
  | .sl m _ _ _, _, l, ⟨p, k, hp, e⟩ => ⟨p, k, by simp only [AV.low, Nat.blt_eq] at l; simp [l, hp], e⟩
  | .none0 _, _, _, e => e
  | .mp m, _, l, ⟨p, hp, e⟩ => ⟨p, by simp only [AV.low, Nat.blt_eq] at l; simp [l, hp], e⟩
  | .fn _ cs, _, l, ⟨ys, e, r⟩ => ⟨ys, e, VRels.low cs _ (by simpa [AV.low] using l) r⟩
  | .agg cs, _, l, ⟨ys, e, r⟩ => ⟨ys, e, VRels.low cs _ (by simpa [AV.low] using l) r⟩
  | .tup cs, _, l, ⟨ys, e, r⟩ => ⟨ys, e, VRels.low cs _ (by simpa [AV.low] using l) r⟩
  | .yld m, _, l, ⟨p, hp, e⟩ => ⟨p, by simp only [AV.low, Nat.blt_eq] at l; simp [l, hp], e⟩
  | .s _, _, _, e => e
  | .osl m _, _, l, e => ⟨e.1, e.2.imp id fun ⟨p, k, hp, e⟩ => ⟨p, k, by simp only [AV.low, Nat.blt_eq] at l; simp [l, hp], e⟩⟩
  | .fz _ _ _, _, _, e => e
  | .fzp _ _ _ _ _, _, _, e => e
  | .z0, _, _, e => e
  | .xs, _, _, e => e
theorem VRels.low {ρ : Rho} {n : Nat} : ∀ (xs : List AV) (ys : List Value), lowL n xs = true → VRels ρ xs ys → VRels (fun k => if k < n then ρ k else none) xs ys
  | [], _, _, e => e
  | x :: xs, _, l, ⟨y, r, e, hx, hr⟩ => by
    simp only [lowL, Bool.and_eq_true] at l
    exact ⟨y, r, e, VRel.low x y l.1 hx, VRels.low xs r l.2 hr⟩
end

theorem VRels.length {ρ : Rho} : ∀ {xs : List AV} {ys : List Value}, VRels ρ xs ys → ys.length = xs.length
  | [], _, e => by simp only [VRels] at e; simp [e]
  | x :: xs, _, ⟨y, r, e, _, hr⟩ => by simp [e, VRels.length hr]
theorem VRels.get {ρ : Rho} : ∀ {xs : List AV} {ys : List Value}, VRels ρ xs ys → ∀ {i : Nat} {x : AV}, xs[i]? = some x → ∃ y, ys[i]? = some y ∧ VRel ρ x y
  | [], _, _, i, x, hi => by simp at hi
  | a :: xs, _, ⟨y, r, e, hx, hr⟩, i, x, hi => by
    subst e
    cases i with
    | zero => simp at hi; subst hi; exact ⟨y, rfl, hx⟩
    | succ i => simp at hi ⊢; exact hr.get hi
theorem VRels.append {ρ : Rho} : ∀ {xs xs' : List AV} {ys ys' : List Value}, VRels ρ xs ys → VRels ρ xs' ys' → VRels ρ (xs ++ xs') (ys ++ ys')
  | [], _, _, _, e, h => by simp only [VRels] at e; subst e; exact h
  | x :: xs, _, _, _, ⟨y, r, e, hx, hr⟩, h => by subst e; exact ⟨y, _, rfl, hx, hr.append h⟩
theorem VRels.take {ρ : Rho} : ∀ {xs : List AV} {ys : List Value} (n : Nat), VRels ρ xs ys → VRels ρ (xs.take n) (ys.take n)
  | [], _, n, e => by simp only [VRels] at e; subst e; simp [VRels]
  | x :: xs, _, n, ⟨y, r, e, hx, hr⟩ => by
    subst e
    cases n with
    | zero => simp [VRels]
    | succ n => exact ⟨y, _, rfl, hx, hr.take n⟩
theorem VRels.drop {ρ : Rho} : ∀ {xs : List AV} {ys : List Value} (n : Nat), VRels ρ xs ys → VRels ρ (xs.drop n) (ys.drop n)
  | [], _, n, e => by simp only [VRels] at e; subst e; simp [VRels]
  | x :: xs, _, n, ⟨y, r, e, hx, hr⟩ => by
    subst e
    cases n with
    | zero => exact ⟨y, _, rfl, hx, hr⟩
    | succ n => exact hr.drop n
theorem VRels.ofS {ρ : Rho} : ∀ (ys : List Value), VRels ρ (ys.map .s) ys
  | [] => rfl
  | y :: r => ⟨y, r, rfl, rfl, VRels.ofS r⟩
theorem VRels.ofPlain {ρ : Rho} : ∀ (ys : List Value), VRels ρ (ys.map .v) ys
  | [] => rfl
  | y :: r => ⟨y, r, rfl, rfl, VRels.ofPlain r⟩
/-- Values laid together one by one. -/
theorem VRels.of {ρ : Rho} : ∀ {xs : List AV} {ys : List Value}, ys.length = xs.length → (∀ (i : Nat) (x : AV) (y : Value), xs[i]? = some x → ys[i]? = some y → VRel ρ x y) → VRels ρ xs ys
  | [], [], _, _ => rfl
  | [], _ :: _, h, _ => by simp at h
  | _ :: _, [], h, _ => by simp at h
  | x :: xs, y :: ys, h, k => ⟨y, ys, rfl, k 0 x y rfl rfl, VRels.of (by simpa using h) (fun i a b ha hb => k (i + 1) a b (by simpa using ha) (by simpa using hb))⟩
/-- A stretch of an array that holds what a list names. -/
theorem VRels.pick {ρ : Rho} (C : List Value) : ∀ (xs : List AV) (o : Nat), (∀ j x, xs[j]? = some x → ∃ y, C[o + j]? = some y ∧ VRel ρ x y) → ∃ ys, VRels ρ xs ys ∧ ys.length = xs.length ∧ ∀ j y, ys[j]? = some y → C[o + j]? = some y
  | [], _, _ => ⟨[], rfl, rfl, fun j y h => by simp at h⟩
  | x :: xs, o, h => by
    obtain ⟨y, hy, hr⟩ := h 0 x rfl
    obtain ⟨ys, h1, h2, h3⟩ := VRels.pick C xs (o + 1) (fun j a ha => by
      obtain ⟨y', hy', hr'⟩ := h (j + 1) a (by simpa using ha)
      exact ⟨y', by rw [show o + 1 + j = o + (j + 1) by omega]; exact hy', hr'⟩)
    refine ⟨y :: ys, ⟨y, ys, rfl, hr, h1⟩, by simp [h2], fun j z hz => ?_⟩
    cases j with
    | zero => simp at hz; subst hz; exact hy
    | succ j => simp at hz; have := h3 j z hz; rw [show o + (j + 1) = o + 1 + j by omega]; exact this

theorem plain_rel {ρ : Rho} {x : AV} {y z : Value} (h : x.plain? = some y) (r : VRel ρ x z) : z = y := by
  cases x <;> simp only [AV.plain?] at h
  case v => simp only [VRel] at r; cases h; exact r
  case fn f cs =>
    cases cs with
    | nil =>
      cases h
      obtain ⟨ys, e, hr⟩ := r
      simp only [VRels] at hr
      rw [e, show ys = #[] from Array.ext' (by simpa using hr)]
    | cons => simp at h
  all_goals simp at h
theorem plains_rel {ρ : Rho} : ∀ {xs : List AV} {ys zs : List Value}, plains xs = some ys → VRels ρ xs zs → zs = ys
  | [], _, _, h, r => by simp only [plains] at h; cases h; exact r
  | x :: xs, ys, zs, h, ⟨y, r, e, hx, hr⟩ => by
    simp only [plains] at h
    split at h
    · rename_i a b ha hb
      cases h
      rw [e, plain_rel ha hx, plains_rel hb hr]
    · cases h
mutual
theorem unP_rel {ρ : Rho} : ∀ {x : AV} {y z : Value}, unP x = some y → VRel ρ x z → z = y
  | .v _, _, _, h, r => by simp only [unP] at h; cases h; exact r
  | .s _, _, _, h, r => by simp only [unP] at h; cases h; exact r
  | .agg cs, _, _, h, r => by
    simp only [unP, Option.map_eq_some_iff] at h
    obtain ⟨ys, h1, rfl⟩ := h
    obtain ⟨zs, rfl, r⟩ := r
    rw [← unPs_rel h1 r]
  | .tup cs, _, _, h, r => by
    simp only [unP, Option.map_eq_some_iff] at h
    obtain ⟨ys, h1, rfl⟩ := h
    obtain ⟨zs, rfl, r⟩ := r
    rw [← unPs_rel h1 r]
  | .fn f cs, _, _, h, r => by
    cases cs with
    | nil =>
      simp only [unP] at h
      cases h
      obtain ⟨ys, e, hr⟩ := r
      simp only [VRels] at hr
      rw [e, show ys = #[] from Array.ext' (by simpa using hr)]
    | cons => simp [unP] at h
  | .ptr _ _ _, _, _, h, _ => by simp [unP] at h
  | .sl _ _ _ _, _, _, h, _ => by simp [unP] at h
  | .none0 _, _, _, h, _ => by simp [unP] at h
  | .mp _, _, _, h, _ => by simp [unP] at h
  | .yld _, _, _, h, _ => by simp [unP] at h
  | .osl _ _, _, _, h, _ => by simp [unP] at h
  | .fz _ _ _, _, _, h, _ => by simp [unP] at h
  | .fzp _ _ _ _ _, _, _, h, _ => by simp [unP] at h
  | .z0, _, _, h, _ => by simp [unP] at h
  | .xs, _, _, h, _ => by simp [unP] at h
theorem unPs_rel {ρ : Rho} : ∀ {xs : List AV} {ys zs : List Value}, unPs xs = some ys → VRels ρ xs zs → zs = ys
  | [], _, _, h, r => by simp only [unPs] at h; cases h; exact r
  | x :: xs, ys, zs, h, ⟨y, r, e, hx, hr⟩ => by
    simp only [unPs] at h
    split at h
    · rename_i a b ha hb
      cases h
      rw [e, unP_rel ha hx, unPs_rel hb hr]
    · cases h
end
theorem mkAgg_rel {ρ : Rho} {cs : List AV} {ys : List Value} (r : VRels ρ cs ys) : VRel ρ (mkAgg cs) (.agg ys.toArray) := by
  unfold mkAgg
  split
  · rename_i zs h; rw [plains_rel h r]; rfl
  · exact ⟨_, rfl, by simpa using r⟩
theorem mkTup_rel {ρ : Rho} {cs : List AV} {ys : List Value} (r : VRels ρ cs ys) : VRel ρ (mkTup cs) (.tuple ys.toArray) := by
  unfold mkTup
  split
  · rename_i zs h; rw [plains_rel h r]; rfl
  · exact ⟨_, rfl, by simpa using r⟩
theorem cells_rel {ρ : Rho} {x : AV} {y : Value} (r : VRel ρ x y) : VRels ρ x.cells y.cells.toList := by
  have one : ∀ (a : AV) (b : Value), VRel ρ a b → b.cells = #[b] → a.cells = [a] → VRels ρ a.cells b.cells.toList := fun a b h e1 e2 => by rw [e1, e2]; exact ⟨b, [], rfl, h, rfl⟩
  cases x with
  | v z =>
    cases r
    cases y <;> first | exact VRels.ofPlain _ | exact one _ _ rfl rfl rfl
  | s z =>
    cases r
    cases y <;> first | exact VRels.ofS _ | exact one _ _ rfl rfl rfl
  | agg cs => obtain ⟨ys, e, hr⟩ := r; subst e; exact hr
  | ptr => have r' := r; obtain ⟨p, hp, e⟩ := r'; subst e; exact one _ _ r rfl rfl
  | sl => have r' := r; obtain ⟨p, k, hp, e, _⟩ := r'; subst e; exact one _ _ r rfl rfl
  | none0 => have r' := r; obtain ⟨a, k, e, _⟩ := r'; subst e; exact one _ _ r rfl rfl
  | mp => have r' := r; obtain ⟨p, hp, e⟩ := r'; subst e; exact one _ _ r rfl rfl
  | fn => have r' := r; obtain ⟨ys, e, _⟩ := r'; subst e; exact one _ _ r rfl rfl
  | tup => have r' := r; obtain ⟨ys, e, _⟩ := r'; subst e; exact one _ _ r rfl rfl
  | yld => have r' := r; obtain ⟨p, hp, e⟩ := r'; subst e; exact one _ _ r rfl rfl
  | osl => have r' := r; rcases r' with ⟨_, ⟨_, a, e⟩ | ⟨p, k, hp, e, _⟩⟩ <;> (subst e; exact one _ _ r rfl rfl)
  | fz => have r' := r.2; unfold FzRel at r'; rcases r' with ⟨_, a, k, e, _⟩ | ⟨b, o, k, C, e', fr, e, _⟩ <;> (subst e; exact one _ _ r rfl rfl)
  | fzp => have r' := r; obtain ⟨_, b, o, _, _, e⟩ := r'; subst e; exact one _ _ r rfl rfl
  | z0 => have r' := r; obtain ⟨a, e⟩ := r'; subst e; exact one _ _ r rfl rfl
  | xs => have r' := r; obtain ⟨a, l, c, e⟩ := r'; subst e; exact one _ _ r rfl rfl

/-- Objects. -/
def AO.fam : AO → Option Nat
  | .cells _ _ f _ _ => some f
  | .map _ _ => none
  | .loop .. => none
  | .rows .. => none
def AO.sh : AO → Bool
  | .cells _ _ _ _ s => s
  | .map _ _ => false
  | .loop .. => false
  | .rows .. => false
def AO.tp : AO → Bool
  | .cells _ _ _ t _ => t
  | .map _ _ => false
  | .loop .. => false
  | .rows .. => false
def AO.len : AO → Nat
  | .cells cs _ _ _ _ => cs.length
  | .map _ _ => 0
  | .loop .. => 0
  | .rows .. => 0

def ERelM (ρ : Rho) : List (Value × Nat × AV) → List MapEntry → Prop
  | [], E => E = []
  | (k, b, v) :: es, E => ∃ e r, E = e :: r ∧ (e.key = k ∧ e.born = b) ∧ VRel ρ v e.val ∧ ERelM ρ es r
theorem ERelM.mono {ρ ρ' : Rho} (h : Sub ρ ρ') : ∀ {es : List (Value × Nat × AV)} {E : List MapEntry}, ERelM ρ es E → ERelM ρ' es E
  | [], _, e => e
  | (_, _, v) :: _, _, ⟨e, r, e1, e2, e3, e4⟩ => ⟨e, r, e1, e2, VRel.mono h v _ e3, e4.mono h⟩

/-- The code of an end that is pending. -/
def exC : Ex → Code
  | .normal => .skip
  | .exit id => .exit id
  | .goto l => .goto l
  | .ret => .ret
/-- The record of a loop over a function. -/
def lrec (fn : FuncId) (tmps : Array Value) (ps : List Tmp) (asg body : Code) (D : Nat) (st : LoopState) (pe : Option Ex) : Loop :=
  { state := st, pending := pe.map exC, fn := fn, tmps := tmps, params := ps.toArray, assign := asg, body := body, defers := D }
def ORel (ρ : Rho) (o : AO) (p : Pl) (w : World) : Prop :=
  match o with
  | .cells cs sz _ _ _ => p.z = sz ∧ p.o + cs.length ≤ p.s ∧ ∃ C e, w.heap[p.b]? = some (.cells C e (0, 0)) ∧ C.size = p.s ∧ ∀ j x, cs[j]? = some x → ∃ y, C[p.o + j]? = some y ∧ VRel ρ x y
  | .map es clk => ∃ E, w.heap[p.b]? = some (.map E clk) ∧ ERelM ρ es E.toList
  | .loop st e ps asg body pe => ∃ fn tmps D N, w.heap[p.b]? = some (.loop (lrec fn tmps ps asg body D st pe)) ∧ (∀ t, VRel ρ ((e.get t).getD (.v undef)) (tmps.getD t undef)) ∧ N ≤ tmps.size ∧ okCode N asg = true ∧ okCode N body = true ∧ ∀ q ∈ ps, q < N
  | .rows f len ks => p.z = ks.length ∧ (Fz.gc = false ∧ p.o + len * ks.length ≤ p.s ∧ len ≤ 9223372036854775807) ∧ ∃ C e, w.heap[p.b]? = some (.cells C e (0, 0)) ∧ C.size = p.s ∧ ∀ i c, i < len → c < ks.length → (∃ tk, ks[c]? = some tk ∧ tk.fit (f i c) = true) ∧ ∃ z, C[p.o + (i * ks.length + c)]? = some z ∧ FzRel (f i c) z
/-- A list of nothing needs no memory. -/
def AO.nil0 : AO → Prop
  | .rows _ len _ => len = 0
  | _ => False

theorem ORel.mono {ρ ρ' : Rho} (h : Sub ρ ρ') {o : AO} {p : Pl} {w : World} (r : ORel ρ o p w) : ORel ρ' o p w := by
  cases o with
  | cells cs sz f t s =>
    obtain ⟨h1, h2, C, e, h3, h4, h5⟩ := r
    exact ⟨h1, h2, C, e, h3, h4, fun j x hj => by obtain ⟨y, hy, hr⟩ := h5 j x hj; exact ⟨y, hy, hr.mono h⟩⟩
  | map es clk => obtain ⟨E, h1, h2⟩ := r; exact ⟨E, h1, h2.mono h⟩
  | loop st e ps asg body pe => obtain ⟨fn, tmps, D, N, h1, h2, h3⟩ := r; exact ⟨fn, tmps, D, N, h1, fun t => (h2 t).mono h, h3⟩
  | rows f len ks => exact r
theorem ORel.world {ρ : Rho} {o : AO} {p : Pl} {w w' : World} (h : w'.heap[p.b]? = w.heap[p.b]?) (r : ORel ρ o p w) : ORel ρ o p w' := by
  cases o with
  | cells cs sz f t s => obtain ⟨h1, h2, C, e, h3, h4⟩ := r; exact ⟨h1, h2, C, e, h.trans h3, h4⟩
  | map es clk => obtain ⟨E, h1, h2⟩ := r; exact ⟨E, h.trans h1, h2⟩
  | loop st e ps asg body pe => obtain ⟨fn, tmps, D, N, h1, h2⟩ := r; exact ⟨fn, tmps, D, N, h.trans h1, h2⟩
  | rows f len ks => obtain ⟨h1, h2, C, e, h3, h4⟩ := r; exact ⟨h1, h2, C, e, h.trans h3, h4⟩

/-- The heap. -/
structure HRel (ρ : Rho) (g : Nat → Option AO) (nx : Nat) (w : World) : Prop where
  dom : ∀ n p, ρ n = some p → n < nx ∧ p.b < w.heap.size
  obj0 : ∀ n o, g n = some o → n < nx → (∃ p, ρ n = some p ∧ ORel ρ o p w) ∨ (ρ n = none ∧ o.nil0)
  sep : ∀ n m p q o o', n ≠ m → ρ n = some p → ρ m = some q → p.b = q.b → g n = some o → g m = some o' → o.fam = o'.fam ∧ o.sh = true ∧ o'.sh = true
  tip : ∀ n m p q o o', ρ n = some p → ρ m = some q → p.b = q.b → g n = some o → g m = some o' → o.tp = true → q.o + o'.len ≤ p.o + o.len
  one : ∀ n m p q o o', n ≠ m → ρ n = some p → ρ m = some q → p.b = q.b → g n = some o → g m = some o' → o.tp = true → o'.tp = false
  fz : ∀ b o, Fz.m b = some o → w.heap[b]? = some o
  nf : ∀ n p, ρ n = some p → Fz.m p.b = none
  op : Fz.gc = false → openB ≤ nx
theorem HRel.obj {ρ : Rho} {g : Nat → Option AO} {nx : Nat} {w : World} (h : HRel ρ g nx w) (n : Nat) (o : AO) (hg : g n = some o) (hn : n < nx) (hz : ¬ o.nil0 := by intro hz; exact hz) : ∃ p, ρ n = some p ∧ ORel ρ o p w :=
  (h.obj0 n o hg hn).resolve_right fun x => hz x.2
/-- The object of a name that has a place. -/
theorem HRel.objP {ρ : Rho} {g : Nat → Option AO} {nx : Nat} {w : World} (h : HRel ρ g nx w) {n : Nat} {o : AO} {p : Pl} (hp : ρ n = some p) (hg : g n = some o) : ORel ρ o p w := by
  rcases h.obj0 n o hg (h.dom n p hp).1 with ⟨q, h1, h2⟩ | ⟨h1, _⟩
  · rw [hp] at h1; cases h1; exact h2
  · rw [hp] at h1; cases h1
theorem HRel.fzlt {ρ : Rho} {g : Nat → Option AO} {nx : Nat} {w : World} (h : HRel ρ g nx w) {b : Nat} (hb : w.heap.size ≤ b) : Fz.m b = none := by
  cases hm : Fz.m b with
  | none => rfl
  | some o => have := (Array.getElem?_eq_some_iff.1 (h.fz b o hm)).1; omega

/-- What a step does: L are the names of what it has changed. -/
structure Stepped (ρ : Rho) (nx : Nat) (L : List Nat) (w : World) (ρ' : Rho) (nx' : Nat) (w' : World) : Prop where
  le : nx ≤ nx'
  old : ∀ n, n < nx → ρ' n = ρ n
  new : ∀ n p, nx ≤ n → ρ' n = some p → w.heap.size ≤ p.b ∨ ∃ m q, m ∈ L ∧ m < nx ∧ ρ m = some q ∧ q.b = p.b
  size : w.heap.size ≤ w'.heap.size
  os : w'.os = w.os
  tape : w'.tape = w.tape
  output : w'.output = w.output
  block : ∀ b, b < w.heap.size → (∀ n p, n ∈ L → n < nx → ρ n = some p → p.b ≠ b) → w'.heap[b]? = w.heap[b]?

omit [Fz] in
theorem Stepped.refl {ρ : Rho} {nx : Nat} {w : World} (hd : ∀ n p, ρ n = some p → n < nx) : Stepped ρ nx [] w ρ nx w :=
  ⟨Nat.le_refl _, fun _ _ => rfl, fun n p h e => absurd (hd n p e) (by omega), Nat.le_refl _, rfl, rfl, rfl, fun _ _ _ => rfl⟩
omit [Fz] in
theorem Stepped.trans {ρ ρ' ρ'' : Rho} {nx nx' nx'' : Nat} {L L' : List Nat} {w w' w'' : World} (h : Stepped ρ nx L w ρ' nx' w') (k : Stepped ρ' nx' L' w' ρ'' nx'' w'') : Stepped ρ nx (L' ++ L) w ρ'' nx'' w'' where
  le := Nat.le_trans h.le k.le
  old := fun n hn => (k.old n (Nat.lt_of_lt_of_le hn h.le)).trans (h.old n hn)
  new := fun n p hn e => by
    by_cases c : n < nx'
    · rw [k.old n c] at e
      rcases h.new n p hn e with x | ⟨m, q, x1, x2, x3, x4⟩
      · exact .inl x
      · exact .inr ⟨m, q, by simp [x1], x2, x3, x4⟩
    · rcases k.new n p (by omega) e with x | ⟨m, q, x1, x2, x3, x4⟩
      · exact .inl (Nat.le_trans h.size x)
      · by_cases c' : m < nx
        · exact .inr ⟨m, q, by simp [x1], c', by rw [← h.old m c']; exact x3, x4⟩
        · rcases h.new m q (by omega) x3 with y | ⟨m', q', y1, y2, y3, y4⟩
          · exact .inl (x4 ▸ y)
          · exact .inr ⟨m', q', by simp [y1], y2, y3, y4.trans x4⟩
  size := Nat.le_trans h.size k.size
  os := k.os.trans h.os
  tape := k.tape.trans h.tape
  output := k.output.trans h.output
  block := fun b hb hc => by
    rw [k.block b (Nat.lt_of_lt_of_le hb h.size) ?_, h.block b hb (fun n p hn => hc n p (by simp [hn]))]
    intro n p hn hlt e heq
    by_cases c : n < nx
    · exact hc n p (by simp [hn]) c (by rw [← h.old n c]; exact e) heq
    · rcases h.new n p (by omega) e with y | ⟨m', q', y1, y2, y3, y4⟩
      · omega
      · exact hc m' q' (by simp [y1]) y2 y3 (y4.trans heq)
omit [Fz] in
theorem Stepped.sub {ρ ρ' : Rho} {nx nx' : Nat} {L : List Nat} {w w' : World} (h : Stepped ρ nx L w ρ' nx' w') (hd : ∀ n p, ρ n = some p → n < nx) : Sub ρ ρ' :=
  fun n p e => by rw [h.old n (hd n p e)]; exact e
omit [Fz] in
theorem Stepped.drew {ρ ρ' : Rho} {nx nx' : Nat} {L : List Nat} {w w' : World} (h : Stepped ρ nx L w ρ' nx' w') : Stepped ρ nx L w ρ' nx' w'.drew :=
  ⟨h.le, h.old, h.new, h.size, h.os, h.tape, h.output, h.block⟩
omit [Fz] in
/-- What makes nothing but new memory. -/
theorem Stepped.fr {ρ ρ' : Rho} {nx nx' : Nat} {w w' : World} (h : Stepped ρ nx [] w ρ' nx' w') : Fr noB w w' :=
  ⟨h.os, h.tape, h.output, h.size, fun b hb _ => h.block b hb (fun _ _ hn => by simp at hn)⟩

theorem HRel.dm' {ρ : Rho} {g : Nat → Option AO} {nx : Nat} {w : World} (h : HRel ρ g nx w) (n : Nat) (p : Pl) (e : ρ n = some p) : n < nx := (h.dom n p e).1
theorem HRel.world {ρ : Rho} {g : Nat → Option AO} {nx : Nat} {w w' : World} (h : HRel ρ g nx w) (hs : w.heap.size ≤ w'.heap.size) (hb : ∀ n p, ρ n = some p → w'.heap[p.b]? = w.heap[p.b]?) (hf : ∀ b o, Fz.m b = some o → w'.heap[b]? = w.heap[b]?) : HRel ρ g nx w' where
  dom := fun n p e => ⟨(h.dom n p e).1, Nat.lt_of_lt_of_le (h.dom n p e).2 hs⟩
  obj0 := fun n o e hn => (h.obj0 n o e hn).imp (fun ⟨p, h1, h2⟩ => ⟨p, h1, h2.world (hb n p h1)⟩) id
  sep := h.sep
  tip := h.tip
  one := h.one
  fz := fun b o e => (hf b o e).trans (h.fz b o e)
  nf := h.nf
  op := h.op
theorem HRel.drew {ρ : Rho} {g : Nat → Option AO} {nx : Nat} {w : World} (h : HRel ρ g nx w) : HRel ρ g nx w.drew := h.world (Nat.le_refl _) (fun _ _ _ => rfl) (fun _ _ _ => rfl)

def upd {α : Type} (f : Nat → Option α) (n : Nat) (x : α) : Nat → Option α := fun k => if k = n then some x else f k
omit [Fz] in
theorem upd_same {α : Type} (f : Nat → Option α) (n : Nat) (x : α) : upd f n x n = some x := by simp [upd]
omit [Fz] in
theorem upd_ne {α : Type} (f : Nat → Option α) {n k : Nat} (x : α) (h : k ≠ n) : upd f n x k = f k := by simp [upd, h]

omit [Fz] in
theorem T.get_put_aux {α : Type} : ∀ (n : Nat) (t : T α) (k : Nat) (v : Option α), k + 1 < 2 ^ n → ∀ j, (T.put n t k v).get j = if j = k then v else t.get j := by
  intro n
  induction n with
  | zero => intro t k v h; simp at h
  | succ n ih =>
    intro t k v h j
    have hp : 2 ^ (n + 1) = 2 * 2 ^ n := by rw [Nat.pow_succ, Nat.mul_comm]
    have hl : ∀ j, (T.leaf : T α).get j = none := fun _ => rfl
    cases t with
    | leaf =>
      simp only [T.put]
      cases h0 : Nat.beq k 0 with
      | true =>
        have : k = 0 := Nat.eq_of_beq_eq_true h0
        subst this
        simp only [cond_true, T.get]
        cases hj : Nat.beq j 0 with
        | true => have : j = 0 := Nat.eq_of_beq_eq_true hj; simp [this]
        | false => have : j ≠ 0 := fun e => by subst e; simp at hj
                   simp [this]
      | false =>
        have hk0 : k ≠ 0 := fun e => by subst e; simp at h0
        cases h1 : Nat.beq (k % 2) 1 with
        | true =>
          have hk1 : k % 2 = 1 := Nat.eq_of_beq_eq_true h1
          simp only [cond_true, cond_false, T.get]
          cases hj : Nat.beq j 0 with
          | true => have : j = 0 := Nat.eq_of_beq_eq_true hj; subst this; simp [Ne.symm hk0]
          | false =>
            cases hj1 : Nat.beq (j % 2) 1 with
            | true =>
              have : j % 2 = 1 := Nat.eq_of_beq_eq_true hj1
              simp only [cond_true, cond_false]
              rw [ih _ _ _ (by omega)]
              by_cases e : j = k
              · subst e; simp
              · have : j / 2 ≠ k / 2 := by omega
                simp [e, this, hl]
            | false =>
              have : j ≠ k := fun e => by subst e; simp [h1] at hj1
              simp [this]
        | false =>
          have hk1 : k % 2 ≠ 1 := fun e => by simp [e] at h1
          simp only [cond_false, T.get]
          cases hj : Nat.beq j 0 with
          | true => have : j = 0 := Nat.eq_of_beq_eq_true hj; subst this; simp [Ne.symm hk0]
          | false =>
            have hj0 : j ≠ 0 := fun e => by subst e; simp at hj
            cases hj1 : Nat.beq (j % 2) 1 with
            | true =>
              have : j ≠ k := fun e => by subst e; simp [h1] at hj1
              simp [this]
            | false =>
              have hj2 : j % 2 ≠ 1 := fun e => by simp [e] at hj1
              simp only [cond_false]
              rw [ih _ _ _ (by omega)]
              by_cases e : j = k
              · subst e; simp
              · have : j / 2 - 1 ≠ k / 2 - 1 := by omega
                simp [e, this, hl]
    | node x l r =>
      simp only [T.put]
      cases h0 : Nat.beq k 0 with
      | true =>
        have : k = 0 := Nat.eq_of_beq_eq_true h0
        subst this
        simp only [cond_true, T.get]
        cases hj : Nat.beq j 0 with
        | true => have : j = 0 := Nat.eq_of_beq_eq_true hj; simp [this]
        | false => have : j ≠ 0 := fun e => by subst e; simp at hj
                   simp [this]
      | false =>
        have hk0 : k ≠ 0 := fun e => by subst e; simp at h0
        cases h1 : Nat.beq (k % 2) 1 with
        | true =>
          have hk1 : k % 2 = 1 := Nat.eq_of_beq_eq_true h1
          simp only [cond_true, cond_false, T.get]
          cases hj : Nat.beq j 0 with
          | true => have : j = 0 := Nat.eq_of_beq_eq_true hj; subst this; simp [Ne.symm hk0]
          | false =>
            cases hj1 : Nat.beq (j % 2) 1 with
            | true =>
              have : j % 2 = 1 := Nat.eq_of_beq_eq_true hj1
              simp only [cond_true, cond_false]
              rw [ih _ _ _ (by omega)]
              by_cases e : j = k
              · subst e; simp
              · have : j / 2 ≠ k / 2 := by omega
                simp [e, this]
            | false =>
              have : j ≠ k := fun e => by subst e; simp [h1] at hj1
              simp [this]
        | false =>
          have hk1 : k % 2 ≠ 1 := fun e => by simp [e] at h1
          simp only [cond_false, T.get]
          cases hj : Nat.beq j 0 with
          | true => have : j = 0 := Nat.eq_of_beq_eq_true hj; subst this; simp [Ne.symm hk0]
          | false =>
            have hj0 : j ≠ 0 := fun e => by subst e; simp at hj
            cases hj1 : Nat.beq (j % 2) 1 with
            | true =>
              have : j ≠ k := fun e => by subst e; simp [h1] at hj1
              simp [this]
            | false =>
              have hj2 : j % 2 ≠ 1 := fun e => by simp [e] at hj1
              simp only [cond_false]
              rw [ih _ _ _ (by omega)]
              by_cases e : j = k
              · subst e; simp
              · have : j / 2 - 1 ≠ k / 2 - 1 := by omega
                simp [e, this]
omit [Fz] in
theorem lt_two_pow (k : Nat) : k + 1 < 2 ^ (k + 2) := by
  induction k with
  | zero => decide
  | succ k ih => rw [Nat.pow_succ]; omega
omit [Fz] in
theorem T.get_put {α : Type} (t : T α) (k : Nat) (v : α) : (T.put (k + 2) t k (some v)).get = upd t.get k v :=
  funext fun j => by rw [T.get_put_aux _ _ _ _ (lt_two_pow k)]; rfl
omit [Fz] in
theorem T.get_put' {α : Type} (t : T α) (k : Nat) (v : Option α) (j : Nat) : (T.put (k + 2) t k v).get j = if j = k then v else t.get j := T.get_put_aux _ _ _ _ (lt_two_pow k) j
omit [Fz] in
theorem T.get_map {α : Type} (f : α → α) : ∀ (t : T α) (k : Nat), (t.map f).get k = (t.get k).map f
  | .leaf, _ => rfl
  | .node x l r, k => by
    simp only [T.map, T.get]
    cases Nat.beq k 0
    · cases Nat.beq (k % 2) 1 <;> simp [T.get_map]
    · rfl

/-- New memory. -/
theorem HRel.fresh {ρ : Rho} {g : Nat → Option AO} {nx : Nat} {w : World} (h : HRel ρ g nx w) {cs : List AV} {C : Array Value} (hc : ∀ (j : Nat) x, cs[j]? = some x → ∃ y, C[j]? = some y ∧ VRel ρ x y) (sz : Nat) (e : TypeId) (f : Nat) (t s : Bool) :
    HRel (upd ρ nx ⟨w.heap.size, 0, sz, C.size⟩) (upd g nx (.cells cs sz f t s)) (nx + 1) (w.alloc (.cells C e (0, 0))) := by
  have hsub : Sub ρ (upd ρ nx ⟨w.heap.size, 0, sz, C.size⟩) := fun n p e => by have := (h.dom n p e).1; rw [upd_ne _ _ (by omega)]; exact e
  have hsz : (w.alloc (.cells C e (0, 0))).heap.size = w.heap.size + 1 := by simp
  have hold : ∀ n p, n ≠ nx → upd ρ nx ⟨w.heap.size, 0, sz, C.size⟩ n = some p → ρ n = some p ∧ p.b < w.heap.size := fun n p hn e => by
    rw [upd_ne _ _ hn] at e; exact ⟨e, (h.dom n p e).2⟩
  have hle : cs.length ≤ C.size := by
    cases hl : cs.length with
    | zero => omega
    | succ k =>
      obtain ⟨y, hy, _⟩ := hc k cs[k] (by simp)
      have := (Array.getElem?_eq_some_iff.1 hy).1
      omega
  have hpair : ∀ n m p q, n ≠ m → upd ρ nx ⟨w.heap.size, 0, sz, C.size⟩ n = some p → upd ρ nx ⟨w.heap.size, 0, sz, C.size⟩ m = some q → p.b = q.b → n ≠ nx ∧ m ≠ nx := fun n m p q hnm e1 e2 hb => by
    constructor
    · intro c
      subst c
      have := hold m q (Ne.symm hnm) e2
      rw [upd_same] at e1; cases e1; simp at hb; omega
    · intro c
      subst c
      have := hold n p hnm e1
      rw [upd_same] at e2; cases e2; simp at hb; omega
  refine ⟨fun n p e => ?_, fun n o e hn => ?_, fun n m p q o o' hnm e1 e2 hb e3 e4 => ?_, fun n m p q o o' e1 e2 hb e3 e4 ht => ?_, fun n m p q o o' hnm e1 e2 hb e3 e4 ht => ?_, fun b o e => ?_, fun n p e => ?_, fun e => Nat.le_succ_of_le (h.op e)⟩
  · by_cases c : n = nx
    · subst c; rw [upd_same] at e; cases e; rw [hsz]; exact ⟨by omega, by simp⟩
    · have := hold n p c e; rw [hsz]; exact ⟨by have := (h.dom n p this.1).1; omega, by omega⟩
  · by_cases c : n = nx
    · subst c
      rw [upd_same] at e; cases e
      refine .inl ⟨_, upd_same _ _ _, rfl, by simpa using hle, C, _, obj_alloc_new w _, rfl, fun j x hj => ?_⟩
      obtain ⟨y, hy, hr⟩ := hc j x hj
      exact ⟨y, by simpa using hy, hr.mono hsub⟩
    · rw [upd_ne _ _ c] at e
      rcases h.obj0 n o e (by omega) with ⟨p, h1, h2⟩ | ⟨h1, h2⟩
      · exact .inl ⟨p, hsub _ _ h1, (h2.world (Below.heap_alloc _ _ _ (h.dom n p h1).2)).mono hsub⟩
      · exact .inr ⟨by rw [upd_ne _ _ c]; exact h1, h2⟩
  · obtain ⟨c, c'⟩ := hpair n m p q hnm e1 e2 hb
    rw [upd_ne _ _ c] at e3; rw [upd_ne _ _ c'] at e4
    exact h.sep n m p q o o' hnm (hold n p c e1).1 (hold m q c' e2).1 hb e3 e4
  · by_cases hnm : n = m
    · subst hnm; rw [e1] at e2; cases e2; rw [e3] at e4; cases e4; exact Nat.le_refl _
    · obtain ⟨c, c'⟩ := hpair n m p q hnm e1 e2 hb
      rw [upd_ne _ _ c] at e3; rw [upd_ne _ _ c'] at e4
      exact h.tip n m p q o o' (hold n p c e1).1 (hold m q c' e2).1 hb e3 e4 ht
  · obtain ⟨c, c'⟩ := hpair n m p q hnm e1 e2 hb
    rw [upd_ne _ _ c] at e3; rw [upd_ne _ _ c'] at e4
    exact h.one n m p q o o' hnm (hold n p c e1).1 (hold m q c' e2).1 hb e3 e4 ht
  · rw [Below.heap_alloc _ _ _ (Array.getElem?_eq_some_iff.1 (h.fz b o e)).1]; exact h.fz b o e
  · by_cases c : n = nx
    · subst c; rw [upd_same] at e; cases e; exact h.fzlt (Nat.le_refl _)
    · exact h.nf n p (hold n p c e).1
omit [Fz] in
theorem Stepped.fresh {ρ : Rho} {nx : Nat} {w : World} (hd : ∀ n p, ρ n = some p → n < nx) (sz k : Nat) (o : Obj) :
    Stepped ρ nx [] w (upd ρ nx ⟨w.heap.size, 0, sz, k⟩) (nx + 1) (w.alloc o) where
  le := by omega
  old := fun n hn => upd_ne _ _ (by omega)
  new := fun n p hn e => by
    by_cases c : n = nx
    · subst c; rw [upd_same] at e; cases e; exact .inl (Nat.le_refl _)
    · rw [upd_ne _ _ c] at e; exact absurd (hd n p e) (by omega)
  size := by simp
  os := rfl
  tape := rfl
  output := rfl
  block := fun b hb _ => Below.heap_alloc _ _ _ hb


/-- A store into a row: all that shares its memory is struck. -/
theorem HRel.store {ρ : Rho} {g gk : Nat → Option AO} {nx : Nat} {w : World} (h : HRel ρ g nx w) {n sz fam : Nat} {cs cs' : List AV} {tip sh : Bool} {p : Pl} {C C' : Array Value} {e : TypeId}
    (ho : g n = some (.cells cs sz fam tip sh)) (hp : ρ n = some p) (hb : w.heap[p.b]? = some (.cells C e (0, 0))) (hl : cs'.length = cs.length) (hl' : C'.size = C.size)
    (hc : ∀ (j : Nat) x, cs'[j]? = some x → ∃ y, C'[p.o + j]? = some y ∧ VRel ρ x y) (hk : ∀ k, gk k = bif sh then (g k).map (killO fam) else g k) :
    HRel ρ (upd gk n (.cells cs' sz fam tip sh)) nx (w.setRow p.b C') := by
  have hn := h.dm' n p hp
  obtain ⟨p', hp', hz, hle, C0, e0, hb0, hC0, _⟩ := h.obj n _ ho hn
  rw [hp] at hp'; cases hp'
  rw [hb] at hb0; cases hb0
  -- what becomes of another object
  have other : ∀ k o, k ≠ n → gk k = some o → ∃ o0, g k = some o0 ∧ (o = o0 ∨ (o = killO fam o0)) ∧ (∀ q, ρ k = some q → q.b = p.b → ∃ sz' f', o = .cells [] sz' f' false true ∧ ∃ cs0 t0, o0 = .cells cs0 sz' f' t0 true ∧ f' = fam ∧ sh = true) := fun k o hkn hgk => by
    rw [hk] at hgk
    cases sh with
    | true =>
      simp only [cond_true, Option.map_eq_some_iff] at hgk
      obtain ⟨o0, h0, rfl⟩ := hgk
      refine ⟨o0, h0, .inr rfl, fun q hq hqb => ?_⟩
      obtain ⟨s1, s2, s3⟩ := h.sep n k p q _ _ (Ne.symm hkn) hp hq hqb.symm ho h0
      cases o0 with
      | cells cs0 sz' f' t0 sh0 =>
        simp only [AO.fam, AO.sh, Option.some.injEq] at s1 s3
        subst s1; subst s3
        exact ⟨sz', fam, by simp [killO], cs0, t0, rfl, rfl, rfl⟩
      | map es clk => simp [AO.fam] at s1
      | loop => simp [AO.fam] at s1
      | rows => simp [AO.fam] at s1
    | false =>
      simp only [cond_false] at hgk
      refine ⟨o, hgk, .inl rfl, fun q hq hqb => ?_⟩
      obtain ⟨s1, s2, s3⟩ := h.sep n k p q _ _ (Ne.symm hkn) hp hq hqb.symm ho hgk
      simp [AO.sh] at s2
  have flags : ∀ k o, upd gk n (.cells cs' sz fam tip sh) k = some o → ∃ o0, g k = some o0 ∧ o0.fam = o.fam ∧ (o0.sh = true → o.sh = true) ∧ (o.tp = true → o0.tp = true ∧ o.len = o0.len) ∧ o.len ≤ o0.len := fun k o hgk => by
    by_cases c : k = n
    · subst c; rw [upd_same] at hgk; cases hgk; exact ⟨_, ho, rfl, fun x => x, fun x => ⟨x, by simp [AO.len, hl]⟩, by simp [AO.len, hl]⟩
    · rw [upd_ne _ _ c] at hgk
      obtain ⟨o0, h0, h1, _⟩ := other k o c hgk
      refine ⟨o0, h0, ?_⟩
      rcases h1 with rfl | rfl
      · exact ⟨rfl, fun x => x, fun x => ⟨x, rfl⟩, Nat.le_refl _⟩
      · cases o0 with
        | cells cs0 sz' f' t0 sh0 =>
          simp only [killO]
          cases Nat.beq f' fam
          · exact ⟨rfl, fun x => x, fun x => ⟨x, rfl⟩, Nat.le_refl _⟩
          · exact ⟨rfl, fun _ => rfl, fun x => by simp [AO.tp] at x, by simp [AO.len]⟩
        | map es clk => exact ⟨rfl, fun x => x, fun x => ⟨x, rfl⟩, Nat.le_refl _⟩
        | loop => exact ⟨rfl, fun x => x, fun x => ⟨x, rfl⟩, Nat.le_refl _⟩
        | rows => exact ⟨rfl, fun x => x, fun x => ⟨x, rfl⟩, Nat.le_refl _⟩
  refine ⟨fun k q e => ?_, fun k o e hkn => ?_, fun a b q r o o' hab e1 e2 hqb e3 e4 => ?_, fun a b q r o o' e1 e2 hqb e3 e4 ht => ?_, fun a b q r o o' hab e1 e2 hqb e3 e4 ht => ?_, fun b o e => ?_, fun k q e => ?_, h.op⟩
  · simpa using h.dom k q e
  · by_cases c : k = n
    · subst c; rw [upd_same] at e; cases e
      exact .inl ⟨p, hp, hz, by rw [hl]; exact hle, C', _, setRow_heap w p.b C C' _ _ hb, hl'.trans hC0, hc⟩
    · rw [upd_ne _ _ c] at e
      obtain ⟨o0, h0, h1, h2⟩ := other k o c e
      rcases h.obj0 k o0 h0 hkn with ⟨q, hq, hr⟩ | ⟨hq, hz0⟩
      rotate_left
      · refine .inr ⟨hq, ?_⟩
        rcases h1 with rfl | rfl
        · exact hz0
        · cases o0 <;> first | exact hz0 | exact hz0.elim
      refine .inl ?_
      by_cases cb : q.b = p.b
      · obtain ⟨sz', f', e1, cs0, t0, e2, _, _⟩ := h2 q hq cb
        subst e1; subst e2
        obtain ⟨r1, r2, C2, e2, r3, r4, r5⟩ := hr
        rw [cb, hb] at r3; cases r3
        exact ⟨q, hq, r1, by simp; omega, C', _, by rw [cb]; exact setRow_heap w p.b C C' _ _ hb, by rw [hl', r4], fun j x hj => by simp at hj⟩
      · have hw := setRow_other w p.b q.b C' cb
        rcases h1 with rfl | rfl
        · exact ⟨q, hq, hr.world hw⟩
        · cases o0 with
          | map es clk => exact ⟨q, hq, ORel.world (o := .map es clk) hw hr⟩
          | loop st ev ps asg body pe => exact ⟨q, hq, ORel.world (o := .loop st ev ps asg body pe) hw hr⟩
          | rows f len ks => exact ⟨q, hq, ORel.world (o := .rows f len ks) hw hr⟩
          | cells cs0 sz' f' t0 sh0 =>
            simp only [killO]
            cases Nat.beq f' fam
            · exact ⟨q, hq, hr.world hw⟩
            · obtain ⟨r1, r2, C2, e2, r3, r4, r5⟩ := hr
              exact ⟨q, hq, r1, by simp; omega, C2, e2, hw.trans r3, r4, fun j x hj => by simp at hj⟩
  · obtain ⟨o1, f1, f2, f3, f4, f5⟩ := flags a o e3
    obtain ⟨o2, k1, k2, k3, k4, k5⟩ := flags b o' e4
    obtain ⟨s1, s2, s3⟩ := h.sep a b q r o1 o2 hab e1 e2 hqb f1 k1
    exact ⟨f2.symm.trans (s1.trans k2), f3 s2, k3 s3⟩
  · obtain ⟨o1, f1, f2, f3, f4, f5⟩ := flags a o e3
    obtain ⟨o2, k1, k2, k3, k4, k5⟩ := flags b o' e4
    have := h.tip a b q r o1 o2 e1 e2 hqb f1 k1 (f4 ht).1
    have := (f4 ht).2
    omega
  · obtain ⟨o1, f1, f2, f3, f4, f5⟩ := flags a o e3
    obtain ⟨o2, k1, k2, k3, k4, k5⟩ := flags b o' e4
    have := h.one a b q r o1 o2 hab e1 e2 hqb f1 k1 (f4 ht).1
    cases hx : o'.tp with
    | false => rfl
    | true => rw [(k4 hx).1] at this; cases this
  · have hne : b ≠ p.b := fun c => by rw [c, h.nf n p hp] at e; cases e
    rw [setRow_other w p.b b C' hne]; exact h.fz b o e
  · exact h.nf k q e

/-- A row's mark is struck. -/
theorem HRel.untip {ρ : Rho} {g : Nat → Option AO} {nx : Nat} {w : World} (h : HRel ρ g nx w) {n sz fam : Nat} {cs : List AV} {tip sh : Bool} (ho : g n = some (.cells cs sz fam tip sh)) :
    HRel ρ (upd g n (.cells cs sz fam false true)) nx w := by
  have flags : ∀ k o, upd g n (.cells cs sz fam false true) k = some o → ∃ o0, g k = some o0 ∧ o0.fam = o.fam ∧ (o0.sh = true → o.sh = true) ∧ (o.tp = true → o0.tp = true) ∧ o.len = o0.len := fun k o hk => by
    by_cases c : k = n
    · subst c; rw [upd_same] at hk; cases hk; exact ⟨_, ho, rfl, fun _ => rfl, fun x => by simp [AO.tp] at x, rfl⟩
    · rw [upd_ne _ _ c] at hk; exact ⟨o, hk, rfl, fun x => x, fun x => x, rfl⟩
  refine ⟨h.dom, fun k o e hkn => ?_, fun a b q r o o' hab e1 e2 hqb e3 e4 => ?_, fun a b q r o o' e1 e2 hqb e3 e4 ht => ?_, fun a b q r o o' hab e1 e2 hqb e3 e4 ht => ?_, fun b o e => ?_, fun k q e => ?_, h.op⟩
  · by_cases c : k = n
    · subst c; rw [upd_same] at e; cases e
      obtain ⟨p, hp, hr⟩ := h.obj k _ ho hkn
      exact .inl ⟨p, hp, hr⟩
    · rw [upd_ne _ _ c] at e; exact h.obj0 k o e hkn
  · obtain ⟨o1, f1, f2, f3, f4, f5⟩ := flags a o e3
    obtain ⟨o2, k1, k2, k3, k4, k5⟩ := flags b o' e4
    obtain ⟨s1, s2, s3⟩ := h.sep a b q r o1 o2 hab e1 e2 hqb f1 k1
    exact ⟨f2.symm.trans (s1.trans k2), f3 s2, k3 s3⟩
  · obtain ⟨o1, f1, f2, f3, f4, f5⟩ := flags a o e3
    obtain ⟨o2, k1, k2, k3, k4, k5⟩ := flags b o' e4
    have := h.tip a b q r o1 o2 e1 e2 hqb f1 k1 (f4 ht)
    omega
  · obtain ⟨o1, f1, f2, f3, f4, f5⟩ := flags a o e3
    obtain ⟨o2, k1, k2, k3, k4, k5⟩ := flags b o' e4
    have := h.one a b q r o1 o2 hab e1 e2 hqb f1 k1 (f4 ht)
    cases hx : o'.tp with
    | false => rfl
    | true => rw [k4 hx] at this; cases this
  · exact h.fz b o e
  · exact h.nf k q e

/-- A row grows where it lies. -/
theorem HRel.inplace {ρ : Rho} {g : Nat → Option AO} {nx : Nat} {w : World} (h : HRel ρ g nx w) {n sz fam off : Nat} {cs new : List AV} {sh : Bool} {p : Pl} {C C' : Array Value} {e : TypeId}
    (ho : g n = some (.cells cs sz fam true sh)) (hp : ρ n = some p) (hb : w.heap[p.b]? = some (.cells C e (0, 0))) (hoff : off * sz ≤ cs.length) (hl' : C'.size = C.size) (hfit : p.o + cs.length + new.length ≤ p.s)
    (hsame : ∀ j, j < p.o + cs.length → C'[j]? = C[j]?) (hc : ∀ (j : Nat) x, new[j]? = some x → ∃ y, C'[p.o + cs.length + j]? = some y ∧ VRel ρ x y) :
    HRel (upd ρ nx ⟨p.b, p.o + off * sz, sz, p.s⟩) (upd (upd g n (.cells cs sz fam false true)) nx (.cells (cs.drop (off * sz) ++ new) sz fam true true)) (nx + 1) (w.setRow p.b C') := by
  have hn := h.dm' n p hp
  obtain ⟨p', hp', hz, hle, C0, e0, hb0, hC0, hcell⟩ := h.obj n _ ho hn
  rw [hp] at hp'; cases hp'
  rw [hb] at hb0; cases hb0
  have hsub : Sub ρ (upd ρ nx ⟨p.b, p.o + off * sz, sz, p.s⟩) := fun k q e => by have := (h.dom k q e).1; rw [upd_ne _ _ (by omega)]; exact e
  have hold : ∀ k q, k ≠ nx → upd ρ nx ⟨p.b, p.o + off * sz, sz, p.s⟩ k = some q → ρ k = some q := fun k q hk e => by rw [upd_ne _ _ hk] at e; exact e
  -- the old objects with their new flags
  have flags : ∀ k o, upd (upd g n (.cells cs sz fam false true)) nx (.cells (cs.drop (off * sz) ++ new) sz fam true true) k = some o → k ≠ nx → ∃ o0, g k = some o0 ∧ o0.fam = o.fam ∧ (o0.sh = true → o.sh = true) ∧ (o.tp = true → o0.tp = true) ∧ o.len = o0.len ∧ (k = n → o.sh = true ∧ o.tp = false) := fun k o hk c' => by
    rw [upd_ne _ _ c'] at hk
    by_cases c : k = n
    · subst c; rw [upd_same] at hk; cases hk; exact ⟨_, ho, rfl, fun _ => rfl, fun x => by simp [AO.tp] at x, rfl, fun _ => ⟨rfl, rfl⟩⟩
    · rw [upd_ne _ _ c] at hk; exact ⟨o, hk, rfl, fun x => x, fun x => x, rfl, fun x => absurd x c⟩
  -- an old one in the same block
  have share : ∀ k q o0, ρ k = some q → q.b = p.b → g k = some o0 → o0.fam = some fam ∧ q.o + o0.len ≤ p.o + cs.length ∧ (k ≠ n → o0.sh = true ∧ o0.tp = false) := fun k q o0 hq hqb h0 => by
    have ht := h.tip n k p q _ _ hp hq hqb.symm ho h0 rfl
    by_cases c : k = n
    · subst c; rw [ho] at h0; cases h0; exact ⟨rfl, by simpa [AO.len] using ht, fun x => absurd rfl x⟩
    · obtain ⟨s1, s2, s3⟩ := h.sep n k p q _ _ (Ne.symm c) hp hq hqb.symm ho h0
      exact ⟨by rw [← s1]; rfl, by simpa [AO.len] using ht, fun _ => ⟨s3, h.one n k p q _ _ (Ne.symm c) hp hq hqb.symm ho h0 rfl⟩⟩
  have hnew : upd (upd g n (.cells cs sz fam false true)) nx (.cells (cs.drop (off * sz) ++ new) sz fam true true) nx = some (.cells (cs.drop (off * sz) ++ new) sz fam true true) := upd_same _ _ _
  refine ⟨fun k q e => ?_, fun k o e hkn => ?_, fun a b q r o o' hab e1 e2 hqb e3 e4 => ?_, fun a b q r o o' e1 e2 hqb e3 e4 ht => ?_, fun a b q r o o' hab e1 e2 hqb e3 e4 ht => ?_, fun b o e => ?_, fun k q e => ?_, fun e => Nat.le_succ_of_le (h.op e)⟩
  · by_cases c : k = nx
    · subst c; rw [upd_same] at e; cases e; simpa using (h.dom n p hp).2
    · have := h.dom k q (hold k q c e); simp; omega
  · by_cases c : k = nx
    · subst c; rw [upd_same] at e; cases e
      refine .inl ⟨_, upd_same _ _ _, rfl, ?_, C', _, setRow_heap w p.b C C' _ _ hb, hl'.trans hC0, fun j x hj => ?_⟩
      · simp; omega
      · by_cases cj : j < (cs.drop (off * sz)).length
        · rw [List.getElem?_append_left cj] at hj
          simp at cj
          obtain ⟨y, hy, hr⟩ := hcell (off * sz + j) x (by simpa using hj)
          refine ⟨y, ?_, hr.mono hsub⟩
          show C'[p.o + off * sz + j]? = some y
          rw [hsame _ (by omega), Nat.add_assoc]; exact hy
        · rw [List.getElem?_append_right (by omega)] at hj
          obtain ⟨y, hy, hr⟩ := hc _ x hj
          refine ⟨y, ?_, hr.mono hsub⟩
          show C'[p.o + off * sz + j]? = some y
          simp at cj hy
          rw [show p.o + off * sz + j = p.o + cs.length + (j - (cs.length - off * sz)) by omega]; exact hy
    · obtain ⟨o0, h0, f1, f2, f3, f4, f5⟩ := flags k o e c
      rw [upd_ne _ _ c] at e
      rcases h.obj0 k o0 h0 (by omega) with ⟨q, hq, hr⟩ | ⟨hq, hz0⟩
      rotate_left
      · refine .inr ⟨by rw [upd_ne _ _ c]; exact hq, ?_⟩
        by_cases cn : k = n
        · subst cn; rw [ho] at h0; cases h0; exact hz0.elim
        · rw [upd_ne _ _ cn] at e; rw [e] at h0; cases h0; exact hz0
      refine .inl ⟨q, hsub _ _ hq, ?_⟩
      have base : ORel ρ o0 q (w.setRow p.b C') := by
        by_cases cb : q.b = p.b
        · have hs := share k q o0 hq cb h0
          cases o0 with
          | map es clk => simp [AO.fam] at hs
          | loop => simp [AO.fam] at hs
          | rows => simp [AO.fam] at hs
          | cells cs0 sz0 f0 t0 sh0 =>
            obtain ⟨r1, r2, C2, e2, r3, r4, r5⟩ := hr
            rw [cb, hb] at r3; cases r3
            refine ⟨r1, r2, C', _, by rw [cb]; exact setRow_heap w p.b C C' _ _ hb, hl'.trans r4, fun j x hj => ?_⟩
            obtain ⟨y, hy, hr⟩ := r5 j x hj
            have hjl := (List.getElem?_eq_some_iff.1 hj).1
            have := hs.2.1
            simp only [AO.len] at this
            exact ⟨y, by rw [hsame _ (by omega)]; exact hy, hr⟩
        · exact hr.world (setRow_other w p.b q.b C' cb)
      by_cases cn : k = n
      · subst cn
        rw [upd_same] at e; cases e
        rw [ho] at h0; cases h0
        exact ORel.mono hsub (o := .cells cs sz fam false true) base
      · rw [upd_ne _ _ cn] at e
        rw [e] at h0; cases h0
        exact base.mono hsub
  · by_cases ca : a = nx
    · subst ca
      rw [hnew] at e3; cases e3
      rw [upd_same] at e1; cases e1
      have hbn : b ≠ a := Ne.symm hab
      obtain ⟨o0, h0, f1, f2, f3, f4, f5⟩ := flags b o' e4 hbn
      have hs := share b r o0 (hold b r hbn e2) hqb.symm h0
      refine ⟨by rw [← f1, hs.1]; rfl, rfl, ?_⟩
      by_cases cn : b = n
      · exact (f5 cn).1
      · exact f2 (hs.2.2 cn).1
    · by_cases cb : b = nx
      · subst cb
        rw [hnew] at e4; cases e4
        rw [upd_same] at e2; cases e2
        obtain ⟨o0, h0, f1, f2, f3, f4, f5⟩ := flags a o e3 ca
        have hs := share a q o0 (hold a q ca e1) hqb h0
        refine ⟨by rw [← f1, hs.1]; rfl, ?_, rfl⟩
        by_cases cn : a = n
        · exact (f5 cn).1
        · exact f2 (hs.2.2 cn).1
      · obtain ⟨o1, h1, f1, f2, f3, f4, f5⟩ := flags a o e3 ca
        obtain ⟨o2, h2, k1, k2, k3, k4, k5⟩ := flags b o' e4 cb
        obtain ⟨s1, s2, s3⟩ := h.sep a b q r o1 o2 hab (hold a q ca e1) (hold b r cb e2) hqb h1 h2
        exact ⟨f1.symm.trans (s1.trans k1), f2 s2, k2 s3⟩
  · by_cases ca : a = nx
    · subst ca
      rw [hnew] at e3; cases e3
      rw [upd_same] at e1; cases e1
      by_cases cb : b = a
      · subst cb
        rw [hnew] at e4; cases e4
        rw [upd_same] at e2; cases e2
        exact Nat.le_refl _
      · obtain ⟨o0, h0, f1, f2, f3, f4, f5⟩ := flags b o' e4 cb
        have hs := share b r o0 (hold b r cb e2) hqb.symm h0
        simp only [AO.len, List.length_append, List.length_drop] at *
        omega
    · obtain ⟨o1, h1, f1, f2, f3, f4, f5⟩ := flags a o e3 ca
      by_cases cb : b = nx
      · subst cb
        rw [hnew] at e4; cases e4
        rw [upd_same] at e2; cases e2
        have hs := share a q o1 (hold a q ca e1) hqb h1
        by_cases cn : a = n
        · rw [(f5 cn).2] at ht; cases ht
        · rw [(hs.2.2 cn).2] at f3; exact absurd (f3 ht) (by simp)
      · obtain ⟨o2, h2, k1, k2, k3, k4, k5⟩ := flags b o' e4 cb
        have := h.tip a b q r o1 o2 (hold a q ca e1) (hold b r cb e2) hqb h1 h2 (f3 ht)
        omega
  · by_cases ca : a = nx
    · subst ca
      rw [upd_same] at e1; cases e1
      have hbn : b ≠ a := Ne.symm hab
      obtain ⟨o0, h0, f1, f2, f3, f4, f5⟩ := flags b o' e4 hbn
      have hs := share b r o0 (hold b r hbn e2) hqb.symm h0
      by_cases cn : b = n
      · exact (f5 cn).2
      · cases hx : o'.tp with
        | false => rfl
        | true => have := f3 hx; rw [(hs.2.2 cn).2] at this; cases this
    · obtain ⟨o1, h1, f1, f2, f3, f4, f5⟩ := flags a o e3 ca
      by_cases cb : b = nx
      · subst cb
        rw [upd_same] at e2; cases e2
        have hs := share a q o1 (hold a q ca e1) hqb h1
        by_cases cn : a = n
        · rw [(f5 cn).2] at ht; cases ht
        · rw [(hs.2.2 cn).2] at f3; exact absurd (f3 ht) (by simp)
      · obtain ⟨o2, h2, k1, k2, k3, k4, k5⟩ := flags b o' e4 cb
        have := h.one a b q r o1 o2 hab (hold a q ca e1) (hold b r cb e2) hqb h1 h2 (f3 ht)
        cases hx : o'.tp with
        | false => rfl
        | true => have := k3 hx; simp_all
  · have hne : b ≠ p.b := fun c => by rw [c, h.nf n p hp] at e; cases e
    rw [setRow_other w p.b b C' hne]; exact h.fz b o e
  · by_cases c : k = nx
    · subst c; rw [upd_same] at e; cases e; exact h.nf n p hp
    · exact h.nf k q (hold k q c e)

end Ev
end Go.Proofs.Ytengccmjlaejfaa
