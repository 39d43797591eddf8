/- A function with loops, by its loops' heads: from each head one tree, to heads and to the end. No condition. -/
import Derived.Test.YtffcaapbmkaceaaDoorEvY
namespace Go.Proofs.YtffcaapbmkaceaaDoor
namespace Ev
open Go.RowKit
set_option linter.unusedSectionVars false
variable {P : Program}

/-- A loop from its head on. -/
def wpL (F : Fence) (n : Nat) (P : Program) (c : Code) (Q : Exit → Act → World → Prop) (a : Act) (w : World) : Prop :=
  ∀ (b : Frame) (k : List Item) (cs : List Frame), b.roundOf = F.round → F.fn b.fn → F.room (cs.length + 1 + n) →
    ∃ e a' w', Q e a' w' ∧ ArrivesIn (Machine.fenced P F) P (lone (b.atR a (.code c :: .inLoop c :: k)) cs w) b k cs e a' w'
theorem wpL_loop {F : Fence} {n : Nat} {c : Code} {Q : Exit → Act → World → Prop} {a : Act} {w : World} (h : wpL F n P c Q a w) : (Code.loop c).wpIn F n P Q a w := by
  intro b k cs hro hb hr
  obtain ⟨e, a', w', hq, harr⟩ := h b k cs hro hb hr
  exact ⟨e, a', w', hq, .of_steps (.one (fenced_calm hb hr rfl) stepR_loop) harr⟩
theorem wpL_round {F : Fence} {n : Nat} {c : Code} {Q : Exit → Act → World → Prop} {a : Act} {w : World} (h : c.wpIn F n P (Exit.then (wpL F n P c Q) Q) a w) : wpL F n P c Q a w := by
  intro b k cs hro hb hr
  obtain ⟨e, a₁, w₁, hq, harr⟩ := h b (.inLoop c :: k) cs hro hb hr
  cases e with
  | normal =>
    obtain ⟨e₂, a₂, w₂, hq₂, harr₂⟩ := hq b k cs hro hb hr
    exact ⟨e₂, a₂, w₂, hq₂, .of_steps (StepsIn.trans harr (.one (fenced_calm hb hr rfl) stepR_inLoop)) harr₂⟩
  | exit id => exact ⟨_, a₁, w₁, hq, .pass (x := .inLoop c) rfl (fun _ _ => .inl (by simp)) harr⟩
  | goto l => exact ⟨_, a₁, w₁, hq, .pass (x := .inLoop c) rfl (fun _ _ => .inl (by simp)) harr⟩
  | ret => exact ⟨_, a₁, w₁, hq, .pass (x := .inLoop c) rfl (fun _ _ => .inl (by simp)) harr⟩
  | panic ch => exact ⟨_, a₁, w₁, hq, .pass (x := .inLoop c) rfl (fun _ _ => .inl (by simp)) harr⟩
  | outgrown => exact ⟨_, a₁, w₁, hq, .pass (x := .inLoop c) rfl (fun _ _ => .inl (by simp)) harr⟩

/-- What is still to be done. -/
inductive Fr where
  | c (b : Nat) (x : Code)
  | blk (id : Nat)
  | lp (b : Nat) (x : Code)
  | scp
/-- Out of a scope, but not by a goto. -/
def noGoto (Q : Exit → Act → World → Prop) : Exit → Act → World → Prop
  | .goto _, _, _ => False
  | x, a, w => Q x a w
def wpK (m : Nat) (P : Program) : List Fr → (Exit → Act → World → Prop) → Exit → Act → World → Prop
  | [], Q => Q
  | .c _ x :: fr, Q => Exit.then (x.wpIn (FR none) m P (wpK m P fr Q)) (wpK m P fr Q)
  | .blk id :: fr, Q => Exit.inBlock id (wpK m P fr Q)
  | .lp _ x :: fr, Q => Exit.then (wpL (FR none) m P x (wpK m P fr Q)) (wpK m P fr Q)
  | .scp :: fr, Q => noGoto (wpK m P fr Q)
def okFr (n : Nat) : List Fr → Bool
  | [] => true
  | .c _ x :: fr => okCode n x && okFr n fr
  | .blk _ :: fr => okFr n fr
  | .lp _ x :: fr => okCode n x && okFr n fr
  | .scp :: fr => okFr n fr
/-- Where a part of a function stands still: at its end, or at a loop's head. -/
inductive Pt where
  | fin (x : Ex) (e : T AV) (h : Hp)
  | at (b : Nat) (c : Code) (fr : List Fr) (e : T AV) (h : Hp)
def nl : Code → Nat
  | .seq a b => nl a + nl b
  | .cond _ a b => nl a + nl b
  | .block _ c => nl c
  | .loop c => nl c + 1
  | .scope c => nl c
  | _ => 0
def hasL : Code → Bool
  | .seq a b => hasL a || hasL b
  | .cond _ a b => hasL a || hasL b
  | .block _ c => hasL c
  | .scope c => hasL c
  | .loop _ => true
  | _ => false
/-- From a place on, to where it stands still. inl: the loops that are walked round by round. -/
def ev (P : Program) (X : SumBr) (S : Sum) (N : Nat) (inl : Nat → Bool) : Nat → Ex → List Fr → T AV → Hp → Br Pt
  | 0, _, _, _, _ => .no
  | _ + 1, x, [], e, h => .leaf (.fin x e h)
  | n + 1, .normal, .c b code :: fr, e, h => match code with
    | .seq x y => bif hasL x then ev P X S N inl n .normal (.c b x :: .c (b + nl x) y :: fr) e h else
      ((bmX P X S N).run false x e h).bind fun (x', e', h') => ev P X S N inl n x' (.c (b + nl x) y :: fr) e' h'
    | .block id x => bif hasL x then ev P X S N inl n .normal (.c b x :: .blk id :: fr) e h else
      ((bmX P X S N).run false (.block id x) e h).bind fun (x', e', h') => ev P X S N inl n x' fr e' h'
    | .scope x => bif hasL x then ev P X S N inl n .normal (.c b x :: .scp :: fr) e h else
      ((bmX P X S N).run false (.scope x) e h).bind fun (x', e', h') => ev P X S N inl n x' fr e' h'
    | .cond o x y => match opnd e o with
      | .v (.bool t) => ev P X S N inl n .normal (.c (bif t then b else b + nl x) (bif t then x else y) :: fr) e h
      | .s (.bool t) => .test t (ev P X S N inl n .normal (.c b x :: fr) e h) (ev P X S N inl n .normal (.c (b + nl x) y :: fr) e h)
      | _ => .no
    | .loop x => bif inl b then ev P X S N inl n .normal (.c (b + 1) x :: .lp b x :: fr) e h else .leaf (.at b x fr e h)
    | c => ((bmX P X S N).run false c e h).bind fun (x', e', h') => ev P X S N inl n x' fr e' h'
  | n + 1, .normal, .lp b x :: fr, e, h => bif inl b then ev P X S N inl n .normal (.c (b + 1) x :: .lp b x :: fr) e h else .leaf (.at b x fr e h)
  | n + 1, .normal, .blk _ :: fr, e, h => ev P X S N inl n .normal fr e h
  | n + 1, .normal, .scp :: fr, e, h => ev P X S N inl n .normal fr e h
  | n + 1, .exit id', .scp :: fr, e, h => ev P X S N inl n (.exit id') fr e h
  | n + 1, .ret, .scp :: fr, e, h => ev P X S N inl n .ret fr e h
  | _ + 1, .goto _, .scp :: _, _, _ => .no
  | n + 1, .exit id', .blk id :: fr, e, h => bif Nat.beq id' id then ev P X S N inl n .normal fr e h else ev P X S N inl n (.exit id') fr e h
  | n + 1, .goto l, .blk _ :: fr, e, h => ev P X S N inl n (.goto l) fr e h
  | n + 1, .ret, .blk _ :: fr, e, h => ev P X S N inl n .ret fr e h
  | n + 1, .exit id', .c _ _ :: fr, e, h => ev P X S N inl n (.exit id') fr e h
  | n + 1, .goto l, .c _ _ :: fr, e, h => ev P X S N inl n (.goto l) fr e h
  | n + 1, .ret, .c _ _ :: fr, e, h => ev P X S N inl n .ret fr e h
  | n + 1, .exit id', .lp _ _ :: fr, e, h => ev P X S N inl n (.exit id') fr e h
  | n + 1, .goto l, .lp _ _ :: fr, e, h => ev P X S N inl n (.goto l) fr e h
  | n + 1, .ret, .lp _ _ :: fr, e, h => ev P X S N inl n .ret fr e h
/-- Loop t of a code: its body, and what comes behind it. -/
def cutAt (t : Nat) : Nat → Code → List Fr → Option (Code × List Fr)
  | b, .seq x y, fr => bif Nat.blt t (b + nl x) then cutAt t b x (.c (b + nl x) y :: fr) else cutAt t (b + nl x) y fr
  | b, .block id c, fr => cutAt t b c (.blk id :: fr)
  | b, .scope c, fr => cutAt t b c (.scp :: fr)
  | b, .cond _ x y, fr => bif Nat.blt t (b + nl x) then cutAt t b x fr else cutAt t (b + nl x) y fr
  | b, .loop c, fr => bif Nat.beq t b then some (c, fr) else cutAt t (b + 1) c (.lp b c :: fr)
  | _, _, _ => none
def codeOf (P : Program) (f : FuncId) : Code := ((P.funcs[f]?).bind (·.body)).getD .skip
def ct (P : Program) (f : FuncId) (k : Nat) : Code × List Fr := (cutAt k 0 (codeOf P f) []).getD (.skip, [])

section
variable [Fz]
def RunX (P : Program) (nx0 : Nat) (x : Ex) (fr : List Fr) (e : T AV) (h : Hp) (K : Ex → T AV → Hp → Prop) : Prop :=
  ∀ n, okFr n fr = true → ∀ B ρb wb ρ a w Q, AtB nx0 ρb wb ρ e h a w n B → (∀ x e' h', K x e' h' → ∀ ρ' a' w', AtB nx0 ρb wb ρ' e' h' a' w' n B → Q (exOf x) a' w') → ∀ m, wpK m P fr Q (exOf x) a w
def RunH (P : Program) (nx0 : Nat) (c : Code) (fr : List Fr) (e : T AV) (h : Hp) (K : Ex → T AV → Hp → Prop) : Prop :=
  ∀ n, okCode n c = true → okFr n fr = true → ∀ B ρb wb ρ a w Q, AtB nx0 ρb wb ρ e h a w n B → (∀ x e' h', K x e' h' → ∀ ρ' a' w', AtB nx0 ρb wb ρ' e' h' a' w' n B → Q (exOf x) a' w') → ∀ m, wpL (FR none) m P c (wpK m P fr Q) a w
def PtOk (P : Program) (nx0 : Nat) (K : Ex → T AV → Hp → Prop) : Pt → Prop
  | .fin x e h => K x e h
  | .at _ c fr e h => RunH P nx0 c fr e h K
theorem RunX.pass {nx0 : Nat} {x : Ex} (hx : x ≠ .normal) {fr : List Fr} {e : T AV} {h : Hp} {K : Ex → T AV → Hp → Prop} (f : Fr) (hf : ∀ id, f ≠ .blk id) (hs : f ≠ .scp) (hr : RunX P nx0 x fr e h K) : RunX P nx0 x (f :: fr) e h K := by
  intro n hok B ρb wb ρ a w Q hA hQ m
  cases f with
  | blk id => exact absurd rfl (hf id)
  | scp => exact absurd rfl hs
  | c b y =>
    simp only [okFr, Bool.and_eq_true] at hok
    have := hr n hok.2 B ρb wb ρ a w Q hA hQ m
    cases x <;> first | exact absurd rfl hx | exact this
  | lp b y =>
    simp only [okFr, Bool.and_eq_true] at hok
    have := hr n hok.2 B ρb wb ρ a w Q hA hQ m
    cases x <;> first | exact absurd rfl hx | exact this
theorem RunX.code {nx0 : Nat} {b : Nat} {c : Code} {fr : List Fr} {e : T AV} {h : Hp} {K K1 : Ex → T AV → Hp → Prop} (hc : RunB P nx0 c e h K1) (hk : ∀ x e h, K1 x e h → RunX P nx0 x fr e h K) : RunX P nx0 .normal (.c b c :: fr) e h K := by
  intro n hok B ρb wb ρ a w Q hA hQ m
  simp only [okFr, Bool.and_eq_true] at hok
  exact hc n hok.1 B ρb wb ρ a w (wpK m P fr Q) hA (fun x e' h' k ρ' a' w' hA' => hk x e' h' k n hok.2 B ρb wb ρ' a' w' Q hA' hQ m) m
theorem ev_ok {nx0 : Nat} {X : SumBr} {S : Sum} (G : Good P (orS (sumS X) S)) {N : Nat} {inl : Nat → Bool} {K : Ex → T AV → Hp → Prop} : ∀ (n : Nat) (x : Ex) (fr : List Fr) (e : T AV) (h : Hp), (ev P X S N inl n x fr e h).Holds (PtOk P nx0 K) → RunX P nx0 x fr e h K
  | 0, _, _, _, _, hh => hh.elim
  | n + 1, x, [], e, h, hh => by
    have hh : K x e h := by cases x <;> exact hh
    intro k _ B ρb wb ρ a w Q hA hQ m
    exact hQ x e h hh ρ a w hA
  | n + 1, .normal, .c b code :: fr, e, h, hh => by
    have run : ∀ (c : Code), (((bmX P X S N).run false c e h).bind fun (x', e', h') => ev P X S N inl n x' fr e' h').Holds (PtOk P nx0 K) → RunX P nx0 .normal (.c b c :: fr) e h K := fun c hh => by
      refine RunX.code (run_bm (N := N) (K := fun x e h => (ev P X S N inl n x fr e h).Holds (PtOk P nx0 K)) G ?_) fun x e h hk => ev_ok G n x fr e h hk
      exact holds_bind hh
    cases code with
    | seq x y =>
      simp only [ev] at hh
      have key : RunX P nx0 .normal (.c b x :: .c (b + nl x) y :: fr) e h K := by
        cases hl : hasL x with
        | true => rw [hl] at hh; exact ev_ok G n _ _ _ _ hh
        | false =>
          rw [hl] at hh
          refine RunX.code (run_bm (N := N) (K := fun x' e h => (ev P X S N inl n x' (.c (b + nl x) y :: fr) e h).Holds (PtOk P nx0 K)) G ?_) fun x' e h hk => ev_ok G n x' _ e h hk
          exact holds_bind hh
      intro k hok B ρb wb ρ a w Q hA hQ m
      simp only [okFr, okCode, Bool.and_eq_true] at hok
      exact wpIn_seq (key k (by simp [okFr, hok]) B ρb wb ρ a w Q hA hQ m)
    | block id x =>
      simp only [ev] at hh
      cases hl : hasL x with
      | false => rw [hl] at hh; exact run _ hh
      | true =>
        rw [hl] at hh
        have key := ev_ok G n _ _ _ _ hh
        intro k hok B ρb wb ρ a w Q hA hQ m
        simp only [okFr, okCode, Bool.and_eq_true] at hok
        exact wpIn_block (key k (by simp [okFr, hok]) B ρb wb ρ a w Q hA hQ m)
    | cond o x y =>
      simp only [ev] at hh
      intro k hok B ρb wb ρ a w Q hA hQ m
      simp only [okFr, okCode, Bool.and_eq_true] at hok
      have hv := opnd_rel hA.s.e o
      have fin : ∀ t, a.eval o = .bool t → (t = true → (ev P X S N inl n .normal (.c b x :: fr) e h).Holds (PtOk P nx0 K)) → (t = false → (ev P X S N inl n .normal (.c (b + nl x) y :: fr) e h).Holds (PtOk P nx0 K)) → (Code.cond o x y).wpIn (FR none) m P (wpK m P fr Q) a w := fun t ht h1 h2 => by
        refine wpIn_cond ht ?_
        cases t with
        | true => exact ev_ok G n _ _ _ _ (h1 rfl) k (by simp [okFr, hok]) B ρb wb ρ a w Q hA hQ m
        | false => exact ev_ok G n _ _ _ _ (h2 rfl) k (by simp [okFr, hok]) B ρb wb ρ a w Q hA hQ m
      split at hh
      · rename_i t ht
        rw [ht] at hv
        exact fin t hv (fun e => by subst e; exact hh) (fun e => by subst e; exact hh)
      · rename_i t ht
        rw [ht] at hv
        exact fin t hv hh.1 hh.2
      · exact hh.elim
    | loop x =>
      simp only [ev] at hh
      have key : RunH P nx0 x fr e h K := by
        cases hl : inl b with
        | false => rw [hl] at hh; exact hh
        | true =>
          rw [hl] at hh
          have key := ev_ok G n _ _ _ _ hh
          intro k h1 h2 B ρb wb ρ a w Q hA hQ m
          exact wpL_round (key k (by simp [okFr, h1, h2]) B ρb wb ρ a w Q hA hQ m)
      intro k hok B ρb wb ρ a w Q hA hQ m
      simp only [okFr, okCode, Bool.and_eq_true] at hok
      exact wpL_loop (key k hok.1 hok.2 B ρb wb ρ a w Q hA hQ m)
    | skip => exact run _ hh
    | region id ops d => exact run _ hh
    | exit id => exact run _ hh
    | goto l => exact run _ hh
    | label l => exact run _ hh
    | ret => exact run _ hh
    | refuse r => exact run _ hh
    | scope x =>
      simp only [ev] at hh
      cases hl : hasL x with
      | false => rw [hl] at hh; exact run _ hh
      | true =>
        rw [hl] at hh
        have key := ev_ok G n _ _ _ _ hh
        intro k hok B ρb wb ρ a w Q hA hQ m
        simp only [okFr, okCode, Bool.and_eq_true] at hok
        refine wpIn_scope_jumpsN 1 (wpIn_mono (key k (by simp [okFr, hok]) B ρb wb ρ a w Q hA hQ m) fun x a w q => ?_)
        cases x <;> first | exact q | exact q.elim
    | rangeFunc g ps a b => exact run _ hh
  | n + 1, .normal, .lp b x :: fr, e, h, hh => by
    simp only [ev] at hh
    have key : RunH P nx0 x fr e h K := by
      cases hl : inl b with
      | false => rw [hl] at hh; exact hh
      | true =>
        rw [hl] at hh
        have key := ev_ok G n _ _ _ _ hh
        intro k h1 h2 B ρb wb ρ a w Q hA hQ m
        exact wpL_round (key k (by simp [okFr, h1, h2]) B ρb wb ρ a w Q hA hQ m)
    intro k hok B ρb wb ρ a w Q hA hQ m
    simp only [okFr, Bool.and_eq_true] at hok
    exact key k hok.1 hok.2 B ρb wb ρ a w Q hA hQ m
  | n + 1, .normal, .blk id :: fr, e, h, hh => by
    have key := ev_ok G n _ _ _ _ hh
    intro k hok B ρb wb ρ a w Q hA hQ m
    exact key k hok B ρb wb ρ a w Q hA hQ m
  | n + 1, .normal, .scp :: fr, e, h, hh => fun k hok B ρb wb ρ a w Q hA hQ m => ev_ok G n _ _ _ _ hh k hok B ρb wb ρ a w Q hA hQ m
  | n + 1, .exit id', .scp :: fr, e, h, hh => fun k hok B ρb wb ρ a w Q hA hQ m => ev_ok G n _ _ _ _ hh k hok B ρb wb ρ a w Q hA hQ m
  | n + 1, .ret, .scp :: fr, e, h, hh => fun k hok B ρb wb ρ a w Q hA hQ m => ev_ok G n _ _ _ _ hh k hok B ρb wb ρ a w Q hA hQ m
  | n + 1, .goto _, .scp :: _, _, _, hh => hh.elim
  | n + 1, .exit id', .blk id :: fr, e, h, hh => by
    simp only [ev] at hh
    intro k hok B ρb wb ρ a w Q hA hQ m
    show Exit.inBlock id (wpK m P fr Q) (.exit id') a w
    unfold Exit.inBlock
    cases hb : Nat.beq id' id with
    | true =>
      rw [hb] at hh
      have := Nat.eq_of_beq_eq_true hb
      subst this
      simp only [if_true]
      exact ev_ok G n _ _ _ _ hh k hok B ρb wb ρ a w Q hA hQ m
    | false =>
      rw [hb] at hh
      have hne : id' ≠ id := fun c => by subst c; simp at hb
      simp only [hne, if_false]
      exact ev_ok G n _ _ _ _ hh k hok B ρb wb ρ a w Q hA hQ m
  | n + 1, .goto l, .blk _ :: fr, e, h, hh => fun k hok B ρb wb ρ a w Q hA hQ m => ev_ok G n _ _ _ _ hh k hok B ρb wb ρ a w Q hA hQ m
  | n + 1, .ret, .blk _ :: fr, e, h, hh => fun k hok B ρb wb ρ a w Q hA hQ m => ev_ok G n _ _ _ _ hh k hok B ρb wb ρ a w Q hA hQ m
  | n + 1, .exit id', .c _ _ :: fr, e, h, hh => (ev_ok G n (.exit id') fr e h hh).pass (by simp) _ (by simp) (by simp)
  | n + 1, .goto l, .c _ _ :: fr, e, h, hh => (ev_ok G n (.goto l) fr e h hh).pass (by simp) _ (by simp) (by simp)
  | n + 1, .ret, .c _ _ :: fr, e, h, hh => (ev_ok G n .ret fr e h hh).pass (by simp) _ (by simp) (by simp)
  | n + 1, .exit id', .lp _ _ :: fr, e, h, hh => (ev_ok G n (.exit id') fr e h hh).pass (by simp) _ (by simp) (by simp)
  | n + 1, .goto l, .lp _ _ :: fr, e, h, hh => (ev_ok G n (.goto l) fr e h hh).pass (by simp) _ (by simp) (by simp)
  | n + 1, .ret, .lp _ _ :: fr, e, h, hh => (ev_ok G n .ret fr e h hh).pass (by simp) _ (by simp) (by simp)
where
  holds_bind {α β : Type} {f : α → Br β} {K : β → Prop} : ∀ {B : Br α}, (B.bind f).Holds K → B.Holds fun a => (f a).Holds K
    | .no, h => h.elim
    | .leaf _, h => h
    | .test _ _ _, h => ⟨fun x => holds_bind (h.1 x), fun x => holds_bind (h.2 x)⟩
    | .ob _ _, h => ⟨h.1, holds_bind h.2⟩
end

/-- What is looked at where it stands still. -/
inductive PO where
  | fin (o : Ob)
  | at (b : Nat) (c : Code) (fr : List Fr) (o : Ob)
def lookP (P : Program) (rs : List ResultVar) (loc : List (List Nat)) (cf : Nat → Cfg) : Pt → PO
  | .fin x e h => .fin (obsR P openB rs loc (x, e, h))
  | .at b c fr e h => .at b c fr (obsB openB (cf b) (.normal, e, h))

def others (n : Nat) (ks : List Nat) : List Nat := (List.range n).filter fun k => !(ks.any (Nat.beq k))
/-- At a head of a function with n temporaries those of ks live. -/
def mkC (n : Nat) (ks : List Nat) (loc : List Loc) : Cfg := ⟨ks, others n ks, loc⟩
def cfL (l : List Cfg) (k : Nat) : Cfg := l.getD k (mkC 0 [] [])
def noL : Nat → Bool := fun _ => false
/-- The state at a round's beginning. -/
def hd (P : Program) (f : FuncId) (k : Nat) : List Fr := .c (k + 1) (ct P f k).1 :: .lp k (ct P f k).1 :: (ct P f k).2
def start : Hp := ⟨.leaf, openB, []⟩
def resOf (P : Program) (f : FuncId) : List ResultVar := match P.funcs[f]? with
  | some fn => fn.results.toList
  | none => []
def bodyOk (P : Program) (f : FuncId) : Bool := match P.funcs[f]? with
  | some fn => match fn.body with
    | some c => okCode fn.ntmps c
    | none => false
  | none => false
theorem bodyOk_get {f : FuncId} (h : bodyOk P f = true) : ∃ fn c, P.funcs[f]? = some fn ∧ fn.body = some c ∧ okCode fn.ntmps c = true ∧ codeOf P f = c ∧ resOf P f = fn.results.toList := by
  unfold bodyOk at h
  split at h
  · rename_i fn hfn
    split at h
    · rename_i c hc
      refine ⟨fn, c, hfn, hc, h, ?_, ?_⟩
      · unfold codeOf; rw [hfn]; simp [hc]
      · unfold resOf; rw [hfn]
    · cases h
  · cases h
/-- **A contract of a function with loops.** σ: the states at the heads; pc: at which one; tr: from there on. -/
theorem floyd {X : SumBr} {S : Sum} (hm : P.follows .mixedOrders = true) (hok : P.funcs.all okFunc = true) (hX : SumGO P (sumS X)) (hS : SumGO P S) {f : FuncId} (hb : bodyOk P f = true)
    {N fu : Nat} {inl : Nat → Bool} {args : List AV} {v : AV} {os : List AO} (loc : List (List Nat)) (cf : Nat → Cfg) {σ β : Type} [WellFoundedRelation β] (μ : σ → β) (pc : σ → Nat) (vals : σ → List AV) (ob : σ → List AO) (J : σ → Prop) (tr : σ → Br PO) (tr0 : Br PO)
    (h0 : (ev P X S N inl fu .normal [.c 0 (codeOf P f)] (params args) start).map (lookP P (resOf P f) loc cf) = tr0)
    (h1 : ∀ s j, (ev P X S N inl fu .normal (hd P f (pc s)) (mkE (cf (pc s)) (vals s) j) (mkH openB (ob s))).map (lookP P (resOf P f) loc cf) = tr s)
    (g0 : tr0.Holds fun o => match o with
      | .fin o => Goes o [v] os
      | .at b c fr o => ∃ s, J s ∧ pc s = b ∧ (c, fr) = ct P f b ∧ Goes o (vals s) (ob s))
    (g1 : ∀ s, J s → (tr s).Holds fun o => match o with
      | .fin o => Goes o [v] os
      | .at b c fr o => ∃ s', J s' ∧ WellFoundedRelation.rel (μ s') (μ s) ∧ pc s' = b ∧ (c, fr) = ct P f b ∧ Goes o (vals s') (ob s')) : OCalls P f args v os := by
  obtain ⟨fn, c0, hfn, hb, hokc, hcode, hres⟩ := bodyOk_get hb
  refine ocalls_of hfn hb hokc loc @fun _ hgc => ?_
  rw [← hres]
  have G : Good P (orS (sumS X) S) := ⟨hm, hok, (orS_open hX hS).ok hgc, (orS_open hX hS).kl⟩
  let K : Ex → T AV → Hp → Prop := fun x e h => Goes (obsR P openB (resOf P f) loc (x, e, h)) [v] os
  -- from a head
  have head : ∀ s, J s → ∀ j, RunH P openB (ct P f (pc s)).1 (ct P f (pc s)).2 (mkE (cf (pc s)) (vals s) j) (mkH openB (ob s)) K := by
    have wf : WellFounded (fun a b : σ => WellFoundedRelation.rel (μ a) (μ b)) := InvImage.wf μ WellFoundedRelation.wf
    intro s
    induction s using wf.induction with
    | _ s ih =>
      intro hJ j
      have ht := g1 s hJ
      rw [← h1 s j] at ht
      have ht := Br.holds_map ht
      have key : RunX P openB .normal (.c (pc s + 1) (ct P f (pc s)).1 :: .lp (pc s) (ct P f (pc s)).1 :: (ct P f (pc s)).2) (mkE (cf (pc s)) (vals s) j) (mkH openB (ob s)) K := by
        refine ev_ok G fu _ _ _ _ (ht.mono fun pt hp => ?_)
        cases pt with
        | fin x e h => exact hp
        | «at» b c fr e h =>
          obtain ⟨s', hJ', hlt, rfl, hcf, hgo⟩ := hp
          have e1 : c = (ct P f (pc s')).1 := congrArg Prod.fst hcf
          have e2 : fr = (ct P f (pc s')).2 := congrArg Prod.snd hcf
          subst e1 e2
          intro k hk1 hk2 B ρb wb ρ a w Q hA hQ m
          obtain ⟨ρ', hA'⟩ := hA.head hgc (Nat.le_refl _) hgo
          exact ih s' hlt hJ' _ k hk1 hk2 B ρb wb ρ' a w Q hA' hQ m
      intro k hk1 hk2 B ρb wb ρ a w Q hA hQ m
      exact wpL_round (key k (by simp [okFr, hk1, hk2]) B ρb wb ρ a w Q hA hQ m)
  -- from the beginning
  rw [← h0] at g0
  have ht := Br.holds_map g0
  have key : RunX P openB .normal [.c 0 (codeOf P f)] (params args) ⟨.leaf, openB, []⟩ K := by
    refine ev_ok G fu _ _ _ _ (ht.mono fun pt hp => ?_)
    cases pt with
    | fin x e h => exact hp
    | «at» b c fr e h =>
      obtain ⟨s', hJ', rfl, hcf, hgo⟩ := hp
      have e1 : c = (ct P f (pc s')).1 := congrArg Prod.fst hcf
      have e2 : fr = (ct P f (pc s')).2 := congrArg Prod.snd hcf
      subst e1 e2
      intro k hk1 hk2 B ρb wb ρ a w Q hA hQ m
      obtain ⟨ρ', hA'⟩ := hA.head hgc (Nat.le_refl _) hgo
      exact head s' hJ' _ k hk1 hk2 B ρb wb ρ' a w Q hA' hQ m
  rw [hcode] at key
  intro n hokn B ρb wb ρ a w Q hA hQ m
  exact wpIn_mono (key n (by simp [okFr, hokn]) B ρb wb ρ a w Q hA hQ m) fun e a w q => by cases e <;> exact q
/-- The like of a function without loops. -/
theorem floyd0 {X : SumBr} {S : Sum} (hm : P.follows .mixedOrders = true) (hok : P.funcs.all okFunc = true) (hX : SumGO P (sumS X)) (hS : SumGO P S) {f : FuncId} (hb : bodyOk P f = true)
    {N fu : Nat} {inl : Nat → Bool} {args : List AV} {v : AV} {os : List AO} (loc : List (List Nat)) (cf : Nat → Cfg) (tr0 : Br PO)
    (h0 : (ev P X S N inl fu .normal [.c 0 (codeOf P f)] (params args) start).map (lookP P (resOf P f) loc cf) = tr0)
    (g0 : tr0.Holds fun o => match o with
      | .fin o => Goes o [v] os
      | .at _ _ _ _ => False) : OCalls P f args v os := by
  obtain ⟨fn, c0, hfn, hb, hokc, hcode, hres⟩ := bodyOk_get hb
  refine ocalls_of hfn hb hokc loc @fun _ hgc => ?_
  rw [← hres]
  have G : Good P (orS (sumS X) S) := ⟨hm, hok, (orS_open hX hS).ok hgc, (orS_open hX hS).kl⟩
  rw [← h0] at g0
  have ht := Br.holds_map g0
  have key : RunX P openB .normal [.c 0 (codeOf P f)] (params args) ⟨.leaf, openB, []⟩ (fun x e h => Goes (obsR P openB (resOf P f) loc (x, e, h)) [v] os) := by
    refine ev_ok G fu _ _ _ _ (ht.mono fun pt hp => ?_)
    cases pt with
    | fin x e h => exact hp
    | «at» b c fr e h => exact hp.elim
  rw [hcode] at key
  intro n hokn B ρb wb ρ a w Q hA hQ m
  exact wpIn_mono (key n (by simp [okFr, hokn]) B ρb wb ρ a w Q hA hQ m) fun e a w q => by cases e <;> exact q
end Ev
end Go.Proofs.YtffcaapbmkaceaaDoor
