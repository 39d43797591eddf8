/- Summaries: contracts of functions as the evaluator takes them; a call that comes to true. No condition. -/
import Derived.Test.YtffcaapbmkaceaaDoorEvN
import Derived.KernelRfl
namespace Go.Proofs.YtffcaapbmkaceaaDoor
namespace Ev
open Go.RowKit
set_option linter.unusedSectionVars false
variable {P : Program}

def noS : Sum := fun _ _ _ => none
def orS (a b : Sum) : Sum := fun f args h => match a f args h with
  | some r => some r
  | none => b f args h
/-- A function from plain values to a plain value. -/
def plS (f : FuncId) (g : List Value → Option Value) : Sum := fun f' args h => bif Nat.beq f' f then (match plains args with
  | some xs => (match g xs with
    | some v => some (.v v, h)
    | none => none)
  | none => none) else none

structure SumG (P : Program) (S : Sum) : Prop where
  ok : ∀ [Fz], SumOk P S
  kl : SumKL S
theorem noS_ok : SumG P noS := ⟨@fun _ _ _ _ _ _ h => (by cases h), fun _ _ _ _ _ h => (by cases h)⟩
theorem orS_ok {a b : Sum} (ha : SumG P a) (hb : SumG P b) : SumG P (orS a b) := by
  refine ⟨@fun _ f args h v h' hr => ?_, fun f args h v h' hr => ?_⟩
  · unfold orS at hr
    split at hr
    · rename_i r hx; cases hr; exact ha.ok _ _ _ _ _ hx
    · exact hb.ok _ _ _ _ _ hr
  · unfold orS at hr
    split at hr
    · rename_i r hx; cases hr; exact ha.kl _ _ _ _ _ hx
    · exact hb.kl _ _ _ _ _ hr

def entersB (P : Program) (f : FuncId) : Bool := match P.funcs[f]? with
  | some fn => fn.body.isSome && !(fn.name == "runtime.NumGoroutine")
  | none => false
theorem enters_of {f : FuncId} (h : entersB P f = true) : Enters P f := by
  unfold entersB at h
  split at h
  · rename_i fn hfn
    simp only [Bool.and_eq_true] at h
    exact ⟨fn, hfn, h.1, fun e => by rw [e] at h; simp at h⟩
  · cases h

theorem HR.fr [Fz] {ρ : Rho} {h : Hp} {w w' : World} (hh : HR ρ h w) (hf : Fr noB w w') : HR ρ h w' :=
  HRel.world hh hf.size (fun n p e => hf.block p.b (hh.dom n p e).2 (fun x => x)) fun b o e => hf.block b (Array.getElem?_eq_some_iff.1 (hh.fz b o e)).1 (fun x => x)
theorem Stepped.ofFr {ρ : Rho} {nx : Nat} {w w' : World} (hd : ∀ n p, ρ n = some p → n < nx) (hf : Fr noB w w') : Stepped ρ nx [] w ρ nx w' :=
  ⟨Nat.le_refl _, fun _ _ => rfl, fun n p h e => absurd (hd n p e) (by omega), hf.size, hf.os, hf.tape, hf.output, fun b hb _ => hf.block b hb (fun x => x)⟩

theorem plS_ok {f : FuncId} {g : List Value → Option Value} (he : entersB P f = true) (hc : ∀ xs v, g xs = some v → ∀ w, Calls P f xs.toArray w fun e w' => e = .returned v ∧ Fr noB w w') : SumG P (plS f g) := by
  have key : ∀ f' args h v h', plS f g f' args h = some (v, h') → f' = f ∧ h' = h ∧ ∃ xs u, plains args = some xs ∧ g xs = some u ∧ v = .v u := by
    intro f' args h v h' hr
    unfold plS at hr
    rw [cond_eq_ite] at hr
    split at hr
    · rename_i hf
      split at hr
      · rename_i xs hxs
        split at hr
        · rename_i u hu; cases hr; exact ⟨Nat.eq_of_beq_eq_true hf, rfl, xs, u, hxs, hu, rfl⟩
        · cases hr
      · cases hr
    · cases hr
  refine ⟨@fun _ f' args h v h' hr => ?_, fun f' args h v h' hr => ?_⟩
  · obtain ⟨rfl, rfl, xs, u, hxs, hu, rfl⟩ := key _ _ _ _ _ hr
    refine ⟨enters_of he, fun ρ w ys hys hh => ?_⟩
    have e := plains_rel hxs hys
    have : ys = xs.toArray := by rw [← e]
    rw [this]
    refine (hc xs u hu w).mono ?_
    rintro en w' ⟨rfl, hf⟩
    exact ⟨u, ρ, [], rfl, rfl, hh.fr hf, .ofFr hh.dm hf, rfl⟩
  · obtain ⟨_, rfl, _⟩ := key _ _ _ _ _ hr
    exact KL.refl _

def isTrue : Option (AV × Hp) → Bool
  | some (.v (.bool b), _) => b
  | _ => false
/-- **A call without arguments that comes to true.** -/
theorem calls_true {S : Sum} (hm : P.follows .mixedOrders = true) (ho : P.funcs.all okFunc = true) (hS : SumG P S) {f : FuncId} (n : Nat) (hr : isTrue ((sm P S n).call f [] ⟨.leaf, 0, []⟩) = true) (w : World) :
    Calls P f #[] w fun e w' => e = .returned (.bool true) ∧ Fr noB w w' := by
  cases hx : (sm P S n).call f [] ⟨.leaf, 0, []⟩ with
  | none => rw [hx] at hr; cases hr
  | some r =>
    obtain ⟨v, h'⟩ := r
    rw [hx] at hr
    unfold isTrue at hr
    split at hr
    · rename_i b h'' hb
      cases hb
      subst hr
      letI : Fz := ⟨fun _ => none, true⟩
      exact calls_plain ⟨hm, ho, hS.ok, hS.kl⟩ (fun _ => rfl) rfl n rfl hx w
    · cases hr

end Ev
end Go.Proofs.YtffcaapbmkaceaaDoor
