/- A summary by a table: what a function of one text tells of a few texts, each reckoned once by the evaluator. No condition. -/
import Derived.Test.YtffcaapbmkaceaaDoorEvS
namespace Go.Proofs.YtffcaapbmkaceaaDoor
namespace Ev
open Go.RowKit
variable {P : Program}

def eqL : List UInt8 → List UInt8 → Bool
  | [], [] => true
  | a :: r, b :: s => Nat.beq a.toNat b.toNat && eqL r s
  | _, _ => false
theorem eqL_eq : ∀ {a b : List UInt8}, eqL a b = true → a = b
  | [], [], _ => rfl
  | a :: r, b :: s, h => by
    simp only [eqL, Bool.and_eq_true] at h
    have h1 : a.toNat = b.toNat := Nat.eq_of_beq_eq_true h.1
    rw [UInt8.toNat_inj.1 h1, eqL_eq h.2]
  | [], _ :: _, h => by simp [eqL] at h
  | _ :: _, [], h => by simp [eqL] at h
def eqBA (a b : ByteArray) : Bool := eqL a.data.toList b.data.toList
theorem eqBA_eq {a b : ByteArray} (h : eqBA a b = true) : a = b := by
  obtain ⟨⟨a⟩⟩ := a
  obtain ⟨⟨b⟩⟩ := b
  have := eqL_eq h
  simp at this
  rw [this]
def look1 (s : ByteArray) : List (ByteArray × Bool) → Option Bool
  | [] => none
  | (t, b) :: r => bif eqBA s t then some b else look1 s r
theorem look1_mem {s : ByteArray} {b : Bool} : ∀ {l : List (ByteArray × Bool)}, look1 s l = some b → (s, b) ∈ l
  | [], h => by cases h
  | (t, c) :: r, h => by
    simp only [look1] at h
    cases hc : eqBA s t with
    | true => rw [hc] at h; cases h; rw [eqBA_eq hc]; exact List.mem_cons_self
    | false => rw [hc] at h; exact List.mem_cons_of_mem _ (look1_mem h)
def isB (b : Bool) : Option (AV × Hp) → Bool
  | some (.v (.bool c), _) => c == b
  | _ => false
/-- A predicate of one text by a table. -/
def tbS (f : FuncId) (l : List (ByteArray × Bool)) : Sum := plS f fun
  | [.string s] => (look1 s l).map .bool
  | _ => none
theorem tbS_ok {S : Sum} (hm : P.follows .mixedOrders = true) (ho : P.funcs.all okFunc = true) (hS : SumG P S) {f : FuncId} {l : List (ByteArray × Bool)} (he : entersB P f = true) (n : Nat)
    (h : (l.all fun x => isB x.2 ((sm P S n).call f [.v (.string x.1)] ⟨.leaf, 0, []⟩)) = true) : SumG P (tbS f l) := plS_ok he fun xs v hv w => by
  split at hv
  · rename_i s
    simp only [Option.map_eq_some_iff] at hv
    obtain ⟨b, hb, rfl⟩ := hv
    have := List.all_eq_true.1 h _ (look1_mem hb)
    cases hx : (sm P S n).call f [.v (.string s)] ⟨.leaf, 0, []⟩ with
    | none => rw [hx] at this; cases this
    | some r =>
      obtain ⟨u, h'⟩ := r
      rw [hx] at this
      unfold isB at this
      split at this
      · rename_i c h'' hc
        cases hc
        have hc : c = b := by simpa using this
        subst hc
        letI : Fz := ⟨fun _ => none, true⟩
        exact calls_plain (G := ⟨hm, ho, hS.ok, hS.kl⟩) (fun _ => rfl) rfl n rfl hx w
      · cases this
  · cases hv
end Ev
end Go.Proofs.YtffcaapbmkaceaaDoor
