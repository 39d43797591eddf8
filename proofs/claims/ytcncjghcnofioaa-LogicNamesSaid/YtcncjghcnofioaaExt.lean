/- A region that draws its order, whose operations read and whose callees make memory of their own alone: one walk of the order of the text serves every order. No condition. -/
import Derived.Test.YtcncjghcnofioaaFr
import Derived.Deep.Quiet
import Derived.Deep.QuietTactic
namespace Go.Proofs.Ytcncjghcnofioaa
open Go.RowKit

/-- The worlds that come of W by making memory. -/
structure Ext (W : World) where
  w : World
  fr : Fr noB W w
def InExt (W : World) (w' : World) : Prop := ∃ x : Ext W, w' = x.w

instance (W : World) : Nonempty (Ext W) := ⟨⟨W, Fr.refl _ _⟩⟩

variable {P : Program}
theorem wp_region_ext {id : Nat} {Q : Exit → Act → World → Prop} {a : Act} {W : World} {l : List Oper} (hm : P.follows .mixedOrders = true) (hB : Region.lexB .any l.toArray = true)
    (h : wpQuiet P l.toArray (fun w' => ∃ x : Ext W, w' = x.w) (fun a' => ∀ w', (∃ x : Ext W, w' = x.w) → Q .normal a' w') l a) : (Code.region id l.toArray true).wp P Q a W :=
  wp_region_quiet (C := fun w' => ∃ x : Ext W, w' = x.w) hm hB ⟨⟨W.drew, (Fr.refl _ _).drew⟩, rfl⟩ (by simpa using h)

/-- One operation that has no guard. -/
theorem wpQuiet_plain {ops : Array Oper} {C : World → Prop} {Q : Act → Prop} {a : Act} {o : Oper} {rest : List Oper} (hg : o.guard.isNone = true)
    (h : ∀ K : Act → Prop, (∀ a, wpQuiet P ops C Q rest a → K a) → o.quiet P a C K) : wpQuiet P ops C Q (o :: rest) a := by
  have hg' : o.guard = none := by simpa using hg
  exact wpQuiet_step fun K hK => by simp only [Region.wanted, hg', if_true]; exact h K hK
/-- .. whose guard lets it come up. -/
theorem wpQuiet_on {ops : Array Oper} {C : World → Prop} {Q : Act → Prop} {a : Act} {o : Oper} {rest : List Oper} (hg : Region.wanted o (yielded ops a.tmps) = true)
    (h : ∀ K : Act → Prop, (∀ a, wpQuiet P ops C Q rest a → K a) → o.quiet P a C K) : wpQuiet P ops C Q (o :: rest) a :=
  wpQuiet_step fun K hK => by simp only [hg, if_true]; exact h K hK
/-- .. whose guard bars it. -/
theorem wpQuiet_off {ops : Array Oper} {C : World → Prop} {Q : Act → Prop} {a : Act} {o : Oper} {rest : List Oper} (hg : Region.wanted o (yielded ops a.tmps) = false)
    (h : ∀ K : Act → Prop, (∀ a, wpQuiet P ops C Q rest a → K a) → K (a.put o.dst undef)) : wpQuiet P ops C Q (o :: rest) a :=
  wpQuiet_step fun K hK => by simp only [hg]; exact h K hK

theorem Ext.calls {f : FuncId} {args : Array Value} {W : World} {x : Ext W} {v : Value} (h : Calls P f args x.w fun e w' => e = .returned v ∧ Fr noB x.w w') :
    Calls P f args x.w fun e w'' => e = .returned v ∧ ∃ y : Ext W, w'' = y.w :=
  h.mono fun _ w' ⟨he, hf⟩ => ⟨he, ⟨w', x.fr.trans hf⟩, rfl⟩
theorem Ext.cell {W : World} {p : Addr} {v : Value} (h : W.cell? p = some v) : ∀ x : Ext W, x.w.cell? p = some v := fun x => x.fr.cell (fun y => y) h

end Go.Proofs.Ytcncjghcnofioaa
