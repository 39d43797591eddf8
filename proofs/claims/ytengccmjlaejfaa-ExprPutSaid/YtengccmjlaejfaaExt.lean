/- A region that draws its order, whose operations read and whose callees make memory of their own alone: one walk of the order of the text serves every order. No condition. -/
import Derived.Test.YtengccmjlaejfaaFr
import Derived.Deep.Quiet
import Derived.Deep.QuietTactic
namespace Go.Proofs.Ytengccmjlaejfaa
open Go.RowKit

/-- The worlds that come of W by making memory. -/
structure Ext (W : World) where
  w : World
  fr : Fr noB W w
instance (W : World) : Nonempty (Ext W) := ⟨⟨W, Fr.refl _ _⟩⟩

variable {P : Program}
theorem Ext.calls {f : FuncId} {args : Array Value} {W : World} {x : Ext W} {v : Value} (h : Calls P f args x.w fun e w' => e = .returned v ∧ Fr noB x.w w') :
    Calls P f args x.w fun e w'' => e = .returned v ∧ ∃ y : Ext W, w'' = y.w :=
  h.mono fun _ w' ⟨he, hf⟩ => ⟨he, ⟨w', x.fr.trans hf⟩, rfl⟩
theorem Ext.cell {W : World} {p : Addr} {v : Value} (h : W.cell? p = some v) : ∀ x : Ext W, x.w.cell? p = some v := fun x => x.fr.cell (fun y => y) h

end Go.Proofs.Ytengccmjlaejfaa
