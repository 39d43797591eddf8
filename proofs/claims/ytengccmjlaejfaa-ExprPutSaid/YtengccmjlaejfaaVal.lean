/- Values of the engine in memory, and the walks of package logic's small calls. No condition. -/
import Derived.Test.YtengccmjlaejfaaProg
import Derived.Test.YtengccmjlaejfaaFr
import Derived.WalkSpells
import Derived.WalkLawsBesides
import Derived.Deep.QuietTactic
import Derived.BigQuiet
import Derived.Laws.Rows
import Derived.Laws.ResultCell
import Derived.Deep.LoopGhost
import Derived.Deep.DeepCutAuto
import Derived.BigRegion
namespace Go.Proofs.Ytengccmjlaejfaa
open Go.RowKit

/-- A value. -/
structure V where
  k : Int
  n : Int
  hi : Int
  t : ByteArray
def ofV (b : Bool) : V := ⟨2, if b then 1 else 0, 0, ⟨#[]⟩⟩
theorem v_cells {w : World} {g : Nat} {v : V} {t : TypeId} (h : w.heap[g]? = some (.cells #[.int .u8 v.k, .int .i64 v.n, .int .i64 v.hi, .string v.t] t (0, 0))) :
    w.cell? ⟨g, 0, none⟩ = some (.int .u8 v.k) ∧ w.cell? ⟨g, 1, none⟩ = some (.int .i64 v.n) ∧ w.cell? ⟨g, 2, none⟩ = some (.int .i64 v.hi) ∧ w.cell? ⟨g, 3, none⟩ = some (.string v.t) := by
  refine ⟨?_, ?_, ?_, ?_⟩ <;> (rw [cell_of_obj h]; rfl)
end Go.Proofs.Ytengccmjlaejfaa
