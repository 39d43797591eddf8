/- The list of parents that the statements keep beside a table. No condition. -/
import Derived.Test.YtfgkocpmgoaljaaXidI
import Derived.Test.YtfgkocpmgoaljaaXidP
import Derived.Test.YtfgkocpmgoaljaaXidS
import Derived.Test.YtfgkocpmgoaljaaApp
namespace Go.Proofs.Ytfgkocpmgoaljaa
open Go.RowKit Go.Shelf Xid

theorem infoInt : (Try.prog.info? 3).map (fun i => (i.zero, i.size, i.bytes)) = some (some (.int .i64 0), 1, 8) := by kernel_rfl

def parC (T : List One) : List Value := .int .i64 0 :: (T.map (·.parent)).map fun n : Nat => Value.int .i64 n
theorem parC_length (T : List One) : (parC T).length = T.length + 1 := by simp [parC]
theorem parC_get {T : List One} {k : Nat} (hk : k < T.length) : (parC T)[k + 1]? = some (.int .i64 (gt T k).parent) := by
  rw [gt_mem hk]; simp [parC, hk]

/-- Whether n stands at or above j + 1, upwards. -/
def inUp (T : List One) (m n : Nat) : Bool := decide (m + 1 ∈ upL T n)
theorem inUp_zero (T : List One) (m : Nat) : inUp T m 0 = false := by simp [inUp, upL_out]
theorem inUp_succ {T : List One} (h : WF T) (m : Nat) {j : Nat} (hj : j < T.length) : inUp T m (j + 1) = ((j == m) || inUp T m (gt T j).parent) := by
  have := upL_in h (id := j + 1) (by omega) (by omega)
  have hp : par T (j + 1) = (gt T j).parent := rfl
  rw [hp] at this
  unfold inUp
  rw [this]
  by_cases e : j = m
  · subst e; simp
  · have e' : ¬ (m + 1 = j + 1) := by omega
    have e2 : (j == m) = false := by simpa using e
    rw [e2, Bool.false_or]
    exact decide_eq_decide.2 ⟨fun hh => by rcases List.mem_cons.1 hh with hh | hh; exact absurd hh e'; exact hh, fun hh => List.mem_cons_of_mem _ hh⟩

end Go.Proofs.Ytfgkocpmgoaljaa
