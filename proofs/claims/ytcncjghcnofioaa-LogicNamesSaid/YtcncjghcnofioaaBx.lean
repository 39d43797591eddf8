/- A value's block, in few words. No condition. -/
import Derived.Test.YtcncjghcnofioaaWk
namespace Go.Proofs.Ytcncjghcnofioaa
open Go.RowKit

/-- Block g of w holds the value v. -/
def Bx (w : World) (g : Nat) (v : V) : Prop := w.heap[g]? = some (.cells #[.int .u8 v.k, .int .i64 v.n, .int .i64 v.hi, .string v.t] 23 (0, 0))
/-- Block g of w holds the value of kind k, with the numbers n and h, and no text. -/
def Bl (w : World) (g : Nat) (k n h : Int) : Prop := w.heap[g]? = some (.cells #[.int .u8 k, .int .i64 n, .int .i64 h, .string ⟨#[]⟩] 23 (0, 0))

theorem Bx.raw {w : World} {g : Nat} {v : V} (h : Bx w g v) : w.heap[g]? = some (.cells #[.int .u8 v.k, .int .i64 v.n, .int .i64 v.hi, .string v.t] 23 (0, 0)) := h
theorem Bl.raw {w : World} {g : Nat} {k n h : Int} (e : Bl w g k n h) : w.heap[g]? = some (.cells #[.int .u8 k, .int .i64 n, .int .i64 h, .string ⟨#[]⟩] 23 (0, 0)) := e
theorem Bx.lt {w : World} {g : Nat} {v : V} (h : Bx w g v) : g < w.heap.size := obj_lt h
theorem Bl.lt {w : World} {g : Nat} {k n h : Int} (e : Bl w g k n h) : g < w.heap.size := obj_lt e
theorem Bx.mv {w w' : World} {g : Nat} {v : V} (h : Bx w g v) (hf : Fr noB w w') : Bx w' g v := hf.obj (fun x => x) h
theorem Bl.mv {w w' : World} {g : Nat} {k n h : Int} (e : Bl w g k n h) (hf : Fr noB w w') : Bl w' g k n h := hf.obj (fun x => x) e
theorem Bx.cs {w : World} {g : Nat} {v : V} (h : Bx w g v) : w.cell? ⟨g, 0, none⟩ = some (.int .u8 v.k) ∧ w.cell? ⟨g, 1, none⟩ = some (.int .i64 v.n) ∧ w.cell? ⟨g, 2, none⟩ = some (.int .i64 v.hi) ∧ w.cell? ⟨g, 3, none⟩ = some (.string v.t) ∧ ∀ o, w.frozen? ⟨g, o, none⟩ = false :=
  ⟨(v_cells h).1, (v_cells h).2.1, (v_cells h).2.2.1, (v_cells h).2.2.2, frozen_of_obj h⟩
theorem Bl.cs {w : World} {g : Nat} {k n h : Int} (e : Bl w g k n h) : w.cell? ⟨g, 0, none⟩ = some (.int .u8 k) ∧ w.cell? ⟨g, 1, none⟩ = some (.int .i64 n) ∧ w.cell? ⟨g, 2, none⟩ = some (.int .i64 h) ∧ w.cell? ⟨g, 3, none⟩ = some (.string ⟨#[]⟩) ∧ ∀ o, w.frozen? ⟨g, o, none⟩ = false :=
  ⟨(v_cells (v := ⟨k, n, h, ⟨#[]⟩⟩) e).1, (v_cells (v := ⟨k, n, h, ⟨#[]⟩⟩) e).2.1, (v_cells (v := ⟨k, n, h, ⟨#[]⟩⟩) e).2.2.1, (v_cells (v := ⟨k, n, h, ⟨#[]⟩⟩) e).2.2.2, frozen_of_obj e⟩
theorem raw_mv {w w' : World} {g : Nat} {o : Obj} (h : w.heap[g]? = some o) (hf : Fr noB w w') : w'.heap[g]? = some o := hf.obj (fun x => x) h
theorem raw_raw {w : World} {g : Nat} {o : Obj} (h : w.heap[g]? = some o) : w.heap[g]? = some o := h

end Go.Proofs.Ytcncjghcnofioaa
