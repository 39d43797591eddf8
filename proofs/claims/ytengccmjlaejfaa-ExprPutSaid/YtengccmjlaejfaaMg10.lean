/- Words for walks whose variables lie in blocks. No condition. -/
import Derived.Test.YtengccmjlaejfaaVal
import Derived.ChangeKeysEq
section
namespace Go.Proofs.Ytengccmjlaejfaa
open Go.RowKit

variable {P : Program}

/-- What follows is shown of every world of which this is known. -/
theorem wp_world {c : Code} {K : Exit → Act → World → Prop} {a : Act} {w : World} (R : World → Prop) (hR : R w) (h : ∀ W, R W → c.wp P K a W) : c.wp P K a w := h w hR

theorem obj_alloc_at {w : World} {k : Nat} {o : Obj} (hk : k = w.heap.size) : (w.alloc o).heap[k]? = some o := by subst hk; exact obj_alloc_new w o

theorem obj_put4 {w : World} {k g : Nat} {t : TypeId} {x0 x1 x2 x3 y0 y1 y2 y3 : Value} (hk : k = g) (h : w.heap[k]? = some (.cells #[x0, x1, x2, x3] t (0, 0))) :
    ((((w.setCell ⟨g, 0, none⟩ y0).setCell ⟨g, 1, none⟩ y1).setCell ⟨g, 2, none⟩ y2).setCell ⟨g, 3, none⟩ y3).heap[k]? = some (.cells #[y0, y1, y2, y3] t (0, 0)) := by
  subst hk
  exact obj_setCell (obj_setCell (obj_setCell (obj_setCell h 0 y0) 1 y1) 2 y2) 3 y3
theorem obj_put1 {w : World} {k g : Nat} {t : TypeId} {x0 y0 : Value} (hk : k = g) (h : w.heap[k]? = some (.cells #[x0] t (0, 0))) :
    (w.setCell ⟨g, 0, none⟩ y0).heap[k]? = some (.cells #[y0] t (0, 0)) := by
  subst hk
  exact obj_setCell h 0 y0
theorem noB_not (k : Nat) : ¬ noB k := fun x => x
theorem obj_drew {w : World} {k : Nat} {o : Obj} (h : w.heap[k]? = some o) : w.drew.heap[k]? = some o := h

/-- Two values are the same. -/
def eqV (a b : V) : Bool := a.k == b.k && (a.n == b.n && (a.hi == b.hi && a.t.toList == b.t.toList))
theorem eqV_iff (a b : V) : eqV a b = true ↔ a = b := by
  obtain ⟨k, n, h, t⟩ := a
  obtain ⟨k', n', h', t'⟩ := b
  simp only [eqV, Bool.and_eq_true, beq_iff_eq, V.mk.injEq, ByteArray.toList_eq]
  have e : (t.data.toList = t'.data.toList) ↔ t = t' := by
    obtain ⟨⟨x⟩⟩ := t
    obtain ⟨⟨y⟩⟩ := t'
    simp
  rw [e]
theorem eqV_self (a : V) : eqV a a = true := (eqV_iff a a).2 rfl

theorem part_run0 (x : V) (w : World) : (part 5 #[.int .u8 x.k, .int .i64 x.n, .int .i64 x.hi, .string x.t] 0).run Try.prog w = .ok (.int .u8 x.k) w := run_part_plain w (by kernel_rfl) rfl
theorem part_run1 (x : V) (w : World) : (part 2 #[.int .u8 x.k, .int .i64 x.n, .int .i64 x.hi, .string x.t] 1).run Try.prog w = .ok (.int .i64 x.n) w := run_part_plain w (by kernel_rfl) rfl
theorem part_run2 (x : V) (w : World) : (part 2 #[.int .u8 x.k, .int .i64 x.n, .int .i64 x.hi, .string x.t] 2).run Try.prog w = .ok (.int .i64 x.hi) w := run_part_plain w (by kernel_rfl) rfl
theorem part_run3 (x : V) (w : World) : (part 9 #[.int .u8 x.k, .int .i64 x.n, .int .i64 x.hi, .string x.t] 3).run Try.prog w = .ok (.string x.t) w := run_part_plain w (by kernel_rfl) rfl
theorem eqf_run (a b : V) (w : World) : (Op.eqFields 9999 #[.int .u8 a.k, .int .i64 a.n, .int .i64 a.hi, .string a.t] #[.int .u8 b.k, .int .i64 b.n, .int .i64 b.hi, .string b.t] (Try.prog.fieldsOf 23).toList).run Try.prog w = .ok (eqV a b) w := by
  simp [Program.fieldsOf, Try.underlying23, Op.eqFields, part_run0, part_run1, part_run2, part_run3, run_equalIn_int _ _ _ _ _ _ _ Try.underlying5, run_equalIn_int _ _ _ _ _ _ _ Try.underlying2, run_equalIn_string _ _ _ _ _ Try.underlying9, eqV]
  by_cases h1 : a.k = b.k <;> by_cases h2 : a.n = b.n <;> by_cases h3 : a.hi = b.hi <;> by_cases h4 : a.t.toList = b.t.toList <;> simp [h1, h2, h3, h4]
theorem eqv_run (a b : V) (w : World) : (binOp .eql 23 (.agg #[.int .u8 a.k, .int .i64 a.n, .int .i64 a.hi, .string a.t]) (.agg #[.int .u8 b.k, .int .i64 b.n, .int .i64 b.hi, .string b.t])).run Try.prog w = .ok (.bool (eqV a b)) w := by
  rw [run_eql_struct, run_equalIn_agg _ _ _ _ _ (by kernel_rfl) (by kernel_rfl), eqf_run]
  rfl
end Go.Proofs.Ytengccmjlaejfaa
end
section
namespace Go.Proofs.Ytengccmjlaejfaa
open Go.RowKit

/-- Block g of w holds the value v. -/
def Bx (w : World) (g : Nat) (v : V) : Prop := w.heap[g]? = some (.cells #[.int .u8 v.k, .int .i64 v.n, .int .i64 v.hi, .string v.t] 23 (0, 0))
/-- Block g of w holds the value of kind k, with the numbers n and h, and no text. -/
def Bl (w : World) (g : Nat) (k n h : Int) : Prop := w.heap[g]? = some (.cells #[.int .u8 k, .int .i64 n, .int .i64 h, .string ⟨#[]⟩] 23 (0, 0))

theorem Bx.raw {w : World} {g : Nat} {v : V} (h : Bx w g v) : w.heap[g]? = some (.cells #[.int .u8 v.k, .int .i64 v.n, .int .i64 v.hi, .string v.t] 23 (0, 0)) := h
theorem Bl.raw {w : World} {g : Nat} {k n h : Int} (e : Bl w g k n h) : w.heap[g]? = some (.cells #[.int .u8 k, .int .i64 n, .int .i64 h, .string ⟨#[]⟩] 23 (0, 0)) := e
theorem Bx.lt {w : World} {g : Nat} {v : V} (h : Bx w g v) : g < w.heap.size := obj_lt h
theorem Bl.lt {w : World} {g : Nat} {k n h : Int} (e : Bl w g k n h) : g < w.heap.size := obj_lt e
theorem Bx.mv {w w' : World} {g : Nat} {v : V} (h : Bx w g v) (hf : Fr noB w w') : Bx w' g v := hf.obj (fun x => x) h
theorem Bl.mv {w w' : World} {g : Nat} {k n h : Int} (e : Bl w g k n h) (hf : Fr noB w w') : Bl w' g k n h := hf.obj (fun x => x) e
theorem Bx.cs {w : World} {g : Nat} {v : V} (h : Bx w g v) : w.cell? ⟨g, 0, none⟩ = some (.int .u8 v.k) ∧ w.cell? ⟨g, 1, none⟩ = some (.int .i64 v.n) ∧ w.cell? ⟨g, 2, none⟩ = some (.int .i64 v.hi) ∧ w.cell? ⟨g, 3, none⟩ = some (.string v.t) ∧ ∀ o, w.frozen? ⟨g, o, none⟩ = false :=
  ⟨(v_cells h).1, (v_cells h).2.1, (v_cells h).2.2.1, (v_cells h).2.2.2, frozen_of_obj h⟩
theorem Bl.cs {w : World} {g : Nat} {k n h : Int} (e : Bl w g k n h) : w.cell? ⟨g, 0, none⟩ = some (.int .u8 k) ∧ w.cell? ⟨g, 1, none⟩ = some (.int .i64 n) ∧ w.cell? ⟨g, 2, none⟩ = some (.int .i64 h) ∧ w.cell? ⟨g, 3, none⟩ = some (.string ⟨#[]⟩) ∧ ∀ o, w.frozen? ⟨g, o, none⟩ = false :=
  ⟨(v_cells (v := ⟨k, n, h, ⟨#[]⟩⟩) e).1, (v_cells (v := ⟨k, n, h, ⟨#[]⟩⟩) e).2.1, (v_cells (v := ⟨k, n, h, ⟨#[]⟩⟩) e).2.2.1, (v_cells (v := ⟨k, n, h, ⟨#[]⟩⟩) e).2.2.2, frozen_of_obj e⟩
end Go.Proofs.Ytengccmjlaejfaa
end
