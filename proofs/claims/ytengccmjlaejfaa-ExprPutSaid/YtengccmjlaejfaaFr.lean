/- 'Fr S w w'': the world w' is as w was but for blocks that S names and for new blocks. No condition. -/
import Derived.WalkKit
import Derived.RangeFuncRecord
import Derived.Lib.Hide
namespace Go.Proofs.Ytengccmjlaejfaa
open Go.RowKit

structure Fr (S : Nat → Prop) (w w' : World) : Prop where
  os : w'.os = w.os
  tape : w'.tape = w.tape
  output : w'.output = w.output
  size : w.heap.size ≤ w'.heap.size
  block : ∀ k, k < w.heap.size → ¬ S k → w'.heap[k]? = w.heap[k]?

def noB : Nat → Prop := fun _ => False

theorem Fr.refl (S : Nat → Prop) (w : World) : Fr S w w := ⟨rfl, rfl, rfl, Nat.le_refl _, fun _ _ _ => rfl⟩

theorem Fr.transX {S S' : Nat → Prop} {a b c : World} (h : Fr S a b) (k : Fr S' b c) (hS : ∀ i, i < a.heap.size → S' i → S i) : Fr S a c :=
  ⟨k.os.trans h.os, k.tape.trans h.tape, k.output.trans h.output, Nat.le_trans h.size k.size,
    fun i hi hn => (k.block i (Nat.lt_of_lt_of_le hi h.size) (fun hs => hn (hS i hi hs))).trans (h.block i hi hn)⟩

theorem Fr.trans {S : Nat → Prop} {a b c : World} (h : Fr S a b) (k : Fr S b c) : Fr S a c := h.transX k (fun _ _ x => x)

theorem Fr.transN {S : Nat → Prop} {a b c : World} (h : Fr S a b) (k : Fr noB b c) : Fr S a c := h.transX k (fun _ _ x => x.elim)

theorem Fr.mono {S S' : Nat → Prop} {a b : World} (h : Fr S a b) (hS : ∀ i, i < a.heap.size → S i → S' i) : Fr S' a b :=
  ⟨h.os, h.tape, h.output, h.size, fun i hi hn => h.block i hi (fun hs => hn (hS i hi hs))⟩

theorem Fr.drew {S : Nat → Prop} {a w : World} (h : Fr S a w) : Fr S a w.drew := ⟨h.os, h.tape, h.output, h.size, h.block⟩

theorem Fr.alloc {S : Nat → Prop} {a w : World} (h : Fr S a w) (o : Obj) : Fr S a (w.alloc o) :=
  h.trans ⟨rfl, rfl, rfl, by simp, fun k hk _ => Below.heap_alloc _ _ _ hk⟩

theorem Fr.setCell {S : Nat → Prop} {a w : World} (h : Fr S a w) {p : Addr} (hp : p.block < a.heap.size → S p.block) (u : Value) : Fr S a (w.setCell p u) :=
  ⟨h.os, h.tape, h.output, by simpa [World.setCell] using h.size, fun k hk hn => by
    by_cases e : k = p.block
    · subst e; exact absurd (hp hk) hn
    · exact (Below.heap_setCell _ _ _ _ e).trans (h.block k hk hn)⟩

theorem Fr.putObj {S : Nat → Prop} {a w : World} (h : Fr S a w) {l : Nat} (hp : l < a.heap.size → S l) (o : Obj) : Fr S a (w.putObj l o) :=
  ⟨h.os, h.tape, h.output, by simpa using h.size, fun k hk hn => by
    by_cases e : k = l
    · subst e; exact absurd (hp hk) hn
    · exact (World.putObj_heap_other e).trans (h.block k hk hn)⟩

theorem Fr.grown {S : Nat → Prop} {a w w' : World} {row : Option Nat} (h : Fr S a w) (hg : w.grownBy w' row) (hr : ∀ k, row = some k → k < a.heap.size → S k) : Fr S a w' :=
  ⟨hg.os.trans h.os, hg.tape.trans h.tape, hg.output.trans h.output, Nat.le_trans h.size hg.size, fun k hk hn =>
    (hg.block k (Nat.lt_of_lt_of_le hk h.size) (fun e => hn (hr k e.symm hk))).trans (h.block k hk hn)⟩

theorem Fr.below {S : Nat → Prop} {a b : World} {B : Nat} (h : Fr S a b) (hB : B ≤ a.heap.size) (hS : ∀ k, k < B → ¬ S k) : Below B a b :=
  ⟨h.os, h.tape, h.output, h.size, fun k hk => h.block k (by omega) (hS k hk)⟩

theorem Fr.of_below {a b : World} {B : Nat} (h : Below B a b) : Fr (fun k => B ≤ k) a b :=
  ⟨h.os, h.tape, h.output, h.size, fun k _ hn => h.block k (by omega)⟩

theorem Fr.cell {S : Nat → Prop} {a b : World} (h : Fr S a b) {p : Addr} {v : Value} (hp : ¬ S p.block) (hc : a.cell? p = some v) : b.cell? p = some v := by
  have hlt : p.block < a.heap.size := by
    unfold World.cell? at hc
    cases ho : a.heap[p.block]? with
    | none => simp [ho] at hc
    | some o => exact (Array.getElem?_eq_some_iff.1 ho).1
  rw [World.cell?_of_block (w := a) (h.block _ hlt hp)]; exact hc

theorem Fr.obj {S : Nat → Prop} {a b : World} (h : Fr S a b) {k : Nat} {o : Obj} (hp : ¬ S k) (hc : a.heap[k]? = some o) : b.heap[k]? = some o :=
  (h.block k (Array.getElem?_eq_some_iff.1 hc).1 hp).trans hc

/-- A block whose cells are known whole. -/
theorem cell_of_obj {w : World} {b : Nat} {cs : Array Value} {t : TypeId} {fz : Nat × Nat} (h : w.heap[b]? = some (.cells cs t fz)) (o : Nat) : w.cell? ⟨b, o, none⟩ = cs[o]? := by
  simp [World.cell?, h]
theorem frozen_of_obj {w : World} {b : Nat} {cs : Array Value} {t : TypeId} (h : w.heap[b]? = some (.cells cs t (0, 0))) (o : Nat) : w.frozen? ⟨b, o, none⟩ = false := by
  simp [World.frozen?, h]
theorem obj_setCell {w : World} {b : Nat} {cs : Array Value} {t : TypeId} (h : w.heap[b]? = some (.cells cs t (0, 0))) (o : Nat) (v : Value) :
    (w.setCell ⟨b, o, none⟩ v).heap[b]? = some (.cells (cs.setIfInBounds o v) t (0, 0)) := by
  have hlt := (Array.getElem?_eq_some_iff.1 h).1
  have hv := (Array.getElem?_eq_some_iff.1 h).2
  simp only [World.setCell]
  rw [Array.getElem?_modify]
  simp [h]
theorem obj_alloc_new (w : World) (o : Obj) : (w.alloc o).heap[w.heap.size]? = some o := World.alloc_heap_new w o
theorem obj_alloc {w : World} {k : Nat} {o : Obj} (h : w.heap[k]? = some o) (o' : Obj) : (w.alloc o').heap[k]? = some o :=
  (Below.heap_alloc w o' k (Array.getElem?_eq_some_iff.1 h).1).trans h
theorem obj_setCell_other {w : World} {k : Nat} {o : Obj} (h : w.heap[k]? = some o) (p : Addr) (v : Value) (hne : k ≠ p.block) : (w.setCell p v).heap[k]? = some o :=
  (Below.heap_setCell w p v k hne).trans h
theorem obj_lt {w : World} {k : Nat} {o : Obj} (h : w.heap[k]? = some o) : k < w.heap.size := (Array.getElem?_eq_some_iff.1 h).1

/-- A block whose cells are of one of some types. -/
def ofT (ts : List TypeId) (w : World) (k : Nat) : Prop := ∃ c t fz, w.heap[k]? = some (.cells c t fz) ∧ t ∈ ts
/-- Nothing has turned but blocks of some types. -/
def FrT (ts : List TypeId) (w w' : World) : Prop := Fr (ofT ts w) w w'

theorem FrT.refl (ts : List TypeId) (w : World) : FrT ts w w := Fr.refl _ _
theorem FrT.trans {ts : List TypeId} {a b c : World} (h : FrT ts a b) (k : FrT ts b c) : FrT ts a c :=
  h.transX k (fun i hi ⟨cs, t, fz, h1, h2⟩ => Classical.byContradiction fun hn => hn ⟨cs, t, fz, (h.block i hi hn).symm.trans h1, h2⟩)
theorem FrT.obj {ts : List TypeId} {a b : World} (h : FrT ts a b) {k : Nat} {c : Array Value} {t : TypeId} {fz : Nat × Nat} (hk : a.heap[k]? = some (.cells c t fz)) (ht : t ∉ ts) : b.heap[k]? = some (.cells c t fz) :=
  Fr.obj h (fun ⟨_, _, _, h1, h2⟩ => by rw [hk] at h1; cases h1; exact ht h2) hk
theorem FrT.row {ts : List TypeId} {a b : World} (h : FrT ts a b) {base : Nat} {e : TypeId} {size : Nat} {v : Value} {n : Nat} {xs : List Value} (ho : a.ownsRow base e size v n xs) (ht : e ∉ ts) : b.ownsRow base e size v n xs := by
  obtain ⟨h1, h2 | ⟨g, cap, cur, rfl, h3, h4, h5⟩⟩ := ho
  · exact ⟨h1, .inl h2⟩
  · exact ⟨h1, .inr ⟨g, cap, cur, rfl, h3, h.obj h4 ht, h5⟩⟩
theorem FrT.mono {ts ts' : List TypeId} {a b : World} (h : FrT ts a b) (hs : ∀ t ∈ ts, t ∈ ts') : FrT ts' a b :=
  Fr.mono h (fun _ _ ⟨c, t, fz, h1, h2⟩ => ⟨c, t, fz, h1, hs t h2⟩)

end Go.Proofs.Ytengccmjlaejfaa
