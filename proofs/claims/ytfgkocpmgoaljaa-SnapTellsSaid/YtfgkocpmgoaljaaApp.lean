/- An append of some elements to a row of the call's own: the row's block is the one it was, or a new one. The condition: the sizes are within the model's bounds. -/
import Derived.Test.YtfgkocpmgoaljaaFr
import Derived.ArgAppend
import Derived.Laws.OwnMore
import Derived.Maps.AppendAt
namespace Go.Proofs.Ytfgkocpmgoaljaa
open Go.RowKit
variable {P : Program}

theorem ownsRow_mono {w : World} {base base' : Nat} {e : TypeId} {size : Nat} {v : Value} {n : Nat} {xs : List Value} (h : w.ownsRow base e size v n xs) (hb : base' ≤ base) : w.ownsRow base' e size v n xs := by
  obtain ⟨h1, h2 | ⟨g, cap, cur, rfl, h3, h4⟩⟩ := h
  · exact ⟨h1, .inl h2⟩
  · exact ⟨h1, .inr ⟨g, cap, cur, rfl, Nat.le_trans hb h3, h4⟩⟩

theorem addr_add (g j : Nat) : (⟨g, 0, none⟩ : Addr).add j = ⟨g, j, none⟩ := by
  by_cases e : j = 0
  · subst e; simp [Addr.add]
  · simp [Addr.add, e]
/-- A block beside the one that grew. -/
theorem kept_cell {w0 w1 : World} {row : Option Nat} (hg : w0.grownBy w1 row) {b : Nat} {cs : Array Value} {t : TypeId} (h : w0.heap[b]? = some (.cells cs t (0, 0))) (hne : row ≠ some b) :
    (∀ o, w1.cell? ⟨b, o, none⟩ = cs[o]?) ∧ ∀ o, w1.frozen? ⟨b, o, none⟩ = false := by
  have h1 : w1.heap[b]? = some (.cells cs t (0, 0)) := (hg.block b (obj_lt h) (fun e => hne e.symm)).trans h
  exact ⟨cell_of_obj h1, frozen_of_obj h1⟩
/-- The cells of a block just laid. -/
theorem cells_new (w : World) (c : Array Value) (t : TypeId) (j : Nat) (u : Value) (h : c.toList[j]? = some u) : (w.alloc (.cells c t)).cell? ((⟨w.heap.size, 0, none⟩ : Addr).add j) = some u := by
  rw [addr_add, cell_of_obj (obj_alloc_new w _)]
  simpa using h

/-- A cell of a row. -/
theorem row_cell {w : World} {base : Nat} {e : TypeId} {size : Nat} {g n c : Nat} {m : Nat} {xs : List Value} (h : w.ownsRow base e size (.slice (some ⟨g, 0, none⟩) n c) m xs) {i : Nat} {u : Value} (hi : xs[i]? = some u) : w.cell? ⟨g, i, none⟩ = some u := by
  obtain ⟨h1, ⟨h2, _⟩ | ⟨g', cap, cur, h2, _, h4, h5, h6, h7, h8⟩⟩ := h
  · cases h2
  · cases h2
    rw [cell_of_obj h4]
    have hlt : i < n * size := by rw [← h1]; exact (List.getElem?_eq_some_iff.1 hi).1
    rw [← h8, List.getElem?_take_of_lt hlt] at hi
    simpa using hi

/-- A cell of a row is written. -/
theorem row_set {w : World} {base : Nat} {e : TypeId} {size : Nat} {g n c : Nat} {m : Nat} {xs : List Value} (h : w.ownsRow base e size (.slice (some ⟨g, 0, none⟩) n c) m xs) {i : Nat} (hi : i < m * size) (v : Value) :
    (w.setCell ⟨g, i, none⟩ v).ownsRow base e size (.slice (some ⟨g, 0, none⟩) n c) m (xs.set i v) ∧ w.frozen? ⟨g, i, none⟩ = false := by
  obtain ⟨h1, ⟨h2, _⟩ | ⟨g', cap, cur, h2, h3, h4, h5, h6, h7, h8⟩⟩ := h
  · cases h2
  · cases h2
    refine ⟨⟨by simp [h1], .inr ⟨g, c, _, rfl, h3, obj_setCell h4 i v, h5, h6, by simp [h7], ?_⟩⟩, frozen_of_obj h4 i⟩
    rw [Array.toList_setIfInBounds, List.take_set, h8]

theorem run_append_row (w : World) (base : Nat) (t ty e : TypeId) (i : TypeInfo) (z : Value) (size bytes : Nat) (ht : P.underlying t = some (.slice e)) (hi : P.info? e = some i) (hz : i.zero = some z)
    (hsize : i.size = size) (hby : i.bytes = bytes) (hzs : z.cells.size = size) (hsz : 0 < size)
    (v : Value) (n : Nat) (xs : List Value) (hown : w.ownsRow base e size v n xs)
    (a : Addr) (m c : Nat) (news : List Value) (hl : news.length = m * size) (hnews : ∀ j u, news[j]? = some u → w.cell? (a.add j) = some u) (h1 : ∀ u ∈ news, u.oneCell' = true)
    (h63 : n + m ≤ maxLen) (hbytes : (n + m) * bytes ≤ 140737488355328) (hbase : base ≤ w.heap.size) (hm : 0 < m) :
    ∃ g' cap' w', (Builtin.append_ #[t, t] ty #[v, .slice (some a) m c]).run P w = .ok (.slice (some ⟨g', 0, none⟩) (n + m) cap') w' ∧
      w'.ownsRow base e size (.slice (some ⟨g', 0, none⟩) (n + m) cap') (n + m) (xs ++ news) ∧ w.grownBy w' v.ownBlock ∧ (v.ownBlock = some g' ∨ w.heap.size ≤ g') := by
  have hown0 := hown
  have fin : ∀ (v' : Value) (w' : World), w'.ownsRow w.heap.size e size v' (n + m) (xs ++ news) → ∃ g' cap', v' = .slice (some ⟨g', 0, none⟩) (n + m) cap' ∧ w'.ownsRow base e size v' (n + m) (xs ++ news) ∧ w.heap.size ≤ g' := by
    intro v' w' ho
    obtain ⟨h2, ⟨_, h3⟩ | ⟨g, cap, cur, rfl, h4, h5⟩⟩ := ho
    · omega
    · exact ⟨g, cap, rfl, ⟨h2, .inr ⟨g, cap, cur, rfl, by omega, h5⟩⟩, h4⟩
  obtain ⟨hx, ⟨rfl, rfl⟩ | ⟨g, cap, cur, rfl, hb, hc, hn1, hn2, hn3, hn4⟩⟩ := hown
  · have ho : w.ownsRow w.heap.size e size (.slice none 0 0) 0 xs := ⟨hx, .inl ⟨rfl, rfl⟩⟩
    obtain ⟨v', w', hr, h2, h3, _⟩ := run_append_own (P := P) w w.heap.size t ty e i z size bytes ht hi hz hsize hby hzs hsz _ 0 xs ho a m c news hl hnews h1 h63 hbytes (Nat.le_refl _)
    obtain ⟨g', cap', rfl, h5, h6⟩ := fin v' w' h2
    exact ⟨g', cap', w', hr, h5, h3, .inr h6⟩
  · by_cases hroom : n + m ≤ cap
    · obtain ⟨w', hr, h2, h3⟩ := run_append_fits (P := P) w base t ty e i size ht hi hsize g n cap xs hown0 a m c news hl hnews h1 hroom
      exact ⟨g, cap, w', hr, h2, h3, .inl rfl⟩
    · have holds : ∀ (j : Nat) (u : Value), xs[j]? = some u → w.cell? ((⟨g, 0, none⟩ : Addr).add j) = some u := by
        intro j u hj
        have hjl : j < n * size := by rw [← hx]; exact (List.getElem?_eq_some_iff.1 hj).1
        rw [← hn4, List.getElem?_take_of_lt hjl] at hj
        have e : (⟨g, 0, none⟩ : Addr).add j = ⟨g, j, none⟩ := by
          by_cases e : j = 0
          · subst e; simp [Addr.add]
          · simp [Addr.add, e]
        rw [e, cell_of_obj hc]
        simpa using hj
      obtain ⟨v', w', hr, h2, h3⟩ := run_append_arg_grows (P := P) w t ty e i z size bytes ht hi hz hsize hby hzs hsz ⟨g, 0, none⟩ n cap xs hx holds a m c news hl hnews (by omega) h63 hbytes
      obtain ⟨g', cap', rfl, h5, h6⟩ := fin v' w' h2
      exact ⟨g', cap', w', hr, h5, ⟨h3.os, h3.tape, h3.output, h3.size, fun k hk _ => h3.block k hk (by simp)⟩, .inr h6⟩

theorem wpList_append_row (w : World) {ops : Array Oper} {rest : List Oper} {o : Oper} {a : Act} {Q : Exit → Act → World → Prop} (hgd : o.guard = none) (s x : Operand) (t : TypeId)
    (ho : o.op = .call { callee := .builtin .append, args := #[s, x], argTypes := #[t, t] })
    (base : Nat) (e : TypeId) (i : TypeInfo) (z : Value) (size bytes : Nat) (ht : P.underlying t = some (.slice e)) (hi : P.info? e = some i) (hz : i.zero = some z)
    (hsize : i.size = size) (hby : i.bytes = bytes) (hzs : z.cells.size = size) (hsz : 0 < size)
    (v : Value) (n : Nat) (xs : List Value) (hs : a.eval s = v) (hown : w.ownsRow base e size v n xs)
    (ad : Addr) (m c : Nat) (news : List Value) (hx : a.eval x = .slice (some ad) m c) (hl : news.length = m * size) (hnews : ∀ j u, news[j]? = some u → w.cell? (ad.add j) = some u) (h1 : ∀ u ∈ news, u.oneCell' = true)
    (h63 : n + m ≤ maxLen) (hbytes : (n + m) * bytes ≤ 140737488355328) (hbase : base ≤ w.heap.size) (hm : 0 < m)
    (h : ∀ g' cap' w', w'.ownsRow base e size (.slice (some ⟨g', 0, none⟩) (n + m) cap') (n + m) (xs ++ news) → w.grownBy w' v.ownBlock → (v.ownBlock = some g' ∨ w.heap.size ≤ g') →
      wpList P ops Q rest (a.put o.dst (.slice (some ⟨g', 0, none⟩) (n + m) cap')) w') : wpList P ops Q (o :: rest) a w := by
  refine wpList_plain hgd fun K hK => ?_
  obtain ⟨g', cap', w', hr, h2, h3, h4⟩ := run_append_row (P := P) w base t o.type e i z size bytes ht hi hz hsize hby hzs hsz v n xs hown ad m c news hl hnews h1 h63 hbytes hbase hm
  unfold Oper.wp execOp
  simp only [ho, resolve, invoke, builtin, Sem.run_bind, Sem.run_pure, Result.andThen_ok, List.map_toArray, List.map_cons, List.map_nil, hs, hx, hr]
  exact hK _ _ (h g' cap' w' h2 h3 h4)

end Go.Proofs.Ytfgkocpmgoaljaa
