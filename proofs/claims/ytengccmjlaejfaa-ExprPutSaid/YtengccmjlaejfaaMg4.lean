/- The evaluator's operations, one by one: what it says of one, the model does. No condition. -/
import Derived.Test.YtengccmjlaejfaaEvR
import Derived.Laws.CopyRow
section
namespace Go.Proofs.Ytengccmjlaejfaa
namespace Ev
open Go.RowKit
set_option linter.unusedSectionVars false
variable [Fz]
variable {P : Program}

theorem pureRun_ok {α : Type} : ∀ (s : Sem α) (a : α), pureRun P s = some a → ∀ w, s.run P w = .ok a w
  | .pure _, _, h, _ => by simp only [pureRun] at h; cases h; rfl
  | .program k, a, h, w => by simp only [pureRun] at h; exact pureRun_ok (k P) a h w
  | .mark _ k, a, h, w => by simp only [pureRun] at h; exact pureRun_ok k a h w
  | .choose q k, a, h, w => by
    simp only [pureRun] at h
    cases hq : q.forced with
    | true => simp only [hq, cond_true] at h; simp only [Sem.run, hq, if_true]; exact pureRun_ok (k 0) a h w
    | false => simp [hq] at h
  | .load _ _ _, _, h, _ => by simp [pureRun] at h
  | .store _ _ _ _, _, h, _ => by simp [pureRun] at h
  | .new _ _, _, h, _ => by simp [pureRun] at h
  | .shape _ _, _, h, _ => by simp [pureRun] at h
  | .freeze _ _ _, _, h, _ => by simp [pureRun] at h
  | .frozen _ _, _, h, _ => by simp [pureRun] at h
  | .getObj _ _, _, h, _ => by simp [pureRun] at h
  | .setObj _ _ _, _, h, _ => by simp [pureRun] at h
  | .sys _ _, _, h, _ => by simp [pureRun] at h
  | .halt _, _, h, _ => by simp [pureRun] at h

theorem szOf_run {t : TypeId} {k : Nat} (h : szOf P t = some k) (w : World) : (sizeOf t).run P w = .ok k w := by
  unfold szOf at h
  cases hi : P.info? t with
  | none => simp [hi] at h
  | some i => simp [hi] at h; simp [sizeOf, typeInfo, hi, h]
theorem aggT_run {t : TypeId} {g : Bool} (h : aggT P t = some g) (w : World) : (isAgg t).run P w = .ok g w := by
  unfold aggT at h
  cases hu : P.underlying t with
  | none => simp [hu] at h
  | some d => cases d <;> simp [hu] at h <;> simp [isAgg, run_underlying hu, ← h]
theorem zeroOf_run {t : TypeId} {z : List AV} (h : zeroOf P t = some z) : ∃ zv, (∀ w, (zeroValue t).run P w = .ok zv w) ∧ z = zv.cells.toList.map .v := by
  unfold zeroOf at h
  cases hi : P.info? t with
  | none => simp [hi] at h
  | some i =>
    simp only [hi] at h
    cases hz : i.zero with
    | none => simp [hz] at h
    | some zv => simp [hz] at h; exact ⟨zv, fun w => by simp [zeroValue, typeInfo, hi, hz], h.symm⟩

abbrev HR (ρ : Rho) (h : Hp) (w : World) : Prop := HRel ρ h.ob.get h.nx w
def ERel (ρ : Rho) (e : T AV) (a : Act) : Prop := ∀ t, VRel ρ ((e.get t).getD (.v undef)) (a.tmps.getD t undef)
theorem opnd_rel {ρ : Rho} {e : T AV} {a : Act} (h : ERel ρ e a) (x : Operand) : VRel ρ (opnd e x) (a.eval x) := by
  cases x with
  | tmp t => exact h t
  | const v => rfl
  | global g => rfl
  | func f => exact ⟨#[], rfl, rfl⟩

theorem HRel.dm {ρ : Rho} {g : Nat → Option AO} {nx : Nat} {w : World} (h : HRel ρ g nx w) : ∀ n p, ρ n = some p → n < nx := fun n p e => (h.dom n p e).1

def OpOk (s : World → Result Next) (ρ : Rho) (h : Hp) (w : World) (v : AV) (h' : Hp) : Prop :=
  ∃ ρ' w' y L, (s w = .ok (.value y) w' ∨ (s w = .ok .skip w' ∧ y = undef)) ∧ VRel ρ' v y ∧ HR ρ' h' w' ∧ Stepped ρ h.nx L w ρ' h'.nx w' ∧ h'.lg = L ++ h.lg

theorem OpOk.same {s : World → Result Next} {ρ : Rho} {h : Hp} {w : World} {v : AV} {y : Value} (hh : HR ρ h w) (hs : s w = .ok (.value y) w) (hr : VRel ρ v y) : OpOk s ρ h w v h :=
  ⟨ρ, w, y, [], .inl hs, hr, hh, .refl hh.dm, rfl⟩
theorem OpOk.fresh {s : World → Result Next} {ρ : Rho} {h : Hp} {w : World} {v : AV} {y : Value} {cs : List AV} {C : Array Value} {sz : Nat} {e : TypeId} (hh : HR ρ h w) (hs : s w = .ok (.value y) (w.alloc (.cells C e (0, 0))))
    (hc : VRels ρ cs C.toList) (hr : VRel (upd ρ h.nx ⟨w.heap.size, 0, sz, C.size⟩) v y) : OpOk s ρ h w v (h.fresh cs sz) :=
  ⟨_, _, y, [], .inl hs, hr, by
    have := hh.fresh (cs := cs) (C := C) (fun j x hj => by obtain ⟨y, hy, hr⟩ := hc.get hj; exact ⟨y, by simpa using hy, hr⟩) sz e h.nx true false
    unfold HR Hp.fresh Hp.new
    rw [T.get_put]
    exact this, .fresh hh.dm sz C.size _, rfl⟩

theorem cell_at {w : World} {b : Nat} {C : Array Value} {e : TypeId} (h : w.heap[b]? = some (.cells C e (0, 0))) {o : Nat} {y : Value} (hy : C[o]? = some y) : w.cell? ⟨b, o, none⟩ = some y := by
  simp [World.cell?, h, hy]
theorem cell_atf {w : World} {b : Nat} {C : Array Value} {e : TypeId} {fr : Nat × Nat} (h : w.heap[b]? = some (.cells C e fr)) {o : Nat} {y : Value} (hy : C[o]? = some y) : w.cell? ⟨b, o, none⟩ = some y := by
  simp [World.cell?, h, hy]
theorem add_at (b o n : Nat) : (⟨b, o, none⟩ : Addr).add n = ⟨b, o + n, none⟩ := by unfold Addr.add; split <;> simp_all

theorem window_some {cs xs : List AV} {p n : Nat} (h : window cs p n = some xs) : xs = (cs.drop p).take n ∧ p + n ≤ cs.length := by
  unfold window at h
  cases hb : Nat.ble (p + n) cs.length with
  | true => simp [hb] at h; exact ⟨h.symm, Nat.le_of_ble_eq_true hb⟩
  | false => simp [hb] at h
theorem window_get {cs xs : List AV} {p n j : Nat} {x : AV} (h : window cs p n = some xs) (hj : xs[j]? = some x) : cs[p + j]? = some x := by
  obtain ⟨e, _⟩ := window_some h
  rw [e, List.getElem?_take] at hj
  split at hj
  · simpa using hj
  · cases hj
theorem window_len {cs xs : List AV} {p n : Nat} (h : window cs p n = some xs) : xs.length = n := by
  obtain ⟨e, hl⟩ := window_some h
  rw [e]; simp; omega

theorem av_rel {d : D} {z : Value} {ρ : Rho} (hgc : Fz.gc = false) (h : FzRel d z) : VRel ρ d.av z := by
  cases d with
  | v x => exact h
  | l f len ks => exact ⟨hgc, h⟩
theorem cellsD_get (g : Nat → D) : ∀ (n c j : Nat) (x : AV), (cellsD g c n)[j]? = some x → j < n ∧ x = (g (c + j)).av
  | 0, _, _, _, h => by simp [cellsD] at h
  | n + 1, c, j, x, h => by
    cases j with
    | zero => simp [cellsD] at h; exact ⟨Nat.succ_pos _, h.symm⟩
    | succ j =>
      simp only [cellsD, List.getElem?_cons_succ] at h
      obtain ⟨h1, h2⟩ := cellsD_get g n (c + 1) j x h
      exact ⟨by omega, by rw [h2, show c + 1 + j = c + (j + 1) by omega]⟩
/-- A load of an element of which all cells are known. -/
theorem loadD_run {t : TypeId} {f : Nat → Nat → D} {len : Nat} {ks : List TK} {i c b o : Nat} {C : Array Value} {e : TypeId} {fr : Nat × Nat} {v : AV} {ρ : Rho} {w : World} (hgc : Fz.gc = false) (hb : w.heap[b]? = some (.cells C e fr)) (hi : i < len)
    (hcell : ∀ i c, i < len → c < ks.length → (∃ tk, ks[c]? = some tk ∧ tk.fit (f i c) = true) ∧ ∃ z, C[o + (i * ks.length + c)]? = some z ∧ FzRel (f i c) z) (hl : loadD P t f ks i c = some v) : ∃ z, (Instr.loadAt t (.pointer (some ⟨b, o + (i * ks.length + c), none⟩))).run P w = .ok z w ∧ VRel ρ v z := by
  unfold loadD at hl
  split at hl
  · rename_i k g hk hg
    have hcell' : ∀ j x, (cellsD (f i) 0 ks.length)[j]? = some x → ∃ y, C[o + (i * ks.length + j)]? = some y ∧ VRel ρ x y := fun j x hj => by
      obtain ⟨h1, h2⟩ := cellsD_get _ _ _ _ _ hj
      obtain ⟨_, z, hz, hr⟩ := hcell i j hi h1
      exact ⟨z, hz, by rw [h2, Nat.zero_add]; exact av_rel hgc hr⟩
    cases g with
    | true =>
      simp only [cond_true, Option.map_eq_some_iff] at hl
      obtain ⟨xs, hw, rfl⟩ := hl
      obtain ⟨ys, h1, h2, h3⟩ := VRels.pick C.toList xs (o + (i * ks.length + c)) (fun j x hj => by
        obtain ⟨y, hy, hr⟩ := hcell' _ _ (window_get hw hj)
        exact ⟨y, by rw [Nat.add_assoc, Nat.add_assoc]; simpa using hy, hr⟩)
      have hlen : ys.length = k := by rw [h2, window_len hw]
      have hrun := run_loadCells_list (P := P) w ⟨b, o + (i * ks.length + c), none⟩ ys (fun j y hj => by
        rw [add_at]; exact cell_atf hb (by have := h3 j y hj; simpa using this))
      rw [hlen] at hrun
      exact ⟨.agg ys.toArray, by simp [Instr.loadAt, Instr.sureAddr, loadVar, aggT_run hg, szOf_run hk, hrun], mkAgg_rel h1⟩
    | false =>
      simp only [cond_false] at hl
      obtain ⟨y, hy, hr⟩ := hcell' _ _ hl
      exact ⟨y, by simp [Instr.loadAt, Instr.sureAddr, loadVar, aggT_run hg, cell_atf hb hy], hr⟩
  · cases hl
/-- A load. -/
theorem loadA_run {t : TypeId} {x v : AV} {y : Value} {ρ : Rho} {h : Hp} {w : World} (hh : HR ρ h w) (hx : VRel ρ x y) (hl : loadA P t x h = some v) : ∃ z, (Instr.loadAt t y).run P w = .ok z w ∧ VRel ρ v z := by
  unfold loadA at hl
  cases x <;> simp only [] at hl <;> try cases hl
  rotate_left
  · rename_i f len ks i c
    obtain ⟨hgc, b, o, hfz, hi, rfl⟩ := hx
    obtain ⟨C, e, fr, hb, _, hcell⟩ := hfz
    exact loadD_run hgc (hh.fz b _ hb) hi hcell hl
  rename_i n i c
  obtain ⟨p, hp, rfl⟩ := hx
  split at hl
  · rename_i cs sz fam tip sh k g ho hk hg
    obtain ⟨p', hp', hz, hs, C, e, hb, hC, hcell⟩ := hh.obj n _ ho (hh.dm _ _ hp)
    rw [hp] at hp'; cases hp'
    rw [hz]
    cases g with
    | true =>
      simp only [cond_true, Option.map_eq_some_iff] at hl
      obtain ⟨xs, hw, rfl⟩ := hl
      obtain ⟨ys, h1, h2, h3⟩ := VRels.pick C.toList xs (p.o + (i * sz + c)) (fun j x hj => by
        obtain ⟨y, hy, hr⟩ := hcell _ _ (window_get hw hj)
        exact ⟨y, by rw [Nat.add_assoc]; simpa using hy, hr⟩)
      have hlen : ys.length = k := by rw [h2, window_len hw]
      have hrun := run_loadCells_list (P := P) w ⟨p.b, p.o + (i * sz + c), none⟩ ys (fun j y hj => by
        rw [add_at]; exact cell_at hb (by have := h3 j y hj; simpa using this))
      rw [hlen] at hrun
      exact ⟨.agg ys.toArray, by simp [Instr.loadAt, Instr.sureAddr, loadVar, aggT_run hg, szOf_run hk, hrun], mkAgg_rel h1⟩
    | false =>
      simp only [cond_false] at hl
      obtain ⟨y, hy, hr⟩ := hcell _ _ hl
      exact ⟨y, by simp [Instr.loadAt, Instr.sureAddr, loadVar, aggT_run hg, cell_at hb hy], hr⟩
  · cases hl

/-- An address. -/
theorem fieldA_run {t : TypeId} {x v : AV} {y : Value} {f : Nat} {ρ : Rho} {w : World} (hx : VRel ρ x y) (hl : fieldA P t x f = some v) : ∃ z, (Instr.fieldAt t y f).run P w = .ok z w ∧ VRel ρ v z := by
  unfold fieldA at hl
  split at hl
  · rename_i n i c fs hu
    obtain ⟨p, hp, rfl⟩ := hx
    split at hl
    · rename_i fd hfd
      split at hl
      · rename_i k hk
        cases hl
        refine ⟨_, ?_, ⟨p, hp, rfl⟩⟩
        simp [Instr.fieldAt, run_underlying hu, hfd, Instr.sureAddr, fieldPlace, szOf_run hk, add_at, Nat.add_assoc]
      · cases hl
    · cases hl
  · rename_i g len ks i c fs hu
    obtain ⟨hgc, b, o, hp, hi, rfl⟩ := hx
    split at hl
    · rename_i fd hfd
      split at hl
      · rename_i k hk
        cases hl
        refine ⟨_, ?_, ⟨hgc, b, o, hp, hi, rfl⟩⟩
        simp [Instr.fieldAt, run_underlying hu, hfd, Instr.sureAddr, fieldPlace, szOf_run hk, add_at, Nat.add_assoc]
      · cases hl
    · cases hl
  · cases hl

theorem szObj_z {ρ : Rho} {h : Hp} {w : World} (hh : HR ρ h w) {n k : Nat} {p : Pl} (hp : ρ n = some p) (e : szObj h n k = true) : p.z = k := by
  unfold szObj at e
  split at e
  · rename_i cs sz f t s ho
    have : sz = k := Nat.eq_of_beq_eq_true e
    subst this
    obtain ⟨p', hp', hz, _⟩ := hh.obj n _ ho (hh.dm _ _ hp)
    rw [hp] at hp'; cases hp'
    exact hz
  · cases e

theorem indexAddrA_run {t : TypeId} {x ix v : AV} {y iy : Value} {ρ : Rho} {h : Hp} {w : World} (hh : HR ρ h w) (hx : VRel ρ x y) (hi : VRel ρ ix iy) (hl : indexAddrA P t x ix h = some v) :
    ∃ z, (Instr.indexAt t y iy).run P w = .ok z w ∧ VRel ρ v z := by
  unfold indexAddrA at hl
  split at hl
  · rename_i n off len cap kd j e hu
    cases hi
    obtain ⟨p, k, hp, rfl, hk1, hk2, hk3⟩ := hx
    split at hl
    · rename_i sz hsz
      cases hb : (szObj h n sz && (decide (0 ≤ j) && decide (j < len))) with
      | false => simp [hb] at hl
      | true =>
        rw [hb] at hl
        simp only [Bool.and_eq_true, decide_eq_true_eq] at hb
        obtain ⟨h1, h2, h3⟩ := hb
        simp only [cond_true] at hl
        cases hl
        have hz := szObj_z hh hp h1
        refine ⟨_, ?_, ⟨p, hp, rfl⟩⟩
        simp [Instr.indexAt, run_underlying hu, asIntOf, h2, h3, szOf_run hsz, add_at, hz, Nat.add_mul, Nat.add_assoc]
    · cases hl
  · rename_i n off len cap kd j e hu
    cases hi
    obtain ⟨p, k, hp, rfl, hk1, hk2, hk3⟩ := hx
    split at hl
    · rename_i sz hsz
      cases hb : (szObj h n sz && (decide (0 ≤ j) && decide (j < len))) with
      | false => simp [hb] at hl
      | true =>
        rw [hb] at hl
        simp only [Bool.and_eq_true, decide_eq_true_eq] at hb
        obtain ⟨h1, h2, h3⟩ := hb
        simp only [cond_true] at hl
        cases hl
        have hz := szObj_z hh hp h1
        refine ⟨_, ?_, ⟨p, hp, rfl⟩⟩
        simp [Instr.indexAt, run_underlying hu, asIntOf, h2, h3, szOf_run hsz, add_at, hz, Nat.add_mul, Nat.add_assoc]
    · cases hl
  · rename_i n i c kd j len e hu
    cases hi
    obtain ⟨p, hp, rfl⟩ := hx
    split at hl
    · rename_i sz hsz
      cases hb : (decide (0 ≤ j) && decide (j < len)) with
      | false => simp [hb] at hl
      | true =>
        rw [hb] at hl
        simp only [Bool.and_eq_true, decide_eq_true_eq] at hb
        obtain ⟨h2, h3⟩ := hb
        simp only [cond_true] at hl
        cases hl
        refine ⟨_, ?_, ⟨p, hp, rfl⟩⟩
        simp [Instr.indexAt, run_underlying hu, asIntOf, h2, h3, szOf_run hsz, add_at, Instr.sureAddr, Nat.add_assoc]
    · cases hl
  · rename_i f n ks i c kd j len e hu
    cases hi
    obtain ⟨hgc, b, o, hp, hlt, rfl⟩ := hx
    split at hl
    · rename_i sz hsz
      cases hb : (decide (0 ≤ j) && decide (j < len)) with
      | false => simp [hb] at hl
      | true =>
        rw [hb] at hl
        simp only [Bool.and_eq_true, decide_eq_true_eq] at hb
        obtain ⟨h2, h3⟩ := hb
        simp only [cond_true] at hl
        cases hl
        refine ⟨_, ?_, ⟨hgc, b, o, hp, hlt, rfl⟩⟩
        simp [Instr.indexAt, run_underlying hu, asIntOf, h2, h3, szOf_run hsz, add_at, Instr.sureAddr, Nat.add_assoc]
    · cases hl
  · cases hl

theorem bound_run {d l y : Nat} {ρ : Operand → AV} {r : Rho} {x : Operand} {v : Value} (h : boundA d ρ (some x) = some l) (hv : VRel r (ρ x) v) (hl : l ≤ y) (c : BoundsCode) (w : World) : (Instr.sliceBound v y c).run P w = .ok l w := by
  simp only [boundA] at h
  split at h
  · rename_i k j hx
    rw [hx] at hv; cases hv
    cases h0 : decide (0 ≤ j) with
    | false => simp [h0] at h
    | true =>
      rw [h0] at h; simp only [cond_true, Option.some.injEq] at h
      have h0' : 0 ≤ j := by simpa using h0
      have hle : j ≤ (y : Int) := by omega
      simp [Instr.sliceBound, asIntOf, h0', hle, h]
  · rename_i k j hx
    rw [hx] at hv; cases hv
    cases h0 : decide (0 ≤ j) with
    | false => simp [h0] at h
    | true =>
      rw [h0] at h; simp only [cond_true, Option.some.injEq] at h
      have h0' : 0 ≤ j := by simpa using h0
      have hle : j ≤ (y : Int) := by omega
      simp [Instr.sliceBound, asIntOf, h0', hle, h]
  · cases h

theorem bounds_run {ρ : Operand → AV} {r : Rho} {f : Operand → Value} {lo hi mx : Option Operand} {l hh m n len cap : Nat} (hf : ∀ x, VRel r (ρ x) (f x)) (hl : boundA 0 ρ lo = some l) (hhi : boundA len ρ hi = some hh) (hm : mx = none → m = cap) (hm2 : ∀ x, mx = some x → hi.isSome ∧ boundA n ρ mx = some m)
    (h1 : l ≤ hh) (h2 : hh ≤ m) (h3 : m ≤ cap) (b : Bool) (w : World) : (Instr.sliceBounds b len cap (lo.map f) (hi.map f) (mx.map f)).run P w = .ok (l, hh, m) w := by
  cases mx with
  | none =>
    have hm := hm rfl
    subst hm
    cases hi with
    | none =>
      simp only [boundA] at hhi; cases hhi
      cases lo with
      | none => simp only [boundA] at hl; cases hl; simp [Instr.sliceBounds]
      | some x => simp [Instr.sliceBounds, bound_run hl (hf x) h1]
    | some z =>
      cases lo with
      | none => simp only [boundA] at hl; cases hl; simp [Instr.sliceBounds, bound_run hhi (hf z) h2]
      | some x => simp [Instr.sliceBounds, bound_run hhi (hf z) h2, bound_run hl (hf x) h1]
  | some q =>
    obtain ⟨hs, hb⟩ := hm2 q rfl
    cases hi with
    | none => simp at hs
    | some z =>
      cases lo with
      | none => simp only [boundA] at hl; cases hl; simp [Instr.sliceBounds, bound_run hb (hf q) h3, bound_run hhi (hf z) h2]
      | some x => simp [Instr.sliceBounds, bound_run hb (hf q) h3, bound_run hhi (hf z) h2, bound_run hl (hf x) h1]

theorem blt_false {a b : Nat} (h : Nat.blt a b = false) : b ≤ a := Nat.le_of_not_lt (fun c => by rw [show Nat.blt a b = true by simpa using c] at h; cases h)
theorem ble_false {a b : Nat} (h : Nat.ble a b = false) : b < a := Nat.lt_of_not_le (fun c => by rw [show Nat.ble a b = true by simpa using c] at h; cases h)
theorem beq0 {n : Nat} (h : Nat.beq n 0 = true) : n = 0 := Nat.eq_of_beq_eq_true h

theorem zero0 {t e : TypeId} {a : Option Addr} {v : AV} {ρ : Operand → AV} {r : Rho} {f : Operand → Value} {lo hi mx : Option Operand} {l hh n len q k : Nat} {mv : Option Nat} {w : World}
    (hat : ∀ y, (Instr.sliceAt t y (lo.map f) (hi.map f) (mx.map f)).run P w = (Instr.slice t y (lo.map f) (hi.map f) (mx.map f)).run P w) (hu : P.underlying t = some (.slice e)) (hk : szOf P e = some k) (hf : ∀ x, VRel r (ρ x) (f x))
    (hl : boundA 0 ρ lo = some l) (hhi : boundA len ρ hi = some hh) (hm2 : ∀ x, mx = some x → hi.isSome ∧ ∃ m, mv = some m ∧ boundA n ρ mx = some m)
    (hs : (match (motive := Option Nat → Option AV) mv with
      | some 0 => bif Nat.beq l 0 && Nat.beq hh 0 then some .z0 else none
      | _ => none) = some v) (hm1 : mx = none → mv = none := by assumption) : ∃ z, (Instr.sliceAt t (.slice a len q) (lo.map f) (hi.map f) (mx.map f)).run P w = .ok z w ∧ VRel r v z := by
  split at hs
  · cases hb : (Nat.beq l 0 && Nat.beq hh 0) with
    | false => simp [hb] at hs
    | true =>
      rw [hb] at hs
      simp only [Bool.and_eq_true] at hb
      obtain ⟨h1, h2⟩ := hb
      have h1 := beq0 h1; have h2 := beq0 h2
      subst h1; subst h2
      simp only [cond_true] at hs; cases hs
      cases hmx : mx with
      | none => have := hm1 hmx; cases this
      | some mo =>
        obtain ⟨his, m, hmv, hbm⟩ := hm2 mo hmx
        cases hmv
        subst hmx
        have hrun := bounds_run (P := P) (r := r) (f := f) (lo := lo) (hi := hi) (mx := some mo) (m := 0) (n := _) (cap := q) hf hl hhi (fun h => by cases h) (fun x h => ⟨his, hbm⟩) (Nat.le_refl _) (Nat.le_refl _) (Nat.zero_le _) true w
        simp only [Option.map_some] at hrun
        refine ⟨.slice a 0 0, ?_, a, rfl⟩
        rw [hat]
        cases a <;> simp [Instr.slice, run_underlying hu, szOf_run hk, hrun]
  · cases hs
theorem sliceA_run {t : TypeId} {x v : AV} {y : Value} {ρ : Operand → AV} {r : Rho} {f : Operand → Value} {lo hi mx : Option Operand} {l hh n len : Nat} {mv : Option Nat} {h : Hp} {w : World} (hR : HR r h w) (hf : ∀ x, VRel r (ρ x) (f x)) (hx : VRel r x y)
    (hlen : lenA x = some len) (hl : boundA 0 ρ lo = some l) (hhi : boundA len ρ hi = some hh) (hm1 : mx = none → mv = none) (hm2 : ∀ x, mx = some x → hi.isSome ∧ ∃ m, mv = some m ∧ boundA n ρ mx = some m)
    (hs : sliceA P t x l hh mv h = some v) : ∃ z, (Instr.sliceAt t y (lo.map f) (hi.map f) (mx.map f)).run P w = .ok z w ∧ VRel r v z := by
  unfold sliceA at hs
  split at hs
  · rename_i e hu
    split at hs
    · rename_i k hk
      have hat : ∀ y, (Instr.sliceAt t y (lo.map f) (hi.map f) (mx.map f)).run P w = (Instr.slice t y (lo.map f) (hi.map f) (mx.map f)).run P w := fun y => by simp [Instr.sliceAt, run_underlying hu]
      split at hs
      · rename_i n off len' cap
        simp only [lenA] at hlen; cases hlen
        obtain ⟨p, q, hp, rfl, hk1, hk2, hk3⟩ := hx
        cases hb : (szObj h n k && Nat.ble l hh && Nat.ble hh len) with
        | false => simp [hb] at hs
        | true =>
          rw [hb] at hs
          simp only [Bool.and_eq_true, Nat.ble_eq] at hb
          obtain ⟨⟨h1, h2⟩, h3⟩ := hb
          simp only [cond_true] at hs
          have hz := szObj_z hR hp h1
          cases hmx : mx with
          | none =>
            have := hm1 hmx
            subst this
            subst hmx
            have hrun := bounds_run (P := P) (r := r) (f := f) (lo := lo) (hi := hi) (mx := none) (m := q) (n := 0) (cap := q) hf hl hhi (fun _ => rfl) (fun x h => by cases h) h2 (by omega) (Nat.le_refl _) true w
            simp only [] at hs
            have hrun' : (Instr.slice t (.slice (some ⟨p.b, p.o + off * p.z, none⟩) len q) (lo.map f) (hi.map f) ((none : Option Operand).map f)).run P w = .ok (.slice (if q = l then some ⟨p.b, p.o + off * p.z, none⟩ else some ⟨p.b, p.o + off * p.z + l * k, none⟩) (hh - l) (q - l)) w := by
              simp only [Instr.slice, Sem.run_bind, run_underlying hu, Result.andThen_ok, hrun, szOf_run hk, Sem.run_pure, Option.map_some, add_at]
            rw [hat, hrun']
            cases hc : (Nat.beq l 0 || Nat.blt l hh) with
            | true =>
              rw [hc] at hs; simp only [cond_true] at hs; cases hs
              simp only [Bool.or_eq_true, Nat.blt_eq] at hc
              refine ⟨_, rfl, p, q - l, hp, ?_, by omega, ?_, ?_⟩
              · rcases hc with hc | hc
                · have := beq0 hc; subst this; simp
                · rw [if_neg (by omega), hz, Nat.add_mul, Nat.add_assoc]
              · rw [show off + l + (q - l) = off + q by omega]; exact hk2
              · intro c hc'; simp only [Option.map_eq_some_iff] at hc'; obtain ⟨c', e1, e2⟩ := hc'; rw [hk3 c' e1]; exact e2
            | false =>
              rw [hc] at hs; simp only [cond_false] at hs; cases hs
              simp only [Bool.or_eq_false_iff] at hc
              have hge : hh ≤ l := blt_false hc.2
              have : hh - l = 0 := by omega
              rw [this]
              split
              · exact ⟨_, rfl, _, _, rfl, by simp⟩
              · exact ⟨_, rfl, _, _, rfl, by simp⟩
          | some mo =>
            obtain ⟨his, m, hmv, hbm⟩ := hm2 mo hmx
            subst hmv
            subst hmx
            simp only [] at hs
            cases hb2 : (Nat.ble hh m && Nat.ble m len) with
            | false => simp [hb2] at hs
            | true =>
              rw [hb2] at hs
              simp only [Bool.and_eq_true, Nat.ble_eq] at hb2
              obtain ⟨h4, h5⟩ := hb2
              simp only [cond_true] at hs
              have hrun := bounds_run (P := P) (r := r) (f := f) (lo := lo) (hi := hi) (mx := some mo) (m := m) (n := _) (cap := q) hf hl hhi (fun h => by cases h) (fun x h => ⟨his, hbm⟩) h2 h4 (by omega) true w
              simp only [Option.map_some] at hrun
              have hrun' : (Instr.slice t (.slice (some ⟨p.b, p.o + off * p.z, none⟩) len q) (lo.map f) (hi.map f) ((some mo).map f)).run P w = .ok (.slice (if m = l then some ⟨p.b, p.o + off * p.z, none⟩ else some ⟨p.b, p.o + off * p.z + l * k, none⟩) (hh - l) (m - l)) w := by
                simp only [Instr.slice, Sem.run_bind, run_underlying hu, Result.andThen_ok, hrun, szOf_run hk, Sem.run_pure, Option.map_some, add_at]
              rw [hat, hrun']
              cases hc : (Nat.blt l m || Nat.beq l 0) with
              | true =>
                rw [hc] at hs; simp only [cond_true] at hs; cases hs
                simp only [Bool.or_eq_true, Nat.blt_eq] at hc
                refine ⟨_, rfl, p, m - l, hp, ?_, by omega, ?_, ?_⟩
                · rcases hc with hc | hc
                  · rw [if_neg (by omega), hz, Nat.add_mul, Nat.add_assoc]
                  · have := beq0 hc; subst this; simp
                · have : off + l + (m - l) ≤ off + q := by omega
                  have := Nat.mul_le_mul_right p.z this
                  omega
                · intro c hc'; cases hc'; rfl
              | false =>
                rw [hc] at hs; simp only [cond_false] at hs; cases hs
                simp only [Bool.or_eq_false_iff] at hc
                have hge : m ≤ l := blt_false hc.1
                have e1 : hh - l = 0 := by omega
                have e2 : m - l = 0 := by omega
                rw [e1, e2]
                split
                · exact ⟨_, rfl, _, _, rfl, by simp⟩
                · exact ⟨_, rfl, _, _, rfl, by simp⟩
      · simp only [lenA] at hlen; cases hlen
        cases hx
        cases hb : (Nat.beq l 0 && Nat.beq hh 0 && Nat.beq (mv.getD 0) 0) with
        | false => simp [hb] at hs
        | true =>
          rw [hb] at hs
          simp only [Bool.and_eq_true] at hb
          obtain ⟨⟨h1, h2⟩, h3⟩ := hb
          have h1 := beq0 h1; have h2 := beq0 h2; have h3 := beq0 h3
          subst h1; subst h2
          simp only [cond_true] at hs; cases hs
          refine ⟨_, ?_, rfl⟩
          rw [hat]
          cases hmx : mx with
          | none =>
            subst hmx
            have hrun := bounds_run (P := P) (r := r) (f := f) (lo := lo) (hi := hi) (mx := none) (m := 0) (n := 0) (cap := 0) hf hl hhi (fun _ => rfl) (fun x h => by cases h) (Nat.le_refl _) (Nat.le_refl _) (Nat.le_refl _) true w
            simp only [Option.map_none] at hrun
            simp [Instr.slice, run_underlying hu, szOf_run hk, hrun]
          | some mo =>
            obtain ⟨his, m, hmv, hbm⟩ := hm2 mo hmx
            subst hmv
            subst hmx
            simp at h3; subst h3
            have hrun := bounds_run (P := P) (r := r) (f := f) (lo := lo) (hi := hi) (mx := some mo) (m := 0) (n := _) (cap := 0) hf hl hhi (fun h => by cases h) (fun x h => ⟨his, hbm⟩) (Nat.le_refl _) (Nat.le_refl _) (Nat.le_refl _) true w
            simp only [Option.map_some] at hrun
            simp [Instr.slice, run_underlying hu, szOf_run hk, hrun]
      · rename_i z
        simp only [lenA] at hlen; cases hlen
        obtain ⟨a, q, rfl, hq⟩ := hx
        cases hb : (Nat.beq l 0 && Nat.beq hh 0 && Nat.beq (mv.getD 0) 0) with
        | false => simp [hb] at hs
        | true =>
          rw [hb] at hs
          simp only [Bool.and_eq_true] at hb
          obtain ⟨⟨h1, h2⟩, h3⟩ := hb
          have h1 := beq0 h1; have h2 := beq0 h2; have h3 := beq0 h3
          subst h1; subst h2
          simp only [cond_true] at hs; cases hs
          have hz : a.add (0 * k) = a := by simp [Addr.add]
          cases hmx : mx with
          | none =>
            have := hm1 hmx
            subst this
            subst hmx
            have hrun := bounds_run (P := P) (r := r) (f := f) (lo := lo) (hi := hi) (mx := none) (m := q) (n := 0) (cap := q) hf hl hhi (fun _ => rfl) (fun x h => by cases h) (Nat.le_refl _) (Nat.zero_le _) (Nat.le_refl _) true w
            simp only [Option.map_none] at hrun
            refine ⟨.slice (some a) 0 q, ?_, a, q, rfl, by simpa using hq⟩
            rw [hat]
            simp [Instr.slice, run_underlying hu, szOf_run hk, hrun]
            simp [Addr.add]
          | some mo =>
            obtain ⟨his, m, hmv, hbm⟩ := hm2 mo hmx
            subst hmv
            subst hmx
            simp at h3; subst h3
            have hrun := bounds_run (P := P) (r := r) (f := f) (lo := lo) (hi := hi) (mx := some mo) (m := 0) (n := _) (cap := q) hf hl hhi (fun h => by cases h) (fun x h => ⟨his, hbm⟩) (Nat.le_refl _) (Nat.le_refl _) (Nat.zero_le _) true w
            simp only [Option.map_some] at hrun
            refine ⟨.slice (some a) 0 0, ?_, a, 0, rfl, by simp⟩
            rw [hat]
            simp [Instr.slice, run_underlying hu, szOf_run hk, hrun]
      · rename_i n' len'
        simp only [lenA] at hlen; cases hlen
        have hy : ∃ a q, y = .slice a len q := by
          rcases hx with ⟨_, ⟨rfl, a, e⟩ | ⟨p, q, _, e, _⟩⟩
          · exact ⟨_, _, e⟩
          · exact ⟨_, _, e⟩
        obtain ⟨a, q, rfl⟩ := hy
        exact zero0 hat hu hk hf hl hhi hm2 hs
      · rename_i g len' ks
        simp only [lenA] at hlen; cases hlen
        have hy : ∃ a q, y = .slice a len q := by
          have hx := hx.2
          unfold FzRel at hx
          rcases hx with ⟨rfl, a, q, e, _⟩ | ⟨b, o, q, C, e', fr, e, _⟩
          · exact ⟨_, _, e⟩
          · exact ⟨_, _, e⟩
        obtain ⟨a, q, rfl⟩ := hy
        exact zero0 hat hu hk hf hl hhi hm2 hs
      · simp only [lenA] at hlen; cases hlen
        obtain ⟨a, rfl⟩ := hx
        cases hb : (Nat.beq l 0 && Nat.beq hh 0 && Nat.beq (mv.getD 0) 0) with
        | false => simp [hb] at hs
        | true =>
          rw [hb] at hs
          simp only [Bool.and_eq_true] at hb
          obtain ⟨⟨h1, h2⟩, h3⟩ := hb
          have h1 := beq0 h1; have h2 := beq0 h2; have h3 := beq0 h3
          subst h1; subst h2
          simp only [cond_true] at hs; cases hs
          have hz : ∀ a : Addr, a.add (0 * k) = a := fun a => by simp [Addr.add]
          cases hmx : mx with
          | none =>
            subst hmx
            have hrun := bounds_run (P := P) (r := r) (f := f) (lo := lo) (hi := hi) (mx := none) (m := 0) (n := 0) (cap := 0) hf hl hhi (fun _ => rfl) (fun x h => by cases h) (Nat.le_refl _) (Nat.zero_le _) (Nat.le_refl _) true w
            simp only [Option.map_none] at hrun
            refine ⟨.slice a 0 0, ?_, a, rfl⟩
            rw [hat]
            cases a <;> simp [Instr.slice, run_underlying hu, szOf_run hk, hrun]
          | some mo =>
            obtain ⟨his, m, hmv, hbm⟩ := hm2 mo hmx
            subst hmv
            subst hmx
            simp at h3; subst h3
            have hrun := bounds_run (P := P) (r := r) (f := f) (lo := lo) (hi := hi) (mx := some mo) (m := 0) (n := _) (cap := 0) hf hl hhi (fun h => by cases h) (fun x h => ⟨his, hbm⟩) (Nat.le_refl _) (Nat.le_refl _) (Nat.zero_le _) true w
            simp only [Option.map_some] at hrun
            refine ⟨.slice a 0 0, ?_, a, rfl⟩
            rw [hat]
            cases a <;> simp [Instr.slice, run_underlying hu, szOf_run hk, hrun]
      · cases hs
    · cases hs
  · cases hs


theorem cell_one {ρ : Rho} {x : AV} {y : Value} (h : x.cell = true) (r : VRel ρ x y) : y.oneCell' = true := by
  cases x with
  | v z => cases r; cases y <;> simp_all [AV.cell, Value.oneCell']
  | s z => cases r; cases y <;> simp_all [AV.cell, Value.oneCell']
  | ptr => obtain ⟨p, hp, e⟩ := r; subst e; rfl
  | sl => obtain ⟨p, k, hp, e, _⟩ := r; subst e; rfl
  | none0 => obtain ⟨a, k, e, _⟩ := r; subst e; rfl
  | mp => obtain ⟨p, hp, e⟩ := r; subst e; rfl
  | fn => obtain ⟨ys, e, _⟩ := r; subst e; rfl
  | osl => rcases r with ⟨_, ⟨_, a, e⟩ | ⟨p, k, hp, e, _⟩⟩ <;> (subst e; rfl)
  | fz => have r := r.2; unfold FzRel at r; rcases r with ⟨_, a, k, e, _⟩ | ⟨b, o, k, C, e', fr, e, _⟩ <;> (subst e; rfl)
  | fzp => obtain ⟨_, b, o, _, _, e⟩ := r; subst e; rfl
  | z0 => obtain ⟨a, e⟩ := r; subst e; rfl
  | xs => obtain ⟨a, l, c, e⟩ := r; subst e; rfl
  | agg => simp [AV.cell] at h
  | tup => simp [AV.cell] at h
  | yld => obtain ⟨p, hp, e⟩ := r; subst e; rfl
theorem cells_one {ρ : Rho} : ∀ {xs : List AV} {ys : List Value}, xs.all AV.cell = true → VRels ρ xs ys → ∀ y ∈ ys, y.oneCell' = true
  | [], _, _, e => by simp only [VRels] at e; subst e; simp
  | x :: xs, _, h, ⟨y, r, e, hx, hr⟩ => by
    subst e
    simp only [List.all_cons, Bool.and_eq_true] at h
    intro z hz
    rcases List.mem_cons.1 hz with rfl | hz
    · exact cell_one h.1 hx
    · exact cells_one h.2 hr z hz

theorem splice_len {cs ys : List AV} {p : Nat} (h : p + ys.length ≤ cs.length) : (splice cs p ys).length = cs.length := by
  simp [splice]; omega
/-- A stretch laid into a list, on both sides. -/
theorem splice_get {ρ : Rho} {cs ys : List AV} {C Y : List Value} {o p : Nat} (hl : p + ys.length ≤ cs.length) (hy : VRels ρ ys Y) (hc : ∀ (j : Nat) x, cs[j]? = some x → ∃ y, C[o + j]? = some y ∧ VRel ρ x y) (hC : o + cs.length ≤ C.length) :
    ∀ (j : Nat) x, (splice cs p ys)[j]? = some x → ∃ y, (C.take (o + p) ++ Y ++ C.drop (o + p + Y.length))[o + j]? = some y ∧ VRel ρ x y := by
  intro j x hj
  have hYl := hy.length
  unfold splice at hj
  by_cases c1 : j < p
  · rw [List.append_assoc, List.getElem?_append_left (by simp; omega), List.getElem?_take_of_lt c1] at hj
    obtain ⟨y, h1, h2⟩ := hc j x hj
    exact ⟨y, by rw [List.append_assoc, List.getElem?_append_left (by simp; omega), List.getElem?_take_of_lt (by omega)]; exact h1, h2⟩
  · by_cases c2 : j < p + ys.length
    · rw [List.append_assoc, List.getElem?_append_right (by simp; omega), List.getElem?_append_left (by simp; omega)] at hj
      simp only [List.length_take, Nat.min_eq_left (show p ≤ cs.length by omega)] at hj
      obtain ⟨y, h1, h2⟩ := hy.get hj
      refine ⟨y, ?_, h2⟩
      rw [List.append_assoc, List.getElem?_append_right (by simp; omega), List.getElem?_append_left (by simp; omega)]
      simp only [List.length_take, Nat.min_eq_left (show o + p ≤ C.length by omega)]
      rw [show o + j - (o + p) = j - p by omega]
      exact h1
    · rw [List.getElem?_append_right (by simp; omega), List.getElem?_drop] at hj
      simp only [List.length_append, List.length_take, Nat.min_eq_left (show p ≤ cs.length by omega)] at hj
      obtain ⟨y, h1, h2⟩ := hc _ x hj
      refine ⟨y, ?_, h2⟩
      rw [List.getElem?_append_right (by simp; omega), List.getElem?_drop]
      simp only [List.length_append, List.length_take, Nat.min_eq_left (show o + p ≤ C.length by omega)]
      rw [← h1]
      congr 1
      omega

theorem storeA_run {t : TypeId} {x v : AV} {y u : Value} {ρ : Rho} {h h' : Hp} {w : World} (hh : HR ρ h w) (hx : VRel ρ x y) (hv : VRel ρ v u) (hs : storeA P t x v h = some h') :
    ∃ w' L, (Instr.storeAt t y u).run P w = .ok () w' ∧ HR ρ h' w' ∧ Stepped ρ h.nx L w ρ h'.nx w' ∧ h'.lg = L ++ h.lg := by
  unfold storeA at hs
  cases x <;> simp only [] at hs <;> try cases hs
  rename_i n i c
  obtain ⟨p, hp, rfl⟩ := hx
  split at hs
  · rename_i cs sz fam tip sh k ho hk
    obtain ⟨p', hp', hz, hle, C, e, hb, hC, hcell⟩ := hh.obj n _ ho (hh.dm _ _ hp)
    rw [hp] at hp'; cases hp'
    cases hcond : (Nat.beq v.cells.length k && Nat.ble (i * sz + c + k) cs.length && v.cells.all AV.cell) with
    | false => simp [hcond] at hs
    | true =>
      simp only [hcond, cond_true, Option.some.injEq] at hs
      simp only [Bool.and_eq_true, Nat.ble_eq] at hcond
      obtain ⟨⟨h1, h2⟩, h3⟩ := hcond
      have h1 : v.cells.length = k := Nat.eq_of_beq_eq_true h1
      have hc := cells_rel hv
      have hcl := hc.length
      have hY : u.cells.size = k := by rw [← h1, ← hcl]; simp
      have hrow := run_storeCells_at P p.b (p.o + (i * sz + c)) e u.cells.toList 0 C w hb (by simp; omega) (cells_one h3 hc)
      simp only [Nat.add_zero] at hrow
      generalize hC' : (C.toList.take (p.o + (i * sz + c)) ++ u.cells.toList ++ C.toList.drop (p.o + (i * sz + c) + u.cells.toList.length)).toArray = C' at hrow
      have hsz : C'.size = C.size := by subst hC'; simp; omega
      have hst := hh.store (gk := (bif sh then h.kill fam else h).ob.get) (C := C) (C' := C') (cs' := splice cs (i * sz + c) v.cells) ho hp hb (splice_len (ys := v.cells) (by omega)) hsz (by
        have := splice_get (C := C.toList) (o := p.o) (p := i * sz + c) (show i * sz + c + v.cells.length ≤ cs.length by omega) hc (fun j x hj => by obtain ⟨y, hy, hr⟩ := hcell j x hj; exact ⟨y, by simpa using hy, hr⟩) (by simp; omega)
        intro j x hj
        obtain ⟨y, hy, hr⟩ := this j x hj
        exact ⟨y, by rw [← hC']; simpa [Nat.add_assoc] using hy, hr⟩) (fun k => by
        cases sh with
        | true => simp only [cond_true, Hp.kill, T.get_map]
        | false => rfl)
      subst hs
      refine ⟨w.setRow p.b C', [n], ?_, ?_, ?_, ?_⟩
      · simp [Instr.storeAt, Instr.sureAddr, storeVar, szOf_run hk, hY, hz, hrow]
      · unfold HR Hp.log Hp.put
        simp only [T.get_put]
        have : (bif sh then h.kill fam else h).nx = h.nx := by cases sh <;> rfl
        simp only [this]
        exact hst
      · have : ((((bif sh then h.kill fam else h).put n (.cells (splice cs (i * sz + c) v.cells) sz fam tip sh)).log n)).nx = h.nx := by cases sh <;> rfl
        simp only [this]
        exact ⟨Nat.le_refl _, fun _ _ => rfl, fun k q hk e => absurd (hh.dm k q e) (by omega), by simp, rfl, rfl, rfl, fun b hb' hne => setRow_other w p.b b C' (fun e => hne n p (by simp) (hh.dm _ _ hp) hp e.symm)⟩
      · cases sh <;> rfl
  · cases hs


theorem lenA_rel {x : AV} {m : Nat} {y : Value} {ρ : Rho} (h : lenA x = some m) (r : VRel ρ x y) : ∃ b k, y = .slice b m k ∧ m ≤ k := by
  unfold lenA at h
  split at h
  · cases h; cases r; exact ⟨none, 0, rfl, Nat.le_refl _⟩
  · cases h; obtain ⟨a, k, e, _⟩ := r; exact ⟨some a, k, e, Nat.zero_le _⟩
  · cases h; obtain ⟨p, k, hp, e, hk, _⟩ := r; exact ⟨_, k, e, hk⟩
  · cases h
    rcases r with ⟨_, ⟨rfl, a, e⟩ | ⟨p, k, _, e, hk, _⟩⟩
    · exact ⟨a, 0, e, Nat.le_refl _⟩
    · exact ⟨_, k, e, hk⟩
  · cases h
    have r := r.2
    unfold FzRel at r
    rcases r with ⟨rfl, a, k, e, _⟩ | ⟨b, o, k, C, e', fr, e, hk, _⟩
    · exact ⟨a, k, e, Nat.zero_le _⟩
    · exact ⟨_, k, e, hk⟩
  · cases h; obtain ⟨a, e⟩ := r; exact ⟨a, 0, e, Nat.le_refl _⟩
  · cases h
theorem rowA_run {x : AV} {y : Value} {m sz : Nat} {cs : List AV} {ρ : Rho} {h : Hp} {w : World} (hh : HR ρ h w) (hr : rowA h sz x = some cs) (hm : lenA x = some m) (r : VRel ρ x y) :
    ∃ ys, VRels ρ cs ys ∧ ys.length = m * sz ∧ ∀ w', w'.heap = w.heap → (Builtin.firstCells sz m y).run P w' = .ok ys.toArray w' := by
  unfold rowA at hr
  split at hr
  · cases hr; cases r; simp only [lenA] at hm; cases hm; exact ⟨[], rfl, by simp, fun _ _ => rfl⟩
  · cases hr; simp only [lenA] at hm; cases hm
    obtain ⟨a, k, rfl, _⟩ := r
    refine ⟨[], rfl, by simp, fun w' _ => ?_⟩
    simp [Builtin.firstCells, loadCells, loadCellsFrom]
  · rename_i n off len cap
    simp only [lenA] at hm; cases hm
    split at hr
    · rename_i C sz' f t s ho
      obtain ⟨p, k, hp, rfl, hk⟩ := r
      obtain ⟨p', hp', hz, hle, D, e, hb, hD, hcell⟩ := hh.obj n _ ho (hh.dm _ _ hp)
      rw [hp] at hp'; cases hp'
      cases hs : Nat.beq sz sz' with
      | false => simp [hs] at hr
      | true =>
        simp only [hs, cond_true] at hr
        have := Nat.eq_of_beq_eq_true hs
        subst this
        obtain ⟨ys, h1, h2, h3⟩ := VRels.pick D.toList cs (p.o + off * sz) (fun j x hj => by
          obtain ⟨y, hy, hr⟩ := hcell _ _ (window_get hr hj)
          exact ⟨y, by rw [Nat.add_assoc]; simpa using hy, hr⟩)
        have hlen : ys.length = m * sz := by rw [h2, window_len hr]
        refine ⟨ys, h1, hlen, fun w' hw' => ?_⟩
        have hrun := run_loadCells_list (P := P) w' ⟨p.b, p.o + off * sz, none⟩ ys (fun j y hj => by
          rw [add_at]; exact cell_at (by rw [hw']; exact hb) (by have := h3 j y hj; simpa using this))
        rw [hlen] at hrun
        simp only [Builtin.firstCells, hz]; exact hrun
    · cases hr
  · cases hr

def noInt (P : Program) (ts : Array TypeId) : Prop := match ts[1]? with
  | none => True
  | some x => ∃ d, P.underlying x = some d ∧ ∀ k, d ≠ .int k
set_option maxHeartbeats 2000000 in
theorem append_fit {st e ty : TypeId} {ts : Array TypeId} {inf : TypeInfo} {base : Option Addr} {sLen sCap n k xl : Nat} {xb : Option Addr} {new : Array Value} {w : World} (hts : ts[0]? = some st) (hu : P.underlying st = some (.slice e)) (hi : P.info? e = some inf) (hz : noInt P ts)
    (hx : (Builtin.firstCells inf.size n (.slice xb n xl)).run P w = .ok new w) (hfit : sLen + n ≤ sCap) (hk : k = inf.size) :
    (Builtin.append_ ts ty #[.slice base sLen sCap, .slice xb n xl]).run P w = ((match base with | some a => storeCells (a.add (sLen * k)) new.toList | none => pure ()).run P w).andThen fun _ w' => .ok (.slice base (sLen + n) sCap) w' := by
  subst hk
  have hs : ∀ w, (sizeOf e).run P w = .ok inf.size w := fun w => by simp [sizeOf, typeInfo, hi]
  unfold noInt at hz
  unfold Builtin.append_
  cases h1 : ts[1]? with
  | none =>
    simp [hts, run_underlying hu, hs, Builtin.lenOf, hfit, hx]
    cases base <;> simp
  | some x =>
    simp only [h1] at hz
    obtain ⟨d, hd, hn⟩ := hz
    cases d <;> first
      | exact absurd rfl (hn _)
      | (simp [hts, run_underlying hu, run_underlying hd, hs, Builtin.lenOf, hfit, hx]; cases base <;> simp)

theorem growBy_le (m b : Nat) : ∀ (r c : Nat), 256 ≤ c → c ≤ b → Builtin.growBy m r c ≤ 2 ^ r * b
  | 0, c, _, h => by simpa [Builtin.growBy] using h
  | r + 1, c, h0, h => by
    simp only [Builtin.growBy]
    split
    · have : 1 ≤ 2 ^ (r + 1) := Nat.one_le_two_pow
      calc c ≤ 1 * b := by omega
        _ ≤ _ := Nat.mul_le_mul_right _ this
    · have h2 : c + (c + 768) / 4 ≤ 2 * b := by omega
      have := growBy_le m (2 * b) r (c + (c + 768) / 4) (by omega) h2
      calc _ ≤ 2 ^ r * (2 * b) := this
        _ = _ := by rw [Nat.pow_succ, Nat.mul_assoc]
theorem nextcap_le {need c : Nat} (h : c < need) : Builtin.nextslicecap need c ≤ 16 * need := by
  unfold Builtin.nextslicecap
  split
  · omega
  · split
    · omega
    · have := growBy_le need need 4 c (by omega) (by omega)
      omega

set_option maxHeartbeats 2000000 in
theorem append_grow {st e ty : TypeId} {ts : Array TypeId} {inf : TypeInfo} {base : Option Addr} {sLen sCap n xl : Nat} {xb : Option Addr} {old new : Array Value} {z : Value} {w : World} (hts : ts[0]? = some st) (hu : P.underlying st = some (.slice e)) (hi : P.info? e = some inf) (hz : noInt P ts)
    (hx : ∀ w', w'.heap = w.heap → (Builtin.firstCells inf.size n (.slice xb n xl)).run P w' = .ok new w') (hs : ∀ w', w'.heap = w.heap → (Builtin.firstCells inf.size sLen (.slice base sLen sCap)).run P w' = .ok old w') (hzero : ∀ w', (zeroValue e).run P w' = .ok z w')
    (hgt : sCap < sLen + n) (hb1 : sLen + n ≤ 1073741824) (hb2 : inf.bytes * (sLen + n) ≤ 1073741824) :
    ∃ c, sLen + n ≤ c ∧ (Builtin.append_ ts ty #[.slice base sLen sCap, .slice xb n xl]).run P w = .ok (.slice (some ⟨w.heap.size, 0, none⟩) (sLen + n) c) (w.drew.alloc (.cells (old ++ new ++ Builtin.zeroCells z.cells (c - (sLen + n))) e (0, 0))) := by
  have hsz : ∀ w, (sizeOf e).run P w = .ok inf.size w := fun w => by simp [sizeOf, typeInfo, hi]
  have hti : ∀ w, (typeInfo e).run P w = .ok inf w := fun w => by simp [typeInfo, hi]
  have hcap := nextcap_le hgt
  have hbig : ¬ Builtin.nextslicecap (sLen + n) sCap * inf.bytes > 2 ^ 48 := by
    have h1 := Nat.mul_le_mul_right inf.bytes hcap
    have h2 : 16 * (sLen + n) * inf.bytes = 16 * (inf.bytes * (sLen + n)) := by rw [Nat.mul_assoc, Nat.mul_comm (sLen + n)]
    omega
  have hmax : ¬ (((sLen : Int) + (n : Int)) > IntKind.i64.max) := by
    have : IntKind.i64.max = 9223372036854775807 := by decide
    rw [this]; omega
  have hmax' : ¬ ((9223372036854775807 : Int) < (sLen : Int) + (n : Int)) := by omega
  have hng : ¬ (sLen + n ≤ sCap) := by omega
  refine ⟨(Question.appendCap (sLen + n) sCap e).cut (w.tape w.drawn (.appendCap (sLen + n) sCap e)), by simp [Question.cut], ?_⟩
  unfold noInt at hz
  unfold Builtin.append_
  have hx' := hx w.drew rfl
  have hs' := hs w.drew rfl
  have hz' := hzero w.drew
  cases h1 : ts[1]? with
  | none =>
    simp [hts, run_underlying hu, hsz, Builtin.lenOf, hng, hti, hmax', hbig, Question.forced, hx', hs', hz', newRow]
  | some x =>
    simp only [h1] at hz
    obtain ⟨d, hd, hn⟩ := hz
    cases d <;> first
      | exact absurd rfl (hn _)
      | simp [hts, run_underlying hu, run_underlying hd, hsz, Builtin.lenOf, hng, hti, hmax', hbig, Question.forced, hx', hs', hz', newRow]

end Ev
end Go.Proofs.Ytengccmjlaejfaa
end
section
namespace Go.Proofs.Ytengccmjlaejfaa
namespace Ev
open Go.RowKit
set_option linter.unusedSectionVars false
variable [Fz]
variable {P : Program}

theorem HR.heap {ρ : Rho} {h : Hp} {w w' : World} (hh : HR ρ h w) (e : w'.heap = w.heap) : HR ρ h w' := HRel.world hh (by rw [e]; exact Nat.le_refl _) (fun _ _ _ => by rw [e]) (fun _ _ _ => by rw [e])

theorem zeroCells_size (z : Array Value) (n : Nat) : (Builtin.zeroCells z n).size = n * z.size := by simp [Builtin.zeroCells]

/-- An append that takes new memory. -/
theorem grow_new {st e ty : TypeId} {ts : Array TypeId} {inf : TypeInfo} {s x : AV} {base : Option Addr} {sLen sCap m xl : Nat} {xb : Option Addr} {old new zs : List AV} {ρ : Rho} {h h1 : Hp} {w : World} {L : List Nat} {fam : Nat} {sh : Bool}
    (hh : HR ρ h w) (hh1 : ∀ w', w'.heap = w.heap → HR ρ h1 w') (hst1 : Stepped ρ h.nx L w ρ h1.nx w) (hnx : h1.nx = h.nx) (hlg : h1.lg = L ++ h.lg)
    (hts : ts[0]? = some st) (hu : P.underlying st = some (.slice e)) (hi : P.info? e = some inf) (hz : noInt P ts)
    (hs : VRel ρ s (.slice base sLen sCap)) (hx : VRel ρ x (.slice xb m xl)) (hls : lenA s = some sLen) (hlx : lenA x = some m) (hold : rowA h inf.size s = some old) (hnew : rowA h inf.size x = some new) (hzero : zeroOf P e = some zs) (hzl : zs.length = inf.size)
    (hgt : sCap < sLen + m) (hb1 : sLen + m ≤ 1073741824) (hb2 : inf.bytes * (sLen + m) ≤ 1073741824) :
    ∃ ρ' w' y, (Builtin.append_ ts ty #[.slice base sLen sCap, .slice xb m xl]).run P w = .ok y w' ∧ VRel ρ' (.sl h.nx 0 (sLen + m) none) y ∧ HR ρ' (h1.new (.cells (old ++ new) inf.size fam true sh)) w' ∧
      Stepped ρ h.nx L w ρ' (h1.new (.cells (old ++ new) inf.size fam true sh)).nx w' ∧ (h1.new (.cells (old ++ new) inf.size fam true sh)).lg = L ++ h.lg := by
  obtain ⟨zv, hzr, hze⟩ := zeroOf_run hzero
  obtain ⟨YO, o1, o2, o3⟩ := rowA_run (P := P) hh hold hls hs
  obtain ⟨YN, n1, n2, n3⟩ := rowA_run (P := P) hh hnew hlx hx
  obtain ⟨c, hc, hrun⟩ := append_grow (P := P) (ty := ty) hts hu hi hz n3 o3 hzr hgt hb1 hb2
  generalize hC : YO.toArray ++ YN.toArray ++ Builtin.zeroCells zv.cells (c - (sLen + m)) = C at hrun
  have hzs : zv.cells.size = inf.size := by rw [← hzl, hze]; simp
  have hsz : C.size = c * inf.size := by
    subst hC
    simp only [Array.size_append, List.size_toArray, o2, n2, zeroCells_size, hzs]
    rw [← Nat.add_mul, ← Nat.add_mul]
    congr 1
    omega
  have hcells : ∀ (j : Nat) x, (old ++ new)[j]? = some x → ∃ y, C[j]? = some y ∧ VRel ρ x y := fun j x hj => by
    obtain ⟨y, hy, hr⟩ := (o1.append n1).get hj
    have hlt := (List.getElem?_eq_some_iff.1 hy).1
    refine ⟨y, ?_, hr⟩
    subst hC
    rw [Array.getElem?_append_left (by simpa using hlt)]
    simpa using hy
  have hf := (hh1 w.drew rfl).fresh hcells inf.size e fam true sh
  refine ⟨upd ρ h.nx ⟨w.heap.size, 0, inf.size, C.size⟩, _, _, hrun, ⟨_, c, upd_same _ _ _, ?_, hc, ?_, fun _ h => by cases h⟩, ?_, ?_, ?_⟩
  · simp
  · simp only [Nat.zero_add]; omega
  · unfold HR Hp.new
    rw [T.get_put, hnx]
    rw [hnx] at hf
    exact hf
  · have h2 := Stepped.fresh (ρ := ρ) (nx := h1.nx) (w := w.drew) (hh1 w.drew rfl).dm inf.size C.size (.cells C e (0, 0))
    have h3 := (hst1.drew).trans h2
    rw [hnx] at h3
    unfold Hp.new
    rw [hnx]
    simpa using h3
  · exact hlg

theorem OpOk.ofRun {s : World → Result Next} {ρ ρ' : Rho} {h h' : Hp} {w w' : World} {v : AV} {y : Value} {L : List Nat} (hr : s w = .ok (.value y) w') (h1 : VRel ρ' v y) (h2 : HR ρ' h' w') (h3 : Stepped ρ h.nx L w ρ' h'.nx w') (h4 : h'.lg = L ++ h.lg) : OpOk s ρ h w v h' :=
  ⟨ρ', w', y, L, .inl hr, h1, h2, h3, h4⟩

theorem appendA_run {st ty : TypeId} {ts : Array TypeId} {s x v : AV} {ys yx : Value} {ρ : Rho} {h h' : Hp} {w : World} (hh : HR ρ h w) (hs : VRel ρ s ys) (hx : VRel ρ x yx) (hts : ts[0]? = some st) (hz : noInt P ts) (ha : appendA P st s x h = some (v, h')) :
    ∃ ρ' w' y L, (Builtin.append_ ts ty #[ys, yx]).run P w = .ok y w' ∧ VRel ρ' v y ∧ HR ρ' h' w' ∧ Stepped ρ h.nx L w ρ' h'.nx w' ∧ h'.lg = L ++ h.lg := by
  unfold appendA at ha
  split at ha
  · rename_i e hu
    split at ha
    · rename_i inf m hi hlx
      split at ha
      · rename_i new old zs hnew hold hzero
        have hlsE : ∃ sLen, lenA s = some sLen := by
          unfold rowA at hold
          split at hold
          · exact ⟨0, rfl⟩
          · exact ⟨0, rfl⟩
          · exact ⟨_, rfl⟩
          · cases hold
        obtain ⟨sLen, hls⟩ := hlsE
        obtain ⟨base, sCap, rfl, hcap⟩ := lenA_rel hls hs
        obtain ⟨xb, xl, rfl, hxl⟩ := lenA_rel hlx hx
        obtain ⟨YN, n1, n2, n3⟩ := rowA_run (P := P) hh hnew hlx hx
        obtain ⟨YO, o1, o2, o3⟩ := rowA_run (P := P) hh hold hls hs
        cases hm0 : Nat.beq m 0 with
        | true =>
          have := beq0 hm0
          subst this
          simp only [hm0, cond_true, Option.some.injEq, Prod.mk.injEq] at ha
          obtain ⟨rfl, rfl⟩ := ha
          have hYN : YN = [] := by simpa using n2
          have hf := append_fit (P := P) (ty := ty) (k := inf.size) (base := base) (sLen := sLen) (sCap := sCap) hts hu hi hz (n3 w rfl) (by omega) rfl
          refine ⟨ρ, w, _, [], ?_, hs, hh, .refl hh.dm, rfl⟩
          rw [hf, hYN]
          cases base <;> simp [storeCells]
        | false =>
          have hmpos : 0 < m := by
            rcases Nat.eq_zero_or_pos m with c | c
            · subst c; simp at hm0
            · exact c
          simp only [hm0, cond_false, hls, Option.getD_some] at ha
          cases hc : ((Nat.beq zs.length inf.size && new.all AV.cell) && (small (m + sLen) && small (inf.bytes * (m + sLen)))) with
          | false => simp [hc] at ha
          | true =>
            simp only [hc, cond_true] at ha
            simp only [Bool.and_eq_true, small, Nat.ble_eq] at hc
            obtain ⟨⟨hzl, hcl⟩, hb1, hb2⟩ := hc
            have hzl := Nat.eq_of_beq_eq_true hzl
            have hb1' : sLen + m ≤ 1073741824 := by omega
            have hb2' : inf.bytes * (sLen + m) ≤ 1073741824 := by rw [Nat.add_comm sLen m]; exact hb2
            split at ha
            · rename_i n off len cap
              simp only [lenA, Option.some.injEq] at hls
              subst hls
              obtain ⟨p, q, hp, hye, hq1, hq2, hq3⟩ := hs
              cases hye
              split at ha
              · -- the mark, or new memory
                rename_i cs sz fam tip sh ho
                obtain ⟨p', hp', hpz, hple, C, eC, hb, hC, hcell⟩ := hh.obj n _ ho (hh.dm _ _ hp)
                rw [hp] at hp'; cases hp'
                cases hcd : (tip && Nat.beq ((off + len) * sz) cs.length) with
                | false => simp [hcd] at ha
                | true =>
                  simp only [hcd, cond_true, Option.some.injEq, Prod.mk.injEq] at ha
                  obtain ⟨rfl, rfl⟩ := ha
                  simp only [Bool.and_eq_true] at hcd
                  obtain ⟨rfl, hend⟩ := hcd
                  have hend := Nat.eq_of_beq_eq_true hend
                  -- the row's element size is the slice's
                  have hszE : sz = inf.size := by
                    simp only [rowA, ho] at hold
                    cases hbq : Nat.beq inf.size sz with
                    | false => simp [hbq] at hold
                    | true => exact (Nat.eq_of_beq_eq_true hbq).symm
                  subst hszE
                  have holdE : old = cs.drop (off * inf.size) := by
                    simp only [rowA, ho, Nat.beq_refl, cond_true] at hold
                    obtain ⟨h1, h2⟩ := window_some hold
                    rw [h1, List.take_of_length_le]
                    simp; rw [← hend, Nat.add_mul]; omega
                  have hut := hh.untip ho
                  have hput : ∀ o, (((h.put n (.cells cs inf.size fam false true)).log n).new o).ob.get = upd (upd h.ob.get n (.cells cs inf.size fam false true)) h.nx o := fun o => by
                    unfold Hp.new Hp.log Hp.put; simp only [T.get_put]
                  have hst1 : Stepped ρ h.nx [n] w ρ h.nx w := ⟨Nat.le_refl _, fun _ _ => rfl, fun k r hk e => absurd (hh.dm k r e) (by omega), Nat.le_refl _, rfl, rfl, rfl, fun _ _ _ => rfl⟩
                  by_cases hfit : len + m ≤ sCap
                  · -- where it lies
                    have hf := append_fit (P := P) (ty := ty) (k := inf.size) (base := some ⟨p.b, p.o + off * p.z, none⟩) (sLen := len) (sCap := sCap) hts hu hi hz (n3 w rfl) hfit rfl
                    have hone : ∀ y ∈ YN, y.oneCell' = true := cells_one hcl n1
                    have hq2' : p.o + (off + (len + m)) * inf.size ≤ p.s := by
                      have := Nat.mul_le_mul_right p.z (show off + (len + m) ≤ off + sCap by omega)
                      rw [hpz] at this hq2; omega
                    have hendm : (off + (len + m)) * inf.size = cs.length + m * inf.size := by rw [← hend, ← Nat.add_mul]; congr 1; omega
                    have hrow := run_storeCells_at P p.b (p.o + off * p.z + len * inf.size) eC YN 0 C w hb (by rw [n2, hpz, hC]; rw [Nat.add_mul, Nat.add_mul] at hq2'; omega) hone
                    simp only [Nat.add_zero] at hrow
                    generalize hC' : (C.toList.take (p.o + off * p.z + len * inf.size) ++ YN ++ C.toList.drop (p.o + off * p.z + len * inf.size + YN.length)).toArray = C' at hrow
                    have hoff0 : p.o + off * p.z + len * inf.size = p.o + cs.length := by rw [hpz, ← hend, Nat.add_mul]; omega
                    rw [hoff0] at hrow hC'
                    have hNl : new.length = m * inf.size := by rw [← n1.length]; exact n2
                    have hsz' : C'.size = C.size := by subst hC'; simp; omega
                    have hin := hh.inplace (C := C) (C' := C') (new := new) (off := off) ho hp hb (by rw [← hend]; exact Nat.mul_le_mul_right _ (by omega)) hsz' (by rw [hNl]; omega) (fun j hj => by
                      subst hC'
                      simp only [List.getElem?_toArray]
                      rw [List.append_assoc, List.getElem?_append_left (by simp; omega), List.getElem?_take_of_lt hj]
                      simp) (fun j x hj => by
                      obtain ⟨y, hy, hr⟩ := n1.get hj
                      have hlt := (List.getElem?_eq_some_iff.1 hy).1
                      refine ⟨y, ?_, hr⟩
                      subst hC'
                      simp only [List.getElem?_toArray]
                      rw [List.append_assoc, List.getElem?_append_right (by simp; omega), List.getElem?_append_left (by simp; omega)]
                      simp only [List.length_take, Array.length_toList]
                      rw [Nat.min_eq_left (by omega), show p.o + cs.length + j - (p.o + cs.length) = j by omega]
                      exact hy)
                    refine ⟨upd ρ h.nx ⟨p.b, p.o + off * inf.size, inf.size, p.s⟩, w.setRow p.b C', .slice (some ⟨p.b, p.o + off * p.z, none⟩) (len + m) sCap, [n], ?_, ?_, ?_, ?_, rfl⟩
                    · rw [hf]
                      simp only [add_at, hoff0, hrow, Result.andThen_ok]
                    · refine ⟨_, sCap, upd_same _ _ _, ?_, hfit, ?_, fun _ h => by cases h⟩
                      · simp [hpz]
                      · simp only [Nat.zero_add]; rw [hpz] at hq2; rw [Nat.add_mul] at hq2; omega
                    · unfold HR
                      rw [hput, holdE]
                      exact hin
                    · refine ⟨by simp [Hp.new, Hp.log, Hp.put], fun k hk => upd_ne _ _ (by omega), fun k r hk e => ?_, by simp, rfl, rfl, rfl, fun b hb' hne => setRow_other w p.b b C' (fun e => hne n p (by simp) (hh.dm _ _ hp) hp e.symm)⟩
                      by_cases ck : k = h.nx
                      · subst ck; rw [upd_same] at e; cases e; exact .inr ⟨n, p, by simp, hh.dm _ _ hp, hp, rfl⟩
                      · rw [upd_ne _ _ ck] at e; exact absurd (hh.dm k r e) (by omega)
                  · have hh1 : ∀ w', w'.heap = w.heap → HR ρ ((h.put n (.cells cs inf.size fam false true)).log n) w' := fun w' e => by
                      have := HR.heap (h := h) hh e
                      unfold HR Hp.log Hp.put
                      simp only [T.get_put]
                      exact HRel.untip this ho
                    obtain ⟨ρ', w', y, r1, r2, r3, r4, r5⟩ := grow_new (P := P) (ty := ty) (s := .sl n off len none) (x := x) (fam := fam) (sh := true) (sCap := sCap) (sLen := len) hh hh1 hst1 rfl rfl hts hu hi hz ⟨p, sCap, hp, rfl, hq1, hq2, hq3⟩ hx rfl hlx hold hnew hzero hzl (by omega) hb1' hb2'
                    exact ⟨ρ', w', y, [n], r1, r2, r3, r4, r5⟩
              · rename_i cs sz fam tip sh k ho
                cases hk : Nat.blt k (len + m) with
                | false => simp [hk] at ha
                | true =>
                  simp only [hk, cond_true, Option.some.injEq, Prod.mk.injEq] at ha
                  obtain ⟨rfl, rfl⟩ := ha
                  have hszE : sz = inf.size := by
                    simp only [rowA, ho] at hold
                    cases hbq : Nat.beq inf.size sz with
                    | false => simp [hbq] at hold
                    | true => exact (Nat.eq_of_beq_eq_true hbq).symm
                  subst hszE
                  have := hq3 k rfl
                  subst this
                  simp only [Nat.blt_eq] at hk
                  obtain ⟨ρ', w', y, r1, r2, r3, r4, r5⟩ := grow_new (P := P) (ty := ty) (s := .sl n off len (some sCap)) (x := x) (fam := h.nx) (sh := false) (sCap := sCap) (sLen := len) (L := []) hh (fun w' e => HR.heap (h := h) hh e) (.refl hh.dm) rfl rfl hts hu hi hz ⟨p, sCap, hp, rfl, hq1, hq2, hq3⟩ hx rfl hlx hold hnew hzero hzl (by omega) hb1' hb2'
                  exact ⟨ρ', w', y, [], r1, r2, r3, r4, r5⟩
              · cases ha
            · simp only [lenA, Option.some.injEq] at hls
              subst hls
              cases hs
              simp only [Option.some.injEq, Prod.mk.injEq] at ha
              obtain ⟨rfl, rfl⟩ := ha
              obtain ⟨ρ', w', y, r1, r2, r3, r4, r5⟩ := grow_new (P := P) (ty := ty) (s := .v (.slice none 0 0)) (x := x) (fam := h.nx) (sh := false) (sCap := 0) (sLen := 0) (L := []) hh (fun w' e => HR.heap (h := h) hh e) (.refl hh.dm) rfl rfl hts hu hi hz rfl hx rfl hlx hold hnew hzero hzl (by omega) hb1' hb2'
              simp only [rowA, Option.some.injEq] at hold
              subst hold
              simp only [Nat.zero_add, List.nil_append] at r2 r3 r4 r5
              exact ⟨ρ', w', y, [], r1, r2, r3, r4, r5⟩
            · simp only [lenA, Option.some.injEq] at hls
              subst hls
              have hs' := hs
              obtain ⟨a, k, hye, hk0⟩ := hs'
              have := hk0 rfl
              subst this
              cases hye
              simp only [Option.some.injEq, Prod.mk.injEq] at ha
              obtain ⟨rfl, rfl⟩ := ha
              obtain ⟨ρ', w', y, r1, r2, r3, r4, r5⟩ := grow_new (P := P) (ty := ty) (s := .none0 true) (x := x) (fam := h.nx) (sh := false) (sLen := 0) (L := []) hh (fun w' e => HR.heap (h := h) hh e) (.refl hh.dm) rfl rfl hts hu hi hz hs hx rfl hlx hold hnew hzero hzl (by omega) hb1' hb2'
              simp only [rowA, Option.some.injEq] at hold
              subst hold
              simp only [Nat.zero_add, List.nil_append] at r2 r3 r4 r5
              exact ⟨ρ', w', y, [], r1, r2, r3, r4, r5⟩
            · cases ha
      · cases ha
    · cases ha
  · cases ha

end Ev
end Go.Proofs.Ytengccmjlaejfaa
end
section
namespace Go.Proofs.Ytengccmjlaejfaa
namespace Ev
open Go.RowKit
set_option linter.unusedSectionVars false
variable [Fz]
variable {P : Program}

theorem HRel.newObj {ρ : Rho} {g : Nat → Option AO} {nx : Nat} {w w' : World} (h : HRel ρ g nx w) {o : AO} {p : Pl} (hold : ∀ b, b < w.heap.size → w'.heap[b]? = w.heap[b]?) (hp : w.heap.size ≤ p.b) (hp' : p.b < w'.heap.size)
    (ho : ORel (upd ρ nx p) o p w') (htp : o.tp = false) : HRel (upd ρ nx p) (upd g nx o) (nx + 1) w' := by
  have hsub : Sub ρ (upd ρ nx p) := fun n q e => by have := (h.dom n q e).1; rw [upd_ne _ _ (by omega)]; exact e
  have hold' : ∀ n q, n ≠ nx → upd ρ nx p n = some q → ρ n = some q ∧ q.b < w.heap.size := fun n q hn e => by
    rw [upd_ne _ _ hn] at e; exact ⟨e, (h.dom n q e).2⟩
  have hnew : ∀ q, upd ρ nx p nx = some q → q = p := fun q e => by rw [upd_same] at e; cases e; rfl
  refine ⟨fun n q e => ?_, fun n o' e hn => ?_, fun n m q r o1 o2 hnm e1 e2 hb e3 e4 => ?_, fun n m q r o1 o2 e1 e2 hb e3 e4 ht => ?_, fun n m q r o1 o2 hnm e1 e2 hb e3 e4 ht => ?_, fun b o e => (hold b (Array.getElem?_eq_some_iff.1 (h.fz b o e)).1).trans (h.fz b o e), fun n q e => ?_, fun e => Nat.le_succ_of_le (h.op e)⟩
  · by_cases c : n = nx
    · subst c; rw [hnew q e]; exact ⟨by omega, hp'⟩
    · obtain ⟨x1, x2⟩ := hold' n q c e; have := (h.dom n q x1).1; exact ⟨by omega, by omega⟩
  · by_cases c : n = nx
    · subst c; rw [upd_same] at e; cases e; exact .inl ⟨p, upd_same _ _ _, ho⟩
    · rw [upd_ne _ _ c] at e
      rcases h.obj0 n o' e (by omega) with ⟨q, x1, x2⟩ | ⟨x1, x2⟩
      · exact .inl ⟨q, hsub _ _ x1, (x2.mono hsub).world (hold _ (h.dom n q x1).2)⟩
      · exact .inr ⟨by rw [upd_ne _ _ c]; exact x1, x2⟩
  · by_cases c : n = nx
    · subst c; have := hnew q e1; subst this; obtain ⟨x1, x2⟩ := hold' m r (Ne.symm hnm) e2; omega
    · by_cases c' : m = nx
      · subst c'; have := hnew r e2; subst this; obtain ⟨x1, x2⟩ := hold' n q c e1; omega
      · rw [upd_ne _ _ c] at e1 e3; rw [upd_ne _ _ c'] at e2 e4; exact h.sep n m q r o1 o2 hnm e1 e2 hb e3 e4
  · by_cases c : n = nx
    · subst c; rw [upd_same] at e3; cases e3; rw [htp] at ht; cases ht
    · by_cases c' : m = nx
      · subst c'; have := hnew r e2; subst this; obtain ⟨x1, x2⟩ := hold' n q c e1; omega
      · rw [upd_ne _ _ c] at e1 e3; rw [upd_ne _ _ c'] at e2 e4; exact h.tip n m q r o1 o2 e1 e2 hb e3 e4 ht
  · by_cases c : n = nx
    · subst c; rw [upd_same] at e3; cases e3; rw [htp] at ht; cases ht
    · by_cases c' : m = nx
      · subst c'; have := hnew r e2; subst this; obtain ⟨x1, x2⟩ := hold' n q c e1; omega
      · rw [upd_ne _ _ c] at e1 e3; rw [upd_ne _ _ c'] at e2 e4; exact h.one n m q r o1 o2 hnm e1 e2 hb e3 e4 ht
  · by_cases c : n = nx
    · subst c; rw [hnew q e]; exact h.fzlt hp
    · exact h.nf n q (hold' n q c e).1

theorem HRel.setObj {ρ : Rho} {g : Nat → Option AO} {nx : Nat} {w w' : World} (h : HRel ρ g nx w) {n : Nat} {p : Pl} {o o' : AO} (hp : ρ n = some p) (ho : g n = some o) (hs : o.sh = false) (htp : o'.tp = false) (hw : w'.heap.size = w.heap.size)
    (hne : ∀ b, b ≠ p.b → w'.heap[b]? = w.heap[b]?) (hr : ORel ρ o' p w') : HRel ρ (upd g n o') nx w' := by
  have apart : ∀ m q o2, m ≠ n → ρ m = some q → g m = some o2 → q.b ≠ p.b := fun m q o2 hm hq hg hb => by
    have := h.sep n m p q o o2 (Ne.symm hm) hp hq hb.symm ho hg
    rw [hs] at this; exact absurd this.2.1 (by simp)
  refine ⟨fun m q e => ⟨(h.dom m q e).1, by rw [hw]; exact (h.dom m q e).2⟩, fun m o2 e hm => ?_, fun a b q r o1 o2 hab e1 e2 hb e3 e4 => ?_, fun a b q r o1 o2 e1 e2 hb e3 e4 ht => ?_, fun a b q r o1 o2 hab e1 e2 hb e3 e4 ht => ?_, fun b o e => (hne b (fun c => by rw [c, h.nf n p hp] at e; cases e)).trans (h.fz b o e), h.nf, h.op⟩
  · by_cases c : m = n
    · subst c; rw [upd_same] at e; cases e; exact .inl ⟨p, hp, hr⟩
    · rw [upd_ne _ _ c] at e
      rcases h.obj0 m o2 e hm with ⟨q, x1, x2⟩ | x
      · exact .inl ⟨q, x1, x2.world (hne _ (apart m q o2 c x1 e))⟩
      · exact .inr x
  · by_cases c : a = n
    · subst c
      rw [hp] at e1; cases e1
      rw [upd_ne _ _ (Ne.symm hab)] at e4
      exact absurd hb.symm (apart b r o2 (Ne.symm hab) e2 e4)
    · rw [upd_ne _ _ c] at e3
      by_cases c' : b = n
      · subst c'; rw [hp] at e2; cases e2; exact absurd hb (apart a q o1 c e1 e3)
      · rw [upd_ne _ _ c'] at e4; exact h.sep a b q r o1 o2 hab e1 e2 hb e3 e4
  · by_cases c : a = n
    · subst c; rw [upd_same] at e3; cases e3; rw [htp] at ht; cases ht
    · rw [upd_ne _ _ c] at e3
      by_cases c' : b = n
      · subst c'; rw [hp] at e2; cases e2; exact absurd hb (apart a q o1 c e1 e3)
      · rw [upd_ne _ _ c'] at e4; exact h.tip a b q r o1 o2 e1 e2 hb e3 e4 ht
  · by_cases c : a = n
    · subst c; rw [upd_same] at e3; cases e3; rw [htp] at ht; cases ht
    · rw [upd_ne _ _ c] at e3
      by_cases c' : b = n
      · subst c'; rw [hp] at e2; cases e2; exact absurd hb (apart a q o1 c e1 e3)
      · rw [upd_ne _ _ c'] at e4; exact h.one a b q r o1 o2 hab e1 e2 hb e3 e4 ht

/-- A new object. -/
theorem HR.newO {ρ : Rho} {h : Hp} {w : World} (hh : HR ρ h w) {o : AO} {O : Obj} {p : Pl} (hp : p.b = w.heap.size) (htp : o.tp = false) (ho : ORel (upd ρ h.nx p) o p (w.alloc O)) :
    HR (upd ρ h.nx p) (h.new o) (w.alloc O) ∧ Stepped ρ h.nx [] w (upd ρ h.nx p) (h.new o).nx (w.alloc O) := by
  have hold : ∀ b, b < w.heap.size → (w.alloc O).heap[b]? = w.heap[b]? := fun b hb => Below.heap_alloc _ _ _ hb
  refine ⟨?_, ⟨Nat.le_succ _, fun n hn => upd_ne _ _ (by omega), fun n q hn e => .inl ?_, by simp, rfl, rfl, rfl, fun b hb _ => hold b hb⟩⟩
  · have := HRel.newObj hh (w' := w.alloc O) (o := o) (p := p) hold (by omega) (by rw [World.size_alloc]; omega) ho htp
    unfold HR Hp.new
    rw [T.get_put]
    exact this
  · by_cases c : n = h.nx
    · subst c; rw [upd_same] at e; cases e; omega
    · rw [upd_ne _ _ c] at e; exact absurd (hh.dm n q e) (by omega)
/-- An object that nobody shares is set anew. -/
theorem HR.setO {ρ : Rho} {h : Hp} {w : World} (hh : HR ρ h w) {n : Nat} {p : Pl} {o o' : AO} {O : Obj} (hp : ρ n = some p) (ho : h.ob.get n = some o) (hs : o.sh = false) (htp : o'.tp = false) (hr : ORel ρ o' p (w.putObj p.b O)) :
    HR ρ (h.set n o') (w.putObj p.b O) ∧ Stepped ρ h.nx [n] w ρ (h.set n o').nx (w.putObj p.b O) ∧ (h.set n o').lg = [n] ++ h.lg := by
  have hb := (hh.dom n p hp).2
  have hsz : (w.putObj p.b O).heap.size = w.heap.size := by simp [World.putObj]
  have hrel := HRel.setObj hh hp ho hs htp hsz (fun b hb => World.putObj_heap_other hb) hr
  refine ⟨?_, ⟨Nat.le_refl _, fun _ _ => rfl, fun m q hm e => absurd (hh.dm m q e) (by omega), Nat.le_of_eq hsz.symm, rfl, rfl, rfl, fun b _ hne => World.putObj_heap_other fun c => hne n p (by simp) (hh.dm n p hp) hp c.symm⟩, rfl⟩
  unfold HR Hp.set Hp.log Hp.put
  rw [T.get_put]
  exact hrel

theorem run_getM {w : World} {r : Nat} {E : Array MapEntry} {clk : Nat} (h : w.heap[r]? = some (.map E clk)) : (getObj r).run P w = .ok (.map E clk) w := by simp [getObj, Sem.run, h]
theorem run_setM {w : World} {r : Nat} {E : Array MapEntry} {clk : Nat} (o' : Obj) (h : w.heap[r]? = some (.map E clk)) : (setObj r o').run P w = .ok () (w.putObj r o') := by simp [setObj, Sem.run, h, World.putObj]

/- What lies at a key. -/
def FRel (ρ : Rho) : Option (Nat × AV) → Option (Nat × Value) → Prop
  | none, r => r = none
  | some (j, v), r => ∃ y, r = some (j, y) ∧ VRel ρ v y

theorem ERelM.length {ρ : Rho} : ∀ {es : List ME} {E : List MapEntry}, ERelM ρ es E → E.length = es.length
  | [], _, e => by simp only [ERelM] at e; simp [e]
  | (_, _, _) :: es, _, ⟨e, r, e1, _, _, e4⟩ => by simp [e1, e4.length]
theorem findNow_rel {ρ : Rho} {d : TypeDesc} {k : Value} : ∀ {es : List ME} {E : List MapEntry} (i : Nat), ERelM ρ es E →
    match findNowA d k es i with
    | some r => ∃ r', Instr.findNow d k E i = some r' ∧ FRel ρ r r'
    | none => Instr.findNow d k E i = none
  | [], _, i, e => by simp only [ERelM] at e; subst e; exact ⟨none, rfl, rfl⟩
  | (k0, b0, v0) :: es, _, i, ⟨e, r, e1, ⟨e2, _⟩, e3, e4⟩ => by
    subst e1
    simp only [findNowA, Instr.findNow, e2]
    cases hs : Instr.sameNow d k k0 with
    | none => rfl
    | some b =>
      cases b with
      | true => exact ⟨_, rfl, _, rfl, e3⟩
      | false => exact findNow_rel (i + 1) e4
theorem findAsk_rel {ρ : Rho} {kt : TypeId} {k : Value} : ∀ {es : List ME} {E : List MapEntry} (i : Nat) {r : Option (Nat × AV)}, ERelM ρ es E → findAskA P kt k es i = some r →
    ∃ r', (∀ w, (Instr.findAsking kt k E i).run P w = .ok r' w) ∧ FRel ρ r r'
  | [], _, i, r, e, h => by simp only [ERelM] at e; subst e; simp only [findAskA] at h; cases h; exact ⟨none, fun w => rfl, rfl⟩
  | (k0, b0, v0) :: es, _, i, r, ⟨e, r0, e1, ⟨e2, _⟩, e3, e4⟩, h => by
    subst e1
    simp only [findAskA] at h
    split at h
    · rename_i hq
      cases h
      exact ⟨some (i, e.val), fun w => by simp [Instr.findAsking, e2, Sem.run_bind, pureRun_ok _ _ hq w, Result.andThen], _, rfl, e3⟩
    · rename_i hq
      obtain ⟨r', h1, h2⟩ := findAsk_rel (i + 1) e4 h
      exact ⟨r', fun w => by simp [Instr.findAsking, e2, Sem.run_bind, pureRun_ok _ _ hq w, Result.andThen, h1], h2⟩
    · cases h
theorem findKeyA_run {ρ : Rho} {kt : TypeId} {k : Value} {es : List ME} {E : List MapEntry} {r : Option (Nat × AV)} (hE : ERelM ρ es E) (h : findKeyA P kt k es = some r) :
    ∃ r', (∀ w, (Instr.findKey kt k E).run P w = .ok r' w) ∧ FRel ρ r r' := by
  unfold findKeyA at h
  split at h
  · rename_i d hd
    have hn := findNow_rel (d := d) (k := k) 0 hE
    split at h
    · rename_i r0 h0
      cases h
      rw [h0] at hn
      obtain ⟨r', h1, h2⟩ := hn
      exact ⟨r', fun w => by simp [Instr.findKey, Sem.run_bind, run_underlying hd, Result.andThen, h1], h2⟩
    · rename_i h0
      rw [h0] at hn
      obtain ⟨r', h1, h2⟩ := findAsk_rel 0 hE h
      exact ⟨r', fun w => by simp [Instr.findKey, Sem.run_bind, run_underlying hd, Result.andThen, hn, h1], h2⟩
  · cases h
theorem lookA_run {ρ : Rho} {kt : TypeId} {mt : Bool} {k : Value} {es : List ME} {E : List MapEntry} {r : Option (Nat × AV)} (hE : ERelM ρ es E) (h : lookA P kt mt k es = some r) :
    (∀ w, (Instr.checkKey mt 10000 kt k).run P w = .ok () w) ∧ ∃ r', (∀ w, (Instr.findKey kt k E).run P w = .ok r' w) ∧ FRel ρ r r' := by
  unfold lookA at h
  split at h
  · rename_i u hu
    exact ⟨fun w => pureRun_ok _ _ hu w, findKeyA_run hE h⟩
  · cases h
theorem zeroVA_run {t : TypeId} {z : Value} (h : zeroVA P t = some z) (w : World) : (zeroValue t).run P w = .ok z w := by
  unfold zeroVA at h
  split at h
  · rename_i i hi; simp [zeroValue, typeInfo, hi, h]
  · cases h
theorem isEmpty_rel {ρ : Rho} {es : List ME} {E : Array MapEntry} (hE : ERelM ρ es E.toList) : E.isEmpty = es.isEmpty := by
  have := hE.length
  cases es with
  | nil => simp only [ERelM] at hE; simp [Array.isEmpty, show E.size = 0 by simpa using congrArg List.length hE]
  | cons a r => simp [Array.isEmpty, show E.size = r.length + 1 by simpa using this]

/-- The entries of a map, nil or not. -/
theorem mapES_run {x : AV} {y : Value} {ρ : Rho} {h : Hp} {w : World} {es : List ME} (hh : HR ρ h w) (hx : VRel ρ x y) (he : mapES x h = some es) :
    (y = .map none ∧ es = []) ∨ ∃ n p E clk, x = .mp n ∧ ρ n = some p ∧ y = .map (some p.b) ∧ h.ob.get n = some (.map es clk) ∧ w.heap[p.b]? = some (.map E clk) ∧ ERelM ρ es E.toList := by
  unfold mapES at he
  split at he
  · rename_i n
    split at he
    · rename_i es' clk ho
      cases he
      obtain ⟨p, hp, rfl⟩ := hx
      obtain ⟨p', hp', E, hb, hE⟩ := hh.obj n _ ho (hh.dm n p hp)
      rw [hp] at hp'; cases hp'
      exact .inr ⟨n, p, E, clk, rfl, hp, rfl, ho, hb, hE⟩
    · cases he
  · cases he; cases hx; exact .inl ⟨rfl, rfl⟩
  · cases he

theorem lookupA_run {xt : TypeId} {x ix v : AV} {y iy : Value} {ok : Bool} {ρ : Rho} {h : Hp} {w : World} (hh : HR ρ h w) (hx : VRel ρ x y) (hi : VRel ρ ix iy) (hl : lookupA P xt x ix ok h = some v) :
    ∃ z, (Instr.lookup xt y iy ok).run P w = .ok z w ∧ VRel ρ v z := by
  unfold lookupA at hl
  split at hl
  · rename_i kt et hu
    split at hl
    · rename_i es k he hk
      obtain rfl := plain_rel hk hi
      have key : ∃ E : Array MapEntry, ERelM ρ es E.toList ∧ ((y = .map none ∧ E = #[]) ∨ ∃ b clk, y = .map (some b) ∧ w.heap[b]? = some (.map E clk)) := by
        rcases mapES_run hh hx he with ⟨rfl, rfl⟩ | ⟨n, p, E, clk, rfl, _, rfl, _, hb, hE⟩
        · exact ⟨#[], rfl, .inl ⟨rfl, rfl⟩⟩
        · exact ⟨E, hE, .inr ⟨_, _, rfl, hb⟩⟩
      obtain ⟨E, hE, hy⟩ := key
      have hem := isEmpty_rel hE
      split at hl
      · rename_i j u hlk
        cases hl
        obtain ⟨hck, r', hfk, z, rfl, hz⟩ := lookA_run hE hlk
        rw [← hem] at hck
        refine ⟨if ok then .tuple #[z, .bool true] else z, ?_, ?_⟩
        · rcases hy with ⟨rfl, rfl⟩ | ⟨b, clk, rfl, hb⟩
          · have hck : ∀ w, (Instr.checkKey true 10000 kt iy).run P w = .ok () w := hck
            have hfk : ∀ w, (Instr.findKey kt iy []).run P w = _ := hfk
            simp [Instr.lookup, Sem.run_bind, run_underlying hu, Result.andThen, hck, hfk]
          · simp [Instr.lookup, Sem.run_bind, run_underlying hu, Result.andThen, run_getM hb, hck, hfk]
        · cases ok with
          | true => exact mkTup_rel (ys := [z, .bool true]) ⟨_, _, rfl, hz, _, _, rfl, rfl, rfl⟩
          | false => exact hz
      · rename_i hlk
        simp only [Option.map_eq_some_iff] at hl
        obtain ⟨z, hz, rfl⟩ := hl
        obtain ⟨hck, r', hfk, hr⟩ := lookA_run hE hlk
        simp only [FRel] at hr
        subst hr
        rw [← hem] at hck
        refine ⟨if ok then .tuple #[z, .bool false] else z, ?_, ?_⟩
        · rcases hy with ⟨rfl, rfl⟩ | ⟨b, clk, rfl, hb⟩
          · have hck : ∀ w, (Instr.checkKey true 10000 kt iy).run P w = .ok () w := hck
            have hfk : ∀ w, (Instr.findKey kt iy []).run P w = _ := hfk
            simp [Instr.lookup, Sem.run_bind, run_underlying hu, Result.andThen, hck, hfk, zeroVA_run hz]
          · simp [Instr.lookup, Sem.run_bind, run_underlying hu, Result.andThen, run_getM hb, hck, hfk, zeroVA_run hz]
        · cases ok with
          | true => exact mkTup_rel (cs := [.v z, .v (.bool false)]) (ys := [z, .bool false]) ⟨_, _, rfl, rfl, _, _, rfl, rfl, rfl⟩
          | false => rfl
      · cases hl
    · cases hl
  · cases hl

/- The entries, one of them set. -/
theorem ERelM.get {ρ : Rho} : ∀ {es : List ME} {E : List MapEntry} {i : Nat} {k : Value} {b : Nat} {v : AV}, ERelM ρ es E → es[i]? = some (k, b, v) → ∃ e, E[i]? = some e ∧ e.key = k ∧ e.born = b ∧ VRel ρ v e.val
  | [], _, i, k, b, v, _, h => by simp at h
  | (k0, b0, v0) :: es, _, 0, k, b, v, ⟨e, r, e1, ⟨e2, e3⟩, e4, e5⟩, h => by simp at h; obtain ⟨rfl, rfl, rfl⟩ := h; exact ⟨e, by simp [e1], e2, e3, e4⟩
  | (k0, b0, v0) :: es, _, i + 1, k, b, v, ⟨e, r, e1, _, _, e5⟩, h => by
    obtain ⟨e', h1, h2⟩ := e5.get (i := i) (by simpa using h)
    exact ⟨e', by simpa [e1] using h1, h2⟩
theorem ERelM.set {ρ : Rho} : ∀ {es : List ME} {E : List MapEntry} {i : Nat} {k : Value} {b : Nat} {v : AV} {f : MapEntry → MapEntry}, ERelM ρ es E → (∀ e, E[i]? = some e → ((f e).key = k ∧ (f e).born = b) ∧ VRel ρ v (f e).val) → ERelM ρ (es.set i (k, b, v)) (E.modify i f)
  | [], _, i, k, b, v, f, h, _ => by simp only [ERelM] at h; subst h; simp [ERelM]
  | (k0, b0, v0) :: es, _, 0, k, b, v, f, ⟨e, r, e1, e2, e4, e5⟩, h => by
    subst e1
    obtain ⟨h1, h2⟩ := h e rfl
    exact ⟨f e, r, rfl, h1, h2, e5⟩
  | (k0, b0, v0) :: es, _, i + 1, k, b, v, f, ⟨e, r, e1, e2, e4, e5⟩, h => by
    subst e1
    exact ⟨e, _, rfl, e2, e4, e5.set fun e' he' => h e' (by simpa using he')⟩
theorem ERelM.push {ρ : Rho} : ∀ {es : List ME} {E : List MapEntry} {k : Value} {b : Nat} {v : AV} {y : Value}, ERelM ρ es E → VRel ρ v y → ERelM ρ (es ++ [(k, b, v)]) (E ++ [{ key := k, val := y, born := b }])
  | [], _, k, b, v, y, h, hv => by simp only [ERelM] at h; subst h; exact ⟨_, _, rfl, ⟨rfl, rfl⟩, hv, rfl⟩
  | (_, _, _) :: es, _, k, b, v, y, ⟨e, r, e1, e2, e4, e5⟩, hv => by subst e1; exact ⟨e, _, rfl, e2, e4, e5.push hv⟩
theorem ERelM.erase {ρ : Rho} : ∀ {es : List ME} {E : List MapEntry} (i : Nat), ERelM ρ es E → ERelM ρ (es.eraseIdx i) (E.eraseIdx i)
  | [], _, i, h => by simp only [ERelM] at h; subst h; simp [ERelM]
  | (_, _, _) :: es, _, 0, ⟨e, r, e1, e2, e4, e5⟩ => by subst e1; exact e5
  | (_, _, _) :: es, _, i + 1, ⟨e, r, e1, e2, e4, e5⟩ => by subst e1; exact ⟨e, _, rfl, e2, e4, e5.erase i⟩
theorem ERelM.find {ρ : Rho} (j : Int) : ∀ {es : List ME} {E : List MapEntry}, ERelM ρ es E → E.findIdx? (fun e => (e.born : Int) == j) = es.findIdx? (fun e => decide ((e.2.1 : Int) = j))
  | [], _, h => by simp only [ERelM] at h; subst h; rfl
  | (k0, b0, v0) :: es, _, ⟨e, r, e1, ⟨e2, e3⟩, e4, e5⟩ => by
    subst e1
    simp only [List.findIdx?_cons, e3]
    rw [show ((b0 : Int) == j) = decide ((b0 : Int) = j) from rfl]
    cases decide ((b0 : Int) = j) with
    | true => rfl
    | false => simp only [Bool.false_eq_true, if_false]; rw [e5.find]

/-- A map's block. -/
theorem map_at {ρ : Rho} {h : Hp} {w : World} (hh : HR ρ h w) {n clk : Nat} {es : List ME} {y : Value} (hx : VRel ρ (.mp n) y) (ho : h.ob.get n = some (.map es clk)) :
    ∃ p E, ρ n = some p ∧ y = .map (some p.b) ∧ w.heap[p.b]? = some (.map E clk) ∧ ERelM ρ es E.toList ∧ ∀ es' E' clk', ERelM ρ es' E'.toList →
      HR ρ (h.set n (.map es' clk')) (w.putObj p.b (.map E' clk')) ∧ Stepped ρ h.nx [n] w ρ (h.set n (.map es' clk')).nx (w.putObj p.b (.map E' clk')) ∧ (h.set n (.map es' clk')).lg = [n] ++ h.lg := by
  obtain ⟨p, hp, rfl⟩ := hx
  obtain ⟨p', hp', E, hb, hE⟩ := hh.obj n _ ho (hh.dm n p hp)
  rw [hp] at hp'; cases hp'
  exact ⟨p, E, hp, rfl, hb, hE, fun es' E' clk' h' => hh.setO hp ho rfl rfl ⟨E', World.putObj_heap_same (hh.dom n p hp).2, h'⟩⟩

theorem mapSetA_run {mt : TypeId} {m k v : AV} {ym yk yv : Value} {ρ : Rho} {h h' : Hp} {w : World} (hh : HR ρ h w) (hm : VRel ρ m ym) (hk : VRel ρ k yk) (hv : VRel ρ v yv) (hs : mapSetA P mt m k v h = some h') :
    ∃ w' L, (Instr.mapUpdate mt ym yk yv).run P w = .ok () w' ∧ HR ρ h' w' ∧ Stepped ρ h.nx L w ρ h'.nx w' ∧ h'.lg = L ++ h.lg := by
  unfold mapSetA at hs
  split at hs
  · rename_i kt et hu
    split at hs
    · rename_i n k0 hk0
      obtain rfl := plain_rel hk0 hk
      split at hs
      · rename_i es clk ho
        obtain ⟨p, E, hp, rfl, hb, hE, hset⟩ := map_at hh hm ho
        split at hs
        · rename_i i u hlk
          obtain ⟨hck, r', hfk, z, rfl, hz⟩ := lookA_run hE hlk
          split at hs
          · rename_i kk b v' hi
            obtain ⟨e, he, hek, heb, _⟩ := hE.get hi
            split at hs
            · rename_i k' hst
              cases hs
              have he' : E[i]? = some e := by simpa using he
              obtain ⟨s1, s2, s3⟩ := hset (es.set i (k', b, v)) (E.modify i fun e => { e with key := k', val := yv }) clk (by
                rw [Array.toList_modify]
                exact hE.set fun e' he' => by rw [he] at he'; cases he'; exact ⟨⟨rfl, heb⟩, hv⟩)
              refine ⟨_, _, ?_, s1, s2, s3⟩
              have hst' : ∀ w, (Instr.keyThatStays (((E[i]?).map (·.key)).getD yk) yk).run P w = .ok k' w := fun w => by rw [he']; simp only [Option.map_some, Option.getD_some, hek]; exact pureRun_ok _ _ hst w
              simp only [Instr.mapUpdate, Sem.run_bind, run_underlying hu, Result.andThen_ok, run_getM hb, hck, hfk, hst', run_setM _ hb]
            · cases hs
          · cases hs
        · rename_i hlk
          cases hs
          obtain ⟨hck, r', hfk, hr⟩ := lookA_run hE hlk
          simp only [FRel] at hr
          subst hr
          obtain ⟨s1, s2, s3⟩ := hset (es ++ [(yk, clk, v)]) (E.push { key := yk, val := yv, born := clk }) (clk + 1) (by rw [Array.toList_push]; exact hE.push hv)
          refine ⟨_, _, ?_, s1, s2, s3⟩
          simp only [Instr.mapUpdate, Sem.run_bind, run_underlying hu, Result.andThen_ok, run_getM hb, hck, hfk, run_setM _ hb]
        · cases hs
      · cases hs
    · cases hs
  · cases hs

theorem mapEntA_run {mt : TypeId} {m k v : AV} {ym yk : Value} {ρ : Rho} {h h' : Hp} {w : World} (hh : HR ρ h w) (hm : VRel ρ m ym) (hk : VRel ρ k yk) (hs : mapEntA P mt m k h = some (v, h')) :
    ∃ w' y L, (Instr.mapEntry mt ym yk).run P w = .ok y w' ∧ VRel ρ v y ∧ HR ρ h' w' ∧ Stepped ρ h.nx L w ρ h'.nx w' ∧ h'.lg = L ++ h.lg := by
  unfold mapEntA at hs
  split at hs
  · rename_i kt et hu
    split at hs
    · rename_i n k0 hk0
      obtain rfl := plain_rel hk0 hk
      split at hs
      · rename_i es clk ho
        obtain ⟨p, E, hp, rfl, hb, hE, hset⟩ := map_at hh hm ho
        split at hs
        · rename_i i u hlk
          obtain ⟨hck, r', hfk, z, rfl, hz⟩ := lookA_run hE hlk
          split at hs
          · rename_i kk b v' hi
            obtain ⟨e, he, hek, heb, hev⟩ := hE.get hi
            split at hs
            · rename_i k' hst
              cases hs
              have he' : E[i]? = some e := by simpa using he
              obtain ⟨s1, s2, s3⟩ := hset (es.set i (k', b, v')) (E.modify i fun e => { e with key := k' }) clk (by
                rw [Array.toList_modify]
                exact hE.set fun e' he' => by rw [he] at he'; cases he'; exact ⟨⟨rfl, heb⟩, hev⟩)
              refine ⟨_, .tuple #[z, goInt b], _, ?_, mkTup_rel (ys := [z, goInt b]) ⟨_, _, rfl, hz, _, _, rfl, rfl, rfl⟩, s1, s2, s3⟩
              have hst' : ∀ w, (Instr.keyThatStays (((E[i]?).map (·.key)).getD yk) yk).run P w = .ok k' w := fun w => by rw [he']; simp only [Option.map_some, Option.getD_some, hek]; exact pureRun_ok _ _ hst w
              simp only [Instr.mapEntry, Sem.run_bind, run_underlying hu, Result.andThen_ok, run_getM hb, hck, hfk, hst', run_setM _ hb, Sem.run_pure]
              simp [he', heb]
            · cases hs
          · cases hs
        · rename_i hlk
          simp only [Option.map_eq_some_iff, Prod.mk.injEq] at hs
          obtain ⟨z, hz, rfl, rfl⟩ := hs
          obtain ⟨hck, r', hfk, hr⟩ := lookA_run hE hlk
          simp only [FRel] at hr
          subst hr
          obtain ⟨s1, s2, s3⟩ := hset (es ++ [(yk, clk, .v z)]) (E.push { key := yk, val := z, born := clk }) (clk + 1) (by rw [Array.toList_push]; exact hE.push rfl)
          refine ⟨_, .tuple #[z, goInt clk], _, ?_, mkTup_rel (ys := [z, goInt clk]) ⟨_, _, rfl, rfl, _, _, rfl, rfl, rfl⟩, s1, s2, s3⟩
          simp only [Instr.mapEntry, Sem.run_bind, run_underlying hu, Result.andThen_ok, run_getM hb, hck, hfk, zeroVA_run hz, run_setM _ hb, Sem.run_pure]
        · cases hs
      · cases hs
    · cases hs
  · cases hs

theorem entSetA_run {mt : TypeId} {m b v : AV} {ym yb yv : Value} {ρ : Rho} {h h' : Hp} {w : World} (hh : HR ρ h w) (hm : VRel ρ m ym) (hb' : VRel ρ b yb) (hv : VRel ρ v yv) (hs : entSetA m b v h = some h') :
    ∃ w' L, (Instr.entryStore mt ym yb yv).run P w = .ok () w' ∧ HR ρ h' w' ∧ Stepped ρ h.nx L w ρ h'.nx w' ∧ h'.lg = L ++ h.lg := by
  unfold entSetA at hs
  split at hs
  · rename_i n q j
    cases hb'
    split at hs
    · rename_i es clk ho
      obtain ⟨p, E, hp, rfl, hb, hE, hset⟩ := map_at hh hm ho
      split at hs
      · rename_i i hi
        split at hs
        · rename_i k0 b0 v0 hg
          cases hs
          obtain ⟨e, he, hek, heb, hev⟩ := hE.get hg
          obtain ⟨s1, s2, s3⟩ := hset (es.set i (k0, b0, v)) (E.modify i fun e => { e with val := yv }) clk (by
            rw [Array.toList_modify]
            exact hE.set fun e' he' => by rw [he] at he'; cases he'; exact ⟨⟨hek, heb⟩, hv⟩)
          refine ⟨_, _, ?_, s1, s2, s3⟩
          have hf : E.findIdx? (fun e => (e.born : Int) == j) = some i := by rw [← hi, ← hE.find j]; cases E; simp
          simp [Instr.entryStore, Sem.run_bind, Result.andThen, run_getM hb, hf, run_setM _ hb, asInt, asIntOf]
        · cases hs
      · cases hs
    · cases hs
  · cases hs

theorem mapDelA_run {mt ty : TypeId} {ts : Array TypeId} {m k : AV} {ym yk : Value} {ρ : Rho} {h h' : Hp} {w : World} (hts : ts[0]? = some mt) (hh : HR ρ h w) (hm : VRel ρ m ym) (hk : VRel ρ k yk) (hs : mapDelA P mt m k h = some h') :
    ∃ w' L, (Builtin.delete_ ts ty #[ym, yk]).run P w = .ok (.tuple #[]) w' ∧ HR ρ h' w' ∧ Stepped ρ h.nx L w ρ h'.nx w' ∧ h'.lg = L ++ h.lg := by
  unfold mapDelA at hs
  split at hs
  · rename_i kt et hu
    split at hs
    · rename_i n k0 hk0
      obtain rfl := plain_rel hk0 hk
      split at hs
      · rename_i es clk ho
        obtain ⟨p, E, hp, rfl, hb, hE, hset⟩ := map_at hh hm ho
        have hem := isEmpty_rel hE
        split at hs
        · rename_i i u hlk
          cases hs
          obtain ⟨hck, r', hfk, z, rfl, hz⟩ := lookA_run hE hlk
          rw [← hem] at hck
          obtain ⟨s1, s2, s3⟩ := hset (es.eraseIdx i) (E.eraseIdxIfInBounds i) clk (by
            rw [Array.toList_eraseIdxIfInBounds]; exact hE.erase i)
          refine ⟨_, _, ?_, s1, s2, s3⟩
          simp [Builtin.delete_, hts, Sem.run_bind, run_underlying hu, Result.andThen, run_getM hb, hck, hfk, run_setM _ hb]
        · rename_i hlk
          cases hs
          obtain ⟨hck, r', hfk, hr⟩ := lookA_run hE hlk
          simp only [FRel] at hr
          subst hr
          rw [← hem] at hck
          obtain ⟨s1, s2, s3⟩ := hset es E clk hE
          refine ⟨_, _, ?_, s1, s2, s3⟩
          simp [Builtin.delete_, hts, Sem.run_bind, run_underlying hu, Result.andThen, run_getM hb, hck, hfk, run_setM _ hb]
        · cases hs
      · cases hs
    · cases hs
  · cases hs

end Ev
end Go.Proofs.Ytengccmjlaejfaa
end
