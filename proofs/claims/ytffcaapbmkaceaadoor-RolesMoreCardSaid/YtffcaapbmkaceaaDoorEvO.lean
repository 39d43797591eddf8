/- The evaluator's operations, one by one: what it says of one, the model does. No condition. -/
import Derived.Test.YtffcaapbmkaceaaDoorEvR
import Derived.Laws.CopyRow
namespace Go.Proofs.YtffcaapbmkaceaaDoor
namespace Ev
open Go.RowKit
set_option linter.unusedSectionVars false
variable [Fz]
variable {P : Program}

theorem pureRun_ok {α : Type} : ∀ (s : Sem α) (a : α), pureRun P s = some a → ∀ w, s.run P w = .ok a w
  | .pure _, _, h, _ => by simp only [pureRun] at h; cases h; rfl
  | .program k, a, h, w => by simp only [pureRun] at h; exact pureRun_ok (k P) a h w
  | .mark _ k, a, h, w => by simp only [pureRun] at h; exact pureRun_ok k a h w
  | .choose q k, a, h, w => by
    simp only [pureRun] at h
    cases hq : q.forced with
    | true => simp only [hq, cond_true] at h; simp only [Sem.run, hq, if_true]; exact pureRun_ok (k 0) a h w
    | false => simp [hq] at h
  | .load _ _ _, _, h, _ => by simp [pureRun] at h
  | .store _ _ _ _, _, h, _ => by simp [pureRun] at h
  | .new _ _, _, h, _ => by simp [pureRun] at h
  | .shape _ _, _, h, _ => by simp [pureRun] at h
  | .freeze _ _ _, _, h, _ => by simp [pureRun] at h
  | .frozen _ _, _, h, _ => by simp [pureRun] at h
  | .getObj _ _, _, h, _ => by simp [pureRun] at h
  | .setObj _ _ _, _, h, _ => by simp [pureRun] at h
  | .sys _ _, _, h, _ => by simp [pureRun] at h
  | .halt _, _, h, _ => by simp [pureRun] at h

theorem szOf_run {t : TypeId} {k : Nat} (h : szOf P t = some k) (w : World) : (sizeOf t).run P w = .ok k w := by
  unfold szOf at h
  cases hi : P.info? t with
  | none => simp [hi] at h
  | some i => simp [hi] at h; simp [sizeOf, typeInfo, hi, h]
theorem aggT_run {t : TypeId} {g : Bool} (h : aggT P t = some g) (w : World) : (isAgg t).run P w = .ok g w := by
  unfold aggT at h
  cases hu : P.underlying t with
  | none => simp [hu] at h
  | some d => cases d <;> simp [hu] at h <;> simp [isAgg, run_underlying hu, ← h]
theorem zeroOf_run {t : TypeId} {z : List AV} (h : zeroOf P t = some z) : ∃ zv, (∀ w, (zeroValue t).run P w = .ok zv w) ∧ z = zv.cells.toList.map .v := by
  unfold zeroOf at h
  cases hi : P.info? t with
  | none => simp [hi] at h
  | some i =>
    simp only [hi] at h
    cases hz : i.zero with
    | none => simp [hz] at h
    | some zv => simp [hz] at h; exact ⟨zv, fun w => by simp [zeroValue, typeInfo, hi, hz], h.symm⟩

abbrev HR (ρ : Rho) (h : Hp) (w : World) : Prop := HRel ρ h.ob.get h.nx w
def ERel (ρ : Rho) (e : T AV) (a : Act) : Prop := ∀ t, VRel ρ ((e.get t).getD (.v undef)) (a.tmps.getD t undef)
theorem opnd_rel {ρ : Rho} {e : T AV} {a : Act} (h : ERel ρ e a) (x : Operand) : VRel ρ (opnd e x) (a.eval x) := by
  cases x with
  | tmp t => exact h t
  | const v => rfl
  | global g => rfl
  | func f => exact ⟨#[], rfl, rfl⟩

theorem HRel.dm {ρ : Rho} {g : Nat → Option AO} {nx : Nat} {w : World} (h : HRel ρ g nx w) : ∀ n p, ρ n = some p → n < nx := fun n p e => (h.dom n p e).1

def OpOk (s : World → Result Next) (ρ : Rho) (h : Hp) (w : World) (v : AV) (h' : Hp) : Prop :=
  ∃ ρ' w' y L, (s w = .ok (.value y) w' ∨ (s w = .ok .skip w' ∧ y = undef)) ∧ VRel ρ' v y ∧ HR ρ' h' w' ∧ Stepped ρ h.nx L w ρ' h'.nx w' ∧ h'.lg = L ++ h.lg

theorem OpOk.same {s : World → Result Next} {ρ : Rho} {h : Hp} {w : World} {v : AV} {y : Value} (hh : HR ρ h w) (hs : s w = .ok (.value y) w) (hr : VRel ρ v y) : OpOk s ρ h w v h :=
  ⟨ρ, w, y, [], .inl hs, hr, hh, .refl hh.dm, rfl⟩
theorem OpOk.fresh {s : World → Result Next} {ρ : Rho} {h : Hp} {w : World} {v : AV} {y : Value} {cs : List AV} {C : Array Value} {sz : Nat} {e : TypeId} (hh : HR ρ h w) (hs : s w = .ok (.value y) (w.alloc (.cells C e (0, 0))))
    (hc : VRels ρ cs C.toList) (hr : VRel (upd ρ h.nx ⟨w.heap.size, 0, sz, C.size⟩) v y) : OpOk s ρ h w v (h.fresh cs sz) :=
  ⟨_, _, y, [], .inl hs, hr, by
    have := hh.fresh (cs := cs) (C := C) (fun j x hj => by obtain ⟨y, hy, hr⟩ := hc.get hj; exact ⟨y, by simpa using hy, hr⟩) sz e h.nx true false
    unfold HR Hp.fresh Hp.new
    rw [T.get_put]
    exact this, .fresh hh.dm sz C.size _, rfl⟩

theorem cell_at {w : World} {b : Nat} {C : Array Value} {e : TypeId} (h : w.heap[b]? = some (.cells C e (0, 0))) {o : Nat} {y : Value} (hy : C[o]? = some y) : w.cell? ⟨b, o, none⟩ = some y := by
  simp [World.cell?, h, hy]
theorem cell_atf {w : World} {b : Nat} {C : Array Value} {e : TypeId} {fr : Nat × Nat} (h : w.heap[b]? = some (.cells C e fr)) {o : Nat} {y : Value} (hy : C[o]? = some y) : w.cell? ⟨b, o, none⟩ = some y := by
  simp [World.cell?, h, hy]
theorem add_at (b o n : Nat) : (⟨b, o, none⟩ : Addr).add n = ⟨b, o + n, none⟩ := by unfold Addr.add; split <;> simp_all

theorem window_some {cs xs : List AV} {p n : Nat} (h : window cs p n = some xs) : xs = (cs.drop p).take n ∧ p + n ≤ cs.length := by
  unfold window at h
  cases hb : Nat.ble (p + n) cs.length with
  | true => simp [hb] at h; exact ⟨h.symm, Nat.le_of_ble_eq_true hb⟩
  | false => simp [hb] at h
theorem window_get {cs xs : List AV} {p n j : Nat} {x : AV} (h : window cs p n = some xs) (hj : xs[j]? = some x) : cs[p + j]? = some x := by
  obtain ⟨e, _⟩ := window_some h
  rw [e, List.getElem?_take] at hj
  split at hj
  · simpa using hj
  · cases hj
theorem window_len {cs xs : List AV} {p n : Nat} (h : window cs p n = some xs) : xs.length = n := by
  obtain ⟨e, hl⟩ := window_some h
  rw [e]; simp; omega

theorem av_rel {d : D} {z : Value} {ρ : Rho} (hgc : Fz.gc = false) (h : FzRel d z) : VRel ρ d.av z := by
  cases d with
  | v x => exact h
  | l f len ks => exact ⟨hgc, h⟩
theorem cellsD_len (g : Nat → D) : ∀ (c n : Nat), (cellsD g c n).length = n
  | _, 0 => rfl
  | c, n + 1 => by simp [cellsD, cellsD_len g (c + 1) n]
theorem cellsD_get (g : Nat → D) : ∀ (n c j : Nat) (x : AV), (cellsD g c n)[j]? = some x → j < n ∧ x = (g (c + j)).av
  | 0, _, _, _, h => by simp [cellsD] at h
  | n + 1, c, j, x, h => by
    cases j with
    | zero => simp [cellsD] at h; exact ⟨Nat.succ_pos _, h.symm⟩
    | succ j =>
      simp only [cellsD, List.getElem?_cons_succ] at h
      obtain ⟨h1, h2⟩ := cellsD_get g n (c + 1) j x h
      exact ⟨by omega, by rw [h2, show c + 1 + j = c + (j + 1) by omega]⟩
/-- A load of an element of which all cells are known. -/
theorem loadD_run {t : TypeId} {f : Nat → Nat → D} {len : Nat} {ks : List TK} {i c b o : Nat} {C : Array Value} {e : TypeId} {fr : Nat × Nat} {v : AV} {ρ : Rho} {w : World} (hgc : Fz.gc = false) (hb : w.heap[b]? = some (.cells C e fr)) (hi : i < len)
    (hcell : ∀ i c, i < len → c < ks.length → (∃ tk, ks[c]? = some tk ∧ tk.fit (f i c) = true) ∧ ∃ z, C[o + (i * ks.length + c)]? = some z ∧ FzRel (f i c) z) (hl : loadD P t f ks i c = some v) : ∃ z, (Instr.loadAt t (.pointer (some ⟨b, o + (i * ks.length + c), none⟩))).run P w = .ok z w ∧ VRel ρ v z := by
  unfold loadD at hl
  split at hl
  · rename_i k g hk hg
    have hcell' : ∀ j x, (cellsD (f i) 0 ks.length)[j]? = some x → ∃ y, C[o + (i * ks.length + j)]? = some y ∧ VRel ρ x y := fun j x hj => by
      obtain ⟨h1, h2⟩ := cellsD_get _ _ _ _ _ hj
      obtain ⟨_, z, hz, hr⟩ := hcell i j hi h1
      exact ⟨z, hz, by rw [h2, Nat.zero_add]; exact av_rel hgc hr⟩
    cases g with
    | true =>
      simp only [cond_true, Option.map_eq_some_iff] at hl
      obtain ⟨xs, hw, rfl⟩ := hl
      obtain ⟨ys, h1, h2, h3⟩ := VRels.pick C.toList xs (o + (i * ks.length + c)) (fun j x hj => by
        obtain ⟨y, hy, hr⟩ := hcell' _ _ (window_get hw hj)
        exact ⟨y, by rw [Nat.add_assoc, Nat.add_assoc]; simpa using hy, hr⟩)
      have hlen : ys.length = k := by rw [h2, window_len hw]
      have hrun := run_loadCells_list (P := P) w ⟨b, o + (i * ks.length + c), none⟩ ys (fun j y hj => by
        rw [add_at]; exact cell_atf hb (by have := h3 j y hj; simpa using this))
      rw [hlen] at hrun
      exact ⟨.agg ys.toArray, by simp [Instr.loadAt, Instr.sureAddr, loadVar, aggT_run hg, szOf_run hk, hrun], mkAgg_rel h1⟩
    | false =>
      simp only [cond_false] at hl
      obtain ⟨y, hy, hr⟩ := hcell' _ _ hl
      exact ⟨y, by simp [Instr.loadAt, Instr.sureAddr, loadVar, aggT_run hg, cell_atf hb hy], hr⟩
  · cases hl
/-- A load. -/
theorem loadA_run {t : TypeId} {x v : AV} {y : Value} {ρ : Rho} {h : Hp} {w : World} (hh : HR ρ h w) (hx : VRel ρ x y) (hl : loadA P t x h = some v) : ∃ z, (Instr.loadAt t y).run P w = .ok z w ∧ VRel ρ v z := by
  unfold loadA at hl
  cases x <;> simp only [] at hl <;> try cases hl
  rotate_left
  · rename_i f len ks i c
    obtain ⟨hgc, b, o, hfz, hi, rfl⟩ := hx
    obtain ⟨C, e, fr, hb, _, hcell⟩ := hfz
    exact loadD_run hgc (hh.fz b _ hb) hi hcell hl
  rename_i n i c
  obtain ⟨p, hp, rfl⟩ := hx
  split at hl
  · rename_i cs sz fam tip sh k g ho hk hg
    obtain ⟨p', hp', hz, hs, C, e, hb, hC, hcell⟩ := hh.obj n _ ho (hh.dm _ _ hp)
    rw [hp] at hp'; cases hp'
    rw [hz]
    cases g with
    | true =>
      simp only [cond_true, Option.map_eq_some_iff] at hl
      obtain ⟨xs, hw, rfl⟩ := hl
      obtain ⟨ys, h1, h2, h3⟩ := VRels.pick C.toList xs (p.o + (i * sz + c)) (fun j x hj => by
        obtain ⟨y, hy, hr⟩ := hcell _ _ (window_get hw hj)
        exact ⟨y, by rw [Nat.add_assoc]; simpa using hy, hr⟩)
      have hlen : ys.length = k := by rw [h2, window_len hw]
      have hrun := run_loadCells_list (P := P) w ⟨p.b, p.o + (i * sz + c), none⟩ ys (fun j y hj => by
        rw [add_at]; exact cell_at hb (by have := h3 j y hj; simpa using this))
      rw [hlen] at hrun
      exact ⟨.agg ys.toArray, by simp [Instr.loadAt, Instr.sureAddr, loadVar, aggT_run hg, szOf_run hk, hrun], mkAgg_rel h1⟩
    | false =>
      simp only [cond_false] at hl
      obtain ⟨y, hy, hr⟩ := hcell _ _ hl
      exact ⟨y, by simp [Instr.loadAt, Instr.sureAddr, loadVar, aggT_run hg, cell_at hb hy], hr⟩
  · cases hl

/-- An address. -/
theorem fieldA_run {t : TypeId} {x v : AV} {y : Value} {f : Nat} {ρ : Rho} {w : World} (hx : VRel ρ x y) (hl : fieldA P t x f = some v) : ∃ z, (Instr.fieldAt t y f).run P w = .ok z w ∧ VRel ρ v z := by
  unfold fieldA at hl
  split at hl
  · rename_i n i c fs hu
    obtain ⟨p, hp, rfl⟩ := hx
    split at hl
    · rename_i fd hfd
      split at hl
      · rename_i k hk
        cases hl
        refine ⟨_, ?_, ⟨p, hp, rfl⟩⟩
        simp [Instr.fieldAt, run_underlying hu, hfd, Instr.sureAddr, fieldPlace, szOf_run hk, add_at, Nat.add_assoc]
      · cases hl
    · cases hl
  · rename_i g len ks i c fs hu
    obtain ⟨hgc, b, o, hp, hi, rfl⟩ := hx
    split at hl
    · rename_i fd hfd
      split at hl
      · rename_i k hk
        cases hl
        refine ⟨_, ?_, ⟨hgc, b, o, hp, hi, rfl⟩⟩
        simp [Instr.fieldAt, run_underlying hu, hfd, Instr.sureAddr, fieldPlace, szOf_run hk, add_at, Nat.add_assoc]
      · cases hl
    · cases hl
  · cases hl

theorem szObj_z {ρ : Rho} {h : Hp} {w : World} (hh : HR ρ h w) {n k : Nat} {p : Pl} (hp : ρ n = some p) (e : szObj h n k = true) : p.z = k := by
  unfold szObj at e
  split at e
  · rename_i cs sz f t s ho
    have : sz = k := Nat.eq_of_beq_eq_true e
    subst this
    obtain ⟨p', hp', hz, _⟩ := hh.obj n _ ho (hh.dm _ _ hp)
    rw [hp] at hp'; cases hp'
    exact hz
  · cases e

theorem indexAddrA_run {t : TypeId} {x ix v : AV} {y iy : Value} {ρ : Rho} {h : Hp} {w : World} (hh : HR ρ h w) (hx : VRel ρ x y) (hi : VRel ρ ix iy) (hl : indexAddrA P t x ix h = some v) :
    ∃ z, (Instr.indexAt t y iy).run P w = .ok z w ∧ VRel ρ v z := by
  unfold indexAddrA at hl
  split at hl
  · rename_i n off len cap kd j e hu
    cases hi
    obtain ⟨p, k, hp, rfl, hk1, hk2, hk3⟩ := hx
    split at hl
    · rename_i sz hsz
      cases hb : (szObj h n sz && (decide (0 ≤ j) && decide (j < len))) with
      | false => simp [hb] at hl
      | true =>
        rw [hb] at hl
        simp only [Bool.and_eq_true, decide_eq_true_eq] at hb
        obtain ⟨h1, h2, h3⟩ := hb
        simp only [cond_true] at hl
        cases hl
        have hz := szObj_z hh hp h1
        refine ⟨_, ?_, ⟨p, hp, rfl⟩⟩
        simp [Instr.indexAt, run_underlying hu, asIntOf, h2, h3, szOf_run hsz, add_at, hz, Nat.add_mul, Nat.add_assoc]
    · cases hl
  · rename_i n off len cap kd j e hu
    cases hi
    obtain ⟨p, k, hp, rfl, hk1, hk2, hk3⟩ := hx
    split at hl
    · rename_i sz hsz
      cases hb : (szObj h n sz && (decide (0 ≤ j) && decide (j < len))) with
      | false => simp [hb] at hl
      | true =>
        rw [hb] at hl
        simp only [Bool.and_eq_true, decide_eq_true_eq] at hb
        obtain ⟨h1, h2, h3⟩ := hb
        simp only [cond_true] at hl
        cases hl
        have hz := szObj_z hh hp h1
        refine ⟨_, ?_, ⟨p, hp, rfl⟩⟩
        simp [Instr.indexAt, run_underlying hu, asIntOf, h2, h3, szOf_run hsz, add_at, hz, Nat.add_mul, Nat.add_assoc]
    · cases hl
  · rename_i n i c kd j len e hu
    cases hi
    obtain ⟨p, hp, rfl⟩ := hx
    split at hl
    · rename_i sz hsz
      cases hb : (decide (0 ≤ j) && decide (j < len)) with
      | false => simp [hb] at hl
      | true =>
        rw [hb] at hl
        simp only [Bool.and_eq_true, decide_eq_true_eq] at hb
        obtain ⟨h2, h3⟩ := hb
        simp only [cond_true] at hl
        cases hl
        refine ⟨_, ?_, ⟨p, hp, rfl⟩⟩
        simp [Instr.indexAt, run_underlying hu, asIntOf, h2, h3, szOf_run hsz, add_at, Instr.sureAddr, Nat.add_assoc]
    · cases hl
  · rename_i f n ks i c kd j len e hu
    cases hi
    obtain ⟨hgc, b, o, hp, hlt, rfl⟩ := hx
    split at hl
    · rename_i sz hsz
      cases hb : (decide (0 ≤ j) && decide (j < len)) with
      | false => simp [hb] at hl
      | true =>
        rw [hb] at hl
        simp only [Bool.and_eq_true, decide_eq_true_eq] at hb
        obtain ⟨h2, h3⟩ := hb
        simp only [cond_true] at hl
        cases hl
        refine ⟨_, ?_, ⟨hgc, b, o, hp, hlt, rfl⟩⟩
        simp [Instr.indexAt, run_underlying hu, asIntOf, h2, h3, szOf_run hsz, add_at, Instr.sureAddr, Nat.add_assoc]
    · cases hl
  · cases hl

theorem bound_run {d l y : Nat} {ρ : Operand → AV} {r : Rho} {x : Operand} {v : Value} (h : boundA d ρ (some x) = some l) (hv : VRel r (ρ x) v) (hl : l ≤ y) (c : BoundsCode) (w : World) : (Instr.sliceBound v y c).run P w = .ok l w := by
  simp only [boundA] at h
  split at h
  · rename_i k j hx
    rw [hx] at hv; cases hv
    cases h0 : decide (0 ≤ j) with
    | false => simp [h0] at h
    | true =>
      rw [h0] at h; simp only [cond_true, Option.some.injEq] at h
      have h0' : 0 ≤ j := by simpa using h0
      have hle : j ≤ (y : Int) := by omega
      simp [Instr.sliceBound, asIntOf, h0', hle, h]
  · rename_i k j hx
    rw [hx] at hv; cases hv
    cases h0 : decide (0 ≤ j) with
    | false => simp [h0] at h
    | true =>
      rw [h0] at h; simp only [cond_true, Option.some.injEq] at h
      have h0' : 0 ≤ j := by simpa using h0
      have hle : j ≤ (y : Int) := by omega
      simp [Instr.sliceBound, asIntOf, h0', hle, h]
  · cases h

def lowOk (d : Nat) (ρ : Operand → AV) (r : Rho) (f : Operand → Value) (o : Option Operand) (l : Nat) : Prop :=
  boundA d ρ o = some l ∧ ∀ x, VRel r (ρ x) (f x)
theorem bounds_run {ρ : Operand → AV} {r : Rho} {f : Operand → Value} {lo hi mx : Option Operand} {l hh m n len cap : Nat} (hf : ∀ x, VRel r (ρ x) (f x)) (hl : boundA 0 ρ lo = some l) (hhi : boundA len ρ hi = some hh) (hm : mx = none → m = cap) (hm2 : ∀ x, mx = some x → hi.isSome ∧ boundA n ρ mx = some m)
    (h1 : l ≤ hh) (h2 : hh ≤ m) (h3 : m ≤ cap) (b : Bool) (w : World) : (Instr.sliceBounds b len cap (lo.map f) (hi.map f) (mx.map f)).run P w = .ok (l, hh, m) w := by
  cases mx with
  | none =>
    have hm := hm rfl
    subst hm
    cases hi with
    | none =>
      simp only [boundA] at hhi; cases hhi
      cases lo with
      | none => simp only [boundA] at hl; cases hl; simp [Instr.sliceBounds]
      | some x => simp [Instr.sliceBounds, bound_run hl (hf x) h1]
    | some z =>
      cases lo with
      | none => simp only [boundA] at hl; cases hl; simp [Instr.sliceBounds, bound_run hhi (hf z) h2]
      | some x => simp [Instr.sliceBounds, bound_run hhi (hf z) h2, bound_run hl (hf x) h1]
  | some q =>
    obtain ⟨hs, hb⟩ := hm2 q rfl
    cases hi with
    | none => simp at hs
    | some z =>
      cases lo with
      | none => simp only [boundA] at hl; cases hl; simp [Instr.sliceBounds, bound_run hb (hf q) h3, bound_run hhi (hf z) h2]
      | some x => simp [Instr.sliceBounds, bound_run hb (hf q) h3, bound_run hhi (hf z) h2, bound_run hl (hf x) h1]

theorem blt_false {a b : Nat} (h : Nat.blt a b = false) : b ≤ a := Nat.le_of_not_lt (fun c => by rw [show Nat.blt a b = true by simpa using c] at h; cases h)
theorem ble_false {a b : Nat} (h : Nat.ble a b = false) : b < a := Nat.lt_of_not_le (fun c => by rw [show Nat.ble a b = true by simpa using c] at h; cases h)
theorem beq0 {n : Nat} (h : Nat.beq n 0 = true) : n = 0 := Nat.eq_of_beq_eq_true h

theorem zero0 {t e : TypeId} {a : Option Addr} {v : AV} {ρ : Operand → AV} {r : Rho} {f : Operand → Value} {lo hi mx : Option Operand} {l hh n len q k : Nat} {mv : Option Nat} {w : World}
    (hat : ∀ y, (Instr.sliceAt t y (lo.map f) (hi.map f) (mx.map f)).run P w = (Instr.slice t y (lo.map f) (hi.map f) (mx.map f)).run P w) (hu : P.underlying t = some (.slice e)) (hk : szOf P e = some k) (hf : ∀ x, VRel r (ρ x) (f x))
    (hl : boundA 0 ρ lo = some l) (hhi : boundA len ρ hi = some hh) (hm2 : ∀ x, mx = some x → hi.isSome ∧ ∃ m, mv = some m ∧ boundA n ρ mx = some m)
    (hs : (match (motive := Option Nat → Option AV) mv with
      | some 0 => bif Nat.beq l 0 && Nat.beq hh 0 then some .z0 else none
      | _ => none) = some v) (hm1 : mx = none → mv = none := by assumption) : ∃ z, (Instr.sliceAt t (.slice a len q) (lo.map f) (hi.map f) (mx.map f)).run P w = .ok z w ∧ VRel r v z := by
  split at hs
  · cases hb : (Nat.beq l 0 && Nat.beq hh 0) with
    | false => simp [hb] at hs
    | true =>
      rw [hb] at hs
      simp only [Bool.and_eq_true] at hb
      obtain ⟨h1, h2⟩ := hb
      have h1 := beq0 h1; have h2 := beq0 h2
      subst h1; subst h2
      simp only [cond_true] at hs; cases hs
      cases hmx : mx with
      | none => have := hm1 hmx; cases this
      | some mo =>
        obtain ⟨his, m, hmv, hbm⟩ := hm2 mo hmx
        cases hmv
        subst hmx
        have hrun := bounds_run (P := P) (r := r) (f := f) (lo := lo) (hi := hi) (mx := some mo) (m := 0) (n := _) (cap := q) hf hl hhi (fun h => by cases h) (fun x h => ⟨his, hbm⟩) (Nat.le_refl _) (Nat.le_refl _) (Nat.zero_le _) true w
        simp only [Option.map_some] at hrun
        refine ⟨.slice a 0 0, ?_, a, rfl⟩
        rw [hat]
        cases a <;> simp [Instr.slice, run_underlying hu, szOf_run hk, hrun]
  · cases hs
theorem sliceA_run {t : TypeId} {x v : AV} {y : Value} {ρ : Operand → AV} {r : Rho} {f : Operand → Value} {lo hi mx : Option Operand} {l hh n len : Nat} {mv : Option Nat} {h : Hp} {w : World} (hR : HR r h w) (hf : ∀ x, VRel r (ρ x) (f x)) (hx : VRel r x y)
    (hlen : lenA x = some len) (hl : boundA 0 ρ lo = some l) (hhi : boundA len ρ hi = some hh) (hm1 : mx = none → mv = none) (hm2 : ∀ x, mx = some x → hi.isSome ∧ ∃ m, mv = some m ∧ boundA n ρ mx = some m)
    (hs : sliceA P t x l hh mv h = some v) : ∃ z, (Instr.sliceAt t y (lo.map f) (hi.map f) (mx.map f)).run P w = .ok z w ∧ VRel r v z := by
  unfold sliceA at hs
  split at hs
  · rename_i e hu
    split at hs
    · rename_i k hk
      have hat : ∀ y, (Instr.sliceAt t y (lo.map f) (hi.map f) (mx.map f)).run P w = (Instr.slice t y (lo.map f) (hi.map f) (mx.map f)).run P w := fun y => by simp [Instr.sliceAt, run_underlying hu]
      split at hs
      · rename_i n off len' cap
        simp only [lenA] at hlen; cases hlen
        obtain ⟨p, q, hp, rfl, hk1, hk2, hk3⟩ := hx
        cases hb : (szObj h n k && Nat.ble l hh && Nat.ble hh len) with
        | false => simp [hb] at hs
        | true =>
          rw [hb] at hs
          simp only [Bool.and_eq_true, Nat.ble_eq] at hb
          obtain ⟨⟨h1, h2⟩, h3⟩ := hb
          simp only [cond_true] at hs
          have hz := szObj_z hR hp h1
          cases hmx : mx with
          | none =>
            have := hm1 hmx
            subst this
            subst hmx
            have hrun := bounds_run (P := P) (r := r) (f := f) (lo := lo) (hi := hi) (mx := none) (m := q) (n := 0) (cap := q) hf hl hhi (fun _ => rfl) (fun x h => by cases h) h2 (by omega) (Nat.le_refl _) true w
            simp only [] at hs
            have hrun' : (Instr.slice t (.slice (some ⟨p.b, p.o + off * p.z, none⟩) len q) (lo.map f) (hi.map f) ((none : Option Operand).map f)).run P w = .ok (.slice (if q = l then some ⟨p.b, p.o + off * p.z, none⟩ else some ⟨p.b, p.o + off * p.z + l * k, none⟩) (hh - l) (q - l)) w := by
              simp only [Instr.slice, Sem.run_bind, run_underlying hu, Result.andThen_ok, hrun, szOf_run hk, Sem.run_pure, Option.map_some, add_at]
            rw [hat, hrun']
            cases hc : (Nat.beq l 0 || Nat.blt l hh) with
            | true =>
              rw [hc] at hs; simp only [cond_true] at hs; cases hs
              simp only [Bool.or_eq_true, Nat.blt_eq] at hc
              refine ⟨_, rfl, p, q - l, hp, ?_, by omega, ?_, ?_⟩
              · rcases hc with hc | hc
                · have := beq0 hc; subst this; simp
                · rw [if_neg (by omega), hz, Nat.add_mul, Nat.add_assoc]
              · rw [show off + l + (q - l) = off + q by omega]; exact hk2
              · intro c hc'; simp only [Option.map_eq_some_iff] at hc'; obtain ⟨c', e1, e2⟩ := hc'; rw [hk3 c' e1]; exact e2
            | false =>
              rw [hc] at hs; simp only [cond_false] at hs; cases hs
              simp only [Bool.or_eq_false_iff] at hc
              have hge : hh ≤ l := blt_false hc.2
              have : hh - l = 0 := by omega
              rw [this]
              split
              · exact ⟨_, rfl, _, _, rfl, by simp⟩
              · exact ⟨_, rfl, _, _, rfl, by simp⟩
          | some mo =>
            obtain ⟨his, m, hmv, hbm⟩ := hm2 mo hmx
            subst hmv
            subst hmx
            simp only [] at hs
            cases hb2 : (Nat.ble hh m && Nat.ble m len) with
            | false => simp [hb2] at hs
            | true =>
              rw [hb2] at hs
              simp only [Bool.and_eq_true, Nat.ble_eq] at hb2
              obtain ⟨h4, h5⟩ := hb2
              simp only [cond_true] at hs
              have hrun := bounds_run (P := P) (r := r) (f := f) (lo := lo) (hi := hi) (mx := some mo) (m := m) (n := _) (cap := q) hf hl hhi (fun h => by cases h) (fun x h => ⟨his, hbm⟩) h2 h4 (by omega) true w
              simp only [Option.map_some] at hrun
              have hrun' : (Instr.slice t (.slice (some ⟨p.b, p.o + off * p.z, none⟩) len q) (lo.map f) (hi.map f) ((some mo).map f)).run P w = .ok (.slice (if m = l then some ⟨p.b, p.o + off * p.z, none⟩ else some ⟨p.b, p.o + off * p.z + l * k, none⟩) (hh - l) (m - l)) w := by
                simp only [Instr.slice, Sem.run_bind, run_underlying hu, Result.andThen_ok, hrun, szOf_run hk, Sem.run_pure, Option.map_some, add_at]
              rw [hat, hrun']
              cases hc : (Nat.blt l m || Nat.beq l 0) with
              | true =>
                rw [hc] at hs; simp only [cond_true] at hs; cases hs
                simp only [Bool.or_eq_true, Nat.blt_eq] at hc
                refine ⟨_, rfl, p, m - l, hp, ?_, by omega, ?_, ?_⟩
                · rcases hc with hc | hc
                  · rw [if_neg (by omega), hz, Nat.add_mul, Nat.add_assoc]
                  · have := beq0 hc; subst this; simp
                · have : off + l + (m - l) ≤ off + q := by omega
                  have := Nat.mul_le_mul_right p.z this
                  omega
                · intro c hc'; cases hc'; rfl
              | false =>
                rw [hc] at hs; simp only [cond_false] at hs; cases hs
                simp only [Bool.or_eq_false_iff] at hc
                have hge : m ≤ l := blt_false hc.1
                have e1 : hh - l = 0 := by omega
                have e2 : m - l = 0 := by omega
                rw [e1, e2]
                split
                · exact ⟨_, rfl, _, _, rfl, by simp⟩
                · exact ⟨_, rfl, _, _, rfl, by simp⟩
      · simp only [lenA] at hlen; cases hlen
        cases hx
        cases hb : (Nat.beq l 0 && Nat.beq hh 0 && Nat.beq (mv.getD 0) 0) with
        | false => simp [hb] at hs
        | true =>
          rw [hb] at hs
          simp only [Bool.and_eq_true] at hb
          obtain ⟨⟨h1, h2⟩, h3⟩ := hb
          have h1 := beq0 h1; have h2 := beq0 h2; have h3 := beq0 h3
          subst h1; subst h2
          simp only [cond_true] at hs; cases hs
          refine ⟨_, ?_, rfl⟩
          rw [hat]
          cases hmx : mx with
          | none =>
            subst hmx
            have hrun := bounds_run (P := P) (r := r) (f := f) (lo := lo) (hi := hi) (mx := none) (m := 0) (n := 0) (cap := 0) hf hl hhi (fun _ => rfl) (fun x h => by cases h) (Nat.le_refl _) (Nat.le_refl _) (Nat.le_refl _) true w
            simp only [Option.map_none] at hrun
            simp [Instr.slice, run_underlying hu, szOf_run hk, hrun]
          | some mo =>
            obtain ⟨his, m, hmv, hbm⟩ := hm2 mo hmx
            subst hmv
            subst hmx
            simp at h3; subst h3
            have hrun := bounds_run (P := P) (r := r) (f := f) (lo := lo) (hi := hi) (mx := some mo) (m := 0) (n := _) (cap := 0) hf hl hhi (fun h => by cases h) (fun x h => ⟨his, hbm⟩) (Nat.le_refl _) (Nat.le_refl _) (Nat.le_refl _) true w
            simp only [Option.map_some] at hrun
            simp [Instr.slice, run_underlying hu, szOf_run hk, hrun]
      · rename_i z
        simp only [lenA] at hlen; cases hlen
        obtain ⟨a, q, rfl, hq⟩ := hx
        cases hb : (Nat.beq l 0 && Nat.beq hh 0 && Nat.beq (mv.getD 0) 0) with
        | false => simp [hb] at hs
        | true =>
          rw [hb] at hs
          simp only [Bool.and_eq_true] at hb
          obtain ⟨⟨h1, h2⟩, h3⟩ := hb
          have h1 := beq0 h1; have h2 := beq0 h2; have h3 := beq0 h3
          subst h1; subst h2
          simp only [cond_true] at hs; cases hs
          have hz : a.add (0 * k) = a := by simp [Addr.add]
          cases hmx : mx with
          | none =>
            have := hm1 hmx
            subst this
            subst hmx
            have hrun := bounds_run (P := P) (r := r) (f := f) (lo := lo) (hi := hi) (mx := none) (m := q) (n := 0) (cap := q) hf hl hhi (fun _ => rfl) (fun x h => by cases h) (Nat.le_refl _) (Nat.zero_le _) (Nat.le_refl _) true w
            simp only [Option.map_none] at hrun
            refine ⟨.slice (some a) 0 q, ?_, a, q, rfl, by simpa using hq⟩
            rw [hat]
            simp [Instr.slice, run_underlying hu, szOf_run hk, hrun]
            simp [Addr.add]
          | some mo =>
            obtain ⟨his, m, hmv, hbm⟩ := hm2 mo hmx
            subst hmv
            subst hmx
            simp at h3; subst h3
            have hrun := bounds_run (P := P) (r := r) (f := f) (lo := lo) (hi := hi) (mx := some mo) (m := 0) (n := _) (cap := q) hf hl hhi (fun h => by cases h) (fun x h => ⟨his, hbm⟩) (Nat.le_refl _) (Nat.le_refl _) (Nat.zero_le _) true w
            simp only [Option.map_some] at hrun
            refine ⟨.slice (some a) 0 0, ?_, a, 0, rfl, by simp⟩
            rw [hat]
            simp [Instr.slice, run_underlying hu, szOf_run hk, hrun]
      · rename_i n' len'
        simp only [lenA] at hlen; cases hlen
        have hy : ∃ a q, y = .slice a len q := by
          rcases hx with ⟨_, ⟨rfl, a, e⟩ | ⟨p, q, _, e, _⟩⟩
          · exact ⟨_, _, e⟩
          · exact ⟨_, _, e⟩
        obtain ⟨a, q, rfl⟩ := hy
        exact zero0 hat hu hk hf hl hhi hm2 hs
      · rename_i g len' ks
        simp only [lenA] at hlen; cases hlen
        have hy : ∃ a q, y = .slice a len q := by
          have hx := hx.2
          unfold FzRel at hx
          rcases hx with ⟨rfl, a, q, e, _⟩ | ⟨b, o, q, C, e', fr, e, _⟩
          · exact ⟨_, _, e⟩
          · exact ⟨_, _, e⟩
        obtain ⟨a, q, rfl⟩ := hy
        exact zero0 hat hu hk hf hl hhi hm2 hs
      · simp only [lenA] at hlen; cases hlen
        obtain ⟨a, rfl⟩ := hx
        cases hb : (Nat.beq l 0 && Nat.beq hh 0 && Nat.beq (mv.getD 0) 0) with
        | false => simp [hb] at hs
        | true =>
          rw [hb] at hs
          simp only [Bool.and_eq_true] at hb
          obtain ⟨⟨h1, h2⟩, h3⟩ := hb
          have h1 := beq0 h1; have h2 := beq0 h2; have h3 := beq0 h3
          subst h1; subst h2
          simp only [cond_true] at hs; cases hs
          have hz : ∀ a : Addr, a.add (0 * k) = a := fun a => by simp [Addr.add]
          cases hmx : mx with
          | none =>
            subst hmx
            have hrun := bounds_run (P := P) (r := r) (f := f) (lo := lo) (hi := hi) (mx := none) (m := 0) (n := 0) (cap := 0) hf hl hhi (fun _ => rfl) (fun x h => by cases h) (Nat.le_refl _) (Nat.zero_le _) (Nat.le_refl _) true w
            simp only [Option.map_none] at hrun
            refine ⟨.slice a 0 0, ?_, a, rfl⟩
            rw [hat]
            cases a <;> simp [Instr.slice, run_underlying hu, szOf_run hk, hrun]
          | some mo =>
            obtain ⟨his, m, hmv, hbm⟩ := hm2 mo hmx
            subst hmv
            subst hmx
            simp at h3; subst h3
            have hrun := bounds_run (P := P) (r := r) (f := f) (lo := lo) (hi := hi) (mx := some mo) (m := 0) (n := _) (cap := 0) hf hl hhi (fun h => by cases h) (fun x h => ⟨his, hbm⟩) (Nat.le_refl _) (Nat.le_refl _) (Nat.zero_le _) true w
            simp only [Option.map_some] at hrun
            refine ⟨.slice a 0 0, ?_, a, rfl⟩
            rw [hat]
            cases a <;> simp [Instr.slice, run_underlying hu, szOf_run hk, hrun]
      · cases hs
    · cases hs
  · cases hs


theorem cell_one {ρ : Rho} {x : AV} {y : Value} (h : x.cell = true) (r : VRel ρ x y) : y.oneCell' = true := by
  cases x with
  | v z => cases r; cases y <;> simp_all [AV.cell, Value.oneCell']
  | s z => cases r; cases y <;> simp_all [AV.cell, Value.oneCell']
  | ptr => obtain ⟨p, hp, e⟩ := r; subst e; rfl
  | sl => obtain ⟨p, k, hp, e, _⟩ := r; subst e; rfl
  | none0 => obtain ⟨a, k, e, _⟩ := r; subst e; rfl
  | mp => obtain ⟨p, hp, e⟩ := r; subst e; rfl
  | fn => obtain ⟨ys, e, _⟩ := r; subst e; rfl
  | osl => rcases r with ⟨_, ⟨_, a, e⟩ | ⟨p, k, hp, e, _⟩⟩ <;> (subst e; rfl)
  | fz => have r := r.2; unfold FzRel at r; rcases r with ⟨_, a, k, e, _⟩ | ⟨b, o, k, C, e', fr, e, _⟩ <;> (subst e; rfl)
  | fzp => obtain ⟨_, b, o, _, _, e⟩ := r; subst e; rfl
  | z0 => obtain ⟨a, e⟩ := r; subst e; rfl
  | agg => simp [AV.cell] at h
  | tup => simp [AV.cell] at h
  | yld => obtain ⟨p, hp, e⟩ := r; subst e; rfl
theorem cells_one {ρ : Rho} : ∀ {xs : List AV} {ys : List Value}, xs.all AV.cell = true → VRels ρ xs ys → ∀ y ∈ ys, y.oneCell' = true
  | [], _, _, e => by simp only [VRels] at e; subst e; simp
  | x :: xs, _, h, ⟨y, r, e, hx, hr⟩ => by
    subst e
    simp only [List.all_cons, Bool.and_eq_true] at h
    intro z hz
    rcases List.mem_cons.1 hz with rfl | hz
    · exact cell_one h.1 hx
    · exact cells_one h.2 hr z hz

theorem splice_len {cs ys : List AV} {p : Nat} (h : p + ys.length ≤ cs.length) : (splice cs p ys).length = cs.length := by
  simp [splice]; omega
/-- A stretch laid into a list, on both sides. -/
theorem splice_get {ρ : Rho} {cs ys : List AV} {C Y : List Value} {o p : Nat} (hl : p + ys.length ≤ cs.length) (hy : VRels ρ ys Y) (hc : ∀ (j : Nat) x, cs[j]? = some x → ∃ y, C[o + j]? = some y ∧ VRel ρ x y) (hC : o + cs.length ≤ C.length) :
    ∀ (j : Nat) x, (splice cs p ys)[j]? = some x → ∃ y, (C.take (o + p) ++ Y ++ C.drop (o + p + Y.length))[o + j]? = some y ∧ VRel ρ x y := by
  intro j x hj
  have hYl := hy.length
  unfold splice at hj
  by_cases c1 : j < p
  · rw [List.append_assoc, List.getElem?_append_left (by simp; omega), List.getElem?_take_of_lt c1] at hj
    obtain ⟨y, h1, h2⟩ := hc j x hj
    exact ⟨y, by rw [List.append_assoc, List.getElem?_append_left (by simp; omega), List.getElem?_take_of_lt (by omega)]; exact h1, h2⟩
  · by_cases c2 : j < p + ys.length
    · rw [List.append_assoc, List.getElem?_append_right (by simp; omega), List.getElem?_append_left (by simp; omega)] at hj
      simp only [List.length_take, Nat.min_eq_left (show p ≤ cs.length by omega)] at hj
      obtain ⟨y, h1, h2⟩ := hy.get hj
      refine ⟨y, ?_, h2⟩
      rw [List.append_assoc, List.getElem?_append_right (by simp; omega), List.getElem?_append_left (by simp; omega)]
      simp only [List.length_take, Nat.min_eq_left (show o + p ≤ C.length by omega)]
      rw [show o + j - (o + p) = j - p by omega]
      exact h1
    · rw [List.getElem?_append_right (by simp; omega), List.getElem?_drop] at hj
      simp only [List.length_append, List.length_take, Nat.min_eq_left (show p ≤ cs.length by omega)] at hj
      obtain ⟨y, h1, h2⟩ := hc _ x hj
      refine ⟨y, ?_, h2⟩
      rw [List.getElem?_append_right (by simp; omega), List.getElem?_drop]
      simp only [List.length_append, List.length_take, Nat.min_eq_left (show o + p ≤ C.length by omega)]
      rw [← h1]
      congr 1
      omega

theorem storeA_run {t : TypeId} {x v : AV} {y u : Value} {ρ : Rho} {h h' : Hp} {w : World} (hh : HR ρ h w) (hx : VRel ρ x y) (hv : VRel ρ v u) (hs : storeA P t x v h = some h') :
    ∃ w' L, (Instr.storeAt t y u).run P w = .ok () w' ∧ HR ρ h' w' ∧ Stepped ρ h.nx L w ρ h'.nx w' ∧ h'.lg = L ++ h.lg := by
  unfold storeA at hs
  cases x <;> simp only [] at hs <;> try cases hs
  rename_i n i c
  obtain ⟨p, hp, rfl⟩ := hx
  split at hs
  · rename_i cs sz fam tip sh k ho hk
    obtain ⟨p', hp', hz, hle, C, e, hb, hC, hcell⟩ := hh.obj n _ ho (hh.dm _ _ hp)
    rw [hp] at hp'; cases hp'
    cases hcond : (Nat.beq v.cells.length k && Nat.ble (i * sz + c + k) cs.length && v.cells.all AV.cell) with
    | false => simp [hcond] at hs
    | true =>
      simp only [hcond, cond_true, Option.some.injEq] at hs
      simp only [Bool.and_eq_true, Nat.ble_eq] at hcond
      obtain ⟨⟨h1, h2⟩, h3⟩ := hcond
      have h1 : v.cells.length = k := Nat.eq_of_beq_eq_true h1
      have hc := cells_rel hv
      have hcl := hc.length
      have hY : u.cells.size = k := by rw [← h1, ← hcl]; simp
      have hrow := run_storeCells_at P p.b (p.o + (i * sz + c)) e u.cells.toList 0 C w hb (by simp; omega) (cells_one h3 hc)
      simp only [Nat.add_zero] at hrow
      generalize hC' : (C.toList.take (p.o + (i * sz + c)) ++ u.cells.toList ++ C.toList.drop (p.o + (i * sz + c) + u.cells.toList.length)).toArray = C' at hrow
      have hsz : C'.size = C.size := by subst hC'; simp; omega
      have hst := hh.store (gk := (bif sh then h.kill fam else h).ob.get) (C := C) (C' := C') (cs' := splice cs (i * sz + c) v.cells) ho hp hb (splice_len (ys := v.cells) (by omega)) hsz (by
        have := splice_get (C := C.toList) (o := p.o) (p := i * sz + c) (show i * sz + c + v.cells.length ≤ cs.length by omega) hc (fun j x hj => by obtain ⟨y, hy, hr⟩ := hcell j x hj; exact ⟨y, by simpa using hy, hr⟩) (by simp; omega)
        intro j x hj
        obtain ⟨y, hy, hr⟩ := this j x hj
        exact ⟨y, by rw [← hC']; simpa [Nat.add_assoc] using hy, hr⟩) (fun k => by
        cases sh with
        | true => simp only [cond_true, Hp.kill, T.get_map]
        | false => rfl)
      subst hs
      refine ⟨w.setRow p.b C', [n], ?_, ?_, ?_, ?_⟩
      · simp [Instr.storeAt, Instr.sureAddr, storeVar, szOf_run hk, hY, hz, hrow]
      · unfold HR Hp.log Hp.put
        simp only [T.get_put]
        have : (bif sh then h.kill fam else h).nx = h.nx := by cases sh <;> rfl
        simp only [this]
        exact hst
      · have : ((((bif sh then h.kill fam else h).put n (.cells (splice cs (i * sz + c) v.cells) sz fam tip sh)).log n)).nx = h.nx := by cases sh <;> rfl
        simp only [this]
        exact ⟨Nat.le_refl _, fun _ _ => rfl, fun k q hk e => absurd (hh.dm k q e) (by omega), by simp, rfl, rfl, rfl, fun b hb' hne => setRow_other w p.b b C' (fun e => hne n p (by simp) (hh.dm _ _ hp) hp e.symm)⟩
      · cases sh <;> rfl
  · cases hs


theorem lenA_rel {x : AV} {m : Nat} {y : Value} {ρ : Rho} (h : lenA x = some m) (r : VRel ρ x y) : ∃ b k, y = .slice b m k ∧ m ≤ k := by
  unfold lenA at h
  split at h
  · cases h; cases r; exact ⟨none, 0, rfl, Nat.le_refl _⟩
  · cases h; obtain ⟨a, k, e, _⟩ := r; exact ⟨some a, k, e, Nat.zero_le _⟩
  · cases h; obtain ⟨p, k, hp, e, hk, _⟩ := r; exact ⟨_, k, e, hk⟩
  · cases h
    rcases r with ⟨_, ⟨rfl, a, e⟩ | ⟨p, k, _, e, hk, _⟩⟩
    · exact ⟨a, 0, e, Nat.le_refl _⟩
    · exact ⟨_, k, e, hk⟩
  · cases h
    have r := r.2
    unfold FzRel at r
    rcases r with ⟨rfl, a, k, e, _⟩ | ⟨b, o, k, C, e', fr, e, hk, _⟩
    · exact ⟨a, k, e, Nat.zero_le _⟩
    · exact ⟨_, k, e, hk⟩
  · cases h; obtain ⟨a, e⟩ := r; exact ⟨a, 0, e, Nat.le_refl _⟩
  · cases h
theorem rowA_run {x : AV} {y : Value} {m sz : Nat} {cs : List AV} {ρ : Rho} {h : Hp} {w : World} (hh : HR ρ h w) (hr : rowA h sz x = some cs) (hm : lenA x = some m) (r : VRel ρ x y) :
    ∃ ys, VRels ρ cs ys ∧ ys.length = m * sz ∧ ∀ w', w'.heap = w.heap → (Builtin.firstCells sz m y).run P w' = .ok ys.toArray w' := by
  unfold rowA at hr
  split at hr
  · cases hr; cases r; simp only [lenA] at hm; cases hm; exact ⟨[], rfl, by simp, fun _ _ => rfl⟩
  · cases hr; simp only [lenA] at hm; cases hm
    obtain ⟨a, k, rfl, _⟩ := r
    refine ⟨[], rfl, by simp, fun w' _ => ?_⟩
    simp [Builtin.firstCells, loadCells, loadCellsFrom]
  · rename_i n off len cap
    simp only [lenA] at hm; cases hm
    split at hr
    · rename_i C sz' f t s ho
      obtain ⟨p, k, hp, rfl, hk⟩ := r
      obtain ⟨p', hp', hz, hle, D, e, hb, hD, hcell⟩ := hh.obj n _ ho (hh.dm _ _ hp)
      rw [hp] at hp'; cases hp'
      cases hs : Nat.beq sz sz' with
      | false => simp [hs] at hr
      | true =>
        simp only [hs, cond_true] at hr
        have := Nat.eq_of_beq_eq_true hs
        subst this
        obtain ⟨ys, h1, h2, h3⟩ := VRels.pick D.toList cs (p.o + off * sz) (fun j x hj => by
          obtain ⟨y, hy, hr⟩ := hcell _ _ (window_get hr hj)
          exact ⟨y, by rw [Nat.add_assoc]; simpa using hy, hr⟩)
        have hlen : ys.length = m * sz := by rw [h2, window_len hr]
        refine ⟨ys, h1, hlen, fun w' hw' => ?_⟩
        have hrun := run_loadCells_list (P := P) w' ⟨p.b, p.o + off * sz, none⟩ ys (fun j y hj => by
          rw [add_at]; exact cell_at (by rw [hw']; exact hb) (by have := h3 j y hj; simpa using this))
        rw [hlen] at hrun
        simp only [Builtin.firstCells, hz]; exact hrun
    · cases hr
  · cases hr

def noInt (P : Program) (ts : Array TypeId) : Prop := match ts[1]? with
  | none => True
  | some x => ∃ d, P.underlying x = some d ∧ ∀ k, d ≠ .int k
set_option maxHeartbeats 2000000 in
theorem append_fit {st e ty : TypeId} {ts : Array TypeId} {inf : TypeInfo} {base : Option Addr} {sLen sCap n k xl : Nat} {xb : Option Addr} {new : Array Value} {w : World} (hts : ts[0]? = some st) (hu : P.underlying st = some (.slice e)) (hi : P.info? e = some inf) (hz : noInt P ts)
    (hx : (Builtin.firstCells inf.size n (.slice xb n xl)).run P w = .ok new w) (hfit : sLen + n ≤ sCap) (hk : k = inf.size) :
    (Builtin.append_ ts ty #[.slice base sLen sCap, .slice xb n xl]).run P w = ((match base with | some a => storeCells (a.add (sLen * k)) new.toList | none => pure ()).run P w).andThen fun _ w' => .ok (.slice base (sLen + n) sCap) w' := by
  subst hk
  have hs : ∀ w, (sizeOf e).run P w = .ok inf.size w := fun w => by simp [sizeOf, typeInfo, hi]
  unfold noInt at hz
  unfold Builtin.append_
  cases h1 : ts[1]? with
  | none =>
    simp [hts, run_underlying hu, hs, Builtin.lenOf, hfit, hx]
    cases base <;> simp
  | some x =>
    simp only [h1] at hz
    obtain ⟨d, hd, hn⟩ := hz
    cases d <;> first
      | exact absurd rfl (hn _)
      | (simp [hts, run_underlying hu, run_underlying hd, hs, Builtin.lenOf, hfit, hx]; cases base <;> simp)

theorem growBy_le (m b : Nat) : ∀ (r c : Nat), 256 ≤ c → c ≤ b → Builtin.growBy m r c ≤ 2 ^ r * b
  | 0, c, _, h => by simpa [Builtin.growBy] using h
  | r + 1, c, h0, h => by
    simp only [Builtin.growBy]
    split
    · have : 1 ≤ 2 ^ (r + 1) := Nat.one_le_two_pow
      calc c ≤ 1 * b := by omega
        _ ≤ _ := Nat.mul_le_mul_right _ this
    · have h2 : c + (c + 768) / 4 ≤ 2 * b := by omega
      have := growBy_le m (2 * b) r (c + (c + 768) / 4) (by omega) h2
      calc _ ≤ 2 ^ r * (2 * b) := this
        _ = _ := by rw [Nat.pow_succ, Nat.mul_assoc]
theorem nextcap_le {need c : Nat} (h : c < need) : Builtin.nextslicecap need c ≤ 16 * need := by
  unfold Builtin.nextslicecap
  split
  · omega
  · split
    · omega
    · have := growBy_le need need 4 c (by omega) (by omega)
      omega

set_option maxHeartbeats 2000000 in
theorem append_grow {st e ty : TypeId} {ts : Array TypeId} {inf : TypeInfo} {base : Option Addr} {sLen sCap n xl : Nat} {xb : Option Addr} {old new : Array Value} {z : Value} {w : World} (hts : ts[0]? = some st) (hu : P.underlying st = some (.slice e)) (hi : P.info? e = some inf) (hz : noInt P ts)
    (hx : ∀ w', w'.heap = w.heap → (Builtin.firstCells inf.size n (.slice xb n xl)).run P w' = .ok new w') (hs : ∀ w', w'.heap = w.heap → (Builtin.firstCells inf.size sLen (.slice base sLen sCap)).run P w' = .ok old w') (hzero : ∀ w', (zeroValue e).run P w' = .ok z w')
    (hgt : sCap < sLen + n) (hb1 : sLen + n ≤ 1073741824) (hb2 : inf.bytes * (sLen + n) ≤ 1073741824) :
    ∃ c, sLen + n ≤ c ∧ (Builtin.append_ ts ty #[.slice base sLen sCap, .slice xb n xl]).run P w = .ok (.slice (some ⟨w.heap.size, 0, none⟩) (sLen + n) c) (w.drew.alloc (.cells (old ++ new ++ Builtin.zeroCells z.cells (c - (sLen + n))) e (0, 0))) := by
  have hsz : ∀ w, (sizeOf e).run P w = .ok inf.size w := fun w => by simp [sizeOf, typeInfo, hi]
  have hti : ∀ w, (typeInfo e).run P w = .ok inf w := fun w => by simp [typeInfo, hi]
  have hcap := nextcap_le hgt
  have hbig : ¬ Builtin.nextslicecap (sLen + n) sCap * inf.bytes > 2 ^ 48 := by
    have h1 := Nat.mul_le_mul_right inf.bytes hcap
    have h2 : 16 * (sLen + n) * inf.bytes = 16 * (inf.bytes * (sLen + n)) := by rw [Nat.mul_assoc, Nat.mul_comm (sLen + n)]
    omega
  have hmax : ¬ (((sLen : Int) + (n : Int)) > IntKind.i64.max) := by
    have : IntKind.i64.max = 9223372036854775807 := by decide
    rw [this]; omega
  have hmax' : ¬ ((9223372036854775807 : Int) < (sLen : Int) + (n : Int)) := by omega
  have hng : ¬ (sLen + n ≤ sCap) := by omega
  refine ⟨(Question.appendCap (sLen + n) sCap e).cut (w.tape w.drawn (.appendCap (sLen + n) sCap e)), by simp [Question.cut], ?_⟩
  unfold noInt at hz
  unfold Builtin.append_
  have hx' := hx w.drew rfl
  have hs' := hs w.drew rfl
  have hz' := hzero w.drew
  cases h1 : ts[1]? with
  | none =>
    simp [hts, run_underlying hu, hsz, Builtin.lenOf, hng, hti, hmax', hbig, Question.forced, hx', hs', hz', newRow]
  | some x =>
    simp only [h1] at hz
    obtain ⟨d, hd, hn⟩ := hz
    cases d <;> first
      | exact absurd rfl (hn _)
      | simp [hts, run_underlying hu, run_underlying hd, hsz, Builtin.lenOf, hng, hti, hmax', hbig, Question.forced, hx', hs', hz', newRow]

end Ev
end Go.Proofs.YtffcaapbmkaceaaDoor
