/- Operations on lists whose length is not known. No condition. -/
import Derived.Test.YtengccmjlaejfaaMg4
namespace Go.Proofs.Ytengccmjlaejfaa
namespace Ev
open Go.RowKit
set_option linter.unusedSectionVars false
variable [Fz]
variable {P : Program}

omit [Fz] in
theorem blt_no {i m : Nat} (h : ¬ i < m) : Nat.blt i m = false := by
  cases hb : Nat.blt i m with
  | false => rfl
  | true => simp at hb; omega
omit [Fz] in
theorem ksEq_eq : ∀ {a b : List TK}, ksEq a b = true → a = b
  | [], [], _ => rfl
  | [], _ :: _, h => by cases h
  | _ :: _, [], h => by cases h
  | a :: r, b :: s, h => by
    simp only [ksEq, Bool.and_eq_true] at h
    rw [ksEq_eq h.2]
    congr 1
    have := h.1
    cases a <;> cases b <;> simp_all [TK.beq]
omit [Fz] in
theorem fitsD_get : ∀ {ks : List TK} {ds : List D}, fitsD ks ds = true → ds.length = ks.length ∧ ∀ (c : Nat) (d : D), ds[c]? = some d → ∃ tk, ks[c]? = some tk ∧ tk.fit d = true
  | [], [], _ => ⟨rfl, fun c d h => by simp at h⟩
  | [], _ :: _, h => by cases h
  | _ :: _, [], h => by cases h
  | k :: ks, d :: ds, h => by
    simp only [fitsD, Bool.and_eq_true] at h
    obtain ⟨h1, h2⟩ := fitsD_get h.2
    refine ⟨by simp [h1], fun c e he => ?_⟩
    cases c with
    | zero => simp at he; subst he; exact ⟨k, rfl, h.1⟩
    | succ c => simp at he ⊢; exact h2 c e he
theorem fit_one {tk : TK} {d : D} {z : Value} (h : tk.fit d = true) (r : FzRel d z) : z.oneCell' = true := by
  cases d with
  | v x => cases r; cases tk <;> cases z <;> simp_all [TK.fit, Value.oneCell']
  | l f len ks =>
    unfold FzRel at r
    rcases r with ⟨_, a, k, e, _⟩ | ⟨b, o, k, C, e', fr, e, _⟩ <;> (subst e; rfl)
theorem d_rel {ρ : Rho} {x : AV} {d : D} {z : Value} (h : x.d = some d) (r : VRel ρ x z) : FzRel d z := by
  cases x <;> simp only [AV.d] at h <;> cases h <;> first | exact r | exact r.2
theorem avDs_rel {ρ : Rho} : ∀ {xs : List AV} {ds : List D} {ys : List Value}, avDs xs = some ds → VRels ρ xs ys → ds.length = ys.length ∧ ∀ (j : Nat) (d : D) (y : Value), ds[j]? = some d → ys[j]? = some y → FzRel d y
  | [], _, _, h, r => by simp only [avDs] at h; cases h; simp only [VRels] at r; subst r; exact ⟨rfl, fun j d y h => by simp at h⟩
  | x :: xs, ds, _, h, ⟨y, r, e, hx, hr⟩ => by
    subst e
    simp only [avDs] at h
    split at h
    · rename_i a b ha hb
      cases h
      obtain ⟨h1, h2⟩ := avDs_rel hb hr
      refine ⟨by simp [h1], fun j d y' hd hy => ?_⟩
      cases j with
      | zero => simp at hd hy; subst hd; subst hy; exact d_rel ha hx
      | succ j => simp at hd hy; exact h2 j d y' hd hy
    · cases h

/-- m elements, read one behind the other. -/
structure Rd (f : Nat → Nat → D) (m : Nat) (ks : List TK) (ys : List Value) : Prop where
  len : ys.length = m * ks.length
  get : ∀ i c, i < m → c < ks.length → (∃ tk, ks[c]? = some tk ∧ tk.fit (f i c) = true) ∧ ∃ z, ys[i * ks.length + c]? = some z ∧ FzRel (f i c) z
omit [Fz] in
theorem idx_lt {i c m k : Nat} (hi : i < m) (hc : c < k) : i * k + c < m * k := by
  have := Nat.mul_le_mul_right k (show i + 1 ≤ m by omega)
  rw [Nat.add_mul] at this; omega
omit [Fz] in
theorem idx_of {j m k : Nat} (h : j < m * k) : ∃ i c, i < m ∧ c < k ∧ j = i * k + c := by
  have hk : 0 < k := Nat.pos_of_ne_zero fun e => by subst e; simp at h
  refine ⟨j / k, j % k, ?_, Nat.mod_lt _ hk, ?_⟩
  · exact Nat.div_lt_of_lt_mul (by rw [Nat.mul_comm]; exact h)
  · have := Nat.div_add_mod j k; rw [Nat.mul_comm] at this; omega
theorem Rd.nil (f : Nat → Nat → D) (ks : List TK) : Rd f 0 ks [] := ⟨by simp, fun i c hi => by omega⟩
theorem Rd.app {f g : Nat → Nat → D} {m m' : Nat} {ks : List TK} {ys ys' : List Value} (h : Rd f m ks ys) (h' : Rd g m' ks ys') : Rd (catD f m g) (m + m') ks (ys ++ ys') := by
  refine ⟨by rw [List.length_append, h.len, h'.len, Nat.add_mul], fun i c hi hc => ?_⟩
  unfold catD
  by_cases ci : i < m
  · have : Nat.blt i m = true := by simpa using ci
    rw [this]
    obtain ⟨h1, z, h2, h3⟩ := h.get i c ci hc
    exact ⟨h1, z, by rw [List.getElem?_append_left (by rw [h.len]; exact idx_lt ci hc)]; exact h2, h3⟩
  · have : Nat.blt i m = false := blt_no ci
    rw [this]
    obtain ⟨h1, z, h2, h3⟩ := h'.get (i - m) c (by omega) hc
    refine ⟨h1, z, ?_, h3⟩
    have e : i * ks.length + c - m * ks.length = (i - m) * ks.length + c := by
      have := Nat.mul_le_mul_right ks.length (show m ≤ i by omega)
      rw [Nat.sub_mul]; omega
    rw [List.getElem?_append_right (by rw [h.len]; have := Nat.mul_le_mul_right ks.length (show m ≤ i by omega); omega), h.len, e]
    exact h2
theorem Rd.one {f : Nat → Nat → D} {m : Nat} {ks : List TK} {ys : List Value} (h : Rd f m ks ys) : ∀ y ∈ ys, y.oneCell' = true := by
  intro y hy
  obtain ⟨j, hj⟩ := List.getElem?_of_mem hy
  have hlt := (List.getElem?_eq_some_iff.1 hj).1
  rw [h.len] at hlt
  obtain ⟨i, c, h1, h2, rfl⟩ := idx_of hlt
  obtain ⟨⟨tk, _, h3⟩, z, h4, h5⟩ := h.get i c h1 h2
  rw [hj] at h4; cases h4
  exact fit_one h3 h5
/-- What is read of a block. -/
theorem Rd.block {f : Nat → Nat → D} {m : Nat} {ks : List TK} {C : Array Value} {o : Nat} (hs : o + m * ks.length ≤ C.size) (hc : ∀ i c, i < m → c < ks.length → (∃ tk, ks[c]? = some tk ∧ tk.fit (f i c) = true) ∧ ∃ z, C[o + (i * ks.length + c)]? = some z ∧ FzRel (f i c) z) :
    Rd f m ks ((C.toList.drop o).take (m * ks.length)) := by
  refine ⟨by simp; omega, fun i c hi hcc => ?_⟩
  obtain ⟨h1, z, h2, h3⟩ := hc i c hi hcc
  refine ⟨h1, z, ?_, h3⟩
  rw [List.getElem?_take_of_lt (idx_lt hi hcc), List.getElem?_drop]
  simpa using h2
theorem block_run {b o n : Nat} {C : Array Value} {e : TypeId} {fr : Nat × Nat} {w : World} (hb : w.heap[b]? = some (.cells C e fr)) (hs : o + n ≤ C.size) : (loadCells ⟨b, o, none⟩ n).run P w = .ok ((C.toList.drop o).take n).toArray w := by
  have hrun := run_loadCells_list (P := P) w ⟨b, o, none⟩ ((C.toList.drop o).take n) (fun j y hj => by
    rw [add_at]
    have hjn : j < n := by have := (List.getElem?_eq_some_iff.1 hj).1; simp at this; omega
    rw [List.getElem?_take_of_lt hjn, List.getElem?_drop] at hj
    exact cell_atf hb (by simpa using hj))
  have hl : ((C.toList.drop o).take n).length = n := by simp; omega
  rw [hl] at hrun
  exact hrun

/-- A list that is read. -/
def ListOk (P : Program) (f : Nat → Nat → D) (m : Nat) (ks : List TK) (y : Value) (w : World) : Prop :=
  ∃ xb xl ys, y = .slice xb m xl ∧ m ≤ xl ∧ Rd f m ks ys ∧ ∀ w', w'.heap = w.heap → (Builtin.firstCells ks.length m y).run P w' = .ok ys.toArray w'
theorem listOk_nil (f : Nat → Nat → D) (ks : List TK) (a : Option Addr) (k : Nat) (w : World) : ListOk P f 0 ks (.slice a 0 k) w := by
  refine ⟨a, k, [], rfl, Nat.zero_le _, .nil f ks, fun w' _ => ?_⟩
  cases a <;> simp [Builtin.firstCells, loadCells, loadCellsFrom]
theorem fz_listOk {f : Nat → Nat → D} {len : Nat} {ks : List TK} {y : Value} (h : FzRel (.l f len ks) y) {w : World} (hw : ∀ b o, Fz.m b = some o → w.heap[b]? = some o) : ListOk P f len ks y w := by
  unfold FzRel at h
  rcases h with ⟨rfl, a, k, rfl, _⟩ | ⟨b, o, k, C, e, fr, rfl, hk, hb, ⟨h1, h2⟩, hc⟩
  · exact listOk_nil f ks a k w
  · exact ⟨_, k, _, rfl, hk, .block h1 hc, fun w' hw' => block_run (by rw [hw']; exact hw _ _ hb) h1⟩
theorem osl_listOk {n len len' : Nat} {f : Nat → Nat → D} {ks : List TK} {y : Value} {ρ : Rho} {h : Hp} {w : World} (hh : HR ρ h w) (ho : h.ob.get n = some (.rows f len' ks)) (hl : len ≤ len') (hx : VRel ρ (.osl n len) y) : ListOk P f len ks y w := by
  rcases hx with ⟨_, ⟨rfl, a, rfl⟩ | ⟨p, k, hp, rfl, hk, hs⟩⟩
  · exact listOk_nil f ks a 0 w
  · obtain ⟨hz, ⟨_, h1, h2⟩, C, e, hb, hC, hc⟩ := hh.objP hp ho
    have hm : len * ks.length ≤ len' * ks.length := Nat.mul_le_mul_right _ hl
    exact ⟨_, k, _, rfl, hk, .block (by omega) (fun i c hi => hc i c (by omega)), fun w' hw' => block_run (by rw [hw']; exact hb) (by omega)⟩
omit [Fz] in
theorem fitsRows_get {ks : List TK} : ∀ {n : Nat} {ds : List D}, fitsRows ks n ds = true → ds.length = n * ks.length ∧ ∀ i c, i < n → c < ks.length → ∃ tk d, ks[c]? = some tk ∧ ds[i * ks.length + c]? = some d ∧ tk.fit d = true
  | 0, ds, h => by simp only [fitsRows, List.isEmpty_iff] at h; subst h; exact ⟨by simp, fun i c hi => by omega⟩
  | n + 1, ds, h => by
    simp only [fitsRows, Bool.and_eq_true] at h
    obtain ⟨a1, a2⟩ := fitsD_get h.1
    obtain ⟨b1, b2⟩ := fitsRows_get h.2
    simp only [List.length_take] at a1
    simp only [List.length_drop] at b1
    refine ⟨by rw [Nat.add_mul]; omega, fun i c hi hc => ?_⟩
    cases i with
    | zero =>
      have hlt : c < ds.length := by omega
      obtain ⟨tk, h1, h2⟩ := a2 c ds[c] (by rw [List.getElem?_take_of_lt hc]; simp)
      exact ⟨tk, ds[c], h1, by simp [hlt], h2⟩
    | succ i =>
      obtain ⟨tk, d, h1, h2, h3⟩ := b2 i c (by omega) hc
      refine ⟨tk, d, h1, ?_, h3⟩
      rw [List.getElem?_drop] at h2
      rw [show (i + 1) * ks.length + c = ks.length + (i * ks.length + c) by rw [Nat.add_mul]; omega]
      exact h2
theorem srcD_run {ks : List TK} {x : AV} {y : Value} {f : Nat → Nat → D} {m : Nat} {ρ : Rho} {h : Hp} {w : World} (hh : HR ρ h w) (hx : VRel ρ x y) (hs : srcD h ks x = some (true, f, m)) : ListOk P f m ks y w := by
  unfold srcD at hs
  split at hs
  · rename_i g len ks'
    cases hk : ksEq ks ks' with
    | false => rw [hk] at hs; cases hs
    | true =>
      rw [hk] at hs
      cases hs
      rw [ksEq_eq hk]
      exact fz_listOk hx.2 hh.fz
  · rename_i n len
    split at hs
    · rename_i g len' ks' ho
      cases hk : ksEq ks ks' with
      | false => rw [hk] at hs; cases hs
      | true =>
        rw [hk] at hs
        simp only [cond_true, Option.some.injEq, Prod.mk.injEq] at hs
        obtain ⟨hle, rfl, rfl⟩ := hs
        rw [ksEq_eq hk]
        exact osl_listOk hh ho (by simpa using hle) hx
    · cases hs
  · rename_i n off len cap
    split at hs
    · rename_i cs hcs
      split at hs
      · rename_i ds hds
        cases hf : fitsRows ks len ds with
        | false => rw [hf] at hs; cases hs
        | true =>
          rw [hf] at hs
          cases hs
          obtain ⟨ys, h1, h2, h3⟩ := rowA_run (P := P) hh hcs rfl hx
          obtain ⟨b, k, rfl, hk⟩ := lenA_rel (x := .sl n off m cap) rfl hx
          obtain ⟨a1, a2⟩ := avDs_rel hds h1
          obtain ⟨f1, f2⟩ := fitsRows_get hf
          refine ⟨b, k, ys, rfl, hk, ⟨h2, fun i c hi hc => ?_⟩, h3⟩
          obtain ⟨tk, d, g1, g2, g3⟩ := f2 i c hi hc
          have hlt := (List.getElem?_eq_some_iff.1 g2).1
          have e : listD ds ks.length i c = d := by unfold listD; simp [List.getD_eq_getElem?_getD, g2]
          rw [e]
          obtain ⟨z, hz⟩ : ∃ z, ys[i * ks.length + c]? = some z := ⟨ys[i * ks.length + c]'(by omega), by simp⟩
          exact ⟨⟨tk, g1, g3⟩, z, hz, a2 _ d z g2 hz⟩
      · cases hs
    · cases hs
  · cases hs

/-- An object is struck. -/
theorem HRel.rm {ρ : Rho} {g : Nat → Option AO} {nx : Nat} {w : World} (h : HRel ρ g nx w) (n : Nat) {g' : Nat → Option AO} (hg : ∀ k, g' k = if k = n then none else g k) : HRel ρ g' nx w := by
  have key : ∀ k o, g' k = some o → g k = some o := fun k o e => by
    rw [hg] at e
    split at e
    · cases e
    · exact e
  exact ⟨h.dom, fun k o e => h.obj0 k o (key k o e), fun a b p q o o' hab e1 e2 hb e3 e4 => h.sep a b p q o o' hab e1 e2 hb (key _ _ e3) (key _ _ e4), fun a b p q o o' e1 e2 hb e3 e4 => h.tip a b p q o o' e1 e2 hb (key _ _ e3) (key _ _ e4), fun a b p q o o' hab e1 e2 hb e3 e4 => h.one a b p q o o' hab e1 e2 hb (key _ _ e3) (key _ _ e4), h.fz, h.nf, h.op⟩
/-- An object that nobody shares has another name. -/
theorem HRel.move {ρ : Rho} {g : Nat → Option AO} {nx : Nat} {w : World} (h : HRel ρ g nx w) {n : Nat} {p : Pl} {o : AO} (hp : ρ n = some p) (ho : g n = some o) (hs : o.sh = false) (ht : o.tp = false) {g' : Nat → Option AO} (hg : ∀ k, g' k = if k = n then none else g k) :
    HRel (upd ρ nx p) (upd g' nx o) (nx + 1) w := by
  have hn := (h.dom n p hp).1
  have hsub : Sub ρ (upd ρ nx p) := fun k q e => by have := (h.dom k q e).1; rw [upd_ne _ _ (by omega)]; exact e
  have key : ∀ k o, g' k = some o → g k = some o ∧ k ≠ n := fun k o e => by
    rw [hg] at e
    split at e
    · cases e
    · rename_i c; exact ⟨e, c⟩
  have apart : ∀ k q o2, k ≠ nx → upd ρ nx p k = some q → g' k = some o2 → q.b ≠ p.b := fun k q o2 hk hq hg2 hb => by
    rw [upd_ne _ _ hk] at hq
    obtain ⟨x1, x2⟩ := key k o2 hg2
    have := h.sep n k p q o o2 (Ne.symm x2) hp hq hb.symm ho x1
    rw [hs] at this; exact absurd this.2.1 (by simp)
  refine ⟨fun k q e => ?_, fun k o2 e hk => ?_, fun a b q r o1 o2 hab e1 e2 hb e3 e4 => ?_, fun a b q r o1 o2 e1 e2 hb e3 e4 htp => ?_, fun a b q r o1 o2 hab e1 e2 hb e3 e4 htp => ?_, h.fz, fun k q e => ?_, fun e => Nat.le_succ_of_le (h.op e)⟩
  · by_cases c : k = nx
    · subst c; rw [upd_same] at e; cases e; exact ⟨Nat.lt_succ_self _, (h.dom n p hp).2⟩
    · rw [upd_ne _ _ c] at e; have := h.dom k q e; exact ⟨by omega, this.2⟩
  · by_cases c : k = nx
    · subst c; rw [upd_same] at e; cases e; exact .inl ⟨p, upd_same _ _ _, (h.objP hp ho).mono hsub⟩
    · rw [upd_ne _ _ c] at e
      rcases h.obj0 k o2 (key k o2 e).1 (by omega) with ⟨q, x1, x2⟩ | ⟨x1, x2⟩
      · exact .inl ⟨q, hsub _ _ x1, x2.mono hsub⟩
      · exact .inr ⟨by rw [upd_ne _ _ c]; exact x1, x2⟩
  · by_cases c : a = nx
    · subst c; rw [upd_same] at e1; cases e1
      rw [upd_ne _ _ (Ne.symm hab)] at e4
      exact absurd hb.symm (apart b r o2 (Ne.symm hab) e2 e4)
    · by_cases c' : b = nx
      · subst c'; rw [upd_same] at e2; cases e2
        rw [upd_ne _ _ c] at e3
        exact absurd hb (apart a q o1 c e1 e3)
      · rw [upd_ne _ _ c] at e1 e3; rw [upd_ne _ _ c'] at e2 e4; exact h.sep a b q r o1 o2 hab e1 e2 hb (key _ _ e3).1 (key _ _ e4).1
  · by_cases c : a = nx
    · subst c; rw [upd_same] at e3; cases e3; rw [ht] at htp; cases htp
    · by_cases c' : b = nx
      · subst c'; rw [upd_same] at e2; cases e2
        rw [upd_ne _ _ c] at e3
        exact absurd hb (apart a q o1 c e1 e3)
      · rw [upd_ne _ _ c] at e1 e3; rw [upd_ne _ _ c'] at e2 e4; exact h.tip a b q r o1 o2 e1 e2 hb (key _ _ e3).1 (key _ _ e4).1 htp
  · by_cases c : a = nx
    · subst c; rw [upd_same] at e3; cases e3; rw [ht] at htp; cases htp
    · by_cases c' : b = nx
      · subst c'; rw [upd_same] at e4; cases e4; exact ht
      · rw [upd_ne _ _ c] at e1 e3; rw [upd_ne _ _ c'] at e2 e4; exact h.one a b q r o1 o2 hab e1 e2 hb (key _ _ e3).1 (key _ _ e4).1 htp
  · by_cases c : k = nx
    · subst c; rw [upd_same] at e; cases e; exact h.nf n p hp
    · rw [upd_ne _ _ c] at e; exact h.nf k q e

/-- An append that takes new memory. -/
theorem growD {st e ty : TypeId} {ts : Array TypeId} {inf : TypeInfo} {base : Option Addr} {sLen sCap m : Nat} {ks : List TK} {f g : Nat → Nat → D} {yx : Value} {zs : List AV} {ρ : Rho} {h h1 : Hp} {w : World} {L : List Nat}
    (hgc : Fz.gc = false) (hh1 : HR ρ h1 w) (hnx : h1.nx = h.nx) (hlg : h1.lg = L ++ h.lg)
    (hts : ts[0]? = some st) (hu : P.underlying st = some (.slice e)) (hi : P.info? e = some inf) (hz : noInt P ts) (hks : ks.length = inf.size)
    (hs : ListOk P f sLen ks (.slice base sLen sCap) w) (hx : ListOk P g m ks yx w) (hzero : zeroOf P e = some zs) (hzl : zs.length = inf.size)
    (hgt : sCap < sLen + m) (hb1 : sLen + m ≤ 1073741824) (hb2 : inf.bytes * (sLen + m) ≤ 1073741824) :
    ∃ ρ' w' y, (Builtin.append_ ts ty #[.slice base sLen sCap, yx]).run P w = .ok y w' ∧ VRel ρ' (.osl h.nx (sLen + m)) y ∧ HR ρ' (h1.new (.rows (catD f sLen g) (sLen + m) ks)) w' ∧
      Stepped ρ h.nx L w ρ' (h1.new (.rows (catD f sLen g) (sLen + m) ks)).nx w' ∧ (h1.new (.rows (catD f sLen g) (sLen + m) ks)).lg = L ++ h.lg := by
  obtain ⟨zv, hzr, hze⟩ := zeroOf_run hzero
  obtain ⟨_, _, YO, e1, _, o1, o2⟩ := hs
  obtain ⟨xb, xl, YN, rfl, hxl, n1, n2⟩ := hx
  rw [hks] at o2 n2
  obtain ⟨c, hc, hrun⟩ := append_grow (P := P) (ty := ty) hts hu hi hz n2 o2 hzr hgt hb1 hb2
  generalize hC : YO.toArray ++ YN.toArray ++ Builtin.zeroCells zv.cells (c - (sLen + m)) = C at hrun
  have hzs : zv.cells.size = inf.size := by rw [← hzl, hze]; simp
  have hsz : C.size = c * inf.size := by
    subst hC
    simp only [Array.size_append, List.size_toArray, o1.len, n1.len, hks, zeroCells_size, hzs]
    rw [← Nat.add_mul, ← Nat.add_mul]
    congr 1
    omega
  have hrd := o1.app n1
  have hwd : HR ρ h1 w.drew := hh1.drew
  have hp : (⟨w.heap.size, 0, inf.size, C.size⟩ : Pl).b = w.drew.heap.size := rfl
  have hor : ORel (upd ρ h1.nx ⟨w.heap.size, 0, inf.size, C.size⟩) (.rows (catD f sLen g) (sLen + m) ks) ⟨w.heap.size, 0, inf.size, C.size⟩ (w.drew.alloc (.cells C e (0, 0))) := by
    refine ⟨hks.symm, ⟨hgc, ?_, by omega⟩, C, e, obj_alloc_new w.drew _, rfl, fun i c' hi' hc' => ?_⟩
    · show 0 + (sLen + m) * ks.length ≤ C.size
      rw [hsz, Nat.zero_add, hks]; exact Nat.mul_le_mul_right _ hc
    · obtain ⟨g1, z, g2, g3⟩ := hrd.get i c' hi' hc'
      refine ⟨g1, z, ?_, g3⟩
      have hlt := (List.getElem?_eq_some_iff.1 g2).1
      show C[0 + (i * ks.length + c')]? = some z
      subst hC
      rw [Nat.zero_add, Array.getElem?_append_left (by simpa using hlt)]
      simpa using g2
  obtain ⟨r1, r2⟩ := hwd.newO (p := ⟨w.heap.size, 0, inf.size, C.size⟩) hp (rfl : (AO.rows (catD f sLen g) (sLen + m) ks).tp = false) hor
  refine ⟨_, _, _, hrun, ?_, r1, ?_, hlg⟩
  · refine ⟨hgc, .inr ⟨_, c, by rw [← hnx]; exact upd_same _ _ _, by simp, hc, ?_⟩⟩
    simp only [Nat.zero_add]; rw [hsz]; exact Nat.le_refl _
  · rw [← hnx]
    have : Stepped ρ h1.nx L w ρ h1.nx w := ⟨Nat.le_refl _, fun _ _ => rfl, fun k r hk e => absurd (hh1.dm k r e) (by omega), Nat.le_refl _, rfl, rfl, rfl, fun _ _ _ => rfl⟩
    simpa using (this.drew).trans r2

theorem emp_rel {s : AV} {y : Value} {ρ : Rho} (h : s.emp = true) (r : VRel ρ s y) : ∃ a, y = .slice a 0 0 := by
  unfold AV.emp at h
  split at h
  · exact r
  · cases r; exact ⟨none, rfl⟩
  · obtain ⟨a, k, e, hk⟩ := r; have := hk rfl; subst this; exact ⟨some a, e⟩
  · obtain ⟨p, k, _, e, _, _, hk⟩ := r; have := hk 0 rfl; subst this; exact ⟨_, e⟩
  · cases h

theorem appendR_run {st ty : TypeId} {ts : Array TypeId} {s x v : AV} {ys yx : Value} {ρ : Rho} {h h' : Hp} {w : World} (hh : HR ρ h w) (hs : VRel ρ s ys) (hx : VRel ρ x yx) (hts : ts[0]? = some st) (hz : noInt P ts) (ha : appendR P st s x h = some (true, some (v, h'))) :
    ∃ ρ' w' y L, (Builtin.append_ ts ty #[ys, yx]).run P w = .ok y w' ∧ VRel ρ' v y ∧ HR ρ' h' w' ∧ Stepped ρ h.nx L w ρ' h'.nx w' ∧ h'.lg = L ++ h.lg := by
  unfold appendR at ha
  split at ha
  rotate_left
  · cases ha
  rename_i e hu
  split at ha
  rotate_left
  · cases ha
  rename_i inf zs hi hzero
  split at ha
  · rename_i n len
    split at ha
    rotate_left
    · cases ha
    rename_i f len' ks ho
    split at ha
    rotate_left
    · cases ha
    rename_i b g m hsrc
    cases hq : (Nat.beq zs.length inf.size && Nat.beq ks.length inf.size) with
    | false => rw [hq] at ha; cases ha
    | true =>
      rw [hq] at ha
      simp only [cond_true, Option.some.injEq, Prod.mk.injEq, Bool.and_eq_true] at ha
      obtain ⟨⟨hle, rfl, hb1, hb2⟩, rfl, rfl⟩ := ha
      simp only [Bool.and_eq_true] at hq
      have hzl := Nat.eq_of_beq_eq_true hq.1
      have hks := Nat.eq_of_beq_eq_true hq.2
      have hle := Nat.eq_of_beq_eq_true hle
      subst hle
      simp only [small, Nat.ble_eq] at hb1 hb2
      have hb1' : len + m ≤ 1073741824 := by omega
      have hb2' : inf.bytes * (len + m) ≤ 1073741824 := by rw [Nat.add_comm len m]; exact hb2
      have hsrc' := srcD_run (P := P) hh hx hsrc
      have hdst := osl_listOk (P := P) hh ho (Nat.le_refl _) hs
      have hgd : ∀ k, (h.drop n).ob.get k = if k = n then none else h.ob.get k := fun k => by unfold Hp.drop; exact T.get_put' _ _ _ _
      have hh1 : HR ρ (h.drop n) w := HRel.rm hh n hgd
      obtain ⟨base, sCap, YO, rfl, hcap, o1, o2⟩ := hdst
      by_cases hfit : len + m ≤ sCap
      · obtain ⟨xb, xl, YN, rfl, hxl, n1, n2⟩ := hsrc'
        rw [hks] at n2
        have hf := append_fit (P := P) (ty := ty) (k := inf.size) (base := base) (sLen := len) (sCap := sCap) hts hu hi hz (n2 w rfl) hfit rfl
        obtain ⟨hgc, hs⟩ := hs
        rcases hs with ⟨rfl, a, hye⟩ | ⟨p, k, hp, hye, hk, hps⟩
        · cases hye
          have : m = 0 := by omega
          subst this
          have hYN : YN = [] := by have := n1.len; simpa using this
          subst hYN
          -- nothing comes to nothing
          cases hr : ρ n with
          | none =>
            have old : ∀ k q o, ρ k = some q → ((h.drop n).new (.rows (catD f 0 g) (0 + 0) ks)).ob.get k = some o → (h.drop n).ob.get k = some o := fun k q o e1 e2 => by
              unfold Hp.new at e2
              rw [T.get_put, upd_ne _ _ (by have := (hh1.dom k q e1).1; omega)] at e2; exact e2
            have hh2 : HR ρ ((h.drop n).new (.rows (catD f 0 g) (0 + 0) ks)) w := by
              refine ⟨fun k q e => ⟨Nat.lt_succ_of_lt (hh1.dom k q e).1, (hh1.dom k q e).2⟩, fun k o e hk => ?_, fun a b q r o o' hab e1 e2 hb e3 e4 => ?_, fun a b q r o o' e1 e2 hb e3 e4 => ?_, fun a b q r o o' hab e1 e2 hb e3 e4 => ?_, hh1.fz, hh1.nf, fun e => Nat.le_succ_of_le (hh1.op e)⟩
              · by_cases c : k = h.nx
                · subst c
                  unfold Hp.new at e
                  rw [T.get_put] at e
                  rw [show (h.drop n).nx = h.nx from rfl, upd_same] at e
                  cases e
                  refine .inr ⟨?_, rfl⟩
                  cases hx : ρ h.nx with
                  | none => rfl
                  | some q => have := (hh.dom _ q hx).1; omega
                · unfold Hp.new at e
                  rw [T.get_put, upd_ne _ _ (by exact c)] at e
                  exact hh1.obj0 k o e (by have : k < h.nx + 1 := hk; show k < h.nx; omega)
              · exact hh1.sep a b q r o o' hab e1 e2 hb (old _ _ _ e1 e3) (old _ _ _ e2 e4)
              · exact hh1.tip a b q r o o' e1 e2 hb (old _ _ _ e1 e3) (old _ _ _ e2 e4)
              · exact hh1.one a b q r o o' hab e1 e2 hb (old _ _ _ e1 e3) (old _ _ _ e2 e4)
            refine ⟨ρ, w, .slice base (0 + 0) 0, [n], ?_, ⟨hgc, .inl ⟨rfl, base, rfl⟩⟩, hh2, ⟨Nat.le_succ _, fun _ _ => rfl, fun k r hk e => absurd (hh.dm k r e) (by omega), Nat.le_refl _, rfl, rfl, rfl, fun _ _ _ => rfl⟩, rfl⟩
            rw [hf]
            cases base <;> simp [storeCells]
          | some p =>
            have hor := hh.objP hr ho
            have hmv := HRel.move hh hr ho rfl rfl hgd
            have hst := HRel.setObj (o' := .rows (catD f 0 g) (0 + 0) ks) hmv (w' := w) (upd_same _ _ _) (upd_same _ _ _) rfl rfl rfl (fun _ _ => rfl) (by
              obtain ⟨z1, z2, C, eC, z3, z4, _⟩ := hor
              exact ⟨z1, ⟨hgc, by simpa using z2.2.1, by omega⟩, C, eC, z3, z4, fun i c hi => by omega⟩)
            refine ⟨upd ρ h.nx p, w, .slice base (0 + 0) 0, [n], ?_, ⟨hgc, .inl ⟨rfl, base, rfl⟩⟩, ?_, ⟨Nat.le_succ _, fun k hk => upd_ne _ _ (by omega), fun k r hk e => ?_, Nat.le_refl _, rfl, rfl, rfl, fun _ _ _ => rfl⟩, rfl⟩
            · rw [hf]
              cases base <;> simp [storeCells]
            · unfold HR Hp.new
              rw [T.get_put]
              have : upd (upd (h.drop n).ob.get h.nx (.rows f 0 ks)) h.nx (.rows (catD f 0 g) (0 + 0) ks) = upd (h.drop n).ob.get (h.drop n).nx (.rows (catD f 0 g) (0 + 0) ks) := by
                funext k
                by_cases c : k = h.nx
                · subst c; rw [upd_same]; exact (upd_same _ _ _).symm
                · rw [upd_ne _ _ c, upd_ne _ _ c]; exact (upd_ne _ _ c).symm
              rw [this] at hst
              exact hst
            · by_cases c : k = h.nx
              · subst c; rw [upd_same] at e; cases e; exact .inr ⟨n, p, by simp, hh.dm _ _ hr, hr, rfl⟩
              · rw [upd_ne _ _ c] at e; exact absurd (hh.dm k r e) (by omega)
        · cases hye
          obtain ⟨hz1, ⟨_, hz2, hz3⟩, C, eC, hbk, hC, hcell⟩ := hh.objP hp ho
          have hps' : p.o + (len + m) * ks.length ≤ p.s := by
            have := Nat.mul_le_mul_right p.z hfit
            rw [hz1] at this hps; omega
          have hrow := run_storeCells_at P p.b (p.o + len * ks.length) eC YN 0 C w hbk (by rw [n1.len, hC]; rw [Nat.add_mul] at hps'; omega) n1.one
          simp only [Nat.add_zero] at hrow
          generalize hC' : (C.toList.take (p.o + len * ks.length) ++ YN ++ C.toList.drop (p.o + len * ks.length + YN.length)).toArray = C' at hrow
          have hNl := n1.len
          have hsz' : C'.size = C.size := by subst hC'; simp; rw [Nat.add_mul] at hps'; omega
          have hor : ORel (upd ρ h.nx p) (.rows (catD f len g) (len + m) ks) p (w.setRow p.b C') := by
            refine ⟨hz1, ⟨hgc, hps', by omega⟩, C', _, setRow_heap w p.b C C' _ _ hbk, hsz'.trans hC, fun i c hi' hc' => ?_⟩
            unfold catD
            by_cases ci : i < len
            · have : Nat.blt i len = true := by simpa using ci
              rw [this]
              obtain ⟨g1, z, g2, g3⟩ := hcell i c ci hc'
              refine ⟨g1, z, ?_, g3⟩
              have := idx_lt ci hc'
              subst hC'
              simp only [List.getElem?_toArray]
              rw [List.append_assoc, List.getElem?_append_left (by simp; omega), List.getElem?_take_of_lt (by omega)]
              simpa using g2
            · have : Nat.blt i len = false := blt_no ci
              rw [this]
              obtain ⟨g1, z, g2, g3⟩ := n1.get (i - len) c (by omega) hc'
              refine ⟨g1, z, ?_, g3⟩
              have hlt := (List.getElem?_eq_some_iff.1 g2).1
              have hm' := Nat.mul_le_mul_right ks.length (show len ≤ i by omega)
              have e1 : i * ks.length + c = len * ks.length + ((i - len) * ks.length + c) := by rw [Nat.sub_mul]; omega
              subst hC'
              simp only [List.getElem?_toArray]
              rw [List.append_assoc, List.getElem?_append_right (by simp; omega), List.getElem?_append_left (by simp; omega)]
              simp only [List.length_take, Array.length_toList]
              rw [Nat.min_eq_left (by rw [Nat.add_mul] at hps'; omega), show p.o + (i * ks.length + c) - (p.o + len * ks.length) = (i - len) * ks.length + c by omega]
              exact g2
          have hmv := HRel.move hh hp ho rfl rfl hgd
          have hst := HRel.setObj (o' := .rows (catD f len g) (len + m) ks) hmv (w' := w.setRow p.b C') (upd_same _ _ _) (upd_same _ _ _) rfl rfl (by simp) (fun b hb => setRow_other w p.b b C' hb) hor
          refine ⟨upd ρ h.nx p, w.setRow p.b C', .slice (some ⟨p.b, p.o, none⟩) (len + m) sCap, [n], ?_, ⟨hgc, .inr ⟨p, sCap, upd_same _ _ _, rfl, hfit, hps⟩⟩, ?_, ⟨Nat.le_succ _, fun k hk => upd_ne _ _ (by omega), fun k r hk e => ?_, by simp, rfl, rfl, rfl, fun b hb' hne => setRow_other w p.b b C' (fun e => hne n p (by simp) (hh.dm _ _ hp) hp e.symm)⟩, rfl⟩
          · rw [hf]
            rw [hks] at hrow
            simp only [add_at, hrow, Result.andThen_ok]
          · unfold HR Hp.new
            rw [T.get_put]
            have : upd (upd (h.drop n).ob.get h.nx (.rows f len ks)) h.nx (.rows (catD f len g) (len + m) ks) = upd (h.drop n).ob.get (h.drop n).nx (.rows (catD f len g) (len + m) ks) := by
              funext k
              by_cases c : k = h.nx
              · subst c; rw [upd_same]; exact (upd_same _ _ _).symm
              · rw [upd_ne _ _ c, upd_ne _ _ c]; exact (upd_ne _ _ c).symm
            rw [this] at hst
            exact hst
          · by_cases c : k = h.nx
            · subst c; rw [upd_same] at e; cases e; exact .inr ⟨n, p, by simp, hh.dm _ _ hp, hp, rfl⟩
            · rw [upd_ne _ _ c] at e; exact absurd (hh.dm k r e) (by omega)
      · obtain ⟨ρ', w', y, r1, r2, r3, r4, r5⟩ := growD (P := P) (ty := ty) (L := [n]) (h := h) hs.1 hh1 rfl rfl hts hu hi hz hks ⟨base, sCap, YO, rfl, hcap, o1, o2⟩ hsrc' hzero hzl (by omega) hb1' hb2'
        exact ⟨ρ', w', y, [n], r1, r2, r3, r4, r5⟩
  · rename_i s2 hs2
    cases he : s.emp with
    | false => rw [he] at ha; cases ha
    | true =>
      rw [he] at ha
      obtain ⟨a, rfl⟩ := emp_rel he hs
      have hgc : Fz.gc = false := by
        simp only [cond_true] at ha
        split at ha
        · exact hx.1
        · exact hx.1
        · cases ha
      have fin : ∀ (f : Nat → Nat → D) (m : Nat) (ks : List TK), ks.length = inf.size → zs.length = inf.size → m ≤ 1073741824 → inf.bytes * m ≤ 1073741824 → ListOk P f m ks yx w →
          ∃ ρ' w' y L, (Builtin.append_ ts ty #[.slice a 0 0, yx]).run P w = .ok y w' ∧ VRel ρ' (.osl h.nx m) y ∧ HR ρ' (h.new (.rows f m ks)) w' ∧ Stepped ρ h.nx L w ρ' (h.new (.rows f m ks)).nx w' ∧ (h.new (.rows f m ks)).lg = L ++ h.lg := by
        intro f m ks hks hzl hb1 hb2 hl
        rcases Nat.eq_zero_or_pos m with rfl | hm
        · obtain ⟨xb, xl, YN, rfl, hxl, n1, n2⟩ := hl
          rw [hks] at n2
          have hf := append_fit (P := P) (ty := ty) (k := inf.size) (base := a) (sLen := 0) (sCap := 0) hts hu hi hz (n2 w rfl) (Nat.le_refl _) rfl
          have hYN : YN = [] := by have := n1.len; simpa using this
          subst hYN
          have old : ∀ k q o, ρ k = some q → (h.new (.rows f 0 ks)).ob.get k = some o → h.ob.get k = some o := fun k q o e1 e2 => by
            unfold Hp.new at e2
            rw [T.get_put, upd_ne _ _ (by have := (hh.dom k q e1).1; omega)] at e2; exact e2
          have hh2 : HR ρ (h.new (.rows f 0 ks)) w := by
            refine ⟨fun k q e => ⟨Nat.lt_succ_of_lt (hh.dom k q e).1, (hh.dom k q e).2⟩, fun k o e hk => ?_, fun a b q r o o' hab e1 e2 hb e3 e4 => ?_, fun a b q r o o' e1 e2 hb e3 e4 => ?_, fun a b q r o o' hab e1 e2 hb e3 e4 => ?_, hh.fz, hh.nf, fun e => Nat.le_succ_of_le (hh.op e)⟩
            · by_cases c : k = h.nx
              · subst c
                unfold Hp.new at e
                rw [T.get_put, upd_same] at e
                cases e
                refine .inr ⟨?_, rfl⟩
                cases hx : ρ h.nx with
                | none => rfl
                | some q => have := (hh.dom _ q hx).1; omega
              · unfold Hp.new at e
                rw [T.get_put, upd_ne _ _ c] at e
                exact hh.obj0 k o e (by have : k < h.nx + 1 := hk; omega)
            · exact hh.sep a b q r o o' hab e1 e2 hb (old _ _ _ e1 e3) (old _ _ _ e2 e4)
            · exact hh.tip a b q r o o' e1 e2 hb (old _ _ _ e1 e3) (old _ _ _ e2 e4)
            · exact hh.one a b q r o o' hab e1 e2 hb (old _ _ _ e1 e3) (old _ _ _ e2 e4)
          refine ⟨ρ, w, .slice a (0 + 0) 0, [], ?_, ⟨hgc, .inl ⟨rfl, a, rfl⟩⟩, hh2, ⟨Nat.le_succ _, fun _ _ => rfl, fun k r hk e => absurd (hh.dm k r e) (by omega), Nat.le_refl _, rfl, rfl, rfl, fun _ _ _ => rfl⟩, rfl⟩
          rw [hf]
          cases a <;> simp [storeCells]
        · obtain ⟨ρ', w', y, r1, r2, r3, r4, r5⟩ := growD (P := P) (ty := ty) (L := []) (f := f) (sLen := 0) hgc hh rfl rfl hts hu hi hz hks (listOk_nil f ks a 0 w) hl hzero hzl (by omega) (by omega) (by rw [Nat.zero_add]; exact hb2)
          have hcat : catD f 0 f = f := by
            funext i c
            unfold catD
            rw [blt_no (Nat.not_lt_zero i)]; rfl
          rw [hcat, Nat.zero_add] at r3 r4 r5
          rw [Nat.zero_add] at r2
          exact ⟨ρ', w', y, [], r1, r2, r3, r4, r5⟩
      simp only [cond_true] at ha
      split at ha
      · rename_i g m ks
        cases hq : (Nat.beq zs.length inf.size && Nat.beq ks.length inf.size) with
        | false => rw [hq] at ha; cases ha
        | true =>
          rw [hq] at ha
          simp only [cond_true, Option.some.injEq, Prod.mk.injEq, Bool.and_eq_true, small, Nat.ble_eq] at ha
          obtain ⟨⟨hb1, hb2⟩, rfl, rfl⟩ := ha
          simp only [Bool.and_eq_true] at hq
          exact fin g m ks (Nat.eq_of_beq_eq_true hq.2) (Nat.eq_of_beq_eq_true hq.1) hb1 hb2 (fz_listOk hx.2 hh.fz)
      · rename_i n m
        split at ha
        · rename_i g len' ks ho
          cases hq : (Nat.beq zs.length inf.size && Nat.beq ks.length inf.size) with
          | false => rw [hq] at ha; cases ha
          | true =>
            rw [hq] at ha
            simp only [cond_true, Option.some.injEq, Prod.mk.injEq, Bool.and_eq_true, small, Nat.ble_eq] at ha
            obtain ⟨⟨hle, hb1, hb2⟩, rfl, rfl⟩ := ha
            simp only [Bool.and_eq_true] at hq
            exact fin g m ks (Nat.eq_of_beq_eq_true hq.2) (Nat.eq_of_beq_eq_true hq.1) hb1 hb2 (osl_listOk hh ho hle hx)
        · cases ha
      · cases ha
end Ev
end Go.Proofs.Ytengccmjlaejfaa
