/- Functions that write what their callers own: their contracts; as summaries. No condition. -/
import Derived.Test.YtengccmjlaejfaaMg14
import Derived.Test.YtengccmjlaejfaaMg13
section
namespace Go.Proofs.Ytengccmjlaejfaa
namespace Ev
open Go.RowKit
set_option linter.unusedSectionVars false
variable {P : Program}

theorem avDs_len' : ∀ {xs : List AV} {ds : List D}, avDs xs = some ds → ds.length = xs.length
  | [], _, h => by simp only [avDs] at h; cases h; rfl
  | x :: xs, _, h => by
    simp only [avDs] at h
    split at h
    · rename_i a b ha hb; cases h; simp [avDs_len' hb]
    · cases h
theorem avDs_get' : ∀ {xs : List AV} {ds : List D}, avDs xs = some ds → ∀ {i : Nat} {d : D}, ds[i]? = some d → ∃ x, xs[i]? = some x ∧ x.d = some d
  | [], _, h, i, d, hd => by simp only [avDs] at h; cases h; simp at hd
  | x :: xs, _, h, i, d, hd => by
    simp only [avDs] at h
    split at h
    · rename_i a b ha hb
      cases h
      cases i with
      | zero => simp at hd; subst hd; exact ⟨x, rfl, ha⟩
      | succ i => simp at hd ⊢; exact avDs_get' hb hd
    · cases h
theorem renL_len' {r : Nat → Option Nat} : ∀ {xs ys : List AV}, renL r xs = some ys → xs.length = ys.length
  | [], _, h => by simp only [renL] at h; cases h; rfl
  | x :: xs, _, h => by
    simp only [renL] at h
    split at h
    · rename_i a b ha hb; cases h; simp [renL_len' hb]
    · cases h
theorem renL_get' {r : Nat → Option Nat} : ∀ {xs ys : List AV}, renL r xs = some ys → ∀ {i : Nat} {y : AV}, ys[i]? = some y → ∃ x, xs[i]? = some x ∧ x.ren r = some y
  | [], _, h, i, y, hy => by simp only [renL] at h; cases h; simp at hy
  | x :: xs, _, h, i, y, hy => by
    simp only [renL] at h
    split at h
    · rename_i a b ha hb
      cases h
      cases i with
      | zero => simp at hy; subst hy; exact ⟨x, rfl, ha⟩
      | succ i => simp at hy ⊢; exact renL_get' hb hy
    · cases h

section
variable [Fz]
/-- An object by other names, and less is known. -/
theorem ORel.ren (hgc : Fz.gc = false) {r : Nat → Option Nat} {ρ ρ' : Rho} (hr : RenOk r ρ ρ') {o o' : AO} {p : Pl} {w : World} (hle : OLe (o.ren r) o') (h : ORel ρ o p w) : ORel ρ' o' p w := by
  cases o with
  | cells cs sz fam tip sh =>
    cases sh with
    | true => cases hle
    | false =>
      simp only [AO.ren] at hle
      split at hle
      · rename_i cs1 hcs
        obtain ⟨r1, r2, C, eT, r3, r4, r5⟩ := h
        have hl1 : cs.length = cs1.length := renL_len' hcs
        cases hle with
        | row _ ds _ _ f' len ks h1 h2 h3 h4 =>
          obtain ⟨f1, f2⟩ := fitsRows_get h2
          have hl2 : ds.length = cs1.length := avDs_len' h1
          refine ⟨r1, ⟨hgc, by omega, h3⟩, C, eT, r3, r4, fun i c hi hc => ?_⟩
          obtain ⟨tk, d, g1, g2, g3⟩ := f2 i c hi hc
          have e1 : listD ds ks.length i c = d := by unfold listD; simp [List.getD_eq_getElem?_getD, g2]
          rw [h4 i c hi hc, e1]
          obtain ⟨x1, x2, x3⟩ := avDs_get' h1 g2
          obtain ⟨x0, x4, x5⟩ := renL_get' hcs x2
          obtain ⟨y, hy, hrel⟩ := r5 _ x0 x4
          exact ⟨⟨tk, g1, g3⟩, y, hy, d_rel x3 (ren_rel hr _ _ _ x5 hrel)⟩
        | cells _ cs' _ _ fam' _ tip' hles =>
          refine ⟨r1, by rw [← hles.length, ← hl1]; exact r2, C, eT, r3, r4, fun j x hj => ?_⟩
          obtain ⟨x1, h1, h2⟩ := hles.get hj
          obtain ⟨x0, h3, h4⟩ := renL_get' hcs h1
          obtain ⟨y, hy, hrel⟩ := r5 j x0 h3
          exact ⟨y, hy, h2.rel hgc (ren_rel hr _ _ _ h4 hrel)⟩
      · cases hle
  | map => cases hle
  | loop => cases hle
  | rows f len ks =>
    simp only [AO.ren] at hle
    obtain ⟨r1, r2, C, eT, r3, r4, r5⟩ := h
    cases hle with
    | rows _ f' _ _ hf => exact ⟨r1, r2, C, eT, r3, r4, fun i c hi hc => by rw [hf i c hi hc]; exact r5 i c hi hc⟩
    | rowsF _ f' _ _ hf => exact ⟨r1, r2, C, eT, r3, r4, fun i c hi hc => by rw [hf (fun i c hi hc => (r5 i c hi hc).1) i c hi hc]; exact r5 i c hi hc⟩
omit [Fz] in
theorem ren_unshared {r : Nat → Option Nat} {o o' : AO} (hle : OLe (o.ren r) o') : o.sh = false := by
  cases o with
  | cells cs sz fam tip sh =>
    cases sh with
    | false => rfl
    | true => cases hle
  | map => rfl
  | loop => rfl
  | rows => rfl
omit [Fz] in
theorem ren_nil0 {r : Nat → Option Nat} {o o' : AO} (hle : OLe (o.ren r) o') (hz : o.nil0) : o'.nil0 := by
  cases o with
  | rows f len ks =>
    simp only [AO.ren] at hle
    cases hle <;> exact hz
  | cells => exact hz.elim
  | map => exact hz.elim
  | loop => exact hz.elim
/-- **A heap by other names**: src says which object each is. -/
theorem HR.renG {ρ ρ' : Rho} {h g : Hp} {w : World} (hh : HR ρ h w) (hgc : Fz.gc = false) {r : Nat → Option Nat} (hr : RenOk r ρ ρ') (src : Nat → Nat)
    (obj : ∀ n o, g.ob.get n = some o → ρ' n = ρ (src n) ∧ OLe (osAt h r (src n)) o)
    (inj : ∀ n m o o', g.ob.get n = some o → g.ob.get m = some o' → src n = src m → n = m)
    (dom : ∀ n p, ρ' n = some p → n < g.nx ∧ ∃ k, ρ k = some p) (op : openB ≤ g.nx) : HR ρ' g w := by
  have apart : ∀ n o p, g.ob.get n = some o → ρ' n = some p → ∃ o1, h.ob.get (src n) = some o1 ∧ o1.sh = false ∧ ρ (src n) = some p := fun n o p e1 e2 => by
    obtain ⟨h1, hle⟩ := obj n o e1
    rw [h1] at e2
    have hlt := hh.dm _ _ e2
    unfold osAt at hle
    rw [show Nat.blt (src n) h.nx = true by simpa using hlt] at hle
    cases hg : h.ob.get (src n) with
    | none => rw [hg] at hle; cases hle
    | some o1 => rw [hg] at hle; exact ⟨o1, rfl, ren_unshared hle, e2⟩
  have noshare : ∀ n m p q o o', n ≠ m → ρ' n = some p → ρ' m = some q → p.b = q.b → g.ob.get n = some o → g.ob.get m = some o' → False := fun n m p q o o' hnm e1 e2 hb e3 e4 => by
    obtain ⟨o1, g1, s1, x1⟩ := apart n o p e3 e1
    obtain ⟨o2, g2, s2, x2⟩ := apart m o' q e4 e2
    have hkl : src n ≠ src m := fun c => hnm (inj n m o o' e3 e4 c)
    have := (hh.sep _ _ p q o1 o2 hkl x1 x2 hb g1 g2).2.1
    rw [s1] at this; cases this
  refine ⟨fun n p e => ⟨(dom n p e).1, by obtain ⟨_, k, hk⟩ := dom n p e; exact (hh.dom k p hk).2⟩, fun n o e hn => ?_, fun n m p q o o' hnm e1 e2 hb e3 e4 => (noshare n m p q o o' hnm e1 e2 hb e3 e4).elim, fun n m p q o o' e1 e2 hb e3 e4 ht => ?_, fun n m p q o o' hnm e1 e2 hb e3 e4 ht => (noshare n m p q o o' hnm e1 e2 hb e3 e4).elim, hh.fz, fun n p e => by obtain ⟨_, k, hk⟩ := dom n p e; exact hh.nf k p hk, fun _ => op⟩
  · obtain ⟨h1, hle⟩ := obj n o e
    rw [h1]
    unfold osAt at hle
    cases hb : Nat.blt (src n) h.nx with
    | false =>
      rw [hb] at hle
      cases hle
      refine .inr ⟨?_, rfl⟩
      cases hq : ρ (src n) with
      | none => rfl
      | some p => have hlt := hh.dm _ _ hq; rw [show Nat.blt (src n) h.nx = true by simpa using hlt] at hb; cases hb
    | true =>
      rw [hb] at hle
      simp only [cond_true] at hle
      cases hg : h.ob.get (src n) with
      | none => rw [hg] at hle; cases hle
      | some o1 =>
        rw [hg] at hle
        rcases hh.obj0 _ o1 hg (by simpa using hb) with ⟨p, hp, hq⟩ | ⟨hp, hz⟩
        · exact .inl ⟨p, hp, hq.ren hgc hr hle⟩
        · exact .inr ⟨hp, ren_nil0 hle hz⟩
  · by_cases c : n = m
    · subst c
      rw [e1] at e2; cases e2
      rw [e3] at e4; cases e4
      exact Nat.le_refl _
    · exact (noshare n m p q o o' c e1 e2 hb e3 e4).elim
end

/- The heap at a head: what is kept from openB on, all else from nx0 on. -/
def putAt (t : T AO) : Nat → List AO → T AO
  | _, [] => t
  | n, o :: r => T.put (n + 2) (putAt t (n + 1) r) n (some o)
theorem get_putAt (t : T AO) : ∀ (os : List AO) (a n : Nat), (putAt t a os).get n = if a ≤ n ∧ n < a + os.length then os[n - a]? else t.get n
  | [], a, n => by
    show t.get n = _
    rw [if_neg (by rintro ⟨h1, h2⟩; simp at h2; omega)]
  | o :: r, a, n => by
    unfold putAt
    rw [T.get_put', get_putAt t r]
    simp only [List.length_cons]
    by_cases c : n = a
    · subst c; rw [if_pos rfl, if_pos (by omega), Nat.sub_self]; rfl
    · rw [if_neg c]
      by_cases c2 : a ≤ n ∧ n < a + (r.length + 1)
      · rw [if_pos (by omega), if_pos c2, show n - a = (n - (a + 1)) + 1 by omega, List.getElem?_cons_succ]
      · rw [if_neg (by omega), if_neg c2]
def namesTo (nx0 : Nat) : List Nat := (List.range (nx0 - openB)).map (openB + ·)
def mkW (nx0 k : Nat) (os : List AO) : Hp := ⟨putAt (putO openB (os.take k)) nx0 (os.drop k), nx0 + (os.length - k), namesTo nx0⟩
def seesW (h : Hp) (k : Nat) (r : Nat → Option Nat) (ns : List Nat) : List OS := (List.range k).map (fun j => osAt h r (openB + j)) ++ ns.map (osAt h r)
def okW (h : Hp) (k : Nat) (ns : List Nat) : Bool := h.lg.all (Nat.ble openB) && (ns.all (Nat.ble (openB + k)) && nodupB ns)
def obsW (nx0 k : Nat) (cf : Cfg) (a : Ex × T AV × Hp) : Ob :=
  let ns := nsOf a.2.2 (fun t => (a.2.1.get t).getD (.v undef)) 0 cf.loc
  ⟨a.1, T.chk (fun k => cf.ks.any (fun x => Nat.beq x k) || cf.jk.any (fun x => Nat.beq x k)) a.2.1 1 0 && okW a.2.2 k ns,
    cf.ks.map (fun t => ((a.2.1.get t).getD (.v undef)).ren (rnOf nx0 ns)), seesW a.2.2 k (rnOf nx0 ns) ns⟩
/-- A name of what is kept is none of what is new. -/
def fixN (lo nx : Nat) : Nat → List Nat → List Nat
  | _, [] => []
  | i, n :: r => (bif Nat.blt n lo then nx + i else n) :: fixN lo nx (i + 1) r
def obsRW (P : Program) (k : Nat) (rs : List ResultVar) (loc : List (List Nat)) (locK : List (Nat × List Nat)) (a : Ex × T AV × Hp) : Ob := match resA P a.2.2 a.2.1 rs with
  | some l =>
    let ns := fixN (openB + k) a.2.2.nx 0 (nsOf a.2.2 (fun t => bif Nat.beq t 0 then one l else .ptr (openB + (t - 1)) 0 0) 0 (loc.map (fun p => (0, p)) ++ locK))
    ⟨a.1, exOk a.1 && okW a.2.2 k ns, [(one l).ren (rnOf (openB + k) ns)], seesW a.2.2 k (rnOf (openB + k) ns) ns⟩
  | none => ⟨a.1, false, [], []⟩
theorem mkW_lg (nx0 k : Nat) (os : List AO) : (mkW nx0 k os).lg = namesTo nx0 := by simp only [mkW]
theorem seesW_get {h : Hp} {k : Nat} {r : Nat → Option Nat} {ns : List Nat} {os : List AO} (ho : OLes (seesW h k r ns) os) : os.length = k + ns.length ∧ (∀ i o, os[i]? = some o → (i < k ∧ OLe (osAt h r (openB + i)) o) ∨ (k ≤ i ∧ ∃ m, ns[i - k]? = some m ∧ OLe (osAt h r m) o)) := by
  have hl : os.length = k + ns.length := by have := ho.length; simp [seesW] at this; omega
  refine ⟨hl, fun i o e => ?_⟩
  obtain ⟨x, h1, h2⟩ := ho.get e
  unfold seesW at h1
  by_cases c : i < k
  · rw [List.getElem?_append_left (by simpa using c), List.getElem?_map, List.getElem?_range c] at h1
    cases h1
    exact .inl ⟨c, h2⟩
  · rw [List.getElem?_append_right (by simp; omega), List.getElem?_map, Option.map_eq_some_iff] at h1
    simp only [List.length_map, List.length_range] at h1
    obtain ⟨m, h3, rfl⟩ := h1
    exact .inr ⟨by omega, m, h3, h2⟩

section
variable [Fz]
theorem HR.renW (hgc : Fz.gc = false) {nx0 k : Nat} (hk : openB + k ≤ nx0) {ρ : Rho} {h : Hp} {w : World} {ns : List Nat} {os : List AO} (hh : HR ρ h w) (hok : okW h k ns = true) (ho : OLes (seesW h k (rnOf nx0 ns) ns) os) : HR (renR ρ ns nx0) (mkW nx0 k os) w := by
  obtain ⟨hl, hget⟩ := seesW_get ho
  unfold okW at hok
  simp only [Bool.and_eq_true] at hok
  obtain ⟨_, hnsb, hnd⟩ := hok
  have hns : ∀ n ∈ ns, openB + k ≤ n := fun n hn => by have := List.all_eq_true.1 hnsb n hn; simpa using this
  have key : ∀ n o, (mkW nx0 k os).ob.get n = some o → (openB ≤ n ∧ n < openB + k ∧ OLe (osAt h (rnOf nx0 ns) n) o) ∨ (nx0 ≤ n ∧ ∃ m, ns[n - nx0]? = some m ∧ OLe (osAt h (rnOf nx0 ns) m) o) := fun n o e => by
    unfold mkW at e
    simp only [get_putAt, get_putO] at e
    split at e
    · rename_i c
      rw [List.getElem?_drop] at e
      simp at c
      rcases hget _ _ e with ⟨c2, _⟩ | ⟨c2, m, h1, h2⟩
      · omega
      · exact .inr ⟨c.1, m, by rw [show n - nx0 = k + (n - nx0) - k by omega]; exact h1, h2⟩
    · split at e
      · cases e
      · rename_i c c2
        rw [List.getElem?_take] at e
        split at e
        · rename_i c3
          rcases hget _ _ e with ⟨_, h2⟩ | ⟨c4, _⟩
          · exact .inl ⟨by omega, by omega, by rw [show n = openB + (n - openB) by omega]; exact h2⟩
          · omega
        · cases e
  refine HR.renG hh hgc (renOk ρ ns nx0) (fun n => if n < nx0 then n else ns.getD (n - nx0) 0) (fun n o e => ?_) (fun n m o o' e1 e2 c => ?_) (fun n p e => ?_) (Nat.le_trans (Nat.le_trans (Nat.le_add_right openB k) hk) (Nat.le_add_right _ _))
  · rcases key n o e with ⟨h1, h2, h3⟩ | ⟨h1, m, h2, h3⟩
    · rw [if_pos (by omega)]
      exact ⟨by unfold renR; rw [if_pos (by omega)], h3⟩
    · rw [if_neg (by omega), List.getD_eq_getElem?_getD, h2]
      exact ⟨by unfold renR; rw [if_neg (by omega), h2]; rfl, h3⟩
  · rcases key n o e1 with ⟨h1, h2, _⟩ | ⟨h1, a, h2, _⟩ <;> rcases key m o' e2 with ⟨g1, g2, _⟩ | ⟨g1, b, g2, _⟩
    · rw [if_pos (by omega), if_pos (by omega)] at c; exact c
    · rw [if_pos (by omega), if_neg (by omega), List.getD_eq_getElem?_getD, g2] at c
      have := hns b (List.mem_of_getElem? g2)
      simp at c; omega
    · rw [if_neg (by omega), if_pos (by omega), List.getD_eq_getElem?_getD, h2] at c
      have := hns a (List.mem_of_getElem? h2)
      simp at c; omega
    · rw [if_neg (by omega), if_neg (by omega), List.getD_eq_getElem?_getD, List.getD_eq_getElem?_getD, h2, g2] at c
      simp at c
      subst c
      have := nodupB_ok hnd _ _ _ h2 g2
      omega
  · obtain ⟨m, h1, h2⟩ := renR_some e
    refine ⟨?_, m, h1⟩
    show n < nx0 + (os.length - k)
    omega
omit [Fz] in
theorem mem_namesTo (nx0 n : Nat) (h1 : openB ≤ n) (h2 : n < nx0) : n ∈ namesTo nx0 := by
  unfold namesTo
  refine List.mem_map.2 ⟨n - openB, by simp; omega, by omega⟩
theorem AtB.headW {nx0 k : Nat} (hgc : Fz.gc = false) (hk : openB + k ≤ nx0) {cf : Cfg} {ρb ρ : Rho} {wb w : World} {x : Ex} {e : T AV} {h : Hp} {a : Act} {n B : Nat} {vals : List AV} {os : List AO} (hA : AtB nx0 ρb wb ρ e h a w n B) (hg : Goes (obsW nx0 k cf (x, e, h)) vals os) :
    ∃ ρ', AtB nx0 ρb wb ρ' (mkE cf vals fun t => a.tmps.getD t undef) (mkW nx0 k os) a w n B := by
  obtain ⟨ns, hns⟩ : ∃ ns, ns = nsOf h (fun t => (e.get t).getD (.v undef)) 0 cf.loc := ⟨_, rfl⟩
  have hok := hg.ok
  have hv := hg.vals
  have ho := hg.objs
  simp only [obsW, ← hns] at hok hv ho
  rw [Bool.and_eq_true] at hok
  obtain ⟨hchk, hokw⟩ := hok
  have hokw' := hokw
  unfold okW at hokw
  simp only [Bool.and_eq_true] at hokw
  obtain ⟨hlg, hnsb, hnd⟩ := hokw
  have hlg' : ∀ n ∈ h.lg, openB ≤ n := fun n hn => by have := List.all_eq_true.1 hlg n hn; simpa using this
  have hns' : ∀ n ∈ ns, openB + k ≤ n := fun n hn => by have := List.all_eq_true.1 hnsb n hn; simpa using this
  have hrange : ∀ n p, renR ρ ns nx0 n = some p → ∃ k, ρ k = some p := fun n p e => by obtain ⟨k, h1, _⟩ := renR_some e; exact ⟨k, h1⟩
  have hl : cf.ks.length = vals.length := by have := hv.length; simpa using this
  have st := hA.st
  have hL : ∀ m, m ∈ h.lg → m < nx0 → m ∈ namesTo nx0 := fun m hm hlt => mem_namesTo nx0 m (hlg' m hm) hlt
  have hnxx : (mkW nx0 k os).lg = namesTo nx0 := mkW_lg _ _ _
  refine ⟨renR ρ ns nx0, ⟨fun t => ?_, HR.renW hgc hk hA.s.h hokw' ho, hA.s.d.range hrange, hA.s.n, hA.s.b⟩, ⟨Nat.le_add_right _ _, fun m hm => by unfold renR; rw [if_pos hm]; exact st.old m hm, fun m p hm e => ?_, st.size, st.os, st.tape, st.output, fun b hb hne => st.block b hb fun m p hm hlt e => hne m p (by rw [hnxx]; exact hL m hm hlt) hlt e⟩⟩
  · unfold mkE
    rcases get_mkJ (kept := cf.ks.zip vals) (jk := cf.jk) (j := fun t => a.tmps.getD t undef) t with ⟨y, hy, rfl, hgt⟩ | ⟨hn, ⟨_, hgt⟩ | ⟨hn2, hgt⟩⟩
    · rw [hgt]
      obtain ⟨i, hi⟩ := List.getElem?_of_mem hy
      rw [List.getElem?_zip_eq_some] at hi
      obtain ⟨hi1, hi2⟩ := hi
      obtain ⟨z, hz, hle⟩ := hv.get hi2
      rw [List.getElem?_map, hi1, Option.map_some, Option.some.injEq] at hz
      exact hle.rel hgc (ren_rel (renOk ρ ns nx0) _ _ _ hz (hA.s.e y.1))
    · rw [hgt]; rfl
    · rw [hgt]
      cases hx : e.get t with
      | none => have := hA.s.e t; rw [hx] at this; exact this
      | some v =>
        exfalso
        have := T.chk_ok hchk hx
        simp only [Nat.one_mul, Nat.add_zero, Bool.or_eq_true, List.any_eq_true] at this
        rcases this with ⟨y, hy, hb⟩ | ⟨y, hy, hb⟩
        · have := Nat.eq_of_beq_eq_true hb
          subst this
          obtain ⟨i, hi⟩ := List.getElem?_of_mem hy
          have hlt := (List.getElem?_eq_some_iff.1 hi).1
          have : (cf.ks.zip vals)[i]? = some (y, vals[i]'(by omega)) := by
            rw [List.getElem?_zip_eq_some]; exact ⟨hi, by simp⟩
          exact hn _ (List.mem_of_getElem? this) rfl
        · have := Nat.eq_of_beq_eq_true hb
          subst this; exact hn2 hy
  · obtain ⟨x, h1, h2⟩ := renR_some e
    rcases h2 with ⟨h2, _⟩ | ⟨_, _, h2⟩
    · omega
    · have hx := hns' x (List.mem_of_getElem? h2)
      by_cases c : x < nx0
      · exact .inr ⟨x, p, by rw [hnxx]; exact mem_namesTo nx0 x (by omega) c, c, by rw [← st.old x c]; exact h1, rfl⟩
      · rcases st.new x p (by omega) h1 with y | ⟨y, q, y1, y2, y3, y4⟩
        · exact .inl y
        · exact .inr ⟨y, q, by rw [hnxx]; exact mem_namesTo nx0 y (hlg' y y1) y2, y2, y3, y4⟩
end

/-- **What a function comes to that writes what its caller owns**: os are its objects, of which the first k keep their places. -/
structure OWCalls (P : Program) (k : Nat) (f : FuncId) (args : List AV) (os : List AO) (v : AV) (os' : List AO) : Prop where
  run : ∀ [I : Fz], I.gc = false → ∀ (ρ : Rho) (w : World) (ys : Array Value), VRels ρ args ys.toList → HR ρ (mkH openB os) w →
    Calls P f ys w fun e w' => ∃ y ρ', e = .returned y ∧ VRel ρ' v y ∧ HR ρ' (mkH openB os') w' ∧ (∀ n, n < openB + k → ρ' n = ρ n) ∧
      (∀ n p, openB + k ≤ n → ρ' n = some p → w.heap.size ≤ p.b ∨ ∃ m q, openB ≤ m ∧ m < openB + os.length ∧ ρ m = some q ∧ q.b = p.b) ∧
      w.heap.size ≤ w'.heap.size ∧ w'.os = w.os ∧ w'.tape = w.tape ∧ w'.output = w.output ∧
      ∀ b, b < w.heap.size → (∀ n p, openB ≤ n → n < openB + os.length → ρ n = some p → p.b ≠ b) → w'.heap[b]? = w.heap[b]?

theorem owcalls_of {k : Nat} {f : FuncId} {fn : Func} {c : Code} (hfn : P.funcs[f]? = some fn) (hb : fn.body = some c) (hok : okCode fn.ntmps c = true) {args : List AV} {v : AV} {os os' : List AO} (hk : k ≤ os.length) (loc : List (List Nat)) (locK : List (Nat × List Nat))
    (hr : ∀ [Fz], Fz.gc = false → RunB P (openB + os.length) c (params args) (mkH openB os) (fun x e h => Goes (obsRW P k fn.results.toList loc locK (x, e, h)) [v] os')) : OWCalls P k f args os v os' := by
  refine ⟨@fun I hgc ρ w ys hys hh => ?_⟩
  refine (calls_runB (h := mkH openB os) hfn hb hok hys hh (K := fun u h => ∃ ns, okW h k ns = true ∧ (∃ u', u.ren (rnOf (openB + k) ns) = some u' ∧ Le u' v) ∧ OLes (seesW h k (rnOf (openB + k) ns) ns) os') ((hr hgc).mono fun x e h hg => ?_)).mono ?_
  · obtain ⟨hok, hv, ho⟩ := hg
    unfold obsRW at hok hv ho
    split at hok
    · rename_i l hl
      simp only [hl] at hv ho
      simp only [Bool.and_eq_true] at hok
      obtain ⟨h1, h2⟩ := hok
      refine ⟨?_, l, hl, _, h2, ?_, ho⟩
      · cases x <;> simp_all [exOk]
      · obtain ⟨u', h5, h6⟩ := hv.get (i := 0) rfl
        simp only [List.getElem?_cons_zero, Option.some.injEq] at h5
        exact ⟨u', h5, h6⟩
    · cases hok
  · rintro en w' ⟨y, u, ρ', h1, rfl, ⟨ns, k1, ⟨u', k4, k5⟩, k6⟩, hv, hh', hst⟩
    have hst : Stepped ρ (openB + os.length) h1.lg w ρ' h1.nx w' := hst
    have hokw := k1
    unfold okW at hokw
    simp only [Bool.and_eq_true] at hokw
    obtain ⟨hlg, hnsb, hnd⟩ := hokw
    have hlg' : ∀ n ∈ h1.lg, openB ≤ n := fun n hn => by have := List.all_eq_true.1 hlg n hn; simpa using this
    have hns' : ∀ n ∈ ns, openB + k ≤ n := fun n hn => by have := List.all_eq_true.1 hnsb n hn; simpa using this
    have hm : mkW (openB + k) k os' = ⟨putAt (putO openB (os'.take k)) (openB + k) (os'.drop k), openB + k + (os'.length - k), namesTo (openB + k)⟩ := rfl
    have hlen := (seesW_get k6).1
    have hR := HR.renW hgc (Nat.le_refl _) hh' k1 k6
    have hR' : HR (renR ρ' ns (openB + k)) (mkH openB os') w' := by
      have e1 : (mkW (openB + k) k os').ob.get = (mkH openB os').ob.get := by
        funext n
        unfold mkW mkH
        simp only [get_putAt, get_putO, List.getElem?_drop, List.getElem?_take]
        by_cases c : openB + k ≤ n ∧ n < openB + k + (os'.drop k).length
        · rw [if_pos c, if_neg (by omega), show k + (n - (openB + k)) = n - openB by omega]
        · rw [if_neg c]
          by_cases c2 : n < openB
          · rw [if_pos c2, if_pos c2]
          · rw [if_neg c2, if_neg c2]
            by_cases c3 : n - openB < k
            · rw [if_pos c3]
            · rw [if_neg c3]
              simp only [List.length_drop] at c
              exact (List.getElem?_eq_none (by omega)).symm
      have e2 : (mkW (openB + k) k os').nx = (mkH openB os').nx := by show openB + k + (os'.length - k) = openB + os'.length; omega
      unfold HR at hR ⊢
      rw [e1, e2] at hR
      exact hR
    refine ⟨y, _, rfl, k5.rel hgc (ren_rel (renOk ρ' ns (openB + k)) _ _ _ k4 hv), hR', fun n hn => by unfold renR; rw [if_pos hn]; exact hst.old n (by omega), fun n p hn e => ?_, hst.size, hst.os, hst.tape, hst.output, fun b hb hne => hst.block b hb fun m p hm hlt e => hne m p (hlg' m hm) hlt e⟩
    obtain ⟨x, e1, e2⟩ := renR_some e
    rcases e2 with ⟨e2, _⟩ | ⟨_, _, e2⟩
    · omega
    · have hx := hns' x (List.mem_of_getElem? e2)
      by_cases c : x < openB + os.length
      · exact .inr ⟨x, p, by omega, c, by rw [← hst.old x c]; exact e1, rfl⟩
      · rcases hst.new x p (by omega) e1 with y | ⟨z, q, y1, y2, y3, y4⟩
        · exact .inl y
        · exact .inr ⟨z, q, hlg' z y1, y2, y3, y4⟩
def lookW (P : Program) (nx0 k : Nat) (rs : List ResultVar) (loc : List (List Nat)) (locK : List (Nat × List Nat)) (cf : Nat → Cfg) : Pt → PO
  | .fin x e h => .fin (obsRW P k rs loc locK (x, e, h))
  | .at b c fr e h => .at b c fr (obsW nx0 k (cf b) (.normal, e, h))
/-- **The contract of such a function with loops.** -/
theorem floydW {X : SumBr} {S : Sum} (hm : P.follows .mixedOrders = true) (hok : P.funcs.all okFunc = true) (hX : SumGO P (sumS X)) (hS : SumGO P S) {f : FuncId} (hb : bodyOk P f = true)
    {N fu : Nat} {inl : Nat → Bool} {args : List AV} {v : AV} {os os' : List AO} (k nx0 : Nat) (hnx : nx0 = openB + os.length) (hkk : k ≤ os.length) (loc : List (List Nat)) (locK : List (Nat × List Nat)) (cf : Nat → Cfg) {σ β : Type} [WellFoundedRelation β] (μ : σ → β) (pc : σ → Nat) (vals : σ → List AV) (ob : σ → List AO) (J : σ → Prop) (tr : σ → Br PO) (tr0 : Br PO)
    (h0 : (ev P X S N inl fu .normal [.c 0 (codeOf P f)] (params args) (mkH openB os)).map (lookW P nx0 k (resOf P f) loc locK cf) = tr0)
    (h1 : ∀ s j, (ev P X S N inl fu .normal (hd P f (pc s)) (mkE (cf (pc s)) (vals s) j) (mkW nx0 k (ob s))).map (lookW P nx0 k (resOf P f) loc locK cf) = tr s)
    (g0 : tr0.Holds fun o => match o with
      | .fin o => Goes o [v] os'
      | .at b c fr o => ∃ s, J s ∧ pc s = b ∧ (c, fr) = ct P f b ∧ Goes o (vals s) (ob s))
    (g1 : ∀ s, J s → (tr s).Holds fun o => match o with
      | .fin o => Goes o [v] os'
      | .at b c fr o => ∃ s', J s' ∧ WellFoundedRelation.rel (μ s') (μ s) ∧ pc s' = b ∧ (c, fr) = ct P f b ∧ Goes o (vals s') (ob s')) : OWCalls P k f args os v os' := by
  obtain ⟨fn, c0, hfn, hb, hokc, hcode, hres⟩ := bodyOk_get hb
  refine owcalls_of hfn hb hokc hkk loc locK @fun _ hgc => ?_
  rw [← hres, ← hnx]
  have hkn : openB + k ≤ nx0 := by omega
  have G : Good P (orS (sumS X) S) := ⟨hm, hok, (orS_open hX hS).ok hgc, (orS_open hX hS).kl⟩
  let K : Ex → T AV → Hp → Prop := fun x e h => Goes (obsRW P k (resOf P f) loc locK (x, e, h)) [v] os'
  have head : ∀ s, J s → ∀ j, RunH P nx0 (ct P f (pc s)).1 (ct P f (pc s)).2 (mkE (cf (pc s)) (vals s) j) (mkW nx0 k (ob s)) K := by
    have wf : WellFounded (fun a b : σ => WellFoundedRelation.rel (μ a) (μ b)) := InvImage.wf μ WellFoundedRelation.wf
    intro s
    induction s using wf.induction with
    | _ s ih =>
      intro hJ j
      have ht := g1 s hJ
      rw [← h1 s j] at ht
      have ht := Br.holds_map ht
      have key : RunX P nx0 .normal (.c (pc s + 1) (ct P f (pc s)).1 :: .lp (pc s) (ct P f (pc s)).1 :: (ct P f (pc s)).2) (mkE (cf (pc s)) (vals s) j) (mkW nx0 k (ob s)) K := by
        refine ev_ok G fu _ _ _ _ (ht.mono fun pt hp => ?_)
        cases pt with
        | fin x e h => exact hp
        | «at» b c fr e h =>
          obtain ⟨s', hJ', hlt, rfl, hcf, hgo⟩ := hp
          have e1 : c = (ct P f (pc s')).1 := congrArg Prod.fst hcf
          have e2 : fr = (ct P f (pc s')).2 := congrArg Prod.snd hcf
          subst e1 e2
          intro k hk1 hk2 B ρb wb ρ a w Q hA hQ m
          obtain ⟨ρ', hA'⟩ := hA.headW hgc hkn hgo
          exact ih s' hlt hJ' _ k hk1 hk2 B ρb wb ρ' a w Q hA' hQ m
      intro k hk1 hk2 B ρb wb ρ a w Q hA hQ m
      exact wpL_round (key k (by simp [okFr, hk1, hk2]) B ρb wb ρ a w Q hA hQ m)
  rw [← h0] at g0
  have ht := Br.holds_map g0
  have key : RunX P nx0 .normal [.c 0 (codeOf P f)] (params args) (mkH openB os) K := by
    refine ev_ok G fu _ _ _ _ (ht.mono fun pt hp => ?_)
    cases pt with
    | fin x e h => exact hp
    | «at» b c fr e h =>
      obtain ⟨s', hJ', rfl, hcf, hgo⟩ := hp
      have e1 : c = (ct P f (pc s')).1 := congrArg Prod.fst hcf
      have e2 : fr = (ct P f (pc s')).2 := congrArg Prod.snd hcf
      subst e1 e2
      intro k hk1 hk2 B ρb wb ρ a w Q hA hQ m
      obtain ⟨ρ', hA'⟩ := hA.headW hgc hkn hgo
      exact head s' hJ' _ k hk1 hk2 B ρb wb ρ' a w Q hA' hQ m
  rw [hcode] at key
  intro n hokn B ρb wb ρ a w Q hA hQ m
  exact wpIn_mono (key n (by simp [okFr, hokn]) B ρb wb ρ a w Q hA hQ m) fun e a w q => by cases e <;> exact q
end Ev
end Go.Proofs.Ytengccmjlaejfaa
end
section
namespace Go.Proofs.Ytengccmjlaejfaa
namespace Ev
open Go.RowKit
set_option linter.unusedSectionVars false
set_option linter.unusedVariables false
variable {P : Program}

theorem blt_no3 {a b : Nat} (h : Nat.blt a b = false) : b ≤ a := by
  rcases Nat.lt_or_ge a b with c | c
  · rw [show Nat.blt a b = true by simpa using c] at h; cases h
  · exact c
theorem eqh {k nx a b i : Nat} (h1 : nx ≤ a) (h2 : nx ≤ b) (h3 : i = k + (a - nx)) (h4 : i = k + (b - nx)) : a = b := by omega
def r1 (ns : List Nat) (n : Nat) : Option Nat := findN n ns openB
def rho1 (ρ : Rho) (ns : List Nat) : Rho := fun n => if n < openB then none else match ns[n - openB]? with
  | some k => ρ k
  | none => none
theorem r1_ok (ρ : Rho) (ns : List Nat) : RenOk (r1 ns) ρ (rho1 ρ ns) := by
  intro n m p hn hp
  obtain ⟨h1, h2⟩ := findN_some hn
  unfold rho1
  rw [if_neg (by omega), h2]; exact hp
theorem rho1_some {ρ : Rho} {ns : List Nat} {n : Nat} {p : Pl} (h : rho1 ρ ns n = some p) : openB ≤ n ∧ n < openB + ns.length ∧ ∃ k, ns[n - openB]? = some k ∧ ρ k = some p := by
  unfold rho1 at h
  split at h
  · cases h
  · cases hk : ns[n - openB]? with
    | none => rw [hk] at h; cases h
    | some k =>
      rw [hk] at h
      have := (List.getElem?_eq_some_iff.1 hk).1
      exact ⟨by omega, by omega, k, rfl, h⟩
/-- The names of what is there behind it. -/
def tau (k len nx : Nat) (ns : List Nat) (n : Nat) : Option Nat := bif Nat.blt n openB then none else bif Nat.blt (n - openB) k then ns[n - openB]? else bif Nat.blt (n - openB) len then some (nx + (n - openB - k)) else none
def renOs (r : Nat → Option Nat) : List AO → Option (List AO)
  | [] => some []
  | o :: os => match o.ren r, renOs r os with
    | .o x, some xs => some (x :: xs)
    | _, _ => none
theorem renOs_get {r : Nat → Option Nat} : ∀ {os os1 : List AO}, renOs r os = some os1 → os1.length = os.length ∧ ∀ (i : Nat) (o : AO), os1[i]? = some o → ∃ o0, os[i]? = some o0 ∧ o0.ren r = .o o
  | [], _, h => by simp only [renOs] at h; cases h; exact ⟨rfl, fun i o e => by simp at e⟩
  | o :: os, _, h => by
    simp only [renOs] at h
    split at h
    · rename_i x xs h1 h2
      cases h
      obtain ⟨g1, g2⟩ := renOs_get h2
      refine ⟨by simp [g1], fun i z e => ?_⟩
      cases i with
      | zero => simp at e; subst e; exact ⟨o, rfl, h1⟩
      | succ i => simp at e ⊢; exact g2 i z e
    · cases h
theorem ren_self {r : Nat → Option Nat} {o o' : AO} (h : o.ren r = .o o') : OLe (o.ren r) o' := by
  rw [h]
  cases o with
  | cells cs sz fam tip sh =>
    cases sh with
    | true => cases h
    | false =>
      simp only [AO.ren] at h
      split at h
      · cases h; exact .cells _ _ _ _ _ _ _ (Les.refl _)
      · cases h
  | map => cases h
  | loop => cases h
  | rows f len ks => simp only [AO.ren] at h; cases h; exact .rows _ _ _ _ fun i c _ _ => rfl
def dropAll (h : Hp) : List Nat → Hp
  | [] => h
  | n :: ns => dropAll (h.drop n) ns
theorem dropAll_spec : ∀ (ns : List Nat) (h : Hp), (dropAll h ns).nx = h.nx ∧ (dropAll h ns).lg = ns.reverse ++ h.lg ∧ ∀ n, (dropAll h ns).ob.get n = if n ∈ ns then none else h.ob.get n
  | [], h => ⟨rfl, rfl, fun n => by simp [dropAll]⟩
  | m :: ns, h => by
    obtain ⟨h1, h2, h3⟩ := dropAll_spec ns (h.drop m)
    refine ⟨h1, by rw [dropAll, h2]; simp [Hp.drop], fun n => ?_⟩
    rw [dropAll, h3]
    unfold Hp.drop
    simp only []
    rw [T.get_put']
    by_cases c : n ∈ ns
    · rw [if_pos c, if_pos (List.mem_cons_of_mem _ c)]
    · rw [if_neg c]
      by_cases c2 : n = m
      · rw [if_pos c2, if_pos (by rw [c2]; exact List.mem_cons_self)]
      · rw [if_neg c2, if_neg (by intro c3; rcases List.mem_cons.1 c3 with c3 | c3; exact c2 c3; exact c c3)]
def setK (h : Hp) : List Nat → List AO → Hp
  | n :: ns, o :: os => setK (h.put n o) ns os
  | _, _ => h
theorem setK_spec : ∀ (ns : List Nat) (os : List AO) (h : Hp), nodupB ns = true → (setK h ns os).nx = h.nx ∧ (setK h ns os).lg = h.lg ∧ ∀ n, (∃ (j : Nat) (o : AO), ns[j]? = some n ∧ os[j]? = some o ∧ (setK h ns os).ob.get n = some o) ∨ ((∀ (j : Nat), ns[j]? = some n → os.length ≤ j) ∧ (setK h ns os).ob.get n = h.ob.get n)
  | [], os, h, _ => ⟨by cases os <;> rfl, by cases os <;> rfl, fun n => .inr ⟨fun j hj => by simp at hj, by cases os <;> rfl⟩⟩
  | m :: ns, [], h, _ => ⟨rfl, rfl, fun n => .inr ⟨fun j _ => Nat.zero_le _, rfl⟩⟩
  | m :: ns, o :: os, h, hn => by
    simp only [nodupB, Bool.and_eq_true, Bool.not_eq_true'] at hn
    obtain ⟨h1, h2, h3⟩ := setK_spec ns os (h.put m o) hn.2
    refine ⟨h1, h2, fun n => ?_⟩
    rcases h3 n with ⟨j, x, e1, e2, e3⟩ | ⟨e1, e2⟩
    · exact .inl ⟨j + 1, x, by simpa using e1, by simpa using e2, e3⟩
    · have e4 : (setK h (m :: ns) (o :: os)).ob.get n = if n = m then some o else h.ob.get n := by
        show (setK (h.put m o) ns os).ob.get n = _
        rw [e2]
        unfold Hp.put
        simp only []
        rw [T.get_put']
      by_cases c : n = m
      · exact .inl ⟨0, o, by simp [c], rfl, by rw [e4, if_pos c]⟩
      · refine .inr ⟨fun j hj => ?_, by rw [e4, if_neg c]⟩
        cases j with
        | zero => simp at hj; exact absurd hj.symm c
        | succ j => simp at hj ⊢; exact e1 j hj
def afterW (k : Nat) (h : Hp) (ns : List Nat) (os1 : List AO) : Hp := appO (setK (dropAll h ns) (ns.take k) (os1.take k)) (os1.drop k)
theorem nodup_take {ns : List Nat} (h : nodupB ns = true) : ∀ k, nodupB (ns.take k) = true := by
  induction ns with
  | nil => intro k; cases k <;> rfl
  | cons x r ih =>
    intro k
    simp only [nodupB, Bool.and_eq_true, Bool.not_eq_true'] at h
    cases k with
    | zero => rfl
    | succ k =>
      simp only [List.take_succ_cons, nodupB, Bool.and_eq_true, Bool.not_eq_true']
      refine ⟨List.any_eq_false.2 fun y hy => ?_, ih h.2 k⟩
      exact List.any_eq_false.1 h.1 y (List.mem_of_mem_take hy)
/-- What is there behind it: by cases of its name. -/
theorem afterW_spec {k : Nat} {h : Hp} {ns : List Nat} {os1 : List AO} (hk : k ≤ os1.length) (hkn : k ≤ ns.length) (hn : nodupB ns = true) (hlt : ∀ j m, j < k → ns[j]? = some m → m < h.nx) :
    (afterW k h ns os1).nx = h.nx + (os1.length - k) ∧ (afterW k h ns os1).lg = ns.reverse ++ h.lg ∧
    ∀ n o, (afterW k h ns os1).ob.get n = some o → n < (afterW k h ns os1).nx → (n < h.nx ∧ n ∉ ns ∧ h.ob.get n = some o) ∨ (∃ j, j < k ∧ ns[j]? = some n ∧ os1[j]? = some o) ∨ (h.nx ≤ n ∧ os1[k + (n - h.nx)]? = some o) := by
  obtain ⟨a1, a2, a3⟩ := dropAll_spec ns h
  obtain ⟨b1, b2, b3⟩ := setK_spec (ns.take k) (os1.take k) (dropAll h ns) (nodup_take hn k)
  obtain ⟨c1, c2, c3⟩ := appO_spec (os1.drop k) (setK (dropAll h ns) (ns.take k) (os1.take k))
  refine ⟨by unfold afterW; rw [c1, b1, a1]; simp, by unfold afterW; rw [c2, b2, a2], fun n o e hn2 => ?_⟩
  unfold afterW at e hn2
  rw [c3] at e
  rw [c1] at hn2
  rw [b1, a1] at e hn2
  by_cases c : n < h.nx
  · rw [if_pos (.inl c)] at e
    rcases b3 n with ⟨j, x, e1, e2, e3⟩ | ⟨e1, e2⟩
    · rw [e3] at e; cases e
      rw [List.getElem?_take] at e1 e2
      split at e1
      · rename_i hj
        rw [if_pos hj] at e2
        exact .inr (.inl ⟨j, hj, e1, e2⟩)
      · cases e1
    · rw [e2, a3] at e
      split at e
      · cases e
      · rename_i hx; exact .inl ⟨c, hx, e⟩
  · rw [if_neg (by omega), List.getElem?_drop] at e
    exact .inr (.inr ⟨by omega, e⟩)

section
variable [I : Fz]
set_option maxRecDepth 100000 in
theorem HR.unionW (hgc : I.gc = false) {k : Nat} {ρ ρ2 : Rho} {h : Hp} {w w2 : World} {ns : List Nat} {os2 os1 : List AO} (hh : HR ρ h w) (h2 : HR ρ2 (mkH openB os2) w2) (hk : k ≤ os2.length) (hkn : k ≤ ns.length) (hn : nodupB ns = true) (hlt : ∀ j m, j < k → ns[j]? = some m → m < h.nx)
    (hkeep : ∀ j m, j < k → ns[j]? = some m → ρ2 (openB + j) = ρ m)
    (hnew : ∀ n p, openB + k ≤ n → ρ2 n = some p → w.heap.size ≤ p.b ∨ ∃ m q, m ∈ ns ∧ ρ m = some q ∧ q.b = p.b)
    (hsz : w.heap.size ≤ w2.heap.size) (hfr : ∀ b, b < w.heap.size → (∀ m q, m ∈ ns → ρ m = some q → q.b ≠ b) → w2.heap[b]? = w.heap[b]?)
    (hun : ∀ m q, m ∈ ns → ρ m = some q → ∃ o, h.ob.get m = some o ∧ o.sh = false)
    (hos : renOs (tau k os2.length h.nx ns) os2 = some os1) :
    RenOk (tau k os2.length h.nx ns) ρ2 (fun n => if n < h.nx then ρ n else ρ2 (openB + k + (n - h.nx))) ∧ HR (fun n => if n < h.nx then ρ n else ρ2 (openB + k + (n - h.nx))) (afterW k h ns os1) w2 := by
  obtain ⟨ol, og⟩ := renOs_get hos
  obtain ⟨s1, s2, s3⟩ := afterW_spec (h := h) (os1 := os1) (by omega) hkn hn hlt
  have hren : RenOk (tau k os2.length h.nx ns) ρ2 (fun n => if n < h.nx then ρ n else ρ2 (openB + k + (n - h.nx))) := by
    intro n m p hm hp
    unfold tau at hm
    cases c1 : Nat.blt n openB with
    | true => rw [c1] at hm; cases hm
    | false =>
      have c1 := blt_no3 c1
      rw [show Nat.blt n openB = false from blt_no (Nat.not_lt.2 c1)] at hm
      simp only [cond_false] at hm
      cases c2 : Nat.blt (n - openB) k with
      | true =>
        rw [c2] at hm
        simp only [cond_true] at hm
        have c2 : n - openB < k := by simpa using c2
        have := hlt _ _ c2 hm
        show (if m < h.nx then ρ m else _) = some p
        rw [if_pos this, ← hkeep _ _ c2 hm, show openB + (n - openB) = n by omega]; exact hp
      | false =>
        rw [c2] at hm
        simp only [cond_false] at hm
        have c2 := blt_no3 c2
        cases c3 : Nat.blt (n - openB) os2.length with
        | false => rw [c3] at hm; cases hm
        | true =>
          rw [c3] at hm
          cases hm
          show (if h.nx + (n - openB - k) < h.nx then _ else _) = some p
          rw [if_neg (by omega), show openB + k + (h.nx + (n - openB - k) - h.nx) = n by omega]; exact hp
  refine ⟨hren, ?_⟩
  have get2 : ∀ i o, os2[i]? = some o → (mkH openB os2).ob.get (openB + i) = some o := fun i o e => by
    unfold mkH; rw [get_putO, if_neg (by omega), Nat.add_sub_cancel_left]; exact e
  -- what is new, or written: what it was in the callee
  have there : ∀ n o, ((∃ j, j < k ∧ ns[j]? = some n ∧ os1[j]? = some o) ∨ (h.nx ≤ n ∧ os1[k + (n - h.nx)]? = some o)) → ∃ i o0, os2[i]? = some o0 ∧ o0.ren (tau k os2.length h.nx ns) = .o o ∧ (if n < h.nx then ρ n else ρ2 (openB + k + (n - h.nx))) = ρ2 (openB + i) ∧ ((i < k ∧ ns[i]? = some n) ∨ (k ≤ i ∧ h.nx ≤ n ∧ i = k + (n - h.nx))) := fun n o e => by
    rcases e with ⟨j, h1, h2, h3⟩ | ⟨h1, h3⟩
    · obtain ⟨o0, g1, g2⟩ := og j o h3
      exact ⟨j, o0, g1, g2, by rw [if_pos (hlt j n h1 h2), hkeep j n h1 h2], .inl ⟨h1, h2⟩⟩
    · obtain ⟨o0, g1, g2⟩ := og _ o h3
      exact ⟨_, o0, g1, g2, by rw [if_neg (by omega), Nat.add_assoc], .inr ⟨by omega, h1, rfl⟩⟩
  have same : ∀ n o p, n < h.nx → n ∉ ns → h.ob.get n = some o → ρ n = some p → ∀ m q, m ∈ ns → ρ m = some q → q.b ≠ p.b := fun n o p hn' hx e hp m q hm hq hb => by
    obtain ⟨o', e', hs⟩ := hun m q hm hq
    have := (hh.sep m n q p o' o (fun c => hx (c ▸ hm)) hq hp hb e' e).2.1
    rw [hs] at this; cases this
  have unsh : ∀ o0 o : AO, o0.ren (tau k os2.length h.nx ns) = .o o → o0.sh = false ∧ o.sh = false := fun o0 o e => by
    cases o0 with
    | cells cs sz fam tip sh =>
      cases sh with
      | true => cases e
      | false =>
        simp only [AO.ren] at e
        split at e
        · cases e; exact ⟨rfl, rfl⟩
        · cases e
    | map => cases e
    | loop => cases e
    | rows => simp only [AO.ren] at e; cases e; exact ⟨rfl, rfl⟩
  -- two objects of one block
  have two : ∀ a b p q o o', a ≠ b → (if a < h.nx then ρ a else ρ2 (openB + k + (a - h.nx))) = some p → (if b < h.nx then ρ b else ρ2 (openB + k + (b - h.nx))) = some q → p.b = q.b → (afterW k h ns os1).ob.get a = some o → (afterW k h ns os1).ob.get b = some o' → a < (afterW k h ns os1).nx → b < (afterW k h ns os1).nx → ρ a = some p ∧ ρ b = some q ∧ h.ob.get a = some o ∧ h.ob.get b = some o' := fun a b p q o o' hab e1 e2 hb e3 e4 la lb => by
    have mixed : ∀ a b p q o o', a < h.nx → a ∉ ns → h.ob.get a = some o → (if a < h.nx then ρ a else ρ2 (openB + k + (a - h.nx))) = some p → (if b < h.nx then ρ b else ρ2 (openB + k + (b - h.nx))) = some q → p.b = q.b → ((∃ j, j < k ∧ ns[j]? = some b ∧ os1[j]? = some o') ∨ (h.nx ≤ b ∧ os1[k + (b - h.nx)]? = some o')) → False := fun a b p q o o' l1 l2 l3 e1 e2 hb e4 => by
      rw [if_pos l1] at e1
      have hpb := (hh.dom a p e1).2
      rcases e4 with ⟨j, g1, g2, _⟩ | ⟨g1, _⟩
      · rw [if_pos (hlt j b g1 g2)] at e2
        exact same a o p l1 l2 l3 e1 b q (List.mem_of_getElem? g2) e2 hb.symm
      · rw [if_neg (by omega)] at e2
        rcases hnew _ q (by omega) e2 with x | ⟨m, q', x1, x2, x3⟩
        · omega
        · exact same a o p l1 l2 l3 e1 m q' x1 x2 (x3.trans hb.symm)
    rcases s3 a o e3 la with ⟨l1, l2, l3⟩ | l
    · rcases s3 b o' e4 lb with ⟨r1, r2, r3⟩ | r
      · rw [if_pos l1] at e1; rw [if_pos r1] at e2
        exact ⟨e1, e2, l3, r3⟩
      · exact (mixed a b p q o o' l1 l2 l3 e1 e2 hb r).elim
    · rcases s3 b o' e4 lb with ⟨r1, r2, r3⟩ | r
      · exact (mixed b a q p o' o r1 r2 r3 e2 e1 hb.symm l).elim
      · exfalso
        obtain ⟨i, o0, g1, g2, g3, g4⟩ := there a o l
        obtain ⟨j, o1, f1, f2, f3, f4⟩ := there b o' r
        rw [g3] at e1
        rw [f3] at e2
        have hij : i ≠ j := fun c => by
          subst c
          rcases g4 with ⟨g5, g4⟩ | ⟨g4, g5, g6⟩ <;> rcases f4 with ⟨f5, f4⟩ | ⟨f4, f5, f6⟩
          · rw [g4] at f4; cases f4; exact hab rfl
          · exact absurd g5 (Nat.not_lt.2 f4)
          · exact absurd f5 (Nat.not_lt.2 g4)
          · exact hab (eqh g5 f5 g6 f6)
        have := (h2.sep (openB + i) (openB + j) p q o0 o1 (by omega) e1 e2 hb (get2 _ _ g1) (get2 _ _ f1)).2.1
        rw [(unsh o0 o g2).1] at this; cases this
  have dom : ∀ n p, (if n < h.nx then ρ n else ρ2 (openB + k + (n - h.nx))) = some p → n < (afterW k h ns os1).nx ∧ p.b < w2.heap.size := fun n p e => by
    rw [s1]
    split at e
    · have := hh.dom n p e; exact ⟨by omega, by omega⟩
    · have := h2.dom _ p e
      have h3 : (mkH openB os2).nx = openB + os2.length := rfl
      exact ⟨by omega, this.2⟩
  refine ⟨dom, fun n o e hn' => ?_, fun a b p q o o' hab e1 e2 hb e3 e4 => ?_, fun a b p q o o' e1 e2 hb e3 e4 ht => ?_, fun a b p q o o' hab e1 e2 hb e3 e4 ht => ?_, h2.fz, fun n p e => ?_, fun e => ?_⟩
  · rcases s3 n o e hn' with ⟨l1, l2, l3⟩ | l
    · rw [if_pos l1]
      rcases hh.obj0 n o l3 l1 with ⟨p, hp, hr⟩ | ⟨hp, hz⟩
      · refine .inl ⟨p, hp, (hr.world (hfr p.b (hh.dom n p hp).2 fun m q hm hq => same n o p l1 l2 l3 hp m q hm hq)).mono fun m q hq => ?_⟩
        rw [if_pos (hh.dom m q hq).1]; exact hq
      · exact .inr ⟨hp, hz⟩
    · obtain ⟨i, o0, g1, g2, g3, g4⟩ := there n o l
      have hil := (List.getElem?_eq_some_iff.1 g1).1
      rw [g3]
      rcases h2.obj0 (openB + i) o0 (get2 _ _ g1) (by show openB + i < openB + os2.length; omega) with ⟨p, hp, hr⟩ | ⟨hp, hz⟩
      · exact .inl ⟨p, hp, hr.ren hgc hren (ren_self g2)⟩
      · exact .inr ⟨hp, ren_nil0 (ren_self g2) hz⟩
  · obtain ⟨x1, x2, x3, x4⟩ := two a b p q o o' hab e1 e2 hb e3 e4 (dom a p e1).1 (dom b q e2).1
    exact hh.sep a b p q o o' hab x1 x2 hb x3 x4
  · by_cases c : a = b
    · subst c
      rw [e1] at e2; cases e2
      rw [e3] at e4; cases e4
      exact Nat.le_refl _
    · obtain ⟨x1, x2, x3, x4⟩ := two a b p q o o' c e1 e2 hb e3 e4 (dom a p e1).1 (dom b q e2).1
      exact hh.tip a b p q o o' x1 x2 hb x3 x4 ht
  · obtain ⟨x1, x2, x3, x4⟩ := two a b p q o o' hab e1 e2 hb e3 e4 (dom a p e1).1 (dom b q e2).1
    exact hh.one a b p q o o' hab x1 x2 hb x3 x4 ht
  · split at e
    · exact hh.nf n p e
    · exact h2.nf _ p e
  · exact Nat.le_trans (hh.op e) (by rw [s1]; exact Nat.le_add_right _ _)
end

/-- The result, in who called. -/
def takeW (k : Nat) (ns : List Nat) (h : Hp) (r : AV × List AO) : Br (AV × Hp) := bif Nat.ble k r.2.length then (match r.1.ren (tau k r.2.length h.nx ns), renOs (tau k r.2.length h.nx ns) r.2 with
  | some v, some os1 => .leaf (v, afterW k h ns os1)
  | _, _ => .no) else .no
/-- kl, ml: where the names of what is written stand in the arguments: what keeps its place, and all else. -/
def wX (f : FuncId) (kl ml : List (Nat × List Nat)) (g : List AV → List OS → Option (Br (AV × List AO))) : SumBr := fun f' args h => bif Nat.beq f' f then
  (bif nodupB (nsOf h (fun t => args.getD t (.v undef)) 0 (kl ++ ml)) && ((nsOf h (fun t => args.getD t (.v undef)) 0 (kl ++ ml)).take kl.length).all (fun n => Nat.blt n h.nx) then
    (match renL (r1 (nsOf h (fun t => args.getD t (.v undef)) 0 (kl ++ ml))) args with
    | some as => (match g as ((nsOf h (fun t => args.getD t (.v undef)) 0 (kl ++ ml)).map (osAt h (r1 (nsOf h (fun t => args.getD t (.v undef)) 0 (kl ++ ml))))) with
      | some B => some (B.bind (takeW kl.length (nsOf h (fun t => args.getD t (.v undef)) 0 (kl ++ ml)) h))
      | none => none)
    | none => none) else none) else none
theorem nsOf_length (h : Hp) (x : Nat → AV) : ∀ (l : List Loc) (i : Nat), (nsOf h x i l).length = l.length
  | [], _ => rfl
  | (t, p) :: r, i => by simp [nsOf, nsOf_length h x r]
theorem OLes.get' : ∀ {xs : List OS} {ys : List AO}, OLes xs ys → ∀ {i : Nat} {x : OS}, xs[i]? = some x → ∃ y, ys[i]? = some y ∧ OLe x y
  | _, _, .nil, _, _, h => by simp at h
  | _, _, .cons x y xs ys hx hk, i, z, h => by
    cases i with
    | zero => simp at h; subst h; exact ⟨y, rfl, hx⟩
    | succ i => simp at h ⊢; exact hk.get' h
theorem KL.after {k : Nat} {h : Hp} {ns : List Nat} {os1 : List AO} (hk : k ≤ os1.length) (hkn : k ≤ ns.length) (hn : nodupB ns = true) (hlt : ∀ j m, j < k → ns[j]? = some m → m < h.nx) : KL h (afterW k h ns os1) := by
  obtain ⟨s1, s2, s3⟩ := afterW_spec (h := h) hk hkn hn hlt
  refine ⟨by rw [s1]; exact Nat.le_add_right _ _, ns.reverse, s2, fun n o hlt hni e => ?_⟩
  rcases s3 n o e (by rw [s1]; omega) with ⟨_, _, x⟩ | ⟨j, _, x, _⟩ | ⟨x, _⟩
  · exact .inl x
  · exact absurd (List.mem_reverse.2 (List.mem_of_getElem? x)) hni
  · omega
/-- **Such a contract as a summary.** -/
theorem wX_ok {f : FuncId} {kl ml : List (Nat × List Nat)} {g : List AV → List OS → Option (Br (AV × List AO))} (he : entersB P f = true)
    (hg : ∀ as oss B r, g as oss = some B → B.At r → ∃ as1 os1, (∀ [Fz], Fz.gc = false → ∀ ρ ys, VRels ρ as ys → VRels ρ as1 ys) ∧ OLes oss os1 ∧ OWCalls P kl.length f as1 os1 r.1 r.2) : SumGO P (sumS (wX f kl ml g)) := by
  have key : ∀ f' args h v h', sumS (wX f kl ml g) f' args h = some (v, h') → f' = f ∧ ∃ ns as B r os1, ns = nsOf h (fun t => args.getD t (.v undef)) 0 (kl ++ ml) ∧ nodupB ns = true ∧ (∀ j m, j < kl.length → ns[j]? = some m → m < h.nx) ∧ renL (r1 ns) args = some as ∧ g as (ns.map (osAt h (r1 ns))) = some B ∧ B.At r ∧ kl.length ≤ r.2.length ∧ r.1.ren (tau kl.length r.2.length h.nx ns) = some v ∧ renOs (tau kl.length r.2.length h.nx ns) r.2 = some os1 ∧ h' = afterW kl.length h ns os1 := by
    intro f' args h v h' hr
    unfold sumS wX at hr
    cases hf : Nat.beq f' f with
    | false => rw [hf] at hr; cases hr
    | true =>
      rw [hf] at hr
      simp only [cond_true] at hr
      obtain ⟨ns, hns⟩ : ∃ ns, ns = nsOf h (fun t => args.getD t (.v undef)) 0 (kl ++ ml) := ⟨_, rfl⟩
      rw [← hns] at hr
      cases hc : (nodupB ns && (ns.take kl.length).all (fun n => Nat.blt n h.nx)) with
      | false => rw [hc] at hr; cases hr
      | true =>
        rw [hc] at hr
        simp only [cond_true] at hr
        simp only [Bool.and_eq_true] at hc
        cases ha : renL (r1 ns) args with
        | none => rw [ha] at hr; cases hr
        | some as =>
          rw [ha] at hr
          simp only [] at hr
          cases hgx : g as (ns.map (osAt h (r1 ns))) with
          | none => rw [hgx] at hr; cases hr
          | some B =>
            rw [hgx] at hr
            simp only [] at hr
            obtain ⟨r, h3, h4⟩ := bind_ev hr
            unfold takeW at h4
            cases hk : Nat.ble kl.length r.2.length with
            | false => rw [hk] at h4; cases h4
            | true =>
              rw [hk] at h4
              simp only [cond_true] at h4
              split at h4
              · rename_i v1 os1 e1 e2
                cases h4
                refine ⟨Nat.eq_of_beq_eq_true hf, ns, as, B, r, os1, hns, hc.1, fun j m hj hm => ?_, ha, hgx, h3, by simpa using hk, e1, e2, rfl⟩
                have : m ∈ ns.take kl.length := List.mem_of_getElem? (i := j) (by rw [List.getElem?_take, if_pos hj]; exact hm)
                have := List.all_eq_true.1 hc.2 m this
                simpa using this
              · cases h4
  refine ⟨@fun I hgc f' args h v h' hr => ?_, fun f' args h v h' hr => ?_⟩
  · obtain ⟨rfl, ns, as, B, ⟨v0, os2⟩, os1, hns, hnd, hlt, ha, hgx, hat, hk2, hv, hos, rfl⟩ := key _ _ _ _ _ hr
    refine ⟨enters_of he, fun ρ w ys hys hh => ?_⟩
    obtain ⟨as1, osI, hconv, hle, hW⟩ := hg as _ B (v0, os2) hgx hat
    have hlen : ns.length = osI.length := by simpa using hle.length
    have hkn : kl.length ≤ ns.length := by rw [hns, nsOf_length]; simp
    have objI : ∀ n o, (mkH openB osI).ob.get n = some o → openB ≤ n ∧ ∃ m, ns[n - openB]? = some m ∧ OLe (osAt h (r1 ns) m) o := fun n o e => by
      unfold mkH at e
      rw [get_putO] at e
      split at e
      · cases e
      · rename_i c
        obtain ⟨x, h1, h2⟩ := hle.get e
        rw [List.getElem?_map, Option.map_eq_some_iff] at h1
        obtain ⟨m, hm, rfl⟩ := h1
        exact ⟨by omega, m, hm, h2⟩
    have hh1 : HR (rho1 ρ ns) (mkH openB osI) w := by
      refine HR.renG hh hgc (r1_ok ρ ns) (fun n => ns.getD (n - openB) 0) (fun n o e => ?_) (fun n m o o' e1 e2 c => ?_) (fun n p e => ?_) (Nat.le_add_right _ _)
      · obtain ⟨h1, m, h2, h3⟩ := objI n o e
        rw [List.getD_eq_getElem?_getD, h2]
        exact ⟨by unfold rho1; rw [if_neg (by omega), h2]; rfl, h3⟩
      · obtain ⟨h1, a, h2, _⟩ := objI n o e1
        obtain ⟨g1, b, g2, _⟩ := objI m o' e2
        rw [List.getD_eq_getElem?_getD, List.getD_eq_getElem?_getD, h2, g2] at c
        simp at c
        subst c
        have := nodupB_ok hnd _ _ _ h2 g2
        omega
      · obtain ⟨h1, h2, m, h3, h4⟩ := rho1_some e
        exact ⟨by show n < openB + osI.length; omega, m, h4⟩
    refine (hW.run hgc (rho1 ρ ns) w ys (hconv hgc _ _ (renL_rel (r1_ok ρ ns) _ _ _ ha hys)) hh1).mono ?_
    rintro en w' ⟨y, ρ2, rfl, hvr, hh2, hkeep, hnew, hsz, hos', htp, hout, hfr⟩
    have rho1_at : ∀ j m, ns[j]? = some m → rho1 ρ ns (openB + j) = ρ m := fun j m e => by
      unfold rho1; rw [if_neg (by omega), Nat.add_sub_cancel_left, e]
    have hmem : ∀ m q, openB ≤ m → m < openB + osI.length → rho1 ρ ns m = some q → ∃ x, x ∈ ns ∧ ρ x = some q := fun m q _ _ e => by
      obtain ⟨_, _, x, h3, h4⟩ := rho1_some e
      exact ⟨x, List.mem_of_getElem? h3, h4⟩
    have hun : ∀ m q, m ∈ ns → ρ m = some q → ∃ o, h.ob.get m = some o ∧ o.sh = false := fun m q hm hq => by
      obtain ⟨j, hj⟩ := List.getElem?_of_mem hm
      obtain ⟨o, _, ho⟩ := hle.get' (i := j) (x := osAt h (r1 ns) m) (by rw [List.getElem?_map, hj]; rfl)
      have hlt := hh.dm _ _ hq
      unfold osAt at ho
      rw [show Nat.blt m h.nx = true by simpa using hlt] at ho
      cases hg' : h.ob.get m with
      | none => rw [hg'] at ho; cases ho
      | some o1 => rw [hg'] at ho; exact ⟨o1, rfl, ren_unshared ho⟩
    have hnew' : ∀ n p, openB + kl.length ≤ n → ρ2 n = some p → w.heap.size ≤ p.b ∨ ∃ m q, m ∈ ns ∧ ρ m = some q ∧ q.b = p.b := fun n p hn e => by
      rcases hnew n p hn e with x | ⟨m, q, x1, x2, x3, x4⟩
      · exact .inl x
      · obtain ⟨z, z1, z2⟩ := hmem m q x1 x2 x3
        exact .inr ⟨z, q, z1, z2, x4⟩
    have hfr' : ∀ b, b < w.heap.size → (∀ m q, m ∈ ns → ρ m = some q → q.b ≠ b) → w'.heap[b]? = w.heap[b]? := fun b hb hne => hfr b hb fun n p h1 h2 e => by
      obtain ⟨z, z1, z2⟩ := hmem n p h1 h2 e
      exact hne z p z1 z2
    obtain ⟨hren, hR⟩ := HR.unionW hgc hh hh2 hk2 hkn hnd hlt (fun j m hj hm => by rw [hkeep _ (by omega), rho1_at j m hm]) hnew' hsz hfr' hun hos
    obtain ⟨ol, _⟩ := renOs_get hos
    have ol : os1.length = os2.length := ol
    have hk2 : kl.length ≤ os2.length := hk2
    obtain ⟨s1, s2, _⟩ := afterW_spec (h := h) (os1 := os1) (by omega) hkn hnd hlt
    refine ⟨y, _, ns.reverse, rfl, ren_rel hren _ _ _ hv hvr, hR, ⟨by rw [s1]; exact Nat.le_add_right _ _, fun n hn => if_pos hn, fun n p hn e => ?_, hsz, hos', htp, hout, fun b hb hne => hfr' b hb fun m q hm hq => hne m q (List.mem_reverse.2 hm) (hh.dm _ _ hq) hq⟩, s2⟩
    rw [if_neg (by omega)] at e
    rcases hnew' _ p (by omega) e with x | ⟨m, q, x1, x2, x3⟩
    · exact .inl x
    · exact .inr ⟨m, q, List.mem_reverse.2 x1, hh.dm _ _ x2, x2, x3⟩
  · obtain ⟨_, ns, as, B, ⟨v0, os2⟩, os1, hns, hnd, hlt, ha, hgx, hat, hk2, hv, hos, rfl⟩ := key _ _ _ _ _ hr
    have ol : os1.length = os2.length := (renOs_get hos).1
    have hk2 : kl.length ≤ os2.length := hk2
    exact KL.after (by omega) (by rw [hns, nsOf_length]; simp) hnd hlt
end Ev
end Go.Proofs.Ytengccmjlaejfaa
end
section
namespace Go.Proofs.Ytengccmjlaejfaa
namespace Ev
open Go.RowKit
set_option linter.unusedSectionVars false
variable {P : Program}
/-- Marks of cuts ahead of regions. -/
def rC : Nat := 1000000
section
variable [Fz]
def PtOk2 (P : Program) (nx0 : Nat) (K : Ex → T AV → Hp → Prop) : Pt → Prop
  | .fin x e h => K x e h
  | .at b c fr e h => if b < rC then RunH P nx0 c fr e h K else RunX P nx0 .normal (.c 0 c :: fr) e h K
theorem RunX.any {nx0 b b' : Nat} {K : Ex → T AV → Hp → Prop} {c : Code} {fr : List Fr} {e : T AV} {h : Hp} (hr : RunX P nx0 .normal (.c b c :: fr) e h K) : RunX P nx0 .normal (.c b' c :: fr) e h K := hr
where
  holds_bind {α β : Type} {f : α → Br β} {K : β → Prop} : ∀ {B : Br α}, (B.bind f).Holds K → B.Holds fun a => (f a).Holds K
    | .no, h => h.elim
    | .leaf _, h => h
    | .test _ _ _, h => ⟨fun x => holds_bind (h.1 x), fun x => holds_bind (h.2 x)⟩
    | .ob _ _, h => ⟨h.1, holds_bind h.2⟩
end
/-- At a cut: by its own names. -/
theorem PtOk2.head [Fz] (hgc : Fz.gc = false) (cf : Cfg) {b : Nat} {c : Code} {fr : List Fr} {x : Ex} {e : T AV} {h : Hp} {K : Ex → T AV → Hp → Prop} {vals : List AV} {os : List AO} (hg : Goes (obsB openB cf (x, e, h)) vals os) (hr : ∀ j, PtOk2 P openB K (.at b c fr (mkE cf vals j) (mkH openB os))) : PtOk2 P openB K (.at b c fr e h) := by
  show (if b < rC then RunH P openB c fr e h K else RunX P openB .normal (.c 0 c :: fr) e h K)
  have hr : ∀ j, (if b < rC then RunH P openB c fr (mkE cf vals j) (mkH openB os) K else RunX P openB .normal (.c 0 c :: fr) (mkE cf vals j) (mkH openB os) K) := hr
  by_cases hb : b < rC
  · rw [if_pos hb]
    intro k hk1 hk2 B ρb wb ρ a w Q hA hQ m
    obtain ⟨ρ', hA'⟩ := hA.head hgc (Nat.le_refl _) hg
    have := hr fun t => a.tmps.getD t undef
    rw [if_pos hb] at this
    exact this k hk1 hk2 B ρb wb ρ' a w Q hA' hQ m
  · rw [if_neg hb]
    intro k hok B ρb wb ρ a w Q hA hQ m
    obtain ⟨ρ', hA'⟩ := hA.head hgc (Nat.le_refl _) hg
    have := hr fun t => a.tmps.getD t undef
    rw [if_neg hb] at this
    exact this k hok B ρb wb ρ' a w Q hA' hQ m
end Ev
end Go.Proofs.Ytengccmjlaejfaa
end
section
namespace Go.Proofs.Ytengccmjlaejfaa
namespace Ev
open Go.RowKit
variable {P : Program}

end Ev
end Go.Proofs.Ytengccmjlaejfaa
end
