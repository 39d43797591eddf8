/- With a column's value in its place an expression is what it was. No condition. -/
import Derived.Test.YtengccmjlaejfaaMg29
import Derived.Test.YtengccmjlaejfaaMg22
import Derived.Test.YtengccmjlaejfaaMg18
section
namespace Go.Proofs.Ytengccmjlaejfaa
open Ev Go.RowKit
set_option maxRecDepth 100000
set_option linter.unusedVariables false
theorem allLs_of : ∀ {L : List Tr}, (∀ a ∈ L, allF a = true) → allLs L = true
  | [], _ => by simp only [allLs]
  | a :: r, h => by
    simp only [allLs, Bool.and_eq_true]
    exact ⟨h a (by simp), allLs_of fun b hb => h b (by simp [hb])⟩
theorem putLs_len (row : List Vl) (L : List Tr) : (putLs row L).length = L.length := by rw [putLs_map, List.length_map]
theorem put_all (row : List Vl) (t : Tr) : allF t = true → allF (putF row t) = true := by
  induction t using Tr.ind with
  | h t ih =>
  intro h
  obtain ⟨hn, ha⟩ := allF_get h
  rw [putF_eq]
  split
  · rename_i c
    rw [allF_eq, Bool.and_eq_true]
    refine ⟨?_, by simp only [allLs]⟩
    have hv : vmayF ⟨(row.getD t.n.toNat default).k, (row.getD t.n.toNat default).n, (row.getD t.n.toNat default).hi, (row.getD t.n.toNat default).t⟩ = true := c.2.2.2
    unfold nodeF
    simp only [Tr.v, hv]
    simp [argsF]
  · rw [allF_eq, Bool.and_eq_true]
    refine ⟨?_, allLs_of fun a hm => ?_⟩
    · unfold nodeF at hn ⊢
      simp only [putLs_len]
      exact hn
    · simp only [putLs_map, List.mem_map] at hm
      obtain ⟨b, hb, rfl⟩ := hm
      exact ih b hb (ha b hb)
theorem put_cnt (row : List Vl) (t : Tr) : cntF (putF row t) ≤ cntF t ∧ deepF (putF row t) ≤ deepF t := by
  induction t using Tr.ind with
  | h t ih =>
  rw [putF_eq]
  split
  · rw [cntF_eq, deepF_eq, cntF_eq t, deepF_eq t]
    simp only [cntLs, deepLs]; omega
  · rw [cntF_eq, deepF_eq, cntF_eq t, deepF_eq t]
    have key : ∀ (L : List Tr), (∀ a ∈ L, cntF (putF row a) ≤ cntF a ∧ deepF (putF row a) ≤ deepF a) → cntLs (putLs row L) ≤ cntLs L ∧ deepLs (putLs row L) ≤ deepLs L := by
      intro L
      induction L with
      | nil => intro _; simp only [putLs]; exact ⟨Nat.le_refl _, Nat.le_refl _⟩
      | cons a r ihr =>
        intro h
        have h1 := h a (by simp)
        have h2 := ihr fun b hb => h b (by simp [hb])
        simp only [putLs, cntLs, deepLs]
        omega
    have := key t.args ih
    simp only []
    omega
theorem put_nam (row : List Vl) (t : Tr) : ∀ n ∈ namF (putF row t), n ∈ namF t := by
  induction t using Tr.ind with
  | h t ih =>
  intro n hn
  rw [putF_eq] at hn
  split at hn
  · rw [namF_eq] at hn
    simp [namLs] at hn
  · rw [namF_eq, List.mem_append] at hn
    rw [namF_eq, List.mem_append]
    rcases hn with hn | hn
    · exact .inl hn
    · refine .inr ?_
      have key : ∀ (L : List Tr), (∀ a ∈ L, ∀ n ∈ namF (putF row a), n ∈ namF a) → ∀ n ∈ namLs (putLs row L), n ∈ namLs L := by
        intro L
        induction L with
        | nil => intro _ n h; simpa only [putLs] using h
        | cons a r ihr =>
          intro h n hn
          simp only [putLs, namLs_cons, List.mem_append] at hn ⊢
          rcases hn with hn | hn
          · exact .inl (h a (by simp) n hn)
          · exact .inr (ihr (fun b hb => h b (by simp [hb])) n hn)
      exact key t.args ih n hn
theorem put_tell (row : List Vl) (t : Tr) : allF t = true → tellF row (putF row t) = tellF row t := by
  induction t using Tr.ind with
  | h t ih =>
  intro h
  obtain ⟨hn, ha⟩ := allF_get h
  rw [putF_eq]
  split
  · rename_i c
    have h0 : t.args = [] := by
      have := (nodeF_get hn).1
      rw [c.1] at this
      have e : argsF 2 = 0 := rfl
      rw [e] at this
      exact List.length_eq_zero_iff.1 (by omega)
    rw [tellF_eq, tellF_eq row t, h0]
    simp only [tellLs_nil, Tr.v, finT, opT, c.1]
    simp
  · rw [tellF_eq, tellF_eq row t]
    have key : ∀ (L : List Tr), (∀ a ∈ L, tellF row (putF row a) = tellF row a) → tellLs row (putLs row L) = tellLs row L := by
      intro L
      induction L with
      | nil => intro _; simp only [putLs]
      | cons a r ihr =>
        intro h
        simp only [putLs, tellLs_cons]
        rw [h a (by simp), ihr fun b hb => h b (by simp [hb])]
    simp only [Tr.v]
    rw [key t.args fun a hm => ih a hm (ha a hm)]
theorem put_law (row : List Vl) (t : Tr) (h : (evalF row t).2 ≠ 4) : evalF row (putF row t) = evalF row t := by
  have hf : formF t row.length = true := by
    cases hc : formF t row.length with
    | true => rfl
    | false => unfold evalF at h; rw [if_neg (by rw [hc]; simp)] at h; exact absurd rfl h
  obtain ⟨h1, h2⟩ := (formF_iff t _).1 hf
  obtain ⟨a1, a2, a3⟩ := (mayF_iff t).1 h1
  obtain ⟨c1, c2⟩ := put_cnt row t
  have hf' : formF (putF row t) row.length = true := (formF_iff _ _).2 ⟨(mayF_iff _).2 ⟨put_all row t a1, by omega, by omega⟩, fun n hn => h2 n (put_nam row t n hn)⟩
  unfold evalF
  rw [if_pos hf, if_pos hf', put_tell row t a1]
end Go.Proofs.Ytengccmjlaejfaa
end
section
namespace Go.Proofs.Ytengccmjlaejfaa
open Ev Go.RowKit PExprPut
open Go.Proofs.YtengccmjlaejfaaW.PrintWords
set_option maxRecDepth 100000
set_option linter.unusedVariables false
def exV (t : Tr) (S : Value) : Value := .agg #[.int .u8 t.op, .int .u8 t.k, .int .i64 t.vn, .int .i64 t.hi, .string t.t, .int .i64 t.n, S]
def tupV (z : Vl × Int) : Value := .tuple #[.agg #[.int .u8 z.1.k, .int .i64 z.1.n, .int .i64 z.1.hi, .string z.1.t], .int .i64 z.2]
theorem vrel_ex {m : Nat → Option Obj} {t : Tr} {S : Value} (h : @FzRel ⟨m, false⟩ (.l (trLs t.args) t.args.length ksE) S) : @VRel ⟨m, false⟩ (fun _ => none) (trA t) (exV t S) := by
  obtain ⟨op, k, vn, hi, tx, n, L⟩ := t
  exact ⟨_, rfl, _, _, rfl, rfl, _, _, rfl, rfl, _, _, rfl, rfl, _, _, rfl, rfl, _, _, rfl, rfl, _, _, rfl, rfl, _, _, rfl, ⟨rfl, h⟩, rfl⟩
theorem ex_vrel {m : Nat → Option Obj} {t : Tr} {y : Value} (h : @VRel ⟨m, false⟩ (fun _ => none) (trA t) y) : ∃ S, y = exV t S ∧ @FzRel ⟨m, false⟩ (.l (trLs t.args) t.args.length ksE) S := by
  obtain ⟨op, k, vn, hi, tx, n, L⟩ := t
  obtain ⟨⟨ys⟩, rfl, _, _, e0, rfl, _, _, e1, rfl, _, _, e2, rfl, _, _, e3, rfl, _, _, e4, rfl, _, _, e5, rfl, S, _, e6, ⟨_, hS⟩, e7⟩ := h
  subst e7 e6 e5 e4 e3 e2 e1
  have e0 : ys = _ := e0
  subst e0
  exact ⟨S, rfl, hS⟩
theorem vrel_tup [Fz] {ρ : Rho} {z : Vl × Int} {y : Value} (h : VRel ρ (resA2 z) y) : y = tupV z := by
  obtain ⟨⟨ys⟩, rfl, a, _, e0, ⟨⟨cs⟩, rfl, _, _, f0, rfl, _, _, f1, rfl, _, _, f2, rfl, _, _, f3, rfl, f4⟩, _, _, e1, rfl, e2⟩ := h
  subst f4 f3 f2 f1
  have f0 : cs = _ := f0
  subst f0
  subst e2 e1
  have e0 : ys = _ := e0
  subst e0
  rfl
theorem fr_m {w W : World} (hf : Go.Proofs.Ytengccmjlaejfaa.Fr noB w W) : ∀ (b : Nat) (o : Obj), w.heap[b]? = some o → W.heap[b]? = some o := fun b o e => by
  have h2 : b < w.heap.size := (Array.getElem?_eq_some_iff.1 e).1
  rw [hf.block b h2 (fun x => x)]; exact e
theorem large_calls {w W : World} {t : Tr} {S : Value} (hS : @FzRel ⟨fun b => w.heap[b]?, false⟩ (.l (trLs t.args) t.args.length ksE) S) (hf : Go.Proofs.Ytengccmjlaejfaa.Fr noB w W) :
    Calls Try.prog 9 #[exV t S] W fun e w' => e = .returned (.bool (decide (sizeF t 500 > 500))) ∧ Go.Proofs.Ytengccmjlaejfaa.Fr noB W w' := by
  refine (lg_ok t (fun b => w.heap[b]?) W #[exV t S] (fr_m hf) ⟨_, _, rfl, vrel_ex hS, rfl⟩).mono ?_
  rintro e w' ⟨y, ρ', rfl, h1, h2, _⟩
  exact ⟨by rw [show y = .bool _ from h2], h1⟩
theorem eval_calls {w W : World} {t : Tr} {row : List Vl} {y R : Value} (hS : @VRel ⟨fun b => w.heap[b]?, false⟩ (fun _ => none) (trA t) y) (hR : @FzRel ⟨fun b => w.heap[b]?, false⟩ (.l (eL row) row.length vks) R) (hf : Go.Proofs.Ytengccmjlaejfaa.Fr noB w W) :
    Calls Try.prog 12 #[y, R] W fun e w' => e = .returned (tupV (evalF row t)) ∧ Go.Proofs.Ytengccmjlaejfaa.Fr noB W w' := by
  refine (va_ok t row (fun b => w.heap[b]?) W #[y, R] (fr_m hf) ⟨_, _, rfl, hS, _, _, rfl, ⟨rfl, hR⟩, rfl⟩).mono ?_
  rintro e w' ⟨y, ρ', rfl, h1, h2, _⟩
  exact ⟨by rw [@vrel_tup ⟨fun b => w.heap[b]?, false⟩ _ _ _ h2], h1⟩
theorem fz_V (w : World) (row : List Vl) (y : Value) (h : @FzRel ⟨fun b => w.heap[b]?, false⟩ (.l (eL row) row.length vks) y) : ∃ A c, y = .slice A (row.map toV).length c ∧ (row.map toV).length ≤ c ∧ Kd.C k23 w A (row.map toV).length (row.map toV) := by
  unfold FzRel at h
  rw [List.length_map]
  rcases h with ⟨h0, a, k, rfl, _⟩ | ⟨b, o, k, C, e, fr, rfl, h1, h2, ⟨_, h3⟩, h4⟩
  · rw [h0]
    exact ⟨a, k, rfl, Nat.zero_le _, by rw [List.length_map]; exact h0, by omega, fun x => absurd x (by omega)⟩
  · refine ⟨some ⟨b, o, none⟩, k, rfl, h1, by rw [List.length_map], h3, fun _ => ⟨⟨b, o, none⟩, rfl, fun j p hp => ?_⟩⟩
    have hj : j < row.length := by
      have := (List.getElem?_eq_some_iff.1 hp).1
      rwa [List.length_map] at this
    have hp : p = toV (row.getD j default) := by
      rw [List.getElem?_map, List.getElem?_eq_getElem hj] at hp
      rw [List.getD_eq_getElem?_getD, List.getElem?_eq_getElem hj, Option.getD_some]
      simpa using hp.symm
    have h4 := fun c hc => (h4 j c hj hc).2
    obtain ⟨z0, e0, r0⟩ := h4 0 (by decide)
    obtain ⟨z1, e1, r1⟩ := h4 1 (by decide)
    obtain ⟨z2, e2, r2⟩ := h4 2 (by decide)
    obtain ⟨z3, e3, r3⟩ := h4 3 (by decide)
    have r0 : z0 = .int .u8 (row.getD j default).k := r0
    have r1 : z1 = .int .i64 (row.getD j default).n := r1
    have r2 : z2 = .int .i64 (row.getD j default).hi := r2
    have r3 : z3 = .string (row.getD j default).t := r3
    subst r0 r1 r2 r3
    refine ⟨[.int .u8 (row.getD j default).k, .int .i64 (row.getD j default).n, .int .i64 (row.getD j default).hi, .string (row.getD j default).t], rfl, ?_, fun i v hv => ?_⟩
    · rw [hp]
      exact k23_mk w (toV (row.getD j default))
    · refine cell_at h2 _ ?_
      match i, hv with
      | 0, hv => cases hv; exact e0
      | 1, hv => cases hv; exact e1
      | 2, hv => cases hv; exact e2
      | 3, hv => cases hv; exact e3
theorem put_calls {w W : World} {t : Tr} {row : List Vl} {S R : Value} (hc : cntF t ≤ 1000) (hS : @FzRel ⟨fun b => w.heap[b]?, false⟩ (.l (trLs t.args) t.args.length ksE) S) (hR : @FzRel ⟨fun b => w.heap[b]?, false⟩ (.l (eL row) row.length vks) R) (hf : Go.Proofs.Ytengccmjlaejfaa.Fr noB w W) :
    Calls Try.prog 13 #[exV t S, R] W fun e w' => ∃ y, e = .returned y ∧ Go.Proofs.Ytengccmjlaejfaa.Fr noB W w' ∧ @VRel ⟨fun b => w'.heap[b]?, false⟩ (fun _ => none) (trA (putF row t)) y := by
  obtain ⟨A, c, rfl, hcl, hC⟩ := fz_C w t S hS
  obtain ⟨A1, c1, rfl, hcl1, hC1⟩ := fz_V w row R hR
  obtain ⟨K, hK⟩ := put_ev row t hc
  have hb : Below w.heap.size w W := ⟨hf.os, hf.tape, hf.output, hf.size, fun k hk => hf.block k hk (fun x => x)⟩
  refine (covenantlaw03_put.calls K t.op t.k t.vn t.hi t.t t.n A c (toSs t.args) A1 c1 (row.map toV) _ _ _ _ _ _ _ W (Kd.C_below hC hb) hcl (Kd.C_below hC1 hb) hcl1 (hK K (Nat.le_refl _))).mono ?_
  rintro e w' ⟨v6, rfl, h6, hb'⟩
  exact ⟨exV (putF row t) v6, rfl, ⟨hb'.os, hb'.tape, hb'.output, hb'.size, fun k hk _ => hb'.block k hk⟩, vrel_ex (R_fz w' _ (putF row t) _ v6 h6)⟩
end Go.Proofs.Ytengccmjlaejfaa
end
