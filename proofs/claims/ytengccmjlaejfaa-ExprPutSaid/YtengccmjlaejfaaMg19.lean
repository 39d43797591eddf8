/- What a function without loops comes to, read off its tree; strings.Compare. No condition. -/
import Derived.Test.YtengccmjlaejfaaMg16
import Derived.Test.YtengccmjlaejfaaMix
import Derived.Shelf.Small.Strs
section
namespace Go.Proofs.Ytengccmjlaejfaa
open Ev Go.RowKit
set_option maxRecDepth 100000
set_option linter.unusedVariables false
def cmpL_ren : Go.Shelf.Ren := ⟨fun k => match k with
  | 106 => 93
  | 213 => 97
  | 265 => 100
  | k => k, fun k => match k with
  | 3 => 3
  | 9 => 9
  | k => k, fun x => x⟩
theorem cmpL : Go.Proofs.Lays.n106 Try.prog cmpL_ren where
  mixed := by kernel_rfl
  f106 := by kernel_rfl
  f213 := by kernel_rfl
  f265 := by kernel_rfl
  t3 := by kernel_rfl
  a3 := fun _ => by kernel_rfl
  z3 := fun _ => by kernel_rfl
  v3 := fun _ => by kernel_rfl
  t9 := by kernel_rfl
  a9 := fun _ => by kernel_rfl
  z9 := fun _ => by kernel_rfl
  v9 := fun _ => by kernel_rfl
def cmpS : Sum := plT 93 fun
  | [.string a, .string b] => some (.int .i64 (Lib.compareBytes a.data.toList b.data.toList))
  | _ => none
theorem cmpS_ok : SumGO Try.prog cmpS := (plT_ok (by kernel_rfl) fun xs v h w => by
  split at h
  · cases h
    refine (Go.Proofs.Any.strings_Compare cmpL _ _ w).mono ?_
    rintro e w' ⟨rfl, rfl⟩
    exact ⟨rfl, Fr.refl _ _⟩
  · cases h).open
/- What a function without loops comes to, of a value and a number: read off its tree. -/
def vlOf : List AV → Option Vl
  | [a, b, c, d] => match scI .u8 a, scI .i64 b, scI .i64 c, scS d with
    | some k, some n, some hi, some t => some ⟨k, n, hi, t⟩
    | _, _, _, _ => none
  | _ => none
def resC (x : AV) : Option (Vl × Int) := match x with
  | .v (.tuple a) => match a.toList with
    | [.agg b, .int .i64 e] => (vlOf (b.toList.map .v)).map fun v => (v, e)
    | _ => none
  | .tup [y, z] => match vlOf (partsA y), scI .i64 z with
    | some v, some e => some (v, e)
    | _, _ => none
  | _ => none
def resP : PO → Option (Vl × Int)
  | .fin o => match o.ok, o.vals, o.objs with
    | true, [some x], [] => resC x
    | _, _, _ => none
  | .at _ _ _ _ => none
def brV : Br PO → Option (Vl × Int)
  | .test b t e => bif b then brV t else brV e
  | .leaf p => resP p
  | _ => none
def okV : Br PO → Bool
  | .test _ t e => okV t && okV e
  | .leaf p => (resP p).isSome
  | _ => false
def resA2 (z : Vl × Int) : AV := .tup [vlA z.1, .s (.int .i64 z.2)]
theorem le_scI {k : IntKind} {x : AV} {z : Int} (h : scI k x = some z) : Le x (.s (.int k z)) := by
  unfold scI at h
  split at h
  · rename_i k' z'
    by_cases c : k = k'
    · rw [decide_eq_true c] at h; cases h; subst c; exact .vs _
    · rw [decide_eq_false c] at h; cases h
  · rename_i k' z'
    by_cases c : k = k'
    · rw [decide_eq_true c] at h; cases h; subst c; exact .refl _
    · rw [decide_eq_false c] at h; cases h
  · cases h
theorem le_scS {x : AV} {z : ByteArray} (h : scS x = some z) : Le x (.s (.string z)) := by
  unfold scS at h
  split at h
  · cases h; exact .vs _
  · cases h; exact .refl _
  · cases h
theorem vlOf_les {xs : List AV} {v : Vl} (h : vlOf xs = some v) : Les xs [.s (.int .u8 v.k), .s (.int .i64 v.n), .s (.int .i64 v.hi), .s (.string v.t)] := by
  unfold vlOf at h
  split at h
  · split at h
    · rename_i e1 e2 e3 e4
      cases h
      exact .cons _ _ _ _ (le_scI e1) (.cons _ _ _ _ (le_scI e2) (.cons _ _ _ _ (le_scI e3) (.cons _ _ _ _ (le_scS e4) .nil)))
    · cases h
  · cases h
theorem vlOf_le {x : AV} {v : Vl} (h : vlOf (partsA x) = some v) : Le x (vlA v) := by
  have hx := vlOf_les h
  unfold partsA at h hx
  split at h
  · exact .agg _ _ hx
  · exact .vagg _ _ hx
  · exact .sagg _ _ hx
  · cases h
theorem resC_le {x : AV} {z : Vl × Int} (h : resC x = some z) : Le x (resA2 z) := by
  unfold resC at h
  split at h
  · rename_i a
    split at h
    · rename_i b e ha
      cases hv : vlOf (b.toList.map .v) with
      | none => rw [hv] at h; cases h
      | some v =>
        rw [hv] at h
        cases h
        refine .vtup _ _ ?_
        rw [ha]
        exact .cons _ _ _ _ (.vagg _ _ (vlOf_les hv)) (.cons _ _ _ _ (.vs _) .nil)
    · cases h
  · split at h
    · rename_i e1 e2
      cases h
      exact .tup _ _ (.cons _ _ _ _ (vlOf_le e1) (.cons _ _ _ _ (le_scI e2) .nil))
    · cases h
  · cases h
def finK (z : Vl × Int) : PO → Prop
  | .fin o => Goes o [resA2 z] []
  | .at _ _ _ _ => False
theorem resP_goes {p : PO} {z : Vl × Int} (h : resP p = some z) : finK z p := by
  cases p with
  | «at» => cases h
  | fin o =>
    obtain ⟨ex, ok, vals, objs⟩ := o
    unfold resP at h
    simp only [] at h
    split at h
    · exact ⟨rfl, .cons _ _ _ _ (resC_le h) .nil, .nil⟩
    · cases h
theorem okV_some : ∀ {B : Br PO}, okV B = true → ∃ z, brV B = some z
  | .no, h => by cases h
  | .leaf p, h => Option.isSome_iff_exists.1 h
  | .test b t e, h => by
    simp only [okV, Bool.and_eq_true] at h
    cases b with
    | true => exact okV_some (B := t) h.1
    | false => exact okV_some (B := e) h.2
  | .ob _ _, h => by cases h
theorem brV_goes : ∀ {B : Br PO} {z : Vl × Int}, okV B = true → brV B = some z → B.Holds (finK z)
  | .no, _, h, _ => by cases h
  | .leaf p, z, h, hz => resP_goes hz
  | .test b t e, z, h, hz => by
    simp only [okV, Bool.and_eq_true] at h
    exact ⟨fun hb => by subst hb; exact brV_goes (B := t) h.1 hz, fun hb => by subst hb; exact brV_goes (B := e) h.2 hz⟩
  | .ob _ _, _, h, _ => by cases h
/-- What it comes to. -/
def vOf (B : Br PO) : Vl × Int := (brV B).getD default
theorem vOf_ok {X : SumBr} {S : Sum} (hX : SumGO Try.prog (sumS X)) (hS : SumGO Try.prog S) {f : FuncId} (hb : bodyOk Try.prog f = true) {N fu : Nat} {inl : Nat → Bool} {args : List AV} {cf : Nat → Cfg} (tr : Br PO)
    (h0 : (ev Try.prog X S N inl fu .normal [.c 0 (codeOf Try.prog f)] (params args) Ev.start).map (lookP Try.prog (resOf Try.prog f) [] cf) = tr) (ho : okV tr = true) : OCalls Try.prog f args (resA2 (vOf tr)) [] := by
  obtain ⟨z, hz⟩ := okV_some ho
  refine floyd0 ev_mix ev_ok hX hS hb [] cf tr h0 ?_
  unfold vOf
  rw [hz]
  letI : Fz := ⟨fun _ => none, true⟩
  exact (brV_goes ho hz).mono fun p hp => by cases p with
    | fin o => exact hp
    | «at» => exact hp
end Go.Proofs.Ytengccmjlaejfaa
end
section
namespace Go.Proofs.Ytengccmjlaejfaa
open Ev Go.RowKit
set_option maxRecDepth 100000
set_option linter.unusedVariables false
noncomputable def xneg_t (P : Program) (a : Vl) : Br PO := (ev P noX cmpS 3000 noL 3000 .normal [.c 0 (codeOf P 46)] (params [vlA a]) Ev.start).map (lookP P (resOf P 46) [] (cfL []))
theorem xneg_ex : ∃ R : Vl → Vl × Int, ∀ (a : Vl), OCalls Try.prog 46 [vlA a] (resA2 (R a)) [] := ⟨fun a => vOf (xneg_t Try.prog a), fun a => vOf_ok noX_open cmpS_ok (by kernel_rfl) (xneg_t Try.prog a) rfl (by kernel_rfl)⟩
noncomputable def xnegR : Vl → Vl × Int := Classical.choose xneg_ex
theorem xneg_ok (a : Vl) : OCalls Try.prog 46 [vlA a] (resA2 (xnegR a)) [] := Classical.choose_spec xneg_ex a
noncomputable def xnot_t (P : Program) (a : Vl) : Br PO := (ev P noX cmpS 3000 noL 3000 .normal [.c 0 (codeOf P 47)] (params [vlA a]) Ev.start).map (lookP P (resOf P 47) [] (cfL []))
theorem xnot_ex : ∃ R : Vl → Vl × Int, ∀ (a : Vl), OCalls Try.prog 47 [vlA a] (resA2 (R a)) [] := ⟨fun a => vOf (xnot_t Try.prog a), fun a => vOf_ok noX_open cmpS_ok (by kernel_rfl) (xnot_t Try.prog a) rfl (by kernel_rfl)⟩
noncomputable def xnotR : Vl → Vl × Int := Classical.choose xnot_ex
theorem xnot_ok (a : Vl) : OCalls Try.prog 47 [vlA a] (resA2 (xnotR a)) [] := Classical.choose_spec xnot_ex a
noncomputable def xadd_t (P : Program) (a b : Vl) : Br PO := (ev P noX cmpS 3000 noL 3000 .normal [.c 0 (codeOf P 67)] (params [vlA a, vlA b]) Ev.start).map (lookP P (resOf P 67) [] (cfL []))
theorem xadd_ex : ∃ R : Vl → Vl → Vl × Int, ∀ (a b : Vl), OCalls Try.prog 67 [vlA a, vlA b] (resA2 (R a b)) [] := ⟨fun a b => vOf (xadd_t Try.prog a b), fun a b => vOf_ok noX_open cmpS_ok (by kernel_rfl) (xadd_t Try.prog a b) rfl (by kernel_rfl)⟩
noncomputable def xaddR : Vl → Vl → Vl × Int := Classical.choose xadd_ex
theorem xadd_ok (a b : Vl) : OCalls Try.prog 67 [vlA a, vlA b] (resA2 (xaddR a b)) [] := Classical.choose_spec xadd_ex a b
noncomputable def xsub_t (P : Program) (a b : Vl) : Br PO := (ev P noX cmpS 3000 noL 3000 .normal [.c 0 (codeOf P 62)] (params [vlA a, vlA b]) Ev.start).map (lookP P (resOf P 62) [] (cfL []))
theorem xsub_ex : ∃ R : Vl → Vl → Vl × Int, ∀ (a b : Vl), OCalls Try.prog 62 [vlA a, vlA b] (resA2 (R a b)) [] := ⟨fun a b => vOf (xsub_t Try.prog a b), fun a b => vOf_ok noX_open cmpS_ok (by kernel_rfl) (xsub_t Try.prog a b) rfl (by kernel_rfl)⟩
noncomputable def xsubR : Vl → Vl → Vl × Int := Classical.choose xsub_ex
theorem xsub_ok (a b : Vl) : OCalls Try.prog 62 [vlA a, vlA b] (resA2 (xsubR a b)) [] := Classical.choose_spec xsub_ex a b
noncomputable def xmul_t (P : Program) (a b : Vl) : Br PO := (ev P noX cmpS 3000 noL 3000 .normal [.c 0 (codeOf P 68)] (params [vlA a, vlA b]) Ev.start).map (lookP P (resOf P 68) [] (cfL []))
theorem xmul_ex : ∃ R : Vl → Vl → Vl × Int, ∀ (a b : Vl), OCalls Try.prog 68 [vlA a, vlA b] (resA2 (R a b)) [] := ⟨fun a b => vOf (xmul_t Try.prog a b), fun a b => vOf_ok noX_open cmpS_ok (by kernel_rfl) (xmul_t Try.prog a b) rfl (by kernel_rfl)⟩
noncomputable def xmulR : Vl → Vl → Vl × Int := Classical.choose xmul_ex
theorem xmul_ok (a b : Vl) : OCalls Try.prog 68 [vlA a, vlA b] (resA2 (xmulR a b)) [] := Classical.choose_spec xmul_ex a b
noncomputable def xequ_t (P : Program) (a b : Vl) : Br PO := (ev P noX cmpS 3000 noL 3000 .normal [.c 0 (codeOf P 69)] (params [vlA a, vlA b]) Ev.start).map (lookP P (resOf P 69) [] (cfL []))
theorem xequ_ex : ∃ R : Vl → Vl → Vl × Int, ∀ (a b : Vl), OCalls Try.prog 69 [vlA a, vlA b] (resA2 (R a b)) [] := ⟨fun a b => vOf (xequ_t Try.prog a b), fun a b => vOf_ok noX_open cmpS_ok (by kernel_rfl) (xequ_t Try.prog a b) rfl (by kernel_rfl)⟩
noncomputable def xequR : Vl → Vl → Vl × Int := Classical.choose xequ_ex
theorem xequ_ok (a b : Vl) : OCalls Try.prog 69 [vlA a, vlA b] (resA2 (xequR a b)) [] := Classical.choose_spec xequ_ex a b
noncomputable def xles_t (P : Program) (a b : Vl) : Br PO := (ev P noX cmpS 3000 noL 3000 .normal [.c 0 (codeOf P 70)] (params [vlA a, vlA b]) Ev.start).map (lookP P (resOf P 70) [] (cfL []))
theorem xles_ex : ∃ R : Vl → Vl → Vl × Int, ∀ (a b : Vl), OCalls Try.prog 70 [vlA a, vlA b] (resA2 (R a b)) [] := ⟨fun a b => vOf (xles_t Try.prog a b), fun a b => vOf_ok noX_open cmpS_ok (by kernel_rfl) (xles_t Try.prog a b) rfl (by kernel_rfl)⟩
noncomputable def xlesR : Vl → Vl → Vl × Int := Classical.choose xles_ex
theorem xles_ok (a b : Vl) : OCalls Try.prog 70 [vlA a, vlA b] (resA2 (xlesR a b)) [] := Classical.choose_spec xles_ex a b
noncomputable def xand_t (P : Program) (a b : Vl) : Br PO := (ev P noX cmpS 3000 noL 3000 .normal [.c 0 (codeOf P 71)] (params [vlA a, vlA b]) Ev.start).map (lookP P (resOf P 71) [] (cfL []))
theorem xand_ex : ∃ R : Vl → Vl → Vl × Int, ∀ (a b : Vl), OCalls Try.prog 71 [vlA a, vlA b] (resA2 (R a b)) [] := ⟨fun a b => vOf (xand_t Try.prog a b), fun a b => vOf_ok noX_open cmpS_ok (by kernel_rfl) (xand_t Try.prog a b) rfl (by kernel_rfl)⟩
noncomputable def xandR : Vl → Vl → Vl × Int := Classical.choose xand_ex
theorem xand_ok (a b : Vl) : OCalls Try.prog 71 [vlA a, vlA b] (resA2 (xandR a b)) [] := Classical.choose_spec xand_ex a b
noncomputable def xor_t (P : Program) (a b : Vl) : Br PO := (ev P noX cmpS 3000 noL 3000 .normal [.c 0 (codeOf P 72)] (params [vlA a, vlA b]) Ev.start).map (lookP P (resOf P 72) [] (cfL []))
theorem xor_ex : ∃ R : Vl → Vl → Vl × Int, ∀ (a b : Vl), OCalls Try.prog 72 [vlA a, vlA b] (resA2 (R a b)) [] := ⟨fun a b => vOf (xor_t Try.prog a b), fun a b => vOf_ok noX_open cmpS_ok (by kernel_rfl) (xor_t Try.prog a b) rfl (by kernel_rfl)⟩
noncomputable def xorR : Vl → Vl → Vl × Int := Classical.choose xor_ex
theorem xor_ok (a b : Vl) : OCalls Try.prog 72 [vlA a, vlA b] (resA2 (xorR a b)) [] := Classical.choose_spec xor_ex a b
noncomputable def xmeet_t (P : Program) (a b : Vl) : Br PO := (ev P noX cmpS 3000 (fun _ => true) 3000 .normal [.c 0 (codeOf P 73)] (params [vlA a, vlA b]) Ev.start).map (lookP P (resOf P 73) [] (cfL []))
theorem xmeet_ex : ∃ R : Vl → Vl → Vl × Int, ∀ (a b : Vl), OCalls Try.prog 73 [vlA a, vlA b] (resA2 (R a b)) [] := ⟨fun a b => vOf (xmeet_t Try.prog a b), fun a b => vOf_ok noX_open cmpS_ok (by kernel_rfl) (xmeet_t Try.prog a b) rfl (by kernel_rfl)⟩
noncomputable def xmeetR : Vl → Vl → Vl × Int := Classical.choose xmeet_ex
theorem xmeet_ok (a b : Vl) : OCalls Try.prog 73 [vlA a, vlA b] (resA2 (xmeetR a b)) [] := Classical.choose_spec xmeet_ex a b
end Go.Proofs.Ytengccmjlaejfaa
end
