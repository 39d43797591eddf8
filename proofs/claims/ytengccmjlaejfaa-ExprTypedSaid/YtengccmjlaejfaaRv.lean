/- What a function without loops comes to, read off its tree; strings.Compare. No condition. -/
import Derived.Test.YtengccmjlaejfaaMg12
import Derived.Test.YtengccmjlaejfaaMix
import Derived.Shelf.Small.Strs
namespace Go.Proofs.Ytengccmjlaejfaa
open Ev Go.RowKit
set_option maxRecDepth 100000
set_option linter.unusedVariables false
def cmpL_ren : Go.Shelf.Ren := ⟨fun k => match k with
  | 106 => 93
  | 213 => 97
  | 265 => 100
  | k => k, fun k => match k with
  | 3 => 3
  | 9 => 9
  | k => k, fun x => x⟩
theorem cmpL : Go.Proofs.Lays.n106 Try.prog cmpL_ren where
  mixed := by kernel_rfl
  f106 := by kernel_rfl
  f213 := by kernel_rfl
  f265 := by kernel_rfl
  t3 := by kernel_rfl
  a3 := fun _ => by kernel_rfl
  z3 := fun _ => by kernel_rfl
  v3 := fun _ => by kernel_rfl
  t9 := by kernel_rfl
  a9 := fun _ => by kernel_rfl
  z9 := fun _ => by kernel_rfl
  v9 := fun _ => by kernel_rfl
def cmpS : Sum := plT 93 fun
  | [.string a, .string b] => some (.int .i64 (Lib.compareBytes a.data.toList b.data.toList))
  | _ => none
theorem cmpS_ok : SumGO Try.prog cmpS := (plT_ok (by kernel_rfl) fun xs v h w => by
  split at h
  · cases h
    refine (Go.Proofs.Any.strings_Compare cmpL _ _ w).mono ?_
    rintro e w' ⟨rfl, rfl⟩
    exact ⟨rfl, Fr.refl _ _⟩
  · cases h).open
/- What a function without loops comes to, of a value and a number: read off its tree. -/
def vlOf : List AV → Option Vl
  | [a, b, c, d] => match scI .u8 a, scI .i64 b, scI .i64 c, scS d with
    | some k, some n, some hi, some t => some ⟨k, n, hi, t⟩
    | _, _, _, _ => none
  | _ => none
def resC (x : AV) : Option (Vl × Int) := match x with
  | .v (.tuple a) => match a.toList with
    | [.agg b, .int .i64 e] => (vlOf (b.toList.map .v)).map fun v => (v, e)
    | _ => none
  | .tup [y, z] => match vlOf (partsA y), scI .i64 z with
    | some v, some e => some (v, e)
    | _, _ => none
  | _ => none
def resP : PO → Option (Vl × Int)
  | .fin o => match o.ok, o.vals, o.objs with
    | true, [some x], [] => resC x
    | _, _, _ => none
  | .at _ _ _ _ => none
def brV : Br PO → Option (Vl × Int)
  | .test b t e => bif b then brV t else brV e
  | .leaf p => resP p
  | _ => none
def okV : Br PO → Bool
  | .test _ t e => okV t && okV e
  | .leaf p => (resP p).isSome
  | _ => false
def resA2 (z : Vl × Int) : AV := .tup [vlA z.1, .s (.int .i64 z.2)]
theorem le_scI {k : IntKind} {x : AV} {z : Int} (h : scI k x = some z) : Le x (.s (.int k z)) := by
  unfold scI at h
  split at h
  · rename_i k' z'
    by_cases c : k = k'
    · rw [decide_eq_true c] at h; cases h; subst c; exact .vs _
    · rw [decide_eq_false c] at h; cases h
  · rename_i k' z'
    by_cases c : k = k'
    · rw [decide_eq_true c] at h; cases h; subst c; exact .refl _
    · rw [decide_eq_false c] at h; cases h
  · cases h
theorem le_scS {x : AV} {z : ByteArray} (h : scS x = some z) : Le x (.s (.string z)) := by
  unfold scS at h
  split at h
  · cases h; exact .vs _
  · cases h; exact .refl _
  · cases h
theorem vlOf_les {xs : List AV} {v : Vl} (h : vlOf xs = some v) : Les xs [.s (.int .u8 v.k), .s (.int .i64 v.n), .s (.int .i64 v.hi), .s (.string v.t)] := by
  unfold vlOf at h
  split at h
  · split at h
    · rename_i e1 e2 e3 e4
      cases h
      exact .cons _ _ _ _ (le_scI e1) (.cons _ _ _ _ (le_scI e2) (.cons _ _ _ _ (le_scI e3) (.cons _ _ _ _ (le_scS e4) .nil)))
    · cases h
  · cases h
theorem vlOf_le {x : AV} {v : Vl} (h : vlOf (partsA x) = some v) : Le x (vlA v) := by
  have hx := vlOf_les h
  unfold partsA at h hx
  split at h
  · exact .agg _ _ hx
  · exact .vagg _ _ hx
  · exact .sagg _ _ hx
  · cases h
theorem resC_le {x : AV} {z : Vl × Int} (h : resC x = some z) : Le x (resA2 z) := by
  unfold resC at h
  split at h
  · rename_i a
    split at h
    · rename_i b e ha
      cases hv : vlOf (b.toList.map .v) with
      | none => rw [hv] at h; cases h
      | some v =>
        rw [hv] at h
        cases h
        refine .vtup _ _ ?_
        rw [ha]
        exact .cons _ _ _ _ (.vagg _ _ (vlOf_les hv)) (.cons _ _ _ _ (.vs _) .nil)
    · cases h
  · split at h
    · rename_i e1 e2
      cases h
      exact .tup _ _ (.cons _ _ _ _ (vlOf_le e1) (.cons _ _ _ _ (le_scI e2) .nil))
    · cases h
  · cases h
def finK (z : Vl × Int) : PO → Prop
  | .fin o => Goes o [resA2 z] []
  | .at _ _ _ _ => False
theorem resP_goes {p : PO} {z : Vl × Int} (h : resP p = some z) : finK z p := by
  cases p with
  | «at» => cases h
  | fin o =>
    obtain ⟨ex, ok, vals, objs⟩ := o
    unfold resP at h
    simp only [] at h
    split at h
    · exact ⟨rfl, .cons _ _ _ _ (resC_le h) .nil, .nil⟩
    · cases h
theorem okV_some : ∀ {B : Br PO}, okV B = true → ∃ z, brV B = some z
  | .no, h => by cases h
  | .leaf p, h => Option.isSome_iff_exists.1 h
  | .test b t e, h => by
    simp only [okV, Bool.and_eq_true] at h
    cases b with
    | true => exact okV_some (B := t) h.1
    | false => exact okV_some (B := e) h.2
  | .ob _ _, h => by cases h
theorem brV_goes : ∀ {B : Br PO} {z : Vl × Int}, okV B = true → brV B = some z → B.Holds (finK z)
  | .no, _, h, _ => by cases h
  | .leaf p, z, h, hz => resP_goes hz
  | .test b t e, z, h, hz => by
    simp only [okV, Bool.and_eq_true] at h
    exact ⟨fun hb => by subst hb; exact brV_goes (B := t) h.1 hz, fun hb => by subst hb; exact brV_goes (B := e) h.2 hz⟩
  | .ob _ _, _, h, _ => by cases h
/-- What it comes to. -/
def vOf (B : Br PO) : Vl × Int := (brV B).getD default
theorem vOf_ok {X : SumBr} {S : Sum} (hX : SumGO Try.prog (sumS X)) (hS : SumGO Try.prog S) {f : FuncId} (hb : bodyOk Try.prog f = true) {N fu : Nat} {inl : Nat → Bool} {args : List AV} {cf : Nat → Cfg} (tr : Br PO)
    (h0 : (ev Try.prog X S N inl fu .normal [.c 0 (codeOf Try.prog f)] (params args) Ev.start).map (lookP Try.prog (resOf Try.prog f) [] cf) = tr) (ho : okV tr = true) : OCalls Try.prog f args (resA2 (vOf tr)) [] := by
  obtain ⟨z, hz⟩ := okV_some ho
  refine floyd0 ev_mix ev_ok hX hS hb [] cf tr h0 ?_
  unfold vOf
  rw [hz]
  letI : Fz := ⟨fun _ => none, true⟩
  exact (brV_goes ho hz).mono fun p hp => by cases p with
    | fin o => exact hp
    | «at» => exact hp
end Go.Proofs.Ytengccmjlaejfaa
