/- Small facts: texts by their bytes, first places, wraps. No condition. -/
import Derived.Test.YtengccmjlaejfaaMg14
import Derived.Laws.Strings
import Derived.Test.YtengccmjlaejfaaMg15
section
namespace Go.Proofs.Ytengccmjlaejfaa
namespace Ev
open Go.RowKit
theorem ba_eq {a b : ByteArray} : (a.toList == b.toList) = decide (a = b) := by
  by_cases h : a = b
  · subst h; simp
  · rw [decide_eq_false h]
    simp only [beq_eq_false_iff_ne, ne_eq]
    intro e
    apply h
    rw [ByteArray.toList_eq, ByteArray.toList_eq] at e
    exact ByteArray.ext (Array.toList_inj.1 e)
theorem wrap_id {x : Int} (h : -9223372036854775808 ≤ x ∧ x ≤ 9223372036854775807) : IntKind.i64.wrap x = x := by
  unfold IntKind.wrap
  simp [IntKind.bits, IntKind.signed]
  omega
theorem wrap_lt {n : Int} (h0 : -9223372036854775808 ≤ n) (h1 : n ≤ 9223372036854775807) : IntKind.i64.wrap n = n := wrap_id ⟨h0, h1⟩
theorem small_ok {n : Nat} (h : n ≤ 1073741824) : small n = true := by unfold small; simpa using h
theorem hT {α : Type} {K : α → Prop} {b : Bool} {t e : Br α} (hb : b = true) (h : t.Holds K) : (Br.test b t e).Holds K := ⟨fun _ => h, fun c => by rw [hb] at c; cases c⟩
theorem hF {α : Type} {K : α → Prop} {b : Bool} {t e : Br α} (hb : b = false) (h : e.Holds K) : (Br.test b t e).Holds K := ⟨fun c => (by rw [hb] at c; cases c), fun _ => h⟩
theorem ble_yes {a b : Nat} (h : a ≤ b) : Nat.ble a b = true := by simpa using h
/-- The test of a place in a list. -/
theorem idx_ok {i n : Nat} (h : i < n) : (decide (0 ≤ (i : Int)) && decide ((i : Int) < (n : Int))) = true := by
  rw [decide_eq_true (by omega), decide_eq_true (by omega)]; rfl
/-- The test of an append. -/
theorem app_ok {n b m k : Nat} (hb : b = k) (h1 : m + n ≤ 1073741824) (h2 : k * (m + n) ≤ 1073741824) : (Nat.beq n n && (true && (small (m + n) && small (b * (m + n))))) = true := by
  subst hb
  rw [Nat.beq_refl, small_ok h1, small_ok h2]; rfl
theorem rel_nat {a b : Nat} (h : a < b) : WellFoundedRelation.rel a b := h
theorem Le.ofEq {x y : AV} (h : x = y) : Le x y := h ▸ .refl x
/-- A list that may be nothing. -/
def asL (ks : List TK) : AV → Option ((Nat → Nat → D) × Nat)
  | .fz f len ks' => bif ksEq ks ks' then some (f, len) else none
  | .s (.slice none 0 0) => some (fun _ _ => .v undef, 0)
  | .z0 => some (fun _ _ => .v undef, 0)
  | _ => none
theorem asL_rel {α : Type} [Inhabited α] [Rec α] [Fz] {x : AV} {f : Nat → Nat → D} {len : Nat} {ρ : Rho} {y : Value} (hgc : Fz.gc = false) (h : asL (Rec.ks α) x = some (f, len)) (r : VRel ρ x y) : VRel ρ (.fz (eL (dL α f len)) (dL α f len).length (Rec.ks α)) y := by
  rw [dL_length]
  refine fz_eL ?_
  unfold asL at h
  split at h
  · rename_i f' len' ks'
    cases hk : ksEq (Rec.ks α) ks' with
    | false => rw [hk] at h; cases h
    | true => rw [hk] at h; cases h; rw [ksEq_eq hk]; exact r
  · cases h; cases r; refine ⟨hgc, ?_⟩; unfold FzRel; exact .inl ⟨rfl, none, 0, rfl, fun _ => rfl⟩
  · cases h; obtain ⟨a, rfl⟩ := r; refine ⟨hgc, ?_⟩; unfold FzRel; exact .inl ⟨rfl, a, 0, rfl, fun _ => rfl⟩
  · cases h
/-- The first place in a list where something holds. -/
def idxF {α : Type} (p : α → Bool) (L : List α) : Int := if L.any p then (L.findIdx p : Int) else -1
theorem idxF_hit {α : Type} [Inhabited α] {p : α → Bool} {L : List α} {i : Nat} (hi : i < L.length) (h : p (L.getD i default) = true) (hn : ∀ k, k < i → p (L.getD k default) = false) : idxF p L = i := by
  have hx : p L[i] = true := by simpa [List.getD_eq_getElem?_getD, hi] using h
  unfold idxF
  rw [if_pos (List.any_eq_true.2 ⟨_, List.getElem_mem hi, hx⟩)]
  congr 1
  refine (List.findIdx_eq hi).2 ⟨hx, fun j hj => ?_⟩
  have := hn j hj
  simpa [List.getD_eq_getElem?_getD, show j < L.length by omega] using this
theorem idxF_none {α : Type} [Inhabited α] {p : α → Bool} {L : List α} (hn : ∀ k, k < L.length → p (L.getD k default) = false) : idxF p L = -1 := by
  unfold idxF
  rw [if_neg]
  intro h
  obtain ⟨x, hm, hx⟩ := List.any_eq_true.1 h
  obtain ⟨i, hi, rfl⟩ := List.getElem_of_mem hm
  have := hn i hi
  rw [show L.getD i default = L[i] by simp [List.getD_eq_getElem?_getD, hi]] at this
  rw [this] at hx; cases hx
theorem idxF_ge {α : Type} (p : α → Bool) (L : List α) : decide (idxF p L ≥ 0) = L.any p := by
  unfold idxF
  cases h : L.any p with
  | true => simp
  | false => simp
theorem getD_mem {α : Type} [Inhabited α] {L : List α} {i : Nat} (h : i < L.length) : L.getD i default ∈ L := by
  simp [List.getD_eq_getElem?_getD, h]
/-- Whatever holds ahead of a place, and there. -/
theorem upto_next {p : Nat → Prop} {i : Nat} (h : ∀ k, k < i → p k) (hi : p i) : ∀ k, k < i + 1 → p k := fun k hk => by
  rcases Nat.lt_or_ge k i with c | c
  · exact h k c
  · obtain rfl : k = i := by omega
    exact hi
end Ev
end Go.Proofs.Ytengccmjlaejfaa
end
section
namespace Go.Proofs.Ytengccmjlaejfaa
open Ev Go.RowKit
theorem hS {α : Type} {K : α → Prop} {b : Bool} {t e : Br α} (h1 : b = true → t.Holds K) (h2 : b = false → e.Holds K) : (Br.test b t e).Holds K := ⟨h1, h2⟩
theorem hSd {α : Type} {K : α → Prop} {p : Prop} [Decidable p] {t e : Br α} (h1 : p → t.Holds K) (h2 : ¬ p → e.Holds K) : (Br.test (decide p) t e).Holds K := ⟨fun h => h1 (of_decide_eq_true h), fun h => h2 (of_decide_eq_false h)⟩
theorem hSe {α : Type} {K : α → Prop} {a b : Int} {t e : Br α} (h1 : a = b → t.Holds K) (h2 : a ≠ b → e.Holds K) : (Br.test (a == b) t e).Holds K := ⟨fun h => h1 (by simpa using h), fun h => h2 (by simpa using h)⟩
theorem hSi {α : Type} {K : α → Prop} {i n : Nat} {t : Br α} (h : i < n) (h1 : t.Holds K) : (Br.test (decide (0 ≤ (i : Int)) && decide ((i : Int) < (n : Int))) t .no).Holds K := hT (idx_ok h) h1
end Go.Proofs.Ytengccmjlaejfaa
end
section
namespace Go.Proofs.Ytengccmjlaejfaa
namespace Ev
open Go.RowKit
set_option linter.unusedSectionVars false
variable {P : Program}

theorem OWCalls.le {k : Nat} {f : FuncId} {args args' : List AV} {os os' : List AO} {v : AV} (h : OWCalls P k f args os v os') (hl : Les args' args) : OWCalls P k f args' os v os' := ⟨@fun I hgc ρ w ys hys hh => h.run hgc ρ w ys (hl.rel hgc hys) hh⟩
theorem OWCalls.bnd {k : Nat} {f : FuncId} {args : List AV} {os os' : List AO} {v : AV} (h : bndL args → OWCalls P k f args os v os') : OWCalls P k f args os v os' := ⟨@fun I hgc ρ w ys hys hh => (h (bndL_of _ _ hys)).run hgc ρ w ys hys hh⟩
structure ObC (P : Program) (f : FuncId) (args : List AV) (v : AV) (os : List AO) : Prop where
  h : OCalls P f args v os
structure ObW (P : Program) (k : Nat) (f : FuncId) (args : List AV) (os : List AO) (v : AV) (os' : List AO) : Prop where
  h : OWCalls P k f args os v os'
structure ObE (x y : AV) : Prop where
  h : Le x y
structure ObO (x : List OS) (y : List AO) : Prop where
  h : OLes x y
/-- An argument's kind: as what it is read, and how it is written then. -/
structure AK (α : Type) where
  dec : AV → Option α
  can : α → AV
  pre : AV → α → List Prop
  ok : ∀ [Fz], Fz.gc = false → ∀ (ρ : Rho) (x : AV) (a : α) (y : Value), dec x = some a → (∀ p ∈ pre x a, p) → VRel ρ x y → VRel ρ (can a) y
structure AKs (α : Type) where
  dec : List AV → Option α
  can : α → List AV
  pre : List AV → α → List Prop
  ok : ∀ [Fz], Fz.gc = false → ∀ (ρ : Rho) (xs : List AV) (a : α) (ys : List Value), dec xs = some a → (∀ p ∈ pre xs a, p) → VRels ρ xs ys → VRels ρ (can a) ys
def AKs.nil : AKs Unit where
  dec l := match l with
    | [] => some ()
    | _ => none
  can _ := []
  pre _ _ := []
  ok _ ρ xs a ys h _ r := by
    cases xs with
    | nil => exact r
    | cons x xs => cases h
def AKs.cons {α β : Type} (k : AK α) (ks : AKs β) : AKs (α × β) where
  dec l := match l with
    | x :: xs => match k.dec x with
      | some a => match ks.dec xs with
        | some b => some (a, b)
        | none => none
      | none => none
    | [] => none
  can z := k.can z.1 :: ks.can z.2
  pre l z := match l with
    | x :: xs => k.pre x z.1 ++ ks.pre xs z.2
    | [] => []
  ok hgc ρ xs z ys h hp r := by
    cases xs with
    | nil => cases h
    | cons x xs =>
      obtain ⟨y, s, rfl, h1, h2⟩ := r
      simp only [] at h
      split at h
      · rename_i a ha
        split at h
        · rename_i b hb
          cases h
          exact ⟨y, s, rfl, k.ok hgc ρ x a y ha (fun p hm => hp p (List.mem_append_left _ hm)) h1, ks.ok hgc ρ xs b s hb (fun p hm => hp p (List.mem_append_right _ hm)) h2⟩
        · cases h
      · cases h
def obs {α : Type} : List Prop → Br α → Br α
  | [], k => k
  | p :: r, k => .ob p (obs r k)
theorem obs_at {α : Type} {B : Br α} {r : α} : ∀ {l : List Prop}, (obs l B).At r → (∀ p ∈ l, p) ∧ B.At r
  | [], h => ⟨fun p hp => by simp at hp, h⟩
  | p :: l, h => by
    obtain ⟨h1, h2⟩ := obs_at h.2
    exact ⟨fun q hq => by rcases List.mem_cons.1 hq with rfl | hq; exact h.1; exact h1 q hq, h2⟩
/-- What is said of a callee. -/
def obX (P : Program) (f : FuncId) {α : Type} (ks : AKs α) (r : α → Br (AV × List AO)) : SumBr := oX f fun xs => match ks.dec xs with
  | some a => some (obs (ks.pre xs a) ((r a).bind fun z => .ob (ObC P f (ks.can a) z.1 z.2) (.leaf z)))
  | none => none
theorem obX_ok {f : FuncId} {α : Type} {ks : AKs α} {r : α → Br (AV × List AO)} (he : entersB P f = true) : SumGO P (sumS (obX P f ks r)) := oX_ok he fun xs B z h hB => by
  split at h
  · rename_i a ha
    cases h
    obtain ⟨h1, h2⟩ := obs_at hB
    obtain ⟨q, k1, k2⟩ := Br.at_bind h2
    obtain ⟨k3, k4⟩ := k2
    cases k4
    refine k3.h.leS fun m ys hys => ?_
    letI : Fz := ⟨m, false⟩
    exact ks.ok rfl _ xs a ys ha h1 hys
  · cases h
/-- The same of one that writes what its caller owns. -/
def obW (P : Program) (f : FuncId) (kl ml : List (Nat × List Nat)) {α : Type} (ks : AKs α) (g : α → List OS → Option (List AO × Br (AV × List AO))) : SumBr := wX f kl ml fun xs oss => match ks.dec xs with
  | some a => match g a oss with
    | some (os, B) => some (obs (ks.pre xs a) (.ob (ObO oss os) (B.bind fun z => .ob (ObW P kl.length f (ks.can a) os z.1 z.2) (.leaf z))))
    | none => none
  | none => none
theorem obW_ok {f : FuncId} {kl ml : List (Nat × List Nat)} {α : Type} {ks : AKs α} {g : α → List OS → Option (List AO × Br (AV × List AO))} (he : entersB P f = true) : SumGO P (sumS (obW P f kl ml ks g)) := wX_ok he fun xs oss B z h hB => by
  split at h
  · rename_i a ha
    split at h
    · rename_i os B0 hg
      cases h
      obtain ⟨h1, h2⟩ := obs_at hB
      obtain ⟨h3, h4⟩ := h2
      obtain ⟨q, k1, k2⟩ := Br.at_bind h4
      obtain ⟨k3, k4⟩ := k2
      cases k4
      exact ⟨ks.can a, os, fun hgc ρ ys hys => ks.ok hgc ρ xs a ys ha h1 hys, h3.h, k3.h⟩
    · cases h
  · cases h

/- Kinds. -/
def aI (k : IntKind) : AK Int where
  dec x := match x with
    | .v (.int k' z) => bif decide (k = k') then some z else none
    | .s (.int k' z) => bif decide (k = k') then some z else none
    | _ => none
  can z := .s (.int k z)
  pre _ _ := []
  ok hgc ρ x a y h _ r := by
    split at h
    · rename_i k' z
      by_cases c : k = k'
      · rw [decide_eq_true c] at h; cases h; subst c; exact r
      · rw [decide_eq_false c] at h; cases h
    · rename_i k' z
      by_cases c : k = k'
      · rw [decide_eq_true c] at h; cases h; subst c; exact r
      · rw [decide_eq_false c] at h; cases h
    · cases h
def aS : AK ByteArray where
  dec x := match x with
    | .v (.string z) => some z
    | .s (.string z) => some z
    | _ => none
  can z := .s (.string z)
  pre _ _ := []
  ok hgc ρ x a y h _ r := by
    split at h
    · cases h; exact r
    · cases h; exact r
    · cases h
def aB : AK Bool where
  dec x := match x with
    | .v (.bool z) => some z
    | .s (.bool z) => some z
    | _ => none
  can z := .s (.bool z)
  pre _ _ := []
  ok hgc ρ x a y h _ r := by
    split at h
    · cases h; exact r
    · cases h; exact r
    · cases h
/-- What it is, as it stands. -/
def aX : AK AV where
  dec x := some x
  can x := x
  pre _ _ := []
  ok hgc ρ x a y h _ r := by cases h; exact r
/-- By an obligation: d: what it is read as; it is no more than c writes. -/
def aO {α : Type} (d : AV → α) (c : α → AV) : AK α where
  dec x := some (d x)
  can := c
  pre x a := [ObE x (c a)]
  ok hgc ρ x a y h hp r := by cases h; exact (hp _ (List.mem_singleton.2 rfl)).h.rel hgc r
/-- A list of records. -/
def aL (α : Type) [Inhabited α] [Rec α] : AK (List α) where
  dec x := match asL (Rec.ks α) x with
    | some (f, n) => some (dL α f n)
    | none => none
  can L := .fz (eL L) L.length (Rec.ks α)
  pre _ _ := []
  ok hgc ρ x a y h _ r := by
    split at h
    · rename_i f n hx
      cases h
      exact asL_rel hgc hx r
    · cases h
/-- Kinds that ask for nothing. -/
def AKs.Free {α : Type} (ks : AKs α) : Prop := ∀ xs a, ks.pre xs a = []
theorem free_nil : AKs.nil.Free := fun _ _ => rfl
theorem free_cons {α β : Type} {k : AK α} {ks : AKs β} (h1 : ∀ x a, k.pre x a = []) (h2 : ks.Free) : (AKs.cons k ks).Free := fun xs a => by
  cases xs with
  | nil => rfl
  | cons x xs => show k.pre x a.1 ++ ks.pre xs a.2 = []; rw [h1, h2]; rfl
/-- What is said of a callee whatever it is given. -/
def plX (f : FuncId) {α : Type} (ks : AKs α) (r : α → AV × List AO) : SumBr := oX f fun xs => match ks.dec xs with
  | some a => some (.leaf (r a))
  | none => none
theorem plX_ok {f : FuncId} {α : Type} {ks : AKs α} {r : α → AV × List AO} (he : entersB P f = true) (hf : ks.Free) (h : ∀ a, OCalls P f (ks.can a) (r a).1 (r a).2) : SumGO P (sumS (plX f ks r)) := oX_ok he fun xs B z hx hB => by
  split at hx
  · rename_i a ha
    cases hx
    cases hB
    refine (h a).leS fun m ys hys => ?_
    letI : Fz := ⟨m, false⟩
    exact ks.ok rfl _ xs a ys ha (fun p hp => by rw [hf] at hp; simp at hp) hys
  · cases hx
theorem HO {α : Type} {K : α → Prop} {p : Prop} {k : Br α} (hp : p) : (Br.ob p k).Holds K = k.Holds K := propext ⟨fun h => h.2, fun h => ⟨hp, h⟩⟩
theorem hO {α : Type} {K : α → Prop} {p : Prop} {k : Br α} (hp : p) (h : k.Holds K) : (Br.ob p k).Holds K := ⟨hp, h⟩
theorem noSQ : SumGO P noS := noS_ok.open
end Ev
end Go.Proofs.Ytengccmjlaejfaa
end
section
namespace Go.Proofs.Ytengccmjlaejfaa
open Ev Go.RowKit
set_option linter.unusedVariables false
/-- A value. -/
structure Vl where
  k : Int
  n : Int
  hi : Int
  t : ByteArray
deriving DecidableEq
instance : Inhabited Vl := ⟨⟨0, 0, 0, ⟨#[]⟩⟩⟩
instance : Rec Vl where
  ks := [.int .u8, .int .i64, .int .i64, .str]
  enc s c := match c with
    | 0 => .v (.int .u8 s.k)
    | 1 => .v (.int .i64 s.n)
    | 2 => .v (.int .i64 s.hi)
    | _ => .v (.string s.t)
  dec g := ⟨match g 0 with
    | .v (.int _ s) => s
    | _ => 0, match g 1 with
    | .v (.int _ s) => s
    | _ => 0, match g 2 with
    | .v (.int _ s) => s
    | _ => 0, match g 3 with
    | .v (.string s) => s
    | _ => ⟨#[]⟩⟩
  fit a c tk h := by
    match c with
    | 0 => simp at h; subst h; rfl
    | 1 => simp at h; subst h; rfl
    | 2 => simp at h; subst h; rfl
    | 3 => simp at h; subst h; rfl
    | c + 4 => simp at h
  dec_enc a := rfl
  enc_dec g h c hc := by
    have h0 := h 0 (.int .u8) rfl
    have h1 := h 1 (.int .i64) rfl
    have h2 := h 2 (.int .i64) rfl
    have h3 := h 3 .str rfl
    match c, hc with
    | 0, _ =>
      cases hg : g 0 with
      | v x => rw [hg] at h0; cases x <;> simp_all [TK.fit]
      | l f n ks => rw [hg] at h0; cases h0
    | 1, _ =>
      cases hg : g 1 with
      | v x => rw [hg] at h1; cases x <;> simp_all [TK.fit]
      | l f n ks => rw [hg] at h1; cases h1
    | 2, _ =>
      cases hg : g 2 with
      | v x => rw [hg] at h2; cases x <;> simp_all [TK.fit]
      | l f n ks => rw [hg] at h2; cases h2
    | 3, _ =>
      cases hg : g 3 with
      | v x => rw [hg] at h3; cases x <;> simp_all [TK.fit]
      | l f n ks => rw [hg] at h3; cases h3
def vlA (v : Vl) : AV := .agg [.s (.int .u8 v.k), .s (.int .i64 v.n), .s (.int .i64 v.hi), .s (.string v.t)]
def scI (k : IntKind) : AV → Option Int
  | .v (.int k' z) => bif decide (k = k') then some z else none
  | .s (.int k' z) => bif decide (k = k') then some z else none
  | _ => none
def scS : AV → Option ByteArray
  | .v (.string z) => some z
  | .s (.string z) => some z
  | _ => none
theorem scI_rel [Fz] {k : IntKind} {x : AV} {z : Int} {ρ : Rho} {y : Value} (h : scI k x = some z) (r : VRel ρ x y) : VRel ρ (.s (.int k z)) y := by
  unfold scI at h
  split at h
  · rename_i k' z'
    by_cases c : k = k'
    · rw [decide_eq_true c] at h; cases h; subst c; exact r
    · rw [decide_eq_false c] at h; cases h
  · rename_i k' z'
    by_cases c : k = k'
    · rw [decide_eq_true c] at h; cases h; subst c; exact r
    · rw [decide_eq_false c] at h; cases h
  · cases h
theorem scS_rel [Fz] {x : AV} {z : ByteArray} {ρ : Rho} {y : Value} (h : scS x = some z) (r : VRel ρ x y) : VRel ρ (.s (.string z)) y := by
  unfold scS at h
  split at h
  · cases h; exact r
  · cases h; exact r
  · cases h
/-- The parts of a value that stands as a whole. -/
def partsA : AV → List AV
  | .agg cs => cs
  | .v (.agg a) => a.toList.map .v
  | .s (.agg a) => a.toList.map .s
  | _ => []
theorem partsA_rel [Fz] {x : AV} {ρ : Rho} {y : Value} (h : partsA x ≠ []) (r : VRel ρ x y) : ∃ ys, y = .agg ys ∧ VRels ρ (partsA x) ys.toList := by
  unfold partsA at h ⊢
  split
  · exact r
  · rename_i a; cases r; exact ⟨a, rfl, vrels_v _⟩
  · rename_i a; cases r; exact ⟨a, rfl, vrels_s _⟩
  · rename_i h1 h2 h3
    exfalso
    split at h
    · exact h1 _ rfl
    · exact h2 _ rfl
    · exact h3 _ rfl
    · exact h rfl
/-- A value as an argument. -/
def aV : AK Vl where
  dec x := match partsA x with
    | [a, b, c, d] => match scI .u8 a, scI .i64 b, scI .i64 c, scS d with
      | some k, some n, some hi, some t => some ⟨k, n, hi, t⟩
      | _, _, _, _ => none
    | _ => none
  can := vlA
  pre _ _ := []
  ok hgc ρ x a y h _ r := by
    split at h
    · rename_i a b c d hx
      split at h
      · rename_i k n hi t e1 e2 e3 e4
        cases h
        obtain ⟨ys, hy, g⟩ := partsA_rel (by rw [hx]; simp) r
        subst hy
        rw [hx] at g
        obtain ⟨y1, s1, q1, r1, y2, s2, q2, r2, y3, s3, q3, r3, y4, s4, q4, r4, q5⟩ := g
        exact ⟨ys, rfl, y1, s1, q1, scI_rel e1 r1, y2, s2, q2, scI_rel e2 r2, y3, s3, q3, scI_rel e3 r3, y4, s4, q4, scS_rel e4 r4, q5⟩
      · cases h
    · cases h
/-- An expression. -/
structure Tr where
  op : Int
  k : Int
  vn : Int
  hi : Int
  t : ByteArray
  n : Int
  args : List Tr
instance : Inhabited Tr := ⟨⟨0, 0, 0, 0, ⟨#[]⟩, 0, []⟩⟩
def Tr.v (t : Tr) : Vl := ⟨t.k, t.vn, t.hi, t.t⟩
abbrev ksE : List TK := [.int .u8, .int .u8, .int .i64, .int .i64, .str, .int .i64, .lst]
mutual
def trC : Tr → Nat → D
  | ⟨op, k, vn, hi, t, n, as1⟩ => fun c => match c with
    | 0 => .v (.int .u8 op)
    | 1 => .v (.int .u8 k)
    | 2 => .v (.int .i64 vn)
    | 3 => .v (.int .i64 hi)
    | 4 => .v (.string t)
    | 5 => .v (.int .i64 n)
    | _ => .l (trLs as1) as1.length ksE
def trLs : List Tr → Nat → Nat → D
  | [] => fun _ _ => .v undef
  | a :: r => fun i => match i with
    | 0 => trC a
    | i + 1 => trLs r i
end
def eT (L : List Tr) : Nat → Nat → D := fun i c => match c with
  | 0 => .v (.int .u8 (L.getD i default).op)
  | 1 => .v (.int .u8 (L.getD i default).k)
  | 2 => .v (.int .i64 (L.getD i default).vn)
  | 3 => .v (.int .i64 (L.getD i default).hi)
  | 4 => .v (.string (L.getD i default).t)
  | 5 => .v (.int .i64 (L.getD i default).n)
  | _ => .l (trLs (L.getD i default).args) (L.getD i default).args.length ksE
theorem trC_eq (t : Tr) (c : Nat) : trC t c = eT [t] 0 c := by
  obtain ⟨op, k, vn, hi, tx, n, as1⟩ := t
  unfold trC eT
  rfl
theorem trLs_eq : ∀ (L : List Tr) (i c : Nat), i < L.length → trLs L i c = eT L i c
  | [], i, c, h => by simp at h
  | a :: r, 0, c, h => by
    unfold trLs
    exact trC_eq a c
  | a :: r, i + 1, c, h => by
    have := trLs_eq r i c (by simpa using h)
    unfold trLs
    refine this.trans ?_
    unfold eT
    simp only [List.getD_cons_succ]
def trA (t : Tr) : AV := .agg [.s (.int .u8 t.op), .s (.int .u8 t.k), .s (.int .i64 t.vn), .s (.int .i64 t.hi), .s (.string t.t), .s (.int .i64 t.n), .fz (trLs t.args) t.args.length ksE]
/-- One whose parts are to be looked at. -/
def trO (t : Tr) : AV := .agg [.s (.int .u8 t.op), .s (.int .u8 t.k), .s (.int .i64 t.vn), .s (.int .i64 t.hi), .s (.string t.t), .s (.int .i64 t.n), .fz (eT t.args) t.args.length ksE]
theorem trO_le (t : Tr) : Le (trA t) (trO t) := .agg _ _ (.cons _ _ _ _ (.refl _) (.cons _ _ _ _ (.refl _) (.cons _ _ _ _ (.refl _) (.cons _ _ _ _ (.refl _) (.cons _ _ _ _ (.refl _) (.cons _ _ _ _ (.refl _) (.cons _ _ _ _ (.fz _ _ _ _ fun i c hi _ => (trLs_eq _ i c hi).symm) .nil)))))))
theorem trA_le (t : Tr) : Le (trO t) (trA t) := .agg _ _ (.cons _ _ _ _ (.refl _) (.cons _ _ _ _ (.refl _) (.cons _ _ _ _ (.refl _) (.cons _ _ _ _ (.refl _) (.cons _ _ _ _ (.refl _) (.cons _ _ _ _ (.refl _) (.cons _ _ _ _ (.fz _ _ _ _ fun i c hi _ => trLs_eq _ i c hi) .nil)))))))
theorem Ev.DEq.v_inj {x y : Value} (h : DEq (.v x) (.v y)) : x = y := by cases h; rfl
theorem Ev.DEq.l_inj {f g : Nat → Nat → D} {n m : Nat} {ks ks' : List TK} (h : DEq (.l f n ks) (.l g m ks')) : n = m ∧ ∀ i c, i < n → c < ks.length → DEq (f i c) (g i c) := by
  cases h with
  | refl => exact ⟨rfl, fun _ _ _ _ => .refl _⟩
  | l _ _ _ _ h => exact ⟨rfl, h⟩
theorem Ev.DEq.symm {d e : D} (h : DEq d e) : DEq e d := by
  induction h with
  | refl => exact .refl _
  | l f g len ks _ ih => exact .l _ _ _ _ ih
theorem Ev.DEq.trans {d e : D} (h : DEq d e) : ∀ {f : D}, DEq e f → DEq d f := by
  induction h with
  | refl => exact fun h => h
  | l f g len ks hq ih =>
    intro x hx
    cases hx with
    | refl => exact .l _ _ _ _ hq
    | l _ g' _ _ h2 => exact .l _ _ _ _ fun i c hi hc => ih i c hi hc (h2 i c hi hc)
mutual
theorem trC_inj : ∀ {a b : Tr}, (∀ c, c < 7 → DEq (trC a c) (trC b c)) → a = b
  | ⟨op, k, vn, hi, t, n, as1⟩, ⟨op', k', vn', hi', t', n', as'⟩, h => by
    have h0 := h 0 (by omega)
    have h1 := h 1 (by omega)
    have h2 := h 2 (by omega)
    have h3 := h 3 (by omega)
    have h4 := h 4 (by omega)
    have h5 := h 5 (by omega)
    have h6 := h 6 (by omega)
    simp only [trC] at h0 h1 h2 h3 h4 h5 h6
    have h0 := h0.v_inj
    have h1 := h1.v_inj
    have h2 := h2.v_inj
    have h3 := h3.v_inj
    have h4 := h4.v_inj
    have h5 := h5.v_inj
    obtain ⟨h7, h6⟩ := h6.l_inj
    simp only [Value.int.injEq, Value.string.injEq, true_and] at h0 h1 h2 h3 h4 h5
    subst h0 h1 h2 h3 h4 h5
    have := trLs_inj (L := as1) (M := as') h7 fun i c hi hc => h6 i c hi hc
    rw [this]
theorem trLs_inj : ∀ {L M : List Tr}, L.length = M.length → (∀ i c, i < L.length → c < 7 → DEq (trLs L i c) (trLs M i c)) → L = M
  | [], [], _, _ => rfl
  | [], _ :: _, h, _ => by simp at h
  | _ :: _, [], h, _ => by simp at h
  | a :: L, b :: M, h, hf => by
    have h1 : a = b := trC_inj fun c hc => by
      have := hf 0 c (by simp) hc
      simpa only [trLs] using this
    have h2 : L = M := trLs_inj (by simpa using h) fun i c hi hc => by
      have := hf (i + 1) c (by simpa using hi) hc
      simpa only [trLs] using this
    rw [h1, h2]
end
theorem le_s {x : AV} {z : Value} (h : Le x (.s z)) : x = .s z ∨ x = .v z := by
  cases h with
  | refl => exact .inl rfl
  | vs => exact .inr rfl
theorem le_s_inj {x : AV} {z z' : Value} (h : Le x (.s z)) (h' : Le x (.s z')) : z = z' := by
  rcases le_s h with rfl | rfl <;> rcases le_s h' with e | e <;> cases e <;> rfl
theorem le_fz_shape {x : AV} {f : Nat → Nat → D} {n : Nat} {ks : List TK} (h : Le x (.fz f n ks)) : (x = .v (.slice none 0 0) ∧ n = 0) ∨ ∃ g, x = .fz g n ks ∧ ∀ i c, i < n → c < ks.length → DEq (g i c) (f i c) := by
  cases h with
  | refl => exact .inr ⟨_, rfl, fun _ _ _ _ => .refl _⟩
  | nilf => exact .inl ⟨rfl, rfl⟩
  | fz g _ _ _ hf => exact .inr ⟨g, rfl, fun i c hi hc => by rw [hf i c hi hc]; exact .refl _⟩
  | fzq g _ _ _ hf => exact .inr ⟨g, rfl, hf⟩
theorem le_fz_inj {x : AV} {f g : Nat → Nat → D} {n m : Nat} {ks : List TK} (h : Le x (.fz f n ks)) (h' : Le x (.fz g m ks)) : n = m ∧ ∀ i c, i < n → c < ks.length → DEq (f i c) (g i c) := by
  rcases le_fz_shape h with ⟨rfl, rfl⟩ | ⟨a, rfl, h1⟩
  · rcases le_fz_shape h' with ⟨_, rfl⟩ | ⟨b, e, _⟩
    · exact ⟨rfl, fun i c hi _ => absurd hi (Nat.not_lt_zero i)⟩
    · cases e
  · rcases le_fz_shape h' with ⟨e, _⟩ | ⟨b, e, h2⟩
    · cases e
    · cases e
      exact ⟨rfl, fun i c hi hc => (h1 i c hi hc).symm.trans (h2 i c hi hc)⟩
theorem les_cons {x y : AV} {xs ys : List AV} (h : Les (x :: xs) (y :: ys)) : Le x y ∧ Les xs ys := by
  cases h with
  | cons _ _ _ _ h k => exact ⟨h, k⟩
theorem les_consE {xs : List AV} {y : AV} {ys : List AV} (h : Les xs (y :: ys)) : ∃ x r, xs = x :: r ∧ Le x y ∧ Les r ys := by
  cases h with
  | cons x _ r _ h k => exact ⟨x, r, rfl, h, k⟩
theorem le_agg {x : AV} {ys : List AV} (h : Le x (.agg ys)) : Les (partsA x) ys := by
  cases h with
  | refl => exact Les.refl _
  | agg xs _ h => exact h
  | vagg a _ h => exact h
  | sagg a _ h => exact h
theorem trA_inj {x : AV} {t u : Tr} (h : Le x (trA t)) (h' : Le x (trA u)) : t = u := by
  have g := le_agg h
  have g' := le_agg h'
  generalize partsA x = xs at g g'
  obtain ⟨x0, xs0, q0, a0, g0⟩ := les_consE g
  subst q0
  obtain ⟨x1, xs1, q1, a1, g1⟩ := les_consE g0
  subst q1
  obtain ⟨x2, xs2, q2, a2, g2⟩ := les_consE g1
  subst q2
  obtain ⟨x3, xs3, q3, a3, g3⟩ := les_consE g2
  subst q3
  obtain ⟨x4, xs4, q4, a4, g4⟩ := les_consE g3
  subst q4
  obtain ⟨x5, xs5, q5, a5, g5⟩ := les_consE g4
  subst q5
  obtain ⟨x6, xs6, q6, a6, g6⟩ := les_consE g5
  subst q6
  obtain ⟨b0, g'⟩ := les_cons g'
  obtain ⟨b1, g'⟩ := les_cons g'
  obtain ⟨b2, g'⟩ := les_cons g'
  obtain ⟨b3, g'⟩ := les_cons g'
  obtain ⟨b4, g'⟩ := les_cons g'
  obtain ⟨b5, g'⟩ := les_cons g'
  obtain ⟨b6, g'⟩ := les_cons g'
  obtain ⟨e1, e2⟩ := le_fz_inj a6 b6
  have c0 := le_s_inj a0 b0
  have c1 := le_s_inj a1 b1
  have c2 := le_s_inj a2 b2
  have c3 := le_s_inj a3 b3
  have c4 := le_s_inj a4 b4
  have c5 := le_s_inj a5 b5
  have c6 : t.args = u.args := trLs_inj e1 fun i c hi hc => e2 i c hi hc
  simp only [Value.int.injEq, Value.string.injEq, true_and] at c0 c1 c2 c3 c4 c5
  obtain ⟨op, k, vn, hi, tx, n, as1⟩ := t
  obtain ⟨op', k', vn', hi', tx', n', as'⟩ := u
  simp only at c0 c1 c2 c3 c4 c5 c6
  subst c0 c1 c2 c3 c4 c5 c6
  rfl
open Classical in
/-- Which expression it is. -/
noncomputable def trD (x : AV) : Tr := if h : ∃ t, Le x (trA t) then h.choose else default
theorem trD_le {x : AV} {t : Tr} (h : Le x (trA t)) : trD x = t := by
  have hx : ∃ t, Le x (trA t) := ⟨t, h⟩
  unfold trD
  rw [dif_pos hx]
  exact trA_inj hx.choose_spec h
theorem trD_A (t : Tr) : trD (trA t) = t := trD_le (.refl _)
theorem trD_B (t : Tr) : trD (trO t) = t := trD_le (trA_le t)
theorem hOA {α : Type} {K : α → Prop} {k : Br α} {t : Tr} (h : k.Holds K) : (Br.ob (ObE (trA t) (trA t)) k).Holds K := ⟨⟨.refl _⟩, h⟩
theorem hOB {α : Type} {K : α → Prop} {k : Br α} {t : Tr} (h : k.Holds K) : (Br.ob (ObE (trO t) (trA t)) k).Holds K := ⟨⟨trA_le t⟩, h⟩
noncomputable def aTr : AK Tr := aO trD trA
theorem Tr.ind {p : Tr → Prop} (h : ∀ t, (∀ a ∈ t.args, p a) → p t) (t : Tr) : p t := by
  have key : ∀ (n : Nat) (t : Tr), SizeOf.sizeOf t < n → p t := by
    intro n
    induction n with
    | zero => intro t ht; omega
    | succ n ih =>
      intro t ht
      refine h t fun a ha => ih a ?_
      have h1 := List.sizeOf_lt_of_mem ha
      obtain ⟨op, k, vn, hi, tx, n', as1⟩ := t
      simp only [Tr.mk.sizeOf_spec] at ht
      simp only at h1
      omega
  exact key _ t (Nat.lt_succ_self _)
theorem drop_getD {α : Type} [Inhabited α] {L : List α} {i : Nat} (h : i < L.length) : L.drop i = L.getD i default :: L.drop (i + 1) := by
  rw [List.drop_eq_getElem_cons h]
  congr 1
  simp [List.getD_eq_getElem?_getD, h]
end Go.Proofs.Ytengccmjlaejfaa
end
