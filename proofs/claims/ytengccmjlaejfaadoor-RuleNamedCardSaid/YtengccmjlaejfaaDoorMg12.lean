/- Small facts: texts by their bytes, first places, wraps. No condition. -/
import Derived.Test.YtengccmjlaejfaaDoorMg10
import Derived.Laws.Strings
import Derived.Test.YtengccmjlaejfaaDoorMg11
section
namespace Go.Proofs.YtengccmjlaejfaaDoor
namespace Ev
open Go.RowKit
theorem ba_eq {a b : ByteArray} : (a.toList == b.toList) = decide (a = b) := by
  by_cases h : a = b
  · subst h; simp
  · rw [decide_eq_false h]
    simp only [beq_eq_false_iff_ne, ne_eq]
    intro e
    apply h
    rw [ByteArray.toList_eq, ByteArray.toList_eq] at e
    exact ByteArray.ext (Array.toList_inj.1 e)
theorem wrap_id {x : Int} (h : -9223372036854775808 ≤ x ∧ x ≤ 9223372036854775807) : IntKind.i64.wrap x = x := by
  unfold IntKind.wrap
  simp [IntKind.bits, IntKind.signed]
  omega
theorem wrap_lt {n : Int} (h0 : -9223372036854775808 ≤ n) (h1 : n ≤ 9223372036854775807) : IntKind.i64.wrap n = n := wrap_id ⟨h0, h1⟩
theorem small_ok {n : Nat} (h : n ≤ 1073741824) : small n = true := by unfold small; simpa using h
theorem ble_no {a b : Nat} (h : Nat.ble a b = false) : b < a := by
  rcases Nat.lt_or_ge b a with c | c
  · exact c
  · rw [show Nat.ble a b = true by simpa using c] at h; cases h
theorem blt_no2 {a b : Nat} (h : Nat.blt a b = false) : b ≤ a := by
  rcases Nat.lt_or_ge a b with c | c
  · rw [show Nat.blt a b = true by simpa using c] at h; cases h
  · exact c
theorem hT {α : Type} {K : α → Prop} {b : Bool} {t e : Br α} (hb : b = true) (h : t.Holds K) : (Br.test b t e).Holds K := ⟨fun _ => h, fun c => by rw [hb] at c; cases c⟩
theorem hF {α : Type} {K : α → Prop} {b : Bool} {t e : Br α} (hb : b = false) (h : e.Holds K) : (Br.test b t e).Holds K := ⟨fun c => (by rw [hb] at c; cases c), fun _ => h⟩
theorem ble_yes {a b : Nat} (h : a ≤ b) : Nat.ble a b = true := by simpa using h
/-- The test of a place in a list. -/
theorem idx_ok {i n : Nat} (h : i < n) : (decide (0 ≤ (i : Int)) && decide ((i : Int) < (n : Int))) = true := by
  rw [decide_eq_true (by omega), decide_eq_true (by omega)]; rfl
/-- The test of an append. -/
theorem app_ok {n b m k : Nat} (hb : b = k) (h1 : m + n ≤ 1073741824) (h2 : k * (m + n) ≤ 1073741824) : (Nat.beq n n && (true && (small (m + n) && small (b * (m + n))))) = true := by
  subst hb
  rw [Nat.beq_refl, small_ok h1, small_ok h2]; rfl
theorem rel_nat {a b : Nat} (h : a < b) : WellFoundedRelation.rel a b := h
theorem rel_l {a b c d : Nat} (h : a < c) : WellFoundedRelation.rel (a, b) (c, d) := Prod.Lex.left _ _ h
theorem rel_r {a b d : Nat} (h : b < d) : WellFoundedRelation.rel (a, b) (a, d) := Prod.Lex.right _ h
theorem Le.ofEq {x y : AV} (h : x = y) : Le x y := h ▸ .refl x
theorem ba_eq2 {x y : ByteArray} {p : ByteArray × ByteArray} : (x.toList == p.fst.toList && (y.toList == p.snd.toList && true)) = decide ((x, y) = p) := by
  rw [ba_eq, ba_eq]
  obtain ⟨a, b⟩ := p
  by_cases h1 : x = a <;> by_cases h2 : y = b <;> simp [h1, h2]
theorem ba_eq3 {p q : ByteArray × ByteArray} : (p.fst.toList == q.fst.toList && (p.snd.toList == q.snd.toList && true)) = decide (p = q) := ba_eq2 (x := p.1) (y := p.2)
theorem eq_getD {α : Type} [Inhabited α] {L M : List α} (hl : L.length = M.length) (h : ∀ k, k < L.length → L.getD k default = M.getD k default) : L = M := by
  refine List.ext_getElem hl fun i h1 h2 => ?_
  have := h i h1
  simpa [List.getD_eq_getElem?_getD, h1, h2] using this
/-- A list that may be nothing. -/
def asL (ks : List TK) : AV → Option ((Nat → Nat → D) × Nat)
  | .fz f len ks' => bif ksEq ks ks' then some (f, len) else none
  | .s (.slice none 0 0) => some (fun _ _ => .v undef, 0)
  | .z0 => some (fun _ _ => .v undef, 0)
  | _ => none
theorem asL_rel {α : Type} [Inhabited α] [Rec α] [Fz] {x : AV} {f : Nat → Nat → D} {len : Nat} {ρ : Rho} {y : Value} (hgc : Fz.gc = false) (h : asL (Rec.ks α) x = some (f, len)) (r : VRel ρ x y) : VRel ρ (.fz (eL (dL α f len)) (dL α f len).length (Rec.ks α)) y := by
  rw [dL_length]
  refine fz_eL ?_
  unfold asL at h
  split at h
  · rename_i f' len' ks'
    cases hk : ksEq (Rec.ks α) ks' with
    | false => rw [hk] at h; cases h
    | true => rw [hk] at h; cases h; rw [ksEq_eq hk]; exact r
  · cases h; cases r; refine ⟨hgc, ?_⟩; unfold FzRel; exact .inl ⟨rfl, none, 0, rfl, fun _ => rfl⟩
  · cases h; obtain ⟨a, rfl⟩ := r; refine ⟨hgc, ?_⟩; unfold FzRel; exact .inl ⟨rfl, a, 0, rfl, fun _ => rfl⟩
  · cases h
theorem dL_shift {α : Type} [Inhabited α] [Rec α] (L : List α) (a n : Nat) (h : a + n ≤ L.length) : dL α (shiftD (eL L) a) n = (L.drop a).take n := by
  apply List.ext_getElem
  · simp [dL]; omega
  · intro i h1 h2
    simp [dL] at h1
    have : i + a < L.length := by omega
    have e : (dL α (shiftD (eL L) a) n)[i] = L.getD (i + a) default := by
      simp only [dL, List.getElem_map, List.getElem_range]
      exact Rec.dec_enc _
    rw [e]
    have this : a + i < L.length := by omega
    simp [List.getD_eq_getElem?_getD, Nat.add_comm i a, this]
def strV (v : AV) : Option ByteArray := match unP v with
  | some (.string x) => some x
  | _ => none
theorem strV_rel [Fz] {v : AV} {x : ByteArray} {ρ : Rho} {y : Value} (h : strV v = some x) (r : VRel ρ v y) : VRel ρ (.s (.string x)) y := by
  unfold strV at h
  split at h
  · rename_i z hz; cases h; exact unP_rel hz r
  · cases h
def pairV (v : AV) : Option (ByteArray × ByteArray) := match unP v with
  | some (.agg a) => match a.toList with
    | [.string x, .string y] => some (x, y)
    | _ => none
  | _ => none
theorem pairV_rel [Fz] {v : AV} {x y : ByteArray} {ρ : Rho} {u : Value} (h : pairV v = some (x, y)) (r : VRel ρ v u) : VRel ρ (.s (.agg #[.string x, .string y])) u := by
  unfold pairV at h
  split at h
  · rename_i a ha
    split at h
    · rename_i x' y' hl
      cases h
      have := unP_rel ha r
      rw [this]
      show Value.agg a = Value.agg #[.string x, .string y]
      congr 1
      exact Array.toList_inj.1 (by rw [hl])
    · cases h
  · cases h
theorem dL_snoc {α : Type} [Inhabited α] [Rec α] (L : List α) (x : α) (ds : List D) (k : Nat) (hx : Rec.dec (fun c => ds.getD c (.v undef)) = x) : dL α (catD (eL L) L.length (listD ds k)) (L.length + 1) = L ++ [x] := by
  apply List.ext_getElem
  · simp [dL]
  · intro i h1 h2
    simp [dL] at h1
    simp only [dL, List.getElem_map, List.getElem_range]
    rcases Nat.lt_or_ge i L.length with c | c
    · have e : catD (eL L) L.length (listD ds k) i = eL L i := by
        funext c'; unfold catD; rw [show Nat.blt i L.length = true by simpa using c]; rfl
      rw [e]
      unfold eL
      rw [Rec.dec_enc, List.getElem_append_left c]
      simp [List.getD_eq_getElem?_getD, c]
    · have hi : i = L.length := by omega
      subst hi
      have e : catD (eL L) L.length (listD ds k) L.length = fun c => ds.getD c (.v undef) := by
        funext c'
        unfold catD listD
        rw [blt_no (Nat.lt_irrefl _)]
        simp
      rw [e, hx]
      simp
/-- The first place in a list where something holds. -/
def idxF {α : Type} (p : α → Bool) (L : List α) : Int := if L.any p then (L.findIdx p : Int) else -1
theorem idxF_hit {α : Type} [Inhabited α] {p : α → Bool} {L : List α} {i : Nat} (hi : i < L.length) (h : p (L.getD i default) = true) (hn : ∀ k, k < i → p (L.getD k default) = false) : idxF p L = i := by
  have hx : p L[i] = true := by simpa [List.getD_eq_getElem?_getD, hi] using h
  unfold idxF
  rw [if_pos (List.any_eq_true.2 ⟨_, List.getElem_mem hi, hx⟩)]
  congr 1
  refine (List.findIdx_eq hi).2 ⟨hx, fun j hj => ?_⟩
  have := hn j hj
  simpa [List.getD_eq_getElem?_getD, show j < L.length by omega] using this
theorem idxF_none {α : Type} [Inhabited α] {p : α → Bool} {L : List α} (hn : ∀ k, k < L.length → p (L.getD k default) = false) : idxF p L = -1 := by
  unfold idxF
  rw [if_neg]
  intro h
  obtain ⟨x, hm, hx⟩ := List.any_eq_true.1 h
  obtain ⟨i, hi, rfl⟩ := List.getElem_of_mem hm
  have := hn i hi
  rw [show L.getD i default = L[i] by simp [List.getD_eq_getElem?_getD, hi]] at this
  rw [this] at hx; cases hx
theorem idxF_ge {α : Type} (p : α → Bool) (L : List α) : decide (idxF p L ≥ 0) = L.any p := by
  unfold idxF
  cases h : L.any p with
  | true => simp
  | false => simp
theorem take_snoc {α : Type} [Inhabited α] {L : List α} {i : Nat} (h : i < L.length) : L.take (i + 1) = L.take i ++ [L.getD i default] := by
  rw [List.take_add_one]
  simp [List.getD_eq_getElem?_getD, h]
theorem getD_mem {α : Type} [Inhabited α] {L : List α} {i : Nat} (h : i < L.length) : L.getD i default ∈ L := by
  simp [List.getD_eq_getElem?_getD, h]
theorem getD_app {α : Type} [Inhabited α] {L : List α} {x : α} {k : Nat} (h : k < L.length) : (L ++ [x]).getD k default = L.getD k default := by
  simp [List.getD_eq_getElem?_getD, List.getElem?_append_left h]
theorem mem_getD {α : Type} [Inhabited α] {L : List α} {x : α} (h : x ∈ L) : ∃ k, k < L.length ∧ L.getD k default = x := by
  obtain ⟨k, hk, rfl⟩ := List.getElem_of_mem h
  exact ⟨k, hk, by simp [List.getD_eq_getElem?_getD, hk]⟩
theorem nodup_le {α : Type} [DecidableEq α] : ∀ {A N : List α}, A.Nodup → (∀ x ∈ A, x ∈ N) → A.length ≤ N.length
  | [], _, _, _ => Nat.zero_le _
  | a :: A, N, hd, hs => by
    rw [List.nodup_cons] at hd
    have ha := hs a List.mem_cons_self
    have ih := nodup_le (N := N.erase a) hd.2 fun x hx => (List.mem_erase_of_ne fun e => hd.1 (by rw [← e]; exact hx)).2 (hs x (List.mem_cons_of_mem _ hx))
    rw [List.length_erase_of_mem ha] at ih
    have := List.length_pos_of_mem ha
    simp only [List.length_cons]; omega
theorem any_true {α : Type} [Inhabited α] {p : α → Bool} {L : List α} {k : Nat} (hk : k < L.length) (h : p (L.getD k default) = true) : L.any p = true := List.any_eq_true.2 ⟨_, getD_mem hk, h⟩
theorem any_false {α : Type} [Inhabited α] {p : α → Bool} {L : List α} (h : ∀ k, k < L.length → p (L.getD k default) = false) : L.any p = false := by
  rw [List.any_eq_false]
  intro x hx
  obtain ⟨k, hk, rfl⟩ := mem_getD hx
  rw [h k hk]; simp
/-- Whatever holds ahead of a place, and there. -/
theorem upto_next {p : Nat → Prop} {i : Nat} (h : ∀ k, k < i → p k) (hi : p i) : ∀ k, k < i + 1 → p k := fun k hk => by
  rcases Nat.lt_or_ge k i with c | c
  · exact h k c
  · obtain rfl : k = i := by omega
    exact hi
/-- What lies ahead of a place, and it. -/
theorem nodup_next {α : Type} [DecidableEq α] [Inhabited α] {L : List α} {i : Nat} (h : i < L.length) (hn : (L.take i).Nodup) (hm : L.getD i default ∉ L.take i) : (L.take (i + 1)).Nodup := by
  rw [take_snoc h, List.nodup_append]
  refine ⟨hn, by simp, fun a ha b hb => ?_⟩
  simp only [List.mem_singleton] at hb
  subst hb
  exact fun e => hm (e ▸ ha)
theorem nodup_hit {α : Type} [DecidableEq α] [Inhabited α] {L : List α} {i : Nat} (h : i < L.length) (hm : L.getD i default ∈ L.take i) : ¬ L.Nodup := by
  intro hd
  have h2 : (L.take (i + 1)).Nodup := hd.sublist (List.take_sublist _ _)
  rw [take_snoc h, List.nodup_append] at h2
  exact h2.2.2 _ hm _ (List.mem_singleton_self _) rfl
/-- The first place of a value in a list. -/
def idxS {α : Type} [DecidableEq α] (L : List α) (x : α) : Int := if x ∈ L then (L.idxOf x : Int) else -1
theorem idxS_hit {α : Type} [DecidableEq α] [Inhabited α] {L : List α} {x : α} {i : Nat} (hi : i < L.length) (h : L.getD i default = x) (hn : ∀ k, k < i → L.getD k default ≠ x) : idxS L x = i := by
  have hx : L[i] = x := by simpa [List.getD_eq_getElem?_getD, hi] using h
  have hm : x ∈ L := hx ▸ List.getElem_mem hi
  unfold idxS
  rw [if_pos hm]
  have h1 : L.idxOf x ≤ i := by
    rcases Nat.lt_or_ge i (L.idxOf x) with c | c
    · have := List.not_of_lt_findIdx (p := (· == x)) c
      simp [hx] at this
    · exact c
  have h2 : L[L.idxOf x]'(List.idxOf_lt_length_iff.2 hm) = x := List.getElem_idxOf _
  have h3 : ¬ L.idxOf x < i := fun c => by
    refine hn _ c ?_
    have : L.idxOf x < L.length := List.idxOf_lt_length_iff.2 hm
    simp [List.getD_eq_getElem?_getD, this]
  have : L.idxOf x = i := by omega
  rw [this]
theorem idxS_none {α : Type} [DecidableEq α] [Inhabited α] {L : List α} {x : α} (hn : ∀ k, k < L.length → L.getD k default ≠ x) : idxS L x = -1 := by
  unfold idxS
  rw [if_neg]
  intro hm
  obtain ⟨i, hi, he⟩ := List.getElem_of_mem hm
  refine hn i hi ?_
  simpa [List.getD_eq_getElem?_getD, hi] using he
def inL {α : Type} [DecidableEq α] (x : α) (L : List α) : Bool := decide (x ∈ L)
theorem inL_iff {α : Type} [DecidableEq α] {x : α} {L : List α} : inL x L = true ↔ x ∈ L := by simp [inL]
theorem inL_no {α : Type} [DecidableEq α] {x : α} {L : List α} : inL x L = false ↔ x ∉ L := by simp [inL]
theorem idxS_ge {α : Type} [DecidableEq α] (L : List α) (x : α) : decide (idxS L x ≥ 0) = inL x L := by
  unfold idxS inL
  by_cases h : x ∈ L
  · simp [h]
  · simp [h]
end Ev
end Go.Proofs.YtengccmjlaejfaaDoor
end
section
namespace Go.Proofs.YtengccmjlaejfaaDoor
open Ev Go.RowKit
theorem hS {α : Type} {K : α → Prop} {b : Bool} {t e : Br α} (h1 : b = true → t.Holds K) (h2 : b = false → e.Holds K) : (Br.test b t e).Holds K := ⟨h1, h2⟩
theorem hSt {α : Type} {K : α → Prop} {t e : Br α} (h1 : t.Holds K) : (Br.test true t e).Holds K := ⟨fun _ => h1, fun h => by cases h⟩
theorem hSf {α : Type} {K : α → Prop} {t e : Br α} (h1 : e.Holds K) : (Br.test false t e).Holds K := ⟨fun h => (by cases h), fun _ => h1⟩
theorem hSd {α : Type} {K : α → Prop} {p : Prop} [Decidable p] {t e : Br α} (h1 : p → t.Holds K) (h2 : ¬ p → e.Holds K) : (Br.test (decide p) t e).Holds K := ⟨fun h => h1 (of_decide_eq_true h), fun h => h2 (of_decide_eq_false h)⟩
theorem hSn {α : Type} {K : α → Prop} {p : Prop} [Decidable p] {t e : Br α} (h1 : ¬ p → t.Holds K) (h2 : p → e.Holds K) : (Br.test (!decide p) t e).Holds K := ⟨fun h => h1 (by simpa using h), fun h => h2 (by simpa using h)⟩
theorem hSe {α : Type} {K : α → Prop} {a b : Int} {t e : Br α} (h1 : a = b → t.Holds K) (h2 : a ≠ b → e.Holds K) : (Br.test (a == b) t e).Holds K := ⟨fun h => h1 (by simpa using h), fun h => h2 (by simpa using h)⟩
theorem hSne {α : Type} {K : α → Prop} {a b : Int} {t e : Br α} (h1 : a ≠ b → t.Holds K) (h2 : a = b → e.Holds K) : (Br.test (!(a == b)) t e).Holds K := ⟨fun h => h1 (by simpa using h), fun h => h2 (by simpa using h)⟩
theorem hSi {α : Type} {K : α → Prop} {i n : Nat} {t : Br α} (h : i < n) (h1 : t.Holds K) : (Br.test (decide (0 ≤ (i : Int)) && decide ((i : Int) < (n : Int))) t .no).Holds K := hT (idx_ok h) h1
theorem hSb {α : Type} {K : α → Prop} {p : ByteArray} {q : ByteArray} {t e : Br α} (h1 : p = q → t.Holds K) (h2 : p ≠ q → e.Holds K) : (Br.test (p.toList == q.toList) t e).Holds K := ⟨fun h => h1 (by rw [ba_eq] at h; simpa using h), fun h => h2 (by rw [ba_eq] at h; simpa using h)⟩
theorem hSbn {α : Type} {K : α → Prop} {p : ByteArray} {q : ByteArray} {t e : Br α} (h1 : p ≠ q → t.Holds K) (h2 : p = q → e.Holds K) : (Br.test (!(p.toList == q.toList)) t e).Holds K := ⟨fun h => h1 (by rw [ba_eq] at h; simpa using h), fun h => h2 (by rw [ba_eq] at h; simpa using h)⟩
end Go.Proofs.YtengccmjlaejfaaDoor
end
section
namespace Go.Proofs.YtengccmjlaejfaaDoor
namespace Ev
open Go.RowKit
set_option linter.unusedSectionVars false
variable {P : Program}

theorem OWCalls.le {k : Nat} {f : FuncId} {args args' : List AV} {os os' : List AO} {v : AV} (h : OWCalls P k f args os v os') (hl : Les args' args) : OWCalls P k f args' os v os' := ⟨@fun I hgc ρ w ys hys hh => h.run hgc ρ w ys (hl.rel hgc hys) hh⟩
theorem OWCalls.bnd {k : Nat} {f : FuncId} {args : List AV} {os os' : List AO} {v : AV} (h : bndL args → OWCalls P k f args os v os') : OWCalls P k f args os v os' := ⟨@fun I hgc ρ w ys hys hh => (h (bndL_of _ _ hys)).run hgc ρ w ys hys hh⟩
structure ObC (P : Program) (f : FuncId) (args : List AV) (v : AV) (os : List AO) : Prop where
  h : OCalls P f args v os
structure ObW (P : Program) (k : Nat) (f : FuncId) (args : List AV) (os : List AO) (v : AV) (os' : List AO) : Prop where
  h : OWCalls P k f args os v os'
structure ObE (x y : AV) : Prop where
  h : Le x y
structure ObO (x : List OS) (y : List AO) : Prop where
  h : OLes x y
/-- An argument's kind: as what it is read, and how it is written then. -/
structure AK (α : Type) where
  dec : AV → Option α
  can : α → AV
  pre : AV → α → List Prop
  ok : ∀ [Fz], Fz.gc = false → ∀ (ρ : Rho) (x : AV) (a : α) (y : Value), dec x = some a → (∀ p ∈ pre x a, p) → VRel ρ x y → VRel ρ (can a) y
structure AKs (α : Type) where
  dec : List AV → Option α
  can : α → List AV
  pre : List AV → α → List Prop
  ok : ∀ [Fz], Fz.gc = false → ∀ (ρ : Rho) (xs : List AV) (a : α) (ys : List Value), dec xs = some a → (∀ p ∈ pre xs a, p) → VRels ρ xs ys → VRels ρ (can a) ys
def AKs.nil : AKs Unit where
  dec l := match l with
    | [] => some ()
    | _ => none
  can _ := []
  pre _ _ := []
  ok _ ρ xs a ys h _ r := by
    cases xs with
    | nil => exact r
    | cons x xs => cases h
def AKs.cons {α β : Type} (k : AK α) (ks : AKs β) : AKs (α × β) where
  dec l := match l with
    | x :: xs => match k.dec x with
      | some a => match ks.dec xs with
        | some b => some (a, b)
        | none => none
      | none => none
    | [] => none
  can z := k.can z.1 :: ks.can z.2
  pre l z := match l with
    | x :: xs => k.pre x z.1 ++ ks.pre xs z.2
    | [] => []
  ok hgc ρ xs z ys h hp r := by
    cases xs with
    | nil => cases h
    | cons x xs =>
      obtain ⟨y, s, rfl, h1, h2⟩ := r
      simp only [] at h
      split at h
      · rename_i a ha
        split at h
        · rename_i b hb
          cases h
          exact ⟨y, s, rfl, k.ok hgc ρ x a y ha (fun p hm => hp p (List.mem_append_left _ hm)) h1, ks.ok hgc ρ xs b s hb (fun p hm => hp p (List.mem_append_right _ hm)) h2⟩
        · cases h
      · cases h
def obs {α : Type} : List Prop → Br α → Br α
  | [], k => k
  | p :: r, k => .ob p (obs r k)
theorem obs_at {α : Type} {B : Br α} {r : α} : ∀ {l : List Prop}, (obs l B).At r → (∀ p ∈ l, p) ∧ B.At r
  | [], h => ⟨fun p hp => by simp at hp, h⟩
  | p :: l, h => by
    obtain ⟨h1, h2⟩ := obs_at h.2
    exact ⟨fun q hq => by rcases List.mem_cons.1 hq with rfl | hq; exact h.1; exact h1 q hq, h2⟩
/-- What is said of a callee. -/
def obX (P : Program) (f : FuncId) {α : Type} (ks : AKs α) (r : α → Br (AV × List AO)) : SumBr := oX f fun xs => match ks.dec xs with
  | some a => some (obs (ks.pre xs a) ((r a).bind fun z => .ob (ObC P f (ks.can a) z.1 z.2) (.leaf z)))
  | none => none
theorem obX_ok {f : FuncId} {α : Type} {ks : AKs α} {r : α → Br (AV × List AO)} (he : entersB P f = true) : SumGO P (sumS (obX P f ks r)) := oX_ok he fun xs B z h hB => by
  split at h
  · rename_i a ha
    cases h
    obtain ⟨h1, h2⟩ := obs_at hB
    obtain ⟨q, k1, k2⟩ := Br.at_bind h2
    obtain ⟨k3, k4⟩ := k2
    cases k4
    refine k3.h.leS fun m ys hys => ?_
    letI : Fz := ⟨m, false⟩
    exact ks.ok rfl _ xs a ys ha h1 hys
  · cases h
/-- The same of one that writes what its caller owns. -/
def obW (P : Program) (f : FuncId) (kl ml : List (Nat × List Nat)) {α : Type} (ks : AKs α) (g : α → List OS → Option (List AO × Br (AV × List AO))) : SumBr := wX f kl ml fun xs oss => match ks.dec xs with
  | some a => match g a oss with
    | some (os, B) => some (obs (ks.pre xs a) (.ob (ObO oss os) (B.bind fun z => .ob (ObW P kl.length f (ks.can a) os z.1 z.2) (.leaf z))))
    | none => none
  | none => none
theorem obW_ok {f : FuncId} {kl ml : List (Nat × List Nat)} {α : Type} {ks : AKs α} {g : α → List OS → Option (List AO × Br (AV × List AO))} (he : entersB P f = true) : SumGO P (sumS (obW P f kl ml ks g)) := wX_ok he fun xs oss B z h hB => by
  split at h
  · rename_i a ha
    split at h
    · rename_i os B0 hg
      cases h
      obtain ⟨h1, h2⟩ := obs_at hB
      obtain ⟨h3, h4⟩ := h2
      obtain ⟨q, k1, k2⟩ := Br.at_bind h4
      obtain ⟨k3, k4⟩ := k2
      cases k4
      exact ⟨ks.can a, os, fun hgc ρ ys hys => ks.ok hgc ρ xs a ys ha h1 hys, h3.h, k3.h⟩
    · cases h
  · cases h

/- Kinds. -/
def aI (k : IntKind) : AK Int where
  dec x := match x with
    | .v (.int k' z) => bif decide (k = k') then some z else none
    | .s (.int k' z) => bif decide (k = k') then some z else none
    | _ => none
  can z := .s (.int k z)
  pre _ _ := []
  ok hgc ρ x a y h _ r := by
    split at h
    · rename_i k' z
      by_cases c : k = k'
      · rw [decide_eq_true c] at h; cases h; subst c; exact r
      · rw [decide_eq_false c] at h; cases h
    · rename_i k' z
      by_cases c : k = k'
      · rw [decide_eq_true c] at h; cases h; subst c; exact r
      · rw [decide_eq_false c] at h; cases h
    · cases h
def aS : AK ByteArray where
  dec x := match x with
    | .v (.string z) => some z
    | .s (.string z) => some z
    | _ => none
  can z := .s (.string z)
  pre _ _ := []
  ok hgc ρ x a y h _ r := by
    split at h
    · cases h; exact r
    · cases h; exact r
    · cases h
def aB : AK Bool where
  dec x := match x with
    | .v (.bool z) => some z
    | .s (.bool z) => some z
    | _ => none
  can z := .s (.bool z)
  pre _ _ := []
  ok hgc ρ x a y h _ r := by
    split at h
    · cases h; exact r
    · cases h; exact r
    · cases h
/-- What it is, as it stands. -/
def aX : AK AV where
  dec x := some x
  can x := x
  pre _ _ := []
  ok hgc ρ x a y h _ r := by cases h; exact r
/-- By an obligation: d: what it is read as; it is no more than c writes. -/
def aO {α : Type} (d : AV → α) (c : α → AV) : AK α where
  dec x := some (d x)
  can := c
  pre x a := [ObE x (c a)]
  ok hgc ρ x a y h hp r := by cases h; exact (hp _ (List.mem_singleton.2 rfl)).h.rel hgc r
/-- A list of records. -/
def aL (α : Type) [Inhabited α] [Rec α] : AK (List α) where
  dec x := match asL (Rec.ks α) x with
    | some (f, n) => some (dL α f n)
    | none => none
  can L := .fz (eL L) L.length (Rec.ks α)
  pre _ _ := []
  ok hgc ρ x a y h _ r := by
    split at h
    · rename_i f n hx
      cases h
      exact asL_rel hgc hx r
    · cases h
/-- Kinds that ask for nothing. -/
def AKs.Free {α : Type} (ks : AKs α) : Prop := ∀ xs a, ks.pre xs a = []
theorem free_nil : AKs.nil.Free := fun _ _ => rfl
theorem free_cons {α β : Type} {k : AK α} {ks : AKs β} (h1 : ∀ x a, k.pre x a = []) (h2 : ks.Free) : (AKs.cons k ks).Free := fun xs a => by
  cases xs with
  | nil => rfl
  | cons x xs => show k.pre x a.1 ++ ks.pre xs a.2 = []; rw [h1, h2]; rfl
/-- What is said of a callee whatever it is given. -/
def plX (f : FuncId) {α : Type} (ks : AKs α) (r : α → AV × List AO) : SumBr := oX f fun xs => match ks.dec xs with
  | some a => some (.leaf (r a))
  | none => none
theorem plX_ok {f : FuncId} {α : Type} {ks : AKs α} {r : α → AV × List AO} (he : entersB P f = true) (hf : ks.Free) (h : ∀ a, OCalls P f (ks.can a) (r a).1 (r a).2) : SumGO P (sumS (plX f ks r)) := oX_ok he fun xs B z hx hB => by
  split at hx
  · rename_i a ha
    cases hx
    cases hB
    refine (h a).leS fun m ys hys => ?_
    letI : Fz := ⟨m, false⟩
    exact ks.ok rfl _ xs a ys ha (fun p hp => by rw [hf] at hp; simp at hp) hys
  · cases hx
theorem HT {α : Type} {K : α → Prop} {t e : Br α} : (Br.test true t e).Holds K = t.Holds K := propext ⟨fun h => h.1 rfl, hSt⟩
theorem HF {α : Type} {K : α → Prop} {t e : Br α} : (Br.test false t e).Holds K = e.Holds K := propext ⟨fun h => h.2 rfl, hSf⟩
theorem HO {α : Type} {K : α → Prop} {p : Prop} {k : Br α} (hp : p) : (Br.ob p k).Holds K = k.Holds K := propext ⟨fun h => h.2, fun h => ⟨hp, h⟩⟩
theorem hO {α : Type} {K : α → Prop} {p : Prop} {k : Br α} (hp : p) (h : k.Holds K) : (Br.ob p k).Holds K := ⟨hp, h⟩
theorem noSQ : SumGO P noS := noS_ok.open
end Ev
end Go.Proofs.YtengccmjlaejfaaDoor
end
section
namespace Go.Proofs.YtengccmjlaejfaaDoor
open Ev Go.RowKit
set_option linter.unusedVariables false
/-- A value. -/
structure Vl where
  k : Int
  n : Int
  hi : Int
  t : ByteArray
deriving DecidableEq
instance : Inhabited Vl := ⟨⟨0, 0, 0, ⟨#[]⟩⟩⟩
instance : Rec Vl where
  ks := [.int .u8, .int .i64, .int .i64, .str]
  enc s c := match c with
    | 0 => .v (.int .u8 s.k)
    | 1 => .v (.int .i64 s.n)
    | 2 => .v (.int .i64 s.hi)
    | _ => .v (.string s.t)
  dec g := ⟨match g 0 with
    | .v (.int _ s) => s
    | _ => 0, match g 1 with
    | .v (.int _ s) => s
    | _ => 0, match g 2 with
    | .v (.int _ s) => s
    | _ => 0, match g 3 with
    | .v (.string s) => s
    | _ => ⟨#[]⟩⟩
  fit a c tk h := by
    match c with
    | 0 => simp at h; subst h; rfl
    | 1 => simp at h; subst h; rfl
    | 2 => simp at h; subst h; rfl
    | 3 => simp at h; subst h; rfl
    | c + 4 => simp at h
  dec_enc a := rfl
  enc_dec g h c hc := by
    have h0 := h 0 (.int .u8) rfl
    have h1 := h 1 (.int .i64) rfl
    have h2 := h 2 (.int .i64) rfl
    have h3 := h 3 .str rfl
    match c, hc with
    | 0, _ =>
      cases hg : g 0 with
      | v x => rw [hg] at h0; cases x <;> simp_all [TK.fit]
      | l f n ks => rw [hg] at h0; cases h0
    | 1, _ =>
      cases hg : g 1 with
      | v x => rw [hg] at h1; cases x <;> simp_all [TK.fit]
      | l f n ks => rw [hg] at h1; cases h1
    | 2, _ =>
      cases hg : g 2 with
      | v x => rw [hg] at h2; cases x <;> simp_all [TK.fit]
      | l f n ks => rw [hg] at h2; cases h2
    | 3, _ =>
      cases hg : g 3 with
      | v x => rw [hg] at h3; cases x <;> simp_all [TK.fit]
      | l f n ks => rw [hg] at h3; cases h3
def vlA (v : Vl) : AV := .agg [.s (.int .u8 v.k), .s (.int .i64 v.n), .s (.int .i64 v.hi), .s (.string v.t)]
def scI (k : IntKind) : AV → Option Int
  | .v (.int k' z) => bif decide (k = k') then some z else none
  | .s (.int k' z) => bif decide (k = k') then some z else none
  | _ => none
def scS : AV → Option ByteArray
  | .v (.string z) => some z
  | .s (.string z) => some z
  | _ => none
theorem scI_rel [Fz] {k : IntKind} {x : AV} {z : Int} {ρ : Rho} {y : Value} (h : scI k x = some z) (r : VRel ρ x y) : VRel ρ (.s (.int k z)) y := by
  unfold scI at h
  split at h
  · rename_i k' z'
    by_cases c : k = k'
    · rw [decide_eq_true c] at h; cases h; subst c; exact r
    · rw [decide_eq_false c] at h; cases h
  · rename_i k' z'
    by_cases c : k = k'
    · rw [decide_eq_true c] at h; cases h; subst c; exact r
    · rw [decide_eq_false c] at h; cases h
  · cases h
theorem scS_rel [Fz] {x : AV} {z : ByteArray} {ρ : Rho} {y : Value} (h : scS x = some z) (r : VRel ρ x y) : VRel ρ (.s (.string z)) y := by
  unfold scS at h
  split at h
  · cases h; exact r
  · cases h; exact r
  · cases h
/-- The parts of a value that stands as a whole. -/
def partsA : AV → List AV
  | .agg cs => cs
  | .v (.agg a) => a.toList.map .v
  | .s (.agg a) => a.toList.map .s
  | _ => []
theorem partsA_rel [Fz] {x : AV} {ρ : Rho} {y : Value} (h : partsA x ≠ []) (r : VRel ρ x y) : ∃ ys, y = .agg ys ∧ VRels ρ (partsA x) ys.toList := by
  unfold partsA at h ⊢
  split
  · exact r
  · rename_i a; cases r; exact ⟨a, rfl, vrels_v _⟩
  · rename_i a; cases r; exact ⟨a, rfl, vrels_s _⟩
  · rename_i h1 h2 h3
    exfalso
    split at h
    · exact h1 _ rfl
    · exact h2 _ rfl
    · exact h3 _ rfl
    · exact h rfl
/-- A value as an argument. -/
def aV : AK Vl where
  dec x := match partsA x with
    | [a, b, c, d] => match scI .u8 a, scI .i64 b, scI .i64 c, scS d with
      | some k, some n, some hi, some t => some ⟨k, n, hi, t⟩
      | _, _, _, _ => none
    | _ => none
  can := vlA
  pre _ _ := []
  ok hgc ρ x a y h _ r := by
    split at h
    · rename_i a b c d hx
      split at h
      · rename_i k n hi t e1 e2 e3 e4
        cases h
        obtain ⟨ys, hy, g⟩ := partsA_rel (by rw [hx]; simp) r
        subst hy
        rw [hx] at g
        obtain ⟨y1, s1, q1, r1, y2, s2, q2, r2, y3, s3, q3, r3, y4, s4, q4, r4, q5⟩ := g
        exact ⟨ys, rfl, y1, s1, q1, scI_rel e1 r1, y2, s2, q2, scI_rel e2 r2, y3, s3, q3, scI_rel e3 r3, y4, s4, q4, scS_rel e4 r4, q5⟩
      · cases h
    · cases h
/-- An expression. -/
structure Tr where
  op : Int
  k : Int
  vn : Int
  hi : Int
  t : ByteArray
  n : Int
  args : List Tr
instance : Inhabited Tr := ⟨⟨0, 0, 0, 0, ⟨#[]⟩, 0, []⟩⟩
def Tr.v (t : Tr) : Vl := ⟨t.k, t.vn, t.hi, t.t⟩
abbrev ksE : List TK := [.int .u8, .int .u8, .int .i64, .int .i64, .str, .int .i64, .lst]
mutual
def trC : Tr → Nat → D
  | ⟨op, k, vn, hi, t, n, as1⟩ => fun c => match c with
    | 0 => .v (.int .u8 op)
    | 1 => .v (.int .u8 k)
    | 2 => .v (.int .i64 vn)
    | 3 => .v (.int .i64 hi)
    | 4 => .v (.string t)
    | 5 => .v (.int .i64 n)
    | _ => .l (trLs as1) as1.length ksE
def trLs : List Tr → Nat → Nat → D
  | [] => fun _ _ => .v undef
  | a :: r => fun i => match i with
    | 0 => trC a
    | i + 1 => trLs r i
end
def eT (L : List Tr) : Nat → Nat → D := fun i c => match c with
  | 0 => .v (.int .u8 (L.getD i default).op)
  | 1 => .v (.int .u8 (L.getD i default).k)
  | 2 => .v (.int .i64 (L.getD i default).vn)
  | 3 => .v (.int .i64 (L.getD i default).hi)
  | 4 => .v (.string (L.getD i default).t)
  | 5 => .v (.int .i64 (L.getD i default).n)
  | _ => .l (trLs (L.getD i default).args) (L.getD i default).args.length ksE
theorem trC_eq (t : Tr) (c : Nat) : trC t c = eT [t] 0 c := by
  obtain ⟨op, k, vn, hi, tx, n, as1⟩ := t
  unfold trC eT
  rfl
theorem trLs_eq : ∀ (L : List Tr) (i c : Nat), i < L.length → trLs L i c = eT L i c
  | [], i, c, h => by simp at h
  | a :: r, 0, c, h => by
    unfold trLs
    exact trC_eq a c
  | a :: r, i + 1, c, h => by
    have := trLs_eq r i c (by simpa using h)
    unfold trLs
    refine this.trans ?_
    unfold eT
    simp only [List.getD_cons_succ]
def trA (t : Tr) : AV := .agg [.s (.int .u8 t.op), .s (.int .u8 t.k), .s (.int .i64 t.vn), .s (.int .i64 t.hi), .s (.string t.t), .s (.int .i64 t.n), .fz (trLs t.args) t.args.length ksE]
/-- One whose parts are to be looked at. -/
def trO (t : Tr) : AV := .agg [.s (.int .u8 t.op), .s (.int .u8 t.k), .s (.int .i64 t.vn), .s (.int .i64 t.hi), .s (.string t.t), .s (.int .i64 t.n), .fz (eT t.args) t.args.length ksE]
theorem trO_le (t : Tr) : Le (trA t) (trO t) := .agg _ _ (.cons _ _ _ _ (.refl _) (.cons _ _ _ _ (.refl _) (.cons _ _ _ _ (.refl _) (.cons _ _ _ _ (.refl _) (.cons _ _ _ _ (.refl _) (.cons _ _ _ _ (.refl _) (.cons _ _ _ _ (.fz _ _ _ _ fun i c hi _ => (trLs_eq _ i c hi).symm) .nil)))))))
theorem trA_le (t : Tr) : Le (trO t) (trA t) := .agg _ _ (.cons _ _ _ _ (.refl _) (.cons _ _ _ _ (.refl _) (.cons _ _ _ _ (.refl _) (.cons _ _ _ _ (.refl _) (.cons _ _ _ _ (.refl _) (.cons _ _ _ _ (.refl _) (.cons _ _ _ _ (.fz _ _ _ _ fun i c hi _ => trLs_eq _ i c hi) .nil)))))))
theorem Ev.DEq.v_inj {x y : Value} (h : DEq (.v x) (.v y)) : x = y := by cases h; rfl
theorem Ev.DEq.l_inj {f g : Nat → Nat → D} {n m : Nat} {ks ks' : List TK} (h : DEq (.l f n ks) (.l g m ks')) : n = m ∧ ∀ i c, i < n → c < ks.length → DEq (f i c) (g i c) := by
  cases h with
  | refl => exact ⟨rfl, fun _ _ _ _ => .refl _⟩
  | l _ _ _ _ h => exact ⟨rfl, h⟩
theorem Ev.DEq.symm {d e : D} (h : DEq d e) : DEq e d := by
  induction h with
  | refl => exact .refl _
  | l f g len ks _ ih => exact .l _ _ _ _ ih
theorem Ev.DEq.trans {d e : D} (h : DEq d e) : ∀ {f : D}, DEq e f → DEq d f := by
  induction h with
  | refl => exact fun h => h
  | l f g len ks hq ih =>
    intro x hx
    cases hx with
    | refl => exact .l _ _ _ _ hq
    | l _ g' _ _ h2 => exact .l _ _ _ _ fun i c hi hc => ih i c hi hc (h2 i c hi hc)
mutual
theorem trC_inj : ∀ {a b : Tr}, (∀ c, c < 7 → DEq (trC a c) (trC b c)) → a = b
  | ⟨op, k, vn, hi, t, n, as1⟩, ⟨op', k', vn', hi', t', n', as'⟩, h => by
    have h0 := h 0 (by omega)
    have h1 := h 1 (by omega)
    have h2 := h 2 (by omega)
    have h3 := h 3 (by omega)
    have h4 := h 4 (by omega)
    have h5 := h 5 (by omega)
    have h6 := h 6 (by omega)
    simp only [trC] at h0 h1 h2 h3 h4 h5 h6
    have h0 := h0.v_inj
    have h1 := h1.v_inj
    have h2 := h2.v_inj
    have h3 := h3.v_inj
    have h4 := h4.v_inj
    have h5 := h5.v_inj
    obtain ⟨h7, h6⟩ := h6.l_inj
    simp only [Value.int.injEq, Value.string.injEq, true_and] at h0 h1 h2 h3 h4 h5
    subst h0 h1 h2 h3 h4 h5
    have := trLs_inj (L := as1) (M := as') h7 fun i c hi hc => h6 i c hi hc
    rw [this]
theorem trLs_inj : ∀ {L M : List Tr}, L.length = M.length → (∀ i c, i < L.length → c < 7 → DEq (trLs L i c) (trLs M i c)) → L = M
  | [], [], _, _ => rfl
  | [], _ :: _, h, _ => by simp at h
  | _ :: _, [], h, _ => by simp at h
  | a :: L, b :: M, h, hf => by
    have h1 : a = b := trC_inj fun c hc => by
      have := hf 0 c (by simp) hc
      simpa only [trLs] using this
    have h2 : L = M := trLs_inj (by simpa using h) fun i c hi hc => by
      have := hf (i + 1) c (by simpa using hi) hc
      simpa only [trLs] using this
    rw [h1, h2]
end
theorem le_s {x : AV} {z : Value} (h : Le x (.s z)) : x = .s z ∨ x = .v z := by
  cases h with
  | refl => exact .inl rfl
  | vs => exact .inr rfl
theorem le_s_inj {x : AV} {z z' : Value} (h : Le x (.s z)) (h' : Le x (.s z')) : z = z' := by
  rcases le_s h with rfl | rfl <;> rcases le_s h' with e | e <;> cases e <;> rfl
theorem le_fz_shape {x : AV} {f : Nat → Nat → D} {n : Nat} {ks : List TK} (h : Le x (.fz f n ks)) : (x = .v (.slice none 0 0) ∧ n = 0) ∨ ∃ g, x = .fz g n ks ∧ ∀ i c, i < n → c < ks.length → DEq (g i c) (f i c) := by
  cases h with
  | refl => exact .inr ⟨_, rfl, fun _ _ _ _ => .refl _⟩
  | nilf => exact .inl ⟨rfl, rfl⟩
  | fz g _ _ _ hf => exact .inr ⟨g, rfl, fun i c hi hc => by rw [hf i c hi hc]; exact .refl _⟩
  | fzq g _ _ _ hf => exact .inr ⟨g, rfl, hf⟩
theorem le_fz_inj {x : AV} {f g : Nat → Nat → D} {n m : Nat} {ks : List TK} (h : Le x (.fz f n ks)) (h' : Le x (.fz g m ks)) : n = m ∧ ∀ i c, i < n → c < ks.length → DEq (f i c) (g i c) := by
  rcases le_fz_shape h with ⟨rfl, rfl⟩ | ⟨a, rfl, h1⟩
  · rcases le_fz_shape h' with ⟨_, rfl⟩ | ⟨b, e, _⟩
    · exact ⟨rfl, fun i c hi _ => absurd hi (Nat.not_lt_zero i)⟩
    · cases e
  · rcases le_fz_shape h' with ⟨e, _⟩ | ⟨b, e, h2⟩
    · cases e
    · cases e
      exact ⟨rfl, fun i c hi hc => (h1 i c hi hc).symm.trans (h2 i c hi hc)⟩
theorem les_cons {x y : AV} {xs ys : List AV} (h : Les (x :: xs) (y :: ys)) : Le x y ∧ Les xs ys := by
  cases h with
  | cons _ _ _ _ h k => exact ⟨h, k⟩
theorem les_consE {xs : List AV} {y : AV} {ys : List AV} (h : Les xs (y :: ys)) : ∃ x r, xs = x :: r ∧ Le x y ∧ Les r ys := by
  cases h with
  | cons x _ r _ h k => exact ⟨x, r, rfl, h, k⟩
theorem le_agg {x : AV} {ys : List AV} (h : Le x (.agg ys)) : Les (partsA x) ys := by
  cases h with
  | refl => exact Les.refl _
  | agg xs _ h => exact h
  | vagg a _ h => exact h
  | sagg a _ h => exact h
theorem les_nil_of {x : AV} {xs : List AV} : ¬ Les (x :: xs) [] := fun h => by cases h
theorem trA_inj {x : AV} {t u : Tr} (h : Le x (trA t)) (h' : Le x (trA u)) : t = u := by
  have g := le_agg h
  have g' := le_agg h'
  generalize partsA x = xs at g g'
  obtain ⟨x0, xs0, q0, a0, g0⟩ := les_consE g
  subst q0
  obtain ⟨x1, xs1, q1, a1, g1⟩ := les_consE g0
  subst q1
  obtain ⟨x2, xs2, q2, a2, g2⟩ := les_consE g1
  subst q2
  obtain ⟨x3, xs3, q3, a3, g3⟩ := les_consE g2
  subst q3
  obtain ⟨x4, xs4, q4, a4, g4⟩ := les_consE g3
  subst q4
  obtain ⟨x5, xs5, q5, a5, g5⟩ := les_consE g4
  subst q5
  obtain ⟨x6, xs6, q6, a6, g6⟩ := les_consE g5
  subst q6
  obtain ⟨b0, g'⟩ := les_cons g'
  obtain ⟨b1, g'⟩ := les_cons g'
  obtain ⟨b2, g'⟩ := les_cons g'
  obtain ⟨b3, g'⟩ := les_cons g'
  obtain ⟨b4, g'⟩ := les_cons g'
  obtain ⟨b5, g'⟩ := les_cons g'
  obtain ⟨b6, g'⟩ := les_cons g'
  obtain ⟨e1, e2⟩ := le_fz_inj a6 b6
  have c0 := le_s_inj a0 b0
  have c1 := le_s_inj a1 b1
  have c2 := le_s_inj a2 b2
  have c3 := le_s_inj a3 b3
  have c4 := le_s_inj a4 b4
  have c5 := le_s_inj a5 b5
  have c6 : t.args = u.args := trLs_inj e1 fun i c hi hc => e2 i c hi hc
  simp only [Value.int.injEq, Value.string.injEq, true_and] at c0 c1 c2 c3 c4 c5
  obtain ⟨op, k, vn, hi, tx, n, as1⟩ := t
  obtain ⟨op', k', vn', hi', tx', n', as'⟩ := u
  simp only at c0 c1 c2 c3 c4 c5 c6
  subst c0 c1 c2 c3 c4 c5 c6
  rfl
open Classical in
/-- Which expression it is. -/
noncomputable def trD (x : AV) : Tr := if h : ∃ t, Le x (trA t) then h.choose else default
theorem trD_le {x : AV} {t : Tr} (h : Le x (trA t)) : trD x = t := by
  have hx : ∃ t, Le x (trA t) := ⟨t, h⟩
  unfold trD
  rw [dif_pos hx]
  exact trA_inj hx.choose_spec h
theorem trD_of (t : Tr) : trD (.agg [.s (.int .u8 t.op), .s (.int .u8 t.k), .s (.int .i64 t.vn), .s (.int .i64 t.hi), .s (.string t.t), .s (.int .i64 t.n), .fz (trLs t.args) t.args.length [.int .u8, .int .u8, .int .i64, .int .i64, .str, .int .i64, .lst]]) = t := trD_le (.refl _)
theorem trD_O (t : Tr) : trD (.agg [.s (.int .u8 t.op), .s (.int .u8 t.k), .s (.int .i64 t.vn), .s (.int .i64 t.hi), .s (.string t.t), .s (.int .i64 t.n), .fz (eT t.args) t.args.length [.int .u8, .int .u8, .int .i64, .int .i64, .str, .int .i64, .lst]]) = t := trD_le (trA_le t)
theorem trD_A (t : Tr) : trD (trA t) = t := trD_le (.refl _)
theorem trD_B (t : Tr) : trD (trO t) = t := trD_le (trA_le t)
theorem HOA {α : Type} {K : α → Prop} {k : Br α} (t : Tr) : (Br.ob (ObE (trA t) (trA t)) k).Holds K = k.Holds K := HO ⟨.refl _⟩
theorem HOB {α : Type} {K : α → Prop} {k : Br α} (t : Tr) : (Br.ob (ObE (trO t) (trA t)) k).Holds K = k.Holds K := HO ⟨trA_le t⟩
theorem hOA {α : Type} {K : α → Prop} {k : Br α} {t : Tr} (h : k.Holds K) : (Br.ob (ObE (trA t) (trA t)) k).Holds K := ⟨⟨.refl _⟩, h⟩
theorem hOB {α : Type} {K : α → Prop} {k : Br α} {t : Tr} (h : k.Holds K) : (Br.ob (ObE (trO t) (trA t)) k).Holds K := ⟨⟨trA_le t⟩, h⟩
noncomputable def aTr : AK Tr := aO trD trA
theorem obE_A (t : Tr) : ObE (.agg [.s (.int .u8 t.op), .s (.int .u8 t.k), .s (.int .i64 t.vn), .s (.int .i64 t.hi), .s (.string t.t), .s (.int .i64 t.n), .fz (trLs t.args) t.args.length [.int .u8, .int .u8, .int .i64, .int .i64, .str, .int .i64, .lst]]) (trA t) := ⟨.refl _⟩
theorem obE_O (t : Tr) : ObE (.agg [.s (.int .u8 t.op), .s (.int .u8 t.k), .s (.int .i64 t.vn), .s (.int .i64 t.hi), .s (.string t.t), .s (.int .i64 t.n), .fz (eT t.args) t.args.length [.int .u8, .int .u8, .int .i64, .int .i64, .str, .int .i64, .lst]]) (trA t) := ⟨trA_le t⟩
theorem trF_le (L : List Tr) : Le (.fz (trLs L) L.length ksE) (.fz (eT L) L.length ksE) := .fz _ _ _ _ fun i c hi _ => (trLs_eq _ i c hi).symm
/-- Below an expression. -/
theorem tr_lt {L : List Tr} {i : Nat} (h : i < L.length) : SizeOf.sizeOf (L.getD i default) < SizeOf.sizeOf L := by
  have : L.getD i default ∈ L := getD_mem h
  exact List.sizeOf_lt_of_mem this
theorem Tr.ind {p : Tr → Prop} (h : ∀ t, (∀ a ∈ t.args, p a) → p t) (t : Tr) : p t := by
  have key : ∀ (n : Nat) (t : Tr), SizeOf.sizeOf t < n → p t := by
    intro n
    induction n with
    | zero => intro t ht; omega
    | succ n ih =>
      intro t ht
      refine h t fun a ha => ih a ?_
      have h1 := List.sizeOf_lt_of_mem ha
      obtain ⟨op, k, vn, hi, tx, n', as1⟩ := t
      simp only [Tr.mk.sizeOf_spec] at ht
      simp only at h1
      omega
  exact key _ t (Nat.lt_succ_self _)
/-- Parts, however they are written. -/
theorem dq_eT (L : List Tr) : DEq (.l (eT L) L.length ksE) (.l (trLs L) L.length ksE) := .l _ _ _ _ fun i c hi _ => by rw [trLs_eq _ i c hi]; exact .refl _
theorem drop_getD {α : Type} [Inhabited α] {L : List α} {i : Nat} (h : i < L.length) : L.drop i = L.getD i default :: L.drop (i + 1) := by
  rw [List.drop_eq_getElem_cons h]
  congr 1
  simp [List.getD_eq_getElem?_getD, h]
end Go.Proofs.YtengccmjlaejfaaDoor
end
section
namespace Go.Proofs.YtengccmjlaejfaaDoor
open Ev Go.RowKit
set_option linter.unusedVariables false
structure Cl where
  nm : ByteArray
  ty : Int
  by1 : Vl
instance : Inhabited Cl := ⟨⟨⟨#[]⟩, 0, default⟩⟩
def gI : D → Int
  | .v (.int _ s) => s
  | _ => 0
def gS : D → ByteArray
  | .v (.string s) => s
  | _ => ⟨#[]⟩
theorem gI_ok {d : D} {k : IntKind} (h : (TK.int k).fit d = true) : D.v (.int k (gI d)) = d := by
  cases d with
  | v x => cases x <;> simp_all [TK.fit, gI]
  | l f n ks => cases h
theorem gS_ok {d : D} (h : TK.str.fit d = true) : D.v (.string (gS d)) = d := by
  cases d with
  | v x => cases x <;> simp_all [TK.fit, gS]
  | l f n ks => cases h
instance : Rec Cl where
  ks := [.str, .int .u8, .int .u8, .int .i64, .int .i64, .str]
  enc s c := match c with
    | 0 => .v (.string s.nm)
    | 1 => .v (.int .u8 s.ty)
    | 2 => .v (.int .u8 s.by1.k)
    | 3 => .v (.int .i64 s.by1.n)
    | 4 => .v (.int .i64 s.by1.hi)
    | _ => .v (.string s.by1.t)
  dec g := ⟨gS (g 0), gI (g 1), ⟨gI (g 2), gI (g 3), gI (g 4), gS (g 5)⟩⟩
  fit a c tk h := by
    match c with
    | 0 => simp at h; subst h; rfl
    | 1 => simp at h; subst h; rfl
    | 2 => simp at h; subst h; rfl
    | 3 => simp at h; subst h; rfl
    | 4 => simp at h; subst h; rfl
    | 5 => simp at h; subst h; rfl
    | c + 6 => simp at h
  dec_enc a := rfl
  enc_dec g h c hc := by
    match c, hc with
    | 0, _ => exact gS_ok (h 0 .str rfl)
    | 1, _ => exact gI_ok (h 1 (.int .u8) rfl)
    | 2, _ => exact gI_ok (h 2 (.int .u8) rfl)
    | 3, _ => exact gI_ok (h 3 (.int .i64) rfl)
    | 4, _ => exact gI_ok (h 4 (.int .i64) rfl)
    | 5, _ => exact gS_ok (h 5 .str rfl)
abbrev cks : List TK := [.str, .int .u8, .int .u8, .int .i64, .int .i64, .str]
end Go.Proofs.YtengccmjlaejfaaDoor
end
section
namespace Go.Proofs.YtengccmjlaejfaaDoor
open Ev Go.RowKit
set_option linter.unusedVariables false
theorem vrels_split [Fz] {ρ : Rho} : ∀ {l1 l2 : List AV} {ys : List Value}, VRels ρ (l1 ++ l2) ys → ∃ y1 y2, ys = y1 ++ y2 ∧ VRels ρ l1 y1 ∧ VRels ρ l2 y2
  | [], l2, ys, h => ⟨[], ys, rfl, rfl, h⟩
  | x :: l1, l2, ys, h => by
    obtain ⟨y, s, rfl, h1, h2⟩ := h
    obtain ⟨y1, y2, rfl, g1, g2⟩ := vrels_split h2
    exact ⟨y :: y1, y2, rfl, ⟨y, y1, rfl, h1, g1⟩, g2⟩
theorem vrels_join [Fz] {ρ : Rho} : ∀ {l1 l2 : List AV} {y1 y2 : List Value}, VRels ρ l1 y1 → VRels ρ l2 y2 → VRels ρ (l1 ++ l2) (y1 ++ y2)
  | [], l2, y1, y2, h, g => by cases h; exact g
  | x :: l1, l2, y1, y2, h, g => by
    obtain ⟨y, s, rfl, h1, h2⟩ := h
    exact ⟨y, s ++ y2, rfl, h1, vrels_join h2 g⟩
/-- A struct, its parts read each by its kind. -/
def aP {α : Type} (ks : AKs α) : AK α where
  dec x := match partsA x with
    | [] => none
    | p :: ps => ks.dec (p :: ps)
  can a := .agg (ks.can a)
  pre x a := ks.pre (partsA x) a
  ok hgc ρ x a y h hp r := by
    split at h
    · cases h
    · rename_i p ps hx
      obtain ⟨ys, hy, g⟩ := partsA_rel (by rw [hx]; simp) r
      subst hy
      rw [hx] at g hp
      exact ⟨ys, rfl, ks.ok hgc ρ _ a _ h hp g⟩
/-- Some parts together are a struct within. -/
def consN {α β : Type} (n : Nat) (k : AK α) (hk : ∀ a, partsA (k.can a) ≠ []) (ks : AKs β) : AKs (α × β) where
  dec l := match k.dec (.agg (l.take n)) with
    | some a => match ks.dec (l.drop n) with
      | some b => some (a, b)
      | none => none
    | none => none
  can z := partsA (k.can z.1) ++ ks.can z.2
  pre l z := k.pre (.agg (l.take n)) z.1 ++ ks.pre (l.drop n) z.2
  ok hgc ρ xs z ys h hp r := by
    split at h
    · rename_i a ha
      split at h
      · rename_i b hb
        cases h
        rw [← List.take_append_drop n xs] at r
        obtain ⟨y1, y2, rfl, g1, g2⟩ := vrels_split r
        have e1 := k.ok hgc ρ _ a (.agg ⟨y1⟩) ha (fun p h => hp p (List.mem_append.2 (.inl h))) ⟨⟨y1⟩, rfl, g1⟩
        obtain ⟨ys', hy', g'⟩ := partsA_rel (hk a) e1
        cases hy'
        exact vrels_join g' (ks.ok hgc ρ _ b _ hb (fun p h => hp p (List.mem_append.2 (.inr h))) g2)
      · cases h
    · cases h
/-- The same, told as a record. -/
def isoK {α β : Type} (k : AK α) (f : α → β) (g : β → α) (hg : ∀ a, g (f a) = a) : AK β where
  dec x := (k.dec x).map f
  can b := k.can (g b)
  pre x b := k.pre x (g b)
  ok hgc ρ x b y h hp r := by
    cases hx : k.dec x with
    | none => rw [hx] at h; cases h
    | some a =>
      rw [hx] at h
      cases h
      rw [hg] at hp ⊢
      exact k.ok hgc ρ x a y hx hp r
end Go.Proofs.YtengccmjlaejfaaDoor
end
section
namespace Go.Proofs.YtengccmjlaejfaaDoor
open Ev Go.RowKit
set_option linter.unusedVariables false
structure Ru where
  k : Int
  nm : ByteArray
  tb : ByteArray
  cols : List Int
  ex : Tr
  rf : ByteArray
  od : Int
  ou : Int
  lt : Bool
  vd : Bool
structure Ta where
  nm : ByteArray
  cols : List Cl
  ow : ByteArray
theorem trA_parts (t : Tr) : partsA (trA t) ≠ [] := by unfold trA partsA; simp
noncomputable def kRu : AKs (Int × ByteArray × ByteArray × List Int × Tr × ByteArray × Int × Int × Bool × Bool × Unit) :=
  AKs.cons (aI .u8) (AKs.cons aS (AKs.cons aS (AKs.cons (aL Int) (consN 7 aTr trA_parts (AKs.cons aS (AKs.cons (aI .u8) (AKs.cons (aI .u8) (AKs.cons aB (AKs.cons aB AKs.nil)))))))))
noncomputable def aRu : AK Ru := isoK (aP kRu) (fun z => ⟨z.1, z.2.1, z.2.2.1, z.2.2.2.1, z.2.2.2.2.1, z.2.2.2.2.2.1, z.2.2.2.2.2.2.1, z.2.2.2.2.2.2.2.1, z.2.2.2.2.2.2.2.2.1, z.2.2.2.2.2.2.2.2.2.1⟩)
  (fun r => (r.k, r.nm, r.tb, r.cols, r.ex, r.rf, r.od, r.ou, r.lt, r.vd, ())) (fun _ => rfl)
def kTa : AKs (ByteArray × List Cl × ByteArray × Unit) := AKs.cons aS (AKs.cons (aL Cl) (AKs.cons aS AKs.nil))
def aTa : AK Ta := isoK (aP kTa) (fun z => ⟨z.1, z.2.1, z.2.2.1⟩) (fun r => (r.nm, r.cols, r.ow, ())) (fun _ => rfl)
/-- The rule and its table, in one. -/
noncomputable def aAs : AK (Ru × Ta) := isoK (aP (consN 16 aRu (fun r => by simp [aRu, isoK, aP, partsA, kRu, AKs.cons]) (consN 3 aTa (fun r => by simp [aTa, isoK, aP, partsA, kTa, AKs.cons]) AKs.nil))) (fun z => (z.1, z.2.1)) (fun r => (r.1, r.2, ())) (fun _ => rfl)
noncomputable def ruA (r : Ru) : AV := aRu.can r
def taA (t : Ta) : AV := .agg [.s (.string t.nm), .fz (eL t.cols) t.cols.length cks, .s (.string t.ow)]
theorem taA_can (t : Ta) : aTa.can t = taA t := rfl
def ruO (r : Ru) : AV := .agg [.s (.int .u8 r.k), .s (.string r.nm), .s (.string r.tb), .fz (eL r.cols) r.cols.length [.int .i64], .s (.int .u8 r.ex.op), .s (.int .u8 r.ex.k), .s (.int .i64 r.ex.vn), .s (.int .i64 r.ex.hi), .s (.string r.ex.t), .s (.int .i64 r.ex.n), .fz (eT r.ex.args) r.ex.args.length ksE, .s (.string r.rf), .s (.int .u8 r.od), .s (.int .u8 r.ou), .s (.bool r.lt), .s (.bool r.vd)]
theorem ruA_eq (r : Ru) : ruA r = .agg [.s (.int .u8 r.k), .s (.string r.nm), .s (.string r.tb), .fz (eL r.cols) r.cols.length [.int .i64], .s (.int .u8 r.ex.op), .s (.int .u8 r.ex.k), .s (.int .i64 r.ex.vn), .s (.int .i64 r.ex.hi), .s (.string r.ex.t), .s (.int .i64 r.ex.n), .fz (trLs r.ex.args) r.ex.args.length ksE, .s (.string r.rf), .s (.int .u8 r.od), .s (.int .u8 r.ou), .s (.bool r.lt), .s (.bool r.vd)] := rfl
theorem ruO_le (r : Ru) : Le (ruA r) (ruO r) := by
  rw [ruA_eq]
  exact .agg _ _ (.cons _ _ _ _ (.refl _) (.cons _ _ _ _ (.refl _) (.cons _ _ _ _ (.refl _) (.cons _ _ _ _ (.refl _) (.cons _ _ _ _ (.refl _) (.cons _ _ _ _ (.refl _) (.cons _ _ _ _ (.refl _) (.cons _ _ _ _ (.refl _) (.cons _ _ _ _ (.refl _) (.cons _ _ _ _ (.refl _) (.cons _ _ _ _ (trF_le _) (Les.refl _))))))))))))
/-- A rule read again, where it is handed on. -/
theorem ruO_dec (r : Ru) : aRu.dec (ruO r) = some { r with ex := trD (trO r.ex), cols := dL Int (eL r.cols) r.cols.length } := rfl
theorem ruO_dec' (r : Ru) : aRu.dec (ruO r) = some r := by rw [ruO_dec, trD_B, dL_eL]
theorem ruO_pre (r s : Ru) : aRu.pre (ruO r) s = [ObE (trO r.ex) (trA s.ex)] := rfl
theorem asO_dec (r : Ru) (t : Ta) : aAs.dec (.agg (partsA (ruO r) ++ partsA (taA t))) = some ({ r with ex := trD (trO r.ex), cols := dL Int (eL r.cols) r.cols.length }, ⟨t.nm, dL Cl (eL t.cols) t.cols.length, t.ow⟩) := rfl
end Go.Proofs.YtengccmjlaejfaaDoor
end
