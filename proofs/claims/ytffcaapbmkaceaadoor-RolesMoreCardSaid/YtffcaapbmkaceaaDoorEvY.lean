/- Lists of records, as what memory holds that nobody writes. No condition. -/
import Derived.Test.YtffcaapbmkaceaaDoorEvW
namespace Go.Proofs.YtffcaapbmkaceaaDoor
namespace Ev
open Go.RowKit
set_option linter.unusedSectionVars false
variable {P : Program}

/-- What an element of a list is. -/
class Rec (α : Type) where
  ks : List TK
  enc : α → Nat → D
  dec : (Nat → D) → α
  fit : ∀ (a : α) (c : Nat) (tk : TK), ks[c]? = some tk → tk.fit (enc a c) = true
  dec_enc : ∀ a, dec (enc a) = a
  enc_dec : ∀ (g : Nat → D), (∀ (c : Nat) (tk : TK), ks[c]? = some tk → tk.fit (g c) = true) → ∀ c, c < ks.length → enc (dec g) c = g c
section
variable {α : Type} [Inhabited α] [Rec α]
def eL (L : List α) : Nat → Nat → D := fun i => Rec.enc (L.getD i default)
def dL (α : Type) [Inhabited α] [Rec α] (f : Nat → Nat → D) (len : Nat) : List α := (List.range len).map fun i => Rec.dec (f i)
theorem dL_length (f : Nat → Nat → D) (len : Nat) : (dL α f len).length = len := by simp [dL]
theorem dL_get {f : Nat → Nat → D} {len i : Nat} (h : i < len) : (dL α f len).getD i default = Rec.dec (f i) := by
  simp [dL, List.getD_eq_getElem?_getD, h]
theorem dL_eL (L : List α) : dL α (eL L) L.length = L := by
  apply List.ext_getElem
  · simp [dL]
  · intro i h1 h2
    simp [dL, eL, Rec.dec_enc, List.getD_eq_getElem?_getD, h2]
/-- What fits is read as a list. -/
theorem fz_eL [Fz] {f : Nat → Nat → D} {len : Nat} {y : Value} {ρ : Rho} (h : VRel ρ (.fz f len (Rec.ks α)) y) : VRel ρ (.fz (eL (dL α f len)) len (Rec.ks α)) y := by
  refine ⟨h.1, ?_⟩
  have h := h.2
  unfold FzRel at h ⊢
  rcases h with h | ⟨b, o, k, C, e, fr, h1, h2, h3, h4, h5⟩
  · exact .inl h
  · refine .inr ⟨b, o, k, C, e, fr, h1, h2, h3, h4, fun i c hi hc => ?_⟩
    obtain ⟨⟨tk, g1, g2⟩, z, g3, g4⟩ := h5 i c hi hc
    have : eL (dL α f len) i c = f i c := by
      show Rec.enc ((dL α f len).getD i default) c = f i c
      rw [dL_get hi]
      exact Rec.enc_dec _ (fun c' tk' hk => by
        have hlt := (List.getElem?_eq_some_iff.1 hk).1
        obtain ⟨⟨tk2, q1, q2⟩, _⟩ := h5 i c' hi hlt
        rw [hk] at q1; cases q1; exact q2) c hc
    rw [this]
    exact ⟨⟨tk, g1, g2⟩, z, g3, g4⟩
/-- One element more. -/
theorem OLe.snoc {L : List α} {x : α} {ds : List D} (hd : ∀ c, c < (Rec.ks α).length → ds.getD c (.v undef) = Rec.enc x c) : OLe (.o (.rows (catD (eL L) L.length (listD ds (Rec.ks α).length)) (L.length + 1) (Rec.ks α))) (.rows (eL (L ++ [x])) (L ++ [x]).length (Rec.ks α)) := by
  have hl : (L ++ [x]).length = L.length + 1 := by simp
  rw [hl]
  refine .rows _ _ _ _ fun i c hi hc => ?_
  unfold catD eL
  by_cases ci : i < L.length
  · rw [show Nat.blt i L.length = true by simpa using ci]
    simp only [cond_true, List.getD_eq_getElem?_getD]
    rw [List.getElem?_append_left ci]
  · rw [blt_no ci]
    have : i = L.length := by omega
    subst this
    simp only [cond_false, Nat.sub_self, List.getD_eq_getElem?_getD, List.getElem?_append_right (Nat.le_refl _)]
    unfold listD
    rw [Nat.zero_mul, Nat.zero_add]
    simpa [List.getD_eq_getElem?_getD] using (hd c hc).symm
/-- Two lists, one behind the other. -/
theorem OLe.cat {L M : List α} : OLe (.o (.rows (catD (eL L) L.length (eL M)) (L.length + M.length) (Rec.ks α))) (.rows (eL (L ++ M)) (L ++ M).length (Rec.ks α)) := by
  have hl : (L ++ M).length = L.length + M.length := by simp
  rw [hl]
  refine .rows _ _ _ _ fun i c hi hc => ?_
  unfold catD eL
  by_cases ci : i < L.length
  · rw [show Nat.blt i L.length = true by simpa using ci]
    simp only [cond_true, List.getD_eq_getElem?_getD]
    rw [List.getElem?_append_left ci]
  · rw [blt_no ci]
    simp only [cond_false, List.getD_eq_getElem?_getD]
    rw [List.getElem?_append_right (by omega)]
theorem OLe.same (f : Nat → Nat → D) (len : Nat) (ks : List TK) : OLe (.o (.rows f len ks)) (.rows f len ks) := .rows f f len ks fun _ _ _ _ => rfl
end

instance : Inhabited ByteArray := ⟨⟨#[]⟩⟩
instance : Rec ByteArray where
  ks := [.str]
  enc s _ := .v (.string s)
  dec g := match g 0 with
    | .v (.string s) => s
    | _ => ⟨#[]⟩
  fit a c tk h := by
    have hlt := (List.getElem?_eq_some_iff.1 h).1
    have : c = 0 := by simp at hlt; omega
    subst this; simp at h; subst h; rfl
  dec_enc a := rfl
  enc_dec g h c hc := by
    have : c = 0 := by simp at hc; omega
    subst this
    have := h 0 .str rfl
    cases hg : g 0 with
    | v x => rw [hg] at this; cases x <;> simp_all [TK.fit]
    | l f n ks => rw [hg] at this; cases this
instance : Rec Int where
  ks := [.int .i64]
  enc s _ := .v (.int .i64 s)
  dec g := match g 0 with
    | .v (.int _ s) => s
    | _ => 0
  fit a c tk h := by
    have hlt := (List.getElem?_eq_some_iff.1 h).1
    have : c = 0 := by simp at hlt; omega
    subst this; simp at h; subst h; rfl
  dec_enc a := rfl
  enc_dec g h c hc := by
    have : c = 0 := by simp at hc; omega
    subst this
    have := h 0 (.int .i64) rfl
    cases hg : g 0 with
    | v x => rw [hg] at this; cases x <;> simp_all [TK.fit]
    | l f n ks => rw [hg] at this; cases this
/-- Pairs of texts. -/
instance : Rec (ByteArray × ByteArray) where
  ks := [.str, .str]
  enc s c := match c with
    | 0 => .v (.string s.1)
    | _ => .v (.string s.2)
  dec g := (match g 0 with
    | .v (.string s) => s
    | _ => ⟨#[]⟩, match g 1 with
    | .v (.string s) => s
    | _ => ⟨#[]⟩)
  fit a c tk h := by
    match c with
    | 0 => simp at h; subst h; rfl
    | 1 => simp at h; subst h; rfl
    | c + 2 => simp at h
  dec_enc a := rfl
  enc_dec g h c hc := by
    have h0 := h 0 .str rfl
    have h1 := h 1 .str rfl
    match c, hc with
    | 0, _ =>
      cases hg : g 0 with
      | v x => rw [hg] at h0; cases x <;> simp_all [TK.fit]
      | l f n ks => rw [hg] at h0; cases h0
    | 1, _ =>
      cases hg : g 1 with
      | v x => rw [hg] at h1; cases x <;> simp_all [TK.fit]
      | l f n ks => rw [hg] at h1; cases h1
    | c + 2, hc => simp at hc; omega
end Ev
end Go.Proofs.YtffcaapbmkaceaaDoor
