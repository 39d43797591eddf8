/- Twice, the pairs that may not be: as summaries. No condition. -/
import Derived.Test.YtffcaapbmkaceaaDoorRpC
import Derived.Test.YtffcaapbmkaceaaDoorRpI
namespace Go.Proofs.YtffcaapbmkaceaaDoor
open Ev Go.RowKit
set_option maxRecDepth 100000
def twiceX : SumBr := oX 36 fun
  | [a] => match asL [.str] a with
    | some (f, n) => some (.leaf (.s (.bool (decide (¬ (dL ByteArray f n).Nodup))), []))
    | none => none
  | _ => none
theorem twiceX_ok : SumGO Tryd.prog (sumS twiceX) := oX_ok (by kernel_rfl) fun xs B r h hB => by
  split at h
  · split at h
    · rename_i a f n ha
      cases h
      cases hB
      exact (twice_ok (dL _ f n)).leS fun m ys ⟨y, r, e, h1, h2⟩ => by
        letI : Fz := ⟨m, false⟩
        exact ⟨y, r, e, asL_rel rfl ha h1, h2⟩
    · cases h
  · cases h
def twice2X : SumBr := oX 37 fun
  | [a] => match asL [.str, .str] a with
    | some (f, n) => some (.leaf (.s (.bool (decide (¬ (dL (ByteArray × ByteArray) f n).Nodup))), []))
    | none => none
  | _ => none
theorem twice2X_ok : SumGO Tryd.prog (sumS twice2X) := oX_ok (by kernel_rfl) fun xs B r h hB => by
  split at h
  · split at h
    · rename_i a f n ha
      cases h
      cases hB
      exact (twice2_ok (dL _ f n)).leS fun m ys ⟨y, r, e, h1, h2⟩ => by
        letI : Fz := ⟨m, false⟩
        exact ⟨y, r, e, asL_rel rfl ha h1, h2⟩
    · cases h
  · cases h
/-- A state in memory, its names as a list. -/
theorem fzp_names [Fz] {F : Nat → Nat → D} {g : Nat → Nat → D} {k : Nat} {ρ : Rho} {y : Value} (hF : F 0 0 = .l g k [.str]) (r : VRel ρ (.fzp F 1 [.lst, .lst] 0 0) y) :
    VRel ρ (.fzp (listD [.l (eL (dL ByteArray g k)) (dL ByteArray g k).length [.str], F 0 1] 2) 1 [.lst, .lst] 0 0) y := by
  obtain ⟨hgc, b, o, ⟨C, e, fr, h1, h2, h3⟩, hlt, rfl⟩ := r
  refine ⟨hgc, b, o, ⟨C, e, fr, h1, h2, fun i c hi hc => ?_⟩, hlt, rfl⟩
  obtain rfl : i = 0 := by omega
  obtain ⟨⟨tk, t1, t2⟩, z, z1, z2⟩ := h3 0 c (by omega) hc
  match c, hc with
  | 0, _ =>
    rw [hF] at t2 z2
    refine ⟨⟨tk, t1, ?_⟩, z, z1, ?_⟩
    · simp at t1; subst t1; rfl
    · have := (fz_eL (α := ByteArray) (ρ := ρ) (y := z) ⟨hgc, z2⟩).2
      rw [dL_length]; exact this
  | 1, _ => exact ⟨⟨tk, t1, t2⟩, z, z1, z2⟩
  | c + 2, hc => simp at hc; omega
def badpX : SumBr := oX 48 fun
  | [a, .fn fid [.fzp F 1 ks 0 0]] => bif Nat.beq fid 39 && ksEq [.lst, .lst] ks then (match asL [.str, .str] a, F 0 0 with
    | some (f, n), .l g k ks' => bif ksEq [.str] ks' then some (.leaf (.s (.int .i64 (idxF (badP (dL _ g k)) (dL _ f n))), [])) else none
    | _, _ => none) else none
  | _ => none
theorem badpX_ok : SumGO Tryd.prog (sumS badpX) := oX_ok (by kernel_rfl) fun xs B r h hB => by
  split at h
  · rename_i a fid F ks
    cases hc : (Nat.beq fid 39 && ksEq [.lst, .lst] ks) with
    | false => rw [hc] at h; cases h
    | true =>
      rw [hc] at h
      simp only [cond_true] at h
      simp only [Bool.and_eq_true] at hc
      have hf := Nat.eq_of_beq_eq_true hc.1
      have hk := ksEq_eq hc.2
      subst hf hk
      split at h
      · rename_i f n g k ks' ha hF
        cases hk : ksEq [.str] ks' with
        | false => rw [hk] at h; cases h
        | true =>
          rw [hk] at h
          have hk := ksEq_eq hk
          subst hk
          cases h
          cases hB
          exact (badp_ok (dL _ f n) (dL _ g k) (F 0 1)).leS fun m ys ⟨y, r, e, h1, ⟨y2, r2, e2, ⟨zs, e3, ⟨y4, r4, e4, h4, h5⟩⟩, h3⟩⟩ => by
            letI : Fz := ⟨m, false⟩
            exact ⟨y, r, e, asL_rel rfl ha h1, y2, r2, e2, ⟨zs, e3, ⟨y4, r4, e4, fzp_names hF h4, h5⟩⟩, h3⟩
      · cases h
  · cases h
def mayXs : SumBr := orX slX (orX twiceX (orX twice2X (orX badpX nameX)))
theorem mayXs_ok : SumGO Tryd.prog (sumS mayXs) := orX_open slX_ok (orX_open twiceX_ok (orX_open twice2X_ok (orX_open badpX_ok nameX_ok)))
end Go.Proofs.YtffcaapbmkaceaaDoor
