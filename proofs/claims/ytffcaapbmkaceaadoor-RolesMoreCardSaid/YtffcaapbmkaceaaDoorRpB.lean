/- What the library's slices functions tell of texts and pairs of texts, as summaries. No condition. -/
import Derived.Test.YtffcaapbmkaceaaDoorRpA
namespace Go.Proofs.YtffcaapbmkaceaaDoor
open Ev Go.RowKit
set_option maxRecDepth 100000
def indexX : SumBr := oX 49 fun
  | [a, v] => match asL [.str] a, strV v with
    | some (f, n), some x => some (.leaf (.s (.int .i64 (idxS (dL ByteArray f n) x)), []))
    | _, _ => none
  | _ => none
theorem indexX_ok : SumGO Tryd.prog (sumS indexX) := oX_ok (by kernel_rfl) fun xs B r h hB => by
  split at h
  · split at h
    · rename_i a v f n x ha hv
      cases h
      cases hB
      exact (index_ok (dL _ f n) x).leS fun m ys ⟨y, r, e, h1, ⟨y2, r2, e2, h2, h3⟩⟩ => by
        letI : Fz := ⟨m, false⟩
        exact ⟨y, r, e, asL_rel rfl ha h1, y2, r2, e2, strV_rel hv h2, h3⟩
    · cases h
  · cases h
def index2X : SumBr := oX 34 fun
  | [a, v] => match asL [.str, .str] a, pairV v with
    | some (f, n), some (x, y) => some (.leaf (.s (.int .i64 (idxS (dL (ByteArray × ByteArray) f n) (x, y))), []))
    | _, _ => none
  | _ => none
theorem index2X_ok : SumGO Tryd.prog (sumS index2X) := oX_ok (by kernel_rfl) fun xs B r h hB => by
  split at h
  · split at h
    · rename_i a v f n x y ha hv
      cases h
      cases hB
      exact (index2_ok (dL _ f n) x y).leS fun m ys ⟨y, r, e, h1, ⟨y2, r2, e2, h2, h3⟩⟩ => by
        letI : Fz := ⟨m, false⟩
        exact ⟨y, r, e, asL_rel rfl ha h1, y2, r2, e2, pairV_rel hv h2, h3⟩
    · cases h
  · cases h
def equalX : SumBr := oX 41 fun
  | [a, b] => match asL [.str] a, asL [.str] b with
    | some (f, n), some (g, m) => some (.leaf (.s (.bool (decide ((dL ByteArray f n) = dL _ g m))), []))
    | _, _ => none
  | _ => none
theorem equalX_ok : SumGO Tryd.prog (sumS equalX) := oX_ok (by kernel_rfl) fun xs B r h hB => by
  split at h
  · split at h
    · rename_i a b f n g k ha hb
      cases h
      cases hB
      exact (equal_ok (dL _ f n) (dL _ g k)).leS fun m ys ⟨y, r, e, h1, ⟨y2, r2, e2, h2, h3⟩⟩ => by
        letI : Fz := ⟨m, false⟩
        exact ⟨y, r, e, asL_rel rfl ha h1, y2, r2, e2, asL_rel rfl hb h2, h3⟩
    · cases h
  · cases h
def equal2X : SumBr := oX 42 fun
  | [a, b] => match asL [.str, .str] a, asL [.str, .str] b with
    | some (f, n), some (g, m) => some (.leaf (.s (.bool (decide ((dL (ByteArray × ByteArray) f n) = dL _ g m))), []))
    | _, _ => none
  | _ => none
theorem equal2X_ok : SumGO Tryd.prog (sumS equal2X) := oX_ok (by kernel_rfl) fun xs B r h hB => by
  split at h
  · split at h
    · rename_i a b f n g k ha hb
      cases h
      cases hB
      exact (equal2_ok (dL _ f n) (dL _ g k)).leS fun m ys ⟨y, r, e, h1, ⟨y2, r2, e2, h2, h3⟩⟩ => by
        letI : Fz := ⟨m, false⟩
        exact ⟨y, r, e, asL_rel rfl ha h1, y2, r2, e2, asL_rel rfl hb h2, h3⟩
    · cases h
  · cases h
/-- A copy: of no list that is too long. -/
def cloneG (ks : List TK) : List AV → Option (Br (AV × List AO))
  | [a] => match asL ks a with
    | some (f, n) => some (.test (Nat.ble n 1000000) (.leaf (.osl 65536 n, [.rows f n ks])) .no)
    | none => none
  | _ => none
theorem clone_asL [Fz] {ks : List TK} {x : AV} {f : Nat → Nat → D} {len : Nat} {ρ : Rho} {y : Value} (hgc : Fz.gc = false) (h : asL ks x = some (f, len)) (r : VRel ρ x y) : VRel ρ (.fz f len ks) y := by
  unfold asL at h
  split at h
  · rename_i f' len' ks'
    cases hk : ksEq ks ks' with
    | false => rw [hk] at h; cases h
    | true => rw [hk] at h; cases h; rw [ksEq_eq hk]; exact r
  · cases h; cases r; refine ⟨hgc, ?_⟩; unfold FzRel; exact .inl ⟨rfl, none, 0, rfl, fun _ => rfl⟩
  · cases h; obtain ⟨a, rfl⟩ := r; refine ⟨hgc, ?_⟩; unfold FzRel; exact .inl ⟨rfl, a, 0, rfl, fun _ => rfl⟩
  · cases h
def cloneX : SumBr := oX 31 (cloneG [.str])
theorem cloneX_ok : SumGO Tryd.prog (sumS cloneX) := oX_ok (by kernel_rfl) fun xs B r h hB => by
  unfold cloneG at h
  split at h
  · split at h
    · rename_i a f n ha
      cases h
      rcases hB with ⟨h1, hB⟩ | ⟨_, hB⟩
      · cases hB
        exact (clone_ok f n (by simpa using h1)).leS fun m ys ⟨y, r, e, h1, h2⟩ => by
          letI : Fz := ⟨m, false⟩
          exact ⟨y, r, e, clone_asL rfl ha h1, h2⟩
      · exact hB.elim
    · cases h
  · cases h
def clone2X : SumBr := oX 32 (cloneG [.str, .str])
theorem clone2X_ok : SumGO Tryd.prog (sumS clone2X) := oX_ok (by kernel_rfl) fun xs B r h hB => by
  unfold cloneG at h
  split at h
  · split at h
    · rename_i a f n ha
      cases h
      rcases hB with ⟨h1, hB⟩ | ⟨_, hB⟩
      · cases hB
        exact (clone2_ok f n (by simpa using h1)).leS fun m ys ⟨y, r, e, h1, h2⟩ => by
          letI : Fz := ⟨m, false⟩
          exact ⟨y, r, e, clone_asL rfl ha h1, h2⟩
      · exact hB.elim
    · cases h
  · cases h
def slX : SumBr := orX indexX (orX index2X (orX equalX (orX equal2X (orX cloneX clone2X))))
theorem slX_ok : SumGO Tryd.prog (sumS slX) := orX_open indexX_ok (orX_open index2X_ok (orX_open equalX_ok (orX_open equal2X_ok (orX_open cloneX_ok clone2X_ok))))
end Go.Proofs.YtffcaapbmkaceaaDoor
