/- A table of bytes: whether a byte is in it. No condition. -/
import Derived.Test.YtffcaapbmkaceaaDoorRpB
import Derived.WalkKit
namespace Go.Proofs.YtffcaapbmkaceaaDoor
open Ev Go.RowKit
set_option maxRecDepth 100000
set_option maxHeartbeats 1000000
def boolOf : D → Bool
  | .v (.bool b) => b
  | _ => false
def bK : List TK := List.replicate 256 .bool
theorem contains_ok (F : Nat → Nat → D) (c : Int) (h0 : 0 ≤ c) (h1 : c < 256) : OCalls Tryd.prog 59 [.fzp F 1 bK 0 0, .s (.int .u8 c)] (.s (.bool (boolOf (F 0 c.toNat)))) [] := by
  intro m w ys hm hys
  letI : Fz := ⟨m, false⟩
  obtain ⟨y1, r1, e1, ⟨_, b, o, ⟨C, eT, fr, hb, ⟨hs, _⟩, hc⟩, _, hy1⟩, ⟨y2, r2, e2, hy2, hnil⟩⟩ := hys
  simp only [VRels] at hnil
  subst hnil
  subst e2
  obtain rfl : y2 = .int .u8 c := hy2
  obtain rfl : ys = #[y1, .int .u8 c] := by apply Array.ext'; simpa using e1
  subst hy1
  have hlt : c.toNat < bK.length := by have : bK.length = 256 := rfl; omega
  obtain ⟨⟨tk, t1, t2⟩, z, z1, z2⟩ := hc 0 c.toNat (by omega) hlt
  have hz : z = .bool (boolOf (F 0 c.toNat)) := by
    have : tk = .bool := by
      have := List.mem_of_getElem? t1
      exact List.eq_of_mem_replicate this
    subst this
    cases hF : F 0 c.toNat with
    | v x => rw [hF] at t2 z2; cases z2; cases z <;> simp_all [TK.fit, boolOf]
    | l f n ks => rw [hF] at t2; cases t2
  subst hz
  have hcell : w.cell? ⟨b, o + c.toNat, none⟩ = some (.bool (boolOf (F 0 c.toNat))) := cell_atf (hm _ _ hb) (by simpa using z1)
  have key : Calls Tryd.prog 59 #[.pointer (some ⟨b, o + (0 + 0), none⟩), .int .u8 c] w fun e w' => e = .returned (.bool (boolOf (F 0 c.toNat))) ∧ w' = w := by
    generalize boolOf (F 0 c.toNat) = B at hcell
    go_enter Tryd.func59, Tryd.ntmps59
    go_wp2
    go_ret
    exact ⟨rfl, rfl⟩
  refine key.mono ?_
  rintro e w' ⟨rfl, rfl⟩
  refine ⟨_, fun _ => none, rfl, Fr.refl _ _, rfl, ?_, fun n p h => by cases h⟩
  exact @HR.start ⟨m, false⟩ _ openB [] hm (fun _ => Nat.le_refl _)
def containsX : SumBr := oX 59 fun
  | [.fzp F 1 ks 0 0, v] => match unP v with
    | some (.int .u8 c) => bif ksEq bK ks then some (.test (decide (0 ≤ c) && decide (c < 256)) (.leaf (.s (.bool (boolOf (F 0 c.toNat))), [])) .no) else none
    | _ => none
  | _ => none
theorem containsX_ok : SumGO Tryd.prog (sumS containsX) := oX_ok (by kernel_rfl) fun xs B r h hB => by
  split at h
  · rename_i F ks v
    split at h
    · rename_i c hv
      cases hk : ksEq bK ks with
      | false => rw [hk] at h; cases h
      | true =>
        rw [hk] at h
        cases h
        rcases hB with ⟨h1, hB⟩ | ⟨_, hB⟩
        · cases hB
          simp only [Bool.and_eq_true, decide_eq_true_eq] at h1
          rw [← ksEq_eq hk]
          exact (contains_ok F c h1.1 h1.2).leS fun m ys ⟨y, r, e, h1, ⟨y2, r2, e2, h2, h3⟩⟩ => by
            letI : Fz := ⟨m, false⟩
            exact ⟨y, r, e, h1, y2, r2, e2, unP_rel hv h2, h3⟩
        · exact hB.elim
    · cases h
  · cases h
end Go.Proofs.YtffcaapbmkaceaaDoor
