/- That the order of values of one kind is one: no program in sight. No condition. -/
import Derived.Test.YtcncjghcnofioaaOrd
namespace Go.Proofs.Ytcncjghcnofioaa
open Go.RowKit

theorem cb_flip : ∀ a b : List UInt8, Lib.compareBytes b a = -Lib.compareBytes a b
  | [], [] => rfl
  | [], _ :: _ => rfl
  | _ :: _, [] => rfl
  | x :: a, y :: b => by
    have ih := cb_flip a b
    simp only [Lib.compareBytes, UInt8.lt_iff_toNat_lt]
    by_cases h1 : x.toNat < y.toNat
    · have h2 : ¬ y.toNat < x.toNat := by omega
      rw [if_neg h2, if_pos h1, if_pos h1]; rfl
    · by_cases h2 : y.toNat < x.toNat
      · rw [if_pos h2, if_neg h1, if_pos h2]
      · rw [if_neg h2, if_neg h1, if_neg h1, if_neg h2]; exact ih

theorem cb_trans : ∀ a b c : List UInt8, Lib.compareBytes a b < 0 → Lib.compareBytes b c < 0 → Lib.compareBytes a c < 0
  | [], [], _, h, _ => by simp [Lib.compareBytes] at h
  | _ :: _, [], _, h, _ => by simp [Lib.compareBytes] at h
  | _, _ :: _, [], _, h => by simp [Lib.compareBytes] at h
  | [], _ :: _, _ :: _, _, _ => by simp [Lib.compareBytes]
  | x :: a, y :: b, z :: c, h, k => by
    have ih := cb_trans a b c
    simp only [Lib.compareBytes, UInt8.lt_iff_toNat_lt] at h k ⊢
    by_cases h1 : x.toNat < y.toNat
    · by_cases k1 : z.toNat < y.toNat
      · rw [if_neg (by omega), if_pos k1] at k; exact absurd k (by decide)
      · rw [if_pos (by omega)]; decide
    · by_cases h2 : y.toNat < x.toNat
      · rw [if_neg h1, if_pos h2] at h; exact absurd h (by decide)
      · rw [if_neg h1, if_neg h2] at h
        by_cases k1 : y.toNat < z.toNat
        · rw [if_pos (by omega)]; decide
        · by_cases k2 : z.toNat < y.toNat
          · rw [if_neg k1, if_pos k2] at k; exact absurd k (by decide)
          · rw [if_neg k1, if_neg k2] at k
            rw [if_neg (by omega), if_neg (by omega)]
            exact ih h k

theorem cmpI_flip (x y : Int) : cmpI y x = -cmpI x y := by unfold cmpI; split <;> split <;> first | rfl | omega | (rw [if_neg (by omega)]; rfl) | (rw [if_pos (by omega)]; rfl)
theorem cmpI_neg (x y : Int) : cmpI x y < 0 ↔ x < y := by unfold cmpI; split <;> (try split) <;> omega
theorem cmpI_zero (x y : Int) : cmpI x y = 0 ↔ x = y := by unfold cmpI; split <;> (try split) <;> omega
theorem or_flip (p q p' q' : Int) (h : p' = -p) (k : q' = -q) : orI p' q' = -orI p q := by unfold orI; split <;> split <;> omega
theorem or_trans (x y z u v w : Int) (h : orI (cmpI x y) (cmpI u v) < 0) (k : orI (cmpI y z) (cmpI v w) < 0) : orI (cmpI x z) (cmpI u w) < 0 := by
  have a1 := cmpI_neg x y; have a2 := cmpI_zero x y; have b1 := cmpI_neg y z; have b2 := cmpI_zero y z; have c1 := cmpI_neg x z; have c2 := cmpI_zero x z
  have d1 := cmpI_neg u v; have e1 := cmpI_neg v w; have f1 := cmpI_neg u w
  unfold orI at *
  split at h <;> split at k <;> split <;> omega

theorem order_flip (a b : V) (h : a.k = b.k) : orderV b a = -orderV a b := by
  unfold orderV
  rw [h]
  split
  · exact cb_flip _ _
  · split
    · exact or_flip _ _ _ _ (cmpI_flip _ _) (cmpI_flip _ _)
    · split <;> exact cmpI_flip _ _
theorem order_trans (a b c : V) (h : a.k = b.k) (_k : b.k = c.k) (h1 : orderV a b < 0) (h2 : orderV b c < 0) : orderV a c < 0 := by
  unfold orderV at *
  rw [h] at h1 ⊢
  split at h1
  · rename_i e
    rw [if_pos e] at h2 ⊢
    exact cb_trans _ _ _ h1 h2
  · rename_i e
    rw [if_neg e] at h2 ⊢
    split at h1
    · rename_i e2
      rw [if_pos e2] at h2 ⊢
      exact or_trans _ _ _ _ _ _ h1 h2
    · rename_i e2
      rw [if_neg e2] at h2 ⊢
      split at h1
      · rename_i e3
        rw [if_pos e3] at h2 ⊢
        rw [cmpI_neg] at *
        omega
      · rename_i e3
        rw [if_neg e3] at h2 ⊢
        rw [cmpI_neg] at *
        omega

end Go.Proofs.Ytcncjghcnofioaa
