/- Texts cut from either end. No condition. -/
import Derived.Test.YtffcaapbmkaceaaDoorPl
namespace Go.Proofs.YtffcaapbmkaceaaDoor
namespace Ev
open Go.RowKit
theorem byteAt_ge (s : ByteArray) (k : Nat) : 0 ≤ byteAt s k ∧ byteAt s k < 256 := by
  unfold byteAt
  have := (s.data.getD k 0).toNat_lt
  omega
theorem size_extract (z : ByteArray) (a b : Nat) : (z.extract a b).size = min b z.size - a := by simp
theorem byteAt_extract {z : ByteArray} {a b k : Nat} (h : a + k < min b z.size) : byteAt (z.extract a b) k = byteAt z (a + k) := by
  unfold byteAt
  have e : (z.extract a b).data = z.data.extract a b := by simp
  rw [e]
  have hs : z.data.size = z.size := rfl
  have h1 : k < (z.data.extract a b).size := by simp [hs]; omega
  have h2 : a + k < z.data.size := by rw [hs]; omega
  simp only [Array.getD_eq_getD_getElem?, Array.getElem?_eq_getElem h1, Array.getElem?_eq_getElem h2, Array.getElem_extract]
def trN (S : Int → Bool) : Nat → ByteArray → ByteArray
  | 0, x => x
  | n + 1, x => bif S (byteAt x n) then trN S n (x.extract 0 n) else x
/-- Without its end of such bytes. -/
def trS (S : Int → Bool) (x : ByteArray) : ByteArray := trN S x.size x
def tlN (S : Int → Bool) : Nat → ByteArray → ByteArray
  | 0, x => x
  | n + 1, x => bif S (byteAt x 0) then tlN S n (x.extract 1 x.size) else x
/-- Without its beginning of such bytes. -/
def tlS (S : Int → Bool) (x : ByteArray) : ByteArray := tlN S x.size x
theorem trS_step {S : Int → Bool} {z : ByteArray} (h : 0 < z.size) (hs : S (byteAt z (z.size - 1)) = true) : trS S (z.extract 0 (z.size - 1)) = trS S z := by
  unfold trS
  obtain ⟨n, hn⟩ : ∃ n, z.size = n + 1 := ⟨z.size - 1, by omega⟩
  rw [size_extract]
  simp only [hn, Nat.add_sub_cancel] at hs ⊢
  rw [show min n (n + 1) - 0 = n by omega]
  simp only [trN, hs, cond_true]
theorem trS_stop {S : Int → Bool} {z : ByteArray} (h : 0 < z.size) (hs : S (byteAt z (z.size - 1)) = false) : trS S z = z := by
  unfold trS
  obtain ⟨n, hn⟩ : ∃ n, z.size = n + 1 := ⟨z.size - 1, by omega⟩
  simp only [hn, Nat.add_sub_cancel] at hs ⊢
  simp only [trN, hs, cond_false]
theorem trS_nil {S : Int → Bool} {z : ByteArray} (h : z.size = 0) : trS S z = z := by unfold trS; rw [h]; rfl
theorem tlS_step {S : Int → Bool} {z : ByteArray} (h : 0 < z.size) (hs : S (byteAt z 0) = true) : tlS S (z.extract 1 z.size) = tlS S z := by
  unfold tlS
  obtain ⟨n, hn⟩ : ∃ n, z.size = n + 1 := ⟨z.size - 1, by omega⟩
  have e : (z.extract 1 z.size).size = n := by rw [size_extract]; omega
  rw [e]
  rw [hn] 
  simp only [tlN, hs, cond_true]
  rw [hn]
theorem tlS_stop {S : Int → Bool} {z : ByteArray} (h : 0 < z.size) (hs : S (byteAt z 0) = false) : tlS S z = z := by
  unfold tlS
  obtain ⟨n, hn⟩ : ∃ n, z.size = n + 1 := ⟨z.size - 1, by omega⟩
  rw [hn]
  simp [tlN, hs]
theorem tlS_nil {S : Int → Bool} {z : ByteArray} (h : z.size = 0) : tlS S z = z := by unfold tlS; rw [h]; rfl
/-- What is left at the end ends with another byte. -/
theorem trS_end {S : Int → Bool} : ∀ (n : Nat) (z : ByteArray), z.size = n → ((∀ k, k < z.size → S (byteAt z k) = true) ∧ (trS S z).size = 0) ∨ (0 < (trS S z).size ∧ (∃ k, k < z.size ∧ S (byteAt z k) = false) ∧ ∃ k, k < (trS S z).size ∧ S (byteAt (trS S z) k) = false)
  | 0, z, h => .inl ⟨fun k hk => by omega, by rw [trS_nil h, h]⟩
  | n + 1, z, h => by
    cases hs : S (byteAt z (z.size - 1)) with
    | false => rw [trS_stop (by omega) hs]; exact .inr ⟨by omega, ⟨z.size - 1, by omega, hs⟩, z.size - 1, by omega, hs⟩
    | true =>
      rw [← trS_step (by omega) hs]
      have hsz : (z.extract 0 (z.size - 1)).size = n := by rw [size_extract]; omega
      rcases trS_end n _ hsz with ⟨h1, h2⟩ | ⟨h1, ⟨k, h2, h3⟩, h4⟩
      · refine .inl ⟨fun k hk => ?_, h2⟩
        rcases Nat.lt_or_ge k (z.size - 1) with c | c
        · have := h1 k (by omega)
          rw [byteAt_extract (by omega), Nat.zero_add] at this
          exact this
        · rw [show k = z.size - 1 by omega]; exact hs
      · refine .inr ⟨h1, ⟨k, by omega, ?_⟩, h4⟩
        rw [byteAt_extract (by omega), Nat.zero_add] at h3
        exact h3
theorem tlS_pos {S : Int → Bool} : ∀ (n : Nat) (z : ByteArray), z.size = n → (∃ k, k < z.size ∧ S (byteAt z k) = false) → 0 < (tlS S z).size
  | 0, z, h, ⟨k, hk, _⟩ => by omega
  | n + 1, z, h, ⟨k, hk, hks⟩ => by
    cases hs : S (byteAt z 0) with
    | false => rw [tlS_stop (by omega) hs]; omega
    | true =>
      rw [← tlS_step (by omega) hs]
      have hsz : (z.extract 1 z.size).size = n := by rw [size_extract]; omega
      have hk0 : k ≠ 0 := fun e => by subst e; rw [hs] at hks; cases hks
      exact tlS_pos n _ hsz ⟨k - 1, by omega, by rw [byteAt_extract (by omega), show 1 + (k - 1) = k by omega]; exact hks⟩
def allB (S : Int → Bool) (z : ByteArray) : Bool := (List.range z.size).all fun k => S (byteAt z k)
theorem allB_iff {S : Int → Bool} {z : ByteArray} : allB S z = true ↔ ∀ k, k < z.size → S (byteAt z k) = true := by simp [allB]
theorem trim_nil (S : Int → Bool) (z : ByteArray) : decide ((tlS S (trS S z)).size = 0) = allB S z := by
  rcases trS_end (S := S) _ z rfl with ⟨h1, h2⟩ | ⟨h1, ⟨k, h2, h3⟩, h4⟩
  · rw [tlS_nil h2, h2, allB_iff.2 h1]; rfl
  · have h5 := tlS_pos _ _ rfl h4
    have h6 : allB S z = false := by
      cases h : allB S z with
      | false => rfl
      | true => have := allB_iff.1 h k h2; rw [h3] at this; cases this
    rw [h6, decide_eq_false (by omega)]
theorem ba_nil {z : ByteArray} : (z = ⟨#[]⟩) ↔ z.size = 0 := by
  constructor
  · intro h; subst h; rfl
  · intro h; exact ByteArray.ext (Array.eq_empty_of_size_eq_zero h)
end Ev
end Go.Proofs.YtffcaapbmkaceaaDoor
