/- That a great region's operations may come up in the order of the text, reckoned pair by pair. No condition. -/
import Derived.Test.YtcncjghcnofioaaExt
namespace Go.Proofs.Ytcncjghcnofioaa
open Go.RowKit

def lexL (md : Region.Mode) (ops : Array Oper) : Nat → List Oper → Bool
  | _, [] => true
  | k, o :: rest => ((o.after.toList.all fun e => !Region.binds md e || Nat.blt e.on k) && (rest.all fun oj => o.apart ops oj || oj.after.toList.any fun e => Region.binds md e && Nat.beq e.on k)) && lexL md ops (k + 1) rest

theorem lexFrom_of (md : Region.Mode) (ops : Array Oper) : ∀ (l : List Oper) (k : Nat) (listed : Array Bool), (∀ j, l[j]? = ops[k + j]?) → ops.size = k + l.length →
    listed.size = ops.size → (∀ j, j < ops.size → listed[j]? = some (decide (j < k))) → lexL md ops k l = true → Region.lexFrom md ops l.length k listed = true
  | [], k, listed, _, hn, _, hl, _ => by
    simp only [List.length_nil, Region.lexFrom, List.isEmpty_iff]
    rw [List.eq_nil_iff_forall_not_mem]
    intro j hj
    obtain ⟨h0, o, ho, _⟩ := mem_ready.1 hj
    have hlt := (Array.getElem?_eq_some_iff.1 ho).1
    have h1 := hl j hlt
    simp only [List.length_nil, Nat.add_zero] at hn
    rw [Array.getD_eq_getD_getElem?, h1] at h0
    simp at h0
    omega
  | o :: l, k, listed, hl, hn, hs, hd, hB => by
    have h0 : ops[k]? = some o := by simpa using (hl 0).symm
    simp only [lexL, Bool.and_eq_true] at hB
    obtain ⟨⟨h1, h2⟩, h3⟩ := hB
    simp only [List.length_cons] at hn
    have hk : k < ops.size := by omega
    simp only [List.length_cons, Region.lexFrom, Bool.and_eq_true]
    refine ⟨⟨?_, ?_⟩, lexFrom_of md ops l (k + 1) _ (fun j => ?_) (by omega) (by simpa using hs) (fun j hj => ?_) h3⟩
    · rw [List.contains_iff_mem]
      refine mem_ready.2 ⟨?_, o, h0, fun e he hb => ?_⟩
      · rw [Array.getD_eq_getD_getElem?, hd k hk]; simp
      · rw [List.all_eq_true] at h1
        have h4 := h1 e (by simpa using he)
        rw [hb] at h4
        simp only [Bool.not_true, Bool.false_or] at h4
        have h5 : e.on < k := Nat.blt_eq.mp h4
        rw [Array.getD_eq_getD_getElem?, hd e.on (by omega)]
        simpa using h5
    · unfold Region.free
      rw [h0]
      simp only [List.all_eq_true, List.mem_range, Bool.or_eq_true, beq_iff_eq]
      intro j hj
      by_cases hjk : j = k
      · exact .inl (.inl hjk)
      · by_cases hlt : j < k
        · refine .inl (.inr ?_)
          rw [Array.getD_eq_getD_getElem?, hd j hj]
          simpa using hlt
        · refine .inr ?_
          have e1 : ops[j]? = l[j - k - 1]? := by
            have := hl (j - k)
            rw [show k + (j - k) = j by omega] at this
            rw [← this, show j - k = (j - k - 1) + 1 by omega]
            simp
          rw [e1]
          cases e2 : l[j - k - 1]? with
          | none => rfl
          | some oj =>
            rw [List.all_eq_true] at h2
            have h6 := h2 oj (List.mem_of_getElem? e2)
            simp only [Bool.or_eq_true] at h6 ⊢
            rcases h6 with h6 | h6
            · exact .inr h6
            · refine .inl ?_
              rw [List.any_eq_true] at h6
              obtain ⟨e, he, hb⟩ := h6
              rw [Array.any_eq_true']
              refine ⟨e, by simpa using he, ?_⟩
              simp only [Bool.and_eq_true, beq_iff_eq] at hb ⊢
              exact ⟨hb.1, Nat.eq_of_beq_eq_true hb.2⟩
    · have := hl (j + 1)
      simpa [Nat.add_assoc, Nat.add_comm 1 j] using this
    · by_cases hjk : k = j
      · subst hjk
        rw [Array.getElem?_setIfInBounds_self_of_lt (by omega)]
        simp
      · rw [Array.getElem?_setIfInBounds_ne hjk, hd j hj]
        have : (j < k) ↔ (j < k + 1) := by omega
        simp [this]

theorem lexB_of {md : Region.Mode} {l : List Oper} (hs : Region.noSelect l.toArray = true) (h : lexL md l.toArray 0 l = true) : Region.lexB md l.toArray = true := by
  unfold Region.lexB
  rw [hs, Bool.true_and]
  exact lexFrom_of md l.toArray l 0 _ (fun j => by simp) (by simp) (by simp) (fun j hj => by rw [Array.getElem?_replicate, if_pos hj]; simp) h

end Go.Proofs.Ytcncjghcnofioaa
