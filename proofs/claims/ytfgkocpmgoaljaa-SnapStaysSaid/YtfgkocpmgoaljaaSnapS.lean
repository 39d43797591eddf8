/- Plain facts for SnapStays: what was committed when a snapshot was made stays so, and nothing else is seen by it. No condition. -/
import Derived.Test.YtfgkocpmgoaljaaSnap
import Derived.Test.YtfgkocpmgoaljaaXidS
namespace Go.Proofs.Ytfgkocpmgoaljaa.Xid

theorem doL_ge (T : List One) (last : Nat) (kind id : Int) : last ≤ doL T last kind id := by
  unfold doL commitL; split
  · split <;> omega
  · omega

theorem doneOf_in {T : List One} {last : Nat} (h : Inv T last) {k : Nat} (hk : k < T.length) : doneOf T ((k : Int) + 1) = numberOf T ((k : Int) + 1) := by
  obtain ⟨j, hj, hjl, hp⟩ := top_parent h.wf k k (Nat.le_refl _) hk
  have hn : numberOf T (topOf T ((k : Int) + 1) : Int) = (gt T j).number := by rw [hj]; exact numberOf_root h hjl hp
  unfold doneOf
  rw [hn]
  unfold numberOf
  split
  · unfold num; rw [hj]; rfl
  · rfl
theorem doneOf_out {T : List One} {id : Int} (h : ¬ (1 ≤ id ∧ id ≤ T.length)) : doneOf T id = 0 := by
  have : countsOf T id = false := by unfold countsOf inR; rw [inB_no h]; rfl
  unfold doneOf; rw [this]; rfl

theorem numberOf_top {T : List One} {last : Nat} (h : Inv T last) {k j : Nat} (hk : k < T.length) (hj : topOf T ((k : Int) + 1) = j + 1) : j < T.length ∧ (gt T j).parent = 0 ∧ numberOf T ((k : Int) + 1) = if countsOf T ((k : Int) + 1) = true then (gt T j).number else 0 := by
  obtain ⟨j', hj', hjl, hp⟩ := top_parent h.wf k k (Nat.le_refl _) hk
  obtain rfl : j = j' := by omega
  refine ⟨hjl, hp, ?_⟩
  unfold numberOf; split
  · unfold num; rw [hj]; rfl
  · rfl

theorem done_step {T : List One} {last : Nat} (h : Inv T last) (kind id : Int) (k : Nat) :
    doneOf (doT T last kind id) ((k : Int) + 1) = doneOf T ((k : Int) + 1) ∨ (doneOf T ((k : Int) + 1) = 0 ∧ last < doneOf (doT T last kind id) ((k : Int) + 1)) := by
  have hI := h.do kind id
  have hge := doT_ge T last kind id
  by_cases hk : k < T.length
  · have hk' : k < (doT T last kind id).length := by omega
    have hs := stays_do h kind id hk
    rw [doneOf_in h hk, doneOf_in hI hk']
    by_cases hn : numberOf T ((k : Int) + 1) = 0
    · by_cases hn' : numberOf (doT T last kind id) ((k : Int) + 1) = 0
      · left; omega
      · right
        refine ⟨hn, Nat.lt_of_not_le fun hle => ?_⟩
        obtain ⟨k0, hk0, e0⟩ := h.all (numberOf (doT T last kind id) ((k : Int) + 1)) (by omega) hle
        have hp0 : (gt T k0).parent = 0 := Classical.byContradiction fun hp => hn' (e0 ▸ h.non k0 hk0 hp)
        have hs0 := stays_do h kind id hk0
        have hk0' : k0 < (doT T last kind id).length := by omega
        have e1 : numberOf T ((k0 : Int) + 1) = (gt T k0).number := numberOf_root h hk0 hp0
        have e2 := hs0.num (by omega)
        have ht0 : topOf (doT T last kind id) ((k0 : Int) + 1) = k0 + 1 := by rw [hs0.top]; exact topOf_root h.wf hk0 hp0
        have hp0' := (topOf_self hI.wf hk0').1 ht0
        have e3 : numberOf (doT T last kind id) ((k0 : Int) + 1) = (gt (doT T last kind id) k0).number := numberOf_root hI hk0' hp0'
        obtain ⟨j, hj, hjl, hp⟩ := top_parent hI.wf k k (Nat.le_refl _) hk'
        obtain ⟨_, _, e4⟩ := numberOf_top hI hk' hj
        have hc' : countsOf (doT T last kind id) ((k : Int) + 1) = true := Classical.byContradiction fun hc => hn' (by rw [e4, if_neg hc])
        rw [if_pos hc'] at e4
        have hjk : j = k0 := hI.uniq j k0 hjl hk0' (by omega) (by omega)
        subst hjk
        have hjT : topOf T ((k : Int) + 1) = j + 1 := by rw [← hs.top]; exact hj
        obtain ⟨_, _, e5⟩ := numberOf_top h hk hjT
        have hc : countsOf T ((k : Int) + 1) = false := by
          cases hc : countsOf T ((k : Int) + 1)
          · rfl
          · rw [if_pos hc] at e5; omega
        rw [hs.cnt hc] at hc'
        cases hc'
    · left; exact hs.num hn
  · have h0 : doneOf T ((k : Int) + 1) = 0 := doneOf_out (by omega)
    left
    rw [h0]
    by_cases hk' : k < (doT T last kind id).length
    · by_cases ha : kind = 0 ∧ doE T kind id = 0
      · obtain ⟨rfl, he⟩ := ha
        have hb : beginE T id = 0 := by unfold doE at he; rwa [if_pos rfl] at he
        have e := par_append (last := last) hb
        have hkl : k = T.length := by rw [e] at hk'; simp at hk'; omega
        subst hkl
        have hst : st (doT T last 0 id) (T.length + 1) = 1 := by rw [e]; unfold st; rw [show T.length + 1 - 1 = T.length by omega, gt_snoc_eq]
        rw [doneOf_in hI hk']
        refine Classical.byContradiction fun hn => ?_
        exact run_not hI hn hk' hst (mem_upL_self hI.wf hk')
      · have := (parL_do_same (last := last) ha).2
        omega
    · exact doneOf_out (by omega)

theorem old_step {T : List One} {last : Nat} (h : Inv T last) (kind id : Int) {att : Int} (ha : att ≤ last) (k : Nat) : oldOf (doT T last kind id) att ((k : Int) + 1) = oldOf T att ((k : Int) + 1) := by
  unfold oldOf
  rcases done_step h kind id k with e | ⟨e, hl⟩
  · rw [e]
  · rw [e]
    have : decide ((doneOf (doT T last kind id) ((k : Int) + 1) : Int) ≤ att) = false := by
      rw [decide_eq_false_iff_not]; omega
    rw [this]; simp

end Go.Proofs.Ytfgkocpmgoaljaa.Xid
