/- Plain facts for XidNumbers and XidBack, with no program in sight. No condition. -/
import Derived.Test.YtfgkocpmgoaljaaXidQ
namespace Go.Proofs.Ytfgkocpmgoaljaa.Xid

/-! ### Numbers -/
theorem topOf_self {T : List One} (h : WF T) {k : Nat} (hk : k < T.length) : topOf T ((k : Int) + 1) = k + 1 ↔ (gt T k).parent = 0 := by
  constructor
  · intro ht
    by_cases hp : (gt T k).parent = 0
    · exact hp
    · rw [topOf_par h hk hp] at ht
      have hpk := h.par k hk
      have hm : topOf T ((gt T k).parent : Int) ∈ upL T (gt T k).parent := by
        unfold topOf; rw [Int.toNat_natCast, upL_in h (by omega) (by omega), List.getLastD_cons]; exact List.getLastD_mem_cons ..
      have := mem_upL h hm
      omega
  · exact topOf_root h hk
theorem numberOf_root {T : List One} {last : Nat} (h : Inv T last) {k : Nat} (hk : k < T.length) (hp : (gt T k).parent = 0) : numberOf T ((k : Int) + 1) = (gt T k).number := by
  unfold numberOf
  rw [countsOf_root h.wf hk hp, topOf_root h.wf hk hp]
  by_cases h3 : (gt T k).state = 3
  · have : (gt T k).number = 0 := by
      by_cases hn : (gt T k).number = 0
      · exact hn
      · have := (h.top k hk hp).2 hn; omega
    rw [h3]; simp [this]
  · rw [if_pos (by simp [h3])]; rfl
theorem topOf_in' {T : List One} (h : WF T) {k : Nat} (hk : k < T.length) : topOf T ((k : Int) + 1) ∈ upL T (k + 1) := by
  have e1 : ((k : Int) + 1).toNat = k + 1 := by omega
  unfold topOf; rw [e1, upL_in h (by omega) (by omega), List.getLastD_cons]; exact List.getLastD_mem_cons ..
theorem top_parent {T : List One} (h : WF T) : ∀ (n k : Nat), k ≤ n → k < T.length → ∃ j, topOf T ((k : Int) + 1) = j + 1 ∧ j < T.length ∧ (gt T j).parent = 0 := by
  intro n
  induction n with
  | zero =>
    intro k hk hl
    have hp := h.par k hl
    exact ⟨k, topOf_root h hl (by omega), hl, by omega⟩
  | succ n ih =>
    intro k hk hl
    by_cases hp : (gt T k).parent = 0
    · exact ⟨k, topOf_root h hl hp, hl, hp⟩
    · have hpk := h.par k hl
      obtain ⟨j, hj⟩ : ∃ j, (gt T k).parent = j + 1 := ⟨(gt T k).parent - 1, by omega⟩
      rw [topOf_par h hl hp, hj]
      exact ih j (by omega) (by omega)

/-- What is told of the one of place k, and of its top one. -/
structure Numbered (T : List One) (last k : Nat) : Prop where
  le : numberOf T ((k : Int) + 1) ≤ last
  top : numberOf T ((k : Int) + 1) ≠ 0 → numberOf T (topOf T ((k : Int) + 1) : Int) = numberOf T ((k : Int) + 1)
  done : numberOf T ((k : Int) + 1) ≠ 0 ↔ (countsOf T ((k : Int) + 1) = true ∧ stateOf T (topOf T ((k : Int) + 1) : Int) = 2)
theorem numbered {T : List One} {last : Nat} (h : Inv T last) {k : Nat} (hk : k < T.length) : Numbered T last k := by
  obtain ⟨j, hj, hjl, hp⟩ := top_parent h.wf k k (Nat.le_refl _) hk
  have hs : stateOf T (topOf T ((k : Int) + 1) : Int) = (gt T j).state := by rw [hj]; exact stateOf_in hjl
  have hn : numberOf T (topOf T ((k : Int) + 1) : Int) = (gt T j).number := by rw [hj]; exact numberOf_root h hjl hp
  have hnk : numberOf T ((k : Int) + 1) = if countsOf T ((k : Int) + 1) = true then (gt T j).number else 0 := by
    unfold numberOf; split
    · unfold num; rw [hj]; rfl
    · rfl
  constructor
  · rw [hnk]; split
    · exact h.le j hjl
    · omega
  · rw [hn, hnk]; split
    · exact fun _ => rfl
    · exact fun h => absurd rfl h
  · rw [hs, hnk]
    have := h.top j hjl hp
    by_cases hc : countsOf T ((k : Int) + 1) = true
    · rw [if_pos hc]; exact ⟨fun h => ⟨hc, this.2 h⟩, fun h => this.1 h.2⟩
    · rw [if_neg hc]; exact ⟨fun h => absurd rfl h, fun h => absurd h.1 hc⟩

/-- How often a number was met among the first j. -/
def met (T : List One) (n : Nat) : Nat → Nat
  | 0 => 0
  | j + 1 => met T n j + if (gt T j).parent = 0 ∧ numberOf T ((j : Int) + 1) = n then 1 else 0
theorem met_le (T : List One) (n : Nat) : ∀ j, met T n j ≤ j := by
  intro j
  induction j with
  | zero => exact Nat.le_refl _
  | succ j ih => rw [met]; split <;> omega
theorem met_zero {T : List One} {n : Nat} : ∀ j, (∀ k, k < j → ¬ ((gt T k).parent = 0 ∧ numberOf T ((k : Int) + 1) = n)) → met T n j = 0 := by
  intro j
  induction j with
  | zero => intro _; rfl
  | succ j ih => intro h; rw [met, ih (fun k hk => h k (by omega)), if_neg (h j (by omega))]
theorem met_one {T : List One} {n i : Nat} (hi : (gt T i).parent = 0 ∧ numberOf T ((i : Int) + 1) = n) : ∀ j, i < j → (∀ k, k < j → k ≠ i → ¬ ((gt T k).parent = 0 ∧ numberOf T ((k : Int) + 1) = n)) → met T n j = 1 := by
  intro j
  induction j with
  | zero => intro h; omega
  | succ j ih =>
    intro hij h
    rw [met]
    by_cases e : i = j
    · subst e; rw [met_zero i (fun k hk => h k (by omega) (by omega)), if_pos hi]
    · rw [ih (by omega) (fun k hk => h k (by omega)), if_neg (h j (by omega) (fun e2 => e e2.symm))]
theorem met_all {T : List One} {last : Nat} (h : Inv T last) {n : Nat} (h1 : 1 ≤ n) (h2 : n ≤ last) : met T n T.length = 1 := by
  obtain ⟨i, hi, hn⟩ := h.all n h1 h2
  have hp : (gt T i).parent = 0 := by
    by_cases hp : (gt T i).parent = 0
    · exact hp
    · have := h.non i hi hp; omega
  refine met_one ⟨hp, by rw [numberOf_root h hi hp]; exact hn⟩ T.length hi ?_
  rintro k hk hne ⟨hpk, hnk⟩
  rw [numberOf_root h hk hpk] at hnk
  exact hne (h.uniq k i hk hi (by omega) (by omega))

/-- A step's number. -/
theorem number_top {T : List One} {last : Nat} (h : Inv T last) {id : Int} (he : endE T id = 0) (ht : ((topOf T id : Nat) : Int) = id) : doL T last 1 id = last + 1 ∧ numberOf (doT T last 1 id) id = last + 1 := by
  obtain ⟨m, rfl, hm, hs⟩ := endE_in he
  have e1 : ((m : Int) + 1).toNat = m + 1 := by omega
  have hp : (gt T m).parent = 0 := (topOf_self h.wf hm).1 (by omega)
  have hL : doL T last 1 ((m : Int) + 1) = last + 1 := by unfold doL commitL; rw [if_pos rfl, e1, if_pos ⟨he, hp⟩]
  refine ⟨hL, ?_⟩
  have hI := h.do 1 ((m : Int) + 1)
  rw [hL] at hI
  have hT : doT T last 1 ((m : Int) + 1) = setNum (endT T ((m : Int) + 1) 1 2) (m + 1) (last + 1) := by
    unfold doT commitT; rw [if_neg (by decide), if_pos rfl, if_pos he, e1, if_pos (show par T (m + 1) = 0 from hp)]
  have hl : m < (endT T ((m : Int) + 1) 1 2).length := by rw [endT_length]; exact hm
  have hg : gt (doT T last 1 ((m : Int) + 1)) m = { gt (endT T ((m : Int) + 1) 1 2) m with number := last + 1 } := by rw [hT, gt_setNum hl, if_pos rfl]
  rw [numberOf_root hI (by have := doT_ge T last 1 ((m : Int) + 1); omega) (by rw [hg]; show (gt (endT T ((m : Int) + 1) 1 2) m).parent = 0; rw [endT_par]; exact hp), hg]
theorem number_same {T : List One} {last : Nat} (h : WF T) {kind id : Int} (hn : ¬ (kind = 1 ∧ doE T kind id = 0 ∧ ((topOf T id : Nat) : Int) = id)) : doL T last kind id = last := by
  unfold doL
  by_cases k1 : kind = 1
  · subst k1
    rw [if_pos rfl]
    unfold commitL
    rw [if_neg]
    rintro ⟨he, hp⟩
    obtain ⟨m, rfl, hm, hs⟩ := endE_in he
    have e1 : ((m : Int) + 1).toNat = m + 1 := by omega
    rw [e1] at hp
    refine hn ⟨rfl, by unfold doE; rw [if_neg (by decide)]; exact he, ?_⟩
    rw [topOf_root h hm hp]; omega
  · rw [if_neg k1]

/-! ### What is taken back takes what is below it along -/
def GoneDown (T : List One) : Prop := ∀ k, k < T.length → (gt T k).parent ≠ 0 → st T (gt T k).parent = 3 → (gt T k).state = 3
theorem GoneDown.nil : GoneDown [] := fun k hk => by simp at hk

theorem GoneDown.end {T : List One} {last : Nat} (hg : GoneDown T) (h : Inv T last) {m frm to : Nat} (hm : m < T.length) (hs : (gt T m).state = 1) (hto : (frm = 1 ∧ to = 2) ∨ (frm = 2 ∧ to = 3)) : GoneDown (endP T (m + 1) frm to T.length) := by
  intro k hk hp h3
  rw [endP_length] at hk
  rw [endP_par] at hp h3
  have hpk := h.wf.par k hk
  obtain ⟨j, hj⟩ : ∃ j, (gt T k).parent = j + 1 := ⟨(gt T k).parent - 1, by omega⟩
  have hjl : j < T.length := by omega
  rw [hj] at h3
  have h3' : (gt (endP T (m + 1) frm to T.length) j).state = 3 := h3
  have hsk := h.sts k hk
  have keep : (gt T k).state = 3 → (gt (endP T (m + 1) frm to T.length) k).state = 3 := by
    intro hk3
    rcases endP_cases (id := m + 1) (frm := frm) (to := to) hk with ⟨e, h6⟩ | ⟨e, _⟩ <;> rw [e]
    · rcases h6 with h6 | h6
      · obtain rfl : k = m := by omega
        omega
      · omega
    · exact hk3
  rcases endP_cases (id := m + 1) (frm := frm) (to := to) hjl with ⟨e, h6⟩ | ⟨e, _⟩
  · rw [e] at h3'
    have hto3 : to = 3 := h3'
    have hmem : m + 1 ∈ upL T (j + 1) := by
      rcases h6 with h6 | h6
      · rw [← h6]; exact mem_upL_self h.wf hjl
      · exact h6.1
    have hmk : m + 1 ∈ upL T (k + 1) := mem_upL_par h.wf hk (by rw [hj]; exact hmem)
    rcases endP_cases (id := m + 1) (frm := frm) (to := to) hk with ⟨e2, _⟩ | ⟨e2, _, h7⟩
    · rw [e2]; exact hto3
    · rw [e2]
      rcases hsk with hsk | hsk | hsk
      · exact absurd ⟨hmk, by omega⟩ h7
      · exact absurd ⟨hmk, by omega⟩ h7
      · exact hsk
  · rw [e] at h3'
    exact keep (hg k hk hp (by rw [hj]; exact h3'))

theorem GoneDown.congr {T T' : List One} (h : GoneDown T) (hl : T'.length = T.length) (hp : ∀ k, (gt T' k).parent = (gt T k).parent) (hs : ∀ k, (gt T' k).state = (gt T k).state) : GoneDown T' := by
  intro k hk h1 h2
  rw [hl] at hk
  rw [hp] at h1 h2
  rw [hs]
  exact h k hk h1 (by unfold st at h2 ⊢; rw [hs] at h2; exact h2)

theorem GoneDown.do {T : List One} {last : Nat} (hg : GoneDown T) (h : Inv T last) (kind id : Int) : GoneDown (doT T last kind id) := by
  unfold doT
  by_cases k0 : kind = 0
  · rw [if_pos k0]
    unfold beginT
    by_cases he : beginE T id = 0
    · rw [if_pos he]
      intro k hk hp h3
      by_cases e : k < T.length
      · rw [gt_snoc_lt e] at hp h3 ⊢
        have := h.wf.par k e
        rw [st_snoc_lt (by omega) (by omega)] at h3
        exact hg k e hp h3
      · obtain rfl : k = T.length := by simp at hk; omega
        rw [gt_snoc_eq] at hp h3 ⊢
        exfalso
        simp only at hp h3
        unfold beginE at he
        have h0 : id ≠ 0 := by rintro rfl; exact hp rfl
        by_cases hr : inR T id = true
        · have hr' : 1 ≤ id ∧ id ≤ T.length := by simpa [inR, inB] using hr
          rw [hr, if_neg (by simp)] at he
          by_cases hs : st T id.toNat = 1
          · rw [st_snoc_lt (by omega) (by omega), hs] at h3; omega
          · rw [if_pos ⟨h0, hs⟩] at he; omega
        · rw [if_pos ⟨h0, by simpa using hr⟩] at he; omega
    · rw [if_neg he]; exact hg
  · rw [if_neg k0]
    by_cases k1 : kind = 1
    · rw [if_pos k1]
      by_cases he : endE T id = 0
      · obtain ⟨m, rfl, hm, hs⟩ := endE_in he
        have e1 : ((m : Int) + 1).toNat = m + 1 := by omega
        have hE : endT T ((m : Int) + 1) 1 2 = endP T (m + 1) 1 2 T.length := by unfold endT; rw [if_pos he, e1]
        refine (hg.end h hm hs (frm := 1) (to := 2) (.inl ⟨rfl, rfl⟩)).congr (by rw [commitT_length, endP_length]) ?_ ?_
        · intro k; rw [commitT_par, endP_par]
        · intro j
          unfold commitT; rw [if_pos he, e1, hE]
          split
          · rw [gt_setNum (by rw [endP_length]; exact hm)]
            split
            · rename_i e; subst e; rfl
            · rfl
          · rfl
      · unfold commitT; rw [if_neg he]; exact hg
    · rw [if_neg k1]
      by_cases he : endE T id = 0
      · obtain ⟨m, rfl, hm, hs⟩ := endE_in he
        have e1 : ((m : Int) + 1).toNat = m + 1 := by omega
        have hE : abortT T ((m : Int) + 1) = endP T (m + 1) 2 3 T.length := by unfold abortT endT; rw [if_pos he, e1]
        rw [hE]
        exact hg.end h hm hs (.inr ⟨rfl, rfl⟩)
      · unfold abortT endT; rw [if_neg he]; exact hg

/-- One that is Gone has all below it Gone. -/
theorem gone_chain {T : List One} (hw : WF T) (hg : GoneDown T) : ∀ (n k j : Nat), k ≤ n → k < T.length → j ∈ upL T (k + 1) → st T j = 3 → (gt T k).state = 3 := by
  intro n
  induction n with
  | zero =>
    intro k j hk hl hj h3
    have hp := hw.par k hl
    rw [upL_top hw hl (by omega)] at hj
    simp at hj
    subst hj; exact h3
  | succ n ih =>
    intro k j hk hl hj h3
    rw [upL_in hw (by omega) (by omega), List.mem_cons] at hj
    rcases hj with rfl | hj
    · exact h3
    · have hj' : j ∈ upL T (gt T k).parent := hj
      have hpk := hw.par k hl
      have hp : (gt T k).parent ≠ 0 := by intro e; rw [e, upL_out (by omega)] at hj'; cases hj'
      obtain ⟨i, hi⟩ : ∃ i, (gt T k).parent = i + 1 := ⟨(gt T k).parent - 1, by omega⟩
      rw [hi] at hj'
      refine hg k hl hp ?_
      rw [hi]
      exact ih i j (by omega) (by omega) hj' h3

/-! ### Behind Commit, Abort -/
structure Backed (T T' : List One) (last' m k : Nat) (commit : Bool) : Prop where
  out : m + 1 ∉ upL T (k + 1) → SameTold T T' k
  back : m + 1 ∈ upL T (k + 1) → commit = false → stateOf T' ((k : Int) + 1) = 3 ∧ countsOf T' ((k : Int) + 1) = false ∧ numberOf T' ((k : Int) + 1) = 0
  cnt : m + 1 ∈ upL T (k + 1) → commit = true → countsOf T' ((k : Int) + 1) = countsOf T ((k : Int) + 1) ∧ (countsOf T' ((k : Int) + 1) = true ↔ stateOf T' ((k : Int) + 1) = 2)
  num0 : m + 1 ∈ upL T (k + 1) → commit = true → (gt T m).parent = 0 → countsOf T' ((k : Int) + 1) = true → numberOf T' ((k : Int) + 1) = last'
  num1 : m + 1 ∈ upL T (k + 1) → commit = true → (gt T m).parent ≠ 0 → numberOf T' ((k : Int) + 1) = 0

theorem backed_out {T T' : List One} {last : Nat} (h : Inv T last) {m frm to : Nat} (hm : m < T.length) (hl : T'.length = T.length) (hp : ∀ k, (gt T' k).parent = (gt T k).parent)
    (hst : ∀ k, (gt T' k).state = (gt (endP T (m + 1) frm to T.length) k).state) (hnum : ∀ k, k ≠ m → (gt T' k).number = (gt T k).number) {k : Nat} (hk : k < T.length) (hnot : m + 1 ∉ upL T (k + 1)) : SameTold T T' k := by
  refine same_of h.wf hl hp hk ?_
  intro j hj hmem
  have hjm : m + 1 ∉ upL T (j + 1) := fun hh => hnot (mem_upL_trans h.wf (k + 1) (j + 1) (k + 1) (m + 1) (Nat.le_refl _) hmem hh)
  refine ⟨?_, hnum j (by rintro rfl; exact hjm (mem_upL_self h.wf hj))⟩
  rw [hst]
  rcases endP_cases (id := m + 1) (frm := frm) (to := to) hj with ⟨e, h6⟩ | ⟨e, _⟩
  · rcases h6 with h6 | h6
    · exact absurd (h6 ▸ mem_upL_self h.wf hj) hjm
    · exact absurd h6.1 hjm
  · rw [e]

theorem backed_abort {T : List One} {last : Nat} (h : Inv T last) {m : Nat} (he : endE T ((m : Int) + 1) = 0) (hm : m < T.length) {k : Nat} (hk : k < T.length) : Backed T (abortT T ((m : Int) + 1)) last m k false := by
  have e1 : ((m : Int) + 1).toNat = m + 1 := by omega
  have hE : abortT T ((m : Int) + 1) = endP T (m + 1) 2 3 T.length := by unfold abortT endT; rw [if_pos he, e1]
  rw [hE]
  refine ⟨backed_out h hm (endP_length ..) (fun _ => endP_par ..) (fun _ => rfl) (fun _ _ => endP_num ..) hk, ?_, (fun _ h => by cases h), (fun _ h => by cases h), (fun _ h => by cases h)⟩
  intro hmem _
  have hsk := h.sts k hk
  have h3 : (gt (endP T (m + 1) 2 3 T.length) k).state = 3 := by
    rcases endP_cases (id := m + 1) (frm := 2) (to := 3) hk with ⟨e, _⟩ | ⟨e, _, h7⟩
    · rw [e]
    · rw [e]
      rcases hsk with hsk | hsk | hsk
      · exact absurd ⟨hmem, by omega⟩ h7
      · exact absurd ⟨hmem, by omega⟩ h7
      · exact hsk
  have hk' : k < (endP T (m + 1) 2 3 T.length).length := by rw [endP_length]; exact hk
  have e2 : ((k : Int) + 1).toNat = k + 1 := by omega
  have hc : countsOf (endP T (m + 1) 2 3 T.length) ((k : Int) + 1) = false := by
    have hall : (upL (endP T (m + 1) 2 3 T.length) ((k : Int) + 1).toNat).all (fun k => st (endP T (m + 1) 2 3 T.length) k != 3) = false := by
      rw [List.all_eq_false, e2, endP_upL]
      exact ⟨k + 1, mem_upL_self h.wf hk, by simp [st, h3]⟩
    unfold countsOf; rw [hall, Bool.and_false]
  refine ⟨by rw [stateOf_in hk']; exact h3, hc, ?_⟩
  unfold numberOf; rw [hc]; rfl

theorem backed_commit {T : List One} {last : Nat} (h : Inv T last) (hg : GoneDown T) {m : Nat} (he : endE T ((m : Int) + 1) = 0) (hm : m < T.length) (hs : (gt T m).state = 1) {k : Nat} (hk : k < T.length) : Backed T (commitT T last ((m : Int) + 1)) (commitL T last ((m : Int) + 1)) m k true := by
  have e1 : ((m : Int) + 1).toNat = m + 1 := by omega
  have e2 : ((k : Int) + 1).toNat = k + 1 := by omega
  have hI := h.commit ((m : Int) + 1)
  have hE : endT T ((m : Int) + 1) 1 2 = endP T (m + 1) 1 2 T.length := by unfold endT; rw [if_pos he, e1]
  have hl := commitT_length T last ((m : Int) + 1)
  have hp := commitT_par T last ((m : Int) + 1)
  have hst : ∀ j, (gt (commitT T last ((m : Int) + 1)) j).state = (gt (endP T (m + 1) 1 2 T.length) j).state := by
    intro j
    unfold commitT; rw [if_pos he, e1, hE]
    split
    · rw [gt_setNum (by rw [endP_length]; exact hm)]
      split
      · rename_i e; subst e; rfl
      · rfl
    · rfl
  have hnum : ∀ j, j ≠ m → (gt (commitT T last ((m : Int) + 1)) j).number = (gt T j).number := by
    intro j hj
    unfold commitT; rw [if_pos he, e1, hE]
    split
    · rw [gt_setNum (by rw [endP_length]; exact hm), if_neg hj, endP_num]
    · rw [endP_num]
  have hs3 : ∀ j, j < T.length → ((gt (commitT T last ((m : Int) + 1)) j).state = 3 ↔ (gt T j).state = 3) := by
    intro j hj
    rw [hst]
    have := h.sts j hj
    rcases endP_cases (id := m + 1) (frm := 1) (to := 2) hj with ⟨e, h6⟩ | ⟨e, _⟩ <;> rw [e]
    · rcases h6 with h6 | h6
      · obtain rfl : j = m := by omega
        simp; omega
      · simp; omega
  have hcnt : countsOf (commitT T last ((m : Int) + 1)) ((k : Int) + 1) = countsOf T ((k : Int) + 1) := by
    unfold countsOf inR
    rw [hl, e2, upL_congr hl hp]
    congr 1
    have : ∀ l : List Nat, (∀ j ∈ l, 1 ≤ j ∧ j ≤ T.length) → l.all (fun k => st (commitT T last ((m : Int) + 1)) k != 3) = l.all (fun k => st T k != 3) := by
      intro l hl
      induction l with
      | nil => rfl
      | cons a l ih =>
        have ha := hl a (by simp)
        rw [List.all_cons, List.all_cons, ih (fun j hj => hl j (List.mem_cons_of_mem _ hj))]
        congr 1
        have := hs3 (a - 1) (by omega)
        unfold st
        by_cases e : (gt T (a - 1)).state = 3
        · rw [e, this.2 e]
        · have e' : (gt (commitT T last ((m : Int) + 1)) (a - 1)).state ≠ 3 := fun h => e (this.1 h)
          have q1 : ((gt T (a - 1)).state != 3) = true := by rw [bne_iff_ne]; exact e
          have q2 : ((gt (commitT T last ((m : Int) + 1)) (a - 1)).state != 3) = true := by rw [bne_iff_ne]; exact e'
          rw [q1, q2]
    exact this _ (fun j hj => by have := mem_upL h.wf hj; omega)
  have hk' : k < (commitT T last ((m : Int) + 1)).length := by rw [hl]; exact hk
  refine ⟨backed_out h hm hl hp hst hnum hk, (fun _ h => by cases h), ?_, ?_, ?_⟩
  · intro hmem _
    refine ⟨hcnt, ?_⟩
    rw [hcnt, stateOf_in hk', hst]
    have hsk := h.sts k hk
    have hnot1 : (gt (endP T (m + 1) 1 2 T.length) k).state = 2 ↔ (gt T k).state ≠ 3 := by
      rcases endP_cases (id := m + 1) (frm := 1) (to := 2) hk with ⟨e, h6⟩ | ⟨e, _, h7⟩ <;> rw [e]
      · rcases h6 with h6 | h6
        · obtain rfl : k = m := by omega
          simp; omega
        · simp; omega
      · have : ¬ (gt T k).state = 1 := fun h1 => h7 ⟨hmem, by omega⟩
        omega
    rw [hnot1]
    have i1 : inR T ((k : Int) + 1) = true := inB_yes (by omega)
    unfold countsOf
    rw [i1, Bool.true_and, e2, List.all_eq_true]
    constructor
    · intro hh
      have := hh (k + 1) (mem_upL_self h.wf hk)
      simpa [st] using this
    · intro hh j hj
      have : st T j ≠ 3 := fun h3 => hh (gone_chain h.wf hg k k j (Nat.le_refl _) hk hj h3)
      simpa using this
  · intro hmem _ hp0 hc
    have htop : topOf T ((k : Int) + 1) = m + 1 := by rw [topOf_below h.wf hmem]; have := topOf_root h.wf hm hp0; simpa using this
    have htop' : topOf (commitT T last ((m : Int) + 1)) ((k : Int) + 1) = m + 1 := by rw [topOf_congr hl hp]; exact htop
    unfold numberOf
    rw [if_pos hc, htop']
    unfold commitT commitL
    rw [if_pos he, e1, if_pos (show par T (m + 1) = 0 from hp0), if_pos ⟨he, hp0⟩]
    have : (gt (setNum (endT T ((m : Int) + 1) 1 2) (m + 1) (last + 1)) m).number = last + 1 := by rw [gt_setNum (by rw [endT_length]; exact hm), if_pos rfl]
    exact this
  · intro hmem _ hp0
    unfold numberOf
    split
    · obtain ⟨j, hj, hjl, hpj⟩ := top_parent h.wf k k (Nat.le_refl _) hk
      have htop' : topOf (commitT T last ((m : Int) + 1)) ((k : Int) + 1) = j + 1 := by rw [topOf_congr hl hp]; exact hj
      have htm : topOf T ((m + 1 : Nat) : Int) = j + 1 := by rw [← topOf_below h.wf hmem]; exact hj
      have htm2 : j + 1 ∈ upL T (m + 1) := by
        have := topOf_in' h.wf hm
        have e3 : ((m : Int) + 1) = ((m + 1 : Nat) : Int) := by omega
        rw [e3, htm] at this; exact this
      have hsj : (gt T j).state = 1 := run_chain h (m + 1) (m + 1) (j + 1) (Nat.le_refl _) hs htm2
      have hjm : j ≠ m := by rintro rfl; exact hp0 hpj
      have : num (commitT T last ((m : Int) + 1)) (j + 1) = 0 := by
        show (gt (commitT T last ((m : Int) + 1)) j).number = 0
        rw [hnum j hjm]
        by_cases hn : (gt T j).number = 0
        · exact hn
        · have := (h.top j hjl hpj).2 hn; omega
      rw [htop']; exact this
    · rfl

end Go.Proofs.Ytfgkocpmgoaljaa.Xid
