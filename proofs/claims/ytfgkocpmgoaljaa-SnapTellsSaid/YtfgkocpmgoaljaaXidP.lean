/- What holds of a table behind any steps: plain facts on lists and numbers, with no program in sight. No condition. -/
import Derived.Test.YtfgkocpmgoaljaaXid
namespace Go.Proofs.Ytfgkocpmgoaljaa.Xid

structure Inv (T : List One) (last : Nat) : Prop where
  wf : WF T
  sts : ∀ k, k < T.length → (gt T k).state = 1 ∨ (gt T k).state = 2 ∨ (gt T k).state = 3
  run : ∀ k, k < T.length → (gt T k).state = 1 → (gt T k).parent ≠ 0 → st T (gt T k).parent = 1
  top : ∀ k, k < T.length → (gt T k).parent = 0 → ((gt T k).state = 2 ↔ (gt T k).number ≠ 0)
  non : ∀ k, k < T.length → (gt T k).parent ≠ 0 → (gt T k).number = 0
  le : ∀ k, k < T.length → (gt T k).number ≤ last
  uniq : ∀ j k, j < T.length → k < T.length → (gt T j).number = (gt T k).number → (gt T j).number ≠ 0 → j = k
  all : ∀ n, 1 ≤ n → n ≤ last → ∃ k, k < T.length ∧ (gt T k).number = n

theorem Inv.nil : Inv [] 0 := by
  constructor
  · constructor <;> (intro k h; simp at h)
  all_goals (intros; simp at *)
  omega

theorem gt_snoc_lt {T : List One} {x : One} {k : Nat} (h : k < T.length) : gt (T ++ [x]) k = gt T k := by simp [gt, List.getD, List.getElem?_append_left h]
theorem gt_snoc_eq (T : List One) (x : One) : gt (T ++ [x]) T.length = x := by simp [gt, List.getD]
theorem st_snoc_lt {T : List One} {x : One} {k : Nat} (h : k ≤ T.length) (h1 : 1 ≤ k) : st (T ++ [x]) k = st T k := by unfold st; rw [gt_snoc_lt (by omega)]

theorem Inv.push {T : List One} {last : Nat} (h : Inv T last) {x : One} (h1 : x.state = 1) (h2 : x.number = 0) (h3 : x.parent = 0 ∨ (1 ≤ x.parent ∧ x.parent ≤ T.length ∧ st T x.parent = 1)) : Inv (T ++ [x]) last := by
  have hc : ∀ k, k < (T ++ [x]).length → (k < T.length ∧ gt (T ++ [x]) k = gt T k) ∨ (k = T.length ∧ gt (T ++ [x]) k = x) := by
    intro k hk
    by_cases e : k < T.length
    · exact .inl ⟨e, gt_snoc_lt e⟩
    · have : k = T.length := by simp at hk; omega
      subst this; exact .inr ⟨rfl, gt_snoc_eq T x⟩
  constructor
  · constructor
    · intro k hk
      rcases hc k hk with ⟨e, e2⟩ | ⟨e, e2⟩ <;> rw [e2]
      · exact h.wf.par k e
      · omega
    · intro k hk
      rcases hc k hk with ⟨e, e2⟩ | ⟨e, e2⟩ <;> rw [e2]
      · exact h.wf.st k e
      · omega
  · intro k hk
    rcases hc k hk with ⟨e, e2⟩ | ⟨e, e2⟩ <;> rw [e2]
    · exact h.sts k e
    · exact .inl h1
  · intro k hk
    rcases hc k hk with ⟨e, e2⟩ | ⟨e, e2⟩ <;> rw [e2]
    · intro hs hp
      have := h.wf.par k e
      rw [st_snoc_lt (by omega) (by omega)]
      exact h.run k e hs hp
    · intro _ hp
      rcases h3 with h3 | ⟨h3, h4, h5⟩
      · exact absurd h3 hp
      · rw [st_snoc_lt h4 h3]; exact h5
  · intro k hk
    rcases hc k hk with ⟨e, e2⟩ | ⟨e, e2⟩ <;> rw [e2]
    · exact h.top k e
    · intro _; rw [h1, h2]; decide
  · intro k hk
    rcases hc k hk with ⟨e, e2⟩ | ⟨e, e2⟩ <;> rw [e2]
    · exact h.non k e
    · exact fun _ => h2
  · intro k hk
    rcases hc k hk with ⟨e, e2⟩ | ⟨e, e2⟩ <;> rw [e2]
    · exact h.le k e
    · omega
  · intro j k hj hk
    rcases hc j hj with ⟨e, e2⟩ | ⟨e, e2⟩ <;> rcases hc k hk with ⟨e3, e4⟩ | ⟨e3, e4⟩ <;> rw [e2, e4]
    · exact h.uniq j k e e3
    · intro h5 h6; omega
    · intro h5 h6; omega
    · intro _ _; omega
  · intro n hn1 hn2
    obtain ⟨k, hk, e⟩ := h.all n hn1 hn2
    exact ⟨k, by simp; omega, by rw [gt_snoc_lt hk]; exact e⟩

theorem upL_top {T : List One} (h : WF T) {k : Nat} (hk : k < T.length) (hp : (gt T k).parent = 0) : upL T (k + 1) = [k + 1] := by
  rw [upL_in h (by omega) (by omega)]
  have : par T (k + 1) = 0 := hp
  rw [this, upL_out (by omega)]
theorem mem_upL_self {T : List One} (h : WF T) {k : Nat} (hk : k < T.length) : k + 1 ∈ upL T (k + 1) := by rw [upL_in h (by omega) (by omega)]; simp
theorem mem_upL_par {T : List One} (h : WF T) {k id : Nat} (hk : k < T.length) (hp : id ∈ upL T (gt T k).parent) : id ∈ upL T (k + 1) := by
  rw [upL_in h (by omega) (by omega)]; exact List.mem_cons_of_mem _ hp

/-- What end makes of one, by cases. -/
theorem endP_cases {T : List One} {id frm to k : Nat} (hk : k < T.length) :
    (gt (endP T id frm to T.length) k = { gt T k with state := to } ∧ (k + 1 = id ∨ id ∈ upL T (k + 1) ∧ (gt T k).state ≤ frm)) ∨
    (gt (endP T id frm to T.length) k = gt T k ∧ k + 1 ≠ id ∧ ¬ (id ∈ upL T (k + 1) ∧ (gt T k).state ≤ frm)) := by
  rw [endP_get _ _ _ _ _ _ hk]
  by_cases e : k + 1 = id
  · rw [if_pos e]; exact .inl ⟨rfl, .inl e⟩
  · rw [if_neg e]
    by_cases e2 : id ∈ upL T (k + 1) ∧ (gt T k).state ≤ frm
    · rw [if_pos ⟨by omega, e2⟩]; exact .inl ⟨rfl, .inr e2⟩
    · rw [if_neg (fun h => e2 h.2)]; exact .inr ⟨rfl, e, e2⟩

/-- end, but for the number that Commit gives. -/
structure Inv0 (T : List One) (last id : Nat) : Prop where
  wf : WF T
  sts : ∀ k, k < T.length → (gt T k).state = 1 ∨ (gt T k).state = 2 ∨ (gt T k).state = 3
  run : ∀ k, k < T.length → (gt T k).state = 1 → (gt T k).parent ≠ 0 → st T (gt T k).parent = 1
  top : ∀ k, k < T.length → k + 1 ≠ id → (gt T k).parent = 0 → ((gt T k).state = 2 ↔ (gt T k).number ≠ 0)
  non : ∀ k, k < T.length → (gt T k).parent ≠ 0 → (gt T k).number = 0
  le : ∀ k, k < T.length → (gt T k).number ≤ last
  uniq : ∀ j k, j < T.length → k < T.length → (gt T j).number = (gt T k).number → (gt T j).number ≠ 0 → j = k
  all : ∀ n, 1 ≤ n → n ≤ last → ∃ k, k < T.length ∧ (gt T k).number = n

theorem Inv.end {T : List One} {last : Nat} (h : Inv T last) {m frm to : Nat} (_hm : m < T.length) (hfrm : 1 ≤ frm) (hto : to = 2 ∨ to = 3) : Inv0 (endP T (m + 1) frm to T.length) last (m + 1) := by
  have hl : (endP T (m + 1) frm to T.length).length = T.length := endP_length ..
  have hwf := wf_endP h.wf (id := m + 1) (frm := frm) (m := T.length) (show to < 256 by omega)
  constructor
  · exact hwf
  · intro k hk
    rw [hl] at hk
    rcases endP_cases (id := m + 1) (frm := frm) (to := to) hk with ⟨e, _⟩ | ⟨e, _⟩ <;> rw [e]
    · simp; omega
    · exact h.sts k hk
  · intro k hk hs hp
    rw [hl] at hk
    rw [endP_par] at hp ⊢
    rcases endP_cases (id := m + 1) (frm := frm) (to := to) hk with ⟨e, _⟩ | ⟨e, e2, e3⟩
    · rw [e] at hs; simp at hs; omega
    · rw [e] at hs
      have hpk := h.wf.par k hk
      have hr := h.run k hk hs hp
      obtain ⟨j, hj⟩ : ∃ j, (gt T k).parent = j + 1 := ⟨(gt T k).parent - 1, by omega⟩
      rw [hj] at hr ⊢
      have hjl : j < T.length := by omega
      unfold st at hr ⊢
      have e5 : j + 1 - 1 = j := by omega
      rw [e5] at hr ⊢
      have hn : m + 1 ∉ upL T (j + 1) := fun hh => e3 ⟨mem_upL_par h.wf hk (by rw [hj]; exact hh), by omega⟩
      rcases endP_cases (id := m + 1) (frm := frm) (to := to) hjl with ⟨_, h6⟩ | ⟨e6, _⟩
      · rcases h6 with h6 | h6
        · exact absurd (h6 ▸ mem_upL_self h.wf hjl) hn
        · exact absurd h6.1 hn
      · rw [e6]; exact hr
  · intro k hk hne hp
    rw [hl] at hk
    rw [endP_par] at hp
    rw [endP_num]
    rcases endP_cases (id := m + 1) (frm := frm) (to := to) hk with ⟨_, h6⟩ | ⟨e, _⟩
    · rcases h6 with h6 | h6
      · exact absurd h6 hne
      · rw [upL_top h.wf hk hp] at h6; simp at h6; omega
    · rw [e]; exact h.top k hk hp
  · intro k hk hp
    rw [hl] at hk
    rw [endP_par] at hp
    rw [endP_num]; exact h.non k hk hp
  · intro k hk
    rw [hl] at hk
    rw [endP_num]; exact h.le k hk
  · intro j k hj hk
    rw [hl] at hj hk
    rw [endP_num, endP_num]; exact h.uniq j k hj hk
  · intro n h1 h2
    obtain ⟨k, hk, e⟩ := h.all n h1 h2
    exact ⟨k, by rw [hl]; exact hk, by rw [endP_num]; exact e⟩

theorem endE_in {T : List One} {id : Int} (he : endE T id = 0) : ∃ m : Nat, id = (m : Int) + 1 ∧ m < T.length ∧ (gt T m).state = 1 := by
  have hr : inR T id = true := by
    by_cases hr : inR T id = true
    · exact hr
    · unfold endE at he; rw [if_pos (by simpa using hr)] at he; omega
  have hr' : 1 ≤ id ∧ id ≤ T.length := by simpa [inR, inB] using hr
  obtain ⟨m, rfl⟩ : ∃ m : Nat, id = (m : Int) + 1 := ⟨(id - 1).toNat, by omega⟩
  have e1 : ((m : Int) + 1).toNat = m + 1 := by omega
  refine ⟨m, rfl, by omega, ?_⟩
  unfold endE at he; rw [e1, hr, if_neg (by simp)] at he
  by_cases hs : st T (m + 1) = 1
  · simpa [st] using hs
  · rw [if_pos hs] at he; omega

theorem gt_setNum {T : List One} {m : Nat} (hm : m < T.length) (n k : Nat) : gt (setNum T (m + 1) n) k = if k = m then { gt T m with number := n } else gt T k := by
  unfold setNum
  have e : m + 1 - 1 = m := by omega
  rw [e, gt_set hm]

theorem Inv.commit {T : List One} {last : Nat} (h : Inv T last) (id : Int) : Inv (commitT T last id) (commitL T last id) := by
  unfold commitT commitL
  by_cases he : endE T id = 0
  · obtain ⟨m, rfl, hm, hs⟩ := endE_in he
    have e1 : ((m : Int) + 1).toNat = m + 1 := by omega
    have hE : endT T ((m : Int) + 1) 1 2 = endP T (m + 1) 1 2 T.length := by unfold endT; rw [if_pos he, e1]
    have hl : (endP T (m + 1) 1 2 T.length).length = T.length := endP_length ..
    have h0 := h.end hm (frm := 1) (to := 2) (by omega) (.inl rfl)
    have hmm : (gt (endP T (m + 1) 1 2 T.length) m).state = 2 := by rw [endP_get _ _ _ _ _ _ hm, if_pos rfl]
    rw [if_pos he, e1, hE]
    by_cases hp : par T (m + 1) = 0
    · rw [if_pos hp, if_pos ⟨he, hp⟩]
      have hpm : (gt T m).parent = 0 := hp
      have hg := gt_setNum (T := endP T (m + 1) 1 2 T.length) (m := m) (by rw [hl]; exact hm) (last + 1)
      have hl2 : (setNum (endP T (m + 1) 1 2 T.length) (m + 1) (last + 1)).length = T.length := by simp [setNum, hl]
      have hpar : ∀ k, (gt (setNum (endP T (m + 1) 1 2 T.length) (m + 1) (last + 1)) k).parent = (gt (endP T (m + 1) 1 2 T.length) k).parent := by
        intro k; rw [hg]; split
        · rename_i e; subst e; rfl
        · rfl
      have hst : ∀ k, (gt (setNum (endP T (m + 1) 1 2 T.length) (m + 1) (last + 1)) k).state = (gt (endP T (m + 1) 1 2 T.length) k).state := by
        intro k; rw [hg]; split
        · rename_i e; subst e; rfl
        · rfl
      have hnum0 : (gt (endP T (m + 1) 1 2 T.length) m).number = 0 := by
        rw [endP_num]
        have := h.top m hm hpm
        by_cases hn : (gt T m).number = 0
        · exact hn
        · have := this.2 hn; omega
      constructor
      · constructor
        · intro k hk; rw [hpar]; exact h0.wf.par k (by omega)
        · intro k hk; rw [hst]; exact h0.wf.st k (by omega)
      · intro k hk; rw [hst]; exact h0.sts k (by omega)
      · intro k hk; rw [hst, hpar]; unfold st; rw [hst]; exact h0.run k (by omega)
      · intro k hk; rw [hst, hpar]
        intro hpk
        by_cases e : k = m
        · subst e; rw [hg, if_pos rfl]; simp [hmm]
        · rw [hg, if_neg e]; exact h0.top k (by omega) (by omega) hpk
      · intro k hk; rw [hpar]
        intro hpk
        by_cases e : k = m
        · subst e; rw [endP_par] at hpk; exact absurd hpm hpk
        · rw [hg, if_neg e]; exact h0.non k (by omega) hpk
      · intro k hk
        rw [hg]; split
        · simp
        · have := h0.le k (by omega); omega
      · intro j k hj hk
        rw [hg, hg]
        by_cases e : j = m <;> by_cases e2 : k = m
        · intros; omega
        · rw [if_pos e, if_neg e2]; have := h0.le k (by omega); intro h5; simp at h5; omega
        · rw [if_neg e, if_pos e2]; have := h0.le j (by omega); intro h5; simp at h5; omega
        · rw [if_neg e, if_neg e2]; exact h0.uniq j k (by omega) (by omega)
      · intro n h1 h2
        by_cases e : n = last + 1
        · exact ⟨m, by omega, by rw [hg, if_pos rfl]; exact e.symm⟩
        · obtain ⟨k, hk, e2⟩ := h0.all n h1 (by omega)
          refine ⟨k, by omega, ?_⟩
          rw [hg, if_neg]
          · exact e2
          · rintro rfl; omega
    · rw [if_neg hp, if_neg (fun hh => hp hh.2)]
      refine ⟨h0.wf, h0.sts, h0.run, ?_, h0.non, h0.le, h0.uniq, h0.all⟩
      intro k hk hpk
      refine h0.top k hk ?_ hpk
      intro e
      obtain rfl : k = m := by omega
      rw [endP_par] at hpk
      exact hp hpk
  · rw [if_neg he, if_neg (fun hh => he hh.1)]; exact h

theorem Inv.abort {T : List One} {last : Nat} (h : Inv T last) (id : Int) : Inv (abortT T id) last := by
  unfold abortT endT
  by_cases he : endE T id = 0
  · obtain ⟨m, rfl, hm, hs⟩ := endE_in he
    have e1 : ((m : Int) + 1).toNat = m + 1 := by omega
    rw [if_pos he, e1]
    have h0 := h.end hm (frm := 2) (to := 3) (by omega) (.inr rfl)
    refine ⟨h0.wf, h0.sts, h0.run, ?_, h0.non, h0.le, h0.uniq, h0.all⟩
    intro k hk hpk
    by_cases e : k + 1 = m + 1
    · obtain rfl : k = m := by omega
      rw [endP_par] at hpk
      have hmm : (gt (endP T (k + 1) 2 3 T.length) k).state = 3 := by rw [endP_get _ _ _ _ _ _ hm, if_pos rfl]
      rw [hmm, endP_num]
      have := h.top k hm hpk
      constructor
      · intro h; cases h
      · intro hn; have := this.2 hn; omega
    · exact h0.top k hk e hpk
  · rw [if_neg he]; exact h

theorem Inv.begin {T : List One} {last : Nat} (h : Inv T last) (id : Int) : Inv (beginT T id) last := by
  unfold beginT
  by_cases he : beginE T id = 0
  · rw [if_pos he]
    refine h.push rfl rfl ?_
    by_cases h0 : id = 0
    · subst h0; exact .inl rfl
    · right
      unfold beginE at he
      by_cases hr : inR T id = true
      · have hr' : 1 ≤ id ∧ id ≤ T.length := by simpa [inR, inB] using hr
        refine ⟨by simp; omega, by simp; omega, ?_⟩
        rw [hr, if_neg (by simp)] at he
        by_cases hs : st T id.toNat = 1
        · exact hs
        · rw [if_pos ⟨h0, hs⟩] at he; omega
      · rw [if_pos ⟨h0, by simpa using hr⟩] at he; omega
  · rw [if_neg he]; exact h

theorem Inv.do {T : List One} {last : Nat} (h : Inv T last) (kind id : Int) : Inv (doT T last kind id) (doL T last kind id) := by
  unfold doT doL
  by_cases k0 : kind = 0
  · subst k0; rw [if_pos rfl, if_neg (by decide)]; exact h.begin id
  · rw [if_neg k0]
    by_cases k1 : kind = 1
    · rw [if_pos k1, if_pos k1]; exact h.commit id
    · rw [if_neg k1, if_neg k1]; exact h.abort id

/-! ### One and what it stands below -/
theorem topOf_root {T : List One} (h : WF T) {k : Nat} (hk : k < T.length) (hp : (gt T k).parent = 0) : topOf T ((k : Int) + 1) = k + 1 := by
  have e1 : ((k : Int) + 1).toNat = k + 1 := by omega
  unfold topOf; rw [e1, upL_top h hk hp]; rfl
theorem upL_ne {T : List One} (h : WF T) {k : Nat} (hk : k < T.length) : upL T (k + 1) ≠ [] := by rw [upL_in h (by omega) (by omega)]; simp
theorem topOf_par {T : List One} (h : WF T) {k : Nat} (hk : k < T.length) (hp : (gt T k).parent ≠ 0) : topOf T ((k : Int) + 1) = topOf T ((gt T k).parent : Int) := by
  have e1 : ((k : Int) + 1).toNat = k + 1 := by omega
  have h1 := h.par k hk
  unfold topOf; rw [e1, upL_in h (by omega) (by omega), Int.toNat_natCast]
  obtain ⟨j, hj⟩ : ∃ j, (gt T k).parent = j + 1 := ⟨(gt T k).parent - 1, by omega⟩
  have e2 : par T (k + 1) = j + 1 := hj
  rw [e2, hj]
  have hn := upL_ne h (k := j) (by omega)
  cases hl : upL T (j + 1) with
  | nil => exact absurd hl hn
  | cons a l => simp
theorem countsOf_par {T : List One} (h : WF T) {k : Nat} (hk : k < T.length) (hp : (gt T k).parent ≠ 0) : countsOf T ((k : Int) + 1) = (countsOf T ((gt T k).parent : Int) && ((gt T k).state != 3)) := by
  have e1 : ((k : Int) + 1).toNat = k + 1 := by omega
  have h1 := h.par k hk
  have i1 : inR T ((k : Int) + 1) = true := inB_yes (by omega)
  have i2 : inR T ((gt T k).parent : Int) = true := inB_yes (by omega)
  unfold countsOf
  rw [i1, i2, e1, upL_in h (by omega) (by omega), Int.toNat_natCast, List.all_cons]
  have e2 : par T (k + 1) = (gt T k).parent := rfl
  have e3 : st T (k + 1) = (gt T k).state := rfl
  rw [e2, e3, Bool.true_and, Bool.true_and, Bool.and_comm]
theorem countsOf_root {T : List One} (h : WF T) {k : Nat} (hk : k < T.length) (hp : (gt T k).parent = 0) : countsOf T ((k : Int) + 1) = ((gt T k).state != 3) := by
  have e1 : ((k : Int) + 1).toNat = k + 1 := by omega
  have i1 : inR T ((k : Int) + 1) = true := inB_yes (by omega)
  unfold countsOf
  rw [i1, e1, upL_top h hk hp]
  have e3 : st T (k + 1) = (gt T k).state := rfl
  simp [e3]
theorem stateOf_in {T : List One} {k : Nat} (hk : k < T.length) : stateOf T ((k : Int) + 1) = (gt T k).state := by
  have e1 : ((k : Int) + 1).toNat = k + 1 := by omega
  have i1 : inR T ((k : Int) + 1) = true := inB_yes (by omega)
  unfold stateOf; rw [i1, if_pos rfl, e1]; rfl

/-! ### Who stands below whom, as a list -/
def parL (T : List One) : List Nat := 0 :: T.map (·.parent)
theorem map_par_congr {T T' : List One} (hl : T'.length = T.length) (hp : ∀ k, (gt T' k).parent = (gt T k).parent) : T'.map (·.parent) = T.map (·.parent) := by
  refine List.ext_getElem (by simp [hl]) fun k h1 h2 => ?_
  simp at h1 h2
  have := hp k
  rw [gt_mem h1, gt_mem h2] at this
  simpa using this
theorem endT_par (T : List One) (id : Int) (frm to : Nat) (k : Nat) : (gt (endT T id frm to) k).parent = (gt T k).parent := by
  unfold endT; split
  · exact endP_par ..
  · rfl
theorem commitT_par (T : List One) (last : Nat) (id : Int) (k : Nat) : (gt (commitT T last id) k).parent = (gt T k).parent := by
  unfold commitT; split
  · split
    · unfold setNum
      by_cases hk : id.toNat - 1 < (endT T id 1 2).length
      · rw [gt_set hk]; split
        · rename_i e; subst e; exact endT_par ..
        · exact endT_par ..
      · rw [List.set_eq_of_length_le (by omega)]; exact endT_par ..
    · exact endT_par ..
  · rfl
theorem parL_do_same {T : List One} {last : Nat} {kind id : Int} (h : ¬ (kind = 0 ∧ doE T kind id = 0)) : (doT T last kind id).map (·.parent) = T.map (·.parent) ∧ (doT T last kind id).length = T.length := by
  unfold doT
  by_cases k0 : kind = 0
  · rw [if_pos k0]
    have he : beginE T id ≠ 0 := fun he => h ⟨k0, by unfold doE; rw [if_pos k0]; exact he⟩
    unfold beginT; rw [if_neg he]; exact ⟨rfl, rfl⟩
  · rw [if_neg k0]; split
    · exact ⟨map_par_congr (commitT_length ..) (fun _ => commitT_par ..), commitT_length ..⟩
    · exact ⟨map_par_congr (endT_length ..) (fun _ => endT_par ..), endT_length ..⟩
theorem par_append {T : List One} {last : Nat} {id : Int} (h : beginE T id = 0) : doT T last 0 id = T ++ [⟨id.toNat, 1, 0⟩] := by unfold doT beginT; rw [if_pos rfl, if_pos h]
theorem beginE_nat {T : List One} {id : Int} (h : beginE T id = 0) : ((id.toNat : Nat) : Int) = id := by
  unfold beginE at h
  by_cases h0 : id = 0
  · subst h0; rfl
  · by_cases hr : inR T id = true
    · have hr' : 1 ≤ id ∧ id ≤ T.length := by simpa [inR, inB] using hr
      omega
    · rw [if_pos ⟨h0, by simpa using hr⟩] at h; omega

end Go.Proofs.Ytfgkocpmgoaljaa.Xid
