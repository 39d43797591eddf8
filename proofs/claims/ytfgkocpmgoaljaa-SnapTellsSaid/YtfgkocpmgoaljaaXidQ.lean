/- What a step leaves of what was told: plain facts, with no program in sight. No condition. -/
import Derived.Test.YtfgkocpmgoaljaaXidP
namespace Go.Proofs.Ytfgkocpmgoaljaa.Xid

theorem mem_upL_trans {T : List One} (h : WF T) : ∀ (n j k i : Nat), k ≤ n → j ∈ upL T k → i ∈ upL T j → i ∈ upL T k := by
  intro n
  induction n with
  | zero => intro j k i hk hj _; have := mem_upL h hj; omega
  | succ n ih =>
    intro j k i hk hj hi
    have hjr := mem_upL h hj
    by_cases hr : 1 ≤ k ∧ k ≤ T.length
    · rw [upL_in h hr.1 hr.2, List.mem_cons] at hj ⊢
      rcases hj with rfl | hj
      · rw [upL_in h hr.1 hr.2, List.mem_cons] at hi; exact hi
      · have := par_lt h hr.1 hr.2
        exact .inr (ih j _ i (by omega) hj hi)
    · rw [upL_out hr] at hj; cases hj

theorem topOf_mem {T : List One} (h : WF T) : ∀ (n k j : Nat), k ≤ n → j ∈ upL T k → (upL T k).getLastD 0 = (upL T j).getLastD 0 := by
  intro n
  induction n with
  | zero => intro k j hk hj; have := mem_upL h hj; omega
  | succ n ih =>
    intro k j hk hj
    by_cases hr : 1 ≤ k ∧ k ≤ T.length
    · have hj0 := hj
      rw [upL_in h hr.1 hr.2, List.mem_cons] at hj
      rcases hj with rfl | hj
      · rfl
      · have := par_lt h hr.1 hr.2
        have hn : upL T (par T k) ≠ [] := by intro e; rw [e] at hj; cases hj
        rw [upL_in h hr.1 hr.2, ← ih (par T k) j (by omega) hj]
        cases hl : upL T (par T k) with
        | nil => exact absurd hl hn
        | cons a l => simp
    · rw [upL_out hr] at hj; cases hj
theorem topOf_below {T : List One} (h : WF T) {k j : Nat} (hj : j ∈ upL T (k + 1)) : topOf T ((k : Int) + 1) = topOf T (j : Int) := by
  have e1 : ((k : Int) + 1).toNat = k + 1 := by omega
  unfold topOf; rw [e1, Int.toNat_natCast]; exact topOf_mem h (k + 1) (k + 1) j (Nat.le_refl _) hj

theorem run_chain {T : List One} {last : Nat} (h : Inv T last) : ∀ (n k j : Nat), k ≤ n → st T k = 1 → j ∈ upL T k → st T j = 1 := by
  intro n
  induction n with
  | zero => intro k j hk _ hj; have := mem_upL h.wf hj; omega
  | succ n ih =>
    intro k j hk hs hj
    by_cases hr : 1 ≤ k ∧ k ≤ T.length
    · rw [upL_in h.wf hr.1 hr.2, List.mem_cons] at hj
      rcases hj with rfl | hj
      · exact hs
      · have hp := par_lt h.wf hr.1 hr.2
        have hp0 : par T k ≠ 0 := by intro e; rw [e, upL_out (by omega)] at hj; cases hj
        have := h.run (k - 1) (by omega) hs hp0
        exact ih (par T k) j (by omega) this hj
    · rw [upL_out hr] at hj; cases hj

/-- One that is Running stands not above one whose top one is Done. -/
theorem run_not {T : List One} {last : Nat} (h : Inv T last) {k id : Nat} (hn : numberOf T ((k : Int) + 1) ≠ 0) (_hk : k < T.length) (hs : st T id = 1) : id ∉ upL T (k + 1) := by
  intro hm
  have e1 : ((k : Int) + 1).toNat = k + 1 := by omega
  unfold numberOf at hn
  by_cases hc : countsOf T ((k : Int) + 1) = true
  · rw [if_pos hc, topOf_below h.wf hm] at hn
    have hir := mem_upL h.wf hm
    have ht : topOf T (id : Int) ∈ upL T id := by
      unfold topOf; rw [Int.toNat_natCast, upL_in h.wf (by omega) (by omega), List.getLastD_cons]; exact List.getLastD_mem_cons ..
    have hs1 := run_chain h id id _ (Nat.le_refl _) hs ht
    have htr := mem_upL h.wf ht
    obtain ⟨j, hj⟩ : ∃ j, topOf T (id : Int) = j + 1 := ⟨topOf T (id : Int) - 1, by omega⟩
    rw [hj] at hs1 hn htr
    have hs2 : (gt T j).state = 1 := hs1
    have hn2 : (gt T j).number ≠ 0 := hn
    by_cases hp : (gt T j).parent = 0
    · have := (h.top j (by omega) hp).2 hn2; omega
    · exact hn2 (h.non j (by omega) hp)
  · rw [if_neg hc] at hn; exact hn rfl

/-! ### Tables with the same parents -/
theorem stateOf_congr {T T' : List One} (hl : T'.length = T.length) {k : Nat} (hk : k < T.length) (h : (gt T' k).state = (gt T k).state) : stateOf T' ((k : Int) + 1) = stateOf T ((k : Int) + 1) := by
  rw [stateOf_in hk, stateOf_in (by omega), h]
theorem topOf_congr {T T' : List One} (hl : T'.length = T.length) (hp : ∀ k, (gt T' k).parent = (gt T k).parent) (id : Int) : topOf T' id = topOf T id := by unfold topOf; rw [upL_congr hl hp]
theorem countsOf_congr {T T' : List One} (hl : T'.length = T.length) (hp : ∀ k, (gt T' k).parent = (gt T k).parent) (id : Int) (h : ∀ j ∈ upL T id.toNat, st T' j = st T j) : countsOf T' id = countsOf T id := by
  unfold countsOf inR
  rw [hl, upL_congr hl hp]
  congr 1
  have : ∀ l : List Nat, (∀ j ∈ l, st T' j = st T j) → l.all (fun k => st T' k != 3) = l.all (fun k => st T k != 3) := by
    intro l hl
    induction l with
    | nil => rfl
    | cons a l ih => rw [List.all_cons, List.all_cons, hl a (by simp), ih (fun j hj => hl j (List.mem_cons_of_mem _ hj))]
  exact this _ h

/-- What is told of one stays by what a step may leave. -/
structure Stays (T T' : List One) (kind id : Int) (k : Nat) : Prop where
  top : topOf T' ((k : Int) + 1) = topOf T ((k : Int) + 1)
  num : numberOf T ((k : Int) + 1) ≠ 0 → numberOf T' ((k : Int) + 1) = numberOf T ((k : Int) + 1)
  gone : stateOf T ((k : Int) + 1) = 3 → stateOf T' ((k : Int) + 1) = 3
  done : stateOf T ((k : Int) + 1) = 2 → stateOf T' ((k : Int) + 1) ≠ 1
  cnt : countsOf T ((k : Int) + 1) = false → countsOf T' ((k : Int) + 1) = false
  back : stateOf T ((k : Int) + 1) = 2 → stateOf T' ((k : Int) + 1) = 3 → kind ≠ 0 ∧ kind ≠ 1 ∧ stateOf T' id = 3 ∧ topOf T' id = topOf T' ((k : Int) + 1)

theorem Stays.refl (T : List One) (kind id : Int) (k : Nat) : Stays T T kind id k := ⟨rfl, fun _ => rfl, fun h => h, fun h h1 => (by omega), fun h => h, fun h h1 => (by omega)⟩

theorem up_snoc {T : List One} {x : One} : ∀ (f id : Nat), WF T → id ≤ T.length → up (T ++ [x]) f id = up T f id := by
  intro f
  induction f with
  | zero => intros; rfl
  | succ f ih =>
    intro id hw hid
    rw [up, up]
    by_cases h1 : 1 ≤ id
    · have hp : par (T ++ [x]) id = par T id := by unfold par; rw [gt_snoc_lt (by omega)]
      have := par_lt hw h1 hid
      rw [if_pos ⟨h1, by simp; omega⟩, if_pos ⟨h1, hid⟩, hp, ih _ hw (by omega)]
    · rw [if_neg (by omega), if_neg (by omega)]
theorem upL_snoc {T : List One} {x : One} (hw : WF T) {id : Nat} (hid : id ≤ T.length) : upL (T ++ [x]) id = upL T id := up_snoc id id hw hid

/-- Nothing is told otherwise of one when another one has begun. -/
structure SameTold (T T' : List One) (k : Nat) : Prop where
  st : stateOf T' ((k : Int) + 1) = stateOf T ((k : Int) + 1)
  top : topOf T' ((k : Int) + 1) = topOf T ((k : Int) + 1)
  num : numberOf T' ((k : Int) + 1) = numberOf T ((k : Int) + 1)
  cnt : countsOf T' ((k : Int) + 1) = countsOf T ((k : Int) + 1)
theorem SameTold.refl (T : List One) (k : Nat) : SameTold T T k := ⟨rfl, rfl, rfl, rfl⟩

theorem same_snoc {T : List One} {x : One} (hw : WF T) {k : Nat} (hk : k < T.length) : SameTold T (T ++ [x]) k := by
  have e1 : ((k : Int) + 1).toNat = k + 1 := by omega
  have hu := upL_snoc (x := x) hw (id := k + 1) (by omega)
  have h1 : stateOf (T ++ [x]) ((k : Int) + 1) = stateOf T ((k : Int) + 1) := by rw [stateOf_in hk, stateOf_in (by simp; omega), gt_snoc_lt hk]
  have h2 : topOf (T ++ [x]) ((k : Int) + 1) = topOf T ((k : Int) + 1) := by unfold topOf; rw [e1, hu]
  have h3 : countsOf (T ++ [x]) ((k : Int) + 1) = countsOf T ((k : Int) + 1) := by
    have i1 : inR (T ++ [x]) ((k : Int) + 1) = true := inB_yes (by simp; omega)
    have i2 : inR T ((k : Int) + 1) = true := inB_yes (by omega)
    unfold countsOf
    rw [i1, i2, e1, hu]
    have : ∀ l : List Nat, (∀ j ∈ l, 1 ≤ j ∧ j ≤ T.length) → l.all (fun k => Xid.st (T ++ [x]) k != 3) = l.all (fun k => Xid.st T k != 3) := by
      intro l hl
      induction l with
      | nil => rfl
      | cons a l ih =>
        have := hl a (by simp)
        rw [List.all_cons, List.all_cons, st_snoc_lt this.2 this.1, ih (fun j hj => hl j (List.mem_cons_of_mem _ hj))]
    rw [this _ (fun j hj => by have := mem_upL hw hj; omega)]
  refine ⟨h1, h2, ?_, h3⟩
  unfold numberOf
  rw [h3, h2]
  by_cases hc : countsOf T ((k : Int) + 1) = true
  · rw [if_pos hc, if_pos hc]
    have ht : topOf T ((k : Int) + 1) ∈ upL T (k + 1) := by
      unfold topOf; rw [e1, upL_in hw (by omega) (by omega), List.getLastD_cons]; exact List.getLastD_mem_cons ..
    have := mem_upL hw ht
    unfold num; rw [gt_snoc_lt (by omega)]
  · rw [if_neg hc, if_neg hc]

theorem SameTold.stays {T T' : List One} {kind id : Int} {k : Nat} (h : SameTold T T' k) : Stays T T' kind id k :=
  ⟨h.top, fun _ => h.num, fun hs => by rw [h.st]; exact hs, fun hs => by rw [h.st]; omega, fun hc => by rw [h.cnt]; exact hc, fun h1 h2 => by rw [h.st] at h2; omega⟩

/-- Where none on one's way up has turned, nothing is told otherwise. -/
theorem same_of {T T' : List One} (hw : WF T) (hl : T'.length = T.length) (hp : ∀ k, (gt T' k).parent = (gt T k).parent) {k : Nat} (hk : k < T.length)
    (h : ∀ j, j < T.length → j + 1 ∈ upL T (k + 1) → (gt T' j).state = (gt T j).state ∧ (gt T' j).number = (gt T j).number) : SameTold T T' k := by
  have e1 : ((k : Int) + 1).toNat = k + 1 := by omega
  have hm : ∀ j ∈ upL T (k + 1), Xid.st T' j = Xid.st T j ∧ num T' j = num T j := by
    intro j hj
    have hr := mem_upL hw hj
    obtain ⟨i, rfl⟩ : ∃ i, j = i + 1 := ⟨j - 1, by omega⟩
    exact h i (by omega) hj
  have h1 := topOf_congr hl hp ((k : Int) + 1)
  have h2 := countsOf_congr hl hp ((k : Int) + 1) (fun j hj => (hm j (by rw [e1] at hj; exact hj)).1)
  refine ⟨stateOf_congr hl hk (h k hk (mem_upL_self hw hk)).1, h1, ?_, h2⟩
  unfold numberOf
  rw [h2, h1]
  split
  · have ht : topOf T ((k : Int) + 1) ∈ upL T (k + 1) := by
      unfold topOf; rw [e1, upL_in hw (by omega) (by omega), List.getLastD_cons]; exact List.getLastD_mem_cons ..
    exact (hm _ ht).2
  · rfl

/-- What end leaves, with whatever number for one that is Running. -/
theorem stays_end {T T' : List One} {last : Nat} (h : Inv T last) {m frm to : Nat} (hm : m < T.length) (hs : (gt T m).state = 1) (hto : to = 2 ∨ to = 3) (hl : T'.length = T.length)
    (hp : ∀ k, (gt T' k).parent = (gt T k).parent) (hst : ∀ k, (gt T' k).state = (gt (endP T (m + 1) frm to T.length) k).state) (hnum : ∀ k, k ≠ m → (gt T' k).number = (gt T k).number) (kind : Int)
    (hk2 : to = 2 → frm = 1) (hk3 : to = 3 → kind ≠ 0 ∧ kind ≠ 1) {k : Nat} (hk : k < T.length) : Stays T T' kind ((m : Int) + 1) k := by
  have e1 : ((k : Int) + 1).toNat = k + 1 := by omega
  have htop := topOf_congr hl hp ((k : Int) + 1)
  have hcase : ∀ j, j < T.length → (gt T' j).state = (gt T j).state ∨ ((gt T' j).state = to ∧ m + 1 ∈ upL T (j + 1) ∧ ((gt T j).state ≤ frm ∨ j = m)) := by
    intro j hj
    rw [hst]
    rcases endP_cases (id := m + 1) (frm := frm) (to := to) hj with ⟨e, h6⟩ | ⟨e, _⟩
    · rw [e]
      rcases h6 with h6 | h6
      · obtain rfl : j = m := by omega
        exact .inr ⟨rfl, mem_upL_self h.wf hj, .inr rfl⟩
      · exact .inr ⟨rfl, h6.1, .inl h6.2⟩
    · rw [e]; exact .inl rfl
  have hs3 : ∀ j, j < T.length → (gt T j).state = 3 → (gt T' j).state = 3 := by
    intro j hj h3
    rcases hcase j hj with h4 | ⟨h4, _, h5⟩
    · omega
    · rcases h5 with h5 | h5
      · by_cases e2 : to = 2
        · have := hk2 e2; omega
        · omega
      · subst h5; omega
  refine ⟨htop, ?_, ?_, ?_, ?_, ?_⟩
  · intro hn
    have hnot := run_not h (id := m + 1) hn hk hs
    refine (same_of h.wf hl hp hk ?_).num
    intro j hj hmem
    have hjm : m + 1 ∉ upL T (j + 1) := fun hh => hnot (mem_upL_trans h.wf (k + 1) (j + 1) (k + 1) (m + 1) (Nat.le_refl _) hmem hh)
    refine ⟨?_, hnum j ?_⟩
    · rcases hcase j hj with h4 | ⟨_, h5, _⟩
      · exact h4
      · exact absurd h5 hjm
    · rintro rfl; exact hjm (mem_upL_self h.wf hj)
  · rw [stateOf_in hk, stateOf_in (by omega)]; exact hs3 k hk
  · rw [stateOf_in hk, stateOf_in (by omega)]
    intro h2
    rcases hcase k hk with h4 | ⟨h4, _⟩ <;> omega
  · intro hc
    have i1 : inR T ((k : Int) + 1) = true := inB_yes (by omega)
    unfold countsOf at hc ⊢
    rw [i1, Bool.true_and, e1, List.all_eq_false] at hc
    obtain ⟨j, hj, hj3⟩ := hc
    have hr := mem_upL h.wf hj
    obtain ⟨i, rfl⟩ : ∃ i, j = i + 1 := ⟨j - 1, by omega⟩
    have hi3 : (gt T i).state = 3 := by simpa [st] using hj3
    have := hs3 i (by omega) hi3
    have hall : (upL T' ((k : Int) + 1).toNat).all (fun k => st T' k != 3) = false := by
      rw [List.all_eq_false, e1, upL_congr hl hp]
      exact ⟨i + 1, hj, by simp [st, this]⟩
    rw [hall, Bool.and_false]
  · rw [stateOf_in hk, stateOf_in (by omega)]
    intro h2 h3
    rcases hcase k hk with h4 | ⟨h4, h5, h6⟩
    · omega
    · have hto3 : to = 3 := by omega
      have hmm : stateOf T' ((m : Int) + 1) = 3 := by
        rw [stateOf_in (by omega), hst]
        rcases endP_cases (id := m + 1) (frm := frm) (to := to) hm with ⟨e, _⟩ | ⟨_, h7, _⟩
        · rw [e]; exact hto3
        · exact absurd rfl h7
      refine ⟨(hk3 hto3).1, (hk3 hto3).2, hmm, ?_⟩
      rw [topOf_congr hl hp, topOf_congr hl hp, topOf_below h.wf h5]; rfl

theorem stays_do {T : List One} {last : Nat} (h : Inv T last) (kind id : Int) {k : Nat} (hk : k < T.length) : Stays T (doT T last kind id) kind id k := by
  unfold doT
  by_cases k0 : kind = 0
  · rw [if_pos k0]
    unfold beginT
    split
    · exact (same_snoc h.wf hk).stays
    · exact Stays.refl ..
  · rw [if_neg k0]
    by_cases k1 : kind = 1
    · rw [if_pos k1]
      by_cases he : endE T id = 0
      · obtain ⟨m, rfl, hm, hs⟩ := endE_in he
        have e1 : ((m : Int) + 1).toNat = m + 1 := by omega
        have hE : endT T ((m : Int) + 1) 1 2 = endP T (m + 1) 1 2 T.length := by unfold endT; rw [if_pos he, e1]
        refine stays_end h hm hs (frm := 1) (to := 2) (.inl rfl) (commitT_length ..) (fun _ => commitT_par ..) ?_ ?_ kind (fun _ => rfl) (fun h => by cases h) hk
        · intro j
          unfold commitT; rw [if_pos he, e1, hE]
          split
          · rw [gt_setNum (by rw [endP_length]; exact hm)]
            split
            · rename_i e; subst e; rfl
            · rfl
          · rfl
        · intro j hj
          unfold commitT; rw [if_pos he, e1, hE]
          split
          · rw [gt_setNum (by rw [endP_length]; exact hm), if_neg hj, endP_num]
          · rw [endP_num]
      · unfold commitT; rw [if_neg he]; exact Stays.refl ..
    · rw [if_neg k1]
      by_cases he : endE T id = 0
      · obtain ⟨m, rfl, hm, hs⟩ := endE_in he
        have e1 : ((m : Int) + 1).toNat = m + 1 := by omega
        have hE : abortT T ((m : Int) + 1) = endP T (m + 1) 2 3 T.length := by unfold abortT endT; rw [if_pos he, e1]
        rw [hE]
        exact stays_end h hm hs (frm := 2) (to := 3) (.inr rfl) (endP_length ..) (fun _ => endP_par ..) (fun _ => rfl) (fun _ _ => endP_num ..) kind (fun h => by cases h) (fun _ => ⟨k0, k1⟩) hk
      · unfold abortT endT; rw [if_neg he]; exact Stays.refl ..

theorem do_refused {T : List One} {last : Nat} {kind id : Int} (he : doE T kind id ≠ 0) : doT T last kind id = T ∧ doL T last kind id = last := by
  unfold doE at he
  unfold doT doL
  by_cases k0 : kind = 0
  · rw [if_pos k0] at he ⊢
    rw [if_neg (by omega)]
    unfold beginT; rw [if_neg he]; exact ⟨rfl, rfl⟩
  · rw [if_neg k0] at he ⊢
    have hE : ∀ a b, endT T id a b = T := fun a b => by unfold endT; rw [if_neg he]
    by_cases k1 : kind = 1
    · rw [if_pos k1, if_pos k1]
      exact ⟨by unfold commitT; rw [if_neg he], by unfold commitL; rw [if_neg (fun h => he h.1)]⟩
    · rw [if_neg k1, if_neg k1]
      exact ⟨hE 2 3, rfl⟩

theorem doT_ge (T : List One) (last : Nat) (kind id : Int) : T.length ≤ (doT T last kind id).length := by
  unfold doT; split
  · unfold beginT; split <;> simp
  · split
    · rw [commitT_length]; exact Nat.le_refl _
    · unfold abortT; rw [endT_length]; exact Nat.le_refl _

/-- The states that may follow, by cases. -/
theorem Stays.cases {T T' : List One} {kind id : Int} {k : Nat} (h : Stays T T' kind id k) (h1 : stateOf T ((k : Int) + 1) = 1 ∨ stateOf T ((k : Int) + 1) = 2 ∨ stateOf T ((k : Int) + 1) = 3) (h2 : stateOf T' ((k : Int) + 1) = 1 ∨ stateOf T' ((k : Int) + 1) = 2 ∨ stateOf T' ((k : Int) + 1) = 3) :
    (stateOf T ((k : Int) + 1) = 1) ∨ (stateOf T ((k : Int) + 1) = 2 ∧ stateOf T' ((k : Int) + 1) = 2) ∨
    (stateOf T ((k : Int) + 1) = 2 ∧ stateOf T' ((k : Int) + 1) = 3 ∧ kind ≠ 0 ∧ kind ≠ 1 ∧ stateOf T' id = 3 ∧ topOf T' id = topOf T' ((k : Int) + 1)) ∨ (stateOf T ((k : Int) + 1) = 3 ∧ stateOf T' ((k : Int) + 1) = 3) := by
  rcases h1 with h1 | h1 | h1
  · exact .inl h1
  · rcases h2 with h2 | h2 | h2
    · exact absurd h2 (h.done h1)
    · exact .inr (.inl ⟨h1, h2⟩)
    · exact .inr (.inr (.inl ⟨h1, h2, h.back h1 h2⟩))
  · exact .inr (.inr (.inr ⟨h1, h.gone h1⟩))
theorem sts_in {T : List One} {last : Nat} (h : Inv T last) {k : Nat} (hk : k < T.length) : stateOf T ((k : Int) + 1) = 1 ∨ stateOf T ((k : Int) + 1) = 2 ∨ stateOf T ((k : Int) + 1) = 3 := by
  rw [stateOf_in hk]; exact h.sts k hk

end Go.Proofs.Ytfgkocpmgoaljaa.Xid
