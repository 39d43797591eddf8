/- The transactions' table as plain data: what each call tells, and makes of it. No condition. -/
import Derived.KernelRfl
namespace Go.Proofs.Ytfgkocpmgoaljaa.Xid

structure One where
  parent : Nat
  state : Nat
  number : Nat

def z1 : One := ⟨0, 0, 0⟩
def gt (T : List One) (k : Nat) : One := T.getD k z1
def par (T : List One) (id : Nat) : Nat := (gt T (id - 1)).parent
def st (T : List One) (id : Nat) : Nat := (gt T (id - 1)).state
def num (T : List One) (id : Nat) : Nat := (gt T (id - 1)).number
def inB (n : Nat) (id : Int) : Bool := decide (1 ≤ id ∧ id ≤ n)
def inR (T : List One) (id : Int) : Bool := inB T.length id
theorem inB_yes {n : Nat} {id : Int} (h : 1 ≤ id ∧ id ≤ n) : inB n id = true := decide_eq_true h
theorem inB_no {n : Nat} {id : Int} (h : ¬ (1 ≤ id ∧ id ≤ n)) : inB n id = false := decide_eq_false h

/-- What each stands below began ahead of it; states and numbers are small. -/
structure WF (T : List One) : Prop where
  par : ∀ k, k < T.length → (gt T k).parent ≤ k
  st : ∀ k, k < T.length → (gt T k).state < 256

def up (T : List One) : Nat → Nat → List Nat
  | 0, _ => []
  | f + 1, id => if 1 ≤ id ∧ id ≤ T.length then id :: up T f (par T id) else []
def upL (T : List One) (id : Nat) : List Nat := up T id id

def stateOf (T : List One) (id : Int) : Nat := if inR T id then st T id.toNat else 0
def topOf (T : List One) (id : Int) : Nat := (upL T id.toNat).getLastD 0
def countsOf (T : List One) (id : Int) : Bool := inR T id && (upL T id.toNat).all (fun k => st T k != 3)
def numberOf (T : List One) (id : Int) : Nat := if countsOf T id then num T (topOf T id) else 0

def beginE (T : List One) (id : Int) : Int := if id ≠ 0 ∧ inR T id = false then 5 else if id ≠ 0 ∧ st T id.toNat ≠ 1 then 7 else 0
def beginA (T : List One) (id : Int) : Int := if beginE T id = 0 then T.length + 1 else 0
def beginT (T : List One) (id : Int) : List One := if beginE T id = 0 then T ++ [⟨id.toNat, 1, 0⟩] else T

def endE (T : List One) (id : Int) : Int := if inR T id = false then 5 else if st T id.toNat ≠ 1 then 7 else 0
/-- As far as the one numbered m. -/
def endP (T : List One) (id frm to m : Nat) : List One :=
  T.mapIdx fun i x => if i + 1 = id then { x with state := to } else if i + 1 ≤ m ∧ id ∈ upL T (i + 1) ∧ x.state ≤ frm then { x with state := to } else x
def endT (T : List One) (id : Int) (frm to : Nat) : List One := if endE T id = 0 then endP T id.toNat frm to T.length else T

def setNum (T : List One) (id n : Nat) : List One := T.set (id - 1) { gt T (id - 1) with number := n }
def commitT (T : List One) (last : Nat) (id : Int) : List One :=
  if endE T id = 0 then (if par T id.toNat = 0 then setNum (endT T id 1 2) id.toNat (last + 1) else endT T id 1 2) else T
def commitL (T : List One) (last : Nat) (id : Int) : Nat := if endE T id = 0 ∧ par T id.toNat = 0 then last + 1 else last
def abortT (T : List One) (id : Int) : List One := endT T id 2 3

/-- A step of the statements: 0 begins, 1 commits, else takes back. -/
def doE (T : List One) (kind id : Int) : Int := if kind = 0 then beginE T id else endE T id
def doA (T : List One) (kind id : Int) : Int := if kind = 0 then beginA T id else 0
def doT (T : List One) (last : Nat) (kind id : Int) : List One := if kind = 0 then beginT T id else if kind = 1 then commitT T last id else abortT T id
def doL (T : List One) (last : Nat) (kind id : Int) : Nat := if kind = 1 then commitL T last id else last

/-! ### What is told of the way up -/
theorem up_out {T : List One} {f id : Nat} (h : ¬ (1 ≤ id ∧ id ≤ T.length)) : up T f id = [] := by
  cases f with
  | zero => rfl
  | succ f => rw [up, if_neg h]

theorem par_lt {T : List One} (h : WF T) {id : Nat} (h1 : 1 ≤ id) (h2 : id ≤ T.length) : par T id < id := by
  have := h.par (id - 1) (by omega)
  unfold par; omega

theorem up_stable {T : List One} (h : WF T) : ∀ (f id : Nat), id ≤ f → up T f id = upL T id := by
  have key : ∀ (n f g id : Nat), id ≤ n → id ≤ f → id ≤ g → up T f id = up T g id := by
    intro n
    induction n with
    | zero => intro f g id h0 _ _; rw [up_out (by omega), up_out (by omega)]
    | succ n ih =>
      intro f g id h0 hf hg
      by_cases hr : 1 ≤ id ∧ id ≤ T.length
      · obtain ⟨f, rfl⟩ : ∃ m, f = m + 1 := ⟨f - 1, by omega⟩
        obtain ⟨g, rfl⟩ : ∃ m, g = m + 1 := ⟨g - 1, by omega⟩
        have := par_lt h hr.1 hr.2
        rw [up, up, if_pos hr, if_pos hr, ih f g _ (by omega) (by omega) (by omega)]
      · rw [up_out hr, up_out hr]
  intro f id hf
  exact key id f id id (Nat.le_refl _) hf (Nat.le_refl _)

theorem upL_out {T : List One} {id : Nat} (h : ¬ (1 ≤ id ∧ id ≤ T.length)) : upL T id = [] := up_out h
theorem upL_in {T : List One} (h : WF T) {id : Nat} (h1 : 1 ≤ id) (h2 : id ≤ T.length) : upL T id = id :: upL T (par T id) := by
  obtain ⟨m, rfl⟩ : ∃ m, id = m + 1 := ⟨id - 1, by omega⟩
  have := par_lt h h1 h2
  show up T (m + 1) (m + 1) = _
  rw [up, if_pos ⟨h1, h2⟩, up_stable h _ _ (by omega)]

theorem upL_le {T : List One} (h : WF T) : ∀ (n id k : Nat), id ≤ n → k ∈ upL T id → 1 ≤ k ∧ k ≤ id ∧ k ≤ T.length := by
  intro n
  induction n with
  | zero => intro id k h0 hk; rw [upL_out (by omega)] at hk; cases hk
  | succ n ih =>
    intro id k h0 hk
    by_cases hr : 1 ≤ id ∧ id ≤ T.length
    · rw [upL_in h hr.1 hr.2, List.mem_cons] at hk
      have := par_lt h hr.1 hr.2
      rcases hk with rfl | hk
      · omega
      · have := ih _ k (by omega) hk; omega
    · rw [upL_out hr] at hk; cases hk
theorem mem_upL {T : List One} (h : WF T) {id k : Nat} (hk : k ∈ upL T id) : 1 ≤ k ∧ k ≤ id ∧ k ≤ T.length := upL_le h id id k (Nat.le_refl _) hk

theorem gt_mem {T : List One} {k : Nat} (h : k < T.length) : gt T k = T[k] := by simp [gt, List.getD, List.getElem?_eq_getElem h]

/-! ### What ends does not turn who stands below whom -/
theorem endP_length (T : List One) (id frm to m : Nat) : (endP T id frm to m).length = T.length := by simp [endP]
theorem endP_get (T : List One) (id frm to m k : Nat) (h : k < T.length) : gt (endP T id frm to m) k =
    if k + 1 = id then { gt T k with state := to } else if k + 1 ≤ m ∧ id ∈ upL T (k + 1) ∧ (gt T k).state ≤ frm then { gt T k with state := to } else gt T k := by
  rw [gt_mem (by rw [endP_length]; exact h), gt_mem h]
  simp [endP]
theorem gt_out {T : List One} {k : Nat} (h : ¬ k < T.length) : gt T k = z1 := by simp [gt, List.getD, List.getElem?_eq_none (Nat.le_of_not_lt h)]
theorem endP_par (T : List One) (id frm to m k : Nat) : (gt (endP T id frm to m) k).parent = (gt T k).parent := by
  by_cases h : k < T.length
  · rw [endP_get _ _ _ _ _ _ h]; split <;> (try split) <;> rfl
  · rw [gt_out h, gt_out (by rw [endP_length]; exact h)]
theorem endP_num (T : List One) (id frm to m k : Nat) : (gt (endP T id frm to m) k).number = (gt T k).number := by
  by_cases h : k < T.length
  · rw [endP_get _ _ _ _ _ _ h]; split <;> (try split) <;> rfl
  · rw [gt_out h, gt_out (by rw [endP_length]; exact h)]

theorem up_congr {T T' : List One} (hl : T'.length = T.length) (hp : ∀ k, (gt T' k).parent = (gt T k).parent) : ∀ (f id : Nat), up T' f id = up T f id := by
  intro f
  induction f with
  | zero => intro id; rfl
  | succ f ih => intro id; rw [up, up, hl]; unfold par; rw [hp, ih]
theorem upL_congr {T T' : List One} (hl : T'.length = T.length) (hp : ∀ k, (gt T' k).parent = (gt T k).parent) (id : Nat) : upL T' id = upL T id := up_congr hl hp id id
theorem endP_upL (T : List One) (id frm to m k : Nat) : upL (endP T id frm to m) k = upL T k := upL_congr (endP_length _ _ _ _ _) (endP_par _ _ _ _ _) k

theorem ext_gt {T T' : List One} (hl : T.length = T'.length) (h : ∀ k, k < T.length → gt T k = gt T' k) : T = T' := by
  refine List.ext_getElem hl fun k h1 h2 => ?_
  have := h k h1
  rwa [gt_mem h1, gt_mem h2] at this

theorem gt_set {T : List One} {k : Nat} (hk : k < T.length) (x : One) (j : Nat) : gt (T.set k x) j = if j = k then x else gt T j := by
  unfold gt
  by_cases e : j = k
  · subst e; simp [List.getD, hk]
  · rw [if_neg e]; simp [List.getD, List.getElem?_set_ne (Ne.symm e)]

theorem endP_skip {T : List One} {id frm to m : Nat} (h : id ∉ upL T (m + 1)) : endP T id frm to (m + 1) = endP T id frm to m := by
  refine ext_gt (by simp [endP_length]) fun k hk => ?_
  rw [endP_length] at hk
  rw [endP_get _ _ _ _ _ _ hk, endP_get _ _ _ _ _ _ hk]
  by_cases e : k + 1 = id
  · rw [if_pos e, if_pos e]
  · rw [if_neg e, if_neg e]
    by_cases e2 : k = m
    · subst e2; rw [if_neg (fun hh => h hh.2.1), if_neg (by omega)]
    · by_cases e3 : k + 1 ≤ m
      · simp [e3, show k ≤ m by omega]
      · rw [if_neg (by omega), if_neg (by omega)]
theorem endP_at {T : List One} {id frm to m : Nat} (hm : m < T.length) (hne : m + 1 ≠ id) : gt (endP T id frm to m) m = gt T m := by
  rw [endP_get _ _ _ _ _ _ hm, if_neg hne, if_neg (by omega)]
theorem endP_more {T : List One} {id frm to m : Nat} (hm : m < T.length) (hne : m + 1 ≠ id) (h : id ∈ upL T (m + 1)) :
    endP T id frm to (m + 1) = if (gt T m).state ≤ frm then (endP T id frm to m).set m { gt T m with state := to } else endP T id frm to m := by
  refine ext_gt (by split <;> simp [endP_length]) fun k hk => ?_
  rw [endP_length] at hk
  rw [endP_get _ _ _ _ _ _ hk]
  by_cases e : k = m
  · subst e
    rw [if_neg hne]
    by_cases hs : (gt T k).state ≤ frm
    · rw [if_pos ⟨Nat.le_refl _, h, hs⟩, if_pos hs, gt_set (by rw [endP_length]; exact hm), if_pos rfl]
    · rw [if_neg (fun hh => hs hh.2.2), if_neg hs, endP_at hm hne]
  · have e2 : gt (if (gt T m).state ≤ frm then (endP T id frm to m).set m { gt T m with state := to } else endP T id frm to m) k = gt (endP T id frm to m) k := by
      split
      · rw [gt_set (by rw [endP_length]; exact hm), if_neg e]
      · rfl
    rw [e2, endP_get _ _ _ _ _ _ hk]
    by_cases e3 : k + 1 = id
    · rw [if_pos e3, if_pos e3]
    · rw [if_neg e3, if_neg e3]
      by_cases e4 : k + 1 ≤ m
      · simp [e4, show k ≤ m by omega]
      · rw [if_neg (by omega), if_neg (by omega)]
theorem endP_start {T : List One} (h : WF T) {id frm to : Nat} (h1 : 1 ≤ id) (h2 : id ≤ T.length) : endP T id frm to id = T.set (id - 1) { gt T (id - 1) with state := to } := by
  refine ext_gt (by simp [endP_length]) fun k hk => ?_
  rw [endP_length] at hk
  rw [endP_get _ _ _ _ _ _ hk, gt_set (by omega)]
  by_cases e : k + 1 = id
  · subst e; rw [if_pos rfl, if_pos (by omega)]; simp
  · have hn : ¬ (k + 1 ≤ id ∧ id ∈ upL T (k + 1) ∧ (gt T k).state ≤ frm) := by
      rintro ⟨_, h4, _⟩
      have := mem_upL h h4
      omega
    rw [if_neg e, if_neg hn, if_neg (by omega)]
theorem wf_endP {T : List One} (h : WF T) {id frm to m : Nat} (ht : to < 256) : WF (endP T id frm to m) := by
  constructor <;> intro k hk <;> rw [endP_length] at hk
  · rw [endP_par]; exact h.par k hk
  · rw [endP_get _ _ _ _ _ _ hk]
    split
    · exact ht
    · split
      · exact ht
      · exact h.st k hk

theorem endT_length (T : List One) (id : Int) (frm to : Nat) : (endT T id frm to).length = T.length := by
  unfold endT; split
  · rw [endP_length]
  · rfl
theorem commitT_length (T : List One) (last : Nat) (id : Int) : (commitT T last id).length = T.length := by
  unfold commitT; split
  · split
    · simp [setNum, endT_length]
    · exact endT_length ..
  · rfl
theorem beginT_length (T : List One) (id : Int) : (beginT T id).length ≤ T.length + 1 := by
  unfold beginT; split <;> simp
theorem doT_length (T : List One) (last : Nat) (kind id : Int) : (doT T last kind id).length ≤ T.length + 1 := by
  unfold doT; split
  · exact beginT_length ..
  · split
    · rw [commitT_length]; omega
    · unfold abortT; rw [endT_length]; omega
theorem doL_le (T : List One) (last : Nat) (kind id : Int) : doL T last kind id ≤ last + 1 := by
  unfold doL commitL; split
  · split <;> omega
  · omega

end Go.Proofs.Ytfgkocpmgoaljaa.Xid
