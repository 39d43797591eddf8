/- The walks of package xid's small calls. The conditions: the table lies in memory as its data say. -/
import Derived.Test.YtfgkocpmgoaljaaProg
import Derived.Test.YtfgkocpmgoaljaaFr
import Derived.Test.YtfgkocpmgoaljaaXid
import Derived.WalkSpells
import Derived.WalkLawsBesides
import Derived.Deep.QuietTactic
import Derived.BigQuiet
import Derived.Outline
namespace Go.Proofs.Ytfgkocpmgoaljaa
open Go.RowKit Xid

def oneC (x : One) : List Value := [.int .i64 x.parent, .int .u8 x.state, .int .i64 x.number]
def rowC (T : List One) : List Value := T.flatMap oneC

theorem rowC_length (T : List One) : (rowC T).length = T.length * 3 := by
  induction T with
  | nil => rfl
  | cons x T ih => simp only [rowC, List.flatMap_cons, List.length_append, List.length_cons] at ih ⊢; rw [ih]; simp [oneC]; omega
theorem rowC_get (T : List One) (k j : Nat) (hk : k < T.length) (hj : j < 3) : (rowC T)[k * 3 + j]? = (oneC (gt T k))[j]? := by
  induction T generalizing k with
  | nil => simp at hk
  | cons x T ih =>
    cases k with
    | zero =>
      simp only [rowC, List.flatMap_cons, Nat.zero_mul, Nat.zero_add]
      rw [List.getElem?_append_left (by simp [oneC]; omega)]; rfl
    | succ k =>
      have := ih k (by simpa using hk)
      simp only [rowC, List.flatMap_cons] at this ⊢
      rw [List.getElem?_append_right (by simp [oneC]; omega)]
      have e : (k + 1) * 3 + j - (oneC x).length = k * 3 + j := by simp [oneC]; omega
      rw [e, this]; rfl

/-- The table at block p, its row at block R (none: no row). -/
structure IsT (w : World) (p : Nat) (R : Option Nat) (T : List One) (last : Nat) : Prop where
  row : ∃ v, w.heap[p]? = some (.cells #[v, .int .i64 last] 68 (0, 0)) ∧ w.ownsRow 0 73 3 v T.length (rowC T) ∧ v.ownBlock = R
  wf : WF T

theorem IsT.cases {w : World} {p : Nat} {R : Option Nat} {T : List One} {last : Nat} (h : IsT w p R T last) :
    (T = [] ∧ R = none ∧ w.heap[p]? = some (.cells #[.slice none 0 0, .int .i64 last] 68 (0, 0))) ∨
    ∃ r cap cur, R = some r ∧ w.heap[p]? = some (.cells #[.slice (some ⟨r, 0, none⟩) T.length cap, .int .i64 last] 68 (0, 0)) ∧
      w.heap[r]? = some (.cells cur 73 (0, 0)) ∧ T.length ≤ cap ∧ cap ≤ maxLen ∧ cur.size = cap * 3 ∧ cur.toList.take (T.length * 3) = rowC T := by
  obtain ⟨v, h1, ⟨_, h2 | ⟨g, cap, cur, rfl, _, h4, h5, h6, h7, h8⟩⟩, h3⟩ := h.row
  · obtain ⟨rfl, h2⟩ := h2
    exact .inl ⟨List.length_eq_zero_iff.1 h2, h3.symm, h1⟩
  · exact .inr ⟨g, cap, cur, h3.symm, h1, h4, h5, h6, h7, h8⟩

theorem take_get {cur : Array Value} {n : Nat} {l : List Value} (h : cur.toList.take n = l) {i : Nat} (hi : i < n) : cur[i]? = l[i]? := by
  rw [← h, List.getElem?_take_of_lt hi]; simp

/-- The head's cell of a table, and a one's cells. -/
theorem IsT.head {w : World} {p : Nat} {R : Option Nat} {T : List One} {last : Nat} (h : IsT w p R T last) :
    ∃ a cap, w.cell? ⟨p, 0, none⟩ = some (.slice a T.length cap) ∧ w.cell? ⟨p, 1, none⟩ = some (.int .i64 last) := by
  rcases h.cases with ⟨rfl, _, h1⟩ | ⟨r, cap, cur, _, h1, _⟩
  · exact ⟨none, 0, by rw [cell_of_obj h1]; rfl, by rw [cell_of_obj h1]; rfl⟩
  · exact ⟨_, cap, by rw [cell_of_obj h1]; rfl, by rw [cell_of_obj h1]; rfl⟩
theorem IsT.ones {w : World} {p : Nat} {R : Option Nat} {T : List One} {last : Nat} (h : IsT w p R T last) {k : Nat} (hk : k < T.length) :
    ∃ r cap, R = some r ∧ r ≠ p ∧ w.cell? ⟨p, 0, none⟩ = some (.slice (some ⟨r, 0, none⟩) T.length cap) ∧ w.cell? ⟨r, k * 3, none⟩ = some (.int .i64 (gt T k).parent) ∧
      w.cell? ⟨r, k * 3 + 1, none⟩ = some (.int .u8 (gt T k).state) ∧ w.cell? ⟨r, k * 3 + 2, none⟩ = some (.int .i64 (gt T k).number) ∧ (∀ o, w.frozen? ⟨r, o, none⟩ = false) := by
  rcases h.cases with ⟨rfl, _, h1⟩ | ⟨r, cap, cur, h0, h1, h2, h3, h4, h5, h6⟩
  · simp at hk
  · refine ⟨r, cap, h0, ?_, by rw [cell_of_obj h1]; rfl, ?_, ?_, ?_, frozen_of_obj h2⟩
    · rintro rfl; rw [h1] at h2; simp at h2
    · rw [cell_of_obj h2, take_get h6 (by omega)]; exact rowC_get T k 0 hk (by omega)
    · rw [cell_of_obj h2, take_get h6 (by omega)]; exact rowC_get T k 1 hk (by omega)
    · rw [cell_of_obj h2, take_get h6 (by omega)]; exact rowC_get T k 2 hk (by omega)

/-- What the table's blocks are. -/
def foot (p : Nat) (R : Option Nat) : Nat → Prop := fun k => k = p ∨ R = some k
theorem IsT.lt {w : World} {p : Nat} {R : Option Nat} {T : List One} {last : Nat} (h : IsT w p R T last) {k : Nat} (hk : foot p R k) : k < w.heap.size := by
  rcases h.cases with ⟨_, rfl, h1⟩ | ⟨r, cap, cur, rfl, h1, h2, _⟩
  · rcases hk with rfl | hk
    · exact obj_lt h1
    · cases hk
  · rcases hk with rfl | hk
    · exact obj_lt h1
    · cases hk; exact obj_lt h2
/-- A table stays where none of its blocks is touched. -/
theorem IsT.fr {w w' : World} {p : Nat} {R : Option Nat} {T : List One} {last : Nat} {S : Nat → Prop} (h : IsT w p R T last) (hf : Fr S w w') (hS : ∀ k, foot p R k → ¬ S k) : IsT w' p R T last := by
  obtain ⟨v, h1, ⟨h2, h3⟩, rfl⟩ := h.row
  refine ⟨⟨v, hf.obj (hS p (.inl rfl)) h1, ⟨h2, ?_⟩, rfl⟩, h.wf⟩
  rcases h3 with h3 | ⟨g, cap, cur, rfl, h4, h5, h6⟩
  · exact .inl h3
  · exact .inr ⟨g, cap, cur, rfl, h4, hf.obj (hS g (.inr rfl)) h5, h6⟩
theorem IsT.frN {w w' : World} {p : Nat} {R : Option Nat} {T : List One} {last : Nat} (h : IsT w p R T last) (hf : Fr noB w w') : IsT w' p R T last := h.fr hf (fun _ _ x => x)

set_option maxHeartbeats 400000 in
theorem is_any (p : Nat) (a : Option Addr) (n cap : Nat) (id : Int) (w : World) (hc : w.cell? ⟨p, 0, none⟩ = some (.slice a n cap)) :
    Calls Try.prog 51 #[.pointer (some ⟨p, 0, none⟩), .int .i64 id] w fun e w' => e = .returned (.bool (inB n id)) ∧ w = w' := by
  go_enter Try.func51, Try.ntmps51
  go_wp2
  · go_ret
    have h1 : 1 ≤ id := by assumption
    exact ⟨by simp [inB, h1], rfl⟩
  · go_ret
    have h1 : id < 1 := by assumption
    exact ⟨by simp [inB, show ¬ 1 ≤ id by omega], rfl⟩

set_option maxHeartbeats 400000 in
theorem at_any (p R : Nat) (n cap k : Nat) (i : Int) (w : World) (hc : w.cell? ⟨p, 0, none⟩ = some (.slice (some ⟨R, 0, none⟩) n cap)) (hk : k < n) (hn : n < 4294967296) (hi : i = (k : Int) + 1) :
    Calls Try.prog 52 #[.pointer (some ⟨p, 0, none⟩), .int .i64 i] w fun e w' => e = .returned (.pointer (some ⟨R, k * 3, none⟩)) ∧ w = w' := by
  subst hi
  go_enter Try.func52, Try.ntmps52
  go_wp2
  go_ret
  exact ⟨rfl, rfl⟩

set_option maxHeartbeats 400000 in
theorem new_any (w : World) : Calls Try.prog 15 #[] w fun e w' => e = .returned (.pointer (some ⟨w.heap.size, 0, none⟩)) ∧ IsT w' w.heap.size none [] 0 ∧ Fr noB w w' ∧ w.heap.size < w'.heap.size := by
  go_enter Try.func15, Try.ntmps15
  go_wp2
  go_ret
  refine ⟨rfl, ⟨⟨.slice none 0 0, obj_alloc_new _ _, ⟨rfl, .inl ⟨rfl, rfl⟩⟩, rfl⟩, ⟨?_, ?_⟩⟩, (Fr.refl _ _).alloc _, by simp⟩ <;> (intro k h; simp at h)

theorem ret_int {k : IntKind} {a b : Int} (h : a = b) : Ending.returned (.int k a) = .returned (.int k b) := by rw [h]

set_option maxHeartbeats 400000 in
theorem state_any (p : Nat) (R : Option Nat) (T : List One) (last : Nat) (id : Int) (w : World) (hT : IsT w p R T last) (hlen : T.length ≤ 1000000) :
    Calls Try.prog 24 #[.pointer (some ⟨p, 0, none⟩), .int .i64 id] w fun e w' => e = .returned (.int .u8 (stateOf T id)) ∧ w = w' := by
  by_cases h : 1 ≤ id ∧ id ≤ T.length
  · obtain ⟨k, rfl⟩ : ∃ k : Nat, id = (k : Int) + 1 := ⟨(id - 1).toNat, by omega⟩
    have hk : k < T.length := by omega
    have e : stateOf T ((k : Int) + 1) = (gt T k).state := by
      have : ((k : Int) + 1).toNat = k + 1 := by omega
      simp [stateOf, inR, inB_yes h, st, this]
    rw [e]
    obtain ⟨r, cap, rfl, hne, hc0, hc1, hc2, hc3, _⟩ := hT.ones hk
    have hd : inB T.length ((k : Int) + 1) = true := inB_yes h
    clear h e hT
    go_enter Try.func24, Try.ntmps24
    go_wp2_with (first | (go_at_call 51; refine (is_any p _ _ _ _ _ hc0).mono ?_; rintro e w' ⟨rfl, rfl⟩; rw [hd]) | (go_at_call 52; refine (at_any p r _ _ k _ _ hc0 hk (by omega) (by omega)).mono ?_; rintro e w' ⟨rfl, rfl⟩))
    go_ret
    exact ⟨rfl, rfl⟩
  · have e : stateOf T id = 0 := by simp [stateOf, inR, inB_no h]
    rw [e]
    obtain ⟨a, cap, hc0, _⟩ := hT.head
    have hd : inB T.length id = false := inB_no h
    clear h e hT
    go_enter Try.func24, Try.ntmps24
    go_wp2_with (go_at_call 51; refine (is_any p _ _ _ _ _ hc0).mono ?_; rintro e w' ⟨rfl, rfl⟩; rw [hd])
    go_ret
    exact ⟨rfl, rfl⟩

end Go.Proofs.Ytfgkocpmgoaljaa
