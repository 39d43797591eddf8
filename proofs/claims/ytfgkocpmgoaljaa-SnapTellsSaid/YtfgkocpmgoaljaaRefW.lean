/- The document's table in memory, and the walks of what is told of it. The conditions: the table lies in memory as its data say. -/
import Derived.Test.YtfgkocpmgoaljaaXidK
import Derived.Test.YtfgkocpmgoaljaaXidQ
import Derived.Test.YtfgkocpmgoaljaaExt
import Derived.Deep.LoopGhost
import Derived.Deep.DeepCutAuto
import Derived.BigRegion
import Derived.BigQuiet
namespace Go.Proofs.Ytfgkocpmgoaljaa
open Go.RowKit Go.Shelf Xid

def rT : List TypeId := [37, 70]
/-- The table at block p, its row at block R (none: no row). -/
structure IsR (w : World) (p : Nat) (R : Option Nat) (T : List One) (last : Nat) : Prop where
  row : ∃ v, w.heap[p]? = some (.cells #[v, .int .i64 last] 37 (0, 0)) ∧ w.ownsRow 0 70 3 v T.length (rowC T) ∧ v.ownBlock = R
  wf : WF T

theorem IsR.cases {w : World} {p : Nat} {R : Option Nat} {T : List One} {last : Nat} (h : IsR w p R T last) :
    (T = [] ∧ R = none ∧ w.heap[p]? = some (.cells #[.slice none 0 0, .int .i64 last] 37 (0, 0))) ∨
    ∃ r cap cur, R = some r ∧ w.heap[p]? = some (.cells #[.slice (some ⟨r, 0, none⟩) T.length cap, .int .i64 last] 37 (0, 0)) ∧
      w.heap[r]? = some (.cells cur 70 (0, 0)) ∧ T.length ≤ cap ∧ cap ≤ maxLen ∧ cur.size = cap * 3 ∧ cur.toList.take (T.length * 3) = rowC T := by
  obtain ⟨v, h1, ⟨_, h2 | ⟨g, cap, cur, rfl, _, h4, h5, h6, h7, h8⟩⟩, h3⟩ := h.row
  · obtain ⟨rfl, h2⟩ := h2
    exact .inl ⟨List.length_eq_zero_iff.1 h2, h3.symm, h1⟩
  · exact .inr ⟨g, cap, cur, h3.symm, h1, h4, h5, h6, h7, h8⟩

/-- The head's cell of a table, and a one's cells. -/
theorem IsR.head {w : World} {p : Nat} {R : Option Nat} {T : List One} {last : Nat} (h : IsR w p R T last) :
    ∃ a cap, w.cell? ⟨p, 0, none⟩ = some (.slice a T.length cap) ∧ w.cell? ⟨p, 1, none⟩ = some (.int .i64 last) := by
  rcases h.cases with ⟨rfl, _, h1⟩ | ⟨r, cap, cur, _, h1, _⟩
  · exact ⟨none, 0, by rw [cell_of_obj h1]; rfl, by rw [cell_of_obj h1]; rfl⟩
  · exact ⟨_, cap, by rw [cell_of_obj h1]; rfl, by rw [cell_of_obj h1]; rfl⟩
theorem IsR.ones {w : World} {p : Nat} {R : Option Nat} {T : List One} {last : Nat} (h : IsR w p R T last) {k : Nat} (hk : k < T.length) :
    ∃ r cap, R = some r ∧ r ≠ p ∧ w.cell? ⟨p, 0, none⟩ = some (.slice (some ⟨r, 0, none⟩) T.length cap) ∧ w.cell? ⟨r, k * 3, none⟩ = some (.int .i64 (gt T k).parent) ∧
      w.cell? ⟨r, k * 3 + 1, none⟩ = some (.int .u8 (gt T k).state) ∧ w.cell? ⟨r, k * 3 + 2, none⟩ = some (.int .i64 (gt T k).number) ∧ (∀ o, w.frozen? ⟨r, o, none⟩ = false) := by
  rcases h.cases with ⟨rfl, _, h1⟩ | ⟨r, cap, cur, h0, h1, h2, h3, h4, h5, h6⟩
  · simp at hk
  · refine ⟨r, cap, h0, ?_, by rw [cell_of_obj h1]; rfl, ?_, ?_, ?_, frozen_of_obj h2⟩
    · rintro rfl; rw [h1] at h2; simp at h2
    · rw [cell_of_obj h2, take_get h6 (by omega)]; exact rowC_get T k 0 hk (by omega)
    · rw [cell_of_obj h2, take_get h6 (by omega)]; exact rowC_get T k 1 hk (by omega)
    · rw [cell_of_obj h2, take_get h6 (by omega)]; exact rowC_get T k 2 hk (by omega)

theorem IsR.lt {w : World} {p : Nat} {R : Option Nat} {T : List One} {last : Nat} (h : IsR w p R T last) {k : Nat} (hk : foot p R k) : k < w.heap.size := by
  rcases h.cases with ⟨_, rfl, h1⟩ | ⟨r, cap, cur, rfl, h1, h2, _⟩
  · rcases hk with rfl | hk
    · exact obj_lt h1
    · cases hk
  · rcases hk with rfl | hk
    · exact obj_lt h1
    · cases hk; exact obj_lt h2
/-- A table stays where none of its blocks is touched. -/
theorem IsR.fr {w w' : World} {p : Nat} {R : Option Nat} {T : List One} {last : Nat} {S : Nat → Prop} (h : IsR w p R T last) (hf : Fr S w w') (hS : ∀ k, foot p R k → ¬ S k) : IsR w' p R T last := by
  obtain ⟨v, h1, ⟨h2, h3⟩, rfl⟩ := h.row
  refine ⟨⟨v, hf.obj (hS p (.inl rfl)) h1, ⟨h2, ?_⟩, rfl⟩, h.wf⟩
  rcases h3 with h3 | ⟨g, cap, cur, rfl, h4, h5, h6⟩
  · exact .inl h3
  · exact .inr ⟨g, cap, cur, rfl, h4, hf.obj (hS g (.inr rfl)) h5, h6⟩
theorem IsR.frN {w w' : World} {p : Nat} {R : Option Nat} {T : List One} {last : Nat} (h : IsR w p R T last) (hf : Fr noB w w') : IsR w' p R T last := h.fr hf (fun _ _ x => x)

theorem IsR.ne {w : World} {p : Nat} {R : Option Nat} {T : List One} {last : Nat} (hT : IsR w p R T last) : R ≠ some p := by
  rintro rfl
  rcases hT.cases with ⟨_, h, _⟩ | ⟨r, cap, cur, h, h3, h4, _⟩
  · cases h
  · cases h; rw [h3] at h4; simp at h4

theorem IsR.setOne {w : World} {p r : Nat} {T : List One} {last : Nat} (h : IsR w p (some r) T last) {k : Nat} (hk : k < T.length) (x : One) (h1 : x.parent = (gt T k).parent) (h2 : x.state < 256) (j : Nat) (hj : j < 3) (v : Value)
    (hx : oneC x = (oneC (gt T k)).set j v) : IsR (w.setCell ⟨r, k * 3 + j, none⟩ v) p (some r) (T.set k x) last := by
  obtain ⟨u, hv, ⟨ho, ho2⟩, hR⟩ := h.row
  have hne := h.ne
  rcases ho2 with ⟨rfl, h0⟩ | ⟨g, cap, cur, rfl, hb, hc, hn1, hn2, hn3, hn4⟩
  · omega
  · obtain rfl : g = r := by simpa [Value.ownBlock] using hR
    refine ⟨⟨_, obj_setCell_other hv _ _ (by dsimp only; intro e; exact hne (by rw [e])), ?_, hR⟩, wf_set h.wf hk x h1 h2⟩
    rw [List.length_set]
    refine ⟨by rw [rowC_length, List.length_set], .inr ⟨g, cap, _, rfl, hb, obj_setCell hc _ v, hn1, hn2, ?_, ?_⟩⟩
    · rw [Array.size_setIfInBounds]; exact hn3
    · rw [Array.toList_setIfInBounds, List.take_set, hn4, rowC_set T k hk x j hj v hx]

theorem IsR.setLast {w : World} {p : Nat} {R : Option Nat} {T : List One} {last : Nat} (h : IsR w p R T last) (n : Nat) : IsR (w.setCell ⟨p, 1, none⟩ (.int .i64 n)) p R T n := by
  have hne := h.ne
  obtain ⟨v, hv, ⟨ho, ho2⟩, hR⟩ := h.row
  refine ⟨⟨v, obj_setCell hv 1 _, ⟨ho, ?_⟩, hR⟩, h.wf⟩
  rcases ho2 with ho2 | ⟨g, cap, cur, rfl, hb, hc, hx⟩
  · exact .inl ho2
  · refine .inr ⟨g, cap, cur, rfl, hb, obj_setCell_other hc _ _ ?_, hx⟩
    dsimp only; rintro rfl; exact hne hR.symm

structure MineR (w0 w : World) (p : Nat) (T : List One) (last : Nat) : Prop where
  tab : ∃ R, IsR w p R T last ∧ (∀ r, R = some r → w0.heap.size ≤ r)
  pB : w0.heap.size ≤ p
  fr : Fr noB w0 w


theorem MineR.frN {w0 w w' : World} {p : Nat} {T : List One} {last : Nat} (h : MineR w0 w p T last) (hf : Fr noB w w') : MineR w0 w' p T last := by
  obtain ⟨R, hT, hR⟩ := h.tab
  exact ⟨⟨R, hT.frN hf, hR⟩, h.pB, h.fr.trans hf⟩

theorem IsT.frTT {w w' : World} {p : Nat} {R : Option Nat} {T : List One} {last : Nat} {ts : List TypeId} (h : IsT w p R T last) (hf : FrT ts w w') (h1 : 68 ∉ ts) (h2 : 73 ∉ ts) : IsT w' p R T last := by
  obtain ⟨v, hv, ho, hR⟩ := h.row
  exact ⟨⟨v, hf.obj hv h1, hf.row ho h2, hR⟩, h.wf⟩
theorem Mine.frTT {w0 w w' : World} {p : Nat} {T : List One} {last : Nat} {ts : List TypeId} (h : Mine w0 w p T last) (hf : FrT ts w w') (h1 : 68 ∉ ts) (h2 : 73 ∉ ts) (h0 : Fr noB w0 w') : Mine w0 w' p T last := by
  obtain ⟨R, hT, hR⟩ := h.tab
  exact ⟨⟨R, hT.frTT hf h1 h2, hR⟩, h.pB, h0⟩
theorem IsR.frTT {w w' : World} {p : Nat} {R : Option Nat} {T : List One} {last : Nat} {ts : List TypeId} (h : IsR w p R T last) (hf : FrT ts w w') (h1 : 37 ∉ ts) (h2 : 70 ∉ ts) : IsR w' p R T last := by
  obtain ⟨v, hv, ho, hR⟩ := h.row
  exact ⟨⟨v, hf.obj hv h1, hf.row ho h2, hR⟩, h.wf⟩
theorem MineR.frTT {w0 w w' : World} {p : Nat} {T : List One} {last : Nat} {ts : List TypeId} (h : MineR w0 w p T last) (hf : FrT ts w w') (h1 : 37 ∉ ts) (h2 : 70 ∉ ts) (h0 : Fr noB w0 w') : MineR w0 w' p T last := by
  obtain ⟨R, hT, hR⟩ := h.tab
  exact ⟨⟨R, hT.frTT hf h1 h2, hR⟩, h.pB, h0⟩

set_option maxHeartbeats 400000 in
theorem is_r (p : Nat) (a : Option Addr) (n cap : Nat) (id : Int) (w : World) (hc : w.cell? ⟨p, 0, none⟩ = some (.slice a n cap)) :
    Calls Try.prog 49 #[.pointer (some ⟨p, 0, none⟩), .int .i64 id] w fun e w' => e = .returned (.bool (inB n id)) ∧ w = w' := by
  go_enter Try.func49, Try.ntmps49
  go_wp2
  · go_ret
    have h1 : 1 ≤ id := by assumption
    exact ⟨by simp [inB, h1], rfl⟩
  · go_ret
    have h1 : id < 1 := by assumption
    exact ⟨by simp [inB, show ¬ 1 ≤ id by omega], rfl⟩

set_option maxHeartbeats 400000 in
theorem newr_any (w : World) : Calls Try.prog 16 #[] w fun e w' => e = .returned (.pointer (some ⟨w.heap.size, 0, none⟩)) ∧ IsR w' w.heap.size none [] 0 ∧ Fr noB w w' ∧ w.heap.size < w'.heap.size := by
  go_enter Try.func16, Try.ntmps16
  go_wp2
  go_ret
  refine ⟨rfl, ⟨⟨.slice none 0 0, obj_alloc_new _ _, ⟨rfl, .inl ⟨rfl, rfl⟩⟩, rfl⟩, ⟨?_, ?_⟩⟩, (Fr.refl _ _).alloc _, by simp⟩ <;> (intro k h; simp at h)
theorem new_r (w0 w : World) (h : Fr noB w0 w) : Calls Try.prog 16 #[] w fun e w' => e = .returned (.pointer (some ⟨w.heap.size, 0, none⟩)) ∧ MineR w0 w' w.heap.size [] 0 ∧ Fr noB w w' :=
  (newr_any w).mono fun _ _ ⟨h1, h2, h3, _⟩ => ⟨h1, ⟨⟨none, h2, fun r e => by cases e⟩, h.size, h.trans h3⟩, h3⟩

set_option maxHeartbeats 400000 in
theorem last_r (p : Nat) (R : Option Nat) (T : List One) (last : Nat) (w : World) (hT : IsR w p R T last) :
    Calls Try.prog 22 #[.pointer (some ⟨p, 0, none⟩)] w fun e w' => e = .returned (.int .i64 last) ∧ w = w' := by
  obtain ⟨a0, cap0, _, hh1⟩ := hT.head
  go_enter Try.func22, Try.ntmps22
  go_wp2
  go_ret
  exact ⟨rfl, rfl⟩

set_option maxHeartbeats 400000 in
theorem state_r (p : Nat) (R : Option Nat) (T : List One) (last : Nat) (id : Int) (w : World) (hT : IsR w p R T last) (hlen : T.length ≤ 1000000) :
    Calls Try.prog 25 #[.pointer (some ⟨p, 0, none⟩), .int .i64 id] w fun e w' => e = .returned (.int .u8 (stateOf T id)) ∧ w = w' := by
  by_cases h : 1 ≤ id ∧ id ≤ T.length
  · obtain ⟨k, rfl⟩ : ∃ k : Nat, id = (k : Int) + 1 := ⟨(id - 1).toNat, by omega⟩
    have hk : k < T.length := by omega
    have e : stateOf T ((k : Int) + 1) = (gt T k).state := by
      have : ((k : Int) + 1).toNat = k + 1 := by omega
      simp [stateOf, inR, inB_yes h, st, this]
    rw [e]
    obtain ⟨r, cap, rfl, hne, hc0, hc1, hc2, hc3, _⟩ := hT.ones hk
    have hd : inB T.length ((k : Int) + 1) = true := inB_yes h
    clear h e hT
    go_enter Try.func25, Try.ntmps25
    go_wp2_with (go_at_call 49; refine (is_r p _ _ _ _ _ hc0).mono ?_; rintro e w' ⟨rfl, rfl⟩; rw [hd])
    go_ret
    exact ⟨rfl, rfl⟩
  · have e : stateOf T id = 0 := by simp [stateOf, inR, inB_no h]
    rw [e]
    obtain ⟨a, cap, hc0, _⟩ := hT.head
    have hd : inB T.length id = false := inB_no h
    clear h e hT
    go_enter Try.func25, Try.ntmps25
    go_wp2_with (go_at_call 49; refine (is_r p _ _ _ _ _ hc0).mono ?_; rintro e w' ⟨rfl, rfl⟩; rw [hd])
    go_ret
    exact ⟨rfl, rfl⟩

def belowB (T : List One) (id above : Nat) : Bool := decide (above ∈ (upL T id).tail)
theorem tail_par {T : List One} (h : WF T) {i : Nat} (hi : i < T.length) : (upL T (i + 1)).tail = upL T (gt T i).parent := by
  rw [upL_in h (by omega) (by omega)]; rfl
theorem belowB_step {T : List One} (h : WF T) {i a : Nat} (hi : i < T.length) (hne : (gt T i).parent ≠ a) : belowB T (i + 1) a = belowB T (gt T i).parent a := by
  unfold belowB
  rw [tail_par h hi]
  have hp := h.par i hi
  by_cases h0 : (gt T i).parent = 0
  · rw [h0, upL_out (by omega)]; rfl
  · rw [upL_in h (by omega) (by omega)]
    refine decide_eq_decide.2 ?_
    rw [List.tail_cons, List.mem_cons]
    exact ⟨fun h => h.resolve_left (Ne.symm hne), .inr⟩
theorem belowB_hit {T : List One} (h : WF T) {i a : Nat} (hi : i < T.length) (he : (gt T i).parent = a) (ha : 1 ≤ a) : belowB T (i + 1) a = true := by
  unfold belowB
  rw [tail_par h hi, he]
  have hp := h.par i hi
  rw [upL_in h (by omega) (by omega)]
  simp
theorem mem_belowB {T : List One} (h : WF T) {i : Nat} (hi : i < T.length) (a : Nat) : a ∈ upL T (i + 1) ↔ a = i + 1 ∨ belowB T (i + 1) a = true := by
  unfold belowB
  rw [tail_par h hi, upL_in h (by omega) (by omega)]
  simp [par]

set_option maxHeartbeats 1000000 in
theorem below_r (p : Nat) (R : Option Nat) (T : List One) (last : Nat) (k a : Nat) (w : World) (hT : IsR w p R T last) (hlen : T.length ≤ 1000000) (hk : k < T.length) (ha : 1 ≤ a) :
    Calls Try.prog 50 #[.pointer (some ⟨p, 0, none⟩), .int .i64 ((k : Int) + 1), .int .i64 (a : Int)] w fun e w' => e = .returned (.bool (belowB T (k + 1) a)) ∧ w = w' := by
  go_enter Try.func50, Try.ntmps50
  go_wp2_with fail
  go_loopg [1] (k + 1) (fun gh iv wr => ∃ j : Nat, j ≤ T.length ∧ j = gh ∧ iv = .int .i64 j ∧ w = wr ∧ Hid (belowB T (k + 1) a = belowB T j a))
  case atStart => exact ⟨k + 1, by omega, rfl, by go_num, rfl, Lib.hid rfl⟩
  case round =>
    obtain ⟨j, hj, rfl, rfl, rfl, HB⟩ := hrel
    by_cases h0 : j = 0
    · subst h0
      obtain ⟨a0, cap0, hh0, _⟩ := hT.head
      have hd : inB T.length 0 = false := inB_no (by omega)
      go_wp2_with fail
      refine (is_r p _ _ _ _ _ hh0).mono ?_
      rintro e w' ⟨rfl, rfl⟩
      rw [hd]
      go_wp2_with fail
      go_ret
      exact ⟨by rw [HB.out]; unfold belowB; rw [upL_out (by omega)]; rfl, rfl⟩
    · obtain ⟨i, rfl⟩ : ∃ i, j = i + 1 := ⟨j - 1, by omega⟩
      have hi : i < T.length := by omega
      obtain ⟨r, cap, rfl, hne, hc0, hc1, hc2, hc3, _⟩ := hT.ones hi
      have hd : inB T.length ((i : Int) + 1) = true := inB_yes (by omega)
      have hpi := hT.wf.par i hi
      by_cases he : (gt T i).parent = a
      · have hb : (((gt T i).parent : Int) == (a : Int)) = true := by rw [beq_iff_eq]; omega
        have hb2 : (((gt T i).parent : Int) != 0) = true := by rw [bne_iff_ne]; omega
        have HH := Lib.hid (belowB_hit hT.wf hi he ha)
        clear he
        go_wp2_with fail
        refine (is_r p _ _ _ _ _ hc0).mono ?_
        rintro e w' ⟨rfl, rfl⟩
        rw [hd]
        go_wp2_with fail
        go_ret
        exact ⟨by rw [HB.out, HH.out] <;> rfl, rfl⟩
      · have hb : (((gt T i).parent : Int) == (a : Int)) = false := by rw [beq_eq_false_iff_ne]; omega
        have HH := Lib.hid (belowB_step hT.wf hi he)
        clear he
        go_wp2_with fail
        refine (is_r p _ _ _ _ _ hc0).mono ?_
        rintro e w' ⟨rfl, rfl⟩
        rw [hd]
        go_wp2_with fail
        go_roundg (gt T i).parent
        case measure => omega
        case rel => exact ⟨_, by omega, rfl, rfl, rfl, Lib.hid (by rw [HB.out, HH.out])⟩

set_option maxHeartbeats 1000000 in
theorem top_r (p : Nat) (R : Option Nat) (T : List One) (last : Nat) (id : Int) (w : World) (hT : IsR w p R T last) (hlen : T.length ≤ 1000000) :
    Calls Try.prog 27 #[.pointer (some ⟨p, 0, none⟩), .int .i64 id] w fun e w' => e = .returned (.int .i64 (topOf T id)) ∧ w = w' := by
  by_cases h : 1 ≤ id ∧ id ≤ T.length
  · obtain ⟨k, rfl⟩ : ∃ k : Nat, id = (k : Int) + 1 := ⟨(id - 1).toNat, by omega⟩
    have hk : k < T.length := by omega
    obtain ⟨a0, cap0, hh0, _⟩ := hT.head
    have hd : inB T.length ((k : Int) + 1) = true := inB_yes h
    clear h
    go_enter Try.func27, Try.ntmps27
    go_wp2_with fail
    refine (is_r p _ _ _ _ _ hh0).mono ?_
    rintro e w' ⟨rfl, rfl⟩
    rw [hd]
    go_wp2_with fail
    go_loopg [1] (k + 1) (fun gh iv wr => ∃ j : Nat, j < T.length ∧ j + 1 = gh ∧ iv = .int .i64 ((j : Int) + 1) ∧ w = wr ∧ Hid (topOf T ((k : Int) + 1) = topOf T ((j : Int) + 1)))
    case atStart => exact ⟨k, hk, rfl, rfl, rfl, Lib.hid rfl⟩
    case round =>
      obtain ⟨j, hj, rfl, rfl, rfl, HB⟩ := hrel
      clear hh0
      obtain ⟨r, cap, rfl, hne, hc0, hc1, hc2, hc3, _⟩ := hT.ones hj
      have hpj := hT.wf.par j hj
      by_cases h0 : (gt T j).parent = 0
      · have HT := Lib.hid (topOf_root hT.wf hj h0)
        rw [h0] at hc1
        go_wp2_with fail
        go_ret
        exact ⟨by rw [HB.out, HT.out] <;> rfl, rfl⟩
      · have HT := Lib.hid (topOf_par hT.wf hj h0)
        have hb : (((gt T j).parent : Int) != 0) = true := by rw [bne_iff_ne]; omega
        go_wp2_with fail
        go_roundg ((gt T j).parent)
        case measure => omega
        case rel =>
          obtain ⟨m, hm⟩ : ∃ m, (gt T j).parent = m + 1 := ⟨(gt T j).parent - 1, by omega⟩
          exact ⟨m, by omega, by omega, by rw [hm]; rfl, rfl, Lib.hid (by rw [HB.out, HT.out, hm]; rfl)⟩
  · have e : topOf T id = 0 := by
      unfold topOf
      rw [upL_out (by omega)]; rfl
    rw [e]
    obtain ⟨a, cap, hc0, _⟩ := hT.head
    have hd : inB T.length id = false := inB_no h
    clear h e hT
    go_enter Try.func27, Try.ntmps27
    go_wp2_with (go_at_call 49; refine (is_r p _ _ _ _ _ hc0).mono ?_; rintro e w' ⟨rfl, rfl⟩; rw [hd])
    go_ret
    exact ⟨rfl, rfl⟩

theorem below_rm (p : Nat) (R : Option Nat) (T : List One) (last : Nat) (k m : Nat) (w : World) (hT : IsR w p R T last) (hlen : T.length ≤ 1000000) (hk : k < T.length) (b : Bool) (hb : belowB T (k + 1) (m + 1) = b) :
    Calls Try.prog 50 #[.pointer (some ⟨p, 0, none⟩), .int .i64 ((k : Int) + 1), .int .i64 ((m : Int) + 1)] w fun e w' => e = .returned (.bool b) ∧ w = w' := by
  have h := below_r p R T last k (m + 1) w hT hlen hk (by omega)
  rw [hb] at h
  exact h

theorem counts_no {T : List One} (_ : WF T) {k i : Nat} (hm : i + 1 ∈ upL T (k + 1)) (hs : (gt T i).state = 3) : countsOf T ((k : Int) + 1) = false := by
  have e1 : ((k : Int) + 1).toNat = k + 1 := by omega
  have : (upL T ((k : Int) + 1).toNat).all (fun k => st T k != 3) = false := by
    rw [List.all_eq_false, e1]
    exact ⟨i + 1, hm, by simp [st, hs]⟩
  unfold countsOf; rw [this, Bool.and_false]
theorem counts_yes {T : List One} (h : WF T) {k : Nat} (hk : k < T.length) (ha : ∀ i, i < T.length → i + 1 ∈ upL T (k + 1) → (gt T i).state ≠ 3) : countsOf T ((k : Int) + 1) = true := by
  have e1 : ((k : Int) + 1).toNat = k + 1 := by omega
  have : (upL T ((k : Int) + 1).toNat).all (fun k => st T k != 3) = true := by
    rw [List.all_eq_true, e1]
    intro m hm
    obtain ⟨h1, _, h3⟩ := mem_upL h hm
    obtain ⟨i, rfl⟩ : ∃ i, m = i + 1 := ⟨m - 1, by omega⟩
    have := ha i (by omega) hm
    simpa [st] using this
  unfold countsOf inR; rw [this, inB_yes (by omega)]; rfl

set_option maxHeartbeats 2000000 in
theorem counts_r (p : Nat) (R : Option Nat) (T : List One) (last : Nat) (id : Int) (w : World) (hT : IsR w p R T last) (hlen : T.length ≤ 1000000) :
    Calls Try.prog 29 #[.pointer (some ⟨p, 0, none⟩), .int .i64 id] w fun e w' => e = .returned (.bool (countsOf T id)) ∧ w = w' := by
  obtain ⟨a0, cap0, hh0, _⟩ := hT.head
  by_cases h : 1 ≤ id ∧ id ≤ T.length
  · obtain ⟨k, rfl⟩ : ∃ k : Nat, id = (k : Int) + 1 := ⟨(id - 1).toNat, by omega⟩
    have hk : k < T.length := by omega
    have hd : inB T.length ((k : Int) + 1) = true := inB_yes h
    clear h
    go_enter Try.func29, Try.ntmps29
    go_wp2_with fail
    refine (is_r p _ _ _ _ _ hh0).mono ?_
    rintro e w' ⟨rfl, rfl⟩
    rw [hd]
    clear hd
    go_wp2_with fail
    go_loopg [5] T.length (fun gh iv wr => ∃ j : Nat, j ≤ T.length ∧ gh = T.length - j ∧ iv = .int .i64 ((j : Int) + 1) ∧ w = wr ∧ Hid (∀ i, i < j → i + 1 ∈ upL T (k + 1) → (gt T i).state ≠ 3))
    case atStart => exact ⟨0, by omega, by omega, rfl, rfl, Lib.hid fun i h => by omega⟩
    case round =>
      obtain ⟨j, hj, rfl, rfl, rfl, HA⟩ := hrel
      by_cases hjl : j < T.length
      · obtain ⟨r, cap, hR0, hne, hc0, hc1, hc2, hc3, _⟩ := hT.ones hjl
        have HR0 := Lib.hid hR0
        clear hh0 hR0
        by_cases hjk : j = k
        · subst hjk
          by_cases hs : (gt T j).state = 3
          · have HC := Lib.hid (counts_no hT.wf (mem_upL_self hT.wf hjl) hs)
            rw [hs] at hc2
            clear hs
            go_wp2_with fail
            go_ret
            exact ⟨by rw [HC.out] <;> rfl, rfl⟩
          · have hb : (((gt T j).state : Int) == 3) = false := by rw [beq_eq_false_iff_ne]; omega
            have HS := Lib.hid hs
            clear hs
            go_wp2_with fail
            go_roundg (T.length - (j + 1))
            case measure => omega
            case rel =>
              refine ⟨j + 1, by omega, rfl, by go_num, rfl, Lib.hid fun i h1 h2 => ?_⟩
              by_cases hij : i = j
              · subst hij; exact HS.out
              · exact HA.out i (by omega) h2
        · have hb : ((j : Int) + 1 == (k : Int) + 1) = false := by rw [beq_eq_false_iff_ne]; omega
          have hmem := mem_belowB hT.wf hk (j + 1)
          cases hbl : belowB T (k + 1) (j + 1)
          · have HB := Lib.hid hbl
            have HM := Lib.hid (show ¬ (j + 1 ∈ upL T (k + 1)) by rw [hmem, hbl]; rintro (h | h); omega; cases h)
            clear hmem hbl hjk
            go_wp2_with fail
            refine (below_rm p R T last k j w hT hlen hk _ HB.out).mono ?_
            rintro e w' ⟨rfl, rfl⟩
            go_wp2_with fail
            go_roundg (T.length - (j + 1))
            case measure => omega
            case rel =>
              refine ⟨j + 1, by omega, rfl, by go_num, rfl, Lib.hid fun i h1 h2 => ?_⟩
              by_cases hij : i = j
              · subst hij; exact absurd h2 HM.out
              · exact HA.out i (by omega) h2
          · have HB := Lib.hid hbl
            have HM := Lib.hid (show j + 1 ∈ upL T (k + 1) by rw [hmem, hbl]; exact .inr rfl)
            clear hmem hbl hjk
            by_cases hs : (gt T j).state = 3
            · have HC := Lib.hid (counts_no hT.wf HM.out hs)
              rw [hs] at hc2
              clear hs
              go_wp2_with fail
              refine (below_rm p R T last k j w hT hlen hk _ HB.out).mono ?_
              rintro e w' ⟨rfl, rfl⟩
              go_wp2_with fail
              go_ret
              exact ⟨by rw [HC.out] <;> rfl, rfl⟩
            · have hb : (((gt T j).state : Int) == 3) = false := by rw [beq_eq_false_iff_ne]; omega
              have HS := Lib.hid hs
              clear hs
              go_wp2_with fail
              refine (below_rm p R T last k j w hT hlen hk _ HB.out).mono ?_
              rintro e w' ⟨rfl, rfl⟩
              go_wp2_with fail
              go_roundg (T.length - (j + 1))
              case measure => omega
              case rel =>
                refine ⟨j + 1, by omega, rfl, by go_num, rfl, Lib.hid fun i h1 h2 => ?_⟩
                by_cases hij : i = j
                · subst hij; exact HS.out
                · exact HA.out i (by omega) h2
      · obtain rfl : j = T.length := by omega
        have HC := Lib.hid (counts_yes hT.wf hk HA.out)
        go_wp2_with fail
        go_ret
        exact ⟨by rw [HC.out] <;> rfl, rfl⟩
  · have e : countsOf T id = false := by unfold countsOf inR; rw [inB_no h]; rfl
    rw [e]
    have hd : inB T.length id = false := inB_no h
    clear h e hT
    go_enter Try.func29, Try.ntmps29
    go_wp2_with (go_at_call 49; refine (is_r p _ _ _ _ _ hh0).mono ?_; rintro e w' ⟨rfl, rfl⟩; rw [hd])
    go_ret
    exact ⟨rfl, rfl⟩

set_option maxHeartbeats 1000000 in
theorem number_r (p : Nat) (R : Option Nat) (T : List One) (last : Nat) (id : Int) (w : World) (hT : IsR w p R T last) (hlen : T.length ≤ 1000000) :
    Calls Try.prog 31 #[.pointer (some ⟨p, 0, none⟩), .int .i64 id] w fun e w' => e = .returned (.int .i64 (numberOf T id)) ∧ Fr noB w w' := by
  by_cases hc : countsOf T id = true
  · have hr : inR T id = true := by
      unfold countsOf at hc; rw [Bool.and_eq_true] at hc; exact hc.1
    obtain ⟨h1, h2⟩ := topOf_in hT.wf hr
    obtain ⟨m, hm⟩ : ∃ m : Nat, topOf T id = m + 1 := ⟨topOf T id - 1, by omega⟩
    have hml : m < T.length := by omega
    have hN : numberOf T id = (gt T m).number := by unfold numberOf; rw [hc, if_pos rfl, hm]; rfl
    have HC := Lib.hid hc; have HN := Lib.hid hN
    have htop : ∀ W, IsR W p R T last → Calls Try.prog 27 #[.pointer (some ⟨p, 0, none⟩), .int .i64 id] W fun e w' => e = .returned (.int .i64 ((m : Int) + 1)) ∧ Fr noB W w' := fun W h => by
      have := top_r p R T last id W h hlen
      rw [hm] at this
      exact this.mono fun _ _ ⟨h1, h2⟩ => ⟨h1, h2 ▸ Fr.refl _ _⟩
    have HTOP := Lib.hid htop
    obtain ⟨r, cap, hR0, hne, hd0, hd1, hd2, hd3, _⟩ := hT.ones hml
    have HR0 := Lib.hid hR0
    have x0 := Ext.cell hd0
    have x3 := Ext.cell hd3
    have hmi : (m : Int) < (T.length : Int) := by omega
    have hm0 : (0 : Int) ≤ (m : Int) := by omega
    clear hc hr h1 h2 hm hN htop hd0 hd1 hd2 hd3 hR0
    go_enter Try.func31, Try.ntmps31
    go_wp2_with fail
    refine (counts_r p R T last id w hT hlen).mono ?_
    rintro e w' ⟨rfl, rfl⟩
    rw [HC.out]
    go_upto_region 3 with fail
    refine wp_region_ext (by kernel_rfl) (by kernel_rfl) ?_
    repeat (go_big_quiet_step ((go_at_call 27; exact Ext.calls (HTOP.out _ (hT.frN (Ext.fr _))))))
    refine wpQuiet_nil ?_
    rintro w7 ⟨⟨_, hf7⟩, rfl⟩
    go_wp2_with fail
    go_ret
    exact ⟨by rw [HN.out] <;> rfl, hf7⟩
  · have hc' : countsOf T id = false := by simpa using hc
    have hN : numberOf T id = 0 := by unfold numberOf; rw [if_neg hc]
    have HC := Lib.hid hc'; have HN := Lib.hid hN
    clear hc hc' hN
    go_enter Try.func31, Try.ntmps31
    go_wp2_with fail
    refine (counts_r p R T last id w hT hlen).mono ?_
    rintro e w' ⟨rfl, rfl⟩
    rw [HC.out]
    go_wp2_with fail
    go_ret
    exact ⟨by rw [HN.out] <;> rfl, Fr.refl _ _⟩

end Go.Proofs.Ytfgkocpmgoaljaa
