/- The walks of xid's Begin, Len, Last. The conditions: the table lies in memory as its data say. -/
import Derived.Test.YtfgkocpmgoaljaaXidW
import Derived.Test.YtfgkocpmgoaljaaApp
import Derived.Maps.AppendAt
import Derived.Deep.DeepMust
namespace Go.Proofs.Ytfgkocpmgoaljaa
open Go.RowKit Xid

theorem infoOne : (Try.prog.info? 73).map (fun i => (i.zero, i.size, i.bytes)) = some (some (.agg #[.int .i64 0, .int .u8 0, .int .i64 0]), 3, 24) := by kernel_rfl

/-- What a call that may turn the table leaves. -/
def Turned (p : Nat) (R : Option Nat) (T : List One) (last : Nat) (w w' : World) : Prop :=
  ∃ R', IsT w' p R' T last ∧ Fr (foot p R) w w' ∧ (∀ r, R' = some r → R = some r ∨ w.heap.size ≤ r)

theorem Turned.same {p : Nat} {R : Option Nat} {T : List One} {last : Nat} {w : World} (h : IsT w p R T last) : Turned p R T last w w := ⟨R, h, Fr.refl _ _, fun _ h => .inl h⟩

theorem rowC_snoc (T : List One) (x : One) : rowC (T ++ [x]) = rowC T ++ oneC x := by simp [rowC]

theorem wf_snoc {T : List One} (h : WF T) (x : One) (h1 : x.parent ≤ T.length) (h2 : x.state < 256) : WF (T ++ [x]) := by
  have e1 : ∀ k, k < T.length → gt (T ++ [x]) k = gt T k := fun k hk => by simp [gt, List.getD, List.getElem?_append_left hk]
  have e2 : gt (T ++ [x]) T.length = x := by simp [gt, List.getD]
  constructor <;> intro k hk <;> simp at hk
  · by_cases e : k < T.length
    · rw [e1 k e]; exact h.par k e
    · obtain rfl : k = T.length := by omega
      rw [e2]; exact h1
  · by_cases e : k < T.length
    · rw [e1 k e]; exact h.st k e
    · obtain rfl : k = T.length := by omega
      rw [e2]; exact h2

theorem IsT.ne {w : World} {p : Nat} {R : Option Nat} {T : List One} {last : Nat} (hT : IsT w p R T last) : R ≠ some p := by
  rintro rfl
  rcases hT.cases with ⟨_, h, _⟩ | ⟨r, cap, cur, h, h3, h4, _⟩
  · cases h
  · cases h; rw [h3] at h4; simp at h4

/-- What the append and the store behind it make of the table. -/
theorem IsT.pushed {w w1 : World} {p : Nat} {R : Option Nat} {T : List One} {last : Nat} (hT : IsT w p R T last) (x : One) (h1 : x.parent ≤ T.length) (h2 : x.state < 256) {v : Value}
    (hv : w.heap[p]? = some (.cells #[v, .int .i64 last] 68 (0, 0))) (hR : v.ownBlock = R) {w0 : World} (h0 : Fr noB w w0) {g' cap' : Nat}
    (ho : w1.ownsRow 0 73 3 (.slice (some ⟨g', 0, none⟩) (T.length + 1) cap') (T.length + 1) (rowC T ++ oneC x)) (hg : w0.grownBy w1 v.ownBlock) (hf : v.ownBlock = some g' ∨ w0.heap.size ≤ g') :
    Turned p R (T ++ [x]) last w (w1.setCell ⟨p, 0, none⟩ (.slice (some ⟨g', 0, none⟩) (T.length + 1) cap')) := by
  have hpR := hT.ne
  have hp0 : w0.heap[p]? = some (.cells #[v, .int .i64 last] 68 (0, 0)) := h0.obj id hv
  have hp1 : w1.heap[p]? = some (.cells #[v, .int .i64 last] 68 (0, 0)) := by
    rw [hg.block p (obj_lt hp0) (by rw [hR]; exact fun e => hpR e.symm)]; exact hp0
  have hne : g' ≠ p := by
    rintro rfl
    rcases hf with hf | hf
    · exact hpR (hR.symm.trans hf)
    · have := obj_lt hp0; omega
  refine ⟨some g', ⟨⟨.slice (some ⟨g', 0, none⟩) (T.length + 1) cap', ?_, ?_, rfl⟩, wf_snoc hT.wf x h1 h2⟩, ?_, ?_⟩
  · exact obj_setCell hp1 0 _
  · obtain ⟨ho1, ⟨ho2, _⟩ | ⟨g, cap, cur, ho2, ho3, ho4, ho5⟩⟩ := ho
    · cases ho2
    · cases ho2
      rw [rowC_snoc, List.length_append]
      exact ⟨ho1, .inr ⟨g', cap', cur, rfl, ho3, obj_setCell_other ho4 _ _ hne, ho5⟩⟩
  · exact ((h0.ofN (S := foot p R)).grown hg (fun k e _ => .inr (by rw [← hR]; exact e))).setCell (fun _ => .inl rfl) _
  · rintro r e
    cases e
    rcases hf with hf | hf
    · exact .inl (hR.symm.trans hf)
    · exact .inr (Nat.le_trans h0.size hf)

theorem beginE_ok {T : List One} {k : Nat} (h : beginE T ((k : Int) + 1) = 0) : k < T.length ∧ (gt T k).state = 1 := by
  have e : ((k : Int) + 1).toNat = k + 1 := by omega
  unfold beginE at h
  rw [e] at h
  by_cases hr : inR T ((k : Int) + 1) = true
  · have hk : k < T.length := by simp [inR, inB] at hr; omega
    refine ⟨hk, ?_⟩
    rw [hr, if_neg (by simp)] at h
    by_cases hs : st T (k + 1) = 1
    · simpa [st] using hs
    · rw [if_pos ⟨by omega, hs⟩] at h; omega
  · rw [if_pos ⟨by omega, by simpa using hr⟩] at h; omega

set_option maxHeartbeats 1000000 in
theorem begin_ok0 (p : Nat) (R : Option Nat) (T : List One) (last : Nat) (w : World) (hT : IsT w p R T last) (hlen : T.length < 1000000) :
    Calls Try.prog 47 #[.pointer (some ⟨p, 0, none⟩), .int .i64 0] w fun e w' => e = .returned (.tuple #[.int .i64 (T.length + 1), .int .i64 0]) ∧ Turned p R (T ++ [⟨0, 1, 0⟩]) last w w' := by
  obtain ⟨i0, hi, hz0, hz1, hz2⟩ := info_parts infoOne
  obtain ⟨v, hv, hown, hR⟩ := hT.row
  obtain ⟨a0, cap0, hh0, _⟩ := hT.head
  obtain rfl : v = .slice a0 T.length cap0 := by rw [cell_of_obj hv] at hh0; simpa using hh0
  have hfz : ∀ o, w.frozen? ⟨p, o, none⟩ = false := frozen_of_obj hv
  have HN := Lib.hid (show (Value.slice a0 T.length cap0).ownBlock ≠ some p by rw [hR]; exact hT.ne)
  have HT := Lib.hid hT; clear hT
  have HR := Lib.hid hR; clear hR
  have HV := Lib.hid hv; clear hv
  go_enter Try.func47, Try.ntmps47
  go_wp2_with ((at_builtin; go_must (refine wpList_append_row _ rfl _ _ 66 rfl 0 73 i0 (.agg #[.int .i64 0, .int .u8 0, .int .i64 0]) 3 24 Try.underlying66 hi hz0 hz1 hz2 rfl (by decide) (.slice a0 T.length cap0) T.length (rowC T) rfl (hown.alloc _) ⟨w.heap.size, 0, none⟩ 1 1 (oneC ⟨0, 1, 0⟩) rfl rfl (cells_new _ _ _) (by simp [oneC, Value.oneCell']) (by unfold maxLen; omega) (by omega) (by omega) (by omega) ?_); intro g' cap' w1 ho hg hf; obtain ⟨q1, q2⟩ := kept_cell hg (obj_alloc HV.out _) HN.out; have q3 := q1 0; simp at q3))
  go_ret2
  exact ⟨rfl, IsT.pushed HT.out ⟨0, 1, 0⟩ (by simp) (by simp) HV.out HR.out ((Fr.refl _ _).alloc _) ho hg hf⟩

set_option maxHeartbeats 1000000 in
theorem begin_ok1 (p : Nat) (R : Option Nat) (T : List One) (last : Nat) (k : Nat) (w : World) (hT : IsT w p R T last) (hlen : T.length < 1000000) (he : beginE T ((k : Int) + 1) = 0) :
    Calls Try.prog 47 #[.pointer (some ⟨p, 0, none⟩), .int .i64 ((k : Int) + 1)] w fun e w' => e = .returned (.tuple #[.int .i64 (T.length + 1), .int .i64 0]) ∧ Turned p R (T ++ [⟨k + 1, 1, 0⟩]) last w w' := by
  obtain ⟨i0, hi, hz0, hz1, hz2⟩ := info_parts infoOne
  obtain ⟨v, hv, hown, hR⟩ := hT.row
  obtain ⟨a0, cap0, hh0, _⟩ := hT.head
  obtain rfl : v = .slice a0 T.length cap0 := by rw [cell_of_obj hv] at hh0; simpa using hh0
  have hfz : ∀ o, w.frozen? ⟨p, o, none⟩ = false := frozen_of_obj hv
  have HN := Lib.hid (show (Value.slice a0 T.length cap0).ownBlock ≠ some p by rw [hR]; exact hT.ne)
  obtain ⟨hk, hs⟩ := beginE_ok he
  obtain ⟨r, cap, rfl, hne, hc0, hc1, hc2, hc3, _⟩ := hT.ones hk
  rw [hs] at hc2
  have hd : inB T.length ((k : Int) + 1) = true := inB_yes (by omega)
  clear he hs
  have HT := Lib.hid hT; clear hT
  have HR := Lib.hid hR; clear hR
  have HV := Lib.hid hv; clear hv
  go_enter Try.func47, Try.ntmps47
  go_wp2_with (first | (at_builtin; go_must (refine wpList_append_row _ rfl _ _ 66 rfl 0 73 i0 (.agg #[.int .i64 0, .int .u8 0, .int .i64 0]) 3 24 Try.underlying66 hi hz0 hz1 hz2 rfl (by decide) (.slice a0 T.length cap0) T.length (rowC T) rfl (hown.alloc _) ⟨w.heap.size, 0, none⟩ 1 1 (oneC ⟨k + 1, 1, 0⟩) rfl rfl (cells_new _ _ _) (by simp [oneC, Value.oneCell']) (by unfold maxLen; omega) (by omega) (by omega) (by omega) ?_); intro g' cap' w1 ho hg hf; obtain ⟨q1, q2⟩ := kept_cell hg (obj_alloc HV.out _) HN.out; have q3 := q1 0; simp at q3) | (go_at_call 51; refine (is_any p _ _ _ _ _ hh0).mono ?_; rintro e w' ⟨rfl, rfl⟩; rw [hd]) | (go_at_call 52; refine (at_any p r _ _ k _ _ hc0 hk (by omega) (by omega)).mono ?_; rintro e w' ⟨rfl, rfl⟩))
  go_ret2
  exact ⟨rfl, IsT.pushed HT.out ⟨k + 1, 1, 0⟩ (by simp; omega) (by simp) HV.out HR.out ((Fr.refl _ _).alloc _) ho hg hf⟩


theorem ret2_int {k k' : IntKind} {a b c d : Int} (h : a = b) (h' : c = d) : Ending.returned (.tuple #[.int k a, .int k' c]) = .returned (.tuple #[.int k b, .int k' d]) := by rw [h, h']

set_option maxHeartbeats 1000000 in
theorem begin_no (p : Nat) (R : Option Nat) (T : List One) (last : Nat) (id : Int) (w : World) (hT : IsT w p R T last) (hlen : T.length < 1000000) (he : beginE T id ≠ 0) :
    Calls Try.prog 47 #[.pointer (some ⟨p, 0, none⟩), .int .i64 id] w fun e w' => e = .returned (.tuple #[.int .i64 0, .int .i64 (beginE T id)]) ∧ w = w' := by
  obtain ⟨a0, cap0, hh0, _⟩ := hT.head
  have hi0 : id ≠ 0 := by rintro rfl; simp [beginE] at he
  by_cases hr : inR T id = true
  · have hr' : 1 ≤ id ∧ id ≤ T.length := by simpa [inR, inB] using hr
    obtain ⟨k, rfl⟩ : ∃ k : Nat, id = (k : Int) + 1 := ⟨(id - 1).toNat, by omega⟩
    have hk : k < T.length := by omega
    have e1 : ((k : Int) + 1).toNat = k + 1 := by omega
    have hs : (gt T k).state ≠ 1 := by
      intro hs; apply he; unfold beginE; rw [e1, hr, if_neg (by simp), if_neg (by simp [st, hs])]
    have hE : beginE T ((k : Int) + 1) = 7 := by
      unfold beginE; rw [e1, hr, if_neg (by simp), if_pos ⟨by omega, by simpa [st] using hs⟩]
    rw [hE]
    obtain ⟨r, cap, rfl, hne, hc0, hc1, hc2, hc3, _⟩ := hT.ones hk
    have hd : inB T.length ((k : Int) + 1) = true := inB_yes (by omega)
    have hb : (((gt T k).state : Int) != 1) = true := by rw [bne_iff_ne]; omega
    clear he hs hE hr hr' e1
    go_enter Try.func47, Try.ntmps47
    go_wp2_with (first | (go_at_call 51; refine (is_any p _ _ _ _ _ hh0).mono ?_; rintro e w' ⟨rfl, rfl⟩; rw [hd]) | (go_at_call 52; refine (at_any p r _ _ k _ _ hc0 hk (by omega) (by omega)).mono ?_; rintro e w' ⟨rfl, rfl⟩))
    go_ret2
    exact ⟨rfl, rfl⟩
  · have hr2 : inR T id = false := by simpa using hr
    have hE : beginE T id = 5 := by unfold beginE; rw [hr2, if_pos ⟨hi0, rfl⟩]
    rw [hE]
    have hd : inB T.length id = false := hr2
    have hb : (id != 0) = true := by rw [bne_iff_ne]; exact hi0
    clear he hE hr hr2 hi0
    go_enter Try.func47, Try.ntmps47
    go_wp2_with (go_at_call 51; refine (is_any p _ _ _ _ _ hh0).mono ?_; rintro e w' ⟨rfl, rfl⟩; rw [hd])
    go_ret2
    exact ⟨rfl, rfl⟩

theorem begin_any (p : Nat) (R : Option Nat) (T : List One) (last : Nat) (id : Int) (w : World) (hT : IsT w p R T last) (hlen : T.length < 1000000) :
    Calls Try.prog 47 #[.pointer (some ⟨p, 0, none⟩), .int .i64 id] w fun e w' => e = .returned (.tuple #[.int .i64 (beginA T id), .int .i64 (beginE T id)]) ∧ Turned p R (beginT T id) last w w' := by
  unfold beginA beginT
  by_cases he : beginE T id = 0
  · rw [if_pos he, if_pos he, he]
    by_cases h0 : id = 0
    · subst h0; exact begin_ok0 p R T last w hT hlen
    · have hr : 1 ≤ id := by
        unfold beginE at he
        by_cases hr : inR T id = true
        · simp [inR, inB] at hr; omega
        · rw [if_pos ⟨h0, by simpa using hr⟩] at he; omega
      obtain ⟨k, rfl⟩ : ∃ k : Nat, id = (k : Int) + 1 := ⟨(id - 1).toNat, by omega⟩
      have e1 : ((k : Int) + 1).toNat = k + 1 := by omega
      rw [e1]; exact begin_ok1 p R T last k w hT hlen he
  · rw [if_neg he, if_neg he]
    exact (begin_no p R T last id w hT hlen he).mono fun e w' ⟨h1, h2⟩ => ⟨h1, h2 ▸ Turned.same hT⟩

set_option maxHeartbeats 400000 in
theorem len_any (p : Nat) (R : Option Nat) (T : List One) (last : Nat) (w : World) (hT : IsT w p R T last) :
    Calls Try.prog 23 #[.pointer (some ⟨p, 0, none⟩)] w fun e w' => e = .returned (.int .i64 T.length) ∧ w = w' := by
  obtain ⟨a0, cap0, hh0, _⟩ := hT.head
  go_enter Try.func23, Try.ntmps23
  go_wp2
  go_ret
  exact ⟨rfl, rfl⟩
set_option maxHeartbeats 400000 in
theorem last_any (p : Nat) (R : Option Nat) (T : List One) (last : Nat) (w : World) (hT : IsT w p R T last) :
    Calls Try.prog 21 #[.pointer (some ⟨p, 0, none⟩)] w fun e w' => e = .returned (.int .i64 last) ∧ w = w' := by
  obtain ⟨a0, cap0, _, hh1⟩ := hT.head
  go_enter Try.func21, Try.ntmps21
  go_wp2
  go_ret
  exact ⟨rfl, rfl⟩

end Go.Proofs.Ytfgkocpmgoaljaa
