/- The walks of the document's snapshots. The conditions: the table lies in memory as its data say. -/
import Derived.Test.YtfgkocpmgoaljaaRefC
import Derived.Test.YtfgkocpmgoaljaaSnapX
namespace Go.Proofs.Ytfgkocpmgoaljaa
open Go.RowKit Go.Shelf Xid

theorem IsR.types {w : World} {p : Nat} {R : Option Nat} {T : List One} {last : Nat} (h : IsR w p R T last) {k : Nat} (hk : foot p R k) : ∃ c t fz, w.heap[k]? = some (.cells c t fz) ∧ t ∈ rT := by
  rcases hk with rfl | hR
  · rcases h.cases with ⟨_, _, h1⟩ | ⟨r, cap, cur, _, h1, _⟩ <;> exact ⟨_, _, _, h1, by decide⟩
  · rcases h.cases with ⟨_, h1, _⟩ | ⟨r, cap, cur, h0, _, h1, _⟩
    · rw [h1] at hR; cases hR
    · rw [h0] at hR; cases hR; exact ⟨_, _, _, h1, by decide⟩
theorem MineR.other {w0 w w' : World} {p : Nat} {T : List One} {last : Nat} {S : Nat → Prop} (h : MineR w0 w p T last) (hf : Fr S w w') (h0 : ∀ k, S k → w0.heap.size ≤ k) (hS : ∀ k c t fz, S k → w.heap[k]? = some (.cells c t fz) → t ∉ rT) : MineR w0 w' p T last := by
  obtain ⟨R, hT, hR⟩ := h.tab
  refine ⟨⟨R, hT.fr hf ?_, hR⟩, h.pB, h.fr.transX hf (fun k hk hs => absurd (h0 k hs) (by omega))⟩
  intro k hk hs
  obtain ⟨c, t, fz, h1, h2⟩ := hT.types hk
  exact hS k c t fz hs h1 h2
theorem counts_d {w : World} {q : Nat} {R : Option Nat} {T : List One} {last : Nat} {id : Int} (h : IsR w q R T last) (b : Bool) (h1 : T.length ≤ 1000000) (hb : countsOf T id = b) :
    Calls Try.prog 29 #[.pointer (some ⟨q, 0, none⟩), .int .i64 id] w fun e w' => e = .returned (.bool b) ∧ Fr noB w w' := by
  subst hb
  exact (counts_r q R T last id w h h1).mono fun _ _ h => ⟨h.1, h.2 ▸ Fr.refl _ _⟩
theorem top_d {w : World} {q : Nat} {R : Option Nat} {T : List One} {last : Nat} {id : Int} (h : IsR w q R T last) (b : Int) (h1 : T.length ≤ 1000000) (hb : topOf T id = b) :
    Calls Try.prog 27 #[.pointer (some ⟨q, 0, none⟩), .int .i64 id] w fun e w' => e = .returned (.int .i64 b) ∧ Fr noB w w' := by
  subst hb
  exact (top_r q R T last id w h h1).mono fun _ _ h => ⟨h.1, h.2 ▸ Fr.refl _ _⟩
theorem number_d {w : World} {q : Nat} {R : Option Nat} {T : List One} {last : Nat} {id : Int} (h : IsR w q R T last) (b : Int) (h1 : T.length ≤ 1000000) (hb : (numberOf T id : Int) = b) :
    Calls Try.prog 31 #[.pointer (some ⟨q, 0, none⟩), .int .i64 id] w fun e w' => e = .returned (.int .i64 b) ∧ Fr noB w w' := by
  subst hb
  exact number_r q R T last id w h h1
theorem last_d {w : World} {q : Nat} {R : Option Nat} {T : List One} {last : Nat} (h : IsR w q R T last) :
    Calls Try.prog 22 #[.pointer (some ⟨q, 0, none⟩)] w fun e w' => e = .returned (.int .i64 last) ∧ Fr noB w w' :=
  (last_r q R T last w h).mono fun _ _ h => ⟨h.1, h.2 ▸ Fr.refl _ _⟩

set_option maxHeartbeats 1000000 in
theorem done_d {w : World} {q : Nat} {R : Option Nat} {T : List One} {last : Nat} {id : Int} (h : IsR w q R T last) (h1 : T.length ≤ 1000000) :
    Calls Try.prog 58 #[.pointer (some ⟨q, 0, none⟩), .int .i64 id] w fun e w' => e = .returned (.int .i64 (doneOf T id)) ∧ Fr noB w w' := by
  by_cases hc : countsOf T id = true
  · have HD := Lib.hid (show doneOf T id = numberOf T (topOf T id : Int) by unfold doneOf; rw [if_pos hc])
    have HC := Lib.hid hc
    clear hc
    go_enter Try.func58, Try.ntmps58
    go_wp2_with fail
    refine (counts_d h true h1 HC.out).mono ?_
    rintro e w1 ⟨rfl, hf1⟩
    go_wp2_with fail
    refine (top_d (h.frN hf1) _ h1 rfl).mono ?_
    rintro e w2 ⟨rfl, hf2⟩
    go_wp2_with fail
    refine (number_d (h.frN (hf1.trans hf2)) _ h1 rfl).mono ?_
    rintro e w3 ⟨rfl, hf3⟩
    go_wp2_with fail
    go_ret
    exact ⟨by rw [HD.out] <;> rfl, (hf1.trans hf2).trans hf3⟩
  · have hc' : countsOf T id = false := by simpa using hc
    have HD := Lib.hid (show doneOf T id = 0 by unfold doneOf; rw [if_neg hc])
    have HC := Lib.hid hc'
    clear hc hc'
    go_enter Try.func58, Try.ntmps58
    go_wp2_with fail
    refine (counts_d h false h1 HC.out).mono ?_
    rintro e w1 ⟨rfl, hf1⟩
    go_wp2_with fail
    go_ret
    exact ⟨by rw [HD.out]; rfl, hf1⟩

set_option maxHeartbeats 1000000 in
theorem now_d {w : World} {q : Nat} {R : Option Nat} {T : List One} {last : Nat} (me : Int) (h : IsR w q R T last) :
    Calls Try.prog 43 #[.pointer (some ⟨q, 0, none⟩), .int .i64 me] w fun e w' => e = .returned (.agg #[.int .i64 last, .int .i64 me]) ∧ Fr noB w w' := by
  go_enter Try.func43, Try.ntmps43
  have hf0 : Fr noB w (w.alloc (.cells #[.int .i64 0, .int .i64 0] 57)) := (Fr.refl _ _).alloc _
  have hb0 := obj_alloc_new w (.cells #[.int .i64 0, .int .i64 0] 57)
  go_wp2_with fail
  refine (last_d (h.frN hf0)).mono ?_
  rintro e w1 ⟨rfl, hf1⟩
  have hb1 := hf1.obj (fun x => x) hb0
  have hc0 := cell_of_obj hb1 0
  have hc1 := cell_of_obj hb1 1
  have hz := frozen_of_obj hb1
  simp at hc0 hc1
  go_wp2_with fail
  have hb2 := obj_setCell (obj_setCell hb1 0 (.int .i64 last)) 1 (.int .i64 me)
  refine bodyPost_ret (results_cell_row rfl _ _ w.heap.size 57 #[.int .i64 last, .int .i64 me] (0, 0) _ rfl hb2 Try.underlying57 rfl (by kernel_rfl)) rfl ?_
  exact ⟨rfl, ((hf0.trans hf1).setCell (fun h => by dsimp only at h; omega) _).setCell (fun h => by dsimp only at h; omega) _⟩

set_option maxHeartbeats 2000000 in
theorem own_d {w : World} {q : Nat} {R : Option Nat} {T : List One} {last : Nat} {id : Int} (att me : Int) (h : IsR w q R T last) (h1 : T.length ≤ 1000000) :
    Calls Try.prog 44 #[.agg #[.int .i64 att, .int .i64 me], .pointer (some ⟨q, 0, none⟩), .int .i64 id] w fun e w' => e = .returned (.bool (ownOf T me id)) ∧ Fr noB w w' := by
  have hf0 : Fr noB w (w.alloc (.cells #[.int .i64 att, .int .i64 me] 57)) := (Fr.refl _ _).alloc _
  have hb0 := obj_alloc_new w (.cells #[.int .i64 att, .int .i64 me] 57)
  have x1 := Ext.cell (cell_of_obj hb0 1)
  simp at x1
  have hT0 := h.frN hf0
  by_cases hm : me = 0
  · have HR := Lib.hid (show ownOf T me id = false by simp [ownOf, hm])
    subst hm
    go_enter Try.func44, Try.ntmps44
    go_upto_region 1 with fail
    refine wp_region_ext (by kernel_rfl) (by kernel_rfl) ?_
    repeat (go_big_quiet_step (fail))
    refine wpQuiet_nil ?_
    rintro w3 ⟨⟨_, hf3⟩, rfl⟩
    go_wp2_with fail
    go_ret
    exact ⟨by rw [HR.out] <;> rfl, hf0.trans hf3⟩
  · have hmn : (me != 0) = true := by simpa using hm
    by_cases hc : countsOf T id = true
    · have HR := Lib.hid (show ownOf T me id = ((topOf T id : Int) == me) by simp [ownOf, hm, hc])
      have HC := Lib.hid hc
      clear hc hm
      go_enter Try.func44, Try.ntmps44
      go_upto_region 1 with fail
      refine wp_region_ext (by kernel_rfl) (by kernel_rfl) ?_
      repeat (go_big_quiet_step (first | (go_at_call 29; exact Ext.calls (counts_d (hT0.frN (Ext.fr _)) true h1 HC.out)) | (go_at_call 27; exact Ext.calls (top_d (hT0.frN (Ext.fr _)) _ h1 rfl))))
      refine wpQuiet_nil ?_
      rintro w3 ⟨⟨_, hf3⟩, rfl⟩
      go_wp2_with fail
      go_ret
      exact ⟨by rw [HR.out] <;> rfl, hf0.trans hf3⟩
    · have hc' : countsOf T id = false := by simpa using hc
      have HR := Lib.hid (show ownOf T me id = false by simp [ownOf, hc'])
      have HC := Lib.hid hc'
      clear hc hc' hm
      go_enter Try.func44, Try.ntmps44
      go_upto_region 1 with fail
      refine wp_region_ext (by kernel_rfl) (by kernel_rfl) ?_
      repeat (go_big_quiet_step (first | (go_at_call 29; exact Ext.calls (counts_d (hT0.frN (Ext.fr _)) false h1 HC.out))))
      refine wpQuiet_nil ?_
      rintro w3 ⟨⟨_, hf3⟩, rfl⟩
      go_wp2_with fail
      go_ret
      exact ⟨by rw [HR.out] <;> rfl, hf0.trans hf3⟩

set_option maxHeartbeats 2000000 in
theorem sees_d {w : World} {q : Nat} {R : Option Nat} {T : List One} {last : Nat} {id : Int} (att me : Int) (h : IsR w q R T last) (h1 : T.length ≤ 1000000) :
    Calls Try.prog 45 #[.agg #[.int .i64 att, .int .i64 me], .pointer (some ⟨q, 0, none⟩), .int .i64 id] w fun e w' => e = .returned (.bool (seesOf T att me id)) ∧ Fr noB w w' := by
  have hf0 : Fr noB w (w.alloc (.cells #[.int .i64 att, .int .i64 me] 57)) := (Fr.refl _ _).alloc _
  have hb0 := obj_alloc_new w (.cells #[.int .i64 att, .int .i64 me] 57)
  have hd := done_d (id := id) (h.frN hf0) h1
  have HR := Lib.hid (show seesOf T att me id = (ownOf T me id || (decide (0 < (doneOf T id : Int)) && decide ((doneOf T id : Int) ≤ att))) from rfl)
  generalize doneOf T id = n at *
  go_enter Try.func45, Try.ntmps45
  go_wp2_with fail
  refine hd.mono ?_
  rintro e w1 ⟨rfl, hf1⟩
  have hb1 := hf1.obj (fun x => x) hb0
  obtain ⟨hc0, hc1⟩ := viewer_cells hb1
  clear hd
  have ho := own_d (id := id) att me (h.frN (hf0.trans hf1)) h1
  cases hob : ownOf T me id
  · rw [hob] at ho HR
    clear hob
    go_wp2_with fail
    refine ho.mono ?_
    rintro e w2 ⟨rfl, hf2⟩
    have hb2 := hf2.obj (fun x => x) hb1
    obtain ⟨hd0, hd1⟩ := viewer_cells hb2
    clear ho hc0 hc1
    by_cases hn : n = 0
    · subst hn
      go_wp2_with fail
      go_ret
      exact ⟨by rw [HR.out] <;> rfl, (hf0.trans hf1).trans hf2⟩
    · have hn1 : decide ((0 : Int) < (n : Int)) = true := by simp; omega
      rw [hn1, Bool.true_and, Bool.false_or] at HR
      have hnp : 0 < n := by omega
      clear hn hn1
      go_wp2_with fail
      go_ret
      exact ⟨by rw [HR.out] <;> rfl, (hf0.trans hf1).trans hf2⟩
  · rw [hob, Bool.true_or] at HR
    rw [hob] at ho
    clear hob
    go_wp2_with fail
    refine ho.mono ?_
    rintro e w2 ⟨rfl, hf2⟩
    go_wp2_with fail
    go_ret
    exact ⟨by rw [HR.out] <;> rfl, (hf0.trans hf1).trans hf2⟩

set_option maxHeartbeats 2000000 in
theorem later_d {w : World} {q : Nat} {R : Option Nat} {T : List One} {last : Nat} {id : Int} (att me : Int) (h : IsR w q R T last) (h1 : T.length ≤ 1000000) :
    Calls Try.prog 46 #[.agg #[.int .i64 att, .int .i64 me], .pointer (some ⟨q, 0, none⟩), .int .i64 id] w fun e w' => e = .returned (.bool (laterOf T att me id)) ∧ Fr noB w w' := by
  have hf0 : Fr noB w (w.alloc (.cells #[.int .i64 att, .int .i64 me] 57)) := (Fr.refl _ _).alloc _
  have hb0 := obj_alloc_new w (.cells #[.int .i64 att, .int .i64 me] 57)
  have hd := done_d (id := id) (h.frN hf0) h1
  have HR := Lib.hid (show laterOf T att me id = (decide (0 < (doneOf T id : Int)) && !seesOf T att me id) from rfl)
  generalize doneOf T id = n at *
  go_enter Try.func46, Try.ntmps46
  go_wp2_with fail
  refine hd.mono ?_
  rintro e w1 ⟨rfl, hf1⟩
  have hb1 := hf1.obj (fun x => x) hb0
  have hc0 := cell_of_obj hb1 0
  have hc1 := cell_of_obj hb1 1
  simp at hc0 hc1
  clear hd
  have hs := sees_d (id := id) att me (h.frN (hf0.trans hf1)) h1
  generalize seesOf T att me id = s at *
  by_cases hn : n = 0
  · subst hn
    go_wp2_with fail
    go_ret
    exact ⟨by rw [HR.out] <;> rfl, hf0.trans hf1⟩
  · have hn1 : decide ((0 : Int) < (n : Int)) = true := by simp; omega
    rw [hn1] at HR
    have hnp : 0 < n := by omega
    clear hn hn1
    go_wp2_with fail
    refine hs.mono ?_
    rintro e w2 ⟨rfl, hf2⟩
    go_wp2_with fail
    go_ret
    exact ⟨by rw [HR.out] <;> rfl, (hf0.trans hf1).trans hf2⟩


set_option maxHeartbeats 1000000 in
theorem told_m {p : Nat} {T : List One} {last : Nat} {w0 w : World} (h : MineR w0 w p T last) (hI : Inv T last) (kind id : Int) (h1 : T.length < 1000000) (h2 : last ≤ 1000000) :
    Calls Try.prog 42 #[.agg #[.int .u8 kind, .int .i64 id], .pointer (some ⟨p, 0, none⟩)] w fun e' w' => e' = .returned (.tuple #[]) ∧ MineR w0 w' p (doT T last kind id) (doL T last kind id) ∧ FrT rT w w' := by
  have hfa := (Fr.refl noB w).alloc (.cells #[.int .u8 kind, .int .i64 id] 54)
  have h' := h.frN hfa
  unfold doT doL
  by_cases k0 : kind = 0
  · subst k0
    rw [if_pos rfl, if_neg (by decide)]
    go_enter Try.func42, Try.ntmps42
    go_wp2_with (go_at_call 18; refine (beginr_m h' h1).mono ?_; rintro e w' ⟨rfl, h3, hx⟩)
    go_end0
    exact ⟨rfl, h3, (FrT.ofN hfa).trans hx⟩
  · have hb0 : (kind == 0) = false := by rw [beq_eq_false_iff_ne]; exact k0
    by_cases k1 : kind = 1
    · subst k1
      rw [if_neg (by decide), if_pos rfl, if_pos rfl]
      clear k0 hb0
      go_enter Try.func42, Try.ntmps42
      go_wp2_with (go_at_call 19; refine (commitr_m h' hI (by omega) h2).mono ?_; rintro e w' ⟨rfl, h3, hx⟩)
      go_end0
      exact ⟨rfl, h3, (FrT.ofN hfa).trans hx⟩
    · have hb1 : (kind == 1) = false := by rw [beq_eq_false_iff_ne]; exact k1
      rw [if_neg k0, if_neg k1, if_neg k1]
      clear k0 k1
      go_enter Try.func42, Try.ntmps42
      go_wp2_with (go_at_call 20; refine (abortr_m h' hI (by omega) h2).mono ?_; rintro e w' ⟨rfl, h3, hx⟩)
      go_end0
      exact ⟨rfl, h3, (FrT.ofN hfa).trans hx⟩


end Go.Proofs.Ytfgkocpmgoaljaa
