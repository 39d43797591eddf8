/- The walks of package snap. The conditions: the table is nil, or lies in memory as its data say. -/
import Derived.Test.YtfgkocpmgoaljaaSnap
import Derived.Test.YtfgkocpmgoaljaaXidN
import Derived.Test.YtfgkocpmgoaljaaXidG
import Derived.Test.YtfgkocpmgoaljaaExt
import Derived.Deep.RegionWith
import Derived.Deep.LoopGhost
import Derived.Deep.DeepCutAuto
import Derived.BigRegion
import Derived.BigQuiet
import Derived.Laws.Rows
namespace Go.Proofs.Ytfgkocpmgoaljaa
open Go.RowKit Go.Shelf Xid

/-- A pointer at a table, or nil. -/
def Tells (w : World) (pv : Value) (T : List One) (last : Nat) : Prop := (pv = .pointer none ∧ T = [] ∧ last = 0) ∨ ∃ p R, pv = .pointer (some ⟨p, 0, none⟩) ∧ IsT w p R T last
theorem Tells.frN {w w' : World} {pv : Value} {T : List One} {last : Nat} (h : Tells w pv T last) (hf : Fr noB w w') : Tells w' pv T last := by
  rcases h with h | ⟨p, R, rfl, h⟩
  · exact .inl h
  · exact .inr ⟨p, R, rfl, h.frN hf⟩
theorem IsT.tells {w : World} {p : Nat} {R : Option Nat} {T : List One} {last : Nat} (h : IsT w p R T last) : Tells w (.pointer (some ⟨p, 0, none⟩)) T last := .inr ⟨p, R, rfl, h⟩
theorem Mine.tells {w0 w : World} {p : Nat} {T : List One} {last : Nat} (h : Mine w0 w p T last) : Tells w (.pointer (some ⟨p, 0, none⟩)) T last := by
  obtain ⟨R, hT, _⟩ := h.tab
  exact hT.tells

theorem upL_nil (k : Nat) : upL [] k = [] := upL_out (by simp; omega)
theorem counts_t {w : World} {pv : Value} {T : List One} {last : Nat} {id : Int} (h : Tells w pv T last) (b : Bool) (h1 : T.length ≤ 1000000) (hb : countsOf T id = b) :
    Calls Try.prog 28 #[pv, .int .i64 id] w fun e w' => e = .returned (.bool b) ∧ Fr noB w w' := by
  subst hb
  rcases h with ⟨rfl, rfl, rfl⟩ | ⟨p, R, rfl, h⟩
  · have e : countsOf [] id = false := by simp [countsOf, inR, inB]; omega
    rw [e]; exact counts_nil id w
  · exact counts_at h _ h1 rfl
theorem top_t {w : World} {pv : Value} {T : List One} {last : Nat} {id : Int} (h : Tells w pv T last) (s : Int) (h1 : T.length ≤ 1000000) (hs : (topOf T id : Int) = s) :
    Calls Try.prog 26 #[pv, .int .i64 id] w fun e w' => e = .returned (.int .i64 s) ∧ Fr noB w w' := by
  subst hs
  rcases h with ⟨rfl, rfl, rfl⟩ | ⟨p, R, rfl, h⟩
  · have e : topOf [] id = 0 := by simp [topOf, upL_nil]
    rw [e]; exact top_nil id w
  · exact top_at h _ h1 rfl
theorem number_t {w : World} {pv : Value} {T : List One} {last : Nat} {id : Int} (h : Tells w pv T last) (s : Int) (h1 : T.length ≤ 1000000) (hs : (numberOf T id : Int) = s) :
    Calls Try.prog 30 #[pv, .int .i64 id] w fun e w' => e = .returned (.int .i64 s) ∧ Fr noB w w' := by
  subst hs
  rcases h with ⟨rfl, rfl, rfl⟩ | ⟨p, R, rfl, h⟩
  · have e : numberOf [] id = 0 := by
      have : countsOf [] id = false := by simp [countsOf, inR, inB]; omega
      simp [numberOf, this]
    rw [e]; exact number_nil id w
  · exact number_at h _ h1 rfl
theorem last_t {w : World} {pv : Value} {T : List One} {last : Nat} (h : Tells w pv T last) :
    Calls Try.prog 21 #[pv] w fun e w' => e = .returned (.int .i64 last) ∧ Fr noB w w' := by
  rcases h with ⟨rfl, rfl, rfl⟩ | ⟨p, R, rfl, h⟩
  · exact (last_nil w).mono fun e w' ⟨h1, h2⟩ => ⟨h1, h2 ▸ Fr.refl _ _⟩
  · exact last_at h _ rfl

set_option maxHeartbeats 1000000 in
theorem done_t {w : World} {pv : Value} {T : List One} {last : Nat} {id : Int} (h : Tells w pv T last) (h1 : T.length ≤ 1000000) :
    Calls Try.prog 57 #[pv, .int .i64 id] w fun e w' => e = .returned (.int .i64 (doneOf T id)) ∧ Fr noB w w' := by
  by_cases hc : countsOf T id = true
  · have HD := Lib.hid (show doneOf T id = numberOf T (topOf T id : Int) by unfold doneOf; rw [if_pos hc])
    have HC := Lib.hid hc
    clear hc
    go_enter Try.func57, Try.ntmps57
    go_wp2_with fail
    refine (counts_t h true h1 HC.out).mono ?_
    rintro e w1 ⟨rfl, hf1⟩
    go_wp2_with fail
    refine (top_t (h.frN hf1) _ h1 rfl).mono ?_
    rintro e w2 ⟨rfl, hf2⟩
    go_wp2_with fail
    refine (number_t (h.frN (hf1.trans hf2)) _ h1 rfl).mono ?_
    rintro e w3 ⟨rfl, hf3⟩
    go_wp2_with fail
    go_ret
    exact ⟨by rw [HD.out] <;> rfl, (hf1.trans hf2).trans hf3⟩
  · have hc' : countsOf T id = false := by simpa using hc
    have HD := Lib.hid (show doneOf T id = 0 by unfold doneOf; rw [if_neg hc])
    have HC := Lib.hid hc'
    clear hc hc'
    go_enter Try.func57, Try.ntmps57
    go_wp2_with fail
    refine (counts_t h false h1 HC.out).mono ?_
    rintro e w1 ⟨rfl, hf1⟩
    go_wp2_with fail
    go_ret
    exact ⟨by rw [HD.out]; rfl, hf1⟩

set_option maxHeartbeats 1000000 in
theorem now_t {w : World} {pv : Value} {T : List One} {last : Nat} (me : Int) (h : Tells w pv T last) :
    Calls Try.prog 36 #[pv, .int .i64 me] w fun e w' => e = .returned (.agg #[.int .i64 last, .int .i64 me]) ∧ Fr noB w w' := by
  go_enter Try.func36, Try.ntmps36
  have hf0 : Fr noB w (w.alloc (.cells #[.int .i64 0, .int .i64 0] 50)) := (Fr.refl _ _).alloc _
  have hb0 := obj_alloc_new w (.cells #[.int .i64 0, .int .i64 0] 50)
  go_wp2_with fail
  refine (last_t (h.frN hf0)).mono ?_
  rintro e w1 ⟨rfl, hf1⟩
  have hb1 := hf1.obj (fun x => x) hb0
  have hc0 := cell_of_obj hb1 0
  have hc1 := cell_of_obj hb1 1
  have hz := frozen_of_obj hb1
  simp at hc0 hc1
  go_wp2_with fail
  have hb2 := obj_setCell (obj_setCell hb1 0 (.int .i64 last)) 1 (.int .i64 me)
  refine bodyPost_ret (results_cell_row rfl _ _ w.heap.size 50 #[.int .i64 last, .int .i64 me] (0, 0) _ rfl hb2 Try.underlying50 rfl (by kernel_rfl)) rfl ?_
  exact ⟨rfl, ((hf0.trans hf1).setCell (fun h => by dsimp only at h; omega) _).setCell (fun h => by dsimp only at h; omega) _⟩

set_option maxHeartbeats 2000000 in
theorem own_t {w : World} {pv : Value} {T : List One} {last : Nat} {id : Int} (att me : Int) (h : Tells w pv T last) (h1 : T.length ≤ 1000000) :
    Calls Try.prog 37 #[.agg #[.int .i64 att, .int .i64 me], pv, .int .i64 id] w fun e w' => e = .returned (.bool (ownOf T me id)) ∧ Fr noB w w' := by
  have hf0 : Fr noB w (w.alloc (.cells #[.int .i64 att, .int .i64 me] 50)) := (Fr.refl _ _).alloc _
  have hb0 := obj_alloc_new w (.cells #[.int .i64 att, .int .i64 me] 50)
  have x1 := Ext.cell (cell_of_obj hb0 1)
  simp at x1
  have hT0 := h.frN hf0
  by_cases hm : me = 0
  · have HR := Lib.hid (show ownOf T me id = false by simp [ownOf, hm])
    subst hm
    go_enter Try.func37, Try.ntmps37
    go_upto_region 1 with fail
    refine wp_region_ext (by kernel_rfl) (by kernel_rfl) ?_
    repeat (go_big_quiet_step (fail))
    refine wpQuiet_nil ?_
    rintro w3 ⟨⟨_, hf3⟩, rfl⟩
    go_wp2_with fail
    go_ret
    exact ⟨by rw [HR.out] <;> rfl, hf0.trans hf3⟩
  · have hmn : (me != 0) = true := by simpa using hm
    by_cases hc : countsOf T id = true
    · have HR := Lib.hid (show ownOf T me id = ((topOf T id : Int) == me) by simp [ownOf, hm, hc])
      have HC := Lib.hid hc
      clear hc hm
      go_enter Try.func37, Try.ntmps37
      go_upto_region 1 with fail
      refine wp_region_ext (by kernel_rfl) (by kernel_rfl) ?_
      repeat (go_big_quiet_step (first | (go_at_call 28; exact Ext.calls (counts_t (hT0.frN (Ext.fr _)) true h1 HC.out)) | (go_at_call 26; exact Ext.calls (top_t (hT0.frN (Ext.fr _)) _ h1 rfl))))
      refine wpQuiet_nil ?_
      rintro w3 ⟨⟨_, hf3⟩, rfl⟩
      go_wp2_with fail
      go_ret
      exact ⟨by rw [HR.out] <;> rfl, hf0.trans hf3⟩
    · have hc' : countsOf T id = false := by simpa using hc
      have HR := Lib.hid (show ownOf T me id = false by simp [ownOf, hc'])
      have HC := Lib.hid hc'
      clear hc hc' hm
      go_enter Try.func37, Try.ntmps37
      go_upto_region 1 with fail
      refine wp_region_ext (by kernel_rfl) (by kernel_rfl) ?_
      repeat (go_big_quiet_step (first | (go_at_call 28; exact Ext.calls (counts_t (hT0.frN (Ext.fr _)) false h1 HC.out))))
      refine wpQuiet_nil ?_
      rintro w3 ⟨⟨_, hf3⟩, rfl⟩
      go_wp2_with fail
      go_ret
      exact ⟨by rw [HR.out] <;> rfl, hf0.trans hf3⟩

set_option maxHeartbeats 2000000 in
theorem old_t {w : World} {pv : Value} {T : List One} {last : Nat} {id : Int} (att me : Int) (h : Tells w pv T last) (h1 : T.length ≤ 1000000) :
    Calls Try.prog 56 #[.agg #[.int .i64 att, .int .i64 me], pv, .int .i64 id] w fun e w' => e = .returned (.bool (oldOf T att id)) ∧ Fr noB w w' := by
  have hf0 : Fr noB w (w.alloc (.cells #[.int .i64 att, .int .i64 me] 50)) := (Fr.refl _ _).alloc _
  have hb0 := obj_alloc_new w (.cells #[.int .i64 att, .int .i64 me] 50)
  have hd := done_t (id := id) (h.frN hf0) h1
  have HR := Lib.hid (show oldOf T att id = (decide (0 < (doneOf T id : Int)) && decide ((doneOf T id : Int) ≤ att)) from rfl)
  generalize doneOf T id = n at *
  go_enter Try.func56, Try.ntmps56
  go_wp2_with fail
  refine hd.mono ?_
  rintro e w1 ⟨rfl, hf1⟩
  have hb1 := hf1.obj (fun x => x) hb0
  have hc0 := cell_of_obj hb1 0
  simp at hc0
  clear hd
  by_cases hn : n = 0
  · subst hn
    go_wp2_with fail
    go_ret
    exact ⟨by rw [HR.out] <;> rfl, hf0.trans hf1⟩
  · have hn1 : decide ((0 : Int) < (n : Int)) = true := by simp; omega
    rw [hn1, Bool.true_and] at HR
    have hnp : 0 < n := by omega
    clear hn hn1
    go_wp2_with fail
    go_ret
    exact ⟨by rw [HR.out] <;> rfl, hf0.trans hf1⟩

set_option maxHeartbeats 2000000 in
theorem either_t {w : World} {pv : Value} {T : List One} {last : Nat} {id : Int} (att me : Int) (g c : Nat) (ty : TypeId) (h : Tells w pv T last) (h1 : T.length ≤ 1000000)
    (hg : w.heap[g]? = some (.cells #[.func (.func 37) #[.agg #[.int .i64 att, .int .i64 me]] #[], .func (.func 56) #[.agg #[.int .i64 att, .int .i64 me]] #[]] ty (0, 0))) :
    Calls Try.prog 55 #[pv, .int .i64 id, .slice (some ⟨g, 0, none⟩) 2 c] w fun e w' => e = .returned (.bool (seesOf T att me id)) ∧ Fr noB w w' := by
  have HR := Lib.hid (show seesOf T att me id = (ownOf T me id || oldOf T att id) from rfl)
  go_enter Try.func55, Try.ntmps55
  go_wp2_with fail
  go_loopg [11] 2 (fun gh iv wr => ∃ i : Nat, i ≤ 2 ∧ gh = 2 - i ∧ iv = .int .i64 i ∧ Fr noB w wr ∧ (0 < i → ownOf T me id = false) ∧ (1 < i → oldOf T att id = false))
  case atStart => exact ⟨0, by omega, by omega, rfl, Fr.refl _ _, fun h => by omega, fun h => by omega⟩
  case round =>
    obtain ⟨i, hi, rfl, rfl, hf, ho1, ho2⟩ := hrel
    have hg' := hf.obj (fun x => x) hg
    have c0 := cell_of_obj hg' 0
    have c1 := cell_of_obj hg' 1
    simp at c0 c1
    have hi' : i = 0 ∨ i = 1 ∨ i = 2 := by omega
    clear hi hg'
    rcases hi' with rfl | rfl | rfl
    · have hc := own_t (id := id) att me (h.frN hf) h1
      clear ho1 ho2
      cases hb : ownOf T me id
      · rw [hb] at hc HR
        have HB := Lib.hid hb
        clear hb
        go_wp2_with fail
        refine hc.mono ?_
        rintro e w2 ⟨rfl, hf2⟩
        go_wp2_with fail
        go_roundg 1
        case measure => omega
        case rel => exact ⟨1, by omega, rfl, by go_num, hf.trans hf2, fun _ => HB.out, fun h => by omega⟩
      · rw [hb] at hc HR
        clear hb
        go_wp2_with fail
        refine hc.mono ?_
        rintro e w2 ⟨rfl, hf2⟩
        go_wp2_with fail
        go_ret
        exact ⟨by rw [HR.out] <;> rfl, hf.trans hf2⟩
    · have hc := old_t (id := id) att me (h.frN hf) h1
      have HO := Lib.hid (ho1 (by omega))
      clear ho1 ho2
      cases hb : oldOf T att id
      · rw [hb] at hc HR
        have HB := Lib.hid hb
        clear hb
        go_wp2_with fail
        refine hc.mono ?_
        rintro e w2 ⟨rfl, hf2⟩
        go_wp2_with fail
        go_roundg 0
        case measure => omega
        case rel => exact ⟨2, by omega, rfl, by go_num, hf.trans hf2, fun _ => HO.out, fun _ => HB.out⟩
      · rw [hb] at hc HR
        clear hb
        go_wp2_with fail
        refine hc.mono ?_
        rintro e w2 ⟨rfl, hf2⟩
        go_wp2_with fail
        go_ret
        exact ⟨by rw [HR.out, HO.out] <;> rfl, hf.trans hf2⟩
    · have H1 := Lib.hid (ho1 (by omega))
      have H2 := Lib.hid (ho2 (by omega))
      clear ho1 ho2
      go_wp2_with fail
      go_ret
      exact ⟨by rw [HR.out, H1.out, H2.out] <;> rfl, hf⟩

set_option maxHeartbeats 2000000 in
theorem sees_t {w : World} {pv : Value} {T : List One} {last : Nat} {id : Int} (att me : Int) (h : Tells w pv T last) (h1 : T.length ≤ 1000000) :
    Calls Try.prog 38 #[.agg #[.int .i64 att, .int .i64 me], pv, .int .i64 id] w fun e w' => e = .returned (.bool (seesOf T att me id)) ∧ Fr noB w w' := by
  go_enter Try.func38, Try.ntmps38
  have hf0 : Fr noB w (w.alloc (.cells #[.int .i64 att, .int .i64 me] 50)) := (Fr.refl _ _).alloc _
  go_wp2_with fail
  refine (either_t att me (w.heap.size + 1) 2 _ (h.frN (hf0.alloc _)) h1 (by have := obj_alloc_new (w.alloc (.cells #[.int .i64 att, .int .i64 me] 50)); rw [World.size_alloc] at this; exact this _)).mono ?_
  rintro e w2 ⟨rfl, hf2⟩
  go_wp2_with fail
  go_ret
  exact ⟨rfl, (hf0.alloc _).trans hf2⟩

set_option maxHeartbeats 2000000 in
theorem later_t {w : World} {pv : Value} {T : List One} {last : Nat} {id : Int} (att me : Int) (h : Tells w pv T last) (h1 : T.length ≤ 1000000) :
    Calls Try.prog 39 #[.agg #[.int .i64 att, .int .i64 me], pv, .int .i64 id] w fun e w' => e = .returned (.bool (laterOf T att me id)) ∧ Fr noB w w' := by
  have hf0 : Fr noB w (w.alloc (.cells #[.int .i64 att, .int .i64 me] 50)) := (Fr.refl _ _).alloc _
  have hb0 := obj_alloc_new w (.cells #[.int .i64 att, .int .i64 me] 50)
  have hd := done_t (id := id) (h.frN hf0) h1
  have HR := Lib.hid (show laterOf T att me id = (decide (0 < (doneOf T id : Int)) && !seesOf T att me id) from rfl)
  generalize doneOf T id = n at *
  go_enter Try.func39, Try.ntmps39
  go_wp2_with fail
  refine hd.mono ?_
  rintro e w1 ⟨rfl, hf1⟩
  have hb1 := hf1.obj (fun x => x) hb0
  have hc0 := cell_of_obj hb1 0
  have hc1 := cell_of_obj hb1 1
  simp at hc0 hc1
  clear hd
  have hs := sees_t (id := id) att me (h.frN (hf0.trans hf1)) h1
  generalize seesOf T att me id = s at *
  by_cases hn : n = 0
  · subst hn
    go_wp2_with fail
    go_ret
    exact ⟨by rw [HR.out] <;> rfl, hf0.trans hf1⟩
  · have hn1 : decide ((0 : Int) < (n : Int)) = true := by simp; omega
    rw [hn1] at HR
    have hnp : 0 < n := by omega
    clear hn hn1
    go_wp2_with fail
    refine hs.mono ?_
    rintro e w2 ⟨rfl, hf2⟩
    go_wp2_with fail
    go_ret
    exact ⟨by rw [HR.out] <;> rfl, (hf0.trans hf1).trans hf2⟩

end Go.Proofs.Ytfgkocpmgoaljaa
