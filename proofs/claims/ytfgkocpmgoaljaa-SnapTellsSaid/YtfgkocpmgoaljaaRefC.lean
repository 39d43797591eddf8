/- The walks of the document's Commit and Abort. The conditions: the table lies in memory as its data say, and has come of steps. -/
import Derived.Test.YtfgkocpmgoaljaaRefE
import Derived.Test.YtfgkocpmgoaljaaXidP
namespace Go.Proofs.Ytfgkocpmgoaljaa
open Go.RowKit Go.Shelf Xid

set_option maxRecDepth 100000 in
set_option maxHeartbeats 4000000 in
theorem abortr_ok {w : World} {p : Nat} {R : Option Nat} {T : List One} {last : Nat} {m : Nat} (hT : IsR w p R T last) (hI : Inv T last) (hlen : T.length ≤ 1000000) (_ : last ≤ 1000000) (he : endE T ((m : Int) + 1) = 0) (hm : m < T.length) (hs : (gt T m).state = 1) :
    Calls Try.prog 20 #[.pointer (some ⟨p, 0, none⟩), .int .i64 ((m : Int) + 1)] w fun e w' => e = .returned (.int .i64 0) ∧
      ∃ g', IsR w' p (some g') (endP T (m + 1) 2 3 T.length) (last) ∧ Fr (fun k => k = p ∨ w.heap.size ≤ k) w w' ∧ w.heap.size ≤ g' := by
  obtain ⟨i0, hi, hz0, hz1, hz2⟩ := info_parts infoOneR
  obtain ⟨v, hv, hown, _⟩ := hT.row
  obtain ⟨r, cap, hR0, hne, hc0, hc1, hc2, hc3, _⟩ := hT.ones hm
  obtain rfl : v = .slice (some ⟨r, 0, none⟩) T.length cap := by rw [cell_of_obj hv] at hc0; simpa using hc0
  have hd : inB T.length ((m : Int) + 1) = true := inB_yes (by omega)
  rw [hs] at hc2
  have hn0 : 0 < T.length := by omega
  have hca := cell_of_obj (obj_alloc hv (.cells #[] 70)) 0
  simp at hca
  have hcell : ∀ j u, (rowC T)[j]? = some u → (w.alloc (.cells #[] 70)).cell? ((⟨r, 0, none⟩ : Addr).add j) = some u := by
    intro j u hj
    rw [addr_add]
    exact row_cell (((Fr.refl noB w).alloc _).row hown) hj
  have hrow0 : (w.alloc (.cells #[] 70)).ownsRow w.heap.size 70 3 (.slice (some ⟨w.heap.size, 0, none⟩) 0 0) 0 [] :=
    ⟨rfl, .inr ⟨w.heap.size, 0, #[], rfl, Nat.le_refl _, obj_alloc_new _ _, Nat.le_refl _, by unfold maxLen; omega, rfl, rfl⟩⟩
  have hsz : w.heap.size ≤ (w.alloc (.cells #[] 70)).heap.size := by simp
  have HV := Lib.hid hv; have HTT := Lib.hid hT
  have HE := Lib.hid he; have HE1 := Lib.hid (show ((m : Int) + 1).toNat = m + 1 by omega)
  have HEND := Lib.hid (refP_end hI (frm := 2) (tst := 3) (c := (fun _ => true)) hs (fun x h => .inr ⟨rfl, rfl, rfl⟩) (by omega) (fun x h => rfl))
  clear hT hR0 hv hown hc1 hc3 hs hI he
  go_enter Try.func20, Try.ntmps20
  go_upto_region 6 with (first | (go_at_call 49; refine (is_r p _ _ _ _ _ hc0).mono ?_; rintro e w' ⟨rfl, rfl⟩; rw [hd]) | (at_builtin; go_must (refine wpList_append_row _ rfl _ _ 35 rfl w.heap.size 70 i0 (.agg #[.int .i64 0, .int .u8 0, .int .i64 0]) 3 24 Try.underlying35 hi hz0 hz1 hz2 rfl (by decide) (.slice (some ⟨w.heap.size, 0, none⟩) 0 0) 0 [] rfl hrow0 ⟨r, 0, none⟩ T.length cap (rowC T) rfl (rowC_length T) hcell (one_cells T) (by unfold maxLen; omega) (by omega) hsz hn0 ?_; intro g1 c1 w1 ho hg hf; rw [Nat.zero_add] at ho; rw [List.nil_append] at ho; (try simp only [Nat.zero_add]); obtain ⟨hF, hg1⟩ := own_copy hg hf; clear hg hf; have hv1 := hF.obj (fun x => x) HV.out; have hz1' := frozen_of_obj hv1; have hc1' := cell_of_obj hv1 0; simp at hc1')))
  obtain ⟨hTs, hfs, _⟩ := IsR.stored HTT.out hF (T' := T) ho HTT.out.wf
  generalize w1.setCell ⟨p, 0, none⟩ (.slice (some ⟨g1, 0, none⟩) T.length c1) = w2 at *
  have hfs2 : Fr (fun k => k = p ∨ w.heap.size ≤ k) w w2 := hfs.mono (fun k _ e => .inl e)
  have hT0 : IsR w2 p (some g1) (refP T m (fun _ => true) 3 0) last := by rw [refP_zero]; exact hTs
  clear hfs hTs hc0 hc2 hca hcell hrow0 hsz hd hv1 hz1' hc1' ho hF
  go_wp2_with fail
  go_loopg [5] T.length (fun gh iv wr => ∃ j : Nat, j ≤ T.length ∧ gh = T.length - j ∧ iv = .int .i64 ((j : Int) + 1) ∧ IsR wr p (some g1) (refP T m (fun _ => true) 3 j) last ∧ Fr (fun k => k = p ∨ w.heap.size ≤ k) w wr)
  case atStart => exact ⟨0, by omega, by omega, rfl, hT0, hfs2⟩
  case round =>
    clear hT0 hfs2
    obtain ⟨j, hj, rfl, rfl, hT2, hfr⟩ := hrel
    have hlj := refP_length T m (fun _ => true) 3 j
    by_cases hjl0 : j < T.length
    · have HSETQ := Lib.hid (fun h => refP_set (T := T) (m := m) (c := (fun _ => true)) (tst := 3) hjl0 h)
      have HSAMEQ := Lib.hid (fun h => refP_same (T := T) (m := m) (c := (fun _ => true)) (tst := 3) (j := j) h)
      have HBQ := Lib.hid (refP_below T m (fun _ => true) 3 j (j + 1) (m + 1))
      have HAT := Lib.hid (congrArg One.state (refP_at (T := T) (m := m) (c := (fun _ => true)) (tst := 3) hjl0))
      generalize hTj' : refP T m (fun _ => true) 3 j = Tj at *
      have hTj := hT2
      have hjl : j < Tj.length := by omega
      obtain ⟨r1, cap1, hR1, hne1, hc0, hc1, hc2, hc3, hfz⟩ := hTj.ones hjl
      obtain rfl : g1 = r1 := by simpa using hR1
      rw [hlj] at hc0
      clear hR1 hTj' hT2
      have hj0 : (0 : Int) ≤ (j : Int) := by omega
      by_cases hjm : j = m
      · have HSET := Lib.hid (HSETQ.out ⟨.inl hjm, rfl⟩)
        subst hjm
        go_wp2_with fail
        go_roundg (T.length - (j + 1))
        case measure => omega
        case rel =>
          refine ⟨j + 1, by omega, rfl, by go_num, ?_, hfr.setCell (p := ⟨g1, j * 3 + 1, none⟩) (fun _ => .inr hg1) _⟩
          rw [HSET.out]
          exact hTj.setOne hjl { gt Tj j with state := 3 } rfl (by dsimp only; decide) 1 (by omega) _ rfl
      · have hb : ((j : Int) + 1 == (m : Int) + 1) = false := by rw [beq_eq_false_iff_ne]; omega
        cases hbl : belowB T (j + 1) (m + 1)
        · have HSAME := Lib.hid (HSAMEQ.out (fun h => by rcases h.1 with h1 | h1; exact hjm h1; rw [hbl] at h1; cases h1))
          have HB := Lib.hid (HBQ.out.trans hbl)
          clear hbl hjm
          go_wp2_with fail
          refine (below_rm p _ Tj last j m wr hTj (by omega) hjl _ HB.out).mono ?_
          rintro e w' ⟨rfl, rfl⟩
          go_wp2_with fail
          go_roundg (T.length - (j + 1))
          case measure => omega
          case rel => exact ⟨j + 1, by omega, rfl, by go_num, by rw [HSAME.out]; exact hTj, hfr⟩
        · have HSET := Lib.hid (HSETQ.out ⟨.inr hbl, rfl⟩)
          have HB := Lib.hid (HBQ.out.trans hbl)
          clear hbl hjm
          go_wp2_with fail
          refine (below_rm p _ Tj last j m wr hTj (by omega) hjl _ HB.out).mono ?_
          rintro e w' ⟨rfl, rfl⟩
          go_wp2_with fail
          go_roundg (T.length - (j + 1))
          case measure => omega
          case rel =>
            refine ⟨j + 1, by omega, rfl, by go_num, ?_, hfr.setCell (p := ⟨g1, j * 3 + 1, none⟩) (fun _ => .inr hg1) _⟩
            rw [HSET.out]
            exact hTj.setOne hjl { gt Tj j with state := 3 } rfl (by dsimp only; decide) 1 (by omega) _ rfl
    · obtain rfl : j = T.length := by omega
      obtain ⟨a2, cap2, hd0, _⟩ := hT2.head
      rw [hlj] at hd0
      rw [HEND.out] at hT2
      clear hlj
      go_wp2_with fail
      go_ret
      exact ⟨rfl, g1, hT2, hfr, hg1⟩

set_option maxRecDepth 100000 in
set_option maxHeartbeats 4000000 in
theorem commitr_ok {w : World} {p : Nat} {R : Option Nat} {T : List One} {last : Nat} {m : Nat} (hT : IsR w p R T last) (hI : Inv T last) (hlen : T.length ≤ 1000000) (hla : last ≤ 1000000) (he : endE T ((m : Int) + 1) = 0) (hm : m < T.length) (hs : (gt T m).state = 1) :
    Calls Try.prog 19 #[.pointer (some ⟨p, 0, none⟩), .int .i64 ((m : Int) + 1)] w fun e w' => e = .returned (.int .i64 0) ∧
      ∃ g', IsR w' p (some g') (commitT T last ((m : Int) + 1)) (commitL T last ((m : Int) + 1)) ∧ Fr (fun k => k = p ∨ w.heap.size ≤ k) w w' ∧ w.heap.size ≤ g' := by
  obtain ⟨i0, hi, hz0, hz1, hz2⟩ := info_parts infoOneR
  obtain ⟨v, hv, hown, _⟩ := hT.row
  obtain ⟨r, cap, hR0, hne, hc0, hc1, hc2, hc3, _⟩ := hT.ones hm
  obtain rfl : v = .slice (some ⟨r, 0, none⟩) T.length cap := by rw [cell_of_obj hv] at hc0; simpa using hc0
  have hd : inB T.length ((m : Int) + 1) = true := inB_yes (by omega)
  rw [hs] at hc2
  have hn0 : 0 < T.length := by omega
  have hca := cell_of_obj (obj_alloc hv (.cells #[] 70)) 0
  simp at hca
  have hcell : ∀ j u, (rowC T)[j]? = some u → (w.alloc (.cells #[] 70)).cell? ((⟨r, 0, none⟩ : Addr).add j) = some u := by
    intro j u hj
    rw [addr_add]
    exact row_cell (((Fr.refl noB w).alloc _).row hown) hj
  have hrow0 : (w.alloc (.cells #[] 70)).ownsRow w.heap.size 70 3 (.slice (some ⟨w.heap.size, 0, none⟩) 0 0) 0 [] :=
    ⟨rfl, .inr ⟨w.heap.size, 0, #[], rfl, Nat.le_refl _, obj_alloc_new _ _, Nat.le_refl _, by unfold maxLen; omega, rfl, rfl⟩⟩
  have hsz : w.heap.size ≤ (w.alloc (.cells #[] 70)).heap.size := by simp
  have HV := Lib.hid hv; have HTT := Lib.hid hT
  have HE := Lib.hid he; have HE1 := Lib.hid (show ((m : Int) + 1).toNat = m + 1 by omega)
  have HEND := Lib.hid (refP_end hI (frm := 1) (tst := 2) (c := (fun x => x.state == 1)) hs (fun x h => .inl (by simp; omega)) (by omega) (fun x h => by simpa using h))
  clear hT hR0 hv hown hc1 hc3 hs hI he
  go_enter Try.func19, Try.ntmps19
  go_upto_region 6 with (first | (go_at_call 49; refine (is_r p _ _ _ _ _ hc0).mono ?_; rintro e w' ⟨rfl, rfl⟩; rw [hd]) | (at_builtin; go_must (refine wpList_append_row _ rfl _ _ 35 rfl w.heap.size 70 i0 (.agg #[.int .i64 0, .int .u8 0, .int .i64 0]) 3 24 Try.underlying35 hi hz0 hz1 hz2 rfl (by decide) (.slice (some ⟨w.heap.size, 0, none⟩) 0 0) 0 [] rfl hrow0 ⟨r, 0, none⟩ T.length cap (rowC T) rfl (rowC_length T) hcell (one_cells T) (by unfold maxLen; omega) (by omega) hsz hn0 ?_; intro g1 c1 w1 ho hg hf; rw [Nat.zero_add] at ho; rw [List.nil_append] at ho; (try simp only [Nat.zero_add]); obtain ⟨hF, hg1⟩ := own_copy hg hf; clear hg hf; have hv1 := hF.obj (fun x => x) HV.out; have hz1' := frozen_of_obj hv1; have hc1' := cell_of_obj hv1 0; simp at hc1')))
  obtain ⟨hTs, hfs, _⟩ := IsR.stored HTT.out hF (T' := T) ho HTT.out.wf
  generalize w1.setCell ⟨p, 0, none⟩ (.slice (some ⟨g1, 0, none⟩) T.length c1) = w2 at *
  have hfs2 : Fr (fun k => k = p ∨ w.heap.size ≤ k) w w2 := hfs.mono (fun k _ e => .inl e)
  have hT0 : IsR w2 p (some g1) (refP T m (fun x => x.state == 1) 2 0) last := by rw [refP_zero]; exact hTs
  clear hfs hTs hc0 hc2 hca hcell hrow0 hsz hd hv1 hz1' hc1' ho hF
  go_wp2_with fail
  go_loopg [5] T.length (fun gh iv wr => ∃ j : Nat, j ≤ T.length ∧ gh = T.length - j ∧ iv = .int .i64 ((j : Int) + 1) ∧ IsR wr p (some g1) (refP T m (fun x => x.state == 1) 2 j) last ∧ Fr (fun k => k = p ∨ w.heap.size ≤ k) w wr)
  case atStart => exact ⟨0, by omega, by omega, rfl, hT0, hfs2⟩
  case round =>
    clear hT0 hfs2
    obtain ⟨j, hj, rfl, rfl, hT2, hfr⟩ := hrel
    have hlj := refP_length T m (fun x => x.state == 1) 2 j
    by_cases hjl0 : j < T.length
    · have HSETQ := Lib.hid (fun h => refP_set (T := T) (m := m) (c := (fun x => x.state == 1)) (tst := 2) hjl0 h)
      have HSAMEQ := Lib.hid (fun h => refP_same (T := T) (m := m) (c := (fun x => x.state == 1)) (tst := 2) (j := j) h)
      have HBQ := Lib.hid (refP_below T m (fun x => x.state == 1) 2 j (j + 1) (m + 1))
      have HAT := Lib.hid (congrArg One.state (refP_at (T := T) (m := m) (c := (fun x => x.state == 1)) (tst := 2) hjl0))
      generalize hTj' : refP T m (fun x => x.state == 1) 2 j = Tj at *
      have hTj := hT2
      have hjl : j < Tj.length := by omega
      obtain ⟨r1, cap1, hR1, hne1, hc0, hc1, hc2, hc3, hfz⟩ := hTj.ones hjl
      obtain rfl : g1 = r1 := by simpa using hR1
      rw [hlj] at hc0
      clear hR1 hTj' hT2
      have hj0 : (0 : Int) ≤ (j : Int) := by omega
      by_cases hs1 : (gt T j).state = 1
      · have hst : (gt Tj j).state = 1 := by rw [HAT.out]; exact hs1
        rw [hst] at hc2
        by_cases hjm : j = m
        · have HSET := Lib.hid (HSETQ.out ⟨.inl hjm, by simpa using hs1⟩)
          subst hjm
          go_wp2_with fail
          go_roundg (T.length - (j + 1))
          case measure => omega
          case rel =>
            refine ⟨j + 1, by omega, rfl, by go_num, ?_, hfr.setCell (p := ⟨g1, j * 3 + 1, none⟩) (fun _ => .inr hg1) _⟩
            rw [HSET.out]
            exact hTj.setOne hjl { gt Tj j with state := 2 } rfl (by dsimp only; decide) 1 (by omega) _ rfl
        · have hb : ((j : Int) + 1 == (m : Int) + 1) = false := by rw [beq_eq_false_iff_ne]; omega
          cases hbl : belowB T (j + 1) (m + 1)
          · have HSAME := Lib.hid (HSAMEQ.out (fun h => by rcases h.1 with h1 | h1; exact hjm h1; rw [hbl] at h1; cases h1))
            have HB := Lib.hid (HBQ.out.trans hbl)
            clear hbl hjm
            go_wp2_with fail
            refine (below_rm p _ Tj last j m wr hTj (by omega) hjl _ HB.out).mono ?_
            rintro e w' ⟨rfl, rfl⟩
            go_wp2_with fail
            go_roundg (T.length - (j + 1))
            case measure => omega
            case rel => exact ⟨j + 1, by omega, rfl, by go_num, by rw [HSAME.out]; exact hTj, hfr⟩
          · have HSET := Lib.hid (HSETQ.out ⟨.inr hbl, by simpa using hs1⟩)
            have HB := Lib.hid (HBQ.out.trans hbl)
            clear hbl hjm
            go_wp2_with fail
            refine (below_rm p _ Tj last j m wr hTj (by omega) hjl _ HB.out).mono ?_
            rintro e w' ⟨rfl, rfl⟩
            go_wp2_with fail
            go_roundg (T.length - (j + 1))
            case measure => omega
            case rel =>
              refine ⟨j + 1, by omega, rfl, by go_num, ?_, hfr.setCell (p := ⟨g1, j * 3 + 1, none⟩) (fun _ => .inr hg1) _⟩
              rw [HSET.out]
              exact hTj.setOne hjl { gt Tj j with state := 2 } rfl (by dsimp only; decide) 1 (by omega) _ rfl
      · have hst : (((gt Tj j).state : Int) == 1) = false := by rw [HAT.out, beq_eq_false_iff_ne]; omega
        have HSAME := Lib.hid (HSAMEQ.out (fun h => hs1 (by simpa using h.2)))
        by_cases hjm : j = m
        · subst hjm
          go_wp2_with fail
          go_roundg (T.length - (j + 1))
          case measure => omega
          case rel => exact ⟨j + 1, by omega, rfl, by go_num, by rw [HSAME.out]; exact hTj, hfr⟩
        · have hb : ((j : Int) + 1 == (m : Int) + 1) = false := by rw [beq_eq_false_iff_ne]; omega
          cases hbl : belowB T (j + 1) (m + 1)
          all_goals
            have HB := Lib.hid (HBQ.out.trans hbl)
            clear hbl
            go_wp2_with fail
            refine (below_rm p _ Tj last j m wr hTj (by omega) hjl _ HB.out).mono ?_
            rintro e w' ⟨rfl, rfl⟩
            go_wp2_with fail
            go_roundg (T.length - (j + 1))
            case measure => omega
            case rel => exact ⟨j + 1, by omega, rfl, by go_num, by rw [HSAME.out]; exact hTj, hfr⟩
    · obtain rfl : j = T.length := by omega
      rw [HEND.out] at hT2
      have hl1 : (endP T (m + 1) 1 2 T.length).length = T.length := endP_length ..
      have hp1 : (gt (endP T (m + 1) 1 2 T.length) m).parent = (gt T m).parent := endP_par ..
      have HCT := Lib.hid (show commitT T last ((m : Int) + 1) = if (gt T m).parent = 0 then (endP T (m + 1) 1 2 T.length).set m { gt (endP T (m + 1) 1 2 T.length) m with number := last + 1 } else endP T (m + 1) 1 2 T.length by
        unfold commitT; rw [if_pos HE.out, HE1.out]
        have e2 : endT T ((m : Int) + 1) 1 2 = endP T (m + 1) 1 2 T.length := by unfold endT; rw [if_pos HE.out, HE1.out]
        rw [e2]; rfl)
      have HCL := Lib.hid (show commitL T last ((m : Int) + 1) = if (gt T m).parent = 0 then last + 1 else last by
        unfold commitL; rw [HE1.out]
        by_cases hp : (gt T m).parent = 0
        · rw [if_pos hp, if_pos ⟨HE.out, hp⟩]
        · rw [if_neg hp, if_neg (fun h => hp h.2)])
      generalize endP T (m + 1) 1 2 T.length = T1 at *
      have hm1 : m < T1.length := by omega
      obtain ⟨r1, cap1, hR1, hne1, hd0, hd1, hd2, hd3, hfz1⟩ := hT2.ones hm1
      obtain rfl : g1 = r1 := by simpa using hR1
      rw [hl1] at hd0
      rw [hp1] at hd1
      obtain ⟨_, _, _, hdl⟩ := hT2.head
      have hpz : ∀ o, wr.frozen? ⟨p, o, none⟩ = false := by
        obtain ⟨v', hv', _, _⟩ := hT2.row
        exact frozen_of_obj hv'
      have hm0 : (0 : Int) ≤ (m : Int) := by omega
      have hmi : (m : Int) < (T.length : Int) := by omega
      have HL0 := Lib.hid hl1
      clear hp1 hR1 hd2 hd3
      by_cases hp : (gt T m).parent = 0
      · have HP := Lib.hid hp
        rw [hp] at hd1
        clear hp
        go_wp2_with fail
        have h5 := hT2.setLast (last + 1)
        have h6 := h5.setOne hm1 { gt T1 m with number := last + 1 } rfl (hT2.wf.st m hm1) 2 (by omega) (.int .i64 (last + 1 : Nat)) rfl
        have e5 : ((last + 1 : Nat) : Int) = ((last : Int) + 1) := by omega
        rw [e5] at h5 h6
        have hfw := hfr.setCell (p := ⟨p, 1, none⟩) (fun _ => .inl rfl) (.int .i64 ((last : Int) + 1))
        clear hd0 hd1 hdl hpz hfz1
        generalize wr.setCell ⟨p, 1, none⟩ (.int .i64 ((last : Int) + 1)) = W at *
        obtain ⟨r2, cap2, hR2, hne2, hd0, hd1, hd2, hd3, hfz2⟩ := h5.ones hm1
        obtain rfl : g1 = r2 := by simpa using hR2
        obtain ⟨_, _, _, hdl⟩ := h5.head
        have HL1 := Lib.hid (show T1.length = T.length by omega)
        rw [HL1.out] at hd0
        rw [e5] at hdl
        have H6 := Lib.hid h6
        clear hT2 hR2 hd1 hd2 h5 h6
        go_region
        go_wp2_with fail
        go_ret
        refine ⟨rfl, g1, ?_, (hfw.setCell (p := ⟨g1, m * 3 + 2, none⟩) (fun _ => .inr hg1) _).drew, hg1⟩
        rw [HCT.out, HCL.out, if_pos HP.out, if_pos HP.out]
        exact H6.out.frN ((Fr.refl _ _).drew)
      · have hb : (((gt T m).parent : Int) == 0) = false := by rw [beq_eq_false_iff_ne]; omega
        have HP := Lib.hid hp
        clear hp hl1
        go_wp2_with fail
        go_ret
        refine ⟨rfl, g1, ?_, hfr, hg1⟩
        rw [HCT.out, HCL.out, if_neg HP.out, if_neg HP.out]
        exact hT2

set_option maxHeartbeats 1000000 in
theorem abortr_no {w : World} {p : Nat} {R : Option Nat} {T : List One} {last : Nat} {id : Int} (hT : IsR w p R T last) (hlen : T.length ≤ 1000000) (he : endE T id ≠ 0) :
    Calls Try.prog 20 #[.pointer (some ⟨p, 0, none⟩), .int .i64 id] w fun e w' => e = .returned (.int .i64 (endE T id)) ∧ w = w' := by
  obtain ⟨a0, cap0, hh0, _⟩ := hT.head
  by_cases hr : inR T id = true
  · have hr' : 1 ≤ id ∧ id ≤ T.length := by simpa [inR, inB] using hr
    obtain ⟨k, rfl⟩ : ∃ k : Nat, id = (k : Int) + 1 := ⟨(id - 1).toNat, by omega⟩
    have hk : k < T.length := by omega
    have e1 : ((k : Int) + 1).toNat = k + 1 := by omega
    have hs : (gt T k).state ≠ 1 := by
      intro hs; apply he; unfold endE; rw [e1, hr, if_neg (by simp), if_neg (by simp [st, hs])]
    have hE : endE T ((k : Int) + 1) = 7 := by
      unfold endE; rw [e1, hr, if_neg (by simp), if_pos (by simpa [st] using hs)]
    rw [hE]
    obtain ⟨r, cap, hR0, hne, hc0, hc1, hc2, hc3, _⟩ := hT.ones hk
    have hd : inB T.length ((k : Int) + 1) = true := inB_yes (by omega)
    have hb : (((gt T k).state : Int) != 1) = true := by rw [bne_iff_ne]; omega
    clear he hs hE hr hr' e1 hR0 hh0
    go_enter Try.func20, Try.ntmps20
    go_wp2_with (go_at_call 49; refine (is_r p _ _ _ _ _ hc0).mono ?_; rintro e w' ⟨rfl, rfl⟩; rw [hd])
    go_ret
    exact ⟨rfl, rfl⟩
  · have hr2 : inR T id = false := by simpa using hr
    have hE : endE T id = 5 := by unfold endE; rw [hr2, if_pos rfl]
    rw [hE]
    have hd : inB T.length id = false := hr2
    clear he hE hr hr2
    go_enter Try.func20, Try.ntmps20
    go_wp2_with (go_at_call 49; refine (is_r p _ _ _ _ _ hh0).mono ?_; rintro e w' ⟨rfl, rfl⟩; rw [hd])
    go_ret
    exact ⟨rfl, rfl⟩

set_option maxHeartbeats 1000000 in
theorem commitr_no {w : World} {p : Nat} {R : Option Nat} {T : List One} {last : Nat} {id : Int} (hT : IsR w p R T last) (hlen : T.length ≤ 1000000) (he : endE T id ≠ 0) :
    Calls Try.prog 19 #[.pointer (some ⟨p, 0, none⟩), .int .i64 id] w fun e w' => e = .returned (.int .i64 (endE T id)) ∧ w = w' := by
  obtain ⟨a0, cap0, hh0, _⟩ := hT.head
  by_cases hr : inR T id = true
  · have hr' : 1 ≤ id ∧ id ≤ T.length := by simpa [inR, inB] using hr
    obtain ⟨k, rfl⟩ : ∃ k : Nat, id = (k : Int) + 1 := ⟨(id - 1).toNat, by omega⟩
    have hk : k < T.length := by omega
    have e1 : ((k : Int) + 1).toNat = k + 1 := by omega
    have hs : (gt T k).state ≠ 1 := by
      intro hs; apply he; unfold endE; rw [e1, hr, if_neg (by simp), if_neg (by simp [st, hs])]
    have hE : endE T ((k : Int) + 1) = 7 := by
      unfold endE; rw [e1, hr, if_neg (by simp), if_pos (by simpa [st] using hs)]
    rw [hE]
    obtain ⟨r, cap, hR0, hne, hc0, hc1, hc2, hc3, _⟩ := hT.ones hk
    have hd : inB T.length ((k : Int) + 1) = true := inB_yes (by omega)
    have hb : (((gt T k).state : Int) != 1) = true := by rw [bne_iff_ne]; omega
    clear he hs hE hr hr' e1 hR0 hh0
    go_enter Try.func19, Try.ntmps19
    go_wp2_with (go_at_call 49; refine (is_r p _ _ _ _ _ hc0).mono ?_; rintro e w' ⟨rfl, rfl⟩; rw [hd])
    go_ret
    exact ⟨rfl, rfl⟩
  · have hr2 : inR T id = false := by simpa using hr
    have hE : endE T id = 5 := by unfold endE; rw [hr2, if_pos rfl]
    rw [hE]
    have hd : inB T.length id = false := hr2
    clear he hE hr hr2
    go_enter Try.func19, Try.ntmps19
    go_wp2_with (go_at_call 49; refine (is_r p _ _ _ _ _ hh0).mono ?_; rintro e w' ⟨rfl, rfl⟩; rw [hd])
    go_ret
    exact ⟨rfl, rfl⟩

theorem commitr_m {p : Nat} {T : List One} {last : Nat} {id : Int} {w0 w : World} (h : MineR w0 w p T last) (hI : Inv T last) (h1 : T.length ≤ 1000000) (h2 : last ≤ 1000000) :
    Calls Try.prog 19 #[.pointer (some ⟨p, 0, none⟩), .int .i64 id] w fun e w' => e = .returned (.int .i64 (endE T id)) ∧ MineR w0 w' p (commitT T last id) (commitL T last id) ∧ FrT rT w w' := by
  obtain ⟨R, hT, hR⟩ := h.tab
  by_cases he : endE T id = 0
  · obtain ⟨m, rfl, hm, hs⟩ := endE_in he
    rw [he]
    refine (commitr_ok hT hI h1 h2 he hm hs).mono ?_
    rintro e w' ⟨h3, g', hT', hf, hg⟩
    exact ⟨h3, h.of hT hT' (fun r e => by cases e; exact Nat.le_trans h.fr.size hg) hf (fun k e => e)⟩
  · refine (commitr_no hT h1 he).mono ?_
    rintro e w' ⟨h3, rfl⟩
    have e1 : commitT T last id = T := by unfold commitT; rw [if_neg he]
    have e2 : commitL T last id = last := by unfold commitL; rw [if_neg (fun h => he h.1)]
    rw [e1, e2]
    exact ⟨h3, h, FrT.refl _ _⟩
theorem abortr_m {p : Nat} {T : List One} {last : Nat} {id : Int} {w0 w : World} (h : MineR w0 w p T last) (hI : Inv T last) (h1 : T.length ≤ 1000000) (h2 : last ≤ 1000000) :
    Calls Try.prog 20 #[.pointer (some ⟨p, 0, none⟩), .int .i64 id] w fun e w' => e = .returned (.int .i64 (endE T id)) ∧ MineR w0 w' p (abortT T id) last ∧ FrT rT w w' := by
  obtain ⟨R, hT, hR⟩ := h.tab
  by_cases he : endE T id = 0
  · obtain ⟨m, rfl, hm, hs⟩ := endE_in he
    have e1 : abortT T ((m : Int) + 1) = endP T (m + 1) 2 3 T.length := by unfold abortT endT; rw [if_pos he, show ((m : Int) + 1).toNat = m + 1 by omega]
    rw [he, e1]
    refine (abortr_ok hT hI h1 h2 he hm hs).mono ?_
    rintro e w' ⟨h3, g', hT', hf, hg⟩
    exact ⟨h3, h.of hT hT' (fun r e => by cases e; exact Nat.le_trans h.fr.size hg) hf (fun k e => e)⟩
  · refine (abortr_no hT h1 he).mono ?_
    rintro e w' ⟨h3, rfl⟩
    have e1 : abortT T id = T := by unfold abortT endT; rw [if_neg he]
    rw [e1]
    exact ⟨h3, h, FrT.refl _ _⟩

end Go.Proofs.Ytfgkocpmgoaljaa
