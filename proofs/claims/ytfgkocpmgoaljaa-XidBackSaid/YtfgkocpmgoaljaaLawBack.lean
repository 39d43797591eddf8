/- The walk of the statement XidBack. The condition: the argument reads as data. -/
import Derived.Test.YtfgkocpmgoaljaaXidJ
import Derived.Test.YtfgkocpmgoaljaaXidQ
import Derived.Test.YtfgkocpmgoaljaaPar
import Derived.Test.YtfgkocpmgoaljaaRead
import Derived.Test.YtfgkocpmgoaljaaExt
import Derived.Deep.RegionWith
import Derived.Deep.LoopGhost
import Derived.Deep.DeepCutAuto
import Derived.BigRegion
import Derived.BigQuiet
namespace Go.Proofs.Ytfgkocpmgoaljaa
open Go.RowKit Go.Shelf Xid

theorem two_new (w : World) (A B : Obj) : ((w.alloc A).alloc B).drew.heap[w.heap.size]? = some A ∧ ((w.alloc A).alloc B).drew.heap[w.heap.size + 1]? = some B := by
  refine ⟨obj_alloc (obj_alloc_new w A) B, ?_⟩
  have := obj_alloc_new (w.alloc A) B
  rw [World.size_alloc] at this
  exact this

/-- What Commit or Abort has done. -/
structure Ended (T T' : List One) (last' : Nat) (id : Int) (ee : Int) (cm : Bool) : Prop where
  len : T'.length = T.length
  ok : ee = 0 → ∃ m : Nat, id = (m : Int) + 1 ∧ m < T.length ∧ ∀ k, k < T.length → Backed T T' last' m k cm

theorem ended_commit {T : List One} {last : Nat} (h : Inv T last) (hg : GoneDown T) (id : Int) : Ended T (commitT T last id) (commitL T last id) id (endE T id) true :=
  ⟨commitT_length .., fun he => by
    obtain ⟨m, rfl, hm, hs⟩ := endE_in he
    exact ⟨m, rfl, hm, fun k hk => backed_commit h hg he hm hs hk⟩⟩
theorem ended_abort {T : List One} {last : Nat} (h : Inv T last) (id : Int) : Ended T (abortT T id) last id (endE T id) false :=
  ⟨by unfold abortT endT; split <;> simp [endP_length], fun he => by
    obtain ⟨m, rfl, hm, hs⟩ := endE_in he
    exact ⟨m, rfl, hm, fun k hk => backed_abort h he hm hk⟩⟩

set_option maxRecDepth 100000 in
set_option maxHeartbeats 40000000 in
theorem back_law (a : Option Addr) (len cap : Nat) (L : List (Int × Int)) (id : Int) (cm : Bool) (hL : L.length = len) (hcap : len ≤ cap ∧ cap ≤ maxLen) (w : World) (hwf : ∀ p ∈ L, (Lit.int .u8 p.1).wf = true ∧ (Lit.int .i64 p.2).wf = true) (hS : IsPairs .u8 .i64 w a L) :
    Calls Try.prog 7 #[.slice a len cap, .int .i64 id, .bool cm] w fun e w' => e = .returned (.bool true) ∧ Fr noB w w' := by
  obtain ⟨hc1, hc2⟩ := hcap
  unfold maxLen at hc2
  by_cases h80 : 80 < len
  · go_enter Try.func7, Try.ntmps7
    go_wp2_with fail
    refine (works_any w).mono ?_
    rintro e w1 ⟨rfl, hf1⟩
    go_wp2_with fail
    refine (works_any w1).mono ?_
    rintro e w2 ⟨rfl, hf2⟩
    go_wp2_with fail
    go_ret
    exact ⟨rfl, hf1.trans hf2⟩
  · go_enter Try.func7, Try.ntmps7
    go_wp2_with fail
    refine (works_any w).mono ?_
    rintro e w1 ⟨rfl, hf1⟩
    go_wp2_with fail
    refine (new_mine w w1 hf1).mono ?_
    rintro e w2 ⟨rfl, hM⟩
    obtain ⟨p, hp⟩ : ∃ p, w1.heap.size = p := ⟨_, rfl⟩
    rw [hp] at hM ⊢
    clear hp
    go_wp2_with fail
    have hw2 := hM.fr.size
    have hrow0 : (w2.alloc (.cells #[.int .i64 0] 3)).ownsRow w.heap.size 3 1 (.slice (some ⟨w2.heap.size, 0, none⟩) 1 1) 1 (parC []) :=
      ⟨rfl, .inr ⟨w2.heap.size, 1, #[.int .i64 0], rfl, hw2, obj_alloc_new _ _, by omega, by unfold maxLen; omega, rfl, rfl⟩⟩
    have hM0 := hM.frN ((Fr.refl noB w2).alloc (.cells #[.int .i64 0] 3))
    clear hM hf1 hw2
    generalize w2.alloc (.cells #[.int .i64 0] 3) = w3 at *
    generalize w2.heap.size = g0 at *
    obtain ⟨i0, hi, hz0, hz1, hz2⟩ := info_parts infoInt
    have HL := Lib.hid hL
    clear hL
    go_loopg [8, 9] len (fun gh pv iv wr => ∃ (i : Nat) (T : List One) (last g c : Nat), i ≤ len ∧ gh = len - i ∧ iv = .int .i64 i ∧ pv = .slice (some ⟨g, 0, none⟩) (T.length + 1) c ∧ Mine w wr p T last ∧ T.length ≤ i ∧ last ≤ i ∧ Inv T last ∧ GoneDown T ∧
      wr.ownsRow w.heap.size 3 1 (.slice (some ⟨g, 0, none⟩) (T.length + 1) c) (T.length + 1) (parC T))
    case atStart => exact ⟨0, [], 0, g0, 1, by omega, by omega, rfl, rfl, hM0, by simp, by omega, Inv.nil, GoneDown.nil, hrow0⟩
    case round =>
      obtain ⟨i, T, last, g, c, hil, rfl, rfl, rfl, hM, hTi, hla, hI, hG, hrow⟩ := hrel
      by_cases hlt : i < len
      · obtain ⟨ad, ha, h1, h2⟩ := (hS.fr hM.fr).cell i (by rw [HL.out]; exact hlt)
        subst ha
        have hS0 := hS
        generalize hkd : (L.getD i (0, 0)).1 = kd at h1
        generalize hidd : (L.getD i (0, 0)).2 = idd at h2
        have HKD := Lib.hid hkd; have HIDD := Lib.hid hidd
        clear hkd hidd
        have hI' := hI.do kd idd
        have hG' := hG.do hI kd idd
        have hTl := doT_length T last kd idd
        have hLl := doL_le T last kd idd
        by_cases happ : kd = 0 ∧ doE T kd idd = 0
        · obtain ⟨hk0, he0⟩ := happ
          subst hk0
          have hb0 : beginE T idd = 0 := by have := he0; unfold doE at this; rwa [if_pos rfl] at this
          have HE := Lib.hid he0; have HB := Lib.hid hb0
          clear he0 hb0
          go_wp2_with fail
          refine (do_mine hM 0 idd (by omega) (by omega)).mono ?_
          rintro e w4 ⟨rfl, hM4, hx⟩
          rw [HE.out]
          obtain ⟨ad', ha', h3, h4⟩ := (hS0.fr hM4.fr).cell i (by rw [HL.out]; exact hlt)
          obtain rfl : ad = ad' := by simpa using ha'
          rw [HKD.out] at h3; rw [HIDD.out] at h4
          have hrow4 := hx.row hrow (by decide)
          have HT := Lib.hid (par_append (last := last) HB.out)
          clear h1 h2 ha'
          go_wp2_with (at_builtin; refine wpList_append_row _ rfl _ _ 47 rfl w.heap.size 3 i0 (.int .i64 0) 1 8 Try.underlying47 hi hz0 hz1 hz2 rfl (by decide) (.slice (some ⟨g, 0, none⟩) (T.length + 1) c) (T.length + 1) (parC T) rfl (hrow4.alloc _) ⟨w4.heap.size, 0, none⟩ 1 1 [.int .i64 idd] rfl rfl (cells_new _ _ _) (by simp [Value.oneCell']) (by unfold maxLen; omega) (by omega) (by have := hM4.fr.size; simp; omega) (by omega) ?_; intro g' cap' w5 ho hg hf)
          have hM5 := hM4.grown hrow4 (Nat.le_refl _) (by decide) hg
          have hrow5 : w5.ownsRow w.heap.size 3 1 (.slice (some ⟨g', 0, none⟩) ((doT T last 0 idd).length + 1) cap') ((doT T last 0 idd).length + 1) (parC (doT T last 0 idd)) := by
            rw [HT.out]
            have e : parC (T ++ [⟨idd.toNat, 1, 0⟩]) = parC T ++ [.int .i64 idd] := by
              simp [parC, beginE_nat HB.out]
            rw [e, List.length_append]
            exact ho
          have hlen5 : T.length + 1 + 1 = (doT T last 0 idd).length + 1 := by rw [HT.out]; simp
          rw [hlen5]
          clear ho hg hf hM4 hx hrow4 hrow HT HE HB hM h3 h4 hlen5
          go_roundg (len - (i + 1))
          case measure => omega
          case rel => exact ⟨i + 1, _, _, g', cap', by omega, rfl, by go_num, rfl, hM5, by omega, by omega, hI', hG', hrow5⟩
        · have HS := Lib.hid (parL_do_same (last := last) happ)
          have hgd : (kd == 0) = true → (doE T kd idd == 0) = false := by
            intro h5
            rw [beq_eq_false_iff_ne]
            intro h6
            exact happ ⟨by simpa using h5, h6⟩
          go_wp2_with fail
          refine (do_mine hM kd idd (by omega) (by omega)).mono ?_
          rintro e w4 ⟨rfl, hM4, hx⟩
          obtain ⟨ad', ha', h3, h4⟩ := (hS0.fr hM4.fr).cell i (by rw [HL.out]; exact hlt)
          obtain rfl : ad = ad' := by simpa using ha'
          rw [HKD.out] at h3; rw [HIDD.out] at h4
          have hrow4 := hx.row hrow (by decide)
          have hrow5 : w4.ownsRow w.heap.size 3 1 (.slice (some ⟨g, 0, none⟩) ((doT T last kd idd).length + 1) c) ((doT T last kd idd).length + 1) (parC (doT T last kd idd)) := by
            unfold parC; rw [HS.out.1, HS.out.2]; exact hrow4
          have hM5 := hM4
          rw [show T.length + 1 = (doT T last kd idd).length + 1 by rw [HS.out.2]]
          clear h1 h2 ha' happ hM hrow hrow4 hM4 hx HS h4
          generalize doE T kd idd = ee at *
          generalize doA T kd idd = aa at *
          generalize doT T last kd idd = T' at *
          generalize doL T last kd idd = last' at *
          by_cases hk0 : (kd == 0) = true
          all_goals
            first | (have hb := hgd hk0) | (have hb : (kd == 0) = false := by simpa using hk0)
            clear hgd
            go_wp2
            go_roundg (len - (i + 1))
            case measure => omega
            case rel => exact ⟨i + 1, _, _, g, c, by omega, rfl, by go_num, rfl, hM5, by omega, by omega, hI', hG', hrow5⟩
      · obtain ⟨R, hT, hR⟩ := hM.tab
        go_wp2_with fail
        refine (all_any p R T last _ hT (by omega)).mono ?_
        rintro e w3 ⟨v1, rfl, hA1, hf3⟩
        have hM3 := hM.frN hf3
        have hrow3 := (FrT.ofN (ts := []) hf3).row hrow (by simp)
        generalize hB1 : wr.heap.size = B1 at hA1
        clear hB1 hT hR hM hrow
        go_upto_if 65 with fail
        go_cut [13] (fun s13 wx => ∃ (T' : List One) (last' : Nat) (ee : Int), s13 = .int .i64 ee ∧ Mine w wx p T' last' ∧ IsAll wx B1 T v1 ∧ Ended T T' last' id ee cm ∧ Inv T' last' ∧
          wx.ownsRow w.heap.size 3 1 (.slice (some ⟨g, 0, none⟩) (T.length + 1) c) (T.length + 1) (parC T))
        case first =>
          cases cm
          · go_wp2_with fail
            refine (abort_mine hM3 _ _ (by omega) rfl rfl).mono ?_
            rintro e w4 ⟨rfl, hM4, hx4⟩
            go_wp2_with fail
            go_meet
            case rel => exact ⟨_, _, _, rfl, hM4, hA1.fr hx4 (by decide), ended_abort hI id, hI.abort id, hx4.row hrow3 (by decide)⟩
          · go_wp2_with fail
            refine (commit_mine hM3 _ _ _ (by omega) (by omega) rfl rfl rfl).mono ?_
            rintro e w4 ⟨rfl, hM4, hx4⟩
            go_wp2_with fail
            go_meet
            case rel => exact ⟨_, _, _, rfl, hM4, hA1.fr hx4 (by decide), ended_commit hI hG id, hI.commit id, hx4.row hrow3 (by decide)⟩
        case rest =>
          obtain ⟨T', last', ee, rfl, hM4, hA4, hE, hI', hrow4⟩ := hcut
          clear hM3 hA1 hrow3 hf3
          obtain ⟨R, hT, hR⟩ := hM4.tab
          have hlen4 := hE.len
          go_wp2_with fail
          refine (all_any p R T' last' _ hT (by omega)).mono ?_
          rintro e w5 ⟨v2, rfl, hA2, hf5⟩
          have hM5 := hM4.frN hf5
          have hA5 := hA4.fr (FrT.ofN (ts := []) hf5) (by simp)
          have hrow5 := (FrT.ofN (ts := []) hf5).row hrow4 (by simp)
          generalize hB2 : wc.heap.size = B2 at hA2
          clear hB2 hT hR hM4 hrow4 hA4 hf5
          by_cases hee : ee = 0
          · subst hee
            obtain ⟨m, rfl, hm, hback⟩ := hE.ok rfl
            obtain ⟨ga, ca, e1, hr1⟩ := hA5
            subst e1
            have hA5 : IsAll w5 B1 T (.slice ga T.length ca) := ⟨ga, ca, rfl, hr1⟩
            obtain ⟨gb, cb, e2, hr2⟩ := hA2
            subst e2
            have hA2 : IsAll w5 B2 T' (.slice gb T'.length cb) := ⟨gb, cb, rfl, hr2⟩
            rw [hlen4] at hA2 ⊢
            clear hr1 hr2
            have HB := Lib.hid hback
            clear hback hE
            go_wp2_with fail
            go_loopg [15] T.length (fun gh kv wr => ∃ k : Nat, k ≤ T.length ∧ gh = T.length - k ∧ kv = .int .i64 ((k : Int) + 1) ∧ Mine w wr p T' last' ∧ IsAll wr B1 T (.slice ga T.length ca) ∧ IsAll wr B2 T' (.slice gb T.length cb) ∧
              wr.ownsRow w.heap.size 3 1 (.slice (some ⟨g, 0, none⟩) (T.length + 1) c) (T.length + 1) (parC T))
            case atStart => exact ⟨0, by omega, by omega, rfl, hM5, hA5, hA2, hrow5⟩
            case round =>
              clear hM5 hA5 hA2 hrow5
              obtain ⟨k, hk, rfl, rfl, hM, hA1, hA2, hrow⟩ := hrel
              by_cases hkl : k < T.length
              · go_wp2_with fail
                go_loopg [16, 17] (k + 1) (fun gh uv nv wx => ∃ (n : Nat) (u : Bool), n ≤ k + 1 ∧ n = gh ∧ uv = .bool u ∧ nv = .int .i64 n ∧ wx = wr ∧ Hid ((u || inUp T m n) = inUp T m (k + 1)))
                case atStart => exact ⟨k + 1, false, by omega, rfl, rfl, by go_num, rfl, Lib.hid (by simp)⟩
                case round =>
                  obtain ⟨n, u, hn, rfl, rfl, rfl, rfl, HU⟩ := hrel
                  by_cases hn0 : n = 0
                  · subst hn0
                    have hu : u = inUp T m (k + 1) := by have := HU.out; rwa [inUp_zero, Bool.or_false] at this
                    have hbk := HB.out k hkl
                    obtain ⟨g1, c1, e1, _, a0, a1, a2, a3⟩ := hA1.cells hkl
                    obtain ⟨g2, c2, e2, _, b0, b1, b2, b3⟩ := hA2.cells (k := k) (by omega)
                    obtain ⟨rfl, rfl⟩ : ga = some ⟨g1, 0, none⟩ ∧ ca = c1 := by simpa using e1
                    obtain ⟨rfl, rfl⟩ : gb = some ⟨g2, 0, none⟩ ∧ cb = c2 := by simpa [hlen4] using e2
                    have HK : Hid ((u = false → stateOf T' ((k : Int) + 1) = stateOf T ((k : Int) + 1) ∧ topOf T' ((k : Int) + 1) = topOf T ((k : Int) + 1) ∧ numberOf T' ((k : Int) + 1) = numberOf T ((k : Int) + 1) ∧ countsOf T' ((k : Int) + 1) = countsOf T ((k : Int) + 1)) ∧
                      (u = true → cm = false → stateOf T' ((k : Int) + 1) = 3 ∧ countsOf T' ((k : Int) + 1) = false ∧ numberOf T' ((k : Int) + 1) = 0) ∧
                      (u = true → cm = true → countsOf T' ((k : Int) + 1) = countsOf T ((k : Int) + 1) ∧ (countsOf T' ((k : Int) + 1) = true ↔ stateOf T' ((k : Int) + 1) = 2) ∧ ((gt T m).parent = 0 → countsOf T' ((k : Int) + 1) = true → numberOf T' ((k : Int) + 1) = last') ∧ ((gt T m).parent ≠ 0 → numberOf T' ((k : Int) + 1) = 0))) := by
                      refine Lib.hid ⟨fun h => ?_, fun h hc => ?_, fun h hc => ?_⟩
                      · have h' := hbk.out (of_decide_eq_false (by rw [← h, hu]; rfl))
                        exact ⟨h'.st, h'.top, h'.num, h'.cnt⟩
                      · exact hbk.back (of_decide_eq_true (by rw [← h, hu]; rfl)) hc
                      · have hmm : m + 1 ∈ upL T (k + 1) := of_decide_eq_true (by rw [← h, hu]; rfl)
                        exact ⟨(hbk.cnt hmm hc).1, (hbk.cnt hmm hc).2, hbk.num0 hmm hc, hbk.num1 hmm hc⟩
                    have hcm := row_cell hrow (parC_get (T := T) (k := m) hm)
                    have HCM := Lib.hid hcm
                    clear hbk hu HU e1 e2 hcm
                    generalize stateOf T ((k : Int) + 1) = s at *
                    generalize topOf T ((k : Int) + 1) = t at *
                    generalize numberOf T ((k : Int) + 1) = n at *
                    generalize countsOf T ((k : Int) + 1) = cc at *
                    generalize stateOf T' ((k : Int) + 1) = s' at *
                    generalize topOf T' ((k : Int) + 1) = t' at *
                    generalize numberOf T' ((k : Int) + 1) = n' at *
                    generalize countsOf T' ((k : Int) + 1) = cc' at *
                    have hg1 : g1 < wr.heap.size := cell_lt a0
                    have hg2 : g2 < wr.heap.size := cell_lt b0
                    have HHM := Lib.hid hm
                    clear hm
                    go_upto_region 27 with fail
                    go_cut [18, 19] (fun s11 s12 wx => ∃ q1 q2 : Nat, s11 = .pointer (some ⟨q1, 0, none⟩) ∧ s12 = .pointer (some ⟨q2, 0, none⟩) ∧ Fr noB wr wx ∧
                      wx.heap[q1]? = some (.cells #[.int .u8 s, .int .i64 t, .int .i64 n, .bool cc] 46 (0, 0)) ∧ wx.heap[q2]? = some (.cells #[.int .u8 s', .int .i64 t', .int .i64 n', .bool cc'] 46 (0, 0)))
                    case first =>
                      go_region
                      · go_wp2_with fail
                        go_meet
                        case rel => exact ⟨wr.heap.size, wr.heap.size + 1, rfl, rfl, (((Fr.refl _ _).alloc _).alloc _).drew, (two_new _ _ _).1, (two_new _ _ _).2⟩
                      · go_wp2_with fail
                        go_meet
                        case rel => exact ⟨wr.heap.size + 1, wr.heap.size, rfl, rfl, (((Fr.refl _ _).alloc _).alloc _).drew, (two_new _ _ _).2, (two_new _ _ _).1⟩
                    case rest =>
                      obtain ⟨q1, q2, rfl, rfl, hfc, ho1, ho2⟩ := hcut
                      have hMc := hM.frN hfc
                      have hA1c := hA1.fr (FrT.ofN (ts := []) hfc) (by simp)
                      have hA2c := hA2.fr (FrT.ofN (ts := []) hfc) (by simp)
                      have hrowc := (FrT.ofN (ts := []) hfc).row hrow (by simp)
                      have hcm := hfc.cell (fun x => x) HCM.out
                      have x0 := cell_of_obj ho1 0
                      have x1 := cell_of_obj ho1 1
                      have x2 := cell_of_obj ho1 2
                      have x3 := cell_of_obj ho1 3
                      have y0 := cell_of_obj ho2 0
                      have y1 := cell_of_obj ho2 1
                      have y2 := cell_of_obj ho2 2
                      have y3 := cell_of_obj ho2 3
                      simp at x0 x1 x2 x3 y0 y1 y2 y3
                      have HO1 := Lib.hid ho1; have HO2 := Lib.hid ho2
                      clear hM hA1 hA2 hfc ho1 ho2 a0 a1 a2 a3 b0 b1 b2 b3 hrow HCM
                      cases u
                      · obtain ⟨rfl, rfl, rfl, rfl⟩ := HK.out.1 rfl
                        clear HK
                        go_wp2_with fail
                        go_roundg (T.length - (k + 1))
                        case measure => omega
                        case rel => exact ⟨k + 1, by omega, rfl, by go_num, hMc, hA1c, hA2c, hrowc⟩
                      · cases cm
                        · obtain ⟨rfl, rfl, rfl⟩ := HK.out.2.1 rfl rfl
                          clear HK
                          go_wp2_with fail
                          go_roundg (T.length - (k + 1))
                          case measure => omega
                          case rel => exact ⟨k + 1, by omega, rfl, by go_num, hMc, hA1c, hA2c, hrowc⟩
                        · obtain ⟨rfl, h2, h3, h4⟩ := HK.out.2.2 rfl rfl
                          clear HK
                          clear x0 x1 x2 x3 y0 y1 y2 y3
                          go_upto_region 28 with fail
                          go_cut [147] (fun s147 wx => s147 = .bool false ∧ Fr noB wc wx)
                          case first =>
                            obtain ⟨R, hT, hR⟩ := hMc.tab
                            have x3 := Ext.cell (cell_of_obj HO1.out 3)
                            have y0 := Ext.cell (cell_of_obj HO2.out 0)
                            have y2 := Ext.cell (cell_of_obj HO2.out 2)
                            have y3 := Ext.cell (cell_of_obj HO2.out 3)
                            have hcm := Ext.cell hcm
                            simp at x3 y0 y2 y3
                            clear HO1 HO2 hMc hA1c hA2c hrowc HL
                            have hm := HHM.out
                            have hm0 : (0 : Int) ≤ (m : Int) + 1 := by omega
                            have hmi : (m : Int) < (T.length : Int) := by omega
                            by_cases hp : (gt T m).parent = 0
                            · rw [hp] at hcm
                              have h3 := h3 hp
                              clear h4
                              cases cc'
                              · have hb : ((s' : Int) == 2) = false := by
                                  rw [beq_eq_false_iff_ne]; intro e
                                  have : s' = 2 := by omega
                                  exact absurd (h2.2 this) (by simp)
                                clear h2 h3
                                refine wp_region_ext (by kernel_rfl) (by kernel_rfl) ?_
                                repeat (go_big_quiet_step ((go_at_call 21; exact Ext.calls (last_at (hT.frN (Ext.fr _)) _ rfl))))
                                refine wpQuiet_nil ?_
                                rintro w3 ⟨⟨_, hf3⟩, rfl⟩
                                go_wp2_with fail
                                go_meet
                                case rel => exact ⟨rfl, hf3⟩
                              · obtain rfl := h2.1 rfl
                                obtain rfl := h3 rfl
                                clear h2 h3
                                refine wp_region_ext (by kernel_rfl) (by kernel_rfl) ?_
                                repeat (go_big_quiet_step ((go_at_call 21; exact Ext.calls (last_at (hT.frN (Ext.fr _)) _ rfl))))
                                refine wpQuiet_nil ?_
                                rintro w3 ⟨⟨_, hf3⟩, rfl⟩
                                go_wp2_with fail
                                go_meet
                                case rel => exact ⟨rfl, hf3⟩
                            · have hpb : (((gt T m).parent : Int) == 0) = false := by rw [beq_eq_false_iff_ne]; omega
                              have hpn : (((gt T m).parent : Int) != 0) = true := by rw [bne_iff_ne]; omega
                              obtain rfl := h4 hp
                              clear h3 h4 hp
                              cases cc'
                              · have hb : ((s' : Int) == 2) = false := by
                                  rw [beq_eq_false_iff_ne]; intro e
                                  have : s' = 2 := by omega
                                  exact absurd (h2.2 this) (by simp)
                                clear h2
                                refine wp_region_ext (by kernel_rfl) (by kernel_rfl) ?_
                                repeat (go_big_quiet_step ((go_at_call 21; exact Ext.calls (last_at (hT.frN (Ext.fr _)) _ rfl))))
                                refine wpQuiet_nil ?_
                                rintro w3 ⟨⟨_, hf3⟩, rfl⟩
                                go_wp2_with fail
                                go_meet
                                case rel => exact ⟨rfl, hf3⟩
                              · obtain rfl := h2.1 rfl
                                clear h2
                                refine wp_region_ext (by kernel_rfl) (by kernel_rfl) ?_
                                repeat (go_big_quiet_step ((go_at_call 21; exact Ext.calls (last_at (hT.frN (Ext.fr _)) _ rfl))))
                                refine wpQuiet_nil ?_
                                rintro w3 ⟨⟨_, hf3⟩, rfl⟩
                                go_wp2_with fail
                                go_meet
                                case rel => exact ⟨rfl, hf3⟩
                          case rest =>
                            obtain ⟨rfl, hfd⟩ := hcut
                            have hMd := hMc.frN hfd
                            have hA1d := hA1c.fr (FrT.ofN (ts := []) hfd) (by simp)
                            have hA2d := hA2c.fr (FrT.ofN (ts := []) hfd) (by simp)
                            have hrowd := (FrT.ofN (ts := []) hfd).row hrowc (by simp)
                            clear hMc hA1c hA2c hrowc
                            go_wp2_with fail
                            go_roundg (T.length - (k + 1))
                            case measure => omega
                            case rel => exact ⟨k + 1, by omega, rfl, by go_num, hMd, hA1d, hA2d, hrowd⟩
                  · obtain ⟨j, rfl⟩ : ∃ j, n = j + 1 := ⟨n - 1, by omega⟩
                    have hcell := row_cell hrow (parC_get (T := T) (k := j) (by omega))
                    have hpl := hI.wf.par j (by omega)
                    have HN := Lib.hid (inUp_succ hI.wf m (j := j) (by omega))
                    cases u
                    · by_cases hjm : j = m
                      · subst hjm
                        go_wp2_with fail
                        go_roundg ((gt T j).parent)
                        case measure => omega
                        case rel => exact ⟨_, _, by omega, rfl, rfl, rfl, rfl, Lib.hid (by rw [← HU.out, HN.out]; simp)⟩
                      · have hb : ((j : Int) + 1 == (m : Int) + 1) = false := by rw [beq_eq_false_iff_ne]; omega
                        have hb2 : (j == m) = false := by simpa using hjm
                        have HB2 := Lib.hid hb2
                        clear hjm hb2
                        go_wp2_with fail
                        go_roundg ((gt T j).parent)
                        case measure => omega
                        case rel => exact ⟨_, _, by omega, rfl, rfl, rfl, rfl, Lib.hid (by rw [← HU.out, HN.out, HB2.out]; simp)⟩
                    · go_wp2_with fail
                      go_roundg ((gt T j).parent)
                      case measure => omega
                      case rel => exact ⟨_, _, by omega, rfl, rfl, rfl, rfl, Lib.hid (by rw [← HU.out]; simp)⟩
              · go_wp2_with fail
                go_ret
                exact ⟨rfl, hM.fr⟩
          · have hed : (ee == 0) = false := by simpa using hee
            obtain ⟨gb, cb, e2, hr2⟩ := hA2
            subst e2
            have hee := Lib.hid hee
            go_wp2_with fail
            go_ret
            exact ⟨rfl, hM5.fr⟩

theorem back_law' (a : Option Addr) (len cap : Nat) (L : List (Int × Int)) (hL : L.length = len) (hcap : len ≤ cap ∧ cap ≤ maxLen) (id : Int) (cm : Bool) (w : World) (hwf : ∀ p ∈ L, (Lit.int .u8 p.1).wf = true ∧ (Lit.int .i64 p.2).wf = true) (hS : IsPairs .u8 .i64 w a L)
    (_ : (Lit.int .i64 id).wf = true) : Calls Try.prog 7 #[.slice a len cap, .int .i64 id, .bool cm] w fun e w' => e = .returned (.bool true) ∧ Fr noB w w' := back_law a len cap L id cm hL hcap w hwf hS

end Go.Proofs.Ytfgkocpmgoaljaa
