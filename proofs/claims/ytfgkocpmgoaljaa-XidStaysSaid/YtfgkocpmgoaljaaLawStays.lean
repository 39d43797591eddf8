/- The walk of the statement XidStays. The condition: the argument reads as data. -/
import Derived.Test.YtfgkocpmgoaljaaXidJ
import Derived.Test.YtfgkocpmgoaljaaXidQ
import Derived.Test.YtfgkocpmgoaljaaRead
import Derived.Test.YtfgkocpmgoaljaaExt
import Derived.Deep.RegionWith
import Derived.Deep.LoopGhost
import Derived.Deep.DeepCutAuto
import Derived.BigRegion
import Derived.BigQuiet
namespace Go.Proofs.Ytfgkocpmgoaljaa
open Go.RowKit Go.Shelf Xid

theorem two_new (w : World) (A B : Obj) : ((w.alloc A).alloc B).drew.heap[w.heap.size]? = some A ∧ ((w.alloc A).alloc B).drew.heap[w.heap.size + 1]? = some B := by
  refine ⟨obj_alloc (obj_alloc_new w A) B, ?_⟩
  have := obj_alloc_new (w.alloc A) B
  rw [World.size_alloc] at this
  exact this

set_option maxRecDepth 100000 in
set_option maxHeartbeats 40000000 in
theorem stays_law (a : Option Addr) (len cap : Nat) (L : List (Int × Int)) (hL : L.length = len) (hcap : len ≤ cap ∧ cap ≤ maxLen) (w : World) (hwf : ∀ p ∈ L, (Lit.int .u8 p.1).wf = true ∧ (Lit.int .i64 p.2).wf = true) (hS : IsPairs .u8 .i64 w a L) :
    Calls Try.prog 4 #[.slice a len cap] w fun e w' => e = .returned (.bool true) ∧ Fr noB w w' := by
  obtain ⟨hc1, hc2⟩ := hcap
  unfold maxLen at hc2
  by_cases h80 : 80 < len
  · go_enter Try.func4, Try.ntmps4
    go_wp2_with fail
    refine (works_any w).mono ?_
    rintro e w1 ⟨rfl, hf1⟩
    go_wp2_with fail
    refine (works_any w1).mono ?_
    rintro e w2 ⟨rfl, hf2⟩
    go_wp2_with fail
    go_ret
    exact ⟨rfl, hf1.trans hf2⟩
  · go_enter Try.func4, Try.ntmps4
    go_wp2_with fail
    refine (works_any w).mono ?_
    rintro e w1 ⟨rfl, hf1⟩
    go_wp2_with fail
    refine (new_mine w w1 hf1).mono ?_
    rintro e w2 ⟨rfl, hM0⟩
    obtain ⟨p, hp⟩ : ∃ p, w1.heap.size = p := ⟨_, rfl⟩
    rw [hp] at hM0 ⊢
    clear hp hf1
    go_wp2_with fail
    have HL := Lib.hid hL
    clear hL
    go_loopg [4] len (fun g iv wr => ∃ (i : Nat) (T : List One) (last : Nat), i ≤ len ∧ g = len - i ∧ iv = .int .i64 i ∧ Mine w wr p T last ∧ T.length ≤ i ∧ last ≤ i ∧ Inv T last)
    case atStart => exact ⟨0, [], 0, by omega, by omega, rfl, hM0, by simp, by omega, Inv.nil⟩
    case round =>
      obtain ⟨i, T, last, hil, rfl, rfl, hM, hTi, hla, hI⟩ := hrel
      by_cases hlt : i < len
      · obtain ⟨ad, ha, h1, h2⟩ := (hS.fr hM.fr).cell i (by rw [HL.out]; exact hlt)
        subst ha
        have hS0 := hS
        have hkw := (hwf (L.getD i (0, 0)) (by rw [List.getD_eq_getElem?_getD, List.getElem?_eq_getElem (by rw [HL.out]; exact hlt)]; simp)).1
        generalize hkd : (L.getD i (0, 0)).1 = kd at h1 hkw
        generalize hidd : (L.getD i (0, 0)).2 = idd at h2
        have HKD := Lib.hid hkd; have HIDD := Lib.hid hidd
        have HKW := Lib.hid hkw
        clear hkd hidd hkw
        have hI' := hI.do kd idd
        have hTl := doT_length T last kd idd
        have hLl := doL_le T last kd idd
        have HSTAYS := Lib.hid (fun (k : Nat) (hk : k < T.length) => stays_do hI kd idd (k := k) hk)
        have HREF := Lib.hid (do_refused (T := T) (last := last) (kind := kd) (id := idd))
        obtain ⟨R, hT, hR⟩ := hM.tab
        go_wp2_with fail
        refine (all_any p R T last _ hT (by omega)).mono ?_
        rintro e w3 ⟨v1, rfl, hA1, hf3⟩
        have hM3 := hM.frN hf3
        go_wp2_with fail
        refine (last_mine hM3 _ rfl).mono ?_
        rintro e w4 ⟨rfl, hM4, hx4⟩
        have hA1 := hA1.fr hx4 (by decide)
        obtain ⟨ad', ha', h3, h4⟩ := (hS0.fr hM4.fr).cell i (by rw [HL.out]; exact hlt)
        obtain rfl : ad = ad' := by simpa using ha'
        rw [HKD.out] at h3; rw [HIDD.out] at h4
        clear h1 h2
        go_wp2_with fail
        refine (do_mine hM4 kd idd (by omega) (by omega)).mono ?_
        rintro e w5 ⟨rfl, hM5, hx5⟩
        have hA1 := hA1.fr hx5 (by decide)
        obtain ⟨R5, hT5, hR5⟩ := hM5.tab
        go_wp2_with fail
        refine (all_any p R5 _ _ _ hT5 (by omega)).mono ?_
        rintro e w6 ⟨v2, rfl, hA2, hf6⟩
        have hM6 := hM5.frN hf6
        have hA1 := hA1.fr (FrT.ofN (ts := []) hf6) (by simp)
        clear hT hT5 hR hR5 hf3 hM3 hx4 hM4 hx5 hM5 hf6 hM h3 h4 ha'
        have hge := doT_ge T last kd idd
        obtain ⟨ga, ca, e1, hr1⟩ := hA1
        subst e1
        have hA1 : IsAll w6 wr.heap.size T (.slice ga T.length ca) := ⟨ga, ca, rfl, hr1⟩
        generalize hB1 : wr.heap.size = B1 at hA1
        generalize hB2 : w5.heap.size = B2 at hA2
        clear hr1 hB1 hB2
        generalize doT T last kd idd = T' at *
        generalize doL T last kd idd = last' at *
        generalize doA T kd idd = aa at *
        generalize doE T kd idd = ee at *
        go_wp2_with fail
        go_loopg [10] T.length (fun g kv wx => ∃ k : Nat, k ≤ T.length ∧ g = T.length - k ∧ kv = .int .i64 k ∧ Mine w wx p T' last' ∧ IsAll wx B1 T (.slice ga T.length ca) ∧ IsAll wx B2 T' v2)
        case atStart => exact ⟨0, by omega, by omega, rfl, hM6, hA1, hA2⟩
        case round =>
          clear hM6 hA1 hA2
          obtain ⟨k, hk, rfl, rfl, hM, hA1, hA2⟩ := hrel
          by_cases hkl : k < T.length
          · obtain ⟨g1, c1, e1, _, a0, a1, a2, a3⟩ := hA1.cells hkl
            obtain ⟨g2, c2, e2, _, b0, b1, b2, b3⟩ := hA2.cells (k := k) (by omega)
            obtain ⟨rfl, _, rfl⟩ : ga = some ⟨g1, 0, none⟩ ∧ T.length = T.length ∧ ca = c1 := by simpa using e1
            subst e2
            have hst := HSTAYS.out k hkl
            have hcs := hst.cases (sts_in hI hkl) (sts_in hI' (k := k) (by omega))
            have f1 := hst.top
            have f2 := hst.num
            have f5 := hst.cnt
            have HTOPK := Lib.hid (show topOf T' ((k : Int) + 1) = topOf T ((k : Int) + 1) from f1)
            rw [f1] at b1 hcs
            clear hst f1 e1
            have HSAME := Lib.hid (show ee ≠ 0 → stateOf T' ((k : Int) + 1) = stateOf T ((k : Int) + 1) ∧ numberOf T' ((k : Int) + 1) = numberOf T ((k : Int) + 1) ∧ countsOf T' ((k : Int) + 1) = countsOf T ((k : Int) + 1) from fun h => by rw [(HREF.out h).1]; exact ⟨rfl, rfl, rfl⟩)
            generalize stateOf T ((k : Int) + 1) = s at *
            generalize topOf T ((k : Int) + 1) = t at *
            generalize numberOf T ((k : Int) + 1) = n at *
            generalize countsOf T ((k : Int) + 1) = c at *
            generalize stateOf T' ((k : Int) + 1) = s' at *
            generalize numberOf T' ((k : Int) + 1) = n' at *
            generalize countsOf T' ((k : Int) + 1) = c' at *
            have HCS := Lib.hid hcs; have HF2 := Lib.hid f2; have HF5 := Lib.hid f5
            clear hcs f2 f5
            have hg1 : g1 < wr.heap.size := cell_lt a0
            have hg2 : g2 < wr.heap.size := cell_lt b0
            have hkl2 : k < T'.length := by omega
            go_upto_region 14 with fail
            go_cut [11, 12] (fun s11 s12 wx => ∃ q1 q2 : Nat, s11 = .pointer (some ⟨q1, 0, none⟩) ∧ s12 = .pointer (some ⟨q2, 0, none⟩) ∧ Fr noB wr wx ∧
              wx.heap[q1]? = some (.cells #[.int .u8 s, .int .i64 t, .int .i64 n, .bool c] 46 (0, 0)) ∧ wx.heap[q2]? = some (.cells #[.int .u8 s', .int .i64 t, .int .i64 n', .bool c'] 46 (0, 0)))
            case first =>
              go_region
              · go_wp2_with fail
                go_meet
                case rel => exact ⟨wr.heap.size, wr.heap.size + 1, rfl, rfl, (((Fr.refl _ _).alloc _).alloc _).drew, (two_new _ _ _).1, (two_new _ _ _).2⟩
              · go_wp2_with fail
                go_meet
                case rel => exact ⟨wr.heap.size + 1, wr.heap.size, rfl, rfl, (((Fr.refl _ _).alloc _).alloc _).drew, (two_new _ _ _).2, (two_new _ _ _).1⟩
            case rest =>
              obtain ⟨q1, q2, rfl, rfl, hfc, ho1, ho2⟩ := hcut
              have hMc := hM.frN hfc
              have hA1c := hA1.fr (FrT.ofN (ts := []) hfc) (by simp)
              have hA2c := hA2.fr (FrT.ofN (ts := []) hfc) (by simp)
              have x0 := cell_of_obj ho1 0
              have x1 := cell_of_obj ho1 1
              have x2 := cell_of_obj ho1 2
              have x3 := cell_of_obj ho1 3
              have y0 := cell_of_obj ho2 0
              have y1 := cell_of_obj ho2 1
              have y2 := cell_of_obj ho2 2
              have y3 := cell_of_obj ho2 3
              simp at x0 x1 x2 x3 y0 y1 y2 y3
              have HO1 := Lib.hid ho1; have HO2 := Lib.hid ho2
              clear hM hA1 hA2 hfc ho1 ho2 a0 a1 a2 a3 b0 b1 b2 b3
              go_upto_region 15 with fail
              go_cut [102] (fun s102 wx => s102 = .bool false ∧ wx = wc)
              case first =>
                have hn : n = 0 ∨ (0 < n ∧ n' = n) := by
                  by_cases e : n = 0
                  · exact .inl e
                  · exact .inr ⟨by omega, HF2.out e⟩
                have hc : (c = false ∧ c' = false) ∨ c = true := by
                  cases c
                  · exact .inl ⟨rfl, HF5.out rfl⟩
                  · exact .inr rfl
                have hcs := HCS.out
                clear HO1 HO2 HF2 HF5
                rcases hn with rfl | ⟨hn, rfl⟩
                all_goals
                  rcases hc with ⟨rfl, rfl⟩ | rfl
                  all_goals
                    rcases hcs with rfl | ⟨rfl, rfl⟩ | ⟨rfl, rfl, _⟩ | ⟨rfl, rfl⟩
                    all_goals
                      as_aux_lemma =>
                        go_wp2_with fail
                        go_meet
                        case rel => exact ⟨rfl, rfl⟩
              case rest =>
                obtain ⟨rfl, rfl⟩ := hcut
                clear x0 x1 x2 x3 y0 y1 y2 y3
                go_upto_region 17 with fail
                go_cut [149] (fun s149 wx => s149 = .bool false ∧ Fr noB wc wx)
                case first =>
                  obtain ⟨ad', ha', h1, h2⟩ := (hS0.fr hMc.fr).cell i (by rw [HL.out]; exact hlt)
                  obtain rfl : ad = ad' := by simpa using ha'
                  rw [HKD.out] at h1; rw [HIDD.out] at h2
                  have z1 := Ext.cell h1
                  have z2 := Ext.cell h2
                  obtain ⟨R, hT, hR⟩ := hMc.tab
                  have x0 := Ext.cell (cell_of_obj HO1.out 0)
                  have x1 := Ext.cell (cell_of_obj HO1.out 1)
                  have x2 := Ext.cell (cell_of_obj HO1.out 2)
                  have x3 := Ext.cell (cell_of_obj HO1.out 3)
                  have y0 := Ext.cell (cell_of_obj HO2.out 0)
                  have y1 := Ext.cell (cell_of_obj HO2.out 1)
                  have y2 := Ext.cell (cell_of_obj HO2.out 2)
                  have y3 := Ext.cell (cell_of_obj HO2.out 3)
                  simp at x0 x1 x2 x3 y0 y1 y2 y3
                  clear h1 h2 hMc
                  have hku : 0 ≤ kd := by
                    have := HKW.out
                    simp [Lit.wf, IntKind.min, IntKind.max, IntKind.signed, IntKind.bits] at this
                    omega
                  have hi0 : (0 : Int) ≤ (i : Int) := by omega
                  have hil2 : (i : Int) < (len : Int) := by omega
                  have hcs : ((s : Int) == 2) = false ∨ (s = 2 ∧ ((s' : Int) == 3) = false) ∨ (s = 2 ∧ s' = 3 ∧ kd ≠ 0 ∧ kd ≠ 1 ∧ stateOf T' idd = 3 ∧ topOf T' idd = t) := by
                    rcases HCS.out with rfl | ⟨rfl, rfl⟩ | h | ⟨rfl, rfl⟩
                    · exact .inl rfl
                    · exact .inr (.inl ⟨rfl, rfl⟩)
                    · exact .inr (.inr h)
                    · exact .inl rfl
                  by_cases hee : ee = 0
                  · subst hee
                    clear HSAME HCS HF2 HF5 HTOPK HKW HSTAYS HREF
                    rcases hcs with hb | ⟨rfl, hb⟩ | ⟨rfl, rfl, hk0, hk1, hs3, ht3⟩
                    · as_aux_lemma =>
                        refine wp_region_ext (by kernel_rfl) (by kernel_rfl) ?_
                        repeat (go_big_quiet_step (fail))
                        refine wpQuiet_nil ?_
                        rintro w3 ⟨⟨_, hf3⟩, rfl⟩
                        go_wp2_with fail
                        go_meet
                        case rel => exact ⟨rfl, hf3⟩
                    · as_aux_lemma =>
                        refine wp_region_ext (by kernel_rfl) (by kernel_rfl) ?_
                        repeat (go_big_quiet_step (fail))
                        refine wpQuiet_nil ?_
                        rintro w3 ⟨⟨_, hf3⟩, rfl⟩
                        go_wp2_with fail
                        go_meet
                        case rel => exact ⟨rfl, hf3⟩
                    · have hlt2 : decide (kd < 2) = false := by simp; omega
                      have HS3 := Lib.hid hs3; have HT3 := Lib.hid ht3
                      clear hk0 hk1 hs3 ht3
                      as_aux_lemma =>
                        refine wp_region_ext (by kernel_rfl) (by kernel_rfl) ?_
                        repeat (go_big_quiet_step (first | (go_at_call 24; exact Ext.calls (state_at (hT.frN (Ext.fr _)) 3 (by omega) (by rw [HS3.out]; rfl))) | (go_at_call 26; exact Ext.calls (top_at (hT.frN (Ext.fr _)) t (by omega) (by rw [HT3.out])))))
                        refine wpQuiet_nil ?_
                        rintro w3 ⟨⟨_, hf3⟩, rfl⟩
                        go_wp2_with fail
                        go_meet
                        case rel => exact ⟨rfl, hf3⟩
                  · have hed : (ee == 0) = false := by simpa using hee
                    have hen : (ee != 0) = true := by simpa using hee
                    obtain ⟨rfl, rfl, rfl⟩ := HSAME.out hee
                    have hcs : ((s' : Int) == 2) = false ∨ s' = 2 := by
                      by_cases h : s' = 2
                      · exact .inr h
                      · exact .inl (by rw [beq_eq_false_iff_ne]; omega)
                    clear HSAME HCS HF2 HF5 HTOPK hee HKW HSTAYS HREF
                    rcases hcs with hb | rfl
                    all_goals
                      as_aux_lemma =>
                        refine wp_region_ext (by kernel_rfl) (by kernel_rfl) ?_
                        repeat (go_big_quiet_step (fail))
                        refine wpQuiet_nil ?_
                        rintro w3 ⟨⟨_, hf3⟩, rfl⟩
                        go_wp2_with fail
                        go_meet
                        case rel => exact ⟨rfl, hf3⟩
                case rest =>
                  obtain ⟨rfl, hfc⟩ := hcut
                  have hMd := hMc.frN hfc
                  have hA1d := hA1c.fr (FrT.ofN (ts := []) hfc) (by simp)
                  have hA2d := hA2c.fr (FrT.ofN (ts := []) hfc) (by simp)
                  clear hMc hA1c hA2c
                  go_wp2_with fail
                  go_roundg (T.length - (k + 1))
                  case measure => omega
                  case rel => exact ⟨k + 1, by omega, by omega, by go_num, hMd, hA1d, hA2d⟩
          · have hkT : k = T.length := by omega
            subst hkT
            obtain ⟨R, hT, hR⟩ := hM.tab
            go_upto_region 19 with fail
            go_cut [164] (fun s164 wx => s164 = .bool false ∧ Fr noB wr wx)
            case first =>
              by_cases hee : ee = 0
              · subst hee
                go_wp2_with fail
                go_meet
                case rel => exact ⟨rfl, Fr.refl _ _⟩
              · have hed : (ee == 0) = false := by simpa using hee
                obtain ⟨rfl, rfl⟩ := HREF.out hee
                obtain ⟨g2, c2, rfl, _⟩ := hA2
                have hee := Lib.hid hee
                go_wp2_with fail
                refine (last_at hT _ rfl).mono ?_
                rintro e w7 ⟨rfl, hf7⟩
                go_wp2_with fail
                go_meet
                case rel => exact ⟨by congr 1, hf7⟩
            case rest =>
              obtain ⟨rfl, hfc⟩ := hcut
              have hMd := hM.frN hfc
              clear hM hA1 hA2
              go_wp2_with fail
              go_roundg (len - (i + 1))
              case measure => omega
              case rel => exact ⟨i + 1, T', last', by omega, by omega, by congr 1, hMd, by omega, by omega, hI'⟩
      · go_wp2
        go_ret
        exact ⟨rfl, hM.fr⟩

end Go.Proofs.Ytfgkocpmgoaljaa
