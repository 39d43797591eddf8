/- The walk of the statement XidPlays. The condition: the argument reads as data. -/
import Derived.Test.YtfgkocpmgoaljaaRefC
import Derived.Test.YtfgkocpmgoaljaaXidQ
import Derived.Test.YtfgkocpmgoaljaaRead
import Derived.Test.YtfgkocpmgoaljaaExt
import Derived.Deep.RegionWith
import Derived.Deep.LoopGhost
import Derived.Deep.DeepCutAuto
import Derived.BigRegion
import Derived.BigQuiet
namespace Go.Proofs.Ytfgkocpmgoaljaa
open Go.RowKit Go.Shelf Xid

set_option maxRecDepth 100000 in
set_option maxHeartbeats 40000000 in
theorem plays_law (a : Option Addr) (len cap : Nat) (L : List (Int × Int)) (hL : L.length = len) (hcap : len ≤ cap ∧ cap ≤ maxLen) (w : World) (_ : ∀ p ∈ L, (Lit.int .u8 p.1).wf = true ∧ (Lit.int .i64 p.2).wf = true) (hS : IsPairs .u8 .i64 w a L) :
    Calls Try.prog 3 #[.slice a len cap] w fun e w' => e = .returned (.bool true) ∧ Fr noB w w' := by
  obtain ⟨hc1, hc2⟩ := hcap
  unfold maxLen at hc2
  by_cases h80 : 60 < len
  · go_enter Try.func3, Try.ntmps3
    go_wp2_with fail
    go_ret
    exact ⟨rfl, Fr.refl _ _⟩
  go_enter Try.func3, Try.ntmps3
  go_wp2_with fail
  refine (new_mine w w (Fr.refl _ _)).mono ?_
  rintro e w1 ⟨rfl, hM0⟩
  generalize w.heap.size = p at *
  go_wp2_with fail
  refine (new_r w w1 hM0.fr).mono ?_
  rintro e w2 ⟨rfl, hR0, hf2⟩
  have hM0 := hM0.frN hf2
  generalize w1.heap.size = q at *
  clear hf2
  go_wp2_with fail
  have HL := Lib.hid hL
  clear hL
  go_loopg [5] len (fun g iv wr => ∃ (i : Nat) (T : List One) (last : Nat), i ≤ len ∧ g = len - i ∧ iv = .int .i64 i ∧ Mine w wr p T last ∧ MineR w wr q T last ∧ T.length ≤ i ∧ last ≤ i ∧ Inv T last)
  case atStart => exact ⟨0, [], 0, by omega, by omega, rfl, hM0, hR0, by simp, by omega, Inv.nil⟩
  case round =>
    clear hM0 hR0
    obtain ⟨i, T, last, hil, rfl, rfl, hM, hR, hTi, hla, hI⟩ := hrel
    by_cases hlt : i < len
    · obtain ⟨ad, ha, h1, h2⟩ := (hS.fr hM.fr).cell i (by rw [HL.out]; exact hlt)
      subst ha
      have hS0 := hS
      generalize hkd : (L.getD i (0, 0)).1 = kd at h1
      generalize hidd : (L.getD i (0, 0)).2 = idd at h2
      have HKD := Lib.hid hkd; have HIDD := Lib.hid hidd
      clear hkd hidd
      have hI' := hI.do kd idd
      have hTl := doT_length T last kd idd
      have hLl := doL_le T last kd idd
      go_wp2_with fail
      refine (do_mine hM kd idd (by omega) (by omega)).mono ?_
      rintro e w5 ⟨rfl, hM5, hx⟩
      have hR5 := hR.frTT hx (by decide) (by decide) hM5.fr
      obtain ⟨ad', ha', h3, h4⟩ := (hS0.fr hM5.fr).cell i (by rw [HL.out]; exact hlt)
      obtain rfl : ad = ad' := by simpa using ha'
      rw [HKD.out] at h3; rw [HIDD.out] at h4
      clear h1 h2 ha' hM hR hx
      by_cases k0 : kd = 0
      · subst k0
        have eA : doA T 0 idd = beginA T idd := rfl
        have eE : doE T 0 idd = beginE T idd := rfl
        have eT : doT T last 0 idd = beginT T idd := rfl
        have eL : doL T last 0 idd = last := rfl
        rw [eA, eE]
        rw [eT, eL] at hM5 hI'
        rw [eT] at hTl
        clear eA eE eT eL hLl
        go_wp2_with fail
        refine (beginr_m hR5 (by omega)).mono ?_
        rintro e w6 ⟨rfl, hR6, hx6⟩
        have hM6 := hM5.frTT hx6 (by decide) (by decide) hR6.fr
        have hl3 : last ≤ i + 1 := by omega
        clear hM5 hR5 hx6 h3 h4 hI
        generalize beginA T idd = aa at *
        generalize beginE T idd = ee at *
        generalize beginT T idd = T3 at *
        generalize last = last3 at *
        have hlen3 : T3.length ≤ 60 := by omega
        obtain ⟨R1, hX, _⟩ := hM6.tab
        obtain ⟨R2, hY, _⟩ := hR6.tab
        obtain ⟨ay, cy, hy0, hy1⟩ := hY.head
        have x0 := Ext.cell hy0
        have x1 := Ext.cell hy1
        have hXL := fun (x : Ext w6) => last_at (hX.frN x.fr) _ rfl
        have hXN := fun (x : Ext w6) => len_at (hX.frN x.fr) _ rfl
        have hYL : ∀ x : Ext w6, Calls Try.prog 22 #[.pointer (some ⟨q, 0, none⟩)] x.w fun e w' => e = .returned (.int .i64 last3) ∧ Fr noB x.w w' := fun x => (last_r _ _ _ _ _ (hY.frN x.fr)).mono fun _ _ h => ⟨h.1, h.2 ▸ Fr.refl _ _⟩
        have HXL := Lib.hid hXL; have HXN := Lib.hid hXN; have HYL := Lib.hid hYL
        clear hXL hXN hYL
        go_upto_region 17 with fail
        refine wp_region_ext (by kernel_rfl) (by kernel_rfl) ?_
        repeat (go_big_quiet_step (first | (go_at_call 21; exact Ext.calls (HXL.out _)) | (go_at_call 23; exact Ext.calls (HXN.out _)) | (go_at_call 22; exact Ext.calls (HYL.out _))))
        refine wpQuiet_nil ?_
        rintro w7 ⟨⟨_, hf7⟩, rfl⟩
        clear x0 x1 hy0 hy1 HXL HXN HYL
        have hX := hX.frN hf7
        have hY := hY.frN hf7
        go_wp2_with fail
        go_loopg [10] (T3.length + 3) (fun g iv wx => ∃ z : Int, -1 ≤ z ∧ z ≤ T3.length + 2 ∧ g = ((T3.length : Int) + 2 - z).toNat ∧ iv = .int .i64 z ∧ Fr noB w6 wx)
        case atStart => exact ⟨-1, by omega, by omega, by omega, rfl, hf7⟩
        case round =>
          clear hX hY hf7
          obtain ⟨z, hz1, hz2, rfl, rfl, hfr⟩ := hrel
          obtain ⟨R1, hX, _⟩ := (hM6.frN hfr).tab
          obtain ⟨R2, hY, _⟩ := (hR6.frN hfr).tab
          obtain ⟨ay, cy, hy0, hy1⟩ := hY.head
          by_cases hz : z ≤ (T3.length : Int) + 1
          · have hzz : decide (z ≤ (T3.length : Int) + 1) = true := by simpa using hz
            go_wp2_with fail
            refine (state_at hX _ (by omega) rfl).mono ?_
            rintro e w' ⟨rfl, hf⟩
            have hX := hX.frN hf; have hY := hY.frN hf; have hfr := hfr.trans hf; clear hf
            go_wp2_with fail
            refine (state_r _ _ _ _ _ _ hY (by omega)).mono ?_
            rintro e w' ⟨rfl, hf⟩; subst hf
            go_wp2_with fail
            refine (top_at hX _ (by omega) rfl).mono ?_
            rintro e w' ⟨rfl, hf⟩
            have hX := hX.frN hf; have hY := hY.frN hf; have hfr := hfr.trans hf; clear hf
            go_wp2_with fail
            refine (top_r _ _ _ _ _ _ hY (by omega)).mono ?_
            rintro e w' ⟨rfl, hf⟩; subst hf
            go_wp2_with fail
            refine (counts_at hX _ (by omega) rfl).mono ?_
            rintro e w' ⟨rfl, hf⟩
            have hX := hX.frN hf; have hY := hY.frN hf; have hfr := hfr.trans hf; clear hf
            go_wp2_with fail
            refine (counts_r _ _ _ _ _ _ hY (by omega)).mono ?_
            rintro e w' ⟨rfl, hf⟩; subst hf
            go_wp2_with fail
            refine (number_at hX _ (by omega) rfl).mono ?_
            rintro e w' ⟨rfl, hf⟩
            have hX := hX.frN hf; have hY := hY.frN hf; have hfr := hfr.trans hf; clear hf
            go_wp2_with fail
            refine (number_r _ _ _ _ _ _ hY (by omega)).mono ?_
            rintro e w' ⟨rfl, hf⟩
            have hX := hX.frN hf; have hY := hY.frN hf; have hfr := hfr.trans hf; clear hf
            go_wp2_with fail
            go_roundg ((T3.length : Int) + 2 - (z + 1)).toNat
            case measure => omega
            case rel => exact ⟨z + 1, by omega, by omega, rfl, by go_num, hfr⟩
          · have hzz : decide (z ≤ (T3.length : Int) + 1) = false := by simpa using hz
            have hM7 := hM6.frN hfr
            have hR7 := hR6.frN hfr
            clear hM6 hR6 hX hfr
            go_wp2_with fail
            go_roundg (len - (i + 1))
            case measure => omega
            case rel => exact ⟨i + 1, T3, last3, by omega, rfl, by go_num, hM7, hR7, by omega, by omega, hI'⟩

      · have hb0 : (kd == 0) = false := by rw [beq_eq_false_iff_ne]; exact k0
        by_cases k1 : kd = 1
        · subst k1
          have eA : doA T 1 idd = 0 := by simp [doA]
          have eE : doE T 1 idd = endE T idd := by simp [doE]
          have eT : doT T last 1 idd = commitT T last idd := by simp [doT]
          have eL : doL T last 1 idd = commitL T last idd := by simp [doL]
          rw [eA, eE]
          rw [eT, eL] at hM5 hI'
          rw [eT] at hTl
          rw [eL] at hLl
          clear eA eE eT eL hb0 k0
          go_wp2_with fail
          refine (commitr_m hR5 hI (by omega) (by omega)).mono ?_
          rintro e w6 ⟨rfl, hR6, hx6⟩
          have hM6 := hM5.frTT hx6 (by decide) (by decide) hR6.fr
          have hl3 : commitL T last idd ≤ i + 1 := by omega
          clear hM5 hR5 hx6 h3 h4 hI
          generalize endE T idd = ee at *
          generalize commitT T last idd = T3 at *
          generalize commitL T last idd = last3 at *
          have hlen3 : T3.length ≤ 60 := by omega
          obtain ⟨R1, hX, _⟩ := hM6.tab
          obtain ⟨R2, hY, _⟩ := hR6.tab
          obtain ⟨ay, cy, hy0, hy1⟩ := hY.head
          have x0 := Ext.cell hy0
          have x1 := Ext.cell hy1
          have hXL := fun (x : Ext w6) => last_at (hX.frN x.fr) _ rfl
          have hXN := fun (x : Ext w6) => len_at (hX.frN x.fr) _ rfl
          have hYL : ∀ x : Ext w6, Calls Try.prog 22 #[.pointer (some ⟨q, 0, none⟩)] x.w fun e w' => e = .returned (.int .i64 last3) ∧ Fr noB x.w w' := fun x => (last_r _ _ _ _ _ (hY.frN x.fr)).mono fun _ _ h => ⟨h.1, h.2 ▸ Fr.refl _ _⟩
          have HXL := Lib.hid hXL; have HXN := Lib.hid hXN; have HYL := Lib.hid hYL
          clear hXL hXN hYL
          go_upto_region 17 with fail
          refine wp_region_ext (by kernel_rfl) (by kernel_rfl) ?_
          repeat (go_big_quiet_step (first | (go_at_call 21; exact Ext.calls (HXL.out _)) | (go_at_call 23; exact Ext.calls (HXN.out _)) | (go_at_call 22; exact Ext.calls (HYL.out _))))
          refine wpQuiet_nil ?_
          rintro w7 ⟨⟨_, hf7⟩, rfl⟩
          clear x0 x1 hy0 hy1 HXL HXN HYL
          have hX := hX.frN hf7
          have hY := hY.frN hf7
          go_wp2_with fail
          go_loopg [10] (T3.length + 3) (fun g iv wx => ∃ z : Int, -1 ≤ z ∧ z ≤ T3.length + 2 ∧ g = ((T3.length : Int) + 2 - z).toNat ∧ iv = .int .i64 z ∧ Fr noB w6 wx)
          case atStart => exact ⟨-1, by omega, by omega, by omega, rfl, hf7⟩
          case round =>
            clear hX hY hf7
            obtain ⟨z, hz1, hz2, rfl, rfl, hfr⟩ := hrel
            obtain ⟨R1, hX, _⟩ := (hM6.frN hfr).tab
            obtain ⟨R2, hY, _⟩ := (hR6.frN hfr).tab
            obtain ⟨ay, cy, hy0, hy1⟩ := hY.head
            by_cases hz : z ≤ (T3.length : Int) + 1
            · have hzz : decide (z ≤ (T3.length : Int) + 1) = true := by simpa using hz
              go_wp2_with fail
              refine (state_at hX _ (by omega) rfl).mono ?_
              rintro e w' ⟨rfl, hf⟩
              have hX := hX.frN hf; have hY := hY.frN hf; have hfr := hfr.trans hf; clear hf
              go_wp2_with fail
              refine (state_r _ _ _ _ _ _ hY (by omega)).mono ?_
              rintro e w' ⟨rfl, hf⟩; subst hf
              go_wp2_with fail
              refine (top_at hX _ (by omega) rfl).mono ?_
              rintro e w' ⟨rfl, hf⟩
              have hX := hX.frN hf; have hY := hY.frN hf; have hfr := hfr.trans hf; clear hf
              go_wp2_with fail
              refine (top_r _ _ _ _ _ _ hY (by omega)).mono ?_
              rintro e w' ⟨rfl, hf⟩; subst hf
              go_wp2_with fail
              refine (counts_at hX _ (by omega) rfl).mono ?_
              rintro e w' ⟨rfl, hf⟩
              have hX := hX.frN hf; have hY := hY.frN hf; have hfr := hfr.trans hf; clear hf
              go_wp2_with fail
              refine (counts_r _ _ _ _ _ _ hY (by omega)).mono ?_
              rintro e w' ⟨rfl, hf⟩; subst hf
              go_wp2_with fail
              refine (number_at hX _ (by omega) rfl).mono ?_
              rintro e w' ⟨rfl, hf⟩
              have hX := hX.frN hf; have hY := hY.frN hf; have hfr := hfr.trans hf; clear hf
              go_wp2_with fail
              refine (number_r _ _ _ _ _ _ hY (by omega)).mono ?_
              rintro e w' ⟨rfl, hf⟩
              have hX := hX.frN hf; have hY := hY.frN hf; have hfr := hfr.trans hf; clear hf
              go_wp2_with fail
              go_roundg ((T3.length : Int) + 2 - (z + 1)).toNat
              case measure => omega
              case rel => exact ⟨z + 1, by omega, by omega, rfl, by go_num, hfr⟩
            · have hzz : decide (z ≤ (T3.length : Int) + 1) = false := by simpa using hz
              have hM7 := hM6.frN hfr
              have hR7 := hR6.frN hfr
              clear hM6 hR6 hX hfr
              go_wp2_with fail
              go_roundg (len - (i + 1))
              case measure => omega
              case rel => exact ⟨i + 1, T3, last3, by omega, rfl, by go_num, hM7, hR7, by omega, by omega, hI'⟩
        · have hb1 : (kd == 1) = false := by rw [beq_eq_false_iff_ne]; exact k1
          have eA : doA T kd idd = 0 := by simp [doA, k0]
          have eE : doE T kd idd = endE T idd := by simp [doE, k0]
          have eT : doT T last kd idd = abortT T idd := by simp [doT, k0, k1]
          have eL : doL T last kd idd = last := by simp [doL, k1]
          rw [eA, eE]
          rw [eT, eL] at hM5 hI'
          rw [eT] at hTl
          clear eA eE eT eL k0 k1 hLl
          go_wp2_with fail
          refine (abortr_m hR5 hI (by omega) (by omega)).mono ?_
          rintro e w6 ⟨rfl, hR6, hx6⟩
          have hM6 := hM5.frTT hx6 (by decide) (by decide) hR6.fr
          have hl3 : last ≤ i + 1 := by omega
          clear hM5 hR5 hx6 h3 h4 hI
          generalize endE T idd = ee at *
          generalize abortT T idd = T3 at *
          generalize last = last3 at *
          have hlen3 : T3.length ≤ 60 := by omega
          obtain ⟨R1, hX, _⟩ := hM6.tab
          obtain ⟨R2, hY, _⟩ := hR6.tab
          obtain ⟨ay, cy, hy0, hy1⟩ := hY.head
          have x0 := Ext.cell hy0
          have x1 := Ext.cell hy1
          have hXL := fun (x : Ext w6) => last_at (hX.frN x.fr) _ rfl
          have hXN := fun (x : Ext w6) => len_at (hX.frN x.fr) _ rfl
          have hYL : ∀ x : Ext w6, Calls Try.prog 22 #[.pointer (some ⟨q, 0, none⟩)] x.w fun e w' => e = .returned (.int .i64 last3) ∧ Fr noB x.w w' := fun x => (last_r _ _ _ _ _ (hY.frN x.fr)).mono fun _ _ h => ⟨h.1, h.2 ▸ Fr.refl _ _⟩
          have HXL := Lib.hid hXL; have HXN := Lib.hid hXN; have HYL := Lib.hid hYL
          clear hXL hXN hYL
          go_upto_region 17 with fail
          refine wp_region_ext (by kernel_rfl) (by kernel_rfl) ?_
          repeat (go_big_quiet_step (first | (go_at_call 21; exact Ext.calls (HXL.out _)) | (go_at_call 23; exact Ext.calls (HXN.out _)) | (go_at_call 22; exact Ext.calls (HYL.out _))))
          refine wpQuiet_nil ?_
          rintro w7 ⟨⟨_, hf7⟩, rfl⟩
          clear x0 x1 hy0 hy1 HXL HXN HYL
          have hX := hX.frN hf7
          have hY := hY.frN hf7
          go_wp2_with fail
          go_loopg [10] (T3.length + 3) (fun g iv wx => ∃ z : Int, -1 ≤ z ∧ z ≤ T3.length + 2 ∧ g = ((T3.length : Int) + 2 - z).toNat ∧ iv = .int .i64 z ∧ Fr noB w6 wx)
          case atStart => exact ⟨-1, by omega, by omega, by omega, rfl, hf7⟩
          case round =>
            clear hX hY hf7
            obtain ⟨z, hz1, hz2, rfl, rfl, hfr⟩ := hrel
            obtain ⟨R1, hX, _⟩ := (hM6.frN hfr).tab
            obtain ⟨R2, hY, _⟩ := (hR6.frN hfr).tab
            obtain ⟨ay, cy, hy0, hy1⟩ := hY.head
            by_cases hz : z ≤ (T3.length : Int) + 1
            · have hzz : decide (z ≤ (T3.length : Int) + 1) = true := by simpa using hz
              go_wp2_with fail
              refine (state_at hX _ (by omega) rfl).mono ?_
              rintro e w' ⟨rfl, hf⟩
              have hX := hX.frN hf; have hY := hY.frN hf; have hfr := hfr.trans hf; clear hf
              go_wp2_with fail
              refine (state_r _ _ _ _ _ _ hY (by omega)).mono ?_
              rintro e w' ⟨rfl, hf⟩; subst hf
              go_wp2_with fail
              refine (top_at hX _ (by omega) rfl).mono ?_
              rintro e w' ⟨rfl, hf⟩
              have hX := hX.frN hf; have hY := hY.frN hf; have hfr := hfr.trans hf; clear hf
              go_wp2_with fail
              refine (top_r _ _ _ _ _ _ hY (by omega)).mono ?_
              rintro e w' ⟨rfl, hf⟩; subst hf
              go_wp2_with fail
              refine (counts_at hX _ (by omega) rfl).mono ?_
              rintro e w' ⟨rfl, hf⟩
              have hX := hX.frN hf; have hY := hY.frN hf; have hfr := hfr.trans hf; clear hf
              go_wp2_with fail
              refine (counts_r _ _ _ _ _ _ hY (by omega)).mono ?_
              rintro e w' ⟨rfl, hf⟩; subst hf
              go_wp2_with fail
              refine (number_at hX _ (by omega) rfl).mono ?_
              rintro e w' ⟨rfl, hf⟩
              have hX := hX.frN hf; have hY := hY.frN hf; have hfr := hfr.trans hf; clear hf
              go_wp2_with fail
              refine (number_r _ _ _ _ _ _ hY (by omega)).mono ?_
              rintro e w' ⟨rfl, hf⟩
              have hX := hX.frN hf; have hY := hY.frN hf; have hfr := hfr.trans hf; clear hf
              go_wp2_with fail
              go_roundg ((T3.length : Int) + 2 - (z + 1)).toNat
              case measure => omega
              case rel => exact ⟨z + 1, by omega, by omega, rfl, by go_num, hfr⟩
            · have hzz : decide (z ≤ (T3.length : Int) + 1) = false := by simpa using hz
              have hM7 := hM6.frN hfr
              have hR7 := hR6.frN hfr
              clear hM6 hR6 hX hfr
              go_wp2_with fail
              go_roundg (len - (i + 1))
              case measure => omega
              case rel => exact ⟨i + 1, T3, last3, by omega, rfl, by go_num, hM7, hR7, by omega, by omega, hI'⟩
    · go_wp2_with fail
      go_ret
      exact ⟨rfl, hM.fr⟩

end Go.Proofs.Ytfgkocpmgoaljaa
