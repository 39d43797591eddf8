/- The walk of the statement XidCopies. The condition: the arguments read as data. -/
import Derived.Test.YtfgkocpmgoaljaaXidK
import Derived.Test.YtfgkocpmgoaljaaXidQ
import Derived.Test.YtfgkocpmgoaljaaRead
import Derived.Test.YtfgkocpmgoaljaaExt
import Derived.Deep.RegionWith
import Derived.Deep.LoopGhost
import Derived.Deep.DeepCutAuto
import Derived.BigRegion
import Derived.BigQuiet
namespace Go.Proofs.Ytfgkocpmgoaljaa
open Go.RowKit Go.Shelf Xid

/-- The first n steps of a list, done. -/
def doN (L : List (Int × Int)) : Nat → List One → Nat → List One × Nat
  | 0, T, l => (T, l)
  | n + 1, T, l => (doT (doN L n T l).1 (doN L n T l).2 (L.getD n (0, 0)).1 (L.getD n (0, 0)).2, doL (doN L n T l).1 (doN L n T l).2 (L.getD n (0, 0)).1 (L.getD n (0, 0)).2)
theorem doN_len (L : List (Int × Int)) (T : List One) (l : Nat) : ∀ n, (doN L n T l).1.length ≤ T.length + n ∧ (doN L n T l).2 ≤ l + n
  | 0 => ⟨Nat.le_refl _, Nat.le_refl _⟩
  | n + 1 => by
    obtain ⟨h1, h2⟩ := doN_len L T l n
    have h3 := doT_length (doN L n T l).1 (doN L n T l).2 (L.getD n (0, 0)).1 (L.getD n (0, 0)).2
    have h4 := doL_le (doN L n T l).1 (doN L n T l).2 (L.getD n (0, 0)).1 (L.getD n (0, 0)).2
    simp only [doN]
    omega

set_option maxRecDepth 100000 in
set_option maxHeartbeats 40000000 in
theorem copies_law (a1 : Option Addr) (len1 cap1 : Nat) (L1 : List (Int × Int)) (hL1 : L1.length = len1) (hcap1 : len1 ≤ cap1 ∧ cap1 ≤ maxLen) (a2 : Option Addr) (len2 cap2 : Nat) (L2 : List (Int × Int)) (hL2 : L2.length = len2) (hcap2 : len2 ≤ cap2 ∧ cap2 ≤ maxLen)
    (w : World) (_ : ∀ p ∈ L1, (Lit.int .u8 p.1).wf = true ∧ (Lit.int .i64 p.2).wf = true) (hS1 : IsPairs .u8 .i64 w a1 L1) (_ : ∀ p ∈ L2, (Lit.int .u8 p.1).wf = true ∧ (Lit.int .i64 p.2).wf = true) (hS2 : IsPairs .u8 .i64 w a2 L2) :
    Calls Try.prog 14 #[.slice a1 len1 cap1, .slice a2 len2 cap2] w fun e w' => e = .returned (.bool true) ∧ Fr noB w w' := by
  obtain ⟨hc1, hc2⟩ := hcap1
  obtain ⟨hc3, hc4⟩ := hcap2
  unfold maxLen at hc2 hc4
  by_cases h60 : 60 < len1
  · go_enter Try.func14, Try.ntmps14
    go_wp2_with fail
    refine (works_any w).mono ?_
    rintro e w1 ⟨rfl, hf1⟩
    go_wp2_with fail
    refine (works_any w1).mono ?_
    rintro e w2 ⟨rfl, hf2⟩
    go_wp2_with fail
    go_ret
    exact ⟨rfl, hf1.trans hf2⟩
  by_cases h61 : 60 < len2
  · go_enter Try.func14, Try.ntmps14
    go_wp2_with fail
    refine (works_any w).mono ?_
    rintro e w1 ⟨rfl, hf1⟩
    go_wp2_with fail
    refine (works_any w1).mono ?_
    rintro e w2 ⟨rfl, hf2⟩
    go_wp2_with fail
    go_ret
    exact ⟨rfl, hf1.trans hf2⟩
  go_enter Try.func14, Try.ntmps14
  go_wp2_with fail
  refine (works_any w).mono ?_
  rintro e w1 ⟨rfl, hf1⟩
  go_wp2_with fail
  refine (new_mine w w1 hf1).mono ?_
  rintro e w2 ⟨rfl, hM0⟩
  obtain ⟨p, hp⟩ : ∃ p, w1.heap.size = p := ⟨_, rfl⟩
  rw [hp] at hM0 ⊢
  clear hp hf1
  go_wp2_with fail
  have HL1 := Lib.hid hL1; have HL2 := Lib.hid hL2
  clear hL1 hL2
  go_loopg [6] len1 (fun g iv wr => ∃ i : Nat, i ≤ len1 ∧ g = len1 - i ∧ iv = .int .i64 i ∧ Mine w wr p (doN L1 i [] 0).1 (doN L1 i [] 0).2)
  case atStart => exact ⟨0, by omega, by omega, rfl, hM0⟩
  case round =>
    obtain ⟨i, hil, rfl, rfl, hM⟩ := hrel
    have hn := doN_len L1 [] 0 i
    simp only [List.length_nil] at hn
    by_cases hlt : i < len1
    · obtain ⟨ad, ha, h1, h2⟩ := (hS1.fr hM.fr).cell i (by rw [HL1.out]; exact hlt)
      subst ha
      have hd := do_mine hM (L1.getD i (0, 0)).1 (L1.getD i (0, 0)).2 (by omega) (by omega)
      generalize hkd : (L1.getD i (0, 0)).1 = kd at h1 hd
      generalize hidd : (L1.getD i (0, 0)).2 = idd at h2 hd
      have HKD := Lib.hid hkd; have HIDD := Lib.hid hidd
      clear hkd hidd
      clear hM
      go_wp2_with fail
      refine hd.mono ?_
      rintro e w4 ⟨rfl, hM4, _⟩
      go_wp2_with fail
      go_roundg (len1 - (i + 1))
      case measure => omega
      case rel => exact ⟨i + 1, by omega, rfl, by go_num, by simp only [doN]; rw [HKD.out, HIDD.out]; exact hM4⟩
    · generalize (doN L1 i [] 0).1 = T at *
      generalize (doN L1 i [] 0).2 = last at *
      obtain ⟨R, hT, hR⟩ := hM.tab
      go_wp2_with fail
      refine (all_any p R T last _ hT (by omega)).mono ?_
      rintro e w3 ⟨v1, rfl, hA1, hf3⟩
      have hM3 := hM.frN hf3
      have hT3 := hT.frN hf3
      generalize hB1 : wr.heap.size = B1 at hA1
      clear hM hT hM0 hf3 hB1
      go_wp2_with fail
      refine (copy_any p R T last w3 hT3 (by omega)).mono ?_
      rintro e w4 ⟨q, R', rfl, hq, hf4, hq1, hq2⟩
      have hQ0 : Mine w3 w4 q T last := ⟨⟨R', hq, hq2⟩, hq1, hf4⟩
      clear hq hf4 hq1 hq2
      go_wp2_with fail
      go_loopg [9] len2 (fun g iv wr => ∃ j : Nat, j ≤ len2 ∧ g = len2 - j ∧ iv = .int .i64 j ∧ Mine w3 wr q (doN L2 j T last).1 (doN L2 j T last).2)
      case atStart => exact ⟨0, by omega, by omega, rfl, hQ0⟩
      case round =>
        clear hQ0
        obtain ⟨j, hjl, rfl, rfl, hQ⟩ := hrel
        have hn2 := doN_len L2 T last j
        by_cases hjt : j < len2
        · obtain ⟨ad, ha, h1, h2⟩ := (hS2.fr (hM3.fr.trans hQ.fr)).cell j (by rw [HL2.out]; exact hjt)
          subst ha
          have hd := do_mine hQ (L2.getD j (0, 0)).1 (L2.getD j (0, 0)).2 (by omega) (by omega)
          generalize hkd : (L2.getD j (0, 0)).1 = kd at h1 hd
          generalize hidd : (L2.getD j (0, 0)).2 = idd at h2 hd
          have HKD := Lib.hid hkd; have HIDD := Lib.hid hidd
          clear hkd hidd
          clear hQ
          go_wp2_with fail
          refine hd.mono ?_
          rintro e w5 ⟨rfl, hQ5, _⟩
          go_wp2_with fail
          go_roundg (len2 - (j + 1))
          case measure => omega
          case rel => exact ⟨j + 1, by omega, rfl, by go_num, by simp only [doN]; rw [HKD.out, HIDD.out]; exact hQ5⟩
        · obtain rfl : len2 = j := by omega
          have HD : Hid (∃ D, doN L2 len2 T last = D) := Lib.hid ⟨_, rfl⟩
          generalize hD1 : (doN L2 len2 T last).1 = T2 at *
          generalize hD2 : (doN L2 len2 T last).2 = last2 at *
          have HD1 := Lib.hid hD1; have HD2 := Lib.hid hD2
          clear hD1 hD2 HD
          obtain ⟨R2, hQT, hQR⟩ := hQ.tab
          go_wp2_with fail
          refine (all_any q R2 T2 last2 _ hQT (by omega)).mono ?_
          rintro e w5 ⟨v3, rfl, hA3, hf5⟩
          have hQ5 := hQ.frN hf5
          generalize hB3 : wr.heap.size = B3 at hA3
          clear hQ hQT hB3 hf5
          have hT5 := hT3.frN hQ5.fr
          go_wp2_with fail
          refine (all_any p R T last _ hT5 (by omega)).mono ?_
          rintro e w6 ⟨v4, rfl, hA4, hf6⟩
          have hA3 := hA3.fr (FrT.ofN (ts := []) hf6) (by simp)
          have hA1 := hA1.fr (FrT.ofN (ts := []) (hQ5.fr.trans hf6)) (by simp)
          have hQ6 := hQ5.frN hf6
          have hM6 := hM3.frN hQ6.fr
          have hT6 := hT3.frN hQ6.fr
          generalize hB4 : w5.heap.size = B4 at hA4
          clear hB4 hT5 hQ5 hf6
          obtain ⟨g1, c1, rfl, hr1⟩ := hA1
          have hA1 : IsAll w6 B1 T (.slice g1 T.length c1) := ⟨g1, c1, rfl, hr1⟩
          obtain ⟨g4, c4, rfl, hr4⟩ := hA4
          have hA4 : IsAll w6 B4 T (.slice g4 T.length c4) := ⟨g4, c4, rfl, hr4⟩
          clear hr1 hr4
          go_wp2_with fail
          go_loopg [12] T.length (fun g iv wr => ∃ k : Nat, k ≤ T.length ∧ g = T.length - k ∧ iv = .int .i64 k ∧ Fr noB w6 wr)
          case atStart => exact ⟨0, by omega, by omega, rfl, Fr.refl _ _⟩
          case round =>
            obtain ⟨k, hkl, rfl, rfl, hfr⟩ := hrel
            by_cases hkt : k < T.length
            · obtain ⟨p1, d1, e1, _, a0, a1, a2, a3⟩ := (hA1.fr (FrT.ofN (ts := []) hfr) (by simp)).cells hkt
              obtain ⟨p4, d4, e4, _, b0, b1, b2, b3⟩ := (hA4.fr (FrT.ofN (ts := []) hfr) (by simp)).cells hkt
              obtain ⟨rfl, rfl⟩ : g1 = some ⟨p1, 0, none⟩ ∧ c1 = d1 := by simpa using e1
              obtain ⟨rfl, rfl⟩ : g4 = some ⟨p4, 0, none⟩ ∧ c4 = d4 := by simpa using e4
              have a0 := Ext.cell a0
              have a1 := Ext.cell a1
              have a2 := Ext.cell a2
              have a3 := Ext.cell a3
              have b0 := Ext.cell b0
              have b1 := Ext.cell b1
              have b2 := Ext.cell b2
              have b3 := Ext.cell b3
              have hk0 : (0 : Int) ≤ (k : Int) := by omega
              have hkt2 : (k : Int) < (T.length : Int) := by omega
              go_upto_region 21 with fail
              refine wp_region_ext (by kernel_rfl) (by kernel_rfl) ?_
              repeat (go_big_quiet_step (fail))
              refine wpQuiet_nil ?_
              rintro w7 ⟨⟨_, hf7⟩, rfl⟩
              go_wp2_with fail
              go_roundg (T.length - (k + 1))
              case measure => omega
              case rel => exact ⟨k + 1, by omega, rfl, by go_num, hfr.trans hf7⟩
            · obtain rfl : k = T.length := by omega
              have hM7 := hM6.frN hfr
              have hT7 := hT6.frN hfr
              have hQ7 := hQ6.frN hfr
              have hA7 := hA3.fr (FrT.ofN (ts := []) hfr) (by simp)
              have hTs := Turned.same hT7
              clear hM6 hT6 hQ6 hA3 hA1 hA4 hfr
              go_wp2_with fail
              obtain ⟨w7, hw7⟩ : ∃ w7, wr = w7 := ⟨_, rfl⟩
              rw [hw7] at hM7 hT7 hQ7 hA7 hTs ⊢
              clear hw7
              go_loopg [13] len2 (fun g iv wr => ∃ j : Nat, j ≤ len2 ∧ g = len2 - j ∧ iv = .int .i64 j ∧ Turned p R (doN L2 j T last).1 (doN L2 j T last).2 w7 wr)
              case atStart => exact ⟨0, by omega, by omega, rfl, hTs⟩
              case round =>
                clear hTs
                obtain ⟨j, hjl, rfl, rfl, ht⟩ := hrel
                have hn2 := doN_len L2 T last j
                have hMt := hM7.turned hR ht
                by_cases hjt : j < len2
                · obtain ⟨ad, ha, h1, h2⟩ := (hS2.fr hMt.fr).cell j (by rw [HL2.out]; exact hjt)
                  subst ha
                  obtain ⟨R3, hT8, hf8, hr8⟩ := ht
                  have hd := do_any hT8 (L2.getD j (0, 0)).1 (L2.getD j (0, 0)).2 (by omega) (by omega)
                  generalize hkd : (L2.getD j (0, 0)).1 = kd at h1 hd
                  generalize hidd : (L2.getD j (0, 0)).2 = idd at h2 hd
                  have HKD := Lib.hid hkd; have HIDD := Lib.hid hidd
                  clear hkd hidd hMt hT8
                  go_wp2_with fail
                  refine hd.mono ?_
                  rintro e w9 ⟨rfl, ht9⟩
                  have ht9 := ht9.more hf8 hr8
                  go_wp2_with fail
                  go_roundg (len2 - (j + 1))
                  case measure => omega
                  case rel => exact ⟨j + 1, by omega, rfl, by go_num, by simp only [doN]; rw [HKD.out, HIDD.out]; exact ht9⟩
                · obtain rfl : len2 = j := by omega
                  rw [HD1.out, HD2.out] at ht hMt hn2
                  obtain ⟨R2, hQT, hQR⟩ := hQ7.tab
                  have hA8 := hA7.fr (ht.frX hT7) (by decide)
                  obtain ⟨R3, hT8, hf8, hr8⟩ := ht
                  have hQ8 : IsT wr q R2 T2 last2 := hQT.fr hf8 fun k h1 h2 => by
                    have h3 := hT3.lt h2
                    rcases h1 with rfl | h1
                    · have := hQ7.pB; omega
                    · have := hQR k h1; omega
                  clear hQT hQR hQ7 hA7 hM7 hT7 hf8 hr8
                  go_wp2_with fail
                  refine (all_any p R3 T2 last2 _ hT8 (by omega)).mono ?_
                  rintro e w9 ⟨v5, rfl, hA9, hf9⟩
                  have hT9 := hT8.frN hf9
                  have hQ9 := hQ8.frN hf9
                  have hM9 := hMt.frN hf9
                  have hA3 := hA8.fr (FrT.ofN (ts := []) hf9) (by simp)
                  generalize hB9 : wr.heap.size = B9 at hA9
                  clear hB9 hT8 hQ8 hMt hA8 hf9
                  obtain ⟨g1, c1, rfl, hr1⟩ := hA3
                  have hA1 : IsAll w9 B3 T2 (.slice g1 T2.length c1) := ⟨g1, c1, rfl, hr1⟩
                  obtain ⟨g4, c4, rfl, hr4⟩ := hA9
                  have hA4 : IsAll w9 B9 T2 (.slice g4 T2.length c4) := ⟨g4, c4, rfl, hr4⟩
                  clear hr1 hr4
                  go_wp2_with fail
                  refine (last_at hQ9 _ rfl).mono ?_
                  rintro e w10 ⟨rfl, hf10⟩
                  go_wp2_with fail
                  refine (last_at (hT9.frN hf10) _ rfl).mono ?_
                  rintro e w11 ⟨rfl, hf11⟩
                  have hf := hf10.trans hf11
                  clear hf10 hf11
                  go_wp2_with fail
                  go_loopg [14] T2.length (fun g iv wr => ∃ k : Nat, k ≤ T2.length ∧ g = T2.length - k ∧ iv = .int .i64 k ∧ Fr noB w9 wr)
                  case atStart => exact ⟨0, by omega, by omega, rfl, hf⟩
                  case round =>
                    clear hf
                    obtain ⟨k, hkl, rfl, rfl, hfr⟩ := hrel
                    by_cases hkt : k < T2.length
                    · obtain ⟨p1, d1, e1, _, a0, a1, a2, a3⟩ := (hA1.fr (FrT.ofN (ts := []) hfr) (by simp)).cells hkt
                      obtain ⟨p4, d4, e4, _, b0, b1, b2, b3⟩ := (hA4.fr (FrT.ofN (ts := []) hfr) (by simp)).cells hkt
                      obtain ⟨rfl, rfl⟩ : g1 = some ⟨p1, 0, none⟩ ∧ c1 = d1 := by simpa using e1
                      obtain ⟨rfl, rfl⟩ : g4 = some ⟨p4, 0, none⟩ ∧ c4 = d4 := by simpa using e4
                      have a0 := Ext.cell a0
                      have a1 := Ext.cell a1
                      have a2 := Ext.cell a2
                      have a3 := Ext.cell a3
                      have b0 := Ext.cell b0
                      have b1 := Ext.cell b1
                      have b2 := Ext.cell b2
                      have b3 := Ext.cell b3
                      have hk0 : (0 : Int) ≤ (k : Int) := by omega
                      have hkt2 : (k : Int) < (T2.length : Int) := by omega
                      go_upto_region 33 with fail
                      refine wp_region_ext (by kernel_rfl) (by kernel_rfl) ?_
                      repeat (go_big_quiet_step (fail))
                      refine wpQuiet_nil ?_
                      rintro w7 ⟨⟨_, hf7⟩, rfl⟩
                      go_wp2_with fail
                      go_roundg (T2.length - (k + 1))
                      case measure => omega
                      case rel => exact ⟨k + 1, by omega, rfl, by go_num, hfr.trans hf7⟩
                    · obtain rfl : k = T2.length := by omega
                      go_wp2_with fail
                      go_ret
                      exact ⟨rfl, hM9.fr.trans hfr⟩

end Go.Proofs.Ytfgkocpmgoaljaa
