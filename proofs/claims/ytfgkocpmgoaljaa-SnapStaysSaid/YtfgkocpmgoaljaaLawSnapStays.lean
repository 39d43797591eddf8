/- The walk of the statement SnapStays. The condition: the arguments read as data. -/
import Derived.Test.YtfgkocpmgoaljaaSnapX
import Derived.Test.YtfgkocpmgoaljaaSnapS
import Derived.Test.YtfgkocpmgoaljaaXidS
import Derived.Test.YtfgkocpmgoaljaaRead
import Derived.Test.YtfgkocpmgoaljaaExt
import Derived.Deep.RegionWith
import Derived.Deep.LoopGhost
import Derived.Deep.DeepCutAuto
import Derived.BigRegion
import Derived.BigQuiet
namespace Go.Proofs.Ytfgkocpmgoaljaa
open Go.RowKit Go.Shelf Xid

theorem sees_0 (T : List One) (att id : Int) : seesOf T att 0 id = oldOf T att id := by simp [seesOf, ownOf]

set_option maxRecDepth 100000 in
set_option maxHeartbeats 40000000 in
theorem sstays_law (a1 : Option Addr) (len1 cap1 : Nat) (L1 : List (Int × Int)) (hL1 : L1.length = len1) (hcap1 : len1 ≤ cap1 ∧ cap1 ≤ maxLen) (a2 : Option Addr) (len2 cap2 : Nat) (L2 : List (Int × Int)) (hL2 : L2.length = len2) (hcap2 : len2 ≤ cap2 ∧ cap2 ≤ maxLen)
    (w : World) (_ : ∀ p ∈ L1, (Lit.int .u8 p.1).wf = true ∧ (Lit.int .i64 p.2).wf = true) (hS1 : IsPairs .u8 .i64 w a1 L1) (_ : ∀ p ∈ L2, (Lit.int .u8 p.1).wf = true ∧ (Lit.int .i64 p.2).wf = true) (hS2 : IsPairs .u8 .i64 w a2 L2) :
    Calls Try.prog 10 #[.slice a1 len1 cap1, .slice a2 len2 cap2] w fun e w' => e = .returned (.bool true) ∧ Fr noB w w' := by
  obtain ⟨hc1, hc2⟩ := hcap1
  obtain ⟨hc3, hc4⟩ := hcap2
  unfold maxLen at hc2 hc4
  by_cases h60 : 200 < len1
  · go_enter Try.func10, Try.ntmps10
    go_wp2_with fail
    refine (awake_any w).mono ?_
    rintro e w1 ⟨rfl, hf1⟩
    go_wp2_with fail
    go_ret
    exact ⟨rfl, hf1⟩
  by_cases h61 : 200 < len2
  · go_enter Try.func10, Try.ntmps10
    go_wp2_with fail
    refine (awake_any w).mono ?_
    rintro e w1 ⟨rfl, hf1⟩
    go_wp2_with fail
    go_ret
    exact ⟨rfl, hf1⟩
  go_enter Try.func10, Try.ntmps10
  go_wp2_with fail
  refine (awake_any w).mono ?_
  rintro e w1 ⟨rfl, hf1⟩
  go_wp2_with fail
  refine (new_mine w w1 hf1).mono ?_
  rintro e w2 ⟨rfl, hM0⟩
  obtain ⟨p, hp⟩ : ∃ p, w1.heap.size = p := ⟨_, rfl⟩
  rw [hp] at hM0 ⊢
  clear hp hf1
  go_wp2_with fail
  have HL1 := Lib.hid hL1; have HL2 := Lib.hid hL2
  clear hL1 hL2
  go_loopg [6] len1 (fun g iv wr => ∃ (i : Nat) (T : List One) (last : Nat), i ≤ len1 ∧ g = len1 - i ∧ iv = .int .i64 i ∧ Mine w wr p T last ∧ T.length ≤ i ∧ last ≤ i ∧ Inv T last)
  case atStart => exact ⟨0, [], 0, by omega, by omega, rfl, hM0, by simp, by omega, Inv.nil⟩
  case round =>
    obtain ⟨i, T, last, hil, rfl, rfl, h, hTi, hla, hI⟩ := hrel
    by_cases hlt : i < len1
    · obtain ⟨ad, ha, h1, h2⟩ := (hS1.fr h.fr).cell i (by rw [HL1.out]; exact hlt)
      subst ha
      have hd := do10_mine h (L1.getD i (0, 0)).1 (L1.getD i (0, 0)).2 (by omega) (by omega)
      have hI' := hI.do (L1.getD i (0, 0)).1 (L1.getD i (0, 0)).2
      have hTl := doT_length T last (L1.getD i (0, 0)).1 (L1.getD i (0, 0)).2
      have hLl := doL_le T last (L1.getD i (0, 0)).1 (L1.getD i (0, 0)).2
      generalize (L1.getD i (0, 0)).1 = kd at *
      generalize (L1.getD i (0, 0)).2 = idd at *
      clear h
      go_wp2_with fail
      refine hd.mono ?_
      rintro e w4 ⟨rfl, hM4, _⟩
      go_wp2_with fail
      go_roundg (len1 - (i + 1))
      case measure => omega
      case rel => exact ⟨i + 1, _, _, by omega, rfl, by go_num, hM4, by omega, by omega, hI'⟩
    · have hTl : T.length ≤ 200 := by omega
      have hll : last ≤ 200 := by omega
      clear hTi hla hil hM0
      go_wp2_with fail
      refine (now_m h 0).mono ?_
      rintro e w3 ⟨rfl, h', hx⟩
      clear h hx
      have h := h'
      clear h'
      obtain ⟨cs0, hcs0, hz⟩ : ∃ cs : Array Value, cs.size = 401 ∧ ∀ W, (zeroValue 61).run Try.prog W = .ok (.agg cs) W := ⟨Array.replicate 401 (.bool false), by simp, fun W => by kernel_rfl⟩
      have hq0 : w.heap.size ≤ w3.heap.size := h.fr.size
      have hfa : Fr noB w3 ((w3.alloc (.cells #[.int .i64 last, .int .i64 0] 50)).alloc (.cells cs0 61)) := ((Fr.refl _ _).alloc _).alloc _
      have hv := obj_alloc (obj_alloc_new w3 (.cells #[.int .i64 last, .int .i64 0] 50)) (.cells cs0 61)
      have ha := obj_alloc_new (w3.alloc (.cells #[.int .i64 last, .int .i64 0] 50)) (.cells cs0 61)
      rw [World.size_alloc] at ha
      have h := h.frN hfa
      clear hfa
      go_upto_region 10 with fail
      generalize (w3.alloc (.cells #[.int .i64 last, .int .i64 0] 50)).alloc (.cells cs0 61) = w4 at *
      generalize w3.heap.size = q1 at *
      clear hz
      go_wp2_with fail
      go_loopg [9] 401 (fun g iv wr => ∃ (k : Nat) (cs : Array Value), 1 ≤ k ∧ k ≤ 401 ∧ g = 402 - k ∧ iv = .int .i64 k ∧ Mine w wr p T last ∧ wr.heap[q1]? = some (.cells #[.int .i64 last, .int .i64 0] 50 (0, 0)) ∧
        wr.heap[q1 + 1]? = some (.cells cs 61 (0, 0)) ∧ cs.size = 401 ∧ ∀ j : Nat, 1 ≤ j → j < k → cs[j]? = some (.bool (oldOf T last j)))
      case atStart => exact ⟨1, cs0, by omega, by omega, by omega, rfl, h, hv, ha, hcs0, fun j h1 h2 => by omega⟩
      case round =>
        clear h hv ha hcs0
        obtain ⟨k, cs, hk1, hk2, rfl, rfl, h, hv, ha, hcs, hall⟩ := hrel
        obtain ⟨hva, hvb⟩ := viewer_cells hv
        by_cases hk : k < 401
        · have hk0 : (0 : Int) ≤ (k : Int) := by omega
          have hk3 : (k : Int) < 401 := by omega
          have HALL := Lib.hid hall
          clear hall
          go_wp2_with fail
          refine (sees_m h last 0 (oldOf T last k) (by omega) (sees_0 _ _ _)).mono ?_
          rintro e w' ⟨rfl, h', hx⟩
          have hv' := hx.obj (fun x => x) hv
          have ha' := hx.obj (fun x => x) ha
          obtain ⟨u, hu⟩ : ∃ u, cs[k]? = some u := ⟨_, Array.getElem?_eq_getElem (by omega)⟩
          have hc := cell_of_obj ha' k
          rw [hu] at hc
          have hfz := frozen_of_obj ha' k
          have hfs : Fr (fun b => b = q1 + 1) w' (w'.setCell ⟨q1 + 1, k, none⟩ (.bool (oldOf T last k))) := (Fr.refl (fun b => b = q1 + 1) w').setCell (fun _ => rfl) _
          have hm := h'.other hfs (by rintro _ rfl; omega) (by rintro _ c t fz rfl h1; rw [ha'] at h1; cases h1; decide)
          have hv2 := obj_setCell_other hv' ⟨q1 + 1, k, none⟩ (.bool (oldOf T last k)) (by dsimp only; omega)
          have ha2 := obj_setCell ha' k (.bool (oldOf T last k))
          have HU := Lib.hid hu
          clear hx h hv ha hva hvb hv' hu hfs h'
          go_wp2_with fail
          go_roundg (402 - (k + 1))
          case measure => omega
          case rel =>
            refine ⟨k + 1, _, by omega, by omega, rfl, by go_num, hm, hv2, ha2, by simp [hcs], fun j h1 h2 => ?_⟩
            by_cases hjk : j = k
            · subst hjk
              rw [Array.getElem?_setIfInBounds]
              simp [hcs, hk]
            · rw [Array.getElem?_setIfInBounds, if_neg (by omega)]
              exact HALL.out j h1 (by omega)
        · obtain rfl : k = 401 := by omega
          have HALL := Lib.hid hall
          clear hall hk hk1 hk2
          go_wp2_with fail
          go_loopg [10] len2 (fun g iv wx => ∃ (i : Nat) (T' : List One) (last' : Nat), i ≤ len2 ∧ g = len2 - i ∧ iv = .int .i64 i ∧ Mine w wx p T' last' ∧ T'.length ≤ 200 + i ∧ last' ≤ 200 + i ∧ last ≤ last' ∧ Inv T' last' ∧
            wx.heap[q1]? = some (.cells #[.int .i64 last, .int .i64 0] 50 (0, 0)) ∧ wx.heap[q1 + 1]? = some (.cells cs 61 (0, 0)) ∧ ∀ j : Nat, oldOf T' last ((j : Int) + 1) = oldOf T last ((j : Int) + 1))
          case atStart => exact ⟨0, T, last, by omega, by omega, rfl, h, by omega, by omega, by omega, hI, hv, ha, fun _ => rfl⟩
          case round =>
            clear h hv ha hva hvb
            obtain ⟨j, T2, last2, hjl, rfl, rfl, h, hl1, hl2, hl3, hI2, hv, ha, hold⟩ := hrel
            by_cases hjt : j < len2
            · obtain ⟨ad, had, h1, h2⟩ := (hS2.fr h.fr).cell j (by rw [HL2.out]; exact hjt)
              subst had
              have hd := do10_mine h (L2.getD j (0, 0)).1 (L2.getD j (0, 0)).2 (by omega) (by omega)
              have hI' := hI2.do (L2.getD j (0, 0)).1 (L2.getD j (0, 0)).2
              have hTl2 := doT_length T2 last2 (L2.getD j (0, 0)).1 (L2.getD j (0, 0)).2
              have hLl2 := doL_le T2 last2 (L2.getD j (0, 0)).1 (L2.getD j (0, 0)).2
              have hLg2 := doL_ge T2 last2 (L2.getD j (0, 0)).1 (L2.getD j (0, 0)).2
              have hold' := Lib.hid (fun m : Nat => (old_step hI2 (L2.getD j (0, 0)).1 (L2.getD j (0, 0)).2 (att := last) (by omega) m).trans (hold m))
              generalize (L2.getD j (0, 0)).1 = kd at *
              generalize (L2.getD j (0, 0)).2 = idd at *
              clear h hold hI2
              go_wp2_with fail
              refine hd.mono ?_
              rintro e w5 ⟨rfl, hM5, hx⟩
              have hv := hx.obj hv (by decide)
              have ha := hx.obj ha (by decide)
              clear hd hx h1 h2
              generalize doT T2 last2 kd idd = T3 at *
              generalize doL T2 last2 kd idd = last3 at *
              go_wp2_with fail
              go_loopg [11] 401 (fun g iv wx => ∃ k : Nat, 1 ≤ k ∧ k ≤ 401 ∧ g = 402 - k ∧ iv = .int .i64 k ∧ Fr noB w5 wx)
              case atStart => exact ⟨1, by omega, by omega, by omega, rfl, Fr.refl _ _⟩
              case round =>
                obtain ⟨k, hk1, hk2, rfl, rfl, hf⟩ := hrel
                by_cases hk : k < 401
                · obtain ⟨m, rfl⟩ : ∃ m, k = m + 1 := ⟨k - 1, by omega⟩
                  have hk0 : (0 : Int) ≤ ((m + 1 : Nat) : Int) := by omega
                  have hk3 : ((m + 1 : Nat) : Int) < 401 := by omega
                  have hs : seesOf T3 last 0 ((m + 1 : Nat) : Int) = oldOf T last ((m : Int) + 1) := by
                    rw [sees_0]; have := hold'.out m; rwa [show ((m + 1 : Nat) : Int) = (m : Int) + 1 by omega]
                  have hcell := HALL.out (m + 1) (by omega) hk
                  rw [show ((m + 1 : Nat) : Int) = (m : Int) + 1 by omega] at hcell
                  generalize oldOf T last ((m : Int) + 1) = b at *
                  have x0 := Ext.cell (hf.cell (fun x => x) (viewer_cells hv).1)
                  have x1 := Ext.cell (hf.cell (fun x => x) (viewer_cells hv).2)
                  have x2 := Ext.cell (hf.cell (fun x => x) ((cell_of_obj ha (m + 1)).trans hcell))
                  have hT := (hM5.frN hf).tells
                  have HS := Lib.hid hs
                  clear hs hcell
                  go_upto_region 21 with fail
                  refine wp_region_ext (by kernel_rfl) (by kernel_rfl) ?_
                  repeat (go_big_quiet_step ((go_at_call 38; exact Ext.calls (sees_b (hT.frN (Ext.fr _)) _ _ b (by omega) HS.out))))
                  refine wpQuiet_nil ?_
                  rintro w7 ⟨⟨_, hf7⟩, rfl⟩
                  go_wp2_with fail
                  go_roundg (402 - (m + 1 + 1))
                  case measure => omega
                  case rel => exact ⟨m + 1 + 1, by omega, by omega, rfl, by go_num, hf.trans hf7⟩
                · obtain rfl : k = 401 := by omega
                  have h := hM5.frN hf
                  have hv := hf.obj (fun x => x) hv
                  have ha := hf.obj (fun x => x) ha
                  clear hM5 hf
                  go_wp2_with fail
                  go_roundg (len2 - (j + 1))
                  case measure => omega
                  case rel => exact ⟨j + 1, T3, last3, by omega, rfl, by go_num, h, by omega, by omega, by omega, hI', hv, ha, hold'.out⟩
            · go_wp2_with fail
              go_ret
              exact ⟨rfl, h.fr⟩

end Go.Proofs.Ytfgkocpmgoaljaa
