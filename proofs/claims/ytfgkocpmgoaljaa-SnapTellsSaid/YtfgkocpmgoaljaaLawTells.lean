/- The walk of the statement SnapTells. The condition: the arguments read as data. -/
import Derived.Test.YtfgkocpmgoaljaaRef10
import Derived.Test.YtfgkocpmgoaljaaRead
import Derived.Test.YtfgkocpmgoaljaaExt
import Derived.Deep.RegionWith
import Derived.Deep.LoopGhost
import Derived.Deep.DeepCutAuto
import Derived.BigRegion
import Derived.BigQuiet
namespace Go.Proofs.Ytfgkocpmgoaljaa
open Go.RowKit Go.Shelf Xid

theorem two_tell (w : World) (A B : Obj) : ((w.alloc A).alloc B).heap[w.heap.size]? = some A ∧ ((w.alloc A).alloc B).heap[w.heap.size + 1]? = some B := by
  refine ⟨obj_alloc (obj_alloc_new w A) B, ?_⟩
  have := obj_alloc_new (w.alloc A) B
  rw [World.size_alloc] at this
  exact this

set_option maxRecDepth 100000 in
set_option maxHeartbeats 40000000 in
theorem tells_law (a : Option Addr) (len cap : Nat) (L : List (Int × Int)) (hL : L.length = len) (hcap : len ≤ cap ∧ cap ≤ maxLen) (att me id : Int) (w : World) (_ : ∀ p ∈ L, (Lit.int .u8 p.1).wf = true ∧ (Lit.int .i64 p.2).wf = true) (hS : IsPairs .u8 .i64 w a L)
    (_ : (Lit.int .i64 att).wf = true) (_ : (Lit.int .i64 me).wf = true) (_ : (Lit.int .i64 id).wf = true) :
    Calls Try.prog 9 #[.slice a len cap, .int .i64 att, .int .i64 me, .int .i64 id] w fun e w' => e = .returned (.bool true) ∧ Fr noB w w' := by
  obtain ⟨hc1, hc2⟩ := hcap
  unfold maxLen at hc2
  by_cases h80 : 200 < len
  · go_enter Try.func9, Try.ntmps9
    go_wp2_with fail
    refine (awake_any _).mono ?_
    rintro e w1 ⟨rfl, hf1⟩
    go_wp2_with fail
    go_ret
    exact ⟨rfl, hf1⟩
  go_enter Try.func9, Try.ntmps9
  go_wp2_with fail
  refine (new_mine w w (Fr.refl _ _)).mono ?_
  rintro e w1 ⟨rfl, hM0⟩
  generalize w.heap.size = p at *
  go_wp2_with fail
  refine (new_r w w1 hM0.fr).mono ?_
  rintro e w2 ⟨rfl, hR0, hf2⟩
  have hM0 := hM0.frN hf2
  generalize w1.heap.size = q at *
  clear hf2
  go_wp2_with fail
  have HL := Lib.hid hL
  clear hL
  go_loopg [11] len (fun g iv wr => ∃ (i : Nat) (T : List One) (last : Nat), i ≤ len ∧ g = len - i ∧ iv = .int .i64 i ∧ Mine w wr p T last ∧ MineR w wr q T last ∧ T.length ≤ i ∧ last ≤ i ∧ Inv T last)
  case atStart => exact ⟨0, [], 0, by omega, by omega, rfl, hM0, hR0, by simp, by omega, Inv.nil⟩
  case round =>
    clear hM0 hR0
    obtain ⟨i, T, last, hil, rfl, rfl, hM, hR, hTi, hla, hI⟩ := hrel
    by_cases hlt : i < len
    · obtain ⟨ad, ha, h1, h2⟩ := (hS.fr hM.fr).cell i (by rw [HL.out]; exact hlt)
      subst ha
      have hS0 := hS
      generalize hkd : (L.getD i (0, 0)).1 = kd at h1
      generalize hidd : (L.getD i (0, 0)).2 = idd at h2
      have HKD := Lib.hid hkd; have HIDD := Lib.hid hidd
      clear hkd hidd
      have hI' := hI.do kd idd
      have hTl := doT_length T last kd idd
      have hLl := doL_le T last kd idd
      go_wp2_with fail
      refine (do10_mine hM kd idd (by omega) (by omega)).mono ?_
      rintro e w5 ⟨rfl, hM5, hx⟩
      have hR5 := hR.frTT hx (by decide) (by decide) hM5.fr
      obtain ⟨ad', ha', h3, h4⟩ := (hS0.fr hM5.fr).cell i (by rw [HL.out]; exact hlt)
      obtain rfl : ad = ad' := by simpa using ha'
      rw [HKD.out] at h3; rw [HIDD.out] at h4
      clear h1 h2 ha' hM hR hx
      go_wp2_with fail
      refine (told_m hR5 hI kd idd (by omega) (by omega)).mono ?_
      rintro e w6 ⟨rfl, hR6, hx6⟩
      have hM6 := hM5.frTT hx6 (by decide) (by decide) hR6.fr
      clear hM5 hR5 hx6 h3 h4
      go_wp2_with fail
      go_roundg (len - (i + 1))
      case measure => omega
      case rel => exact ⟨i + 1, _, _, by omega, rfl, by go_num, hM6, hR6, by omega, by omega, hI'⟩
    · have hTl : T.length ≤ 200 := by omega
      clear hTi hla hil hI
      go_wp2_with fail
      refine (now_m hM me).mono ?_
      rintro e w3 ⟨rfl, hM3, hf3⟩
      have hR3 := hR.frN hf3
      obtain ⟨R2, hY, _⟩ := hR3.tab
      clear hM hR hf3
      go_wp2_with fail
      refine (now_d me hY).mono ?_
      rintro e w4 ⟨rfl, hf4⟩
      have hM4 := hM3.frN hf4
      have hR4 := hR3.frN hf4
      clear hM3 hR3 hY hf4
      have hq0 : w.heap.size ≤ w4.heap.size := hM4.fr.size
      have hfa : Fr noB w4 ((w4.alloc (.cells #[.int .i64 last, .int .i64 me] 50)).alloc (.cells #[.int .i64 last, .int .i64 me] 57)) := ((Fr.refl _ _).alloc _).alloc _
      obtain ⟨hv, hu⟩ := two_tell w4 (.cells #[.int .i64 last, .int .i64 me] 50) (.cells #[.int .i64 last, .int .i64 me] 57)
      obtain ⟨hva, hvb⟩ := viewer_cells hv
      obtain ⟨hua, hub⟩ := viewer_cells hu
      have hM4 := hM4.frN hfa
      have hR4 := hR4.frN hfa
      clear hfa
      go_upto_region 12 with fail
      generalize (w4.alloc (.cells #[.int .i64 last, .int .i64 me] 50)).alloc (.cells #[.int .i64 last, .int .i64 me] 57) = w5 at *
      generalize w4.heap.size = q1 at *
      clear hva hvb hua hub
      go_wp2_with fail
      go_loopg [14] 2 (fun g iv wx => ∃ (n : Nat) (at1 : Int), n ≤ 2 ∧ g = 2 - n ∧ iv = .int .i64 n ∧ Mine w wx p T last ∧ MineR w wx q T last ∧
        wx.heap[q1]? = some (.cells #[.int .i64 at1, .int .i64 me] 50 (0, 0)) ∧ wx.heap[q1 + 1]? = some (.cells #[.int .i64 at1, .int .i64 me] 57 (0, 0)))
      case atStart => exact ⟨0, last, by omega, by omega, rfl, hM4, hR4, hv, hu⟩
      case round =>
        clear hM4 hR4 hv hu
        obtain ⟨n, at1, hn, rfl, rfl, hM, hR, hv, hu⟩ := hrel
        by_cases hn2 : n < 2
        · obtain ⟨hva, hvb⟩ := viewer_cells hv
          obtain ⟨hua, hub⟩ := viewer_cells hu
          have x0 := Ext.cell hva; have x1 := Ext.cell hvb; have x2 := Ext.cell hua; have x3 := Ext.cell hub
          obtain ⟨R1, hX, _⟩ := hM.tab
          obtain ⟨R2, hY, _⟩ := hR.tab
          clear hva hvb hua hub
          go_upto_region 15 with fail
          refine wp_region_ext (by kernel_rfl) (by kernel_rfl) ?_
          repeat (go_big_quiet_step (first
            | (go_at_call 37; exact Ext.calls (own_t at1 me (hX.frN (Ext.fr _)).tells (by omega)))
            | (go_at_call 38; exact Ext.calls (sees_t at1 me (hX.frN (Ext.fr _)).tells (by omega)))
            | (go_at_call 39; exact Ext.calls (later_t at1 me (hX.frN (Ext.fr _)).tells (by omega)))
            | (go_at_call 44; exact Ext.calls (own_d at1 me (hY.frN (Ext.fr _)) (by omega)))
            | (go_at_call 45; exact Ext.calls (sees_d at1 me (hY.frN (Ext.fr _)) (by omega)))
            | (go_at_call 46; exact Ext.calls (later_d at1 me (hY.frN (Ext.fr _)) (by omega)))))
          refine wpQuiet_nil ?_
          rintro w7 ⟨⟨_, hf7⟩, rfl⟩
          have hM := hM.frN hf7
          have hR := hR.frN hf7
          have hv := hf7.obj (fun x => x) hv
          have hu := hf7.obj (fun x => x) hu
          obtain ⟨hva, hvb⟩ := viewer_cells hv
          obtain ⟨hua, hub⟩ := viewer_cells hu
          have hz1 := frozen_of_obj hv
          have hz2 := frozen_of_obj hu
          clear x0 x1 x2 x3 hX hY hf7
          go_wp2_with fail
          have hfs : Fr (fun b => b = q1 ∨ b = q1 + 1) w7 ((((w7.setCell ⟨q1, 0, none⟩ (.int .i64 att)).setCell ⟨q1, 1, none⟩ (.int .i64 me)).setCell ⟨q1 + 1, 0, none⟩ (.int .i64 att)).setCell ⟨q1 + 1, 1, none⟩ (.int .i64 me)) :=
            ((((Fr.refl (fun b => b = q1 ∨ b = q1 + 1) w7).setCell (p := ⟨q1, 0, none⟩) (fun _ => .inl rfl) _).setCell (p := ⟨q1, 1, none⟩) (fun _ => .inl rfl) _).setCell (p := ⟨q1 + 1, 0, none⟩) (fun _ => .inr rfl) _).setCell (p := ⟨q1 + 1, 1, none⟩) (fun _ => .inr rfl) _
          have hv2 := obj_setCell_other (obj_setCell_other (obj_setCell (obj_setCell hv 0 (.int .i64 att)) 1 (.int .i64 me)) ⟨q1 + 1, 0, none⟩ (.int .i64 att) (by dsimp only; omega)) ⟨q1 + 1, 1, none⟩ (.int .i64 me) (by dsimp only; omega)
          have hu2 := obj_setCell (obj_setCell (obj_setCell_other (obj_setCell_other hu ⟨q1, 0, none⟩ (.int .i64 att) (by dsimp only; omega)) ⟨q1, 1, none⟩ (.int .i64 me) (by dsimp only; omega)) 0 (.int .i64 att)) 1 (.int .i64 me)
          have hM2 := hM.other hfs (by rintro k (rfl | rfl) <;> omega) (by rintro k c t fz (rfl | rfl) h1 <;> first | (rw [hv] at h1; cases h1; decide) | (rw [hu] at h1; cases h1; decide))
          have hR2 := hR.other hfs (by rintro k (rfl | rfl) <;> omega) (by rintro k c t fz (rfl | rfl) h1 <;> first | (rw [hv] at h1; cases h1; decide) | (rw [hu] at h1; cases h1; decide))
          go_roundg (2 - (n + 1))
          case measure => omega
          case rel => exact ⟨n + 1, att, by omega, rfl, by go_num, hM2, hR2, hv2, hu2⟩
        · obtain rfl : n = 2 := by omega
          go_wp2_with fail
          refine (awake_any _).mono ?_
          rintro e w8 ⟨rfl, hf8⟩
          go_wp2_with fail
          go_ret
          exact ⟨rfl, hM.fr.trans hf8⟩

end Go.Proofs.Ytfgkocpmgoaljaa
