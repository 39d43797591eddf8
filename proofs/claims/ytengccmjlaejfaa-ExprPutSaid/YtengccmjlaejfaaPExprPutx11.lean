/- Words of the print, those that are used. No condition. -/
import Derived.Test.YtengccmjlaejfaaMg26
import Derived.Test.YtengccmjlaejfaaPExprPutx10
namespace Go.Proofs.Ytengccmjlaejfaa.PExprPut
open Go.RowKit Go.Proofs.YtengccmjlaejfaaW.PrintWords Go.Proofs.YtengccmjlaejfaaW.PrintLast Go.Proofs.YtengccmjlaejfaaW.PrintMore
attribute [local go_sem] max2_int min2_int max_two min_two max_three min_three max_four min_four   -- for this text's walks alone
set_option linter.unusedVariables false
set_option linter.unusedSimpArgs false

/-! ### covenantlaw03_put: function 13 -/
mutual
def covenantlaw03_put.j0 : Nat → List (S23) → Bool → Int → Int → Int → Int → ByteArray → Int → List (S26) → Option (Int × Int × Int × Int × ByteArray × Int × (List (S26)))
  | 0, _, _, _, _, _, _, _, _, _ => none
  | k + 1, x1, x29, x392000, x392001, x392002, x392003, x392004, x392005, x392006 => if x29 = true then (if 0 ≤ x392005 then (if x392005 < (x1.length : Int) then ((covenantlaw03_lit.f ((rd_T23 x1 x392005).f0) ((rd_T23 x1 x392005).f1) ((rd_T23 x1 x392005).f2) ((rd_T23 x1 x392005).f3)).bind fun bt396 => (some (bt396.1, bt396.2.1, bt396.2.2.1, bt396.2.2.2.1, bt396.2.2.2.2.1, bt396.2.2.2.2.2.1, bt396.2.2.2.2.2.2))) else (none)) else (none)) else (covenantlaw03_put.l0 k x1 ([] : List (S26)) 0 x392000 x392001 x392002 x392003 x392004 x392005 x392006)
def covenantlaw03_put.l0 : Nat → List (S23) → List (S26) → Int → Int → Int → Int → Int → ByteArray → Int → List (S26) → Option (Int × Int × Int × Int × ByteArray × Int × (List (S26)))
  | 0, _, _, _, _, _, _, _, _, _, _ => none
  | k + 1, x1, x5, x6, x392000, x392001, x392002, x392003, x392004, x392005, x392006 => if x6 < (x392006.length : Int) then (if 0 ≤ x6 then ((covenantlaw03_put.f k ((rd_T26 x392006 x6).f0) ((rd_T26 x392006 x6).f1.f0) ((rd_T26 x392006 x6).f1.f1) ((rd_T26 x392006 x6).f1.f2) ((rd_T26 x392006 x6).f1.f3) ((rd_T26 x392006 x6).f2) ((rd_T26 x392006 x6).f3) x1).bind fun bt406 => (if x5.length < 1759218604441 then (covenantlaw03_put.l0 k x1 (x5 ++ [(⟨bt406.1, (⟨bt406.2.1, bt406.2.2.1, bt406.2.2.2.1, bt406.2.2.2.2.1⟩ : S23), bt406.2.2.2.2.2.1, bt406.2.2.2.2.2.2⟩ : S26)]) (wrap64 (x6 + 1)) x392000 x392001 x392002 x392003 x392004 x392005 x392006) else (none))) else (none)) else (some (x392000, x392001, x392002, x392003, x392004, x392005, x5))
def covenantlaw03_put.f : Nat → Int → Int → Int → Int → ByteArray → Int → List (S26) → List (S23) → Option (Int × Int × Int × Int × ByteArray × Int × (List (S26)))
  | 0, _, _, _, _, _, _, _, _ => none
  | k + 1, a0_0, a0_1, a0_2, a0_3, a0_4, a0_5, l0_6, l1 => if a0_0 = 2 then (if a0_5 ≥ 0 then (if a0_5 < (l1.length : Int) then (if 0 ≤ a0_5 then ((value_May.f ((rd_T23 l1 a0_5).f0) ((rd_T23 l1 a0_5).f1) ((rd_T23 l1 a0_5).f2) ((rd_T23 l1 a0_5).f3)).bind fun t394 => (covenantlaw03_put.j0 k l1 t394 a0_0 a0_1 a0_2 a0_3 a0_4 a0_5 l0_6)) else (none)) else (covenantlaw03_put.j0 k l1 false a0_0 a0_1 a0_2 a0_3 a0_4 a0_5 l0_6)) else (covenantlaw03_put.j0 k l1 false a0_0 a0_1 a0_2 a0_3 a0_4 a0_5 l0_6)) else (covenantlaw03_put.j0 k l1 false a0_0 a0_1 a0_2 a0_3 a0_4 a0_5 l0_6)
end
theorem covenantlaw03_put.mono_l : ∀ k, (∀ y0 y1 y2 y3 y4 y5 y6 y7, LeO (covenantlaw03_put.f k y0 y1 y2 y3 y4 y5 y6 y7) (covenantlaw03_put.f (k + 1) y0 y1 y2 y3 y4 y5 y6 y7)) ∧ (∀ y0 y1 y2 y3 y4 y5 y6 y7 y8, LeO (covenantlaw03_put.j0 k y0 y1 y2 y3 y4 y5 y6 y7 y8) (covenantlaw03_put.j0 (k + 1) y0 y1 y2 y3 y4 y5 y6 y7 y8)) ∧ (∀ y0 y1 y2 y3 y4 y5 y6 y7 y8 y9, LeO (covenantlaw03_put.l0 k y0 y1 y2 y3 y4 y5 y6 y7 y8 y9) (covenantlaw03_put.l0 (k + 1) y0 y1 y2 y3 y4 y5 y6 y7 y8 y9))
  | 0 => ⟨fun _ _ _ _ _ _ _ _ r h => by simp [covenantlaw03_put.f] at h, fun _ _ _ _ _ _ _ _ _ r h => by simp [covenantlaw03_put.j0] at h, fun _ _ _ _ _ _ _ _ _ _ r h => by simp [covenantlaw03_put.l0] at h⟩
  | k + 1 => by
    obtain ⟨ih0, ih1, ih2⟩ := covenantlaw03_put.mono_l k
    refine ⟨?_, ?_, ?_⟩
    · intro y0 y1 y2 y3 y4 y5 y6 y7
      unfold covenantlaw03_put.f
      repeat' first
      | (with_reducible exact ih0 _ _ _ _ _ _ _ _)
      | (with_reducible exact ih1 _ _ _ _ _ _ _ _ _)
      | (with_reducible exact ih2 _ _ _ _ _ _ _ _ _ _)
      | (with_reducible exact LeO.refl _)
      | (with_reducible exact LeO.none _)
      | (with_reducible refine LeO.ite ?_ ?_)
      | (with_reducible refine LeO.bind ?_ (fun _ => ?_))
      | exact ih0 _ _ _ _ _ _ _ _
      | exact ih1 _ _ _ _ _ _ _ _ _
      | exact ih2 _ _ _ _ _ _ _ _ _ _
      | exact LeO.none _
      | refine LeO.ite ?_ ?_
      | refine LeO.bind ?_ (fun _ => ?_)
    · intro y0 y1 y2 y3 y4 y5 y6 y7 y8
      unfold covenantlaw03_put.j0
      repeat' first
      | (with_reducible exact ih0 _ _ _ _ _ _ _ _)
      | (with_reducible exact ih1 _ _ _ _ _ _ _ _ _)
      | (with_reducible exact ih2 _ _ _ _ _ _ _ _ _ _)
      | (with_reducible exact LeO.refl _)
      | (with_reducible exact LeO.none _)
      | (with_reducible refine LeO.ite ?_ ?_)
      | (with_reducible refine LeO.bind ?_ (fun _ => ?_))
      | exact ih0 _ _ _ _ _ _ _ _
      | exact ih1 _ _ _ _ _ _ _ _ _
      | exact ih2 _ _ _ _ _ _ _ _ _ _
      | exact LeO.none _
      | refine LeO.ite ?_ ?_
      | refine LeO.bind ?_ (fun _ => ?_)
    · intro y0 y1 y2 y3 y4 y5 y6 y7 y8 y9
      unfold covenantlaw03_put.l0
      repeat' first
      | (with_reducible exact ih0 _ _ _ _ _ _ _ _)
      | (with_reducible exact ih1 _ _ _ _ _ _ _ _ _)
      | (with_reducible exact ih2 _ _ _ _ _ _ _ _ _ _)
      | (with_reducible exact LeO.refl _)
      | (with_reducible exact LeO.none _)
      | (with_reducible refine LeO.ite ?_ ?_)
      | (with_reducible refine LeO.bind ?_ (fun _ => ?_))
      | exact ih0 _ _ _ _ _ _ _ _
      | exact ih1 _ _ _ _ _ _ _ _ _
      | exact ih2 _ _ _ _ _ _ _ _ _ _
      | exact LeO.none _
      | refine LeO.ite ?_ ?_
      | refine LeO.bind ?_ (fun _ => ?_)
theorem covenantlaw03_put.mono : ∀ a0 a1 a2 a3 a4 a5 a6 a7 k, LeO (covenantlaw03_put.f k a0 a1 a2 a3 a4 a5 a6 a7) (covenantlaw03_put.f (k + 1) a0 a1 a2 a3 a4 a5 a6 a7) := by
  intro a0 a1 a2 a3 a4 a5 a6 a7 k
  obtain ⟨ih0, ih1, ih2⟩ := covenantlaw03_put.mono_l k
  exact ih0 a0 a1 a2 a3 a4 a5 a6 a7
set_option maxHeartbeats 8000000 in
set_option maxRecDepth 100000 in
theorem covenantlaw03_put.calls (k : Nat) : ∀ (a0_0 : Int) (a0_1 : Int) (a0_2 : Int) (a0_3 : Int) (a0_4 : ByteArray) (a0_5 : Int) (A0_6 : Option Addr) (c0_6 : Nat) (l0_6 : List (S26)) (A1 : Option Addr) (c1 : Nat) (l1 : List (S23)) (r1 : Int) (r2 : Int) (r3 : Int) (r4 : Int) (r5 : ByteArray) (r6 : Int) (r7 : List (S26)) (w : World) (hr0_6 : Kd.C k26 w A0_6 l0_6.length l0_6) (hc0_6 : l0_6.length ≤ c0_6) (hr1 : Kd.C k23 w A1 l1.length l1) (hc1 : l1.length ≤ c1) (h : covenantlaw03_put.f k a0_0 a0_1 a0_2 a0_3 a0_4 a0_5 l0_6 l1 = some (r1, r2, r3, r4, r5, r6, r7)),
    Calls Try.prog 13 #[.agg #[.int .u8 a0_0, .int .u8 a0_1, .int .i64 a0_2, .int .i64 a0_3, .string a0_4, .int .i64 a0_5, .slice A0_6 l0_6.length c0_6], .slice A1 l1.length c1] w fun e w' => ∃ v6_ : Value, e = .returned (.agg #[.int .u8 r1, .int .u8 r2, .int .i64 r3, .int .i64 r4, .string r5, .int .i64 r6, v6_]) ∧ Kd.R k26 26 w' w.heap.size (fun _ => True) v6_ r7 ∧ Below w.heap.size w w' := by
  induction k using Nat.strongRecOn with
  | _ k ih =>
  intro a0_0 a0_1 a0_2 a0_3 a0_4 a0_5 A0_6 c0_6 l0_6 A1 c1 l1 r1 r2 r3 r4 r5 r6 r7 w hr0_6 hc0_6 hr1 hc1 h
  cases k with
  | zero => exact absurd h (by simp [covenantlaw03_put.f])
  | succ k =>
  simp only [covenantlaw03_put.f] at h
  have hu26 := Try.underlying26
  have hu23 := Try.underlying23
  have HR0_6 := Aside0.mk hr0_6
  have HC0_6 := Aside0.mk hc0_6
  clear hr0_6 hc0_6
  have HR1 := Aside0.mk hr1
  have HC1 := Aside0.mk hc1
  clear hr1 hc1
  have HB := Aside0.mk (Below.refl w.heap.size w)
  have H : (if a0_0 = 2 then (if a0_5 ≥ 0 then (if a0_5 < (l1.length : Int) then (if 0 ≤ a0_5 then ((value_May.f ((rd_T23 l1 a0_5).f0) ((rd_T23 l1 a0_5).f1) ((rd_T23 l1 a0_5).f2) ((rd_T23 l1 a0_5).f3)).bind fun t394 => (covenantlaw03_put.j0 k l1 t394 a0_0 a0_1 a0_2 a0_3 a0_4 a0_5 l0_6)) else (none)) else (covenantlaw03_put.j0 k l1 false a0_0 a0_1 a0_2 a0_3 a0_4 a0_5 l0_6)) else (covenantlaw03_put.j0 k l1 false a0_0 a0_1 a0_2 a0_3 a0_4 a0_5 l0_6)) else (covenantlaw03_put.j0 k l1 false a0_0 a0_1 a0_2 a0_3 a0_4 a0_5 l0_6)) = some (r1, r2, r3, r4, r5, r6, r7) := h
  clear h
  have HC3 := Aside0.mk H
  clear H
  go_enter Try.func13, Try.ntmps13
  go_upto_region 1 with (first | ((with_reducible refine gate_dst (N := 2) rfl ?_); (try (refine gate_guard (by rfl) ?_; dsimp only)); refine box_event ?hg (N := 2) ?hd (cs := #[.int .u8 a0_0, .int .u8 a0_1, .int .i64 a0_2, .int .i64 a0_3, .string a0_4, .int .i64 a0_5, .slice A0_6 l0_6.length c0_6]) (t := 26) ?hr ?_; (case hd => rfl); (case hg => rfl); (case hr => first | (go_simp; done) | (go_simp; rfl)); intro gb391 hg w4 hbox hb; have n0_ := Aside0.mk (below_step (by repeat (first | (with_reducible first | exact HB.out | apply below_alloc | apply pw_below_drewN | apply below_drew1) | exact HB.out)) hb); have n1_ := Aside0.mk (hbox); have n2_ := Aside0.mk ((by rw [hg]; exact (below_size (by repeat (first | (with_reducible first | exact HB.out | apply below_alloc | apply pw_below_drewN | apply below_drew1) | exact HB.out))) : w.heap.size ≤ gb391)); have n3_ := Aside0.mk ((by rw [hg]; exact (below_size (by repeat (first | (with_reducible first | exact HB.out | apply below_alloc | apply pw_below_drewN | apply below_drew1) | exact HB.out))) : w.heap.size ≤ gb391)); clear HB; have HB := n0_; have BK391 := n1_; have GW391 := n2_; have GE391 := n3_; clear n0_ n1_ n2_ n3_; clear hb hbox hg) | ((with_reducible refine gate_dst (N := 4) rfl ?_); (try (refine gate_guard (by rfl) ?_; dsimp only)); refine box_event ?hg (N := 4) ?hd (cs := #[.int .u8 0, .int .u8 0, .int .i64 0, .int .i64 0, .string (⟨#[]⟩ : ByteArray), .int .i64 0, .slice none 0 0]) (t := 26) ?hr ?_; (case hd => rfl); (case hg => rfl); (case hr => first | (go_simp; done) | (go_simp; rfl)); intro gb392 hg w5 hbox hb; have n0_ := Aside0.mk (blk_below (g := gb391) (o := .cells #[.int .u8 a0_0, .int .u8 a0_1, .int .i64 a0_2, .int .i64 a0_3, .string a0_4, .int .i64 a0_5, .slice A0_6 l0_6.length c0_6] 26 (0, 0)) (by (with_reducible repeat (first | refine blk_drewN ?_ _ | refine blk_drew ?_ | refine blk_alloc ?_ _)); exact BK391.out) hb); have n1_ := Aside0.mk (below_step (by repeat (first | (with_reducible first | exact HB.out | apply below_alloc | apply pw_below_drewN | apply below_drew1 | refine below_set ?_ GE391.out) | exact HB.out)) hb); have n2_ := Aside0.mk (hbox); have n3_ := Aside0.mk ((by rw [hg]; exact (below_size (by repeat (first | (with_reducible first | exact HB.out | apply below_alloc | apply pw_below_drewN | apply below_drew1 | refine below_set ?_ GE391.out) | exact HB.out))) : w.heap.size ≤ gb392)); have n4_ := Aside0.mk ((by rw [hg]; exact (below_size (by repeat (first | (with_reducible first | exact HB.out | apply below_alloc | apply pw_below_drewN | apply below_drew1 | refine below_set ?_ GE391.out) | exact HB.out))) : w.heap.size ≤ gb392)); have n5_ := Aside0.mk ((by rw [hg]; exact Nat.ne_of_lt (blk_lt (g := gb391) (o := .cells #[.int .u8 a0_0, .int .u8 a0_1, .int .i64 a0_2, .int .i64 a0_3, .string a0_4, .int .i64 a0_5, .slice A0_6 l0_6.length c0_6] 26 (0, 0)) (by (with_reducible repeat (first | refine blk_drewN ?_ _ | refine blk_drew ?_ | refine blk_alloc ?_ _)); exact BK391.out)) : gb391 ≠ gb392)); have n6_ := Aside0.mk ((by rw [hg]; exact Nat.ne_of_gt (blk_lt (g := gb391) (o := .cells #[.int .u8 a0_0, .int .u8 a0_1, .int .i64 a0_2, .int .i64 a0_3, .string a0_4, .int .i64 a0_5, .slice A0_6 l0_6.length c0_6] 26 (0, 0)) (by (with_reducible repeat (first | refine blk_drewN ?_ _ | refine blk_drew ?_ | refine blk_alloc ?_ _)); exact BK391.out)) : gb392 ≠ gb391)); clear BK391; clear HB; have BK391 := n0_; have HB := n1_; have BK392 := n2_; have GW392 := n3_; have GE392 := n4_; have NB391_392 := n5_; have NB392_391 := n6_; clear n0_ n1_ n2_ n3_ n4_ n5_ n6_; clear hb hbox hg))
  (try simp only [Act.put, List.setIfInBounds_toArray, List.set_cons_zero, List.set_cons_succ])
  go_cut [29] (fun v29 wc => ∃ (kq : Nat) (x29_2 : Bool), v29 = .bool x29_2 ∧ Aside0 (covenantlaw03_put.j0 kq l1 x29_2 a0_0 a0_1 a0_2 a0_3 a0_4 a0_5 l0_6 = some (r1, r2, r3, r4, r5, r6, r7)) ∧ Aside0 (kq ≤ k) ∧ Aside0 (wc.heap[gb391]? = some (.cells #[.int .u8 a0_0, .int .u8 a0_1, .int .i64 a0_2, .int .i64 a0_3, .string a0_4, .int .i64 a0_5, (.slice A0_6 l0_6.length c0_6)] 26 (0, 0))) ∧ Aside0 (wc.heap[gb392]? = some (.cells #[.int .u8 0, .int .u8 0, .int .i64 0, .int .i64 0, .string (⟨#[]⟩ : ByteArray), .int .i64 0, (.slice none 0 0)] 26 (0, 0))) ∧ Aside0 (Below w.heap.size w wc))
  case first =>
    have H := HC3.out
    clear HC3
    by_cases c6 : a0_0 = 2
    · rw [if_pos c6] at H
      have c6b0 : (a0_0 == 2) = true := beq_iff_eq.mpr c6
      have c6b1 : (a0_0 != 2) = false := bne_eq_false_iff_eq.mpr c6
      clear c6
      (first | rw [c6b0] | (simp only [i64_w, i32_w]; rw [c6b0]) | skip)
      by_cases c7 : a0_5 ≥ 0
      · rw [if_pos c7] at H
        have c7b0 : decide (0 ≤ a0_5) = true := decide_eq_true c7
        clear c7
        by_cases c8 : a0_5 < (l1.length : Int)
        · rw [if_pos c8] at H
          have c8b0 : decide (a0_5 < (l1.length : Int)) = true := decide_eq_true c8
          clear c8
          by_cases c9 : 0 ≤ a0_5
          · rw [if_pos c9] at H
            have c9b0 : decide (0 ≤ a0_5) = true := decide_eq_true c9
            clear c9
            replace H := Option.bind_eq_some_iff.mp H
            obtain ⟨t394, A100, H⟩ := H
            replace H : (covenantlaw03_put.j0 k l1 t394 a0_0 a0_1 a0_2 a0_3 a0_4 a0_5 l0_6) = some (r1, r2, r3, r4, r5, r6, r7) := H
            have A10 := Aside0.mk A100
            clear A100
            have H' := Aside0.mk H
            clear H
            have hnb11 := NB391_392.out
            have hnc11 := NB392_391.out
            have hcz12_0 : w5.cell? ⟨gb391, 0, none⟩ = some (.int .u8 a0_0) := (blk_cell BK391.out 0).trans rfl
            have hcz12_1 : w5.cell? ⟨gb391, 1, none⟩ = some (.int .u8 a0_1) := (blk_cell BK391.out 1).trans rfl
            have hcz12_2 : w5.cell? ⟨gb391, 2, none⟩ = some (.int .i64 a0_2) := (blk_cell BK391.out 2).trans rfl
            have hcz12_3 : w5.cell? ⟨gb391, 3, none⟩ = some (.int .i64 a0_3) := (blk_cell BK391.out 3).trans rfl
            have hcz12_4 : w5.cell? ⟨gb391, 4, none⟩ = some (.string a0_4) := (blk_cell BK391.out 4).trans rfl
            have hcz12_5 : w5.cell? ⟨gb391, 5, none⟩ = some (.int .i64 a0_5) := (blk_cell BK391.out 5).trans rfl
            have hcz12_6 : w5.cell? ⟨gb391, 6, none⟩ = some (.slice A0_6 l0_6.length c0_6) := (blk_cell BK391.out 6).trans rfl
            have hfz12_0 := blk_frozen BK391.out 0
            have hfz12_1 := blk_frozen BK391.out 1
            have hfz12_2 := blk_frozen BK391.out 2
            have hfz12_3 := blk_frozen BK391.out 3
            have hfz12_4 := blk_frozen BK391.out 4
            have hfz12_5 := blk_frozen BK391.out 5
            have hfz12_6 := blk_frozen BK391.out 6
            have p393 : 0 ≤ (a0_5 : Int) := of_decide_eq_true (by first | (with_reducible assumption) | assumption)
            have q393 : a0_5 < (l1.length : Int) := of_decide_eq_true (by first | (with_reducible assumption) | assumption)
            obtain ⟨ad393, e393, hx393_0, hx393_1, hx393_2, hx393_3⟩ := at_T23 HR1.out a0_5 p393 q393
            cases e393
            replace hx393_0 := (HB.out.cell (World.block_lt_of_cell? w _ hx393_0)).trans hx393_0
            replace hx393_1 := (HB.out.cell (World.block_lt_of_cell? w _ hx393_1)).trans hx393_1
            replace hx393_2 := (HB.out.cell (World.block_lt_of_cell? w _ hx393_2)).trans hx393_2
            replace hx393_3 := (HB.out.cell (World.block_lt_of_cell? w _ hx393_3)).trans hx393_3
            replace p393 := eq_true p393
            replace q393 := eq_true q393
            go_wp2_with (first | (go_at_call 35; (with_reducible refine (value_May.calls ((rd_T23 l1 a0_5).f0) ((rd_T23 l1 a0_5).f1) ((rd_T23 l1 a0_5).f2) ((rd_T23 l1 a0_5).f3) t394 _ A10.out).mono ?_); rintro e w13 ⟨rfl, hb⟩; have n0_ := Aside0.mk (blk_below (g := gb391) (o := .cells #[.int .u8 a0_0, .int .u8 a0_1, .int .i64 a0_2, .int .i64 a0_3, .string a0_4, .int .i64 a0_5, .slice A0_6 l0_6.length c0_6] 26 (0, 0)) (by (with_reducible repeat (first | refine blk_drewN ?_ _ | refine blk_drew ?_ | refine blk_alloc ?_ _)); exact BK391.out) hb); have n1_ := Aside0.mk (blk_below (g := gb392) (o := .cells #[.int .u8 0, .int .u8 0, .int .i64 0, .int .i64 0, .string (⟨#[]⟩ : ByteArray), .int .i64 0, .slice none 0 0] 26 (0, 0)) (by (with_reducible repeat (first | refine blk_drewN ?_ _ | refine blk_drew ?_ | refine blk_alloc ?_ _)); exact BK392.out) hb); have n2_ := Aside0.mk (below_step (by repeat (first | (with_reducible first | exact HB.out | apply below_alloc | apply pw_below_drewN | apply below_drew1 | refine below_set ?_ GE391.out | refine below_set ?_ GE392.out) | exact HB.out)) hb); clear BK391; clear BK392; clear HB; have BK391 := n0_; have BK392 := n1_; have HB := n2_; clear n0_ n1_ n2_; (try clear hb); (try clear hb2); (try clear hk); (try clear hi)))
            go_meet
            case rel => exact ⟨_, (t394), (by first | rfl | (simp; done) | (simp [*]; done)), H', ⟨by first | omega | exact Nat.le_refl _⟩, ⟨by (with_reducible repeat (first | refine blk_drewN ?_ _ | refine blk_drew ?_ | refine blk_alloc ?_ _)); exact BK391.out⟩, ⟨by (with_reducible repeat (first | refine blk_drewN ?_ _ | refine blk_drew ?_ | refine blk_alloc ?_ _)); exact BK392.out⟩, ⟨by repeat (first | (with_reducible first | exact HB.out | apply below_alloc | apply pw_below_drewN | apply below_drew1 | refine below_set ?_ GE391.out | refine below_set ?_ GE392.out) | exact HB.out)⟩⟩
          · rw [if_neg c9] at H
            exact absurd H (by simp)
        · rw [if_neg c8] at H
          have c8b0 : decide (a0_5 < (l1.length : Int)) = false := decide_eq_false c8
          clear c8
          have H' := Aside0.mk H
          clear H
          have hnb14 := NB391_392.out
          have hnc14 := NB392_391.out
          have hcz15_0 : w5.cell? ⟨gb391, 0, none⟩ = some (.int .u8 a0_0) := (blk_cell BK391.out 0).trans rfl
          have hcz15_1 : w5.cell? ⟨gb391, 1, none⟩ = some (.int .u8 a0_1) := (blk_cell BK391.out 1).trans rfl
          have hcz15_2 : w5.cell? ⟨gb391, 2, none⟩ = some (.int .i64 a0_2) := (blk_cell BK391.out 2).trans rfl
          have hcz15_3 : w5.cell? ⟨gb391, 3, none⟩ = some (.int .i64 a0_3) := (blk_cell BK391.out 3).trans rfl
          have hcz15_4 : w5.cell? ⟨gb391, 4, none⟩ = some (.string a0_4) := (blk_cell BK391.out 4).trans rfl
          have hcz15_5 : w5.cell? ⟨gb391, 5, none⟩ = some (.int .i64 a0_5) := (blk_cell BK391.out 5).trans rfl
          have hcz15_6 : w5.cell? ⟨gb391, 6, none⟩ = some (.slice A0_6 l0_6.length c0_6) := (blk_cell BK391.out 6).trans rfl
          have hfz15_0 := blk_frozen BK391.out 0
          have hfz15_1 := blk_frozen BK391.out 1
          have hfz15_2 := blk_frozen BK391.out 2
          have hfz15_3 := blk_frozen BK391.out 3
          have hfz15_4 := blk_frozen BK391.out 4
          have hfz15_5 := blk_frozen BK391.out 5
          have hfz15_6 := blk_frozen BK391.out 6
          go_wp2
          go_meet
          case rel => exact ⟨_, (false), (by first | rfl | (simp; done) | (simp [*]; done)), H', ⟨by first | omega | exact Nat.le_refl _⟩, ⟨by (with_reducible repeat (first | refine blk_drewN ?_ _ | refine blk_drew ?_ | refine blk_alloc ?_ _)); exact BK391.out⟩, ⟨by (with_reducible repeat (first | refine blk_drewN ?_ _ | refine blk_drew ?_ | refine blk_alloc ?_ _)); exact BK392.out⟩, ⟨by repeat (first | (with_reducible first | exact HB.out | apply below_alloc | apply pw_below_drewN | apply below_drew1 | refine below_set ?_ GE391.out | refine below_set ?_ GE392.out) | exact HB.out)⟩⟩
      · rw [if_neg c7] at H
        have c7b0 : decide (0 ≤ a0_5) = false := decide_eq_false c7
        clear c7
        have H' := Aside0.mk H
        clear H
        have hnb16 := NB391_392.out
        have hnc16 := NB392_391.out
        have hcz17_0 : w5.cell? ⟨gb391, 0, none⟩ = some (.int .u8 a0_0) := (blk_cell BK391.out 0).trans rfl
        have hcz17_1 : w5.cell? ⟨gb391, 1, none⟩ = some (.int .u8 a0_1) := (blk_cell BK391.out 1).trans rfl
        have hcz17_2 : w5.cell? ⟨gb391, 2, none⟩ = some (.int .i64 a0_2) := (blk_cell BK391.out 2).trans rfl
        have hcz17_3 : w5.cell? ⟨gb391, 3, none⟩ = some (.int .i64 a0_3) := (blk_cell BK391.out 3).trans rfl
        have hcz17_4 : w5.cell? ⟨gb391, 4, none⟩ = some (.string a0_4) := (blk_cell BK391.out 4).trans rfl
        have hcz17_5 : w5.cell? ⟨gb391, 5, none⟩ = some (.int .i64 a0_5) := (blk_cell BK391.out 5).trans rfl
        have hcz17_6 : w5.cell? ⟨gb391, 6, none⟩ = some (.slice A0_6 l0_6.length c0_6) := (blk_cell BK391.out 6).trans rfl
        have hfz17_0 := blk_frozen BK391.out 0
        have hfz17_1 := blk_frozen BK391.out 1
        have hfz17_2 := blk_frozen BK391.out 2
        have hfz17_3 := blk_frozen BK391.out 3
        have hfz17_4 := blk_frozen BK391.out 4
        have hfz17_5 := blk_frozen BK391.out 5
        have hfz17_6 := blk_frozen BK391.out 6
        go_wp2
        go_meet
        case rel => exact ⟨_, (false), (by first | rfl | (simp; done) | (simp [*]; done)), H', ⟨by first | omega | exact Nat.le_refl _⟩, ⟨by (with_reducible repeat (first | refine blk_drewN ?_ _ | refine blk_drew ?_ | refine blk_alloc ?_ _)); exact BK391.out⟩, ⟨by (with_reducible repeat (first | refine blk_drewN ?_ _ | refine blk_drew ?_ | refine blk_alloc ?_ _)); exact BK392.out⟩, ⟨by repeat (first | (with_reducible first | exact HB.out | apply below_alloc | apply pw_below_drewN | apply below_drew1 | refine below_set ?_ GE391.out | refine below_set ?_ GE392.out) | exact HB.out)⟩⟩
    · rw [if_neg c6] at H
      have c6b0 : (a0_0 == 2) = false := beq_eq_false_iff_ne.mpr c6
      have c6b1 : (a0_0 != 2) = true := bne_iff_ne.mpr c6
      (first | rw [c6b0] | (simp only [i64_w, i32_w]; rw [c6b0]) | skip)
      have H' := Aside0.mk H
      clear H
      have hnb18 := NB391_392.out
      have hnc18 := NB392_391.out
      have hcz19_0 : w5.cell? ⟨gb391, 0, none⟩ = some (.int .u8 a0_0) := (blk_cell BK391.out 0).trans rfl
      have hcz19_1 : w5.cell? ⟨gb391, 1, none⟩ = some (.int .u8 a0_1) := (blk_cell BK391.out 1).trans rfl
      have hcz19_2 : w5.cell? ⟨gb391, 2, none⟩ = some (.int .i64 a0_2) := (blk_cell BK391.out 2).trans rfl
      have hcz19_3 : w5.cell? ⟨gb391, 3, none⟩ = some (.int .i64 a0_3) := (blk_cell BK391.out 3).trans rfl
      have hcz19_4 : w5.cell? ⟨gb391, 4, none⟩ = some (.string a0_4) := (blk_cell BK391.out 4).trans rfl
      have hcz19_5 : w5.cell? ⟨gb391, 5, none⟩ = some (.int .i64 a0_5) := (blk_cell BK391.out 5).trans rfl
      have hcz19_6 : w5.cell? ⟨gb391, 6, none⟩ = some (.slice A0_6 l0_6.length c0_6) := (blk_cell BK391.out 6).trans rfl
      have hfz19_0 := blk_frozen BK391.out 0
      have hfz19_1 := blk_frozen BK391.out 1
      have hfz19_2 := blk_frozen BK391.out 2
      have hfz19_3 := blk_frozen BK391.out 3
      have hfz19_4 := blk_frozen BK391.out 4
      have hfz19_5 := blk_frozen BK391.out 5
      have hfz19_6 := blk_frozen BK391.out 6
      go_wp2
      go_meet
      case rel => exact ⟨_, (false), (by first | rfl | (simp; done) | (simp [*]; done)), H', ⟨by first | omega | exact Nat.le_refl _⟩, ⟨by (with_reducible repeat (first | refine blk_drewN ?_ _ | refine blk_drew ?_ | refine blk_alloc ?_ _)); exact BK391.out⟩, ⟨by (with_reducible repeat (first | refine blk_drewN ?_ _ | refine blk_drew ?_ | refine blk_alloc ?_ _)); exact BK392.out⟩, ⟨by repeat (first | (with_reducible first | exact HB.out | apply below_alloc | apply pw_below_drewN | apply below_drew1 | refine below_set ?_ GE391.out | refine below_set ?_ GE392.out) | exact HB.out)⟩⟩
  case rest =>
    clear HC3
    try clear c1
    try clear p2
    try clear p3
    try clear q3
    try clear hx3
    try clear c6
    try clear c6b0
    try clear c6b1
    try clear c7
    try clear c7b0
    try clear c8
    try clear c8b0
    try clear c9
    try clear c9b0
    try clear c11
    try clear c13
    try clear c14
    try clear c16
    try clear c18
    try clear hcz12_0
    try clear hcz12_1
    try clear hcz12_2
    try clear hcz12_3
    try clear hcz12_4
    try clear hcz12_5
    try clear hcz12_6
    try clear hcz15_0
    try clear hcz15_1
    try clear hcz15_2
    try clear hcz15_3
    try clear hcz15_4
    try clear hcz15_5
    try clear hcz15_6
    try clear hcz17_0
    try clear hcz17_1
    try clear hcz17_2
    try clear hcz17_3
    try clear hcz17_4
    try clear hcz17_5
    try clear hcz17_6
    try clear hcz19_0
    try clear hcz19_1
    try clear hcz19_2
    try clear hcz19_3
    try clear hcz19_4
    try clear hcz19_5
    try clear hcz19_6
    try clear hfz12_0
    try clear hfz12_1
    try clear hfz12_2
    try clear hfz12_3
    try clear hfz12_4
    try clear hfz12_5
    try clear hfz12_6
    try clear hfz15_0
    try clear hfz15_1
    try clear hfz15_2
    try clear hfz15_3
    try clear hfz15_4
    try clear hfz15_5
    try clear hfz15_6
    try clear hfz17_0
    try clear hfz17_1
    try clear hfz17_2
    try clear hfz17_3
    try clear hfz17_4
    try clear hfz17_5
    try clear hfz17_6
    try clear hfz19_0
    try clear hfz19_1
    try clear hfz19_2
    try clear hfz19_3
    try clear hfz19_4
    try clear hfz19_5
    try clear hfz19_6
    try clear hx393_0
    try clear hx393_1
    try clear hx393_2
    try clear hx393_3
    try clear p393
    try clear q393
    obtain ⟨kq, x29_2, rfl, HA, HJ2, BK391, BK392, HB⟩ := hcut
    cases kq with
    | zero => exact absurd HA.out (by simp [covenantlaw03_put.j0])
    | succ kj2 =>
      have H := HA.out
      clear HA
      simp only [covenantlaw03_put.j0] at H
      by_cases c20 : x29_2 = true
      · subst c20
        have H1 : (if 0 ≤ a0_5 then (if a0_5 < (l1.length : Int) then ((covenantlaw03_lit.f ((rd_T23 l1 a0_5).f0) ((rd_T23 l1 a0_5).f1) ((rd_T23 l1 a0_5).f2) ((rd_T23 l1 a0_5).f3)).bind fun bt396 => (some (bt396.1, bt396.2.1, bt396.2.2.1, bt396.2.2.2.1, bt396.2.2.2.2.1, bt396.2.2.2.2.2.1, bt396.2.2.2.2.2.2))) else (none)) else (none)) = some (r1, r2, r3, r4, r5, r6, r7) := by rw [if_pos rfl] at H; exact H
        clear H
        have H := H1
        clear H1
        by_cases c21 : 0 ≤ a0_5
        · rw [if_pos c21] at H
          have c21b0 : decide (0 ≤ a0_5) = true := decide_eq_true c21
          clear c21
          by_cases c22 : a0_5 < (l1.length : Int)
          · rw [if_pos c22] at H
            have c22b0 : decide (a0_5 < (l1.length : Int)) = true := decide_eq_true c22
            clear c22
            replace H := Option.bind_eq_some_iff.mp H
            obtain ⟨⟨t396, t397, t398, t399, t400, t401, t402⟩, A230, H⟩ := H
            replace H : (some (t396, t397, t398, t399, t400, t401, t402)) = some (r1, r2, r3, r4, r5, r6, r7) := H
            have A23 := Aside0.mk A230
            clear A230
            simp only [Option.some.injEq, Prod.mk.injEq] at H
            obtain ⟨rfl, rfl, rfl, rfl, rfl, rfl, rfl⟩ := H
            have hnb24 := NB391_392.out
            have hnc24 := NB392_391.out
            have hcz25_0 : wc.cell? ⟨gb391, 0, none⟩ = some (.int .u8 a0_0) := (blk_cell BK391.out 0).trans rfl
            have hcz25_1 : wc.cell? ⟨gb391, 1, none⟩ = some (.int .u8 a0_1) := (blk_cell BK391.out 1).trans rfl
            have hcz25_2 : wc.cell? ⟨gb391, 2, none⟩ = some (.int .i64 a0_2) := (blk_cell BK391.out 2).trans rfl
            have hcz25_3 : wc.cell? ⟨gb391, 3, none⟩ = some (.int .i64 a0_3) := (blk_cell BK391.out 3).trans rfl
            have hcz25_4 : wc.cell? ⟨gb391, 4, none⟩ = some (.string a0_4) := (blk_cell BK391.out 4).trans rfl
            have hcz25_5 : wc.cell? ⟨gb391, 5, none⟩ = some (.int .i64 a0_5) := (blk_cell BK391.out 5).trans rfl
            have hcz25_6 : wc.cell? ⟨gb391, 6, none⟩ = some (.slice A0_6 l0_6.length c0_6) := (blk_cell BK391.out 6).trans rfl
            have hfz25_0 := blk_frozen BK391.out 0
            have hfz25_1 := blk_frozen BK391.out 1
            have hfz25_2 := blk_frozen BK391.out 2
            have hfz25_3 := blk_frozen BK391.out 3
            have hfz25_4 := blk_frozen BK391.out 4
            have hfz25_5 := blk_frozen BK391.out 5
            have hfz25_6 := blk_frozen BK391.out 6
            have p395 : 0 ≤ (a0_5 : Int) := of_decide_eq_true (by first | (with_reducible assumption) | assumption)
            have q395 : a0_5 < (l1.length : Int) := of_decide_eq_true (by first | (with_reducible assumption) | assumption)
            obtain ⟨ad395, e395, hx395_0, hx395_1, hx395_2, hx395_3⟩ := at_T23 HR1.out a0_5 p395 q395
            cases e395
            replace hx395_0 := (HB.out.cell (World.block_lt_of_cell? w _ hx395_0)).trans hx395_0
            replace hx395_1 := (HB.out.cell (World.block_lt_of_cell? w _ hx395_1)).trans hx395_1
            replace hx395_2 := (HB.out.cell (World.block_lt_of_cell? w _ hx395_2)).trans hx395_2
            replace hx395_3 := (HB.out.cell (World.block_lt_of_cell? w _ hx395_3)).trans hx395_3
            replace p395 := eq_true p395
            replace q395 := eq_true q395
            go_wp2_with (first | ((with_reducible refine gate_callee (f := 25) rfl ?_); refine goesL_ (some 35) rfl rfl Try.func25 (by kernel_rfl) rfl #[.agg #[.int .u8 ((rd_T23 l1 a0_5).f0), .int .i64 ((rd_T23 l1 a0_5).f1), .int .i64 ((rd_T23 l1 a0_5).f2), .string ((rd_T23 l1 a0_5).f3)]] rfl (by (try simp only [List.map_toArray, List.map_cons, List.map_nil]); first | done | rfl | (simp only [List.length_drop, List.length_take]; rfl)) ?_; (with_reducible refine (covenantlaw03_lit.calls ((rd_T23 l1 a0_5).f0) ((rd_T23 l1 a0_5).f1) ((rd_T23 l1 a0_5).f2) ((rd_T23 l1 a0_5).f3) t396 t397 t398 t399 t400 t401 t402 _ A23.out).mono ?_); rintro e w26 ⟨v403, rfl, ho0, hb⟩; refine ⟨_, rfl, ?_⟩; have n0_ := Aside0.mk (Kd.R_lower (Kd.R_newB (Kd.R_newB ho0 (g := gb391) (o := .cells #[.int .u8 a0_0, .int .u8 a0_1, .int .i64 a0_2, .int .i64 a0_3, .string a0_4, .int .i64 a0_5, .slice A0_6 l0_6.length c0_6] 26 (0, 0)) (by (with_reducible repeat (first | refine blk_drewN ?_ _ | refine blk_drew ?_ | refine blk_alloc ?_ _)); exact BK391.out)) (g := gb392) (o := .cells #[.int .u8 0, .int .u8 0, .int .i64 0, .int .i64 0, .string (⟨#[]⟩ : ByteArray), .int .i64 0, .slice none 0 0] 26 (0, 0)) (by (with_reducible repeat (first | refine blk_drewN ?_ _ | refine blk_drew ?_ | refine blk_alloc ?_ _)); exact BK392.out)) (below_size (by repeat (first | (with_reducible first | exact HB.out | apply below_alloc | apply pw_below_drewN | apply below_drew1 | refine below_set ?_ GE391.out | refine below_set ?_ GE392.out) | exact HB.out)))); have n1_ := Aside0.mk (blk_below (g := gb391) (o := .cells #[.int .u8 a0_0, .int .u8 a0_1, .int .i64 a0_2, .int .i64 a0_3, .string a0_4, .int .i64 a0_5, .slice A0_6 l0_6.length c0_6] 26 (0, 0)) (by (with_reducible repeat (first | refine blk_drewN ?_ _ | refine blk_drew ?_ | refine blk_alloc ?_ _)); exact BK391.out) hb); have n2_ := Aside0.mk (blk_below (g := gb392) (o := .cells #[.int .u8 0, .int .u8 0, .int .i64 0, .int .i64 0, .string (⟨#[]⟩ : ByteArray), .int .i64 0, .slice none 0 0] 26 (0, 0)) (by (with_reducible repeat (first | refine blk_drewN ?_ _ | refine blk_drew ?_ | refine blk_alloc ?_ _)); exact BK392.out) hb); have n3_ := Aside0.mk (below_step (by repeat (first | (with_reducible first | exact HB.out | apply below_alloc | apply pw_below_drewN | apply below_drew1 | refine below_set ?_ GE391.out | refine below_set ?_ GE392.out) | exact HB.out)) hb); clear BK391; clear BK392; clear HB; have HO404 := n0_; have BK391 := n1_; have BK392 := n2_; have HB := n3_; clear n0_ n1_ n2_ n3_; (try clear hb); (try clear hb2); (try clear hk); (try clear hi); (try clear ho0); have hcz27_0 : w26.cell? ⟨gb392, 0, none⟩ = some (.int .u8 0) := (blk_cell BK392.out 0).trans rfl; have hcz27_1 : w26.cell? ⟨gb392, 1, none⟩ = some (.int .u8 0) := (blk_cell BK392.out 1).trans rfl; have hcz27_2 : w26.cell? ⟨gb392, 2, none⟩ = some (.int .i64 0) := (blk_cell BK392.out 2).trans rfl; have hcz27_3 : w26.cell? ⟨gb392, 3, none⟩ = some (.int .i64 0) := (blk_cell BK392.out 3).trans rfl; have hcz27_4 : w26.cell? ⟨gb392, 4, none⟩ = some (.string (⟨#[]⟩ : ByteArray)) := (blk_cell BK392.out 4).trans rfl; have hcz27_5 : w26.cell? ⟨gb392, 5, none⟩ = some (.int .i64 0) := (blk_cell BK392.out 5).trans rfl; have hcz27_6 : w26.cell? ⟨gb392, 6, none⟩ = some (.slice none 0 0) := (blk_cell BK392.out 6).trans rfl; have hfz27_0 := blk_frozen BK392.out 0; have hfz27_1 := blk_frozen BK392.out 1; have hfz27_2 := blk_frozen BK392.out 2; have hfz27_3 := blk_frozen BK392.out 3; have hfz27_4 := blk_frozen BK392.out 4; have hfz27_5 := blk_frozen BK392.out 5; have hfz27_6 := blk_frozen BK392.out 6; obtain ⟨Ao28, co28, eo28⟩ := Kd.R_slice HO404.out; subst eo28))
            refine bodyPost_ret (results_cell_row rfl _ _ gb392 26 #[.int .u8 t396, .int .u8 t397, .int .i64 t398, .int .i64 t399, .string t400, .int .i64 t401, .slice Ao28 t402.length co28] (0, 0) _ rfl (by (with_reducible repeat (first | refine blk_drewN ?_ _ | refine blk_drew ?_ | refine blk_alloc ?_ _)); refine blk_put (cs := #[.int .u8 t396, .int .u8 t397, .int .i64 t398, .int .i64 t399, .string t400, .int .i64 t401, .slice none 0 0]) ?_ 6 _ rfl; (with_reducible repeat (first | refine blk_drewN ?_ _ | refine blk_drew ?_ | refine blk_alloc ?_ _)); refine blk_put (cs := #[.int .u8 t396, .int .u8 t397, .int .i64 t398, .int .i64 t399, .string t400, .int .i64 0, .slice none 0 0]) ?_ 5 _ rfl; (with_reducible repeat (first | refine blk_drewN ?_ _ | refine blk_drew ?_ | refine blk_alloc ?_ _)); refine blk_put (cs := #[.int .u8 t396, .int .u8 t397, .int .i64 t398, .int .i64 t399, .string (⟨#[]⟩ : ByteArray), .int .i64 0, .slice none 0 0]) ?_ 4 _ rfl; (with_reducible repeat (first | refine blk_drewN ?_ _ | refine blk_drew ?_ | refine blk_alloc ?_ _)); refine blk_put (cs := #[.int .u8 t396, .int .u8 t397, .int .i64 t398, .int .i64 0, .string (⟨#[]⟩ : ByteArray), .int .i64 0, .slice none 0 0]) ?_ 3 _ rfl; (with_reducible repeat (first | refine blk_drewN ?_ _ | refine blk_drew ?_ | refine blk_alloc ?_ _)); refine blk_put (cs := #[.int .u8 t396, .int .u8 t397, .int .i64 0, .int .i64 0, .string (⟨#[]⟩ : ByteArray), .int .i64 0, .slice none 0 0]) ?_ 2 _ rfl; (with_reducible repeat (first | refine blk_drewN ?_ _ | refine blk_drew ?_ | refine blk_alloc ?_ _)); refine blk_put (cs := #[.int .u8 t396, .int .u8 0, .int .i64 0, .int .i64 0, .string (⟨#[]⟩ : ByteArray), .int .i64 0, .slice none 0 0]) ?_ 1 _ rfl; (with_reducible repeat (first | refine blk_drewN ?_ _ | refine blk_drew ?_ | refine blk_alloc ?_ _)); refine blk_put (cs := #[.int .u8 0, .int .u8 0, .int .i64 0, .int .i64 0, .string (⟨#[]⟩ : ByteArray), .int .i64 0, .slice none 0 0]) ?_ 0 _ rfl; (with_reducible repeat (first | refine blk_drewN ?_ _ | refine blk_drew ?_ | refine blk_alloc ?_ _)); exact BK392.out) Try.underlying26 rfl (by kernel_rfl)) rfl ?_
            exact ⟨_, by first | rfl | (simp [errW_none, errW_some] <;> rfl) | (simp [*, errW_none, errW_some] <;> rfl), by (with_reducible repeat (first | apply Kd.R_alloc | apply Kd.R_drewN | apply Kd.R_drew)); exact Kd.R_mono (Kd.R_far (p := ⟨gb392, 6, none⟩) (Kd.R_far (p := ⟨gb392, 5, none⟩) (Kd.R_far (p := ⟨gb392, 4, none⟩) (Kd.R_far (p := ⟨gb392, 3, none⟩) (Kd.R_far (p := ⟨gb392, 2, none⟩) (Kd.R_far (p := ⟨gb392, 1, none⟩) (Kd.R_far (p := ⟨gb392, 0, none⟩) (Kd.R_mono HO404.out (fun k_ hk => (⟨hk, hk.2⟩ : _ ∧ k_ ≠ gb392))) (fun _ hk => hk.2) (.int .u8 t396)) (fun _ hk => hk.2) (.int .u8 t397)) (fun _ hk => hk.2) (.int .i64 t398)) (fun _ hk => hk.2) (.int .i64 t399)) (fun _ hk => hk.2) (.string t400)) (fun _ hk => hk.2) (.int .i64 t401)) (fun _ hk => hk.2) (.slice Ao28 t402.length co28)) (fun _ hk => trivial), by repeat (first | (with_reducible first | exact HB.out | apply below_alloc | apply pw_below_drewN | apply below_drew1 | refine below_set ?_ GE391.out | refine below_set ?_ GE392.out) | exact HB.out)⟩
          · rw [if_neg c22] at H
            exact absurd H (by simp)
        · rw [if_neg c21] at H
          exact absurd H (by simp)
      · replace c20 := Bool.eq_false_iff.mpr c20
        subst c20
        have H1 : (covenantlaw03_put.l0 kj2 l1 ([] : List (S26)) 0 a0_0 a0_1 a0_2 a0_3 a0_4 a0_5 l0_6) = some (r1, r2, r3, r4, r5, r6, r7) := by rw [if_neg (show ¬ (false = true) by decide)] at H; exact H
        clear H
        have H := H1
        clear H1
        have H' := Aside0.mk H
        clear H
        go_wp2
        go_loopg [5, 6] kj2 (fun kq v5 v6 w' => ∃ (x5_2 : List (S26)) (x6_2 : Int), v6 = .int .i64 x6_2 ∧ Aside0 (covenantlaw03_put.l0 kq l1 x5_2 x6_2 a0_0 a0_1 a0_2 a0_3 a0_4 a0_5 l0_6 = some (r1, r2, r3, r4, r5, r6, r7)) ∧ Aside0 (kq ≤ kj2) ∧ Aside0 (Kd.R k26 26 w' w.heap.size (fun k_ => k_ ≠ gb391 ∧ k_ ≠ gb392) v5 x5_2) ∧ Aside0 (w'.heap[gb391]? = some (.cells #[.int .u8 a0_0, .int .u8 a0_1, .int .i64 a0_2, .int .i64 a0_3, .string a0_4, .int .i64 a0_5, (.slice A0_6 l0_6.length c0_6)] 26 (0, 0))) ∧ Aside0 (w'.heap[gb392]? = some (.cells #[.int .u8 0, .int .u8 0, .int .i64 0, .int .i64 0, .string (⟨#[]⟩ : ByteArray), .int .i64 0, (.slice none 0 0)] 26 (0, 0))) ∧ Aside0 (Below w.heap.size w w'))
        case atStart => exact ⟨(([] : List (S26))), (0), (by first | rfl | (simp; done) | (simp [*]; done)), H', ⟨Nat.le_refl _⟩, ⟨by first | exact Kd.R_nil _ _ _ _ _ | exact Kd.N_nil _ _ _ _ _ | exact Kd.V_nil _ _ _ _ _ | exact Kd.Q_nil _ _ _ _ _ | exact Kd.S_nil _ _ _ _ _⟩, ⟨by (with_reducible repeat (first | refine blk_drewN ?_ _ | refine blk_drew ?_ | refine blk_alloc ?_ _)); exact BK391.out⟩, ⟨by (with_reducible repeat (first | refine blk_drewN ?_ _ | refine blk_drew ?_ | refine blk_alloc ?_ _)); exact BK392.out⟩, ⟨by repeat (first | (with_reducible first | exact HB.out | apply below_alloc | apply pw_below_drewN | apply below_drew1 | refine below_set ?_ GE391.out | refine below_set ?_ GE392.out) | exact HB.out)⟩⟩
        case round =>
          clear H'
          try clear c1
          try clear c2
          try clear p2
          try clear p3
          try clear q3
          try clear hx3
          try clear c6
          try clear c6b0
          try clear c6b1
          try clear c7
          try clear c7b0
          try clear c8
          try clear c8b0
          try clear c9
          try clear c9b0
          try clear c11
          try clear c13
          try clear c14
          try clear c16
          try clear c18
          try clear c20
          try clear c21
          try clear c21b0
          try clear c22
          try clear c22b0
          try clear c24
          try clear c25
          try clear hcz12_0
          try clear hcz12_1
          try clear hcz12_2
          try clear hcz12_3
          try clear hcz12_4
          try clear hcz12_5
          try clear hcz12_6
          try clear hcz15_0
          try clear hcz15_1
          try clear hcz15_2
          try clear hcz15_3
          try clear hcz15_4
          try clear hcz15_5
          try clear hcz15_6
          try clear hcz17_0
          try clear hcz17_1
          try clear hcz17_2
          try clear hcz17_3
          try clear hcz17_4
          try clear hcz17_5
          try clear hcz17_6
          try clear hcz19_0
          try clear hcz19_1
          try clear hcz19_2
          try clear hcz19_3
          try clear hcz19_4
          try clear hcz19_5
          try clear hcz19_6
          try clear hcz25_0
          try clear hcz25_1
          try clear hcz25_2
          try clear hcz25_3
          try clear hcz25_4
          try clear hcz25_5
          try clear hcz25_6
          try clear hcz27_0
          try clear hcz27_1
          try clear hcz27_2
          try clear hcz27_3
          try clear hcz27_4
          try clear hcz27_5
          try clear hcz27_6
          try clear hfz12_0
          try clear hfz12_1
          try clear hfz12_2
          try clear hfz12_3
          try clear hfz12_4
          try clear hfz12_5
          try clear hfz12_6
          try clear hfz15_0
          try clear hfz15_1
          try clear hfz15_2
          try clear hfz15_3
          try clear hfz15_4
          try clear hfz15_5
          try clear hfz15_6
          try clear hfz17_0
          try clear hfz17_1
          try clear hfz17_2
          try clear hfz17_3
          try clear hfz17_4
          try clear hfz17_5
          try clear hfz17_6
          try clear hfz19_0
          try clear hfz19_1
          try clear hfz19_2
          try clear hfz19_3
          try clear hfz19_4
          try clear hfz19_5
          try clear hfz19_6
          try clear hfz25_0
          try clear hfz25_1
          try clear hfz25_2
          try clear hfz25_3
          try clear hfz25_4
          try clear hfz25_5
          try clear hfz25_6
          try clear hfz27_0
          try clear hfz27_1
          try clear hfz27_2
          try clear hfz27_3
          try clear hfz27_4
          try clear hfz27_5
          try clear hfz27_6
          try clear hx393_0
          try clear hx393_1
          try clear hx393_2
          try clear hx393_3
          try clear hx395_0
          try clear hx395_1
          try clear hx395_2
          try clear hx395_3
          try clear p2
          try clear p3
          try clear p393
          try clear p395
          try clear q3
          try clear q393
          try clear q395
          obtain ⟨x5_2, x6_2, rfl, HA, HK2, HO_5, BK391, BK392, HB⟩ := hrel
          cases gk with
          | zero => exact absurd HA.out (by simp [covenantlaw03_put.l0])
          | succ k2 =>
            have H := HA.out
            clear HA
            simp only [covenantlaw03_put.l0] at H
            by_cases c29 : x6_2 < (l0_6.length : Int)
            · rw [if_pos c29] at H
              have c29b0 : decide (x6_2 < (l0_6.length : Int)) = true := decide_eq_true c29
              clear c29
              by_cases c30 : 0 ≤ x6_2
              · rw [if_pos c30] at H
                have c30b0 : decide (0 ≤ x6_2) = true := decide_eq_true c30
                clear c30
                replace H := Option.bind_eq_some_iff.mp H
                obtain ⟨⟨t406, t407, t408, t409, t410, t411, t412⟩, A310, H⟩ := H
                replace H : (if x5_2.length < 1759218604441 then (covenantlaw03_put.l0 k2 l1 (x5_2 ++ [(⟨t406, (⟨t407, t408, t409, t410⟩ : S23), t411, t412⟩ : S26)]) (wrap64 (x6_2 + 1)) a0_0 a0_1 a0_2 a0_3 a0_4 a0_5 l0_6) else (none)) = some (r1, r2, r3, r4, r5, r6, r7) := H
                have A31 := Aside0.mk A310
                clear A310
                by_cases c32 : x5_2.length < 1759218604441
                · rw [if_pos c32] at H
                  have LMc32 := Aside0.mk c32
                  clear c32
                  obtain ⟨y415, hy415⟩ : ∃ y_ : List (S26), y_ = (x5_2 ++ [(⟨t406, (⟨t407, t408, t409, t410⟩ : S23), t411, t412⟩ : S26)]) := ⟨_, rfl⟩
                  replace H : (covenantlaw03_put.l0 k2 l1 y415 (wrap64 (x6_2 + 1)) a0_0 a0_1 a0_2 a0_3 a0_4 a0_5 l0_6) = some (r1, r2, r3, r4, r5, r6, r7) := by first | (rw [hy415]; with_reducible exact H) | (have H2_ := (Option.bind_some _ _).symm.trans H; rw [hy415]; with_reducible exact H2_) | (have H2_ := (Option.bind_some _ _).symm.trans H; with_reducible exact H2_) | with_reducible exact H | (rw [hy415]; exact H) | exact H
                  have Ny415 := Aside0.mk hy415
                  clear hy415
                  have H' := Aside0.mk H
                  clear H
                  have hnb33 := NB391_392.out
                  have hnc33 := NB392_391.out
                  have hcz34_0 : wr.cell? ⟨gb391, 0, none⟩ = some (.int .u8 a0_0) := (blk_cell BK391.out 0).trans rfl
                  have hcz34_1 : wr.cell? ⟨gb391, 1, none⟩ = some (.int .u8 a0_1) := (blk_cell BK391.out 1).trans rfl
                  have hcz34_2 : wr.cell? ⟨gb391, 2, none⟩ = some (.int .i64 a0_2) := (blk_cell BK391.out 2).trans rfl
                  have hcz34_3 : wr.cell? ⟨gb391, 3, none⟩ = some (.int .i64 a0_3) := (blk_cell BK391.out 3).trans rfl
                  have hcz34_4 : wr.cell? ⟨gb391, 4, none⟩ = some (.string a0_4) := (blk_cell BK391.out 4).trans rfl
                  have hcz34_5 : wr.cell? ⟨gb391, 5, none⟩ = some (.int .i64 a0_5) := (blk_cell BK391.out 5).trans rfl
                  have hcz34_6 : wr.cell? ⟨gb391, 6, none⟩ = some (.slice A0_6 l0_6.length c0_6) := (blk_cell BK391.out 6).trans rfl
                  have hfz34_0 := blk_frozen BK391.out 0
                  have hfz34_1 := blk_frozen BK391.out 1
                  have hfz34_2 := blk_frozen BK391.out 2
                  have hfz34_3 := blk_frozen BK391.out 3
                  have hfz34_4 := blk_frozen BK391.out 4
                  have hfz34_5 := blk_frozen BK391.out 5
                  have hfz34_6 := blk_frozen BK391.out 6
                  have p405 : 0 ≤ (x6_2 : Int) := of_decide_eq_true (by first | (with_reducible assumption) | assumption)
                  have q405 : x6_2 < (l0_6.length : Int) := of_decide_eq_true (by first | (with_reducible assumption) | assumption)
                  obtain ⟨ad405, A405_6, c405_6, e405, hx405_0, hx405_1, hx405_2, hx405_3, hx405_4, hx405_5, hx405_6, hl405_6, hi405_6⟩ := at_T26 HR0_6.out x6_2 p405 q405
                  cases e405
                  replace hx405_0 := (HB.out.cell (World.block_lt_of_cell? w _ hx405_0)).trans hx405_0
                  replace hx405_1 := (HB.out.cell (World.block_lt_of_cell? w _ hx405_1)).trans hx405_1
                  replace hx405_2 := (HB.out.cell (World.block_lt_of_cell? w _ hx405_2)).trans hx405_2
                  replace hx405_3 := (HB.out.cell (World.block_lt_of_cell? w _ hx405_3)).trans hx405_3
                  replace hx405_4 := (HB.out.cell (World.block_lt_of_cell? w _ hx405_4)).trans hx405_4
                  replace hx405_5 := (HB.out.cell (World.block_lt_of_cell? w _ hx405_5)).trans hx405_5
                  replace hx405_6 := (HB.out.cell (World.block_lt_of_cell? w _ hx405_6)).trans hx405_6
                  have HR405_6 := Aside0.mk hi405_6
                  have HC405_6 := Aside0.mk hl405_6
                  clear hi405_6 hl405_6
                  replace p405 := eq_true p405
                  replace q405 := eq_true q405
                  go_wp2_with (first | ((with_reducible refine gate_callee (f := 13) rfl ?_); refine goesL_ (some 50) rfl rfl Try.func13 (by kernel_rfl) rfl #[.agg #[.int .u8 ((rd_T26 l0_6 x6_2).f0), .int .u8 ((rd_T26 l0_6 x6_2).f1.f0), .int .i64 ((rd_T26 l0_6 x6_2).f1.f1), .int .i64 ((rd_T26 l0_6 x6_2).f1.f2), .string ((rd_T26 l0_6 x6_2).f1.f3), .int .i64 ((rd_T26 l0_6 x6_2).f2), .slice A405_6 ((rd_T26 l0_6 x6_2).f3).length c405_6], .slice A1 l1.length c1] rfl (by (try simp only [List.map_toArray, List.map_cons, List.map_nil]); first | done | rfl | (simp only [List.length_drop, List.length_take]; rfl)) ?_; (with_reducible refine (ih k2 (by have := HJ2.out; have := HK2.out; omega) ((rd_T26 l0_6 x6_2).f0) ((rd_T26 l0_6 x6_2).f1.f0) ((rd_T26 l0_6 x6_2).f1.f1) ((rd_T26 l0_6 x6_2).f1.f2) ((rd_T26 l0_6 x6_2).f1.f3) ((rd_T26 l0_6 x6_2).f2) _ _ ((rd_T26 l0_6 x6_2).f3) _ _ l1 t406 t407 t408 t409 t410 t411 t412 _ ?side1 ?side2 ?side3 ?side4 A31.out).mono ?_); (case side1 => repeat (first | exact (Kd.C_below HR405_6.out HB.out) | (with_reducible refine Kd.C_alloc ?_ _) | (with_reducible refine Kd.C_drewN ?_ _) | (with_reducible refine Kd.C_drew ?_))); (case side2 => exact HC405_6.out); (case side3 => repeat (first | exact (Kd.C_below HR1.out HB.out) | (with_reducible refine Kd.C_alloc ?_ _) | (with_reducible refine Kd.C_drewN ?_ _) | (with_reducible refine Kd.C_drew ?_))); (case side4 => exact HC1.out); rintro e w35 ⟨v413, rfl, ho0, hb⟩; refine ⟨_, rfl, ?_⟩; have n0_ := Aside0.mk (Kd.R_elder' (by (with_reducible repeat (first | apply Kd.R_alloc | apply Kd.R_drewN | apply Kd.R_drew)); exact HO_5.out) (Kd.R_base ho0) hb); have n1_ := Aside0.mk (Kd.R_lower (Kd.R_newB (Kd.R_newB (Kd.R_new' ho0 (Kd.R_lt (by (with_reducible repeat (first | apply Kd.R_alloc | apply Kd.R_drewN | apply Kd.R_drew)); exact HO_5.out))) (g := gb391) (o := .cells #[.int .u8 a0_0, .int .u8 a0_1, .int .i64 a0_2, .int .i64 a0_3, .string a0_4, .int .i64 a0_5, .slice (some ad405) l0_6.length c0_6] 26 (0, 0)) (by (with_reducible repeat (first | refine blk_drewN ?_ _ | refine blk_drew ?_ | refine blk_alloc ?_ _)); exact BK391.out)) (g := gb392) (o := .cells #[.int .u8 0, .int .u8 0, .int .i64 0, .int .i64 0, .string (⟨#[]⟩ : ByteArray), .int .i64 0, .slice none 0 0] 26 (0, 0)) (by (with_reducible repeat (first | refine blk_drewN ?_ _ | refine blk_drew ?_ | refine blk_alloc ?_ _)); exact BK392.out)) (below_size (by repeat (first | (with_reducible first | exact HB.out | apply below_alloc | apply pw_below_drewN | apply below_drew1 | refine below_set ?_ GE391.out | refine below_set ?_ GE392.out) | exact HB.out)))); have n2_ := Aside0.mk (blk_below (g := gb391) (o := .cells #[.int .u8 a0_0, .int .u8 a0_1, .int .i64 a0_2, .int .i64 a0_3, .string a0_4, .int .i64 a0_5, .slice (some ad405) l0_6.length c0_6] 26 (0, 0)) (by (with_reducible repeat (first | refine blk_drewN ?_ _ | refine blk_drew ?_ | refine blk_alloc ?_ _)); exact BK391.out) hb); have n3_ := Aside0.mk (blk_below (g := gb392) (o := .cells #[.int .u8 0, .int .u8 0, .int .i64 0, .int .i64 0, .string (⟨#[]⟩ : ByteArray), .int .i64 0, .slice none 0 0] 26 (0, 0)) (by (with_reducible repeat (first | refine blk_drewN ?_ _ | refine blk_drew ?_ | refine blk_alloc ?_ _)); exact BK392.out) hb); have n4_ := Aside0.mk (below_step (by repeat (first | (with_reducible first | exact HB.out | apply below_alloc | apply pw_below_drewN | apply below_drew1 | refine below_set ?_ GE391.out | refine below_set ?_ GE392.out) | exact HB.out)) hb); clear HO_5; clear BK391; clear BK392; clear HB; have HO_5 := n0_; have HO414 := n1_; have BK391 := n2_; have BK392 := n3_; have HB := n4_; clear n0_ n1_ n2_ n3_ n4_; (try clear hb); (try clear hb2); (try clear hk); (try clear hi); (try clear ho0); obtain ⟨Ao37, co37, eo37⟩ := Kd.R_slice HO414.out; subst eo37) | ((with_reducible refine gate_builtin (b := .append) (xs := #[.tmp 43, .tmp 51]) rfl ?_); (try (refine gate_guard (by rfl) ?_; dsimp only)); at_builtin; refine Kd.R_append k26 (w0 := w) w.heap.size rfl (.tmp 43) (.tmp 51) 24 26 (.agg #[(.int .u8 0), (.int .u8 0), (.int .i64 0), (.int .i64 0), (.string ⟨#[]⟩), (.int .i64 0), (.slice none 0 0)]) 80 rfl Try.underlying24 info26 rfl (by decide) (by omega) u5 x5_2 (⟨t406, (⟨t407, t408, t409, t410⟩ : S23), t411, t412⟩ : S26) [.int .u8 t406, .int .u8 t407, .int .i64 t408, .int .i64 t409, .string t410, .int .i64 t411, .slice Ao37 t412.length co37] (fun k_ => k_ ≠ gb391 ∧ k_ ≠ gb392) (fun k_ => ((fun k_ => k_ ≠ gb391 ∧ k_ ≠ gb392)) k_ ∧ some k_ ≠ (u5 : Value).ownBlock) rfl rfl ?aP (fun _ hk => hk) ?aF ?aO ?aB ?aS ?aL ?_; (case aP => exact k26_mkM _ _ _ (⟨t406, (⟨t407, t408, t409, t410⟩ : S23), t411, t412⟩ : S26) (Kd.R_mono (HO414.out) (fun k_ hk => ⟨⟨hk.1.2, hk.2⟩, hk.1.1.2⟩))); (case aB => exact (by repeat (first | (with_reducible first | exact HB.out | apply below_alloc | apply pw_below_drewN | apply below_drew1 | refine below_set ?_ GE391.out | refine below_set ?_ GE392.out) | exact HB.out))); (case aF => exact (fun k_ hk => ⟨Kd.freshB (g := gb391) (o := .cells #[.int .u8 a0_0, .int .u8 a0_1, .int .i64 a0_2, .int .i64 a0_3, .string a0_4, .int .i64 a0_5, .slice (some ad405) l0_6.length c0_6] 26 (0, 0)) (by (with_reducible repeat (first | refine blk_drewN ?_ _ | refine blk_drew ?_ | refine blk_alloc ?_ _)); exact BK391.out) k_ hk, Kd.freshB (g := gb392) (o := .cells #[.int .u8 0, .int .u8 0, .int .i64 0, .int .i64 0, .string (⟨#[]⟩ : ByteArray), .int .i64 0, .slice none 0 0] 26 (0, 0)) (by (with_reducible repeat (first | refine blk_drewN ?_ _ | refine blk_drew ?_ | refine blk_alloc ?_ _)); exact BK392.out) k_ hk⟩)); (case aO => exact (by (with_reducible repeat (first | apply Kd.R_alloc | apply Kd.R_drewN | apply Kd.R_drew)); exact Kd.R_mono HO_5.out (fun _ hk => ⟨hk.1.1, hk.1.2⟩))); (case aS => exact (below_size (by repeat (first | (with_reducible first | exact HB.out | apply below_alloc | apply pw_below_drewN | apply below_drew1 | refine below_set ?_ GE391.out | refine below_set ?_ GE392.out) | exact HB.out)))); (case aL => have := LMc32.out; omega); intro v416 w36 ho hb hg hat; rw [← Ny415.out] at ho; have n0_ := Aside0.mk (blk_grown (g := gb391) (o := .cells #[.int .u8 a0_0, .int .u8 a0_1, .int .i64 a0_2, .int .i64 a0_3, .string a0_4, .int .i64 a0_5, .slice (some ad405) l0_6.length c0_6] 26 (0, 0)) (by (with_reducible repeat (first | refine blk_drewN ?_ _ | refine blk_drew ?_ | refine blk_alloc ?_ _)); exact BK391.out) hg (Kd.R_away HO_5.out (fun _ hk => hk.1.1))); have n1_ := Aside0.mk (blk_grown (g := gb392) (o := .cells #[.int .u8 0, .int .u8 0, .int .i64 0, .int .i64 0, .string (⟨#[]⟩ : ByteArray), .int .i64 0, .slice none 0 0] 26 (0, 0)) (by (with_reducible repeat (first | refine blk_drewN ?_ _ | refine blk_drew ?_ | refine blk_alloc ?_ _)); exact BK392.out) hg (Kd.R_away HO_5.out (fun _ hk => hk.1.2))); have n2_ := Aside0.mk (hb); have n3_ := Aside0.mk (ho); clear BK391; clear BK392; clear HB; clear HO_5; clear HO414; have BK391 := n0_; have BK392 := n1_; have HB := n2_; have HO417 := n3_; clear n0_ n1_ n2_ n3_; clear ho hb hg hat))
                  go_roundg k2
                  case measure => have := HJ2.out; have := HK2.out; omega
                  case rel => exact ⟨(y415), (wrap64 (x6_2 + 1)), (by first | rfl | (simp; done) | (simp [*]; done)), H', ⟨by have := HJ2.out; have := HK2.out; omega⟩, ⟨by (with_reducible repeat (first | apply Kd.R_alloc | apply Kd.R_drewN | apply Kd.R_drew)); exact HO417.out⟩, ⟨by (with_reducible repeat (first | refine blk_drewN ?_ _ | refine blk_drew ?_ | refine blk_alloc ?_ _)); exact BK391.out⟩, ⟨by (with_reducible repeat (first | refine blk_drewN ?_ _ | refine blk_drew ?_ | refine blk_alloc ?_ _)); exact BK392.out⟩, ⟨by repeat (first | (with_reducible first | exact HB.out | apply below_alloc | apply pw_below_drewN | apply below_drew1 | refine below_set ?_ GE391.out | refine below_set ?_ GE392.out) | exact HB.out)⟩⟩
                · rw [if_neg c32] at H
                  exact absurd H (by simp)
              · rw [if_neg c30] at H
                exact absurd H (by simp)
            · rw [if_neg c29] at H
              have c29b0 : decide (x6_2 < (l0_6.length : Int)) = false := decide_eq_false c29
              clear c29
              simp only [Option.some.injEq, Prod.mk.injEq] at H
              obtain ⟨rfl, rfl, rfl, rfl, rfl, rfl, rfl⟩ := H
              have hnb38 := NB391_392.out
              have hnc38 := NB392_391.out
              have hcz39_0 : wr.cell? ⟨gb391, 0, none⟩ = some (.int .u8 a0_0) := (blk_cell BK391.out 0).trans rfl
              have hcz39_1 : wr.cell? ⟨gb391, 1, none⟩ = some (.int .u8 a0_1) := (blk_cell BK391.out 1).trans rfl
              have hcz39_2 : wr.cell? ⟨gb391, 2, none⟩ = some (.int .i64 a0_2) := (blk_cell BK391.out 2).trans rfl
              have hcz39_3 : wr.cell? ⟨gb391, 3, none⟩ = some (.int .i64 a0_3) := (blk_cell BK391.out 3).trans rfl
              have hcz39_4 : wr.cell? ⟨gb391, 4, none⟩ = some (.string a0_4) := (blk_cell BK391.out 4).trans rfl
              have hcz39_5 : wr.cell? ⟨gb391, 5, none⟩ = some (.int .i64 a0_5) := (blk_cell BK391.out 5).trans rfl
              have hcz39_6 : wr.cell? ⟨gb391, 6, none⟩ = some (.slice A0_6 l0_6.length c0_6) := (blk_cell BK391.out 6).trans rfl
              have hfz39_0 := blk_frozen BK391.out 0
              have hfz39_1 := blk_frozen BK391.out 1
              have hfz39_2 := blk_frozen BK391.out 2
              have hfz39_3 := blk_frozen BK391.out 3
              have hfz39_4 := blk_frozen BK391.out 4
              have hfz39_5 := blk_frozen BK391.out 5
              have hfz39_6 := blk_frozen BK391.out 6
              obtain ⟨Ao40, co40, eo40⟩ := Kd.R_slice HO_5.out
              subst eo40
              have hcz41_0 : wr.cell? ⟨gb392, 0, none⟩ = some (.int .u8 0) := (blk_cell BK392.out 0).trans rfl
              have hcz41_1 : wr.cell? ⟨gb392, 1, none⟩ = some (.int .u8 0) := (blk_cell BK392.out 1).trans rfl
              have hcz41_2 : wr.cell? ⟨gb392, 2, none⟩ = some (.int .i64 0) := (blk_cell BK392.out 2).trans rfl
              have hcz41_3 : wr.cell? ⟨gb392, 3, none⟩ = some (.int .i64 0) := (blk_cell BK392.out 3).trans rfl
              have hcz41_4 : wr.cell? ⟨gb392, 4, none⟩ = some (.string (⟨#[]⟩ : ByteArray)) := (blk_cell BK392.out 4).trans rfl
              have hcz41_5 : wr.cell? ⟨gb392, 5, none⟩ = some (.int .i64 0) := (blk_cell BK392.out 5).trans rfl
              have hcz41_6 : wr.cell? ⟨gb392, 6, none⟩ = some (.slice none 0 0) := (blk_cell BK392.out 6).trans rfl
              have hfz41_0 := blk_frozen BK392.out 0
              have hfz41_1 := blk_frozen BK392.out 1
              have hfz41_2 := blk_frozen BK392.out 2
              have hfz41_3 := blk_frozen BK392.out 3
              have hfz41_4 := blk_frozen BK392.out 4
              have hfz41_5 := blk_frozen BK392.out 5
              have hfz41_6 := blk_frozen BK392.out 6
              go_wp2
              refine bodyPost_ret (results_cell_row rfl _ _ gb392 26 #[.int .u8 a0_0, .int .u8 a0_1, .int .i64 a0_2, .int .i64 a0_3, .string a0_4, .int .i64 a0_5, .slice Ao40 x5_2.length co40] (0, 0) _ rfl (by (with_reducible repeat (first | refine blk_drewN ?_ _ | refine blk_drew ?_ | refine blk_alloc ?_ _)); refine blk_put (cs := #[.int .u8 a0_0, .int .u8 a0_1, .int .i64 a0_2, .int .i64 a0_3, .string a0_4, .int .i64 a0_5, .slice none 0 0]) ?_ 6 _ rfl; (with_reducible repeat (first | refine blk_drewN ?_ _ | refine blk_drew ?_ | refine blk_alloc ?_ _)); refine blk_put (cs := #[.int .u8 a0_0, .int .u8 a0_1, .int .i64 a0_2, .int .i64 a0_3, .string a0_4, .int .i64 0, .slice none 0 0]) ?_ 5 _ rfl; (with_reducible repeat (first | refine blk_drewN ?_ _ | refine blk_drew ?_ | refine blk_alloc ?_ _)); refine blk_put (cs := #[.int .u8 a0_0, .int .u8 a0_1, .int .i64 a0_2, .int .i64 a0_3, .string (⟨#[]⟩ : ByteArray), .int .i64 0, .slice none 0 0]) ?_ 4 _ rfl; (with_reducible repeat (first | refine blk_drewN ?_ _ | refine blk_drew ?_ | refine blk_alloc ?_ _)); refine blk_put (cs := #[.int .u8 a0_0, .int .u8 a0_1, .int .i64 a0_2, .int .i64 0, .string (⟨#[]⟩ : ByteArray), .int .i64 0, .slice none 0 0]) ?_ 3 _ rfl; (with_reducible repeat (first | refine blk_drewN ?_ _ | refine blk_drew ?_ | refine blk_alloc ?_ _)); refine blk_put (cs := #[.int .u8 a0_0, .int .u8 a0_1, .int .i64 0, .int .i64 0, .string (⟨#[]⟩ : ByteArray), .int .i64 0, .slice none 0 0]) ?_ 2 _ rfl; (with_reducible repeat (first | refine blk_drewN ?_ _ | refine blk_drew ?_ | refine blk_alloc ?_ _)); refine blk_put (cs := #[.int .u8 a0_0, .int .u8 0, .int .i64 0, .int .i64 0, .string (⟨#[]⟩ : ByteArray), .int .i64 0, .slice none 0 0]) ?_ 1 _ rfl; (with_reducible repeat (first | refine blk_drewN ?_ _ | refine blk_drew ?_ | refine blk_alloc ?_ _)); refine blk_put (cs := #[.int .u8 0, .int .u8 0, .int .i64 0, .int .i64 0, .string (⟨#[]⟩ : ByteArray), .int .i64 0, .slice none 0 0]) ?_ 0 _ rfl; (with_reducible repeat (first | refine blk_drewN ?_ _ | refine blk_drew ?_ | refine blk_alloc ?_ _)); exact BK392.out) Try.underlying26 rfl (by kernel_rfl)) rfl ?_
              exact ⟨_, by first | rfl | (simp [errW_none, errW_some] <;> rfl) | (simp [*, errW_none, errW_some] <;> rfl), by (with_reducible repeat (first | apply Kd.R_alloc | apply Kd.R_drewN | apply Kd.R_drew)); exact Kd.R_mono (Kd.R_far (p := ⟨gb392, 6, none⟩) (Kd.R_far (p := ⟨gb392, 5, none⟩) (Kd.R_far (p := ⟨gb392, 4, none⟩) (Kd.R_far (p := ⟨gb392, 3, none⟩) (Kd.R_far (p := ⟨gb392, 2, none⟩) (Kd.R_far (p := ⟨gb392, 1, none⟩) (Kd.R_far (p := ⟨gb392, 0, none⟩) (Kd.R_mono HO_5.out (fun k_ hk => (⟨hk, hk.2⟩ : _ ∧ k_ ≠ gb392))) (fun _ hk => hk.2) (.int .u8 a0_0)) (fun _ hk => hk.2) (.int .u8 a0_1)) (fun _ hk => hk.2) (.int .i64 a0_2)) (fun _ hk => hk.2) (.int .i64 a0_3)) (fun _ hk => hk.2) (.string a0_4)) (fun _ hk => hk.2) (.int .i64 a0_5)) (fun _ hk => hk.2) (.slice Ao40 x5_2.length co40)) (fun _ hk => trivial), by repeat (first | (with_reducible first | exact HB.out | apply below_alloc | apply pw_below_drewN | apply below_drew1 | refine below_set ?_ GE391.out | refine below_set ?_ GE392.out) | exact HB.out)⟩

-- NOT PRINTED: function 4 (covenantlaw03_ExprPut)

end Go.Proofs.Ytengccmjlaejfaa.PExprPut
