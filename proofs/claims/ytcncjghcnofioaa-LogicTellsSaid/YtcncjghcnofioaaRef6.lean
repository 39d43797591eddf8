/- The walks of covenantref02's Mul, Neg. The condition: numbers are of 64 bits. -/
import Derived.Test.YtcncjghcnofioaaRef5
import Derived.Deep.RegionHeld3
namespace Go.Proofs.Ytcncjghcnofioaa
open Go.RowKit

set_option maxRecDepth 100000 in
set_option maxHeartbeats 4000000 in
theorem rneg_any (a : V) (ha : -9223372036854775808 ≤ a.n ∧ a.n ≤ 9223372036854775807) (w : World) :
    Calls Try.prog 38 #[vV a] w fun e w' => e = .returned (.tuple #[vV (numV (intV 0) a (wrap64 (0 - a.n)) (okI (0 - a.n))).1, .int .i64 (numV (intV 0) a (wrap64 (0 - a.n)) (okI (0 - a.n))).2]) ∧ Fr noB w w' := by
  have HI := Lib.hid (show ∀ W : World, Calls Try.prog 34 #[.int .i64 0] W fun e w' => e = .returned (.agg #[.int .u8 1, .int .i64 0, .int .i64 0, .string ⟨#[]⟩]) ∧ Fr noB W w' from fun W => rint_any 0 W)
  have HS0 := fun W : World => rsub_any (intV 0) a (by decide) ha W
  change ∀ W : World, Calls Try.prog 42 #[vV (intV 0), vV a] W fun e w' => e = .returned (.tuple #[vV (numV (intV 0) a (wrap64 (0 - a.n)) (okI (0 - a.n))).1, .int .i64 (numV (intV 0) a (wrap64 (0 - a.n)) (okI (0 - a.n))).2]) ∧ Fr noB W w' at HS0
  generalize numV (intV 0) a (wrap64 (0 - a.n)) (okI (0 - a.n)) = rr at *
  unfold vV at HS0 ⊢
  dsimp only [intV] at HS0
  have HS := Lib.hid HS0
  clear HS0 ha
  go_enter Try.func38, Try.ntmps38
  go_upto_region 1 with fail
  have hfw_0 := Fr.refl noB w
  have hl := hfw_0.size
  refine wp_world (fun W => Fr noB w W ∧ Bx W w.heap.size a ∧ Bl W (w.heap.size + 1) 0 0 0) ?_ ?_
  · refine ⟨?_, ?_, ?_⟩ <;> ((first | unfold Bx | unfold Bl | skip); repeat (first | with_reducible exact hfw_0 | with_reducible refine Fr.alloc ?_ _ | (with_reducible refine Fr.setCell ?_ ?_ _; rotate_left; (intro h; dsimp only at h; omega)) | with_reducible refine Fr.drew ?_ | (with_reducible refine obj_alloc_at ?_; simp; done) | (with_reducible apply obj_put4; omega) | (with_reducible apply obj_put1; omega) | (with_reducible refine obj_setCell_other ?_ _ _ ?_; rotate_left; (dsimp only; omega)) | with_reducible refine obj_alloc ?_ _ | with_reducible refine obj_drew ?_ | exact hfw_0))
  clear hl hfw_0
  rintro w1 ⟨hfw_1, hba_1, hbr_1⟩
  obtain ⟨ca_0, ca_1, ca_2, ca_3, za⟩ := hba_1.cs
  obtain ⟨cr_0, cr_1, cr_2, cr_3, zr⟩ := hbr_1.cs
  have hqa := obj_drew hba_1.raw
  have hqr := obj_drew hbr_1.raw
  have la := hqa
  have hdq : w1.drew.heap.size = w1.heap.size := rfl
  have hva : ∀ X : World, X.heap[w.heap.size]? = some (.cells #[.int .u8 a.k, .int .i64 a.n, .int .i64 a.hi, .string a.t] 23 (0, 0)) → X.cell? ⟨w.heap.size, 0, none⟩ = some (.int .u8 a.k) ∧ X.cell? ⟨w.heap.size, 1, none⟩ = some (.int .i64 a.n) ∧ X.cell? ⟨w.heap.size, 2, none⟩ = some (.int .i64 a.hi) ∧ X.cell? ⟨w.heap.size, 3, none⟩ = some (.string a.t) := fun X h => v_cells (v := a) h
  go_region_held3 (fun X : World => X.cell? ⟨w.heap.size, 0, none⟩ = some (.int .u8 a.k) ∧ X.cell? ⟨w.heap.size, 1, none⟩ = some (.int .i64 a.n) ∧ X.cell? ⟨w.heap.size, 2, none⟩ = some (.int .i64 a.hi) ∧ X.cell? ⟨w.heap.size, 3, none⟩ = some (.string a.t)) ((refine (hva _ ?_) <;> repeat (first | with_reducible exact hqa | with_reducible exact hba_1.raw | with_reducible refine obj_alloc ?_ _ | (with_reducible refine obj_setCell_other ?_ _ _ ?_; rotate_left; (dsimp only; omega)) | with_reducible refine obj_drew ?_))) (first | (go_at_call 34; refine (HI.out _).mono ?_; rintro e x0 ⟨rfl, hG0⟩; refine have_of (p := x0.heap[w.heap.size]? = some (.cells #[.int .u8 a.k, .int .i64 a.n, .int .i64 a.hi, .string a.t] 23 (0, 0))) ?_ (fun hqa => ?_); (focus (refine hG0.obj (noB_not _) ?_; with_reducible exact hqa)); refine have_of (p := x0.heap[w.heap.size + 1]? = some (.cells #[.int .u8 0, .int .i64 0, .int .i64 0, .string ⟨#[]⟩] 23 (0, 0))) ?_ (fun hqr => ?_); (focus (refine hG0.obj (noB_not _) ?_; with_reducible exact hqr))) | (go_at_call 42; refine (HS.out _).mono ?_; rintro e x1 ⟨rfl, hG1⟩; refine have_of (p := x1.heap[w.heap.size]? = some (.cells #[.int .u8 a.k, .int .i64 a.n, .int .i64 a.hi, .string a.t] 23 (0, 0))) ?_ (fun hqa => ?_); (focus (refine hG1.obj (noB_not _) ?_; with_reducible exact hqa)); refine have_of (p := x1.heap[w.heap.size + 1]? = some (.cells #[.int .u8 0, .int .i64 0, .int .i64 0, .string ⟨#[]⟩] 23 (0, 0))) ?_ (fun hqr => ?_); (focus (refine hG1.obj (noB_not _) ?_; with_reducible exact hqr)); have znr := frozen_of_obj hqr; obtain ⟨r0, r1, r2, r3⟩ := v_cells (v := zV) hqr))
  go_wp2_with fail
  refine bodyPost_ret (ret_val2 rfl _ _ (w.heap.size + 1) rr.1 _ rfl rfl ?_) rfl ⟨?_, ?_⟩
  · exact obj_setCell (obj_setCell (obj_setCell (obj_setCell hqr 0 _) 1 _) 2 _) 3 _
  · rfl
  · have hd : Fr noB w1 w1.drew := (Fr.refl _ _).drew
    exact ((((hfw_1.transN (hd.transN (hG0.transN hG1))).setCell (fun h => by dsimp only at h; omega) _).setCell (fun h => by dsimp only at h; omega) _).setCell (fun h => by dsimp only at h; omega) _).setCell (fun h => by dsimp only at h; omega) _

theorem mul1 {x y : Int} (_px : 0 < x) (py : 0 < y) (q : 9223372036854775807 / y < x) : x * y < -9223372036854775808 ∨ 9223372036854775807 < x * y := by
  rw [Int.ediv_lt_iff_lt_mul py] at q; exact .inr q
theorem mul1n {x y : Int} (px : 0 < x) (py : 0 < y) (q : ¬ 9223372036854775807 / y < x) : -9223372036854775808 ≤ x * y ∧ x * y ≤ 9223372036854775807 := by
  rw [Int.ediv_lt_iff_lt_mul py] at q
  have := Int.mul_pos px py
  omega
theorem quo_wrap {x : Int} (px : 0 < x) : wrap64 (-Int.tdiv 9223372036854775808 x) = -(9223372036854775808 / x) := by
  rw [Int.tdiv_eq_ediv_of_nonneg (by decide)]
  have h1 := Int.ediv_nonneg (show (0 : Int) ≤ 9223372036854775808 by decide) (Int.le_of_lt px)
  have h2 := Int.ediv_le_self x (show (0 : Int) ≤ 9223372036854775808 by decide)
  unfold wrap64; omega
theorem mul2 {x y : Int} (px : 0 < x) (_py : y < 0) (q : y < wrap64 (-Int.tdiv 9223372036854775808 x)) : x * y < -9223372036854775808 ∨ 9223372036854775807 < x * y := by
  rw [quo_wrap px] at q
  have q2 : 9223372036854775808 / x < -y := by omega
  rw [Int.ediv_lt_iff_lt_mul px, Int.neg_mul, Int.mul_comm y x] at q2
  omega
theorem mul2n {x y : Int} (px : 0 < x) (py : y < 0) (q : ¬ y < wrap64 (-Int.tdiv 9223372036854775808 x)) : -9223372036854775808 ≤ x * y ∧ x * y ≤ 9223372036854775807 := by
  rw [quo_wrap px] at q
  have q2 : ¬ 9223372036854775808 / x < -y := by omega
  rw [Int.ediv_lt_iff_lt_mul px, Int.neg_mul, Int.mul_comm y x] at q2
  have := Int.mul_neg_of_pos_of_neg px py
  omega
theorem mul4 {x y : Int} (hx : x = -9223372036854775808) (py : y < 0) : x * y < -9223372036854775808 ∨ 9223372036854775807 < x * y := by
  rw [hx]; omega
theorem quo_wrap2 {x y : Int} (px : x < 0) (py : y < 0) (hx : -9223372036854775808 ≤ x) (hy : -9223372036854775808 ≤ y) (mx : ¬ x = -9223372036854775808) (my : ¬ y = -9223372036854775808) :
    wrap64 (Int.tdiv 9223372036854775807 (wrap64 (-y))) < wrap64 (-x) ↔ 9223372036854775807 < x * y := by
  have e1 : wrap64 (-y) = -y := by unfold wrap64; omega
  have e2 : wrap64 (-x) = -x := by unfold wrap64; omega
  have h1 := Int.ediv_nonneg (show (0 : Int) ≤ 9223372036854775807 by decide) (show (0 : Int) ≤ -y by omega)
  have h2 := Int.ediv_le_self (-y) (show (0 : Int) ≤ 9223372036854775807 by decide)
  have e3 : wrap64 (9223372036854775807 / -y) = 9223372036854775807 / -y := by unfold wrap64; omega
  rw [e1, e2, Int.tdiv_eq_ediv_of_nonneg (by decide), e3, Int.ediv_lt_iff_lt_mul (by omega), Int.neg_mul_neg]
theorem mul3 {x y : Int} (px : x < 0) (py : y < 0) (hx : -9223372036854775808 ≤ x) (hy : -9223372036854775808 ≤ y) (mx : ¬ x = -9223372036854775808) (my : ¬ y = -9223372036854775808) (q : wrap64 (Int.tdiv 9223372036854775807 (wrap64 (-y))) < wrap64 (-x)) : x * y < -9223372036854775808 ∨ 9223372036854775807 < x * y :=
  .inr ((quo_wrap2 px py hx hy mx my).1 q)
theorem mul3n {x y : Int} (px : x < 0) (py : y < 0) (hx : -9223372036854775808 ≤ x) (hy : -9223372036854775808 ≤ y) (mx : ¬ x = -9223372036854775808) (my : ¬ y = -9223372036854775808) (q : ¬ wrap64 (Int.tdiv 9223372036854775807 (wrap64 (-y))) < wrap64 (-x)) : -9223372036854775808 ≤ x * y ∧ x * y ≤ 9223372036854775807 := by
  rw [quo_wrap2 px py hx hy mx my] at q
  have := Int.mul_pos_of_neg_of_neg px py
  omega

set_option maxRecDepth 100000 in
set_option maxHeartbeats 4000000 in
theorem rmul_any (a b : V) (ha : -9223372036854775808 ≤ a.n ∧ a.n ≤ 9223372036854775807) (hb : -9223372036854775808 ≤ b.n ∧ b.n ≤ 9223372036854775807) (w : World) :
    Calls Try.prog 43 #[vV a, vV b] w fun e w' => e = .returned (.tuple #[vV (numV a b (wrap64 (a.n * b.n)) (okI (a.n * b.n))).1, .int .i64 (numV a b (wrap64 (a.n * b.n)) (okI (a.n * b.n))).2]) ∧ Fr noB w w' := by
  have HB := Lib.hid (show ∀ W : World, Calls Try.prog 75 #[.agg #[.int .u8 a.k, .int .i64 a.n, .int .i64 a.hi, .string a.t], .agg #[.int .u8 b.k, .int .i64 b.n, .int .i64 b.hi, .string b.t]] W fun e w' => e = .returned (.tuple #[.bool (bothV a b).1, .int .i64 (bothV a b).2]) ∧ Fr noB W w' from fun W => rboth_any a b W)
  have HI := Lib.hid (show ∀ W : World, Calls Try.prog 34 #[.int .i64 (wrap64 (a.n * b.n))] W fun e w' => e = .returned (.agg #[.int .u8 1, .int .i64 (wrap64 (a.n * b.n)), .int .i64 0, .string ⟨#[]⟩]) ∧ Fr noB W w' from fun W => rint_any _ W)
  unfold vV
  go_enter Try.func43, Try.ntmps43
  go_upto_region 1 with fail
  have hfw_0 := Fr.refl noB w
  have hl := hfw_0.size
  refine wp_world (fun W => Fr noB w W ∧ Bx W w.heap.size a ∧ Bx W (w.heap.size + 1) b ∧ Bl W (w.heap.size + 2) 0 0 0) ?_ ?_
  · refine ⟨?_, ?_, ?_, ?_⟩ <;> ((first | unfold Bx | unfold Bl | skip); repeat (first | with_reducible exact hfw_0 | with_reducible refine Fr.alloc ?_ _ | (with_reducible refine Fr.setCell ?_ ?_ _; rotate_left; (intro h; dsimp only at h; omega)) | with_reducible refine Fr.drew ?_ | (with_reducible refine obj_alloc_at ?_; simp; done) | (with_reducible apply obj_put4; omega) | (with_reducible apply obj_put1; omega) | (with_reducible refine obj_setCell_other ?_ _ _ ?_; rotate_left; (dsimp only; omega)) | with_reducible refine obj_alloc ?_ _ | with_reducible refine obj_drew ?_ | exact hfw_0))
  clear hl hfw_0
  rintro w1 ⟨hfw_1, hba_1, hbb_1, hbr_1⟩
  obtain ⟨ca_0, ca_1, ca_2, ca_3, za⟩ := hba_1.cs
  obtain ⟨cb_0, cb_1, cb_2, cb_3, zb⟩ := hbb_1.cs
  obtain ⟨cr_0, cr_1, cr_2, cr_3, zr⟩ := hbr_1.cs
  cases h1 : (areB 1 a && areB 1 b)
  · have bl : bothV a b = (false, 60) := by unfold bothV; rw [if_pos h1]
    rw [bl] at HB
    dsimp only at HB
    have HR := Lib.hid (show numV a b (wrap64 (a.n * b.n)) (okI (a.n * b.n)) = (zV, 60) by unfold numV; rw [if_pos h1])
    clear h1 bl ha hb
    go_wp2_with fail
    refine (HB.out _).mono ?_
    rintro e w2 ⟨rfl, hf2⟩
    have la := hba_1.lt
    have lb := hbb_1.lt
    have lr := hbr_1.lt
    have hl := hfw_1.size
    have hB : Bx w2 w.heap.size a ∧ Bx w2 (w.heap.size + 1) b ∧ Bl w2 (w.heap.size + 2) 0 0 0 := by
      refine ⟨?_, ?_, ?_⟩ <;> ((first | unfold Bx | unfold Bl | skip); refine hf2.obj (noB_not _) ?_; repeat (first | with_reducible exact hba_1.raw | with_reducible exact hbb_1.raw | with_reducible exact hbr_1.raw | (with_reducible refine obj_alloc_at ?_; simp; done) | (with_reducible apply obj_put4; omega) | (with_reducible apply obj_put1; omega) | (with_reducible refine obj_setCell_other ?_ _ _ ?_; rotate_left; (dsimp only; omega)) | with_reducible refine obj_alloc ?_ _ | with_reducible refine obj_drew ?_))
    obtain ⟨hba_2, hbb_2, hbr_2⟩ := hB
    have hfw_2 : Fr noB w w2 := by
      refine Fr.transN ?_ hf2
      repeat (first | with_reducible exact hfw_1 | with_reducible refine Fr.alloc ?_ _ | (with_reducible refine Fr.setCell ?_ ?_ _; rotate_left; (intro h; dsimp only at h; omega)) | with_reducible refine Fr.drew ?_ | exact hfw_1)
    clear hba_1 hbb_1 hbr_1 la lb lr hl ca_0 ca_1 ca_2 ca_3 za cb_0 cb_1 cb_2 cb_3 zb cr_0 cr_1 cr_2 cr_3 zr hf2 hfw_1
    obtain ⟨ca_0, ca_1, ca_2, ca_3, za⟩ := hba_2.cs
    obtain ⟨cb_0, cb_1, cb_2, cb_3, zb⟩ := hbb_2.cs
    obtain ⟨cr_0, cr_1, cr_2, cr_3, zr⟩ := hbr_2.cs
    go_wp2_with fail
    have la := hba_2.lt
    have lb := hbb_2.lt
    have lr := hbr_2.lt
    have hl := hfw_2.size
    refine bodyPost_ret (ret_val2 rfl _ _ (w.heap.size + 2) zV _ rfl rfl ?_) rfl ⟨?_, ?_⟩
    · show _ = some (Obj.cells #[.int .u8 0, .int .i64 0, .int .i64 0, .string ⟨#[]⟩] 23 (0, 0))
      repeat (first | with_reducible exact hbr_2.raw | (with_reducible refine obj_alloc_at ?_; simp; done) | (with_reducible apply obj_put4; omega) | (with_reducible apply obj_put1; omega) | (with_reducible refine obj_setCell_other ?_ _ _ ?_; rotate_left; (dsimp only; omega)) | with_reducible refine obj_alloc ?_ _ | with_reducible refine obj_drew ?_ | exact hbr_2.raw)
    · rw [HR.out] <;> rfl
    · skip
      repeat (first | with_reducible exact hfw_2 | with_reducible refine Fr.alloc ?_ _ | (with_reducible refine Fr.setCell ?_ ?_ _; rotate_left; (intro h; dsimp only at h; omega)) | with_reducible refine Fr.drew ?_ | exact hfw_2)
  · cases hn : (nullB a || nullB b)
    · have bl : bothV a b = (false, 0) := by unfold bothV; rw [if_neg (by rw [h1]; decide), hn]
      rw [bl] at HB
      dsimp only at HB
      have HR0 := numV_ok (wrap64 (a.n * b.n)) (okI (a.n * b.n)) h1 hn
      clear h1 hn bl
      have HI0 := Lib.hid (show ∀ W : World, Calls Try.prog 34 #[.int .i64 0] W fun e w' => e = .returned (.agg #[.int .u8 1, .int .i64 0, .int .i64 0, .string ⟨#[]⟩]) ∧ Fr noB W w' from fun W => rint_any 0 W)
      by_cases x0 : a.n = 0
      · have HR := Lib.hid (show numV a b (wrap64 (a.n * b.n)) (okI (a.n * b.n)) = (intV 0, 0) by rw [HR0, x0, Int.zero_mul, show okI 0 = true by decide, show wrap64 0 = 0 by unfold wrap64; omega]; rfl)
        have f1 : (a.n == 0) = true := by simp [x0]
        clear x0
        clear HR0 ha hb
        go_wp2_with fail
        refine (HB.out _).mono ?_
        rintro e w2 ⟨rfl, hf2⟩
        have la := hba_1.lt
        have lb := hbb_1.lt
        have lr := hbr_1.lt
        have hl := hfw_1.size
        have hB : Bx w2 w.heap.size a ∧ Bx w2 (w.heap.size + 1) b ∧ Bl w2 (w.heap.size + 2) 0 0 0 := by
          refine ⟨?_, ?_, ?_⟩ <;> ((first | unfold Bx | unfold Bl | skip); refine hf2.obj (noB_not _) ?_; repeat (first | with_reducible exact hba_1.raw | with_reducible exact hbb_1.raw | with_reducible exact hbr_1.raw | (with_reducible refine obj_alloc_at ?_; simp; done) | (with_reducible apply obj_put4; omega) | (with_reducible apply obj_put1; omega) | (with_reducible refine obj_setCell_other ?_ _ _ ?_; rotate_left; (dsimp only; omega)) | with_reducible refine obj_alloc ?_ _ | with_reducible refine obj_drew ?_))
        obtain ⟨hba_2, hbb_2, hbr_2⟩ := hB
        have hfw_2 : Fr noB w w2 := by
          refine Fr.transN ?_ hf2
          repeat (first | with_reducible exact hfw_1 | with_reducible refine Fr.alloc ?_ _ | (with_reducible refine Fr.setCell ?_ ?_ _; rotate_left; (intro h; dsimp only at h; omega)) | with_reducible refine Fr.drew ?_ | exact hfw_1)
        clear hba_1 hbb_1 hbr_1 la lb lr hl ca_0 ca_1 ca_2 ca_3 za cb_0 cb_1 cb_2 cb_3 zb cr_0 cr_1 cr_2 cr_3 zr hf2 hfw_1
        obtain ⟨ca_0, ca_1, ca_2, ca_3, za⟩ := hba_2.cs
        obtain ⟨cb_0, cb_1, cb_2, cb_3, zb⟩ := hbb_2.cs
        obtain ⟨cr_0, cr_1, cr_2, cr_3, zr⟩ := hbr_2.cs
        go_upto_region 4 with fail
        have la := hba_2.lt
        have lb := hbb_2.lt
        have lr := hbr_2.lt
        have hl := hfw_2.size
        refine wp_world (fun W => Fr noB w W ∧ Bx W w.heap.size a ∧ Bx W (w.heap.size + 1) b ∧ Bl W (w.heap.size + 2) 0 0 0) ?_ ?_
        · refine ⟨?_, ?_, ?_, ?_⟩ <;> ((first | unfold Bx | unfold Bl | skip); repeat (first | with_reducible exact hfw_2 | with_reducible refine Fr.alloc ?_ _ | (with_reducible refine Fr.setCell ?_ ?_ _; rotate_left; (intro h; dsimp only at h; omega)) | with_reducible refine Fr.drew ?_ | with_reducible exact hba_2.raw | with_reducible exact hbb_2.raw | with_reducible exact hbr_2.raw | (with_reducible refine obj_alloc_at ?_; simp; done) | (with_reducible apply obj_put4; omega) | (with_reducible apply obj_put1; omega) | (with_reducible refine obj_setCell_other ?_ _ _ ?_; rotate_left; (dsimp only; omega)) | with_reducible refine obj_alloc ?_ _ | with_reducible refine obj_drew ?_ | exact hfw_2))
        clear hba_2 hbb_2 hbr_2 la lb lr hl ca_0 ca_1 ca_2 ca_3 za cb_0 cb_1 cb_2 cb_3 zb cr_0 cr_1 cr_2 cr_3 zr hfw_2
        rintro w3 ⟨hfw_3, hba_3, hbb_3, hbr_3⟩
        obtain ⟨ca_0, ca_1, ca_2, ca_3, za⟩ := hba_3.cs
        obtain ⟨cb_0, cb_1, cb_2, cb_3, zb⟩ := hbb_3.cs
        obtain ⟨cr_0, cr_1, cr_2, cr_3, zr⟩ := hbr_3.cs
        go_region
        go_wp2_with fail
        refine (HI0.out _).mono ?_
        rintro e w4 ⟨rfl, hf4⟩
        have la := hba_3.lt
        have lb := hbb_3.lt
        have lr := hbr_3.lt
        have hl := hfw_3.size
        have hB : Bx w4 w.heap.size a ∧ Bx w4 (w.heap.size + 1) b ∧ Bl w4 (w.heap.size + 2) 0 0 0 := by
          refine ⟨?_, ?_, ?_⟩ <;> ((first | unfold Bx | unfold Bl | skip); refine hf4.obj (noB_not _) ?_; repeat (first | with_reducible exact hba_3.raw | with_reducible exact hbb_3.raw | with_reducible exact hbr_3.raw | (with_reducible refine obj_alloc_at ?_; simp; done) | (with_reducible apply obj_put4; omega) | (with_reducible apply obj_put1; omega) | (with_reducible refine obj_setCell_other ?_ _ _ ?_; rotate_left; (dsimp only; omega)) | with_reducible refine obj_alloc ?_ _ | with_reducible refine obj_drew ?_))
        obtain ⟨hba_4, hbb_4, hbr_4⟩ := hB
        have hfw_4 : Fr noB w w4 := by
          refine Fr.transN ?_ hf4
          repeat (first | with_reducible exact hfw_3 | with_reducible refine Fr.alloc ?_ _ | (with_reducible refine Fr.setCell ?_ ?_ _; rotate_left; (intro h; dsimp only at h; omega)) | with_reducible refine Fr.drew ?_ | exact hfw_3)
        clear hba_3 hbb_3 hbr_3 la lb lr hl ca_0 ca_1 ca_2 ca_3 za cb_0 cb_1 cb_2 cb_3 zb cr_0 cr_1 cr_2 cr_3 zr hf4 hfw_3
        obtain ⟨ca_0, ca_1, ca_2, ca_3, za⟩ := hba_4.cs
        obtain ⟨cb_0, cb_1, cb_2, cb_3, zb⟩ := hbb_4.cs
        obtain ⟨cr_0, cr_1, cr_2, cr_3, zr⟩ := hbr_4.cs
        go_wp2_with fail
        have la := hba_4.lt
        have lb := hbb_4.lt
        have lr := hbr_4.lt
        have hl := hfw_4.size
        refine bodyPost_ret (ret_val2 rfl _ _ (w.heap.size + 2) (intV 0) _ rfl rfl ?_) rfl ⟨?_, ?_⟩
        · show _ = some (Obj.cells #[.int .u8 1, .int .i64 0, .int .i64 0, .string ⟨#[]⟩] 23 (0, 0))
          repeat (first | with_reducible exact hbr_4.raw | (with_reducible refine obj_alloc_at ?_; simp; done) | (with_reducible apply obj_put4; omega) | (with_reducible apply obj_put1; omega) | (with_reducible refine obj_setCell_other ?_ _ _ ?_; rotate_left; (dsimp only; omega)) | with_reducible refine obj_alloc ?_ _ | with_reducible refine obj_drew ?_ | exact hbr_4.raw)
        · rw [HR.out] <;> rfl
        · skip
          repeat (first | with_reducible exact hfw_4 | with_reducible refine Fr.alloc ?_ _ | (with_reducible refine Fr.setCell ?_ ?_ _; rotate_left; (intro h; dsimp only at h; omega)) | with_reducible refine Fr.drew ?_ | exact hfw_4)
      · have f1 : (a.n == 0) = false := by simpa using x0
        by_cases y0 : b.n = 0
        · have HR := Lib.hid (show numV a b (wrap64 (a.n * b.n)) (okI (a.n * b.n)) = (intV 0, 0) by rw [HR0, y0, Int.mul_zero, show okI 0 = true by decide, show wrap64 0 = 0 by unfold wrap64; omega]; rfl)
          have f2 : (b.n == 0) = true := by simp [y0]
          clear x0 y0
          clear HR0 ha hb
          go_wp2_with fail
          refine (HB.out _).mono ?_
          rintro e w2 ⟨rfl, hf2⟩
          have la := hba_1.lt
          have lb := hbb_1.lt
          have lr := hbr_1.lt
          have hl := hfw_1.size
          have hB : Bx w2 w.heap.size a ∧ Bx w2 (w.heap.size + 1) b ∧ Bl w2 (w.heap.size + 2) 0 0 0 := by
            refine ⟨?_, ?_, ?_⟩ <;> ((first | unfold Bx | unfold Bl | skip); refine hf2.obj (noB_not _) ?_; repeat (first | with_reducible exact hba_1.raw | with_reducible exact hbb_1.raw | with_reducible exact hbr_1.raw | (with_reducible refine obj_alloc_at ?_; simp; done) | (with_reducible apply obj_put4; omega) | (with_reducible apply obj_put1; omega) | (with_reducible refine obj_setCell_other ?_ _ _ ?_; rotate_left; (dsimp only; omega)) | with_reducible refine obj_alloc ?_ _ | with_reducible refine obj_drew ?_))
          obtain ⟨hba_2, hbb_2, hbr_2⟩ := hB
          have hfw_2 : Fr noB w w2 := by
            refine Fr.transN ?_ hf2
            repeat (first | with_reducible exact hfw_1 | with_reducible refine Fr.alloc ?_ _ | (with_reducible refine Fr.setCell ?_ ?_ _; rotate_left; (intro h; dsimp only at h; omega)) | with_reducible refine Fr.drew ?_ | exact hfw_1)
          clear hba_1 hbb_1 hbr_1 la lb lr hl ca_0 ca_1 ca_2 ca_3 za cb_0 cb_1 cb_2 cb_3 zb cr_0 cr_1 cr_2 cr_3 zr hf2 hfw_1
          obtain ⟨ca_0, ca_1, ca_2, ca_3, za⟩ := hba_2.cs
          obtain ⟨cb_0, cb_1, cb_2, cb_3, zb⟩ := hbb_2.cs
          obtain ⟨cr_0, cr_1, cr_2, cr_3, zr⟩ := hbr_2.cs
          go_upto_region 4 with fail
          have la := hba_2.lt
          have lb := hbb_2.lt
          have lr := hbr_2.lt
          have hl := hfw_2.size
          refine wp_world (fun W => Fr noB w W ∧ Bx W w.heap.size a ∧ Bx W (w.heap.size + 1) b ∧ Bl W (w.heap.size + 2) 0 0 0) ?_ ?_
          · refine ⟨?_, ?_, ?_, ?_⟩ <;> ((first | unfold Bx | unfold Bl | skip); repeat (first | with_reducible exact hfw_2 | with_reducible refine Fr.alloc ?_ _ | (with_reducible refine Fr.setCell ?_ ?_ _; rotate_left; (intro h; dsimp only at h; omega)) | with_reducible refine Fr.drew ?_ | with_reducible exact hba_2.raw | with_reducible exact hbb_2.raw | with_reducible exact hbr_2.raw | (with_reducible refine obj_alloc_at ?_; simp; done) | (with_reducible apply obj_put4; omega) | (with_reducible apply obj_put1; omega) | (with_reducible refine obj_setCell_other ?_ _ _ ?_; rotate_left; (dsimp only; omega)) | with_reducible refine obj_alloc ?_ _ | with_reducible refine obj_drew ?_ | exact hfw_2))
          clear hba_2 hbb_2 hbr_2 la lb lr hl ca_0 ca_1 ca_2 ca_3 za cb_0 cb_1 cb_2 cb_3 zb cr_0 cr_1 cr_2 cr_3 zr hfw_2
          rintro w3 ⟨hfw_3, hba_3, hbb_3, hbr_3⟩
          obtain ⟨ca_0, ca_1, ca_2, ca_3, za⟩ := hba_3.cs
          obtain ⟨cb_0, cb_1, cb_2, cb_3, zb⟩ := hbb_3.cs
          obtain ⟨cr_0, cr_1, cr_2, cr_3, zr⟩ := hbr_3.cs
          go_region
          go_wp2_with fail
          refine (HI0.out _).mono ?_
          rintro e w4 ⟨rfl, hf4⟩
          have la := hba_3.lt
          have lb := hbb_3.lt
          have lr := hbr_3.lt
          have hl := hfw_3.size
          have hB : Bx w4 w.heap.size a ∧ Bx w4 (w.heap.size + 1) b ∧ Bl w4 (w.heap.size + 2) 0 0 0 := by
            refine ⟨?_, ?_, ?_⟩ <;> ((first | unfold Bx | unfold Bl | skip); refine hf4.obj (noB_not _) ?_; repeat (first | with_reducible exact hba_3.raw | with_reducible exact hbb_3.raw | with_reducible exact hbr_3.raw | (with_reducible refine obj_alloc_at ?_; simp; done) | (with_reducible apply obj_put4; omega) | (with_reducible apply obj_put1; omega) | (with_reducible refine obj_setCell_other ?_ _ _ ?_; rotate_left; (dsimp only; omega)) | with_reducible refine obj_alloc ?_ _ | with_reducible refine obj_drew ?_))
          obtain ⟨hba_4, hbb_4, hbr_4⟩ := hB
          have hfw_4 : Fr noB w w4 := by
            refine Fr.transN ?_ hf4
            repeat (first | with_reducible exact hfw_3 | with_reducible refine Fr.alloc ?_ _ | (with_reducible refine Fr.setCell ?_ ?_ _; rotate_left; (intro h; dsimp only at h; omega)) | with_reducible refine Fr.drew ?_ | exact hfw_3)
          clear hba_3 hbb_3 hbr_3 la lb lr hl ca_0 ca_1 ca_2 ca_3 za cb_0 cb_1 cb_2 cb_3 zb cr_0 cr_1 cr_2 cr_3 zr hf4 hfw_3
          obtain ⟨ca_0, ca_1, ca_2, ca_3, za⟩ := hba_4.cs
          obtain ⟨cb_0, cb_1, cb_2, cb_3, zb⟩ := hbb_4.cs
          obtain ⟨cr_0, cr_1, cr_2, cr_3, zr⟩ := hbr_4.cs
          go_wp2_with fail
          have la := hba_4.lt
          have lb := hbb_4.lt
          have lr := hbr_4.lt
          have hl := hfw_4.size
          refine bodyPost_ret (ret_val2 rfl _ _ (w.heap.size + 2) (intV 0) _ rfl rfl ?_) rfl ⟨?_, ?_⟩
          · show _ = some (Obj.cells #[.int .u8 1, .int .i64 0, .int .i64 0, .string ⟨#[]⟩] 23 (0, 0))
            repeat (first | with_reducible exact hbr_4.raw | (with_reducible refine obj_alloc_at ?_; simp; done) | (with_reducible apply obj_put4; omega) | (with_reducible apply obj_put1; omega) | (with_reducible refine obj_setCell_other ?_ _ _ ?_; rotate_left; (dsimp only; omega)) | with_reducible refine obj_alloc ?_ _ | with_reducible refine obj_drew ?_ | exact hbr_4.raw)
          · rw [HR.out] <;> rfl
          · skip
            repeat (first | with_reducible exact hfw_4 | with_reducible refine Fr.alloc ?_ _ | (with_reducible refine Fr.setCell ?_ ?_ _; rotate_left; (intro h; dsimp only at h; omega)) | with_reducible refine Fr.drew ?_ | exact hfw_4)
        · have f2 : (b.n == 0) = false := by simpa using y0
          by_cases px : 0 < a.n
          · by_cases py : 0 < b.n
            · by_cases q : 9223372036854775807 / b.n < a.n
              · have hz : (a.n * b.n) < -9223372036854775808 ∨ 9223372036854775807 < (a.n * b.n) := mul1 px py q
                have HR := Lib.hid (show numV a b (wrap64 (a.n * b.n)) (okI (a.n * b.n)) = (zV, 61) by rw [HR0, okI_not hz]; rfl)
                clear HR0 ha hb x0 y0 hz
                go_wp2_with fail
                refine (HB.out _).mono ?_
                rintro e w2 ⟨rfl, hf2⟩
                have la := hba_1.lt
                have lb := hbb_1.lt
                have lr := hbr_1.lt
                have hl := hfw_1.size
                have hB : Bx w2 w.heap.size a ∧ Bx w2 (w.heap.size + 1) b ∧ Bl w2 (w.heap.size + 2) 0 0 0 := by
                  refine ⟨?_, ?_, ?_⟩ <;> ((first | unfold Bx | unfold Bl | skip); refine hf2.obj (noB_not _) ?_; repeat (first | with_reducible exact hba_1.raw | with_reducible exact hbb_1.raw | with_reducible exact hbr_1.raw | (with_reducible refine obj_alloc_at ?_; simp; done) | (with_reducible apply obj_put4; omega) | (with_reducible apply obj_put1; omega) | (with_reducible refine obj_setCell_other ?_ _ _ ?_; rotate_left; (dsimp only; omega)) | with_reducible refine obj_alloc ?_ _ | with_reducible refine obj_drew ?_))
                obtain ⟨hba_2, hbb_2, hbr_2⟩ := hB
                have hfw_2 : Fr noB w w2 := by
                  refine Fr.transN ?_ hf2
                  repeat (first | with_reducible exact hfw_1 | with_reducible refine Fr.alloc ?_ _ | (with_reducible refine Fr.setCell ?_ ?_ _; rotate_left; (intro h; dsimp only at h; omega)) | with_reducible refine Fr.drew ?_ | exact hfw_1)
                clear hba_1 hbb_1 hbr_1 la lb lr hl ca_0 ca_1 ca_2 ca_3 za cb_0 cb_1 cb_2 cb_3 zb cr_0 cr_1 cr_2 cr_3 zr hf2 hfw_1
                obtain ⟨ca_0, ca_1, ca_2, ca_3, za⟩ := hba_2.cs
                obtain ⟨cb_0, cb_1, cb_2, cb_3, zb⟩ := hbb_2.cs
                obtain ⟨cr_0, cr_1, cr_2, cr_3, zr⟩ := hbr_2.cs
                go_upto_region 4 with fail
                have la := hba_2.lt
                have lb := hbb_2.lt
                have lr := hbr_2.lt
                have hl := hfw_2.size
                refine wp_world (fun W => Fr noB w W ∧ Bx W w.heap.size a ∧ Bx W (w.heap.size + 1) b ∧ Bl W (w.heap.size + 2) 0 0 0) ?_ ?_
                · refine ⟨?_, ?_, ?_, ?_⟩ <;> ((first | unfold Bx | unfold Bl | skip); repeat (first | with_reducible exact hfw_2 | with_reducible refine Fr.alloc ?_ _ | (with_reducible refine Fr.setCell ?_ ?_ _; rotate_left; (intro h; dsimp only at h; omega)) | with_reducible refine Fr.drew ?_ | with_reducible exact hba_2.raw | with_reducible exact hbb_2.raw | with_reducible exact hbr_2.raw | (with_reducible refine obj_alloc_at ?_; simp; done) | (with_reducible apply obj_put4; omega) | (with_reducible apply obj_put1; omega) | (with_reducible refine obj_setCell_other ?_ _ _ ?_; rotate_left; (dsimp only; omega)) | with_reducible refine obj_alloc ?_ _ | with_reducible refine obj_drew ?_ | exact hfw_2))
                clear hba_2 hbb_2 hbr_2 la lb lr hl ca_0 ca_1 ca_2 ca_3 za cb_0 cb_1 cb_2 cb_3 zb cr_0 cr_1 cr_2 cr_3 zr hfw_2
                rintro w3 ⟨hfw_3, hba_3, hbb_3, hbr_3⟩
                obtain ⟨ca_0, ca_1, ca_2, ca_3, za⟩ := hba_3.cs
                obtain ⟨cb_0, cb_1, cb_2, cb_3, zb⟩ := hbb_3.cs
                obtain ⟨cr_0, cr_1, cr_2, cr_3, zr⟩ := hbr_3.cs
                go_region
                go_wp2_with fail
                have la := hba_3.lt
                have lb := hbb_3.lt
                have lr := hbr_3.lt
                have hl := hfw_3.size
                refine bodyPost_ret (ret_val2 rfl _ _ (w.heap.size + 2) zV _ rfl rfl ?_) rfl ⟨?_, ?_⟩
                · show _ = some (Obj.cells #[.int .u8 0, .int .i64 0, .int .i64 0, .string ⟨#[]⟩] 23 (0, 0))
                  repeat (first | with_reducible exact hbr_3.raw | (with_reducible refine obj_alloc_at ?_; simp; done) | (with_reducible apply obj_put4; omega) | (with_reducible apply obj_put1; omega) | (with_reducible refine obj_setCell_other ?_ _ _ ?_; rotate_left; (dsimp only; omega)) | with_reducible refine obj_alloc ?_ _ | with_reducible refine obj_drew ?_ | exact hbr_3.raw)
                · rw [HR.out] <;> rfl
                · skip
                  repeat (first | with_reducible exact hfw_3 | with_reducible refine Fr.alloc ?_ _ | (with_reducible refine Fr.setCell ?_ ?_ _; rotate_left; (intro h; dsimp only at h; omega)) | with_reducible refine Fr.drew ?_ | exact hfw_3)
              · have hz : -9223372036854775808 ≤ (a.n * b.n) ∧ (a.n * b.n) ≤ 9223372036854775807 := mul1n px py q
                have HR := Lib.hid (show numV a b (wrap64 (a.n * b.n)) (okI (a.n * b.n)) = (intV (wrap64 (a.n * b.n)), 0) by rw [HR0, okI_yes hz.1 hz.2]; rfl)
                clear HR0 ha hb x0 y0 hz
                go_wp2_with fail
                refine (HB.out _).mono ?_
                rintro e w2 ⟨rfl, hf2⟩
                have la := hba_1.lt
                have lb := hbb_1.lt
                have lr := hbr_1.lt
                have hl := hfw_1.size
                have hB : Bx w2 w.heap.size a ∧ Bx w2 (w.heap.size + 1) b ∧ Bl w2 (w.heap.size + 2) 0 0 0 := by
                  refine ⟨?_, ?_, ?_⟩ <;> ((first | unfold Bx | unfold Bl | skip); refine hf2.obj (noB_not _) ?_; repeat (first | with_reducible exact hba_1.raw | with_reducible exact hbb_1.raw | with_reducible exact hbr_1.raw | (with_reducible refine obj_alloc_at ?_; simp; done) | (with_reducible apply obj_put4; omega) | (with_reducible apply obj_put1; omega) | (with_reducible refine obj_setCell_other ?_ _ _ ?_; rotate_left; (dsimp only; omega)) | with_reducible refine obj_alloc ?_ _ | with_reducible refine obj_drew ?_))
                obtain ⟨hba_2, hbb_2, hbr_2⟩ := hB
                have hfw_2 : Fr noB w w2 := by
                  refine Fr.transN ?_ hf2
                  repeat (first | with_reducible exact hfw_1 | with_reducible refine Fr.alloc ?_ _ | (with_reducible refine Fr.setCell ?_ ?_ _; rotate_left; (intro h; dsimp only at h; omega)) | with_reducible refine Fr.drew ?_ | exact hfw_1)
                clear hba_1 hbb_1 hbr_1 la lb lr hl ca_0 ca_1 ca_2 ca_3 za cb_0 cb_1 cb_2 cb_3 zb cr_0 cr_1 cr_2 cr_3 zr hf2 hfw_1
                obtain ⟨ca_0, ca_1, ca_2, ca_3, za⟩ := hba_2.cs
                obtain ⟨cb_0, cb_1, cb_2, cb_3, zb⟩ := hbb_2.cs
                obtain ⟨cr_0, cr_1, cr_2, cr_3, zr⟩ := hbr_2.cs
                go_upto_region 4 with fail
                have la := hba_2.lt
                have lb := hbb_2.lt
                have lr := hbr_2.lt
                have hl := hfw_2.size
                refine wp_world (fun W => Fr noB w W ∧ Bx W w.heap.size a ∧ Bx W (w.heap.size + 1) b ∧ Bl W (w.heap.size + 2) 0 0 0) ?_ ?_
                · refine ⟨?_, ?_, ?_, ?_⟩ <;> ((first | unfold Bx | unfold Bl | skip); repeat (first | with_reducible exact hfw_2 | with_reducible refine Fr.alloc ?_ _ | (with_reducible refine Fr.setCell ?_ ?_ _; rotate_left; (intro h; dsimp only at h; omega)) | with_reducible refine Fr.drew ?_ | with_reducible exact hba_2.raw | with_reducible exact hbb_2.raw | with_reducible exact hbr_2.raw | (with_reducible refine obj_alloc_at ?_; simp; done) | (with_reducible apply obj_put4; omega) | (with_reducible apply obj_put1; omega) | (with_reducible refine obj_setCell_other ?_ _ _ ?_; rotate_left; (dsimp only; omega)) | with_reducible refine obj_alloc ?_ _ | with_reducible refine obj_drew ?_ | exact hfw_2))
                clear hba_2 hbb_2 hbr_2 la lb lr hl ca_0 ca_1 ca_2 ca_3 za cb_0 cb_1 cb_2 cb_3 zb cr_0 cr_1 cr_2 cr_3 zr hfw_2
                rintro w3 ⟨hfw_3, hba_3, hbb_3, hbr_3⟩
                obtain ⟨ca_0, ca_1, ca_2, ca_3, za⟩ := hba_3.cs
                obtain ⟨cb_0, cb_1, cb_2, cb_3, zb⟩ := hbb_3.cs
                obtain ⟨cr_0, cr_1, cr_2, cr_3, zr⟩ := hbr_3.cs
                go_region
                go_wp2_with fail
                refine (HI.out _).mono ?_
                rintro e w4 ⟨rfl, hf4⟩
                have la := hba_3.lt
                have lb := hbb_3.lt
                have lr := hbr_3.lt
                have hl := hfw_3.size
                have hB : Bx w4 w.heap.size a ∧ Bx w4 (w.heap.size + 1) b ∧ Bl w4 (w.heap.size + 2) 0 0 0 := by
                  refine ⟨?_, ?_, ?_⟩ <;> ((first | unfold Bx | unfold Bl | skip); refine hf4.obj (noB_not _) ?_; repeat (first | with_reducible exact hba_3.raw | with_reducible exact hbb_3.raw | with_reducible exact hbr_3.raw | (with_reducible refine obj_alloc_at ?_; simp; done) | (with_reducible apply obj_put4; omega) | (with_reducible apply obj_put1; omega) | (with_reducible refine obj_setCell_other ?_ _ _ ?_; rotate_left; (dsimp only; omega)) | with_reducible refine obj_alloc ?_ _ | with_reducible refine obj_drew ?_))
                obtain ⟨hba_4, hbb_4, hbr_4⟩ := hB
                have hfw_4 : Fr noB w w4 := by
                  refine Fr.transN ?_ hf4
                  repeat (first | with_reducible exact hfw_3 | with_reducible refine Fr.alloc ?_ _ | (with_reducible refine Fr.setCell ?_ ?_ _; rotate_left; (intro h; dsimp only at h; omega)) | with_reducible refine Fr.drew ?_ | exact hfw_3)
                clear hba_3 hbb_3 hbr_3 la lb lr hl ca_0 ca_1 ca_2 ca_3 za cb_0 cb_1 cb_2 cb_3 zb cr_0 cr_1 cr_2 cr_3 zr hf4 hfw_3
                obtain ⟨ca_0, ca_1, ca_2, ca_3, za⟩ := hba_4.cs
                obtain ⟨cb_0, cb_1, cb_2, cb_3, zb⟩ := hbb_4.cs
                obtain ⟨cr_0, cr_1, cr_2, cr_3, zr⟩ := hbr_4.cs
                go_wp2_with fail
                have la := hba_4.lt
                have lb := hbb_4.lt
                have lr := hbr_4.lt
                have hl := hfw_4.size
                refine bodyPost_ret (ret_val2 rfl _ _ (w.heap.size + 2) (intV (wrap64 (a.n * b.n))) _ rfl rfl ?_) rfl ⟨?_, ?_⟩
                · show _ = some (Obj.cells #[.int .u8 1, .int .i64 (wrap64 (a.n * b.n)), .int .i64 0, .string ⟨#[]⟩] 23 (0, 0))
                  repeat (first | with_reducible exact hbr_4.raw | (with_reducible refine obj_alloc_at ?_; simp; done) | (with_reducible apply obj_put4; omega) | (with_reducible apply obj_put1; omega) | (with_reducible refine obj_setCell_other ?_ _ _ ?_; rotate_left; (dsimp only; omega)) | with_reducible refine obj_alloc ?_ _ | with_reducible refine obj_drew ?_ | exact hbr_4.raw)
                · rw [HR.out] <;> rfl
                · skip
                  repeat (first | with_reducible exact hfw_4 | with_reducible refine Fr.alloc ?_ _ | (with_reducible refine Fr.setCell ?_ ?_ _; rotate_left; (intro h; dsimp only at h; omega)) | with_reducible refine Fr.drew ?_ | exact hfw_4)
            · have pz : b.n < 0 := by omega
              by_cases q : b.n < wrap64 (-Int.tdiv 9223372036854775808 a.n)
              · have hz : (a.n * b.n) < -9223372036854775808 ∨ 9223372036854775807 < (a.n * b.n) := mul2 px pz q
                have HR := Lib.hid (show numV a b (wrap64 (a.n * b.n)) (okI (a.n * b.n)) = (zV, 61) by rw [HR0, okI_not hz]; rfl)
                clear HR0 ha hb x0 y0 hz
                go_wp2_with fail
                refine (HB.out _).mono ?_
                rintro e w2 ⟨rfl, hf2⟩
                have la := hba_1.lt
                have lb := hbb_1.lt
                have lr := hbr_1.lt
                have hl := hfw_1.size
                have hB : Bx w2 w.heap.size a ∧ Bx w2 (w.heap.size + 1) b ∧ Bl w2 (w.heap.size + 2) 0 0 0 := by
                  refine ⟨?_, ?_, ?_⟩ <;> ((first | unfold Bx | unfold Bl | skip); refine hf2.obj (noB_not _) ?_; repeat (first | with_reducible exact hba_1.raw | with_reducible exact hbb_1.raw | with_reducible exact hbr_1.raw | (with_reducible refine obj_alloc_at ?_; simp; done) | (with_reducible apply obj_put4; omega) | (with_reducible apply obj_put1; omega) | (with_reducible refine obj_setCell_other ?_ _ _ ?_; rotate_left; (dsimp only; omega)) | with_reducible refine obj_alloc ?_ _ | with_reducible refine obj_drew ?_))
                obtain ⟨hba_2, hbb_2, hbr_2⟩ := hB
                have hfw_2 : Fr noB w w2 := by
                  refine Fr.transN ?_ hf2
                  repeat (first | with_reducible exact hfw_1 | with_reducible refine Fr.alloc ?_ _ | (with_reducible refine Fr.setCell ?_ ?_ _; rotate_left; (intro h; dsimp only at h; omega)) | with_reducible refine Fr.drew ?_ | exact hfw_1)
                clear hba_1 hbb_1 hbr_1 la lb lr hl ca_0 ca_1 ca_2 ca_3 za cb_0 cb_1 cb_2 cb_3 zb cr_0 cr_1 cr_2 cr_3 zr hf2 hfw_1
                obtain ⟨ca_0, ca_1, ca_2, ca_3, za⟩ := hba_2.cs
                obtain ⟨cb_0, cb_1, cb_2, cb_3, zb⟩ := hbb_2.cs
                obtain ⟨cr_0, cr_1, cr_2, cr_3, zr⟩ := hbr_2.cs
                go_upto_region 4 with fail
                have la := hba_2.lt
                have lb := hbb_2.lt
                have lr := hbr_2.lt
                have hl := hfw_2.size
                refine wp_world (fun W => Fr noB w W ∧ Bx W w.heap.size a ∧ Bx W (w.heap.size + 1) b ∧ Bl W (w.heap.size + 2) 0 0 0) ?_ ?_
                · refine ⟨?_, ?_, ?_, ?_⟩ <;> ((first | unfold Bx | unfold Bl | skip); repeat (first | with_reducible exact hfw_2 | with_reducible refine Fr.alloc ?_ _ | (with_reducible refine Fr.setCell ?_ ?_ _; rotate_left; (intro h; dsimp only at h; omega)) | with_reducible refine Fr.drew ?_ | with_reducible exact hba_2.raw | with_reducible exact hbb_2.raw | with_reducible exact hbr_2.raw | (with_reducible refine obj_alloc_at ?_; simp; done) | (with_reducible apply obj_put4; omega) | (with_reducible apply obj_put1; omega) | (with_reducible refine obj_setCell_other ?_ _ _ ?_; rotate_left; (dsimp only; omega)) | with_reducible refine obj_alloc ?_ _ | with_reducible refine obj_drew ?_ | exact hfw_2))
                clear hba_2 hbb_2 hbr_2 la lb lr hl ca_0 ca_1 ca_2 ca_3 za cb_0 cb_1 cb_2 cb_3 zb cr_0 cr_1 cr_2 cr_3 zr hfw_2
                rintro w3 ⟨hfw_3, hba_3, hbb_3, hbr_3⟩
                obtain ⟨ca_0, ca_1, ca_2, ca_3, za⟩ := hba_3.cs
                obtain ⟨cb_0, cb_1, cb_2, cb_3, zb⟩ := hbb_3.cs
                obtain ⟨cr_0, cr_1, cr_2, cr_3, zr⟩ := hbr_3.cs
                go_region
                go_wp2_with fail
                have la := hba_3.lt
                have lb := hbb_3.lt
                have lr := hbr_3.lt
                have hl := hfw_3.size
                refine bodyPost_ret (ret_val2 rfl _ _ (w.heap.size + 2) zV _ rfl rfl ?_) rfl ⟨?_, ?_⟩
                · show _ = some (Obj.cells #[.int .u8 0, .int .i64 0, .int .i64 0, .string ⟨#[]⟩] 23 (0, 0))
                  repeat (first | with_reducible exact hbr_3.raw | (with_reducible refine obj_alloc_at ?_; simp; done) | (with_reducible apply obj_put4; omega) | (with_reducible apply obj_put1; omega) | (with_reducible refine obj_setCell_other ?_ _ _ ?_; rotate_left; (dsimp only; omega)) | with_reducible refine obj_alloc ?_ _ | with_reducible refine obj_drew ?_ | exact hbr_3.raw)
                · rw [HR.out] <;> rfl
                · skip
                  repeat (first | with_reducible exact hfw_3 | with_reducible refine Fr.alloc ?_ _ | (with_reducible refine Fr.setCell ?_ ?_ _; rotate_left; (intro h; dsimp only at h; omega)) | with_reducible refine Fr.drew ?_ | exact hfw_3)
              · have hz : -9223372036854775808 ≤ (a.n * b.n) ∧ (a.n * b.n) ≤ 9223372036854775807 := mul2n px pz q
                have HR := Lib.hid (show numV a b (wrap64 (a.n * b.n)) (okI (a.n * b.n)) = (intV (wrap64 (a.n * b.n)), 0) by rw [HR0, okI_yes hz.1 hz.2]; rfl)
                clear HR0 ha hb x0 y0 hz
                go_wp2_with fail
                refine (HB.out _).mono ?_
                rintro e w2 ⟨rfl, hf2⟩
                have la := hba_1.lt
                have lb := hbb_1.lt
                have lr := hbr_1.lt
                have hl := hfw_1.size
                have hB : Bx w2 w.heap.size a ∧ Bx w2 (w.heap.size + 1) b ∧ Bl w2 (w.heap.size + 2) 0 0 0 := by
                  refine ⟨?_, ?_, ?_⟩ <;> ((first | unfold Bx | unfold Bl | skip); refine hf2.obj (noB_not _) ?_; repeat (first | with_reducible exact hba_1.raw | with_reducible exact hbb_1.raw | with_reducible exact hbr_1.raw | (with_reducible refine obj_alloc_at ?_; simp; done) | (with_reducible apply obj_put4; omega) | (with_reducible apply obj_put1; omega) | (with_reducible refine obj_setCell_other ?_ _ _ ?_; rotate_left; (dsimp only; omega)) | with_reducible refine obj_alloc ?_ _ | with_reducible refine obj_drew ?_))
                obtain ⟨hba_2, hbb_2, hbr_2⟩ := hB
                have hfw_2 : Fr noB w w2 := by
                  refine Fr.transN ?_ hf2
                  repeat (first | with_reducible exact hfw_1 | with_reducible refine Fr.alloc ?_ _ | (with_reducible refine Fr.setCell ?_ ?_ _; rotate_left; (intro h; dsimp only at h; omega)) | with_reducible refine Fr.drew ?_ | exact hfw_1)
                clear hba_1 hbb_1 hbr_1 la lb lr hl ca_0 ca_1 ca_2 ca_3 za cb_0 cb_1 cb_2 cb_3 zb cr_0 cr_1 cr_2 cr_3 zr hf2 hfw_1
                obtain ⟨ca_0, ca_1, ca_2, ca_3, za⟩ := hba_2.cs
                obtain ⟨cb_0, cb_1, cb_2, cb_3, zb⟩ := hbb_2.cs
                obtain ⟨cr_0, cr_1, cr_2, cr_3, zr⟩ := hbr_2.cs
                go_upto_region 4 with fail
                have la := hba_2.lt
                have lb := hbb_2.lt
                have lr := hbr_2.lt
                have hl := hfw_2.size
                refine wp_world (fun W => Fr noB w W ∧ Bx W w.heap.size a ∧ Bx W (w.heap.size + 1) b ∧ Bl W (w.heap.size + 2) 0 0 0) ?_ ?_
                · refine ⟨?_, ?_, ?_, ?_⟩ <;> ((first | unfold Bx | unfold Bl | skip); repeat (first | with_reducible exact hfw_2 | with_reducible refine Fr.alloc ?_ _ | (with_reducible refine Fr.setCell ?_ ?_ _; rotate_left; (intro h; dsimp only at h; omega)) | with_reducible refine Fr.drew ?_ | with_reducible exact hba_2.raw | with_reducible exact hbb_2.raw | with_reducible exact hbr_2.raw | (with_reducible refine obj_alloc_at ?_; simp; done) | (with_reducible apply obj_put4; omega) | (with_reducible apply obj_put1; omega) | (with_reducible refine obj_setCell_other ?_ _ _ ?_; rotate_left; (dsimp only; omega)) | with_reducible refine obj_alloc ?_ _ | with_reducible refine obj_drew ?_ | exact hfw_2))
                clear hba_2 hbb_2 hbr_2 la lb lr hl ca_0 ca_1 ca_2 ca_3 za cb_0 cb_1 cb_2 cb_3 zb cr_0 cr_1 cr_2 cr_3 zr hfw_2
                rintro w3 ⟨hfw_3, hba_3, hbb_3, hbr_3⟩
                obtain ⟨ca_0, ca_1, ca_2, ca_3, za⟩ := hba_3.cs
                obtain ⟨cb_0, cb_1, cb_2, cb_3, zb⟩ := hbb_3.cs
                obtain ⟨cr_0, cr_1, cr_2, cr_3, zr⟩ := hbr_3.cs
                go_region
                go_wp2_with fail
                refine (HI.out _).mono ?_
                rintro e w4 ⟨rfl, hf4⟩
                have la := hba_3.lt
                have lb := hbb_3.lt
                have lr := hbr_3.lt
                have hl := hfw_3.size
                have hB : Bx w4 w.heap.size a ∧ Bx w4 (w.heap.size + 1) b ∧ Bl w4 (w.heap.size + 2) 0 0 0 := by
                  refine ⟨?_, ?_, ?_⟩ <;> ((first | unfold Bx | unfold Bl | skip); refine hf4.obj (noB_not _) ?_; repeat (first | with_reducible exact hba_3.raw | with_reducible exact hbb_3.raw | with_reducible exact hbr_3.raw | (with_reducible refine obj_alloc_at ?_; simp; done) | (with_reducible apply obj_put4; omega) | (with_reducible apply obj_put1; omega) | (with_reducible refine obj_setCell_other ?_ _ _ ?_; rotate_left; (dsimp only; omega)) | with_reducible refine obj_alloc ?_ _ | with_reducible refine obj_drew ?_))
                obtain ⟨hba_4, hbb_4, hbr_4⟩ := hB
                have hfw_4 : Fr noB w w4 := by
                  refine Fr.transN ?_ hf4
                  repeat (first | with_reducible exact hfw_3 | with_reducible refine Fr.alloc ?_ _ | (with_reducible refine Fr.setCell ?_ ?_ _; rotate_left; (intro h; dsimp only at h; omega)) | with_reducible refine Fr.drew ?_ | exact hfw_3)
                clear hba_3 hbb_3 hbr_3 la lb lr hl ca_0 ca_1 ca_2 ca_3 za cb_0 cb_1 cb_2 cb_3 zb cr_0 cr_1 cr_2 cr_3 zr hf4 hfw_3
                obtain ⟨ca_0, ca_1, ca_2, ca_3, za⟩ := hba_4.cs
                obtain ⟨cb_0, cb_1, cb_2, cb_3, zb⟩ := hbb_4.cs
                obtain ⟨cr_0, cr_1, cr_2, cr_3, zr⟩ := hbr_4.cs
                go_wp2_with fail
                have la := hba_4.lt
                have lb := hbb_4.lt
                have lr := hbr_4.lt
                have hl := hfw_4.size
                refine bodyPost_ret (ret_val2 rfl _ _ (w.heap.size + 2) (intV (wrap64 (a.n * b.n))) _ rfl rfl ?_) rfl ⟨?_, ?_⟩
                · show _ = some (Obj.cells #[.int .u8 1, .int .i64 (wrap64 (a.n * b.n)), .int .i64 0, .string ⟨#[]⟩] 23 (0, 0))
                  repeat (first | with_reducible exact hbr_4.raw | (with_reducible refine obj_alloc_at ?_; simp; done) | (with_reducible apply obj_put4; omega) | (with_reducible apply obj_put1; omega) | (with_reducible refine obj_setCell_other ?_ _ _ ?_; rotate_left; (dsimp only; omega)) | with_reducible refine obj_alloc ?_ _ | with_reducible refine obj_drew ?_ | exact hbr_4.raw)
                · rw [HR.out] <;> rfl
                · skip
                  repeat (first | with_reducible exact hfw_4 | with_reducible refine Fr.alloc ?_ _ | (with_reducible refine Fr.setCell ?_ ?_ _; rotate_left; (intro h; dsimp only at h; omega)) | with_reducible refine Fr.drew ?_ | exact hfw_4)
          · have pw : a.n < 0 := by omega
            by_cases py : 0 < b.n
            · by_cases q : a.n < wrap64 (-Int.tdiv 9223372036854775808 b.n)
              · have hz : (a.n * b.n) < -9223372036854775808 ∨ 9223372036854775807 < (a.n * b.n) := by rw [Int.mul_comm a.n b.n]; exact mul2 py pw q
                have HR := Lib.hid (show numV a b (wrap64 (a.n * b.n)) (okI (a.n * b.n)) = (zV, 61) by rw [HR0, okI_not hz]; rfl)
                clear HR0 ha hb x0 y0 hz
                go_wp2_with fail
                refine (HB.out _).mono ?_
                rintro e w2 ⟨rfl, hf2⟩
                have la := hba_1.lt
                have lb := hbb_1.lt
                have lr := hbr_1.lt
                have hl := hfw_1.size
                have hB : Bx w2 w.heap.size a ∧ Bx w2 (w.heap.size + 1) b ∧ Bl w2 (w.heap.size + 2) 0 0 0 := by
                  refine ⟨?_, ?_, ?_⟩ <;> ((first | unfold Bx | unfold Bl | skip); refine hf2.obj (noB_not _) ?_; repeat (first | with_reducible exact hba_1.raw | with_reducible exact hbb_1.raw | with_reducible exact hbr_1.raw | (with_reducible refine obj_alloc_at ?_; simp; done) | (with_reducible apply obj_put4; omega) | (with_reducible apply obj_put1; omega) | (with_reducible refine obj_setCell_other ?_ _ _ ?_; rotate_left; (dsimp only; omega)) | with_reducible refine obj_alloc ?_ _ | with_reducible refine obj_drew ?_))
                obtain ⟨hba_2, hbb_2, hbr_2⟩ := hB
                have hfw_2 : Fr noB w w2 := by
                  refine Fr.transN ?_ hf2
                  repeat (first | with_reducible exact hfw_1 | with_reducible refine Fr.alloc ?_ _ | (with_reducible refine Fr.setCell ?_ ?_ _; rotate_left; (intro h; dsimp only at h; omega)) | with_reducible refine Fr.drew ?_ | exact hfw_1)
                clear hba_1 hbb_1 hbr_1 la lb lr hl ca_0 ca_1 ca_2 ca_3 za cb_0 cb_1 cb_2 cb_3 zb cr_0 cr_1 cr_2 cr_3 zr hf2 hfw_1
                obtain ⟨ca_0, ca_1, ca_2, ca_3, za⟩ := hba_2.cs
                obtain ⟨cb_0, cb_1, cb_2, cb_3, zb⟩ := hbb_2.cs
                obtain ⟨cr_0, cr_1, cr_2, cr_3, zr⟩ := hbr_2.cs
                go_upto_region 4 with fail
                have la := hba_2.lt
                have lb := hbb_2.lt
                have lr := hbr_2.lt
                have hl := hfw_2.size
                refine wp_world (fun W => Fr noB w W ∧ Bx W w.heap.size a ∧ Bx W (w.heap.size + 1) b ∧ Bl W (w.heap.size + 2) 0 0 0) ?_ ?_
                · refine ⟨?_, ?_, ?_, ?_⟩ <;> ((first | unfold Bx | unfold Bl | skip); repeat (first | with_reducible exact hfw_2 | with_reducible refine Fr.alloc ?_ _ | (with_reducible refine Fr.setCell ?_ ?_ _; rotate_left; (intro h; dsimp only at h; omega)) | with_reducible refine Fr.drew ?_ | with_reducible exact hba_2.raw | with_reducible exact hbb_2.raw | with_reducible exact hbr_2.raw | (with_reducible refine obj_alloc_at ?_; simp; done) | (with_reducible apply obj_put4; omega) | (with_reducible apply obj_put1; omega) | (with_reducible refine obj_setCell_other ?_ _ _ ?_; rotate_left; (dsimp only; omega)) | with_reducible refine obj_alloc ?_ _ | with_reducible refine obj_drew ?_ | exact hfw_2))
                clear hba_2 hbb_2 hbr_2 la lb lr hl ca_0 ca_1 ca_2 ca_3 za cb_0 cb_1 cb_2 cb_3 zb cr_0 cr_1 cr_2 cr_3 zr hfw_2
                rintro w3 ⟨hfw_3, hba_3, hbb_3, hbr_3⟩
                obtain ⟨ca_0, ca_1, ca_2, ca_3, za⟩ := hba_3.cs
                obtain ⟨cb_0, cb_1, cb_2, cb_3, zb⟩ := hbb_3.cs
                obtain ⟨cr_0, cr_1, cr_2, cr_3, zr⟩ := hbr_3.cs
                go_region
                go_wp2_with fail
                have la := hba_3.lt
                have lb := hbb_3.lt
                have lr := hbr_3.lt
                have hl := hfw_3.size
                refine bodyPost_ret (ret_val2 rfl _ _ (w.heap.size + 2) zV _ rfl rfl ?_) rfl ⟨?_, ?_⟩
                · show _ = some (Obj.cells #[.int .u8 0, .int .i64 0, .int .i64 0, .string ⟨#[]⟩] 23 (0, 0))
                  repeat (first | with_reducible exact hbr_3.raw | (with_reducible refine obj_alloc_at ?_; simp; done) | (with_reducible apply obj_put4; omega) | (with_reducible apply obj_put1; omega) | (with_reducible refine obj_setCell_other ?_ _ _ ?_; rotate_left; (dsimp only; omega)) | with_reducible refine obj_alloc ?_ _ | with_reducible refine obj_drew ?_ | exact hbr_3.raw)
                · rw [HR.out] <;> rfl
                · skip
                  repeat (first | with_reducible exact hfw_3 | with_reducible refine Fr.alloc ?_ _ | (with_reducible refine Fr.setCell ?_ ?_ _; rotate_left; (intro h; dsimp only at h; omega)) | with_reducible refine Fr.drew ?_ | exact hfw_3)
              · have hz : -9223372036854775808 ≤ (a.n * b.n) ∧ (a.n * b.n) ≤ 9223372036854775807 := by rw [Int.mul_comm a.n b.n]; exact mul2n py pw q
                have HR := Lib.hid (show numV a b (wrap64 (a.n * b.n)) (okI (a.n * b.n)) = (intV (wrap64 (a.n * b.n)), 0) by rw [HR0, okI_yes hz.1 hz.2]; rfl)
                clear HR0 ha hb x0 y0 hz
                go_wp2_with fail
                refine (HB.out _).mono ?_
                rintro e w2 ⟨rfl, hf2⟩
                have la := hba_1.lt
                have lb := hbb_1.lt
                have lr := hbr_1.lt
                have hl := hfw_1.size
                have hB : Bx w2 w.heap.size a ∧ Bx w2 (w.heap.size + 1) b ∧ Bl w2 (w.heap.size + 2) 0 0 0 := by
                  refine ⟨?_, ?_, ?_⟩ <;> ((first | unfold Bx | unfold Bl | skip); refine hf2.obj (noB_not _) ?_; repeat (first | with_reducible exact hba_1.raw | with_reducible exact hbb_1.raw | with_reducible exact hbr_1.raw | (with_reducible refine obj_alloc_at ?_; simp; done) | (with_reducible apply obj_put4; omega) | (with_reducible apply obj_put1; omega) | (with_reducible refine obj_setCell_other ?_ _ _ ?_; rotate_left; (dsimp only; omega)) | with_reducible refine obj_alloc ?_ _ | with_reducible refine obj_drew ?_))
                obtain ⟨hba_2, hbb_2, hbr_2⟩ := hB
                have hfw_2 : Fr noB w w2 := by
                  refine Fr.transN ?_ hf2
                  repeat (first | with_reducible exact hfw_1 | with_reducible refine Fr.alloc ?_ _ | (with_reducible refine Fr.setCell ?_ ?_ _; rotate_left; (intro h; dsimp only at h; omega)) | with_reducible refine Fr.drew ?_ | exact hfw_1)
                clear hba_1 hbb_1 hbr_1 la lb lr hl ca_0 ca_1 ca_2 ca_3 za cb_0 cb_1 cb_2 cb_3 zb cr_0 cr_1 cr_2 cr_3 zr hf2 hfw_1
                obtain ⟨ca_0, ca_1, ca_2, ca_3, za⟩ := hba_2.cs
                obtain ⟨cb_0, cb_1, cb_2, cb_3, zb⟩ := hbb_2.cs
                obtain ⟨cr_0, cr_1, cr_2, cr_3, zr⟩ := hbr_2.cs
                go_upto_region 4 with fail
                have la := hba_2.lt
                have lb := hbb_2.lt
                have lr := hbr_2.lt
                have hl := hfw_2.size
                refine wp_world (fun W => Fr noB w W ∧ Bx W w.heap.size a ∧ Bx W (w.heap.size + 1) b ∧ Bl W (w.heap.size + 2) 0 0 0) ?_ ?_
                · refine ⟨?_, ?_, ?_, ?_⟩ <;> ((first | unfold Bx | unfold Bl | skip); repeat (first | with_reducible exact hfw_2 | with_reducible refine Fr.alloc ?_ _ | (with_reducible refine Fr.setCell ?_ ?_ _; rotate_left; (intro h; dsimp only at h; omega)) | with_reducible refine Fr.drew ?_ | with_reducible exact hba_2.raw | with_reducible exact hbb_2.raw | with_reducible exact hbr_2.raw | (with_reducible refine obj_alloc_at ?_; simp; done) | (with_reducible apply obj_put4; omega) | (with_reducible apply obj_put1; omega) | (with_reducible refine obj_setCell_other ?_ _ _ ?_; rotate_left; (dsimp only; omega)) | with_reducible refine obj_alloc ?_ _ | with_reducible refine obj_drew ?_ | exact hfw_2))
                clear hba_2 hbb_2 hbr_2 la lb lr hl ca_0 ca_1 ca_2 ca_3 za cb_0 cb_1 cb_2 cb_3 zb cr_0 cr_1 cr_2 cr_3 zr hfw_2
                rintro w3 ⟨hfw_3, hba_3, hbb_3, hbr_3⟩
                obtain ⟨ca_0, ca_1, ca_2, ca_3, za⟩ := hba_3.cs
                obtain ⟨cb_0, cb_1, cb_2, cb_3, zb⟩ := hbb_3.cs
                obtain ⟨cr_0, cr_1, cr_2, cr_3, zr⟩ := hbr_3.cs
                go_region
                go_wp2_with fail
                refine (HI.out _).mono ?_
                rintro e w4 ⟨rfl, hf4⟩
                have la := hba_3.lt
                have lb := hbb_3.lt
                have lr := hbr_3.lt
                have hl := hfw_3.size
                have hB : Bx w4 w.heap.size a ∧ Bx w4 (w.heap.size + 1) b ∧ Bl w4 (w.heap.size + 2) 0 0 0 := by
                  refine ⟨?_, ?_, ?_⟩ <;> ((first | unfold Bx | unfold Bl | skip); refine hf4.obj (noB_not _) ?_; repeat (first | with_reducible exact hba_3.raw | with_reducible exact hbb_3.raw | with_reducible exact hbr_3.raw | (with_reducible refine obj_alloc_at ?_; simp; done) | (with_reducible apply obj_put4; omega) | (with_reducible apply obj_put1; omega) | (with_reducible refine obj_setCell_other ?_ _ _ ?_; rotate_left; (dsimp only; omega)) | with_reducible refine obj_alloc ?_ _ | with_reducible refine obj_drew ?_))
                obtain ⟨hba_4, hbb_4, hbr_4⟩ := hB
                have hfw_4 : Fr noB w w4 := by
                  refine Fr.transN ?_ hf4
                  repeat (first | with_reducible exact hfw_3 | with_reducible refine Fr.alloc ?_ _ | (with_reducible refine Fr.setCell ?_ ?_ _; rotate_left; (intro h; dsimp only at h; omega)) | with_reducible refine Fr.drew ?_ | exact hfw_3)
                clear hba_3 hbb_3 hbr_3 la lb lr hl ca_0 ca_1 ca_2 ca_3 za cb_0 cb_1 cb_2 cb_3 zb cr_0 cr_1 cr_2 cr_3 zr hf4 hfw_3
                obtain ⟨ca_0, ca_1, ca_2, ca_3, za⟩ := hba_4.cs
                obtain ⟨cb_0, cb_1, cb_2, cb_3, zb⟩ := hbb_4.cs
                obtain ⟨cr_0, cr_1, cr_2, cr_3, zr⟩ := hbr_4.cs
                go_wp2_with fail
                have la := hba_4.lt
                have lb := hbb_4.lt
                have lr := hbr_4.lt
                have hl := hfw_4.size
                refine bodyPost_ret (ret_val2 rfl _ _ (w.heap.size + 2) (intV (wrap64 (a.n * b.n))) _ rfl rfl ?_) rfl ⟨?_, ?_⟩
                · show _ = some (Obj.cells #[.int .u8 1, .int .i64 (wrap64 (a.n * b.n)), .int .i64 0, .string ⟨#[]⟩] 23 (0, 0))
                  repeat (first | with_reducible exact hbr_4.raw | (with_reducible refine obj_alloc_at ?_; simp; done) | (with_reducible apply obj_put4; omega) | (with_reducible apply obj_put1; omega) | (with_reducible refine obj_setCell_other ?_ _ _ ?_; rotate_left; (dsimp only; omega)) | with_reducible refine obj_alloc ?_ _ | with_reducible refine obj_drew ?_ | exact hbr_4.raw)
                · rw [HR.out] <;> rfl
                · skip
                  repeat (first | with_reducible exact hfw_4 | with_reducible refine Fr.alloc ?_ _ | (with_reducible refine Fr.setCell ?_ ?_ _; rotate_left; (intro h; dsimp only at h; omega)) | with_reducible refine Fr.drew ?_ | exact hfw_4)
            · have pz : b.n < 0 := by omega
              by_cases ma : a.n = -9223372036854775808
              · have fm : (a.n == -9223372036854775808) = true := by simp [ma]
                have hz : (a.n * b.n) < -9223372036854775808 ∨ 9223372036854775807 < (a.n * b.n) := mul4 ma pz
                have HR := Lib.hid (show numV a b (wrap64 (a.n * b.n)) (okI (a.n * b.n)) = (zV, 61) by rw [HR0, okI_not hz]; rfl)
                clear HR0 ha hb x0 y0 hz ma
                go_wp2_with fail
                refine (HB.out _).mono ?_
                rintro e w2 ⟨rfl, hf2⟩
                have la := hba_1.lt
                have lb := hbb_1.lt
                have lr := hbr_1.lt
                have hl := hfw_1.size
                have hB : Bx w2 w.heap.size a ∧ Bx w2 (w.heap.size + 1) b ∧ Bl w2 (w.heap.size + 2) 0 0 0 := by
                  refine ⟨?_, ?_, ?_⟩ <;> ((first | unfold Bx | unfold Bl | skip); refine hf2.obj (noB_not _) ?_; repeat (first | with_reducible exact hba_1.raw | with_reducible exact hbb_1.raw | with_reducible exact hbr_1.raw | (with_reducible refine obj_alloc_at ?_; simp; done) | (with_reducible apply obj_put4; omega) | (with_reducible apply obj_put1; omega) | (with_reducible refine obj_setCell_other ?_ _ _ ?_; rotate_left; (dsimp only; omega)) | with_reducible refine obj_alloc ?_ _ | with_reducible refine obj_drew ?_))
                obtain ⟨hba_2, hbb_2, hbr_2⟩ := hB
                have hfw_2 : Fr noB w w2 := by
                  refine Fr.transN ?_ hf2
                  repeat (first | with_reducible exact hfw_1 | with_reducible refine Fr.alloc ?_ _ | (with_reducible refine Fr.setCell ?_ ?_ _; rotate_left; (intro h; dsimp only at h; omega)) | with_reducible refine Fr.drew ?_ | exact hfw_1)
                clear hba_1 hbb_1 hbr_1 la lb lr hl ca_0 ca_1 ca_2 ca_3 za cb_0 cb_1 cb_2 cb_3 zb cr_0 cr_1 cr_2 cr_3 zr hf2 hfw_1
                obtain ⟨ca_0, ca_1, ca_2, ca_3, za⟩ := hba_2.cs
                obtain ⟨cb_0, cb_1, cb_2, cb_3, zb⟩ := hbb_2.cs
                obtain ⟨cr_0, cr_1, cr_2, cr_3, zr⟩ := hbr_2.cs
                go_upto_region 4 with fail
                have la := hba_2.lt
                have lb := hbb_2.lt
                have lr := hbr_2.lt
                have hl := hfw_2.size
                refine wp_world (fun W => Fr noB w W ∧ Bx W w.heap.size a ∧ Bx W (w.heap.size + 1) b ∧ Bl W (w.heap.size + 2) 0 0 0) ?_ ?_
                · refine ⟨?_, ?_, ?_, ?_⟩ <;> ((first | unfold Bx | unfold Bl | skip); repeat (first | with_reducible exact hfw_2 | with_reducible refine Fr.alloc ?_ _ | (with_reducible refine Fr.setCell ?_ ?_ _; rotate_left; (intro h; dsimp only at h; omega)) | with_reducible refine Fr.drew ?_ | with_reducible exact hba_2.raw | with_reducible exact hbb_2.raw | with_reducible exact hbr_2.raw | (with_reducible refine obj_alloc_at ?_; simp; done) | (with_reducible apply obj_put4; omega) | (with_reducible apply obj_put1; omega) | (with_reducible refine obj_setCell_other ?_ _ _ ?_; rotate_left; (dsimp only; omega)) | with_reducible refine obj_alloc ?_ _ | with_reducible refine obj_drew ?_ | exact hfw_2))
                clear hba_2 hbb_2 hbr_2 la lb lr hl ca_0 ca_1 ca_2 ca_3 za cb_0 cb_1 cb_2 cb_3 zb cr_0 cr_1 cr_2 cr_3 zr hfw_2
                rintro w3 ⟨hfw_3, hba_3, hbb_3, hbr_3⟩
                obtain ⟨ca_0, ca_1, ca_2, ca_3, za⟩ := hba_3.cs
                obtain ⟨cb_0, cb_1, cb_2, cb_3, zb⟩ := hbb_3.cs
                obtain ⟨cr_0, cr_1, cr_2, cr_3, zr⟩ := hbr_3.cs
                go_region
                go_wp2_with fail
                have la := hba_3.lt
                have lb := hbb_3.lt
                have lr := hbr_3.lt
                have hl := hfw_3.size
                refine bodyPost_ret (ret_val2 rfl _ _ (w.heap.size + 2) zV _ rfl rfl ?_) rfl ⟨?_, ?_⟩
                · show _ = some (Obj.cells #[.int .u8 0, .int .i64 0, .int .i64 0, .string ⟨#[]⟩] 23 (0, 0))
                  repeat (first | with_reducible exact hbr_3.raw | (with_reducible refine obj_alloc_at ?_; simp; done) | (with_reducible apply obj_put4; omega) | (with_reducible apply obj_put1; omega) | (with_reducible refine obj_setCell_other ?_ _ _ ?_; rotate_left; (dsimp only; omega)) | with_reducible refine obj_alloc ?_ _ | with_reducible refine obj_drew ?_ | exact hbr_3.raw)
                · rw [HR.out] <;> rfl
                · skip
                  repeat (first | with_reducible exact hfw_3 | with_reducible refine Fr.alloc ?_ _ | (with_reducible refine Fr.setCell ?_ ?_ _; rotate_left; (intro h; dsimp only at h; omega)) | with_reducible refine Fr.drew ?_ | exact hfw_3)
              · have fm : (a.n == -9223372036854775808) = false := by simpa using ma
                by_cases mb : b.n = -9223372036854775808
                · have fb : (b.n == -9223372036854775808) = true := by simp [mb]
                  have hz : (a.n * b.n) < -9223372036854775808 ∨ 9223372036854775807 < (a.n * b.n) := by rw [Int.mul_comm a.n b.n]; exact mul4 mb pw
                  have HR := Lib.hid (show numV a b (wrap64 (a.n * b.n)) (okI (a.n * b.n)) = (zV, 61) by rw [HR0, okI_not hz]; rfl)
                  clear HR0 ha hb x0 y0 hz ma mb
                  go_wp2_with fail
                  refine (HB.out _).mono ?_
                  rintro e w2 ⟨rfl, hf2⟩
                  have la := hba_1.lt
                  have lb := hbb_1.lt
                  have lr := hbr_1.lt
                  have hl := hfw_1.size
                  have hB : Bx w2 w.heap.size a ∧ Bx w2 (w.heap.size + 1) b ∧ Bl w2 (w.heap.size + 2) 0 0 0 := by
                    refine ⟨?_, ?_, ?_⟩ <;> ((first | unfold Bx | unfold Bl | skip); refine hf2.obj (noB_not _) ?_; repeat (first | with_reducible exact hba_1.raw | with_reducible exact hbb_1.raw | with_reducible exact hbr_1.raw | (with_reducible refine obj_alloc_at ?_; simp; done) | (with_reducible apply obj_put4; omega) | (with_reducible apply obj_put1; omega) | (with_reducible refine obj_setCell_other ?_ _ _ ?_; rotate_left; (dsimp only; omega)) | with_reducible refine obj_alloc ?_ _ | with_reducible refine obj_drew ?_))
                  obtain ⟨hba_2, hbb_2, hbr_2⟩ := hB
                  have hfw_2 : Fr noB w w2 := by
                    refine Fr.transN ?_ hf2
                    repeat (first | with_reducible exact hfw_1 | with_reducible refine Fr.alloc ?_ _ | (with_reducible refine Fr.setCell ?_ ?_ _; rotate_left; (intro h; dsimp only at h; omega)) | with_reducible refine Fr.drew ?_ | exact hfw_1)
                  clear hba_1 hbb_1 hbr_1 la lb lr hl ca_0 ca_1 ca_2 ca_3 za cb_0 cb_1 cb_2 cb_3 zb cr_0 cr_1 cr_2 cr_3 zr hf2 hfw_1
                  obtain ⟨ca_0, ca_1, ca_2, ca_3, za⟩ := hba_2.cs
                  obtain ⟨cb_0, cb_1, cb_2, cb_3, zb⟩ := hbb_2.cs
                  obtain ⟨cr_0, cr_1, cr_2, cr_3, zr⟩ := hbr_2.cs
                  go_upto_region 4 with fail
                  have la := hba_2.lt
                  have lb := hbb_2.lt
                  have lr := hbr_2.lt
                  have hl := hfw_2.size
                  refine wp_world (fun W => Fr noB w W ∧ Bx W w.heap.size a ∧ Bx W (w.heap.size + 1) b ∧ Bl W (w.heap.size + 2) 0 0 0) ?_ ?_
                  · refine ⟨?_, ?_, ?_, ?_⟩ <;> ((first | unfold Bx | unfold Bl | skip); repeat (first | with_reducible exact hfw_2 | with_reducible refine Fr.alloc ?_ _ | (with_reducible refine Fr.setCell ?_ ?_ _; rotate_left; (intro h; dsimp only at h; omega)) | with_reducible refine Fr.drew ?_ | with_reducible exact hba_2.raw | with_reducible exact hbb_2.raw | with_reducible exact hbr_2.raw | (with_reducible refine obj_alloc_at ?_; simp; done) | (with_reducible apply obj_put4; omega) | (with_reducible apply obj_put1; omega) | (with_reducible refine obj_setCell_other ?_ _ _ ?_; rotate_left; (dsimp only; omega)) | with_reducible refine obj_alloc ?_ _ | with_reducible refine obj_drew ?_ | exact hfw_2))
                  clear hba_2 hbb_2 hbr_2 la lb lr hl ca_0 ca_1 ca_2 ca_3 za cb_0 cb_1 cb_2 cb_3 zb cr_0 cr_1 cr_2 cr_3 zr hfw_2
                  rintro w3 ⟨hfw_3, hba_3, hbb_3, hbr_3⟩
                  obtain ⟨ca_0, ca_1, ca_2, ca_3, za⟩ := hba_3.cs
                  obtain ⟨cb_0, cb_1, cb_2, cb_3, zb⟩ := hbb_3.cs
                  obtain ⟨cr_0, cr_1, cr_2, cr_3, zr⟩ := hbr_3.cs
                  go_region
                  go_wp2_with fail
                  have la := hba_3.lt
                  have lb := hbb_3.lt
                  have lr := hbr_3.lt
                  have hl := hfw_3.size
                  refine bodyPost_ret (ret_val2 rfl _ _ (w.heap.size + 2) zV _ rfl rfl ?_) rfl ⟨?_, ?_⟩
                  · show _ = some (Obj.cells #[.int .u8 0, .int .i64 0, .int .i64 0, .string ⟨#[]⟩] 23 (0, 0))
                    repeat (first | with_reducible exact hbr_3.raw | (with_reducible refine obj_alloc_at ?_; simp; done) | (with_reducible apply obj_put4; omega) | (with_reducible apply obj_put1; omega) | (with_reducible refine obj_setCell_other ?_ _ _ ?_; rotate_left; (dsimp only; omega)) | with_reducible refine obj_alloc ?_ _ | with_reducible refine obj_drew ?_ | exact hbr_3.raw)
                  · rw [HR.out] <;> rfl
                  · skip
                    repeat (first | with_reducible exact hfw_3 | with_reducible refine Fr.alloc ?_ _ | (with_reducible refine Fr.setCell ?_ ?_ _; rotate_left; (intro h; dsimp only at h; omega)) | with_reducible refine Fr.drew ?_ | exact hfw_3)
                · have fb : (b.n == -9223372036854775808) = false := by simpa using mb
                  have wn : ¬ wrap64 (-b.n) = 0 := by unfold wrap64; omega
                  have wm : (wrap64 (-b.n) == 0) = false := by simpa using wn
                  by_cases q : wrap64 (Int.tdiv 9223372036854775807 (wrap64 (-b.n))) < wrap64 (-a.n)
                  · have hz : (a.n * b.n) < -9223372036854775808 ∨ 9223372036854775807 < (a.n * b.n) := mul3 pw pz ha.1 hb.1 ma mb q
                    have HR := Lib.hid (show numV a b (wrap64 (a.n * b.n)) (okI (a.n * b.n)) = (zV, 61) by rw [HR0, okI_not hz]; rfl)
                    clear HR0 ha hb x0 y0 hz ma mb
                    go_wp2_with fail
                    refine (HB.out _).mono ?_
                    rintro e w2 ⟨rfl, hf2⟩
                    have la := hba_1.lt
                    have lb := hbb_1.lt
                    have lr := hbr_1.lt
                    have hl := hfw_1.size
                    have hB : Bx w2 w.heap.size a ∧ Bx w2 (w.heap.size + 1) b ∧ Bl w2 (w.heap.size + 2) 0 0 0 := by
                      refine ⟨?_, ?_, ?_⟩ <;> ((first | unfold Bx | unfold Bl | skip); refine hf2.obj (noB_not _) ?_; repeat (first | with_reducible exact hba_1.raw | with_reducible exact hbb_1.raw | with_reducible exact hbr_1.raw | (with_reducible refine obj_alloc_at ?_; simp; done) | (with_reducible apply obj_put4; omega) | (with_reducible apply obj_put1; omega) | (with_reducible refine obj_setCell_other ?_ _ _ ?_; rotate_left; (dsimp only; omega)) | with_reducible refine obj_alloc ?_ _ | with_reducible refine obj_drew ?_))
                    obtain ⟨hba_2, hbb_2, hbr_2⟩ := hB
                    have hfw_2 : Fr noB w w2 := by
                      refine Fr.transN ?_ hf2
                      repeat (first | with_reducible exact hfw_1 | with_reducible refine Fr.alloc ?_ _ | (with_reducible refine Fr.setCell ?_ ?_ _; rotate_left; (intro h; dsimp only at h; omega)) | with_reducible refine Fr.drew ?_ | exact hfw_1)
                    clear hba_1 hbb_1 hbr_1 la lb lr hl ca_0 ca_1 ca_2 ca_3 za cb_0 cb_1 cb_2 cb_3 zb cr_0 cr_1 cr_2 cr_3 zr hf2 hfw_1
                    obtain ⟨ca_0, ca_1, ca_2, ca_3, za⟩ := hba_2.cs
                    obtain ⟨cb_0, cb_1, cb_2, cb_3, zb⟩ := hbb_2.cs
                    obtain ⟨cr_0, cr_1, cr_2, cr_3, zr⟩ := hbr_2.cs
                    go_upto_region 4 with fail
                    have la := hba_2.lt
                    have lb := hbb_2.lt
                    have lr := hbr_2.lt
                    have hl := hfw_2.size
                    refine wp_world (fun W => Fr noB w W ∧ Bx W w.heap.size a ∧ Bx W (w.heap.size + 1) b ∧ Bl W (w.heap.size + 2) 0 0 0) ?_ ?_
                    · refine ⟨?_, ?_, ?_, ?_⟩ <;> ((first | unfold Bx | unfold Bl | skip); repeat (first | with_reducible exact hfw_2 | with_reducible refine Fr.alloc ?_ _ | (with_reducible refine Fr.setCell ?_ ?_ _; rotate_left; (intro h; dsimp only at h; omega)) | with_reducible refine Fr.drew ?_ | with_reducible exact hba_2.raw | with_reducible exact hbb_2.raw | with_reducible exact hbr_2.raw | (with_reducible refine obj_alloc_at ?_; simp; done) | (with_reducible apply obj_put4; omega) | (with_reducible apply obj_put1; omega) | (with_reducible refine obj_setCell_other ?_ _ _ ?_; rotate_left; (dsimp only; omega)) | with_reducible refine obj_alloc ?_ _ | with_reducible refine obj_drew ?_ | exact hfw_2))
                    clear hba_2 hbb_2 hbr_2 la lb lr hl ca_0 ca_1 ca_2 ca_3 za cb_0 cb_1 cb_2 cb_3 zb cr_0 cr_1 cr_2 cr_3 zr hfw_2
                    rintro w3 ⟨hfw_3, hba_3, hbb_3, hbr_3⟩
                    obtain ⟨ca_0, ca_1, ca_2, ca_3, za⟩ := hba_3.cs
                    obtain ⟨cb_0, cb_1, cb_2, cb_3, zb⟩ := hbb_3.cs
                    obtain ⟨cr_0, cr_1, cr_2, cr_3, zr⟩ := hbr_3.cs
                    go_region
                    go_wp2_with fail
                    have la := hba_3.lt
                    have lb := hbb_3.lt
                    have lr := hbr_3.lt
                    have hl := hfw_3.size
                    refine bodyPost_ret (ret_val2 rfl _ _ (w.heap.size + 2) zV _ rfl rfl ?_) rfl ⟨?_, ?_⟩
                    · show _ = some (Obj.cells #[.int .u8 0, .int .i64 0, .int .i64 0, .string ⟨#[]⟩] 23 (0, 0))
                      repeat (first | with_reducible exact hbr_3.raw | (with_reducible refine obj_alloc_at ?_; simp; done) | (with_reducible apply obj_put4; omega) | (with_reducible apply obj_put1; omega) | (with_reducible refine obj_setCell_other ?_ _ _ ?_; rotate_left; (dsimp only; omega)) | with_reducible refine obj_alloc ?_ _ | with_reducible refine obj_drew ?_ | exact hbr_3.raw)
                    · rw [HR.out] <;> rfl
                    · skip
                      repeat (first | with_reducible exact hfw_3 | with_reducible refine Fr.alloc ?_ _ | (with_reducible refine Fr.setCell ?_ ?_ _; rotate_left; (intro h; dsimp only at h; omega)) | with_reducible refine Fr.drew ?_ | exact hfw_3)
                  · have hz : -9223372036854775808 ≤ (a.n * b.n) ∧ (a.n * b.n) ≤ 9223372036854775807 := mul3n pw pz ha.1 hb.1 ma mb q
                    have HR := Lib.hid (show numV a b (wrap64 (a.n * b.n)) (okI (a.n * b.n)) = (intV (wrap64 (a.n * b.n)), 0) by rw [HR0, okI_yes hz.1 hz.2]; rfl)
                    clear HR0 ha hb x0 y0 hz ma mb
                    go_wp2_with fail
                    refine (HB.out _).mono ?_
                    rintro e w2 ⟨rfl, hf2⟩
                    have la := hba_1.lt
                    have lb := hbb_1.lt
                    have lr := hbr_1.lt
                    have hl := hfw_1.size
                    have hB : Bx w2 w.heap.size a ∧ Bx w2 (w.heap.size + 1) b ∧ Bl w2 (w.heap.size + 2) 0 0 0 := by
                      refine ⟨?_, ?_, ?_⟩ <;> ((first | unfold Bx | unfold Bl | skip); refine hf2.obj (noB_not _) ?_; repeat (first | with_reducible exact hba_1.raw | with_reducible exact hbb_1.raw | with_reducible exact hbr_1.raw | (with_reducible refine obj_alloc_at ?_; simp; done) | (with_reducible apply obj_put4; omega) | (with_reducible apply obj_put1; omega) | (with_reducible refine obj_setCell_other ?_ _ _ ?_; rotate_left; (dsimp only; omega)) | with_reducible refine obj_alloc ?_ _ | with_reducible refine obj_drew ?_))
                    obtain ⟨hba_2, hbb_2, hbr_2⟩ := hB
                    have hfw_2 : Fr noB w w2 := by
                      refine Fr.transN ?_ hf2
                      repeat (first | with_reducible exact hfw_1 | with_reducible refine Fr.alloc ?_ _ | (with_reducible refine Fr.setCell ?_ ?_ _; rotate_left; (intro h; dsimp only at h; omega)) | with_reducible refine Fr.drew ?_ | exact hfw_1)
                    clear hba_1 hbb_1 hbr_1 la lb lr hl ca_0 ca_1 ca_2 ca_3 za cb_0 cb_1 cb_2 cb_3 zb cr_0 cr_1 cr_2 cr_3 zr hf2 hfw_1
                    obtain ⟨ca_0, ca_1, ca_2, ca_3, za⟩ := hba_2.cs
                    obtain ⟨cb_0, cb_1, cb_2, cb_3, zb⟩ := hbb_2.cs
                    obtain ⟨cr_0, cr_1, cr_2, cr_3, zr⟩ := hbr_2.cs
                    go_upto_region 4 with fail
                    have la := hba_2.lt
                    have lb := hbb_2.lt
                    have lr := hbr_2.lt
                    have hl := hfw_2.size
                    refine wp_world (fun W => Fr noB w W ∧ Bx W w.heap.size a ∧ Bx W (w.heap.size + 1) b ∧ Bl W (w.heap.size + 2) 0 0 0) ?_ ?_
                    · refine ⟨?_, ?_, ?_, ?_⟩ <;> ((first | unfold Bx | unfold Bl | skip); repeat (first | with_reducible exact hfw_2 | with_reducible refine Fr.alloc ?_ _ | (with_reducible refine Fr.setCell ?_ ?_ _; rotate_left; (intro h; dsimp only at h; omega)) | with_reducible refine Fr.drew ?_ | with_reducible exact hba_2.raw | with_reducible exact hbb_2.raw | with_reducible exact hbr_2.raw | (with_reducible refine obj_alloc_at ?_; simp; done) | (with_reducible apply obj_put4; omega) | (with_reducible apply obj_put1; omega) | (with_reducible refine obj_setCell_other ?_ _ _ ?_; rotate_left; (dsimp only; omega)) | with_reducible refine obj_alloc ?_ _ | with_reducible refine obj_drew ?_ | exact hfw_2))
                    clear hba_2 hbb_2 hbr_2 la lb lr hl ca_0 ca_1 ca_2 ca_3 za cb_0 cb_1 cb_2 cb_3 zb cr_0 cr_1 cr_2 cr_3 zr hfw_2
                    rintro w3 ⟨hfw_3, hba_3, hbb_3, hbr_3⟩
                    obtain ⟨ca_0, ca_1, ca_2, ca_3, za⟩ := hba_3.cs
                    obtain ⟨cb_0, cb_1, cb_2, cb_3, zb⟩ := hbb_3.cs
                    obtain ⟨cr_0, cr_1, cr_2, cr_3, zr⟩ := hbr_3.cs
                    go_region
                    go_wp2_with fail
                    refine (HI.out _).mono ?_
                    rintro e w4 ⟨rfl, hf4⟩
                    have la := hba_3.lt
                    have lb := hbb_3.lt
                    have lr := hbr_3.lt
                    have hl := hfw_3.size
                    have hB : Bx w4 w.heap.size a ∧ Bx w4 (w.heap.size + 1) b ∧ Bl w4 (w.heap.size + 2) 0 0 0 := by
                      refine ⟨?_, ?_, ?_⟩ <;> ((first | unfold Bx | unfold Bl | skip); refine hf4.obj (noB_not _) ?_; repeat (first | with_reducible exact hba_3.raw | with_reducible exact hbb_3.raw | with_reducible exact hbr_3.raw | (with_reducible refine obj_alloc_at ?_; simp; done) | (with_reducible apply obj_put4; omega) | (with_reducible apply obj_put1; omega) | (with_reducible refine obj_setCell_other ?_ _ _ ?_; rotate_left; (dsimp only; omega)) | with_reducible refine obj_alloc ?_ _ | with_reducible refine obj_drew ?_))
                    obtain ⟨hba_4, hbb_4, hbr_4⟩ := hB
                    have hfw_4 : Fr noB w w4 := by
                      refine Fr.transN ?_ hf4
                      repeat (first | with_reducible exact hfw_3 | with_reducible refine Fr.alloc ?_ _ | (with_reducible refine Fr.setCell ?_ ?_ _; rotate_left; (intro h; dsimp only at h; omega)) | with_reducible refine Fr.drew ?_ | exact hfw_3)
                    clear hba_3 hbb_3 hbr_3 la lb lr hl ca_0 ca_1 ca_2 ca_3 za cb_0 cb_1 cb_2 cb_3 zb cr_0 cr_1 cr_2 cr_3 zr hf4 hfw_3
                    obtain ⟨ca_0, ca_1, ca_2, ca_3, za⟩ := hba_4.cs
                    obtain ⟨cb_0, cb_1, cb_2, cb_3, zb⟩ := hbb_4.cs
                    obtain ⟨cr_0, cr_1, cr_2, cr_3, zr⟩ := hbr_4.cs
                    go_wp2_with fail
                    have la := hba_4.lt
                    have lb := hbb_4.lt
                    have lr := hbr_4.lt
                    have hl := hfw_4.size
                    refine bodyPost_ret (ret_val2 rfl _ _ (w.heap.size + 2) (intV (wrap64 (a.n * b.n))) _ rfl rfl ?_) rfl ⟨?_, ?_⟩
                    · show _ = some (Obj.cells #[.int .u8 1, .int .i64 (wrap64 (a.n * b.n)), .int .i64 0, .string ⟨#[]⟩] 23 (0, 0))
                      repeat (first | with_reducible exact hbr_4.raw | (with_reducible refine obj_alloc_at ?_; simp; done) | (with_reducible apply obj_put4; omega) | (with_reducible apply obj_put1; omega) | (with_reducible refine obj_setCell_other ?_ _ _ ?_; rotate_left; (dsimp only; omega)) | with_reducible refine obj_alloc ?_ _ | with_reducible refine obj_drew ?_ | exact hbr_4.raw)
                    · rw [HR.out] <;> rfl
                    · skip
                      repeat (first | with_reducible exact hfw_4 | with_reducible refine Fr.alloc ?_ _ | (with_reducible refine Fr.setCell ?_ ?_ _; rotate_left; (intro h; dsimp only at h; omega)) | with_reducible refine Fr.drew ?_ | exact hfw_4)
    · have bl : bothV a b = (true, 0) := by unfold bothV; rw [if_neg (by rw [h1]; decide), hn]
      rw [bl] at HB
      dsimp only at HB
      have HR := Lib.hid (show numV a b (wrap64 (a.n * b.n)) (okI (a.n * b.n)) = (zV, 0) by unfold numV; rw [if_neg (by rw [h1]; decide), if_pos hn])
      clear h1 hn bl ha hb
      go_wp2_with fail
      refine (HB.out _).mono ?_
      rintro e w2 ⟨rfl, hf2⟩
      have la := hba_1.lt
      have lb := hbb_1.lt
      have lr := hbr_1.lt
      have hl := hfw_1.size
      have hB : Bx w2 w.heap.size a ∧ Bx w2 (w.heap.size + 1) b ∧ Bl w2 (w.heap.size + 2) 0 0 0 := by
        refine ⟨?_, ?_, ?_⟩ <;> ((first | unfold Bx | unfold Bl | skip); refine hf2.obj (noB_not _) ?_; repeat (first | with_reducible exact hba_1.raw | with_reducible exact hbb_1.raw | with_reducible exact hbr_1.raw | (with_reducible refine obj_alloc_at ?_; simp; done) | (with_reducible apply obj_put4; omega) | (with_reducible apply obj_put1; omega) | (with_reducible refine obj_setCell_other ?_ _ _ ?_; rotate_left; (dsimp only; omega)) | with_reducible refine obj_alloc ?_ _ | with_reducible refine obj_drew ?_))
      obtain ⟨hba_2, hbb_2, hbr_2⟩ := hB
      have hfw_2 : Fr noB w w2 := by
        refine Fr.transN ?_ hf2
        repeat (first | with_reducible exact hfw_1 | with_reducible refine Fr.alloc ?_ _ | (with_reducible refine Fr.setCell ?_ ?_ _; rotate_left; (intro h; dsimp only at h; omega)) | with_reducible refine Fr.drew ?_ | exact hfw_1)
      clear hba_1 hbb_1 hbr_1 la lb lr hl ca_0 ca_1 ca_2 ca_3 za cb_0 cb_1 cb_2 cb_3 zb cr_0 cr_1 cr_2 cr_3 zr hf2 hfw_1
      obtain ⟨ca_0, ca_1, ca_2, ca_3, za⟩ := hba_2.cs
      obtain ⟨cb_0, cb_1, cb_2, cb_3, zb⟩ := hbb_2.cs
      obtain ⟨cr_0, cr_1, cr_2, cr_3, zr⟩ := hbr_2.cs
      go_wp2_with fail
      have la := hba_2.lt
      have lb := hbb_2.lt
      have lr := hbr_2.lt
      have hl := hfw_2.size
      refine bodyPost_ret (ret_val2 rfl _ _ (w.heap.size + 2) zV _ rfl rfl ?_) rfl ⟨?_, ?_⟩
      · show _ = some (Obj.cells #[.int .u8 0, .int .i64 0, .int .i64 0, .string ⟨#[]⟩] 23 (0, 0))
        repeat (first | with_reducible exact hbr_2.raw | (with_reducible refine obj_alloc_at ?_; simp; done) | (with_reducible apply obj_put4; omega) | (with_reducible apply obj_put1; omega) | (with_reducible refine obj_setCell_other ?_ _ _ ?_; rotate_left; (dsimp only; omega)) | with_reducible refine obj_alloc ?_ _ | with_reducible refine obj_drew ?_ | exact hbr_2.raw)
      · rw [HR.out] <;> rfl
      · skip
        repeat (first | with_reducible exact hfw_2 | with_reducible refine Fr.alloc ?_ _ | (with_reducible refine Fr.setCell ?_ ?_ _; rotate_left; (intro h; dsimp only at h; omega)) | with_reducible refine Fr.drew ?_ | exact hfw_2)


end Go.Proofs.Ytcncjghcnofioaa
