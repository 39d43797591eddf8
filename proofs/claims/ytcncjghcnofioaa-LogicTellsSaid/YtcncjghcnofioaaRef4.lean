/- The walks of covenantref02's ahead, Less, Equal. No condition. -/
import Derived.Test.YtcncjghcnofioaaRef3
import Derived.Test.YtcncjghcnofioaaOrdP
import Derived.Test.YtcncjghcnofioaaBx
namespace Go.Proofs.Ytcncjghcnofioaa
open Go.RowKit

/-- Whether a value stands ahead of another one. -/
def aheadV (a b : V) : Bool := if a.k = 3 then Op.bytesLess a.t.toList b.t.toList else if a.k = 2 then !yesB a && yesB b else if a.k = 4 then decide (a.n < b.n) || (a.n == b.n && decide (a.hi < b.hi)) else decide (a.n < b.n)
theorem bytes_cmp : ∀ x y : List UInt8, Op.bytesLess x y = true ↔ Lib.compareBytes x y < 0
  | [], [] => by simp [Op.bytesLess, Lib.compareBytes]
  | [], _ :: _ => by simp [Op.bytesLess, Lib.compareBytes]
  | _ :: _, [] => by simp [Op.bytesLess, Lib.compareBytes]
  | a :: x, b :: y => by
    have e1 : Op.bytesLess (a :: x) (b :: y) = (decide (a < b) || (a == b && Op.bytesLess x y)) := rfl
    have e2 : Lib.compareBytes (a :: x) (b :: y) = if a < b then -1 else if b < a then 1 else Lib.compareBytes x y := rfl
    have ih := bytes_cmp x y
    rw [e1, e2]
    by_cases h1 : a < b
    · rw [if_pos h1]; simp [h1]
    · by_cases h2 : b < a
      · rw [if_neg h1, if_pos h2]
        have h3 : (a == b) = false := by
          rw [beq_eq_false_iff_ne]
          intro e
          rw [e] at h2
          simp only [UInt8.lt_iff_toNat_lt] at h2
          omega
        simp [h1, h3]
      · rw [if_neg h1, if_neg h2]
        have h3 : (a == b) = true := by
          simp only [UInt8.lt_iff_toNat_lt] at h1 h2
          rw [beq_iff_eq, ← UInt8.toNat_inj]; omega
        rw [h3, decide_eq_false h1, Bool.false_or, Bool.true_and]
        exact ih
theorem ahead_iff (a b : V) (hk : a.k = b.k) : aheadV a b = true ↔ orderV a b < 0 := by
  unfold aheadV orderV
  by_cases h3 : a.k = 3
  · rw [if_pos h3, if_pos h3, ByteArray.toList_eq, ByteArray.toList_eq]; exact bytes_cmp _ _
  · rw [if_neg h3, if_neg h3]
    by_cases h2 : a.k = 2
    · rw [if_pos h2, if_neg (by omega), if_pos h2, cmpI_neg]
      have hb : b.k = 2 := hk ▸ h2
      have e : (!yesB a && yesB b) = true ↔ a.n = 0 ∧ b.n ≠ 0 := by simp [yesB, h2, hb]
      rw [e]
      split <;> split <;> omega
    · rw [if_neg h2]
      by_cases h4 : a.k = 4
      · rw [if_pos h4, if_pos h4]
        have e1 := cmpI_neg a.n b.n; have e2 := cmpI_zero a.n b.n; have e3 := cmpI_neg a.hi b.hi
        have e : (decide (a.n < b.n) || (a.n == b.n && decide (a.hi < b.hi))) = true ↔ a.n < b.n ∨ (a.n = b.n ∧ a.hi < b.hi) := by simp
        rw [e]
        unfold orI
        split <;> omega
      · rw [if_neg h4, if_neg h4, if_neg h2, cmpI_neg, decide_eq_true_eq]
theorem ahead_order (a b : V) (hk : a.k = b.k) : aheadV a b = decide (orderV a b < 0) := by
  rw [Bool.eq_iff_iff, decide_eq_true_eq]
  exact ahead_iff a b hk
theorem neither (o : Int) : (!decide (o < 0) && !decide (-o < 0)) = (o == 0) := by
  rw [Bool.eq_iff_iff]
  simp
  omega

set_option maxRecDepth 100000 in
set_option maxHeartbeats 4000000 in
theorem rahead_any (a b : V) (w : World) :
    Calls Try.prog 77 #[vV a, vV b] w fun e w' => e = .returned (.bool (aheadV a b)) ∧ Fr noB w w' := by
  have HYa := Lib.hid (show ∀ W : World, Calls Try.prog 33 #[.agg #[.int .u8 a.k, .int .i64 a.n, .int .i64 a.hi, .string a.t]] W fun e w' => e = .returned (.bool (yesB a)) ∧ Fr noB W w' from fun W => ryes_any a W)
  have HYb := Lib.hid (show ∀ W : World, Calls Try.prog 33 #[.agg #[.int .u8 b.k, .int .i64 b.n, .int .i64 b.hi, .string b.t]] W fun e w' => e = .returned (.bool (yesB b)) ∧ Fr noB W w' from fun W => ryes_any b W)
  unfold vV
  go_enter Try.func77, Try.ntmps77
  go_upto_region 1 with fail
  have hfw_0 := Fr.refl noB w
  have hl := hfw_0.size
  refine wp_world (fun W => Fr noB w W ∧ Bx W w.heap.size a ∧ Bx W (w.heap.size + 1) b) ?_ ?_
  · refine ⟨?_, ?_, ?_⟩ <;> ((first | unfold Bx | unfold Bl | skip); repeat (first | with_reducible exact hfw_0 | with_reducible refine Fr.alloc ?_ _ | (with_reducible refine Fr.setCell ?_ ?_ _; rotate_left; (intro h; dsimp only at h; omega)) | with_reducible refine Fr.drew ?_ | (with_reducible refine obj_alloc_at ?_; simp; done) | (with_reducible apply obj_put4; omega) | (with_reducible apply obj_put1; omega) | (with_reducible refine obj_setCell_other ?_ _ _ ?_; rotate_left; (dsimp only; omega)) | with_reducible refine obj_alloc ?_ _ | with_reducible refine obj_drew ?_ | exact hfw_0))
  clear hl hfw_0
  rintro w1 ⟨hfw_1, hba_1, hbb_1⟩
  obtain ⟨ca_0, ca_1, ca_2, ca_3, za⟩ := hba_1.cs
  obtain ⟨cb_0, cb_1, cb_2, cb_3, zb⟩ := hbb_1.cs
  by_cases h3 : a.k = 3
  · have HR := Lib.hid (show aheadV a b = Op.bytesLess a.t.toList b.t.toList by unfold aheadV; rw [if_pos h3])
    rw [h3] at ca_0
    clear h3
    go_wp2_with fail
    have la := hba_1.lt
    have lb := hbb_1.lt
    have hl := hfw_1.size
    go_ret
    refine ⟨?_, ?_⟩
    · rw [HR.out] <;> rfl
    · skip
      repeat (first | with_reducible exact hfw_1 | with_reducible refine Fr.alloc ?_ _ | (with_reducible refine Fr.setCell ?_ ?_ _; rotate_left; (intro h; dsimp only at h; omega)) | with_reducible refine Fr.drew ?_ | exact hfw_1)
  · have b3 : (a.k == 3) = false := by rw [beq_eq_false_iff_ne]; exact h3
    by_cases h2 : a.k = 2
    · have HR := Lib.hid (show aheadV a b = (!yesB a && yesB b) by unfold aheadV; rw [if_neg h3, if_pos h2])
      have b2 : (a.k == 2) = true := by simp [h2]
      clear h2 h3
      cases ha : yesB a
      · rw [ha] at HR HYa
        go_wp2_with fail
        refine (HYa.out _).mono ?_
        rintro e w2 ⟨rfl, hf2⟩
        have la := hba_1.lt
        have lb := hbb_1.lt
        have hl := hfw_1.size
        have hB : Bx w2 w.heap.size a ∧ Bx w2 (w.heap.size + 1) b := by
          refine ⟨?_, ?_⟩ <;> ((first | unfold Bx | unfold Bl | skip); refine hf2.obj (noB_not _) ?_; repeat (first | with_reducible exact hba_1.raw | with_reducible exact hbb_1.raw | (with_reducible refine obj_alloc_at ?_; simp; done) | (with_reducible apply obj_put4; omega) | (with_reducible apply obj_put1; omega) | (with_reducible refine obj_setCell_other ?_ _ _ ?_; rotate_left; (dsimp only; omega)) | with_reducible refine obj_alloc ?_ _ | with_reducible refine obj_drew ?_))
        obtain ⟨hba_2, hbb_2⟩ := hB
        have hfw_2 : Fr noB w w2 := by
          refine Fr.transN ?_ hf2
          repeat (first | with_reducible exact hfw_1 | with_reducible refine Fr.alloc ?_ _ | (with_reducible refine Fr.setCell ?_ ?_ _; rotate_left; (intro h; dsimp only at h; omega)) | with_reducible refine Fr.drew ?_ | exact hfw_1)
        clear hba_1 hbb_1 la lb hl ca_0 ca_1 ca_2 ca_3 za cb_0 cb_1 cb_2 cb_3 zb hf2 hfw_1
        obtain ⟨ca_0, ca_1, ca_2, ca_3, za⟩ := hba_2.cs
        obtain ⟨cb_0, cb_1, cb_2, cb_3, zb⟩ := hbb_2.cs
        go_wp2_with fail
        refine (HYb.out _).mono ?_
        rintro e w3 ⟨rfl, hf3⟩
        have la := hba_2.lt
        have lb := hbb_2.lt
        have hl := hfw_2.size
        have hB : Bx w3 w.heap.size a ∧ Bx w3 (w.heap.size + 1) b := by
          refine ⟨?_, ?_⟩ <;> ((first | unfold Bx | unfold Bl | skip); refine hf3.obj (noB_not _) ?_; repeat (first | with_reducible exact hba_2.raw | with_reducible exact hbb_2.raw | (with_reducible refine obj_alloc_at ?_; simp; done) | (with_reducible apply obj_put4; omega) | (with_reducible apply obj_put1; omega) | (with_reducible refine obj_setCell_other ?_ _ _ ?_; rotate_left; (dsimp only; omega)) | with_reducible refine obj_alloc ?_ _ | with_reducible refine obj_drew ?_))
        obtain ⟨hba_3, hbb_3⟩ := hB
        have hfw_3 : Fr noB w w3 := by
          refine Fr.transN ?_ hf3
          repeat (first | with_reducible exact hfw_2 | with_reducible refine Fr.alloc ?_ _ | (with_reducible refine Fr.setCell ?_ ?_ _; rotate_left; (intro h; dsimp only at h; omega)) | with_reducible refine Fr.drew ?_ | exact hfw_2)
        clear hba_2 hbb_2 la lb hl ca_0 ca_1 ca_2 ca_3 za cb_0 cb_1 cb_2 cb_3 zb hf3 hfw_2
        obtain ⟨ca_0, ca_1, ca_2, ca_3, za⟩ := hba_3.cs
        obtain ⟨cb_0, cb_1, cb_2, cb_3, zb⟩ := hbb_3.cs
        go_wp2_with fail
        have la := hba_3.lt
        have lb := hbb_3.lt
        have hl := hfw_3.size
        go_ret
        refine ⟨?_, ?_⟩
        · rw [HR.out] <;> rfl
        · skip
          repeat (first | with_reducible exact hfw_3 | with_reducible refine Fr.alloc ?_ _ | (with_reducible refine Fr.setCell ?_ ?_ _; rotate_left; (intro h; dsimp only at h; omega)) | with_reducible refine Fr.drew ?_ | exact hfw_3)
      · rw [ha] at HR HYa
        go_wp2_with fail
        refine (HYa.out _).mono ?_
        rintro e w2 ⟨rfl, hf2⟩
        have la := hba_1.lt
        have lb := hbb_1.lt
        have hl := hfw_1.size
        have hB : Bx w2 w.heap.size a ∧ Bx w2 (w.heap.size + 1) b := by
          refine ⟨?_, ?_⟩ <;> ((first | unfold Bx | unfold Bl | skip); refine hf2.obj (noB_not _) ?_; repeat (first | with_reducible exact hba_1.raw | with_reducible exact hbb_1.raw | (with_reducible refine obj_alloc_at ?_; simp; done) | (with_reducible apply obj_put4; omega) | (with_reducible apply obj_put1; omega) | (with_reducible refine obj_setCell_other ?_ _ _ ?_; rotate_left; (dsimp only; omega)) | with_reducible refine obj_alloc ?_ _ | with_reducible refine obj_drew ?_))
        obtain ⟨hba_2, hbb_2⟩ := hB
        have hfw_2 : Fr noB w w2 := by
          refine Fr.transN ?_ hf2
          repeat (first | with_reducible exact hfw_1 | with_reducible refine Fr.alloc ?_ _ | (with_reducible refine Fr.setCell ?_ ?_ _; rotate_left; (intro h; dsimp only at h; omega)) | with_reducible refine Fr.drew ?_ | exact hfw_1)
        clear hba_1 hbb_1 la lb hl ca_0 ca_1 ca_2 ca_3 za cb_0 cb_1 cb_2 cb_3 zb hf2 hfw_1
        obtain ⟨ca_0, ca_1, ca_2, ca_3, za⟩ := hba_2.cs
        obtain ⟨cb_0, cb_1, cb_2, cb_3, zb⟩ := hbb_2.cs
        go_wp2_with fail
        have la := hba_2.lt
        have lb := hbb_2.lt
        have hl := hfw_2.size
        go_ret
        refine ⟨?_, ?_⟩
        · rw [HR.out] <;> rfl
        · skip
          repeat (first | with_reducible exact hfw_2 | with_reducible refine Fr.alloc ?_ _ | (with_reducible refine Fr.setCell ?_ ?_ _; rotate_left; (intro h; dsimp only at h; omega)) | with_reducible refine Fr.drew ?_ | exact hfw_2)
    · have b2 : (a.k == 2) = false := by rw [beq_eq_false_iff_ne]; exact h2
      by_cases h4 : a.k = 4
      · have HR0 : aheadV a b = (decide (a.n < b.n) || (a.n == b.n && decide (a.hi < b.hi))) := by unfold aheadV; rw [if_neg h3, if_neg h2, if_pos h4]
        rw [h4] at ca_0
        clear h2 h3 h4 b2 b3
        by_cases p : a.n < b.n
        · have HR := Lib.hid (show aheadV a b = true by rw [HR0, decide_eq_true p]; rfl)
          clear HR0
          go_wp2_with fail
          have la := hba_1.lt
          have lb := hbb_1.lt
          have hl := hfw_1.size
          go_ret
          refine ⟨?_, ?_⟩
          · rw [HR.out] <;> rfl
          · skip
            repeat (first | with_reducible exact hfw_1 | with_reducible refine Fr.alloc ?_ _ | (with_reducible refine Fr.setCell ?_ ?_ _; rotate_left; (intro h; dsimp only at h; omega)) | with_reducible refine Fr.drew ?_ | exact hfw_1)
        · by_cases q : a.n = b.n
          · have HR := Lib.hid (show aheadV a b = decide (a.hi < b.hi) by rw [HR0, decide_eq_false p, q]; simp)
            have q1 : (a.n == b.n) = true := by simp [q]
            clear HR0 q
            go_wp2_with fail
            have la := hba_1.lt
            have lb := hbb_1.lt
            have hl := hfw_1.size
            go_ret
            refine ⟨?_, ?_⟩
            · rw [HR.out] <;> rfl
            · skip
              repeat (first | with_reducible exact hfw_1 | with_reducible refine Fr.alloc ?_ _ | (with_reducible refine Fr.setCell ?_ ?_ _; rotate_left; (intro h; dsimp only at h; omega)) | with_reducible refine Fr.drew ?_ | exact hfw_1)
          · have q1 : (a.n == b.n) = false := by simpa using q
            have HR := Lib.hid (show aheadV a b = false by rw [HR0, decide_eq_false p, q1]; rfl)
            clear HR0 q
            go_wp2_with fail
            have la := hba_1.lt
            have lb := hbb_1.lt
            have hl := hfw_1.size
            go_ret
            refine ⟨?_, ?_⟩
            · rw [HR.out] <;> rfl
            · skip
              repeat (first | with_reducible exact hfw_1 | with_reducible refine Fr.alloc ?_ _ | (with_reducible refine Fr.setCell ?_ ?_ _; rotate_left; (intro h; dsimp only at h; omega)) | with_reducible refine Fr.drew ?_ | exact hfw_1)
      · have b4 : (a.k == 4) = false := by rw [beq_eq_false_iff_ne]; exact h4
        have HR := Lib.hid (show aheadV a b = decide (a.n < b.n) by unfold aheadV; rw [if_neg h3, if_neg h2, if_neg h4])
        clear h2 h3 h4
        go_wp2_with fail
        have la := hba_1.lt
        have lb := hbb_1.lt
        have hl := hfw_1.size
        go_ret
        refine ⟨?_, ?_⟩
        · rw [HR.out] <;> rfl
        · skip
          repeat (first | with_reducible exact hfw_1 | with_reducible refine Fr.alloc ?_ _ | (with_reducible refine Fr.setCell ?_ ?_ _; rotate_left; (intro h; dsimp only at h; omega)) | with_reducible refine Fr.drew ?_ | exact hfw_1)

set_option maxRecDepth 100000 in
set_option maxHeartbeats 4000000 in
theorem rless_any (a b : V) (w : World) :
    Calls Try.prog 45 #[vV a, vV b] w fun e w' => e = .returned (.tuple #[vV (ordV a b (decide (orderV a b < 0))).1, .int .i64 (ordV a b (decide (orderV a b < 0))).2]) ∧ Fr noB w w' := by
  have HAL := Lib.hid (show ∀ W : World, Calls Try.prog 76 #[.agg #[.int .u8 a.k, .int .i64 a.n, .int .i64 a.hi, .string a.t], .agg #[.int .u8 b.k, .int .i64 b.n, .int .i64 b.hi, .string b.t]] W fun e w' => e = .returned (.tuple #[.bool (alikeV a b).1, .int .i64 (alikeV a b).2]) ∧ Fr noB W w' from fun W => ralike_any a b W)
  have HA := Lib.hid (show ∀ W : World, Calls Try.prog 77 #[.agg #[.int .u8 a.k, .int .i64 a.n, .int .i64 a.hi, .string a.t], .agg #[.int .u8 b.k, .int .i64 b.n, .int .i64 b.hi, .string b.t]] W fun e w' => e = .returned (.bool (aheadV a b)) ∧ Fr noB W w' from fun W => rahead_any a b W)
  have HOF := Lib.hid (show ∀ (x : Bool) (W : World), Calls Try.prog 32 #[.bool x] W fun e w' => e = .returned (.agg #[.int .u8 (ofV x).k, .int .i64 (ofV x).n, .int .i64 (ofV x).hi, .string (ofV x).t]) ∧ Fr noB W w' from fun x W => rof_any x W)
  unfold vV
  go_enter Try.func45, Try.ntmps45
  go_upto_region 1 with fail
  have hfw_0 := Fr.refl noB w
  have hl := hfw_0.size
  refine wp_world (fun W => Fr noB w W ∧ Bx W w.heap.size a ∧ Bx W (w.heap.size + 1) b ∧ Bl W (w.heap.size + 2) 0 0 0) ?_ ?_
  · refine ⟨?_, ?_, ?_, ?_⟩ <;> ((first | unfold Bx | unfold Bl | skip); repeat (first | with_reducible exact hfw_0 | with_reducible refine Fr.alloc ?_ _ | (with_reducible refine Fr.setCell ?_ ?_ _; rotate_left; (intro h; dsimp only at h; omega)) | with_reducible refine Fr.drew ?_ | (with_reducible refine obj_alloc_at ?_; simp; done) | (with_reducible apply obj_put4; omega) | (with_reducible apply obj_put1; omega) | (with_reducible refine obj_setCell_other ?_ _ _ ?_; rotate_left; (dsimp only; omega)) | with_reducible refine obj_alloc ?_ _ | with_reducible refine obj_drew ?_ | exact hfw_0))
  clear hl hfw_0
  rintro w1 ⟨hfw_1, hba_1, hbb_1, hbr_1⟩
  obtain ⟨ca_0, ca_1, ca_2, ca_3, za⟩ := hba_1.cs
  obtain ⟨cb_0, cb_1, cb_2, cb_3, zb⟩ := hbb_1.cs
  obtain ⟨cr_0, cr_1, cr_2, cr_3, zr⟩ := hbr_1.cs
  cases hn : nullB a || nullB b
  · by_cases hk : a.k = b.k
    · have al : alikeV a b = (false, 0) := by unfold alikeV; rw [if_neg (by rw [hn]; decide), if_pos hk]
      rw [al] at HAL
      dsimp only at HAL
      have HR := Lib.hid (show ordV a b (decide (orderV a b < 0)) = (ofV (aheadV a b), 0) by rw [ahead_order a b hk]; unfold ordV; rw [if_neg (by rw [hn]; decide), if_pos hk])
      clear hn hk al
      go_wp2_with fail
      refine (HAL.out _).mono ?_
      rintro e w2 ⟨rfl, hf2⟩
      have la := hba_1.lt
      have lb := hbb_1.lt
      have lr := hbr_1.lt
      have hl := hfw_1.size
      have hB : Bx w2 w.heap.size a ∧ Bx w2 (w.heap.size + 1) b ∧ Bl w2 (w.heap.size + 2) 0 0 0 := by
        refine ⟨?_, ?_, ?_⟩ <;> ((first | unfold Bx | unfold Bl | skip); refine hf2.obj (noB_not _) ?_; repeat (first | with_reducible exact hba_1.raw | with_reducible exact hbb_1.raw | with_reducible exact hbr_1.raw | (with_reducible refine obj_alloc_at ?_; simp; done) | (with_reducible apply obj_put4; omega) | (with_reducible apply obj_put1; omega) | (with_reducible refine obj_setCell_other ?_ _ _ ?_; rotate_left; (dsimp only; omega)) | with_reducible refine obj_alloc ?_ _ | with_reducible refine obj_drew ?_))
      obtain ⟨hba_2, hbb_2, hbr_2⟩ := hB
      have hfw_2 : Fr noB w w2 := by
        refine Fr.transN ?_ hf2
        repeat (first | with_reducible exact hfw_1 | with_reducible refine Fr.alloc ?_ _ | (with_reducible refine Fr.setCell ?_ ?_ _; rotate_left; (intro h; dsimp only at h; omega)) | with_reducible refine Fr.drew ?_ | exact hfw_1)
      clear hba_1 hbb_1 hbr_1 la lb lr hl ca_0 ca_1 ca_2 ca_3 za cb_0 cb_1 cb_2 cb_3 zb cr_0 cr_1 cr_2 cr_3 zr hf2 hfw_1
      obtain ⟨ca_0, ca_1, ca_2, ca_3, za⟩ := hba_2.cs
      obtain ⟨cb_0, cb_1, cb_2, cb_3, zb⟩ := hbb_2.cs
      obtain ⟨cr_0, cr_1, cr_2, cr_3, zr⟩ := hbr_2.cs
      go_wp2_with fail
      refine (HA.out _).mono ?_
      rintro e w3 ⟨rfl, hf3⟩
      have la := hba_2.lt
      have lb := hbb_2.lt
      have lr := hbr_2.lt
      have hl := hfw_2.size
      have hB : Bx w3 w.heap.size a ∧ Bx w3 (w.heap.size + 1) b ∧ Bl w3 (w.heap.size + 2) 0 0 0 := by
        refine ⟨?_, ?_, ?_⟩ <;> ((first | unfold Bx | unfold Bl | skip); refine hf3.obj (noB_not _) ?_; repeat (first | with_reducible exact hba_2.raw | with_reducible exact hbb_2.raw | with_reducible exact hbr_2.raw | (with_reducible refine obj_alloc_at ?_; simp; done) | (with_reducible apply obj_put4; omega) | (with_reducible apply obj_put1; omega) | (with_reducible refine obj_setCell_other ?_ _ _ ?_; rotate_left; (dsimp only; omega)) | with_reducible refine obj_alloc ?_ _ | with_reducible refine obj_drew ?_))
      obtain ⟨hba_3, hbb_3, hbr_3⟩ := hB
      have hfw_3 : Fr noB w w3 := by
        refine Fr.transN ?_ hf3
        repeat (first | with_reducible exact hfw_2 | with_reducible refine Fr.alloc ?_ _ | (with_reducible refine Fr.setCell ?_ ?_ _; rotate_left; (intro h; dsimp only at h; omega)) | with_reducible refine Fr.drew ?_ | exact hfw_2)
      clear hba_2 hbb_2 hbr_2 la lb lr hl ca_0 ca_1 ca_2 ca_3 za cb_0 cb_1 cb_2 cb_3 zb cr_0 cr_1 cr_2 cr_3 zr hf3 hfw_2
      obtain ⟨ca_0, ca_1, ca_2, ca_3, za⟩ := hba_3.cs
      obtain ⟨cb_0, cb_1, cb_2, cb_3, zb⟩ := hbb_3.cs
      obtain ⟨cr_0, cr_1, cr_2, cr_3, zr⟩ := hbr_3.cs
      go_wp2_with fail
      refine (HOF.out _ _).mono ?_
      rintro e w4 ⟨rfl, hf4⟩
      have la := hba_3.lt
      have lb := hbb_3.lt
      have lr := hbr_3.lt
      have hl := hfw_3.size
      have hB : Bx w4 w.heap.size a ∧ Bx w4 (w.heap.size + 1) b ∧ Bl w4 (w.heap.size + 2) 0 0 0 := by
        refine ⟨?_, ?_, ?_⟩ <;> ((first | unfold Bx | unfold Bl | skip); refine hf4.obj (noB_not _) ?_; repeat (first | with_reducible exact hba_3.raw | with_reducible exact hbb_3.raw | with_reducible exact hbr_3.raw | (with_reducible refine obj_alloc_at ?_; simp; done) | (with_reducible apply obj_put4; omega) | (with_reducible apply obj_put1; omega) | (with_reducible refine obj_setCell_other ?_ _ _ ?_; rotate_left; (dsimp only; omega)) | with_reducible refine obj_alloc ?_ _ | with_reducible refine obj_drew ?_))
      obtain ⟨hba_4, hbb_4, hbr_4⟩ := hB
      have hfw_4 : Fr noB w w4 := by
        refine Fr.transN ?_ hf4
        repeat (first | with_reducible exact hfw_3 | with_reducible refine Fr.alloc ?_ _ | (with_reducible refine Fr.setCell ?_ ?_ _; rotate_left; (intro h; dsimp only at h; omega)) | with_reducible refine Fr.drew ?_ | exact hfw_3)
      clear hba_3 hbb_3 hbr_3 la lb lr hl ca_0 ca_1 ca_2 ca_3 za cb_0 cb_1 cb_2 cb_3 zb cr_0 cr_1 cr_2 cr_3 zr hf4 hfw_3
      obtain ⟨ca_0, ca_1, ca_2, ca_3, za⟩ := hba_4.cs
      obtain ⟨cb_0, cb_1, cb_2, cb_3, zb⟩ := hbb_4.cs
      obtain ⟨cr_0, cr_1, cr_2, cr_3, zr⟩ := hbr_4.cs
      go_wp2_with fail
      have la := hba_4.lt
      have lb := hbb_4.lt
      have lr := hbr_4.lt
      have hl := hfw_4.size
      refine bodyPost_ret (ret_val2 rfl _ _ (w.heap.size + 2) (ofV (aheadV a b)) _ rfl rfl ?_) rfl ⟨?_, ?_⟩
      · show _ = some (Obj.cells #[.int .u8 (ofV (aheadV a b)).k, .int .i64 (ofV (aheadV a b)).n, .int .i64 (ofV (aheadV a b)).hi, .string (ofV (aheadV a b)).t] 23 (0, 0))
        repeat (first | with_reducible exact hbr_4.raw | (with_reducible refine obj_alloc_at ?_; simp; done) | (with_reducible apply obj_put4; omega) | (with_reducible apply obj_put1; omega) | (with_reducible refine obj_setCell_other ?_ _ _ ?_; rotate_left; (dsimp only; omega)) | with_reducible refine obj_alloc ?_ _ | with_reducible refine obj_drew ?_ | exact hbr_4.raw)
      · rw [HR.out] <;> rfl
      · skip
        repeat (first | with_reducible exact hfw_4 | with_reducible refine Fr.alloc ?_ _ | (with_reducible refine Fr.setCell ?_ ?_ _; rotate_left; (intro h; dsimp only at h; omega)) | with_reducible refine Fr.drew ?_ | exact hfw_4)
    · have al : alikeV a b = (false, 60) := by unfold alikeV; rw [if_neg (by rw [hn]; decide), if_neg hk]
      rw [al] at HAL
      dsimp only at HAL
      have HR := Lib.hid (show ordV a b (decide (orderV a b < 0)) = (zV, 60) by unfold ordV; rw [if_neg (by rw [hn]; decide), if_neg hk])
      clear hn hk al
      go_wp2_with fail
      refine (HAL.out _).mono ?_
      rintro e w2 ⟨rfl, hf2⟩
      have la := hba_1.lt
      have lb := hbb_1.lt
      have lr := hbr_1.lt
      have hl := hfw_1.size
      have hB : Bx w2 w.heap.size a ∧ Bx w2 (w.heap.size + 1) b ∧ Bl w2 (w.heap.size + 2) 0 0 0 := by
        refine ⟨?_, ?_, ?_⟩ <;> ((first | unfold Bx | unfold Bl | skip); refine hf2.obj (noB_not _) ?_; repeat (first | with_reducible exact hba_1.raw | with_reducible exact hbb_1.raw | with_reducible exact hbr_1.raw | (with_reducible refine obj_alloc_at ?_; simp; done) | (with_reducible apply obj_put4; omega) | (with_reducible apply obj_put1; omega) | (with_reducible refine obj_setCell_other ?_ _ _ ?_; rotate_left; (dsimp only; omega)) | with_reducible refine obj_alloc ?_ _ | with_reducible refine obj_drew ?_))
      obtain ⟨hba_2, hbb_2, hbr_2⟩ := hB
      have hfw_2 : Fr noB w w2 := by
        refine Fr.transN ?_ hf2
        repeat (first | with_reducible exact hfw_1 | with_reducible refine Fr.alloc ?_ _ | (with_reducible refine Fr.setCell ?_ ?_ _; rotate_left; (intro h; dsimp only at h; omega)) | with_reducible refine Fr.drew ?_ | exact hfw_1)
      clear hba_1 hbb_1 hbr_1 la lb lr hl ca_0 ca_1 ca_2 ca_3 za cb_0 cb_1 cb_2 cb_3 zb cr_0 cr_1 cr_2 cr_3 zr hf2 hfw_1
      obtain ⟨ca_0, ca_1, ca_2, ca_3, za⟩ := hba_2.cs
      obtain ⟨cb_0, cb_1, cb_2, cb_3, zb⟩ := hbb_2.cs
      obtain ⟨cr_0, cr_1, cr_2, cr_3, zr⟩ := hbr_2.cs
      go_wp2_with fail
      have la := hba_2.lt
      have lb := hbb_2.lt
      have lr := hbr_2.lt
      have hl := hfw_2.size
      refine bodyPost_ret (ret_val2 rfl _ _ (w.heap.size + 2) zV _ rfl rfl ?_) rfl ⟨?_, ?_⟩
      · show _ = some (Obj.cells #[.int .u8 0, .int .i64 0, .int .i64 0, .string ⟨#[]⟩] 23 (0, 0))
        repeat (first | with_reducible exact hbr_2.raw | (with_reducible refine obj_alloc_at ?_; simp; done) | (with_reducible apply obj_put4; omega) | (with_reducible apply obj_put1; omega) | (with_reducible refine obj_setCell_other ?_ _ _ ?_; rotate_left; (dsimp only; omega)) | with_reducible refine obj_alloc ?_ _ | with_reducible refine obj_drew ?_ | exact hbr_2.raw)
      · rw [HR.out] <;> rfl
      · skip
        repeat (first | with_reducible exact hfw_2 | with_reducible refine Fr.alloc ?_ _ | (with_reducible refine Fr.setCell ?_ ?_ _; rotate_left; (intro h; dsimp only at h; omega)) | with_reducible refine Fr.drew ?_ | exact hfw_2)
  · have al : alikeV a b = (true, 0) := by unfold alikeV; rw [if_pos hn]
    rw [al] at HAL
    dsimp only at HAL
    have HR := Lib.hid (show ordV a b (decide (orderV a b < 0)) = (zV, 0) by unfold ordV; rw [if_pos hn])
    clear hn al
    go_wp2_with fail
    refine (HAL.out _).mono ?_
    rintro e w2 ⟨rfl, hf2⟩
    have la := hba_1.lt
    have lb := hbb_1.lt
    have lr := hbr_1.lt
    have hl := hfw_1.size
    have hB : Bx w2 w.heap.size a ∧ Bx w2 (w.heap.size + 1) b ∧ Bl w2 (w.heap.size + 2) 0 0 0 := by
      refine ⟨?_, ?_, ?_⟩ <;> ((first | unfold Bx | unfold Bl | skip); refine hf2.obj (noB_not _) ?_; repeat (first | with_reducible exact hba_1.raw | with_reducible exact hbb_1.raw | with_reducible exact hbr_1.raw | (with_reducible refine obj_alloc_at ?_; simp; done) | (with_reducible apply obj_put4; omega) | (with_reducible apply obj_put1; omega) | (with_reducible refine obj_setCell_other ?_ _ _ ?_; rotate_left; (dsimp only; omega)) | with_reducible refine obj_alloc ?_ _ | with_reducible refine obj_drew ?_))
    obtain ⟨hba_2, hbb_2, hbr_2⟩ := hB
    have hfw_2 : Fr noB w w2 := by
      refine Fr.transN ?_ hf2
      repeat (first | with_reducible exact hfw_1 | with_reducible refine Fr.alloc ?_ _ | (with_reducible refine Fr.setCell ?_ ?_ _; rotate_left; (intro h; dsimp only at h; omega)) | with_reducible refine Fr.drew ?_ | exact hfw_1)
    clear hba_1 hbb_1 hbr_1 la lb lr hl ca_0 ca_1 ca_2 ca_3 za cb_0 cb_1 cb_2 cb_3 zb cr_0 cr_1 cr_2 cr_3 zr hf2 hfw_1
    obtain ⟨ca_0, ca_1, ca_2, ca_3, za⟩ := hba_2.cs
    obtain ⟨cb_0, cb_1, cb_2, cb_3, zb⟩ := hbb_2.cs
    obtain ⟨cr_0, cr_1, cr_2, cr_3, zr⟩ := hbr_2.cs
    go_wp2_with fail
    have la := hba_2.lt
    have lb := hbb_2.lt
    have lr := hbr_2.lt
    have hl := hfw_2.size
    refine bodyPost_ret (ret_val2 rfl _ _ (w.heap.size + 2) zV _ rfl rfl ?_) rfl ⟨?_, ?_⟩
    · show _ = some (Obj.cells #[.int .u8 0, .int .i64 0, .int .i64 0, .string ⟨#[]⟩] 23 (0, 0))
      repeat (first | with_reducible exact hbr_2.raw | (with_reducible refine obj_alloc_at ?_; simp; done) | (with_reducible apply obj_put4; omega) | (with_reducible apply obj_put1; omega) | (with_reducible refine obj_setCell_other ?_ _ _ ?_; rotate_left; (dsimp only; omega)) | with_reducible refine obj_alloc ?_ _ | with_reducible refine obj_drew ?_ | exact hbr_2.raw)
    · rw [HR.out] <;> rfl
    · skip
      repeat (first | with_reducible exact hfw_2 | with_reducible refine Fr.alloc ?_ _ | (with_reducible refine Fr.setCell ?_ ?_ _; rotate_left; (intro h; dsimp only at h; omega)) | with_reducible refine Fr.drew ?_ | exact hfw_2)

set_option maxRecDepth 100000 in
set_option maxHeartbeats 4000000 in
theorem requal_any (a b : V) (w : World) :
    Calls Try.prog 44 #[vV a, vV b] w fun e w' => e = .returned (.tuple #[vV (ordV a b (orderV a b == 0)).1, .int .i64 (ordV a b (orderV a b == 0)).2]) ∧ Fr noB w w' := by
  have HAL := Lib.hid (show ∀ W : World, Calls Try.prog 76 #[.agg #[.int .u8 a.k, .int .i64 a.n, .int .i64 a.hi, .string a.t], .agg #[.int .u8 b.k, .int .i64 b.n, .int .i64 b.hi, .string b.t]] W fun e w' => e = .returned (.tuple #[.bool (alikeV a b).1, .int .i64 (alikeV a b).2]) ∧ Fr noB W w' from fun W => ralike_any a b W)
  have HA := Lib.hid (show ∀ W : World, Calls Try.prog 77 #[.agg #[.int .u8 a.k, .int .i64 a.n, .int .i64 a.hi, .string a.t], .agg #[.int .u8 b.k, .int .i64 b.n, .int .i64 b.hi, .string b.t]] W fun e w' => e = .returned (.bool (aheadV a b)) ∧ Fr noB W w' from fun W => rahead_any a b W)
  have HB := Lib.hid (show ∀ W : World, Calls Try.prog 77 #[.agg #[.int .u8 b.k, .int .i64 b.n, .int .i64 b.hi, .string b.t], .agg #[.int .u8 a.k, .int .i64 a.n, .int .i64 a.hi, .string a.t]] W fun e w' => e = .returned (.bool (aheadV b a)) ∧ Fr noB W w' from fun W => rahead_any b a W)
  have HOF := Lib.hid (show ∀ (x : Bool) (W : World), Calls Try.prog 32 #[.bool x] W fun e w' => e = .returned (.agg #[.int .u8 (ofV x).k, .int .i64 (ofV x).n, .int .i64 (ofV x).hi, .string (ofV x).t]) ∧ Fr noB W w' from fun x W => rof_any x W)
  unfold vV
  go_enter Try.func44, Try.ntmps44
  go_upto_region 1 with fail
  have hfw_0 := Fr.refl noB w
  have hl := hfw_0.size
  refine wp_world (fun W => Fr noB w W ∧ Bx W w.heap.size a ∧ Bx W (w.heap.size + 1) b ∧ Bl W (w.heap.size + 2) 0 0 0) ?_ ?_
  · refine ⟨?_, ?_, ?_, ?_⟩ <;> ((first | unfold Bx | unfold Bl | skip); repeat (first | with_reducible exact hfw_0 | with_reducible refine Fr.alloc ?_ _ | (with_reducible refine Fr.setCell ?_ ?_ _; rotate_left; (intro h; dsimp only at h; omega)) | with_reducible refine Fr.drew ?_ | (with_reducible refine obj_alloc_at ?_; simp; done) | (with_reducible apply obj_put4; omega) | (with_reducible apply obj_put1; omega) | (with_reducible refine obj_setCell_other ?_ _ _ ?_; rotate_left; (dsimp only; omega)) | with_reducible refine obj_alloc ?_ _ | with_reducible refine obj_drew ?_ | exact hfw_0))
  clear hl hfw_0
  rintro w1 ⟨hfw_1, hba_1, hbb_1, hbr_1⟩
  obtain ⟨ca_0, ca_1, ca_2, ca_3, za⟩ := hba_1.cs
  obtain ⟨cb_0, cb_1, cb_2, cb_3, zb⟩ := hbb_1.cs
  obtain ⟨cr_0, cr_1, cr_2, cr_3, zr⟩ := hbr_1.cs
  cases hn : nullB a || nullB b
  · by_cases hk : a.k = b.k
    · have al : alikeV a b = (false, 0) := by unfold alikeV; rw [if_neg (by rw [hn]; decide), if_pos hk]
      rw [al] at HAL
      dsimp only at HAL
      have eo : (!aheadV a b && !aheadV b a) = (orderV a b == 0) := by rw [ahead_order a b hk, ahead_order b a hk.symm, order_flip a b hk]; exact neither _
      have HR0 : ordV a b (orderV a b == 0) = (ofV (!aheadV a b && !aheadV b a), 0) := by rw [eo]; unfold ordV; rw [if_neg (by rw [hn]; decide), if_pos hk]
      clear hn hk al eo
      cases hx : aheadV a b
      · rw [hx] at HR0 HA
        have HR := Lib.hid HR0
        clear HR0
        go_wp2_with fail
        refine (HAL.out _).mono ?_
        rintro e w2 ⟨rfl, hf2⟩
        have la := hba_1.lt
        have lb := hbb_1.lt
        have lr := hbr_1.lt
        have hl := hfw_1.size
        have hB : Bx w2 w.heap.size a ∧ Bx w2 (w.heap.size + 1) b ∧ Bl w2 (w.heap.size + 2) 0 0 0 := by
          refine ⟨?_, ?_, ?_⟩ <;> ((first | unfold Bx | unfold Bl | skip); refine hf2.obj (noB_not _) ?_; repeat (first | with_reducible exact hba_1.raw | with_reducible exact hbb_1.raw | with_reducible exact hbr_1.raw | (with_reducible refine obj_alloc_at ?_; simp; done) | (with_reducible apply obj_put4; omega) | (with_reducible apply obj_put1; omega) | (with_reducible refine obj_setCell_other ?_ _ _ ?_; rotate_left; (dsimp only; omega)) | with_reducible refine obj_alloc ?_ _ | with_reducible refine obj_drew ?_))
        obtain ⟨hba_2, hbb_2, hbr_2⟩ := hB
        have hfw_2 : Fr noB w w2 := by
          refine Fr.transN ?_ hf2
          repeat (first | with_reducible exact hfw_1 | with_reducible refine Fr.alloc ?_ _ | (with_reducible refine Fr.setCell ?_ ?_ _; rotate_left; (intro h; dsimp only at h; omega)) | with_reducible refine Fr.drew ?_ | exact hfw_1)
        clear hba_1 hbb_1 hbr_1 la lb lr hl ca_0 ca_1 ca_2 ca_3 za cb_0 cb_1 cb_2 cb_3 zb cr_0 cr_1 cr_2 cr_3 zr hf2 hfw_1
        obtain ⟨ca_0, ca_1, ca_2, ca_3, za⟩ := hba_2.cs
        obtain ⟨cb_0, cb_1, cb_2, cb_3, zb⟩ := hbb_2.cs
        obtain ⟨cr_0, cr_1, cr_2, cr_3, zr⟩ := hbr_2.cs
        go_wp2_with fail
        refine (HA.out _).mono ?_
        rintro e w3 ⟨rfl, hf3⟩
        have la := hba_2.lt
        have lb := hbb_2.lt
        have lr := hbr_2.lt
        have hl := hfw_2.size
        have hB : Bx w3 w.heap.size a ∧ Bx w3 (w.heap.size + 1) b ∧ Bl w3 (w.heap.size + 2) 0 0 0 := by
          refine ⟨?_, ?_, ?_⟩ <;> ((first | unfold Bx | unfold Bl | skip); refine hf3.obj (noB_not _) ?_; repeat (first | with_reducible exact hba_2.raw | with_reducible exact hbb_2.raw | with_reducible exact hbr_2.raw | (with_reducible refine obj_alloc_at ?_; simp; done) | (with_reducible apply obj_put4; omega) | (with_reducible apply obj_put1; omega) | (with_reducible refine obj_setCell_other ?_ _ _ ?_; rotate_left; (dsimp only; omega)) | with_reducible refine obj_alloc ?_ _ | with_reducible refine obj_drew ?_))
        obtain ⟨hba_3, hbb_3, hbr_3⟩ := hB
        have hfw_3 : Fr noB w w3 := by
          refine Fr.transN ?_ hf3
          repeat (first | with_reducible exact hfw_2 | with_reducible refine Fr.alloc ?_ _ | (with_reducible refine Fr.setCell ?_ ?_ _; rotate_left; (intro h; dsimp only at h; omega)) | with_reducible refine Fr.drew ?_ | exact hfw_2)
        clear hba_2 hbb_2 hbr_2 la lb lr hl ca_0 ca_1 ca_2 ca_3 za cb_0 cb_1 cb_2 cb_3 zb cr_0 cr_1 cr_2 cr_3 zr hf3 hfw_2
        obtain ⟨ca_0, ca_1, ca_2, ca_3, za⟩ := hba_3.cs
        obtain ⟨cb_0, cb_1, cb_2, cb_3, zb⟩ := hbb_3.cs
        obtain ⟨cr_0, cr_1, cr_2, cr_3, zr⟩ := hbr_3.cs
        go_wp2_with fail
        refine (HB.out _).mono ?_
        rintro e w4 ⟨rfl, hf4⟩
        have la := hba_3.lt
        have lb := hbb_3.lt
        have lr := hbr_3.lt
        have hl := hfw_3.size
        have hB : Bx w4 w.heap.size a ∧ Bx w4 (w.heap.size + 1) b ∧ Bl w4 (w.heap.size + 2) 0 0 0 := by
          refine ⟨?_, ?_, ?_⟩ <;> ((first | unfold Bx | unfold Bl | skip); refine hf4.obj (noB_not _) ?_; repeat (first | with_reducible exact hba_3.raw | with_reducible exact hbb_3.raw | with_reducible exact hbr_3.raw | (with_reducible refine obj_alloc_at ?_; simp; done) | (with_reducible apply obj_put4; omega) | (with_reducible apply obj_put1; omega) | (with_reducible refine obj_setCell_other ?_ _ _ ?_; rotate_left; (dsimp only; omega)) | with_reducible refine obj_alloc ?_ _ | with_reducible refine obj_drew ?_))
        obtain ⟨hba_4, hbb_4, hbr_4⟩ := hB
        have hfw_4 : Fr noB w w4 := by
          refine Fr.transN ?_ hf4
          repeat (first | with_reducible exact hfw_3 | with_reducible refine Fr.alloc ?_ _ | (with_reducible refine Fr.setCell ?_ ?_ _; rotate_left; (intro h; dsimp only at h; omega)) | with_reducible refine Fr.drew ?_ | exact hfw_3)
        clear hba_3 hbb_3 hbr_3 la lb lr hl ca_0 ca_1 ca_2 ca_3 za cb_0 cb_1 cb_2 cb_3 zb cr_0 cr_1 cr_2 cr_3 zr hf4 hfw_3
        obtain ⟨ca_0, ca_1, ca_2, ca_3, za⟩ := hba_4.cs
        obtain ⟨cb_0, cb_1, cb_2, cb_3, zb⟩ := hbb_4.cs
        obtain ⟨cr_0, cr_1, cr_2, cr_3, zr⟩ := hbr_4.cs
        go_wp2_with fail
        refine (HOF.out _ _).mono ?_
        rintro e w5 ⟨rfl, hf5⟩
        have la := hba_4.lt
        have lb := hbb_4.lt
        have lr := hbr_4.lt
        have hl := hfw_4.size
        have hB : Bx w5 w.heap.size a ∧ Bx w5 (w.heap.size + 1) b ∧ Bl w5 (w.heap.size + 2) 0 0 0 := by
          refine ⟨?_, ?_, ?_⟩ <;> ((first | unfold Bx | unfold Bl | skip); refine hf5.obj (noB_not _) ?_; repeat (first | with_reducible exact hba_4.raw | with_reducible exact hbb_4.raw | with_reducible exact hbr_4.raw | (with_reducible refine obj_alloc_at ?_; simp; done) | (with_reducible apply obj_put4; omega) | (with_reducible apply obj_put1; omega) | (with_reducible refine obj_setCell_other ?_ _ _ ?_; rotate_left; (dsimp only; omega)) | with_reducible refine obj_alloc ?_ _ | with_reducible refine obj_drew ?_))
        obtain ⟨hba_5, hbb_5, hbr_5⟩ := hB
        have hfw_5 : Fr noB w w5 := by
          refine Fr.transN ?_ hf5
          repeat (first | with_reducible exact hfw_4 | with_reducible refine Fr.alloc ?_ _ | (with_reducible refine Fr.setCell ?_ ?_ _; rotate_left; (intro h; dsimp only at h; omega)) | with_reducible refine Fr.drew ?_ | exact hfw_4)
        clear hba_4 hbb_4 hbr_4 la lb lr hl ca_0 ca_1 ca_2 ca_3 za cb_0 cb_1 cb_2 cb_3 zb cr_0 cr_1 cr_2 cr_3 zr hf5 hfw_4
        obtain ⟨ca_0, ca_1, ca_2, ca_3, za⟩ := hba_5.cs
        obtain ⟨cb_0, cb_1, cb_2, cb_3, zb⟩ := hbb_5.cs
        obtain ⟨cr_0, cr_1, cr_2, cr_3, zr⟩ := hbr_5.cs
        go_wp2_with fail
        have la := hba_5.lt
        have lb := hbb_5.lt
        have lr := hbr_5.lt
        have hl := hfw_5.size
        refine bodyPost_ret (ret_val2 rfl _ _ (w.heap.size + 2) (ofV (!aheadV b a)) _ rfl rfl ?_) rfl ⟨?_, ?_⟩
        · show _ = some (Obj.cells #[.int .u8 (ofV (!aheadV b a)).k, .int .i64 (ofV (!aheadV b a)).n, .int .i64 (ofV (!aheadV b a)).hi, .string (ofV (!aheadV b a)).t] 23 (0, 0))
          repeat (first | with_reducible exact hbr_5.raw | (with_reducible refine obj_alloc_at ?_; simp; done) | (with_reducible apply obj_put4; omega) | (with_reducible apply obj_put1; omega) | (with_reducible refine obj_setCell_other ?_ _ _ ?_; rotate_left; (dsimp only; omega)) | with_reducible refine obj_alloc ?_ _ | with_reducible refine obj_drew ?_ | exact hbr_5.raw)
        · rw [HR.out] <;> rfl
        · skip
          repeat (first | with_reducible exact hfw_5 | with_reducible refine Fr.alloc ?_ _ | (with_reducible refine Fr.setCell ?_ ?_ _; rotate_left; (intro h; dsimp only at h; omega)) | with_reducible refine Fr.drew ?_ | exact hfw_5)
      · rw [hx] at HR0 HA
        have HR := Lib.hid HR0
        clear HR0
        go_wp2_with fail
        refine (HAL.out _).mono ?_
        rintro e w2 ⟨rfl, hf2⟩
        have la := hba_1.lt
        have lb := hbb_1.lt
        have lr := hbr_1.lt
        have hl := hfw_1.size
        have hB : Bx w2 w.heap.size a ∧ Bx w2 (w.heap.size + 1) b ∧ Bl w2 (w.heap.size + 2) 0 0 0 := by
          refine ⟨?_, ?_, ?_⟩ <;> ((first | unfold Bx | unfold Bl | skip); refine hf2.obj (noB_not _) ?_; repeat (first | with_reducible exact hba_1.raw | with_reducible exact hbb_1.raw | with_reducible exact hbr_1.raw | (with_reducible refine obj_alloc_at ?_; simp; done) | (with_reducible apply obj_put4; omega) | (with_reducible apply obj_put1; omega) | (with_reducible refine obj_setCell_other ?_ _ _ ?_; rotate_left; (dsimp only; omega)) | with_reducible refine obj_alloc ?_ _ | with_reducible refine obj_drew ?_))
        obtain ⟨hba_2, hbb_2, hbr_2⟩ := hB
        have hfw_2 : Fr noB w w2 := by
          refine Fr.transN ?_ hf2
          repeat (first | with_reducible exact hfw_1 | with_reducible refine Fr.alloc ?_ _ | (with_reducible refine Fr.setCell ?_ ?_ _; rotate_left; (intro h; dsimp only at h; omega)) | with_reducible refine Fr.drew ?_ | exact hfw_1)
        clear hba_1 hbb_1 hbr_1 la lb lr hl ca_0 ca_1 ca_2 ca_3 za cb_0 cb_1 cb_2 cb_3 zb cr_0 cr_1 cr_2 cr_3 zr hf2 hfw_1
        obtain ⟨ca_0, ca_1, ca_2, ca_3, za⟩ := hba_2.cs
        obtain ⟨cb_0, cb_1, cb_2, cb_3, zb⟩ := hbb_2.cs
        obtain ⟨cr_0, cr_1, cr_2, cr_3, zr⟩ := hbr_2.cs
        go_wp2_with fail
        refine (HA.out _).mono ?_
        rintro e w3 ⟨rfl, hf3⟩
        have la := hba_2.lt
        have lb := hbb_2.lt
        have lr := hbr_2.lt
        have hl := hfw_2.size
        have hB : Bx w3 w.heap.size a ∧ Bx w3 (w.heap.size + 1) b ∧ Bl w3 (w.heap.size + 2) 0 0 0 := by
          refine ⟨?_, ?_, ?_⟩ <;> ((first | unfold Bx | unfold Bl | skip); refine hf3.obj (noB_not _) ?_; repeat (first | with_reducible exact hba_2.raw | with_reducible exact hbb_2.raw | with_reducible exact hbr_2.raw | (with_reducible refine obj_alloc_at ?_; simp; done) | (with_reducible apply obj_put4; omega) | (with_reducible apply obj_put1; omega) | (with_reducible refine obj_setCell_other ?_ _ _ ?_; rotate_left; (dsimp only; omega)) | with_reducible refine obj_alloc ?_ _ | with_reducible refine obj_drew ?_))
        obtain ⟨hba_3, hbb_3, hbr_3⟩ := hB
        have hfw_3 : Fr noB w w3 := by
          refine Fr.transN ?_ hf3
          repeat (first | with_reducible exact hfw_2 | with_reducible refine Fr.alloc ?_ _ | (with_reducible refine Fr.setCell ?_ ?_ _; rotate_left; (intro h; dsimp only at h; omega)) | with_reducible refine Fr.drew ?_ | exact hfw_2)
        clear hba_2 hbb_2 hbr_2 la lb lr hl ca_0 ca_1 ca_2 ca_3 za cb_0 cb_1 cb_2 cb_3 zb cr_0 cr_1 cr_2 cr_3 zr hf3 hfw_2
        obtain ⟨ca_0, ca_1, ca_2, ca_3, za⟩ := hba_3.cs
        obtain ⟨cb_0, cb_1, cb_2, cb_3, zb⟩ := hbb_3.cs
        obtain ⟨cr_0, cr_1, cr_2, cr_3, zr⟩ := hbr_3.cs
        go_wp2_with fail
        refine (HOF.out _ _).mono ?_
        rintro e w4 ⟨rfl, hf4⟩
        have la := hba_3.lt
        have lb := hbb_3.lt
        have lr := hbr_3.lt
        have hl := hfw_3.size
        have hB : Bx w4 w.heap.size a ∧ Bx w4 (w.heap.size + 1) b ∧ Bl w4 (w.heap.size + 2) 0 0 0 := by
          refine ⟨?_, ?_, ?_⟩ <;> ((first | unfold Bx | unfold Bl | skip); refine hf4.obj (noB_not _) ?_; repeat (first | with_reducible exact hba_3.raw | with_reducible exact hbb_3.raw | with_reducible exact hbr_3.raw | (with_reducible refine obj_alloc_at ?_; simp; done) | (with_reducible apply obj_put4; omega) | (with_reducible apply obj_put1; omega) | (with_reducible refine obj_setCell_other ?_ _ _ ?_; rotate_left; (dsimp only; omega)) | with_reducible refine obj_alloc ?_ _ | with_reducible refine obj_drew ?_))
        obtain ⟨hba_4, hbb_4, hbr_4⟩ := hB
        have hfw_4 : Fr noB w w4 := by
          refine Fr.transN ?_ hf4
          repeat (first | with_reducible exact hfw_3 | with_reducible refine Fr.alloc ?_ _ | (with_reducible refine Fr.setCell ?_ ?_ _; rotate_left; (intro h; dsimp only at h; omega)) | with_reducible refine Fr.drew ?_ | exact hfw_3)
        clear hba_3 hbb_3 hbr_3 la lb lr hl ca_0 ca_1 ca_2 ca_3 za cb_0 cb_1 cb_2 cb_3 zb cr_0 cr_1 cr_2 cr_3 zr hf4 hfw_3
        obtain ⟨ca_0, ca_1, ca_2, ca_3, za⟩ := hba_4.cs
        obtain ⟨cb_0, cb_1, cb_2, cb_3, zb⟩ := hbb_4.cs
        obtain ⟨cr_0, cr_1, cr_2, cr_3, zr⟩ := hbr_4.cs
        go_wp2_with fail
        have la := hba_4.lt
        have lb := hbb_4.lt
        have lr := hbr_4.lt
        have hl := hfw_4.size
        refine bodyPost_ret (ret_val2 rfl _ _ (w.heap.size + 2) (ofV false) _ rfl rfl ?_) rfl ⟨?_, ?_⟩
        · show _ = some (Obj.cells #[.int .u8 (ofV false).k, .int .i64 (ofV false).n, .int .i64 (ofV false).hi, .string (ofV false).t] 23 (0, 0))
          repeat (first | with_reducible exact hbr_4.raw | (with_reducible refine obj_alloc_at ?_; simp; done) | (with_reducible apply obj_put4; omega) | (with_reducible apply obj_put1; omega) | (with_reducible refine obj_setCell_other ?_ _ _ ?_; rotate_left; (dsimp only; omega)) | with_reducible refine obj_alloc ?_ _ | with_reducible refine obj_drew ?_ | exact hbr_4.raw)
        · rw [HR.out] <;> rfl
        · skip
          repeat (first | with_reducible exact hfw_4 | with_reducible refine Fr.alloc ?_ _ | (with_reducible refine Fr.setCell ?_ ?_ _; rotate_left; (intro h; dsimp only at h; omega)) | with_reducible refine Fr.drew ?_ | exact hfw_4)
    · have al : alikeV a b = (false, 60) := by unfold alikeV; rw [if_neg (by rw [hn]; decide), if_neg hk]
      rw [al] at HAL
      dsimp only at HAL
      have HR := Lib.hid (show ordV a b (orderV a b == 0) = (zV, 60) by unfold ordV; rw [if_neg (by rw [hn]; decide), if_neg hk])
      clear hn hk al
      go_wp2_with fail
      refine (HAL.out _).mono ?_
      rintro e w2 ⟨rfl, hf2⟩
      have la := hba_1.lt
      have lb := hbb_1.lt
      have lr := hbr_1.lt
      have hl := hfw_1.size
      have hB : Bx w2 w.heap.size a ∧ Bx w2 (w.heap.size + 1) b ∧ Bl w2 (w.heap.size + 2) 0 0 0 := by
        refine ⟨?_, ?_, ?_⟩ <;> ((first | unfold Bx | unfold Bl | skip); refine hf2.obj (noB_not _) ?_; repeat (first | with_reducible exact hba_1.raw | with_reducible exact hbb_1.raw | with_reducible exact hbr_1.raw | (with_reducible refine obj_alloc_at ?_; simp; done) | (with_reducible apply obj_put4; omega) | (with_reducible apply obj_put1; omega) | (with_reducible refine obj_setCell_other ?_ _ _ ?_; rotate_left; (dsimp only; omega)) | with_reducible refine obj_alloc ?_ _ | with_reducible refine obj_drew ?_))
      obtain ⟨hba_2, hbb_2, hbr_2⟩ := hB
      have hfw_2 : Fr noB w w2 := by
        refine Fr.transN ?_ hf2
        repeat (first | with_reducible exact hfw_1 | with_reducible refine Fr.alloc ?_ _ | (with_reducible refine Fr.setCell ?_ ?_ _; rotate_left; (intro h; dsimp only at h; omega)) | with_reducible refine Fr.drew ?_ | exact hfw_1)
      clear hba_1 hbb_1 hbr_1 la lb lr hl ca_0 ca_1 ca_2 ca_3 za cb_0 cb_1 cb_2 cb_3 zb cr_0 cr_1 cr_2 cr_3 zr hf2 hfw_1
      obtain ⟨ca_0, ca_1, ca_2, ca_3, za⟩ := hba_2.cs
      obtain ⟨cb_0, cb_1, cb_2, cb_3, zb⟩ := hbb_2.cs
      obtain ⟨cr_0, cr_1, cr_2, cr_3, zr⟩ := hbr_2.cs
      go_wp2_with fail
      have la := hba_2.lt
      have lb := hbb_2.lt
      have lr := hbr_2.lt
      have hl := hfw_2.size
      refine bodyPost_ret (ret_val2 rfl _ _ (w.heap.size + 2) zV _ rfl rfl ?_) rfl ⟨?_, ?_⟩
      · show _ = some (Obj.cells #[.int .u8 0, .int .i64 0, .int .i64 0, .string ⟨#[]⟩] 23 (0, 0))
        repeat (first | with_reducible exact hbr_2.raw | (with_reducible refine obj_alloc_at ?_; simp; done) | (with_reducible apply obj_put4; omega) | (with_reducible apply obj_put1; omega) | (with_reducible refine obj_setCell_other ?_ _ _ ?_; rotate_left; (dsimp only; omega)) | with_reducible refine obj_alloc ?_ _ | with_reducible refine obj_drew ?_ | exact hbr_2.raw)
      · rw [HR.out] <;> rfl
      · skip
        repeat (first | with_reducible exact hfw_2 | with_reducible refine Fr.alloc ?_ _ | (with_reducible refine Fr.setCell ?_ ?_ _; rotate_left; (intro h; dsimp only at h; omega)) | with_reducible refine Fr.drew ?_ | exact hfw_2)
  · have al : alikeV a b = (true, 0) := by unfold alikeV; rw [if_pos hn]
    rw [al] at HAL
    dsimp only at HAL
    have HR := Lib.hid (show ordV a b (orderV a b == 0) = (zV, 0) by unfold ordV; rw [if_pos hn])
    clear hn al
    go_wp2_with fail
    refine (HAL.out _).mono ?_
    rintro e w2 ⟨rfl, hf2⟩
    have la := hba_1.lt
    have lb := hbb_1.lt
    have lr := hbr_1.lt
    have hl := hfw_1.size
    have hB : Bx w2 w.heap.size a ∧ Bx w2 (w.heap.size + 1) b ∧ Bl w2 (w.heap.size + 2) 0 0 0 := by
      refine ⟨?_, ?_, ?_⟩ <;> ((first | unfold Bx | unfold Bl | skip); refine hf2.obj (noB_not _) ?_; repeat (first | with_reducible exact hba_1.raw | with_reducible exact hbb_1.raw | with_reducible exact hbr_1.raw | (with_reducible refine obj_alloc_at ?_; simp; done) | (with_reducible apply obj_put4; omega) | (with_reducible apply obj_put1; omega) | (with_reducible refine obj_setCell_other ?_ _ _ ?_; rotate_left; (dsimp only; omega)) | with_reducible refine obj_alloc ?_ _ | with_reducible refine obj_drew ?_))
    obtain ⟨hba_2, hbb_2, hbr_2⟩ := hB
    have hfw_2 : Fr noB w w2 := by
      refine Fr.transN ?_ hf2
      repeat (first | with_reducible exact hfw_1 | with_reducible refine Fr.alloc ?_ _ | (with_reducible refine Fr.setCell ?_ ?_ _; rotate_left; (intro h; dsimp only at h; omega)) | with_reducible refine Fr.drew ?_ | exact hfw_1)
    clear hba_1 hbb_1 hbr_1 la lb lr hl ca_0 ca_1 ca_2 ca_3 za cb_0 cb_1 cb_2 cb_3 zb cr_0 cr_1 cr_2 cr_3 zr hf2 hfw_1
    obtain ⟨ca_0, ca_1, ca_2, ca_3, za⟩ := hba_2.cs
    obtain ⟨cb_0, cb_1, cb_2, cb_3, zb⟩ := hbb_2.cs
    obtain ⟨cr_0, cr_1, cr_2, cr_3, zr⟩ := hbr_2.cs
    go_wp2_with fail
    have la := hba_2.lt
    have lb := hbb_2.lt
    have lr := hbr_2.lt
    have hl := hfw_2.size
    refine bodyPost_ret (ret_val2 rfl _ _ (w.heap.size + 2) zV _ rfl rfl ?_) rfl ⟨?_, ?_⟩
    · show _ = some (Obj.cells #[.int .u8 0, .int .i64 0, .int .i64 0, .string ⟨#[]⟩] 23 (0, 0))
      repeat (first | with_reducible exact hbr_2.raw | (with_reducible refine obj_alloc_at ?_; simp; done) | (with_reducible apply obj_put4; omega) | (with_reducible apply obj_put1; omega) | (with_reducible refine obj_setCell_other ?_ _ _ ?_; rotate_left; (dsimp only; omega)) | with_reducible refine obj_alloc ?_ _ | with_reducible refine obj_drew ?_ | exact hbr_2.raw)
    · rw [HR.out] <;> rfl
    · skip
      repeat (first | with_reducible exact hfw_2 | with_reducible refine Fr.alloc ?_ _ | (with_reducible refine Fr.setCell ?_ ?_ _; rotate_left; (intro h; dsimp only at h; omega)) | with_reducible refine Fr.drew ?_ | exact hfw_2)


end Go.Proofs.Ytcncjghcnofioaa
