/- The walks of covenantref02's small calls. No condition. -/
import Derived.Test.YtcncjghcnofioaaLw
namespace Go.Proofs.Ytcncjghcnofioaa
open Go.RowKit

set_option maxRecDepth 100000 in
set_option maxHeartbeats 4000000 in
theorem rof_true (w : World) :
    Calls Try.prog 32 #[.bool true] w fun e w' => e = .returned (.agg #[.int .u8 2, .int .i64 1, .int .i64 0, .string ⟨#[]⟩]) ∧ Fr noB w w' := by
  go_enter Try.func32, Try.ntmps32
  go_upto_region 1 with fail
  have hfw_0 := Fr.refl noB w
  have hl := hfw_0.size
  refine wp_world (fun W => Fr noB w W ∧ W.heap[w.heap.size]? = some (.cells #[.int .u8 0, .int .i64 0, .int .i64 0, .string ⟨#[]⟩] 23 (0, 0))) ⟨?_, ?_⟩ ?_
  · skip
    repeat (first | with_reducible exact hfw_0 | with_reducible refine Fr.alloc ?_ _ | (with_reducible refine Fr.setCell ?_ ?_ _; rotate_left; (intro h; dsimp only at h; omega)) | with_reducible refine Fr.drew ?_ | exact hfw_0)
  · skip
    repeat (first | (with_reducible refine obj_alloc_at ?_; simp; done) | (with_reducible apply obj_put4; omega) | (with_reducible apply obj_put1; omega) | (with_reducible refine obj_setCell_other ?_ _ _ ?_; rotate_left; (dsimp only; omega)) | with_reducible refine obj_alloc ?_ _ | with_reducible refine obj_drew ?_)
  clear hl hfw_0
  rintro w1 ⟨hfw_1, hbr_1⟩
  obtain ⟨cr_0, cr_1, cr_2, cr_3⟩ := v_cells (v := zV) hbr_1
  dsimp only [zV] at cr_0 cr_1 cr_2 cr_3
  have zr := frozen_of_obj hbr_1
  go_wp2_with fail
  have lr := obj_lt hbr_1
  have hl := hfw_1.size
  refine bodyPost_ret (ret_val rfl _ _ (w.heap.size) yesV rfl ?_) rfl ⟨?_, ?_⟩
  · show _ = some (Obj.cells #[.int .u8 2, .int .i64 1, .int .i64 0, .string ⟨#[]⟩] 23 (0, 0))
    repeat (first | with_reducible exact hbr_1 | (with_reducible refine obj_alloc_at ?_; simp; done) | (with_reducible apply obj_put4; omega) | (with_reducible apply obj_put1; omega) | (with_reducible refine obj_setCell_other ?_ _ _ ?_; rotate_left; (dsimp only; omega)) | with_reducible refine obj_alloc ?_ _ | with_reducible refine obj_drew ?_ | exact hbr_1)
  · rfl
  · skip
    repeat (first | with_reducible exact hfw_1 | with_reducible refine Fr.alloc ?_ _ | (with_reducible refine Fr.setCell ?_ ?_ _; rotate_left; (intro h; dsimp only at h; omega)) | with_reducible refine Fr.drew ?_ | exact hfw_1)

set_option maxRecDepth 100000 in
set_option maxHeartbeats 4000000 in
theorem rof_false (w : World) :
    Calls Try.prog 32 #[.bool false] w fun e w' => e = .returned (.agg #[.int .u8 2, .int .i64 0, .int .i64 0, .string ⟨#[]⟩]) ∧ Fr noB w w' := by
  go_enter Try.func32, Try.ntmps32
  go_upto_region 1 with fail
  have hfw_0 := Fr.refl noB w
  have hl := hfw_0.size
  refine wp_world (fun W => Fr noB w W ∧ W.heap[w.heap.size]? = some (.cells #[.int .u8 0, .int .i64 0, .int .i64 0, .string ⟨#[]⟩] 23 (0, 0))) ⟨?_, ?_⟩ ?_
  · skip
    repeat (first | with_reducible exact hfw_0 | with_reducible refine Fr.alloc ?_ _ | (with_reducible refine Fr.setCell ?_ ?_ _; rotate_left; (intro h; dsimp only at h; omega)) | with_reducible refine Fr.drew ?_ | exact hfw_0)
  · skip
    repeat (first | (with_reducible refine obj_alloc_at ?_; simp; done) | (with_reducible apply obj_put4; omega) | (with_reducible apply obj_put1; omega) | (with_reducible refine obj_setCell_other ?_ _ _ ?_; rotate_left; (dsimp only; omega)) | with_reducible refine obj_alloc ?_ _ | with_reducible refine obj_drew ?_)
  clear hl hfw_0
  rintro w1 ⟨hfw_1, hbr_1⟩
  obtain ⟨cr_0, cr_1, cr_2, cr_3⟩ := v_cells (v := zV) hbr_1
  dsimp only [zV] at cr_0 cr_1 cr_2 cr_3
  have zr := frozen_of_obj hbr_1
  go_wp2_with fail
  have lr := obj_lt hbr_1
  have hl := hfw_1.size
  refine bodyPost_ret (ret_val rfl _ _ (w.heap.size) noV rfl ?_) rfl ⟨?_, ?_⟩
  · show _ = some (Obj.cells #[.int .u8 2, .int .i64 0, .int .i64 0, .string ⟨#[]⟩] 23 (0, 0))
    repeat (first | with_reducible exact hbr_1 | (with_reducible refine obj_alloc_at ?_; simp; done) | (with_reducible apply obj_put4; omega) | (with_reducible apply obj_put1; omega) | (with_reducible refine obj_setCell_other ?_ _ _ ?_; rotate_left; (dsimp only; omega)) | with_reducible refine obj_alloc ?_ _ | with_reducible refine obj_drew ?_ | exact hbr_1)
  · rfl
  · skip
    repeat (first | with_reducible exact hfw_1 | with_reducible refine Fr.alloc ?_ _ | (with_reducible refine Fr.setCell ?_ ?_ _; rotate_left; (intro h; dsimp only at h; omega)) | with_reducible refine Fr.drew ?_ | exact hfw_1)

theorem rof_any (b : Bool) (w : World) : Calls Try.prog 32 #[.bool b] w fun e w' => e = .returned (vV (ofV b)) ∧ Fr noB w w' := by
  cases b
  · exact rof_false w
  · exact rof_true w

set_option maxRecDepth 100000 in
set_option maxHeartbeats 4000000 in
theorem rint_any (n : Int) (w : World) :
    Calls Try.prog 34 #[.int .i64 n] w fun e w' => e = .returned (vV (intV n)) ∧ Fr noB w w' := by
  go_enter Try.func34, Try.ntmps34
  go_upto_region 1 with fail
  have hfw_0 := Fr.refl noB w
  have hl := hfw_0.size
  refine wp_world (fun W => Fr noB w W ∧ W.heap[w.heap.size]? = some (.cells #[.int .u8 0, .int .i64 0, .int .i64 0, .string ⟨#[]⟩] 23 (0, 0))) ⟨?_, ?_⟩ ?_
  · skip
    repeat (first | with_reducible exact hfw_0 | with_reducible refine Fr.alloc ?_ _ | (with_reducible refine Fr.setCell ?_ ?_ _; rotate_left; (intro h; dsimp only at h; omega)) | with_reducible refine Fr.drew ?_ | exact hfw_0)
  · skip
    repeat (first | (with_reducible refine obj_alloc_at ?_; simp; done) | (with_reducible apply obj_put4; omega) | (with_reducible apply obj_put1; omega) | (with_reducible refine obj_setCell_other ?_ _ _ ?_; rotate_left; (dsimp only; omega)) | with_reducible refine obj_alloc ?_ _ | with_reducible refine obj_drew ?_)
  clear hl hfw_0
  rintro w1 ⟨hfw_1, hbr_1⟩
  obtain ⟨cr_0, cr_1, cr_2, cr_3⟩ := v_cells (v := zV) hbr_1
  dsimp only [zV] at cr_0 cr_1 cr_2 cr_3
  have zr := frozen_of_obj hbr_1
  go_wp2_with fail
  have lr := obj_lt hbr_1
  have hl := hfw_1.size
  refine bodyPost_ret (ret_val rfl _ _ (w.heap.size) (intV n) rfl ?_) rfl ⟨?_, ?_⟩
  · show _ = some (Obj.cells #[.int .u8 1, .int .i64 n, .int .i64 0, .string ⟨#[]⟩] 23 (0, 0))
    repeat (first | with_reducible exact hbr_1 | (with_reducible refine obj_alloc_at ?_; simp; done) | (with_reducible apply obj_put4; omega) | (with_reducible apply obj_put1; omega) | (with_reducible refine obj_setCell_other ?_ _ _ ?_; rotate_left; (dsimp only; omega)) | with_reducible refine obj_alloc ?_ _ | with_reducible refine obj_drew ?_ | exact hbr_1)
  · rfl
  · skip
    repeat (first | with_reducible exact hfw_1 | with_reducible refine Fr.alloc ?_ _ | (with_reducible refine Fr.setCell ?_ ?_ _; rotate_left; (intro h; dsimp only at h; omega)) | with_reducible refine Fr.drew ?_ | exact hfw_1)

set_option maxRecDepth 100000 in
set_option maxHeartbeats 4000000 in
theorem ryes_any (a : V) (w : World) :
    Calls Try.prog 33 #[vV a] w fun e w' => e = .returned (.bool (yesB a)) ∧ Fr noB w w' := by
  unfold vV
  go_enter Try.func33, Try.ntmps33
  go_upto_region 1 with fail
  have hfw_0 := Fr.refl noB w
  have hl := hfw_0.size
  refine wp_world (fun W => Fr noB w W ∧ W.heap[w.heap.size]? = some (.cells #[.int .u8 a.k, .int .i64 a.n, .int .i64 a.hi, .string a.t] 23 (0, 0))) ⟨?_, ?_⟩ ?_
  · skip
    repeat (first | with_reducible exact hfw_0 | with_reducible refine Fr.alloc ?_ _ | (with_reducible refine Fr.setCell ?_ ?_ _; rotate_left; (intro h; dsimp only at h; omega)) | with_reducible refine Fr.drew ?_ | exact hfw_0)
  · skip
    repeat (first | (with_reducible refine obj_alloc_at ?_; simp; done) | (with_reducible apply obj_put4; omega) | (with_reducible apply obj_put1; omega) | (with_reducible refine obj_setCell_other ?_ _ _ ?_; rotate_left; (dsimp only; omega)) | with_reducible refine obj_alloc ?_ _ | with_reducible refine obj_drew ?_)
  clear hl hfw_0
  rintro w1 ⟨hfw_1, hba_1⟩
  obtain ⟨ca_0, ca_1, ca_2, ca_3⟩ := v_cells (v := a) hba_1
  have za := frozen_of_obj hba_1
  by_cases h0 : a.k = 2
  · have HR := Lib.hid (show yesB a = (a.n != 0) by simp [yesB, h0])
    rw [h0] at ca_0
    clear h0
    go_wp2_with fail
    have la := obj_lt hba_1
    have hl := hfw_1.size
    go_ret
    refine ⟨?_, ?_⟩
    · rw [HR.out] <;> rfl
    · skip
      repeat (first | with_reducible exact hfw_1 | with_reducible refine Fr.alloc ?_ _ | (with_reducible refine Fr.setCell ?_ ?_ _; rotate_left; (intro h; dsimp only at h; omega)) | with_reducible refine Fr.drew ?_ | exact hfw_1)
  · have HR := Lib.hid (show yesB a = false by simp [yesB, h0])
    have b0 : (a.k == 2) = false := by rw [beq_eq_false_iff_ne]; exact h0
    clear h0
    go_wp2_with fail
    have la := obj_lt hba_1
    have hl := hfw_1.size
    go_ret
    refine ⟨?_, ?_⟩
    · rw [HR.out] <;> rfl
    · skip
      repeat (first | with_reducible exact hfw_1 | with_reducible refine Fr.alloc ?_ _ | (with_reducible refine Fr.setCell ?_ ?_ _; rotate_left; (intro h; dsimp only at h; omega)) | with_reducible refine Fr.drew ?_ | exact hfw_1)

set_option maxRecDepth 100000 in
set_option maxHeartbeats 4000000 in
theorem rtruth_any (a : V) (w : World) :
    Calls Try.prog 74 #[vV a] w fun e w' => e = .returned (.bool (areB 2 a)) ∧ Fr noB w w' := by
  unfold vV
  go_enter Try.func74, Try.ntmps74
  go_upto_region 1 with fail
  have hfw_0 := Fr.refl noB w
  have hl := hfw_0.size
  refine wp_world (fun W => Fr noB w W ∧ W.heap[w.heap.size]? = some (.cells #[.int .u8 a.k, .int .i64 a.n, .int .i64 a.hi, .string a.t] 23 (0, 0))) ⟨?_, ?_⟩ ?_
  · skip
    repeat (first | with_reducible exact hfw_0 | with_reducible refine Fr.alloc ?_ _ | (with_reducible refine Fr.setCell ?_ ?_ _; rotate_left; (intro h; dsimp only at h; omega)) | with_reducible refine Fr.drew ?_ | exact hfw_0)
  · skip
    repeat (first | (with_reducible refine obj_alloc_at ?_; simp; done) | (with_reducible apply obj_put4; omega) | (with_reducible apply obj_put1; omega) | (with_reducible refine obj_setCell_other ?_ _ _ ?_; rotate_left; (dsimp only; omega)) | with_reducible refine obj_alloc ?_ _ | with_reducible refine obj_drew ?_)
  clear hl hfw_0
  rintro w1 ⟨hfw_1, hba_1⟩
  obtain ⟨ca_0, ca_1, ca_2, ca_3⟩ := v_cells (v := a) hba_1
  have za := frozen_of_obj hba_1
  by_cases h0 : a.k = 2
  · have HR := Lib.hid (show areB 2 a = true by simp [areB, h0])
    rw [h0] at ca_0
    clear h0
    go_wp2_with fail
    have la := obj_lt hba_1
    have hl := hfw_1.size
    go_ret
    refine ⟨?_, ?_⟩
    · rw [HR.out] <;> rfl
    · skip
      repeat (first | with_reducible exact hfw_1 | with_reducible refine Fr.alloc ?_ _ | (with_reducible refine Fr.setCell ?_ ?_ _; rotate_left; (intro h; dsimp only at h; omega)) | with_reducible refine Fr.drew ?_ | exact hfw_1)
  · by_cases h1 : a.k = 0
    · have HR := Lib.hid (show areB 2 a = true by simp [areB, h1])
      rw [h1] at ca_0
      clear h0 h1
      go_wp2_with fail
      have la := obj_lt hba_1
      have hl := hfw_1.size
      go_ret
      refine ⟨?_, ?_⟩
      · rw [HR.out] <;> rfl
      · skip
        repeat (first | with_reducible exact hfw_1 | with_reducible refine Fr.alloc ?_ _ | (with_reducible refine Fr.setCell ?_ ?_ _; rotate_left; (intro h; dsimp only at h; omega)) | with_reducible refine Fr.drew ?_ | exact hfw_1)
    · have HR := Lib.hid (show areB 2 a = false by simp [areB, h0, h1])
      have b0 : (a.k == 2) = false := by rw [beq_eq_false_iff_ne]; exact h0
      have b1 : (a.k == 0) = false := by rw [beq_eq_false_iff_ne]; exact h1
      clear h0 h1
      go_wp2_with fail
      have la := obj_lt hba_1
      have hl := hfw_1.size
      go_ret
      refine ⟨?_, ?_⟩
      · rw [HR.out] <;> rfl
      · skip
        repeat (first | with_reducible exact hfw_1 | with_reducible refine Fr.alloc ?_ _ | (with_reducible refine Fr.setCell ?_ ?_ _; rotate_left; (intro h; dsimp only at h; omega)) | with_reducible refine Fr.drew ?_ | exact hfw_1)

set_option maxRecDepth 100000 in
set_option maxHeartbeats 4000000 in
theorem rnumber_any (a : V) (w : World) :
    Calls Try.prog 90 #[vV a] w fun e w' => e = .returned (.bool (areB 1 a)) ∧ Fr noB w w' := by
  unfold vV
  go_enter Try.func90, Try.ntmps90
  go_upto_region 1 with fail
  have hfw_0 := Fr.refl noB w
  have hl := hfw_0.size
  refine wp_world (fun W => Fr noB w W ∧ W.heap[w.heap.size]? = some (.cells #[.int .u8 a.k, .int .i64 a.n, .int .i64 a.hi, .string a.t] 23 (0, 0))) ⟨?_, ?_⟩ ?_
  · skip
    repeat (first | with_reducible exact hfw_0 | with_reducible refine Fr.alloc ?_ _ | (with_reducible refine Fr.setCell ?_ ?_ _; rotate_left; (intro h; dsimp only at h; omega)) | with_reducible refine Fr.drew ?_ | exact hfw_0)
  · skip
    repeat (first | (with_reducible refine obj_alloc_at ?_; simp; done) | (with_reducible apply obj_put4; omega) | (with_reducible apply obj_put1; omega) | (with_reducible refine obj_setCell_other ?_ _ _ ?_; rotate_left; (dsimp only; omega)) | with_reducible refine obj_alloc ?_ _ | with_reducible refine obj_drew ?_)
  clear hl hfw_0
  rintro w1 ⟨hfw_1, hba_1⟩
  obtain ⟨ca_0, ca_1, ca_2, ca_3⟩ := v_cells (v := a) hba_1
  have za := frozen_of_obj hba_1
  by_cases h0 : a.k = 1
  · have HR := Lib.hid (show areB 1 a = true by simp [areB, h0])
    rw [h0] at ca_0
    clear h0
    go_wp2_with fail
    have la := obj_lt hba_1
    have hl := hfw_1.size
    go_ret
    refine ⟨?_, ?_⟩
    · rw [HR.out] <;> rfl
    · skip
      repeat (first | with_reducible exact hfw_1 | with_reducible refine Fr.alloc ?_ _ | (with_reducible refine Fr.setCell ?_ ?_ _; rotate_left; (intro h; dsimp only at h; omega)) | with_reducible refine Fr.drew ?_ | exact hfw_1)
  · by_cases h1 : a.k = 0
    · have HR := Lib.hid (show areB 1 a = true by simp [areB, h1])
      rw [h1] at ca_0
      clear h0 h1
      go_wp2_with fail
      have la := obj_lt hba_1
      have hl := hfw_1.size
      go_ret
      refine ⟨?_, ?_⟩
      · rw [HR.out] <;> rfl
      · skip
        repeat (first | with_reducible exact hfw_1 | with_reducible refine Fr.alloc ?_ _ | (with_reducible refine Fr.setCell ?_ ?_ _; rotate_left; (intro h; dsimp only at h; omega)) | with_reducible refine Fr.drew ?_ | exact hfw_1)
    · have HR := Lib.hid (show areB 1 a = false by simp [areB, h0, h1])
      have b0 : (a.k == 1) = false := by rw [beq_eq_false_iff_ne]; exact h0
      have b1 : (a.k == 0) = false := by rw [beq_eq_false_iff_ne]; exact h1
      clear h0 h1
      go_wp2_with fail
      have la := obj_lt hba_1
      have hl := hfw_1.size
      go_ret
      refine ⟨?_, ?_⟩
      · rw [HR.out] <;> rfl
      · skip
        repeat (first | with_reducible exact hfw_1 | with_reducible refine Fr.alloc ?_ _ | (with_reducible refine Fr.setCell ?_ ?_ _; rotate_left; (intro h; dsimp only at h; omega)) | with_reducible refine Fr.drew ?_ | exact hfw_1)


end Go.Proofs.Ytcncjghcnofioaa
