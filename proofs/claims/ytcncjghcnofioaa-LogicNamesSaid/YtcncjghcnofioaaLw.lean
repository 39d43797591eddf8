/- The walks of the statements' own helpers. The condition: numbers are of 64 bits. -/
import Derived.Test.YtcncjghcnofioaaOrd
import Derived.Test.YtcncjghcnofioaaWk
namespace Go.Proofs.Ytcncjghcnofioaa
open Go.RowKit

def litV (k n h : Int) : V := ⟨k, n, h, ⟨#[]⟩⟩
def noV : V := ⟨2, 0, 0, ⟨#[]⟩⟩
def yesV : V := ⟨2, 1, 0, ⟨#[]⟩⟩

set_option maxRecDepth 100000 in
set_option maxHeartbeats 4000000 in
theorem two_add (a b : V) (ha : -9223372036854775808 ≤ a.n ∧ a.n ≤ 9223372036854775807) (hb : -9223372036854775808 ≤ b.n ∧ b.n ≤ 9223372036854775807) (w : World) :
    Calls Try.prog 20 #[.func (.func 21) #[] #[], vV a, vV b] w fun e w' => e = .returned (.tuple #[vV (numV a b (wrap64 (a.n + b.n)) (okI (a.n + b.n))).1, .bool ((numV a b (wrap64 (a.n + b.n)) (okI (a.n + b.n))).2 == 0)]) ∧ Fr noB w w' := by
  have HC := add_any a b ha hb
  generalize numV a b (wrap64 (a.n + b.n)) (okI (a.n + b.n)) = r at *
  unfold vV at HC ⊢
  have HC := Lib.hid HC
  clear ha hb
  go_enter Try.func20, Try.ntmps20
  go_upto_region 1 with fail
  have hfw_0 := Fr.refl noB w
  have hl := hfw_0.size
  refine wp_world (fun W => Fr noB w W ∧ W.heap[w.heap.size]? = some (.cells #[.int .u8 a.k, .int .i64 a.n, .int .i64 a.hi, .string a.t] 23 (0, 0)) ∧ W.heap[w.heap.size + 1]? = some (.cells #[.int .u8 b.k, .int .i64 b.n, .int .i64 b.hi, .string b.t] 23 (0, 0)) ∧ W.heap[w.heap.size + 2]? = some (.cells #[.int .u8 0, .int .i64 0, .int .i64 0, .string ⟨#[]⟩] 23 (0, 0))) ⟨?_, ?_, ?_, ?_⟩ ?_
  · skip
    repeat (first | with_reducible exact hfw_0 | with_reducible refine Fr.alloc ?_ _ | (with_reducible refine Fr.setCell ?_ ?_ _; rotate_left; (intro h; dsimp only at h; omega)) | with_reducible refine Fr.drew ?_ | exact hfw_0)
  · skip
    repeat (first | (with_reducible refine obj_alloc_at ?_; simp; done) | (with_reducible apply obj_put4; omega) | (with_reducible apply obj_put1; omega) | (with_reducible refine obj_setCell_other ?_ _ _ ?_; rotate_left; (dsimp only; omega)) | with_reducible refine obj_alloc ?_ _ | with_reducible refine obj_drew ?_)
  · skip
    repeat (first | (with_reducible refine obj_alloc_at ?_; simp; done) | (with_reducible apply obj_put4; omega) | (with_reducible apply obj_put1; omega) | (with_reducible refine obj_setCell_other ?_ _ _ ?_; rotate_left; (dsimp only; omega)) | with_reducible refine obj_alloc ?_ _ | with_reducible refine obj_drew ?_)
  · skip
    repeat (first | (with_reducible refine obj_alloc_at ?_; simp; done) | (with_reducible apply obj_put4; omega) | (with_reducible apply obj_put1; omega) | (with_reducible refine obj_setCell_other ?_ _ _ ?_; rotate_left; (dsimp only; omega)) | with_reducible refine obj_alloc ?_ _ | with_reducible refine obj_drew ?_)
  clear hl hfw_0
  rintro w1 ⟨hfw_1, hba_1, hbb_1, hbr_1⟩
  obtain ⟨ca_0, ca_1, ca_2, ca_3⟩ := v_cells (v := a) hba_1
  have za := frozen_of_obj hba_1
  obtain ⟨cb_0, cb_1, cb_2, cb_3⟩ := v_cells (v := b) hbb_1
  have zb := frozen_of_obj hbb_1
  obtain ⟨cr_0, cr_1, cr_2, cr_3⟩ := v_cells (v := zV) hbr_1
  dsimp only [zV] at cr_0 cr_1 cr_2 cr_3
  have zr := frozen_of_obj hbr_1
  go_wp2_with fail
  refine (HC.out _).mono ?_
  rintro e w2 ⟨rfl, hf2⟩
  have la := obj_lt hba_1
  have lb := obj_lt hbb_1
  have lr := obj_lt hbr_1
  have hl := hfw_1.size
  have hba_2 : w2.heap[w.heap.size]? = some (.cells #[.int .u8 a.k, .int .i64 a.n, .int .i64 a.hi, .string a.t] 23 (0, 0)) := by
    refine hf2.obj (fun x => x) ?_
    repeat (first | with_reducible exact hba_1 | (with_reducible refine obj_alloc_at ?_; simp; done) | (with_reducible apply obj_put4; omega) | (with_reducible apply obj_put1; omega) | (with_reducible refine obj_setCell_other ?_ _ _ ?_; rotate_left; (dsimp only; omega)) | with_reducible refine obj_alloc ?_ _ | with_reducible refine obj_drew ?_ | exact hba_1)
  have hbb_2 : w2.heap[w.heap.size + 1]? = some (.cells #[.int .u8 b.k, .int .i64 b.n, .int .i64 b.hi, .string b.t] 23 (0, 0)) := by
    refine hf2.obj (fun x => x) ?_
    repeat (first | with_reducible exact hbb_1 | (with_reducible refine obj_alloc_at ?_; simp; done) | (with_reducible apply obj_put4; omega) | (with_reducible apply obj_put1; omega) | (with_reducible refine obj_setCell_other ?_ _ _ ?_; rotate_left; (dsimp only; omega)) | with_reducible refine obj_alloc ?_ _ | with_reducible refine obj_drew ?_ | exact hbb_1)
  have hbr_2 : w2.heap[w.heap.size + 2]? = some (.cells #[.int .u8 0, .int .i64 0, .int .i64 0, .string ⟨#[]⟩] 23 (0, 0)) := by
    refine hf2.obj (fun x => x) ?_
    repeat (first | with_reducible exact hbr_1 | (with_reducible refine obj_alloc_at ?_; simp; done) | (with_reducible apply obj_put4; omega) | (with_reducible apply obj_put1; omega) | (with_reducible refine obj_setCell_other ?_ _ _ ?_; rotate_left; (dsimp only; omega)) | with_reducible refine obj_alloc ?_ _ | with_reducible refine obj_drew ?_ | exact hbr_1)
  have hfw_2 : Fr noB w w2 := by
    refine Fr.transN ?_ hf2
    repeat (first | with_reducible exact hfw_1 | with_reducible refine Fr.alloc ?_ _ | (with_reducible refine Fr.setCell ?_ ?_ _; rotate_left; (intro h; dsimp only at h; omega)) | with_reducible refine Fr.drew ?_ | exact hfw_1)
  clear hba_1 hbb_1 hbr_1 la lb lr hl ca_0 ca_1 ca_2 ca_3 za cb_0 cb_1 cb_2 cb_3 zb cr_0 cr_1 cr_2 cr_3 zr hf2 hfw_1
  obtain ⟨ca_0, ca_1, ca_2, ca_3⟩ := v_cells (v := a) hba_2
  have za := frozen_of_obj hba_2
  obtain ⟨cb_0, cb_1, cb_2, cb_3⟩ := v_cells (v := b) hbb_2
  have zb := frozen_of_obj hbb_2
  obtain ⟨cr_0, cr_1, cr_2, cr_3⟩ := v_cells (v := zV) hbr_2
  dsimp only [zV] at cr_0 cr_1 cr_2 cr_3
  have zr := frozen_of_obj hbr_2
  go_upto_region 2 with fail
  have la := obj_lt hba_2
  have lb := obj_lt hbb_2
  have lr := obj_lt hbr_2
  have hl := hfw_2.size
  refine wp_world (fun W => Fr noB w W ∧ W.heap[w.heap.size]? = some (.cells #[.int .u8 a.k, .int .i64 a.n, .int .i64 a.hi, .string a.t] 23 (0, 0)) ∧ W.heap[w.heap.size + 1]? = some (.cells #[.int .u8 b.k, .int .i64 b.n, .int .i64 b.hi, .string b.t] 23 (0, 0)) ∧ W.heap[w.heap.size + 2]? = some (.cells #[.int .u8 0, .int .i64 0, .int .i64 0, .string ⟨#[]⟩] 23 (0, 0)) ∧ W.heap[w2.heap.size]? = some (.cells #[.int .u8 r.1.k, .int .i64 r.1.n, .int .i64 r.1.hi, .string r.1.t] 23 (0, 0))) ⟨?_, ?_, ?_, ?_, ?_⟩ ?_
  · skip
    repeat (first | with_reducible exact hfw_2 | with_reducible refine Fr.alloc ?_ _ | (with_reducible refine Fr.setCell ?_ ?_ _; rotate_left; (intro h; dsimp only at h; omega)) | with_reducible refine Fr.drew ?_ | exact hfw_2)
  · skip
    repeat (first | with_reducible exact hba_2 | (with_reducible refine obj_alloc_at ?_; simp; done) | (with_reducible apply obj_put4; omega) | (with_reducible apply obj_put1; omega) | (with_reducible refine obj_setCell_other ?_ _ _ ?_; rotate_left; (dsimp only; omega)) | with_reducible refine obj_alloc ?_ _ | with_reducible refine obj_drew ?_ | exact hba_2)
  · skip
    repeat (first | with_reducible exact hbb_2 | (with_reducible refine obj_alloc_at ?_; simp; done) | (with_reducible apply obj_put4; omega) | (with_reducible apply obj_put1; omega) | (with_reducible refine obj_setCell_other ?_ _ _ ?_; rotate_left; (dsimp only; omega)) | with_reducible refine obj_alloc ?_ _ | with_reducible refine obj_drew ?_ | exact hbb_2)
  · skip
    repeat (first | with_reducible exact hbr_2 | (with_reducible refine obj_alloc_at ?_; simp; done) | (with_reducible apply obj_put4; omega) | (with_reducible apply obj_put1; omega) | (with_reducible refine obj_setCell_other ?_ _ _ ?_; rotate_left; (dsimp only; omega)) | with_reducible refine obj_alloc ?_ _ | with_reducible refine obj_drew ?_ | exact hbr_2)
  · skip
    repeat (first | (with_reducible refine obj_alloc_at ?_; simp; done) | (with_reducible apply obj_put4; omega) | (with_reducible apply obj_put1; omega) | (with_reducible refine obj_setCell_other ?_ _ _ ?_; rotate_left; (dsimp only; omega)) | with_reducible refine obj_alloc ?_ _ | with_reducible refine obj_drew ?_)
  clear hba_2 hbb_2 hbr_2 la lb lr hl ca_0 ca_1 ca_2 ca_3 za cb_0 cb_1 cb_2 cb_3 zb cr_0 cr_1 cr_2 cr_3 zr hfw_2
  rintro w3 ⟨hfw_3, hba_3, hbb_3, hbr_3, hbv_3⟩
  obtain ⟨ca_0, ca_1, ca_2, ca_3⟩ := v_cells (v := a) hba_3
  have za := frozen_of_obj hba_3
  obtain ⟨cb_0, cb_1, cb_2, cb_3⟩ := v_cells (v := b) hbb_3
  have zb := frozen_of_obj hbb_3
  obtain ⟨cr_0, cr_1, cr_2, cr_3⟩ := v_cells (v := zV) hbr_3
  dsimp only [zV] at cr_0 cr_1 cr_2 cr_3
  have zr := frozen_of_obj hbr_3
  obtain ⟨cv_0, cv_1, cv_2, cv_3⟩ := v_cells (v := r.1) hbv_3
  have zv := frozen_of_obj hbv_3
  go_wp2_with fail
  have la := obj_lt hba_3
  have lb := obj_lt hbb_3
  have lr := obj_lt hbr_3
  have lv := obj_lt hbv_3
  have hl := hfw_3.size
  refine bodyPost_ret (ret_val2 rfl _ _ (w.heap.size + 2) r.1 _ rfl rfl ?_) rfl ⟨?_, ?_⟩
  · show _ = some (Obj.cells #[.int .u8 r.1.k, .int .i64 r.1.n, .int .i64 r.1.hi, .string r.1.t] 23 (0, 0))
    repeat (first | with_reducible exact hbr_3 | (with_reducible refine obj_alloc_at ?_; simp; done) | (with_reducible apply obj_put4; omega) | (with_reducible apply obj_put1; omega) | (with_reducible refine obj_setCell_other ?_ _ _ ?_; rotate_left; (dsimp only; omega)) | with_reducible refine obj_alloc ?_ _ | with_reducible refine obj_drew ?_ | exact hbr_3)
  · rfl
  · skip
    repeat (first | with_reducible exact hfw_3 | with_reducible refine Fr.alloc ?_ _ | (with_reducible refine Fr.setCell ?_ ?_ _; rotate_left; (intro h; dsimp only at h; omega)) | with_reducible refine Fr.drew ?_ | exact hfw_3)

set_option maxRecDepth 100000 in
set_option maxHeartbeats 4000000 in
theorem two_sub (a b : V) (ha : -9223372036854775808 ≤ a.n ∧ a.n ≤ 9223372036854775807) (hb : -9223372036854775808 ≤ b.n ∧ b.n ≤ 9223372036854775807) (w : World) :
    Calls Try.prog 20 #[.func (.func 22) #[] #[], vV a, vV b] w fun e w' => e = .returned (.tuple #[vV (numV a b (wrap64 (a.n - b.n)) (okI (a.n - b.n))).1, .bool ((numV a b (wrap64 (a.n - b.n)) (okI (a.n - b.n))).2 == 0)]) ∧ Fr noB w w' := by
  have HC := sub_any a b ha hb
  generalize numV a b (wrap64 (a.n - b.n)) (okI (a.n - b.n)) = r at *
  unfold vV at HC ⊢
  have HC := Lib.hid HC
  clear ha hb
  go_enter Try.func20, Try.ntmps20
  go_upto_region 1 with fail
  have hfw_0 := Fr.refl noB w
  have hl := hfw_0.size
  refine wp_world (fun W => Fr noB w W ∧ W.heap[w.heap.size]? = some (.cells #[.int .u8 a.k, .int .i64 a.n, .int .i64 a.hi, .string a.t] 23 (0, 0)) ∧ W.heap[w.heap.size + 1]? = some (.cells #[.int .u8 b.k, .int .i64 b.n, .int .i64 b.hi, .string b.t] 23 (0, 0)) ∧ W.heap[w.heap.size + 2]? = some (.cells #[.int .u8 0, .int .i64 0, .int .i64 0, .string ⟨#[]⟩] 23 (0, 0))) ⟨?_, ?_, ?_, ?_⟩ ?_
  · skip
    repeat (first | with_reducible exact hfw_0 | with_reducible refine Fr.alloc ?_ _ | (with_reducible refine Fr.setCell ?_ ?_ _; rotate_left; (intro h; dsimp only at h; omega)) | with_reducible refine Fr.drew ?_ | exact hfw_0)
  · skip
    repeat (first | (with_reducible refine obj_alloc_at ?_; simp; done) | (with_reducible apply obj_put4; omega) | (with_reducible apply obj_put1; omega) | (with_reducible refine obj_setCell_other ?_ _ _ ?_; rotate_left; (dsimp only; omega)) | with_reducible refine obj_alloc ?_ _ | with_reducible refine obj_drew ?_)
  · skip
    repeat (first | (with_reducible refine obj_alloc_at ?_; simp; done) | (with_reducible apply obj_put4; omega) | (with_reducible apply obj_put1; omega) | (with_reducible refine obj_setCell_other ?_ _ _ ?_; rotate_left; (dsimp only; omega)) | with_reducible refine obj_alloc ?_ _ | with_reducible refine obj_drew ?_)
  · skip
    repeat (first | (with_reducible refine obj_alloc_at ?_; simp; done) | (with_reducible apply obj_put4; omega) | (with_reducible apply obj_put1; omega) | (with_reducible refine obj_setCell_other ?_ _ _ ?_; rotate_left; (dsimp only; omega)) | with_reducible refine obj_alloc ?_ _ | with_reducible refine obj_drew ?_)
  clear hl hfw_0
  rintro w1 ⟨hfw_1, hba_1, hbb_1, hbr_1⟩
  obtain ⟨ca_0, ca_1, ca_2, ca_3⟩ := v_cells (v := a) hba_1
  have za := frozen_of_obj hba_1
  obtain ⟨cb_0, cb_1, cb_2, cb_3⟩ := v_cells (v := b) hbb_1
  have zb := frozen_of_obj hbb_1
  obtain ⟨cr_0, cr_1, cr_2, cr_3⟩ := v_cells (v := zV) hbr_1
  dsimp only [zV] at cr_0 cr_1 cr_2 cr_3
  have zr := frozen_of_obj hbr_1
  go_wp2_with fail
  refine (HC.out _).mono ?_
  rintro e w2 ⟨rfl, hf2⟩
  have la := obj_lt hba_1
  have lb := obj_lt hbb_1
  have lr := obj_lt hbr_1
  have hl := hfw_1.size
  have hba_2 : w2.heap[w.heap.size]? = some (.cells #[.int .u8 a.k, .int .i64 a.n, .int .i64 a.hi, .string a.t] 23 (0, 0)) := by
    refine hf2.obj (fun x => x) ?_
    repeat (first | with_reducible exact hba_1 | (with_reducible refine obj_alloc_at ?_; simp; done) | (with_reducible apply obj_put4; omega) | (with_reducible apply obj_put1; omega) | (with_reducible refine obj_setCell_other ?_ _ _ ?_; rotate_left; (dsimp only; omega)) | with_reducible refine obj_alloc ?_ _ | with_reducible refine obj_drew ?_ | exact hba_1)
  have hbb_2 : w2.heap[w.heap.size + 1]? = some (.cells #[.int .u8 b.k, .int .i64 b.n, .int .i64 b.hi, .string b.t] 23 (0, 0)) := by
    refine hf2.obj (fun x => x) ?_
    repeat (first | with_reducible exact hbb_1 | (with_reducible refine obj_alloc_at ?_; simp; done) | (with_reducible apply obj_put4; omega) | (with_reducible apply obj_put1; omega) | (with_reducible refine obj_setCell_other ?_ _ _ ?_; rotate_left; (dsimp only; omega)) | with_reducible refine obj_alloc ?_ _ | with_reducible refine obj_drew ?_ | exact hbb_1)
  have hbr_2 : w2.heap[w.heap.size + 2]? = some (.cells #[.int .u8 0, .int .i64 0, .int .i64 0, .string ⟨#[]⟩] 23 (0, 0)) := by
    refine hf2.obj (fun x => x) ?_
    repeat (first | with_reducible exact hbr_1 | (with_reducible refine obj_alloc_at ?_; simp; done) | (with_reducible apply obj_put4; omega) | (with_reducible apply obj_put1; omega) | (with_reducible refine obj_setCell_other ?_ _ _ ?_; rotate_left; (dsimp only; omega)) | with_reducible refine obj_alloc ?_ _ | with_reducible refine obj_drew ?_ | exact hbr_1)
  have hfw_2 : Fr noB w w2 := by
    refine Fr.transN ?_ hf2
    repeat (first | with_reducible exact hfw_1 | with_reducible refine Fr.alloc ?_ _ | (with_reducible refine Fr.setCell ?_ ?_ _; rotate_left; (intro h; dsimp only at h; omega)) | with_reducible refine Fr.drew ?_ | exact hfw_1)
  clear hba_1 hbb_1 hbr_1 la lb lr hl ca_0 ca_1 ca_2 ca_3 za cb_0 cb_1 cb_2 cb_3 zb cr_0 cr_1 cr_2 cr_3 zr hf2 hfw_1
  obtain ⟨ca_0, ca_1, ca_2, ca_3⟩ := v_cells (v := a) hba_2
  have za := frozen_of_obj hba_2
  obtain ⟨cb_0, cb_1, cb_2, cb_3⟩ := v_cells (v := b) hbb_2
  have zb := frozen_of_obj hbb_2
  obtain ⟨cr_0, cr_1, cr_2, cr_3⟩ := v_cells (v := zV) hbr_2
  dsimp only [zV] at cr_0 cr_1 cr_2 cr_3
  have zr := frozen_of_obj hbr_2
  go_upto_region 2 with fail
  have la := obj_lt hba_2
  have lb := obj_lt hbb_2
  have lr := obj_lt hbr_2
  have hl := hfw_2.size
  refine wp_world (fun W => Fr noB w W ∧ W.heap[w.heap.size]? = some (.cells #[.int .u8 a.k, .int .i64 a.n, .int .i64 a.hi, .string a.t] 23 (0, 0)) ∧ W.heap[w.heap.size + 1]? = some (.cells #[.int .u8 b.k, .int .i64 b.n, .int .i64 b.hi, .string b.t] 23 (0, 0)) ∧ W.heap[w.heap.size + 2]? = some (.cells #[.int .u8 0, .int .i64 0, .int .i64 0, .string ⟨#[]⟩] 23 (0, 0)) ∧ W.heap[w2.heap.size]? = some (.cells #[.int .u8 r.1.k, .int .i64 r.1.n, .int .i64 r.1.hi, .string r.1.t] 23 (0, 0))) ⟨?_, ?_, ?_, ?_, ?_⟩ ?_
  · skip
    repeat (first | with_reducible exact hfw_2 | with_reducible refine Fr.alloc ?_ _ | (with_reducible refine Fr.setCell ?_ ?_ _; rotate_left; (intro h; dsimp only at h; omega)) | with_reducible refine Fr.drew ?_ | exact hfw_2)
  · skip
    repeat (first | with_reducible exact hba_2 | (with_reducible refine obj_alloc_at ?_; simp; done) | (with_reducible apply obj_put4; omega) | (with_reducible apply obj_put1; omega) | (with_reducible refine obj_setCell_other ?_ _ _ ?_; rotate_left; (dsimp only; omega)) | with_reducible refine obj_alloc ?_ _ | with_reducible refine obj_drew ?_ | exact hba_2)
  · skip
    repeat (first | with_reducible exact hbb_2 | (with_reducible refine obj_alloc_at ?_; simp; done) | (with_reducible apply obj_put4; omega) | (with_reducible apply obj_put1; omega) | (with_reducible refine obj_setCell_other ?_ _ _ ?_; rotate_left; (dsimp only; omega)) | with_reducible refine obj_alloc ?_ _ | with_reducible refine obj_drew ?_ | exact hbb_2)
  · skip
    repeat (first | with_reducible exact hbr_2 | (with_reducible refine obj_alloc_at ?_; simp; done) | (with_reducible apply obj_put4; omega) | (with_reducible apply obj_put1; omega) | (with_reducible refine obj_setCell_other ?_ _ _ ?_; rotate_left; (dsimp only; omega)) | with_reducible refine obj_alloc ?_ _ | with_reducible refine obj_drew ?_ | exact hbr_2)
  · skip
    repeat (first | (with_reducible refine obj_alloc_at ?_; simp; done) | (with_reducible apply obj_put4; omega) | (with_reducible apply obj_put1; omega) | (with_reducible refine obj_setCell_other ?_ _ _ ?_; rotate_left; (dsimp only; omega)) | with_reducible refine obj_alloc ?_ _ | with_reducible refine obj_drew ?_)
  clear hba_2 hbb_2 hbr_2 la lb lr hl ca_0 ca_1 ca_2 ca_3 za cb_0 cb_1 cb_2 cb_3 zb cr_0 cr_1 cr_2 cr_3 zr hfw_2
  rintro w3 ⟨hfw_3, hba_3, hbb_3, hbr_3, hbv_3⟩
  obtain ⟨ca_0, ca_1, ca_2, ca_3⟩ := v_cells (v := a) hba_3
  have za := frozen_of_obj hba_3
  obtain ⟨cb_0, cb_1, cb_2, cb_3⟩ := v_cells (v := b) hbb_3
  have zb := frozen_of_obj hbb_3
  obtain ⟨cr_0, cr_1, cr_2, cr_3⟩ := v_cells (v := zV) hbr_3
  dsimp only [zV] at cr_0 cr_1 cr_2 cr_3
  have zr := frozen_of_obj hbr_3
  obtain ⟨cv_0, cv_1, cv_2, cv_3⟩ := v_cells (v := r.1) hbv_3
  have zv := frozen_of_obj hbv_3
  go_wp2_with fail
  have la := obj_lt hba_3
  have lb := obj_lt hbb_3
  have lr := obj_lt hbr_3
  have lv := obj_lt hbv_3
  have hl := hfw_3.size
  refine bodyPost_ret (ret_val2 rfl _ _ (w.heap.size + 2) r.1 _ rfl rfl ?_) rfl ⟨?_, ?_⟩
  · show _ = some (Obj.cells #[.int .u8 r.1.k, .int .i64 r.1.n, .int .i64 r.1.hi, .string r.1.t] 23 (0, 0))
    repeat (first | with_reducible exact hbr_3 | (with_reducible refine obj_alloc_at ?_; simp; done) | (with_reducible apply obj_put4; omega) | (with_reducible apply obj_put1; omega) | (with_reducible refine obj_setCell_other ?_ _ _ ?_; rotate_left; (dsimp only; omega)) | with_reducible refine obj_alloc ?_ _ | with_reducible refine obj_drew ?_ | exact hbr_3)
  · rfl
  · skip
    repeat (first | with_reducible exact hfw_3 | with_reducible refine Fr.alloc ?_ _ | (with_reducible refine Fr.setCell ?_ ?_ _; rotate_left; (intro h; dsimp only at h; omega)) | with_reducible refine Fr.drew ?_ | exact hfw_3)

set_option maxRecDepth 100000 in
set_option maxHeartbeats 4000000 in
theorem two_mul (a b : V) (ha : -9223372036854775808 ≤ a.n ∧ a.n ≤ 9223372036854775807) (hb : -9223372036854775808 ≤ b.n ∧ b.n ≤ 9223372036854775807) (w : World) :
    Calls Try.prog 20 #[.func (.func 23) #[] #[], vV a, vV b] w fun e w' => e = .returned (.tuple #[vV (numV a b (wrap64 (a.n * b.n)) (okI (a.n * b.n))).1, .bool ((numV a b (wrap64 (a.n * b.n)) (okI (a.n * b.n))).2 == 0)]) ∧ Fr noB w w' := by
  have HC := mul_any a b ha hb
  generalize numV a b (wrap64 (a.n * b.n)) (okI (a.n * b.n)) = r at *
  unfold vV at HC ⊢
  have HC := Lib.hid HC
  clear ha hb
  go_enter Try.func20, Try.ntmps20
  go_upto_region 1 with fail
  have hfw_0 := Fr.refl noB w
  have hl := hfw_0.size
  refine wp_world (fun W => Fr noB w W ∧ W.heap[w.heap.size]? = some (.cells #[.int .u8 a.k, .int .i64 a.n, .int .i64 a.hi, .string a.t] 23 (0, 0)) ∧ W.heap[w.heap.size + 1]? = some (.cells #[.int .u8 b.k, .int .i64 b.n, .int .i64 b.hi, .string b.t] 23 (0, 0)) ∧ W.heap[w.heap.size + 2]? = some (.cells #[.int .u8 0, .int .i64 0, .int .i64 0, .string ⟨#[]⟩] 23 (0, 0))) ⟨?_, ?_, ?_, ?_⟩ ?_
  · skip
    repeat (first | with_reducible exact hfw_0 | with_reducible refine Fr.alloc ?_ _ | (with_reducible refine Fr.setCell ?_ ?_ _; rotate_left; (intro h; dsimp only at h; omega)) | with_reducible refine Fr.drew ?_ | exact hfw_0)
  · skip
    repeat (first | (with_reducible refine obj_alloc_at ?_; simp; done) | (with_reducible apply obj_put4; omega) | (with_reducible apply obj_put1; omega) | (with_reducible refine obj_setCell_other ?_ _ _ ?_; rotate_left; (dsimp only; omega)) | with_reducible refine obj_alloc ?_ _ | with_reducible refine obj_drew ?_)
  · skip
    repeat (first | (with_reducible refine obj_alloc_at ?_; simp; done) | (with_reducible apply obj_put4; omega) | (with_reducible apply obj_put1; omega) | (with_reducible refine obj_setCell_other ?_ _ _ ?_; rotate_left; (dsimp only; omega)) | with_reducible refine obj_alloc ?_ _ | with_reducible refine obj_drew ?_)
  · skip
    repeat (first | (with_reducible refine obj_alloc_at ?_; simp; done) | (with_reducible apply obj_put4; omega) | (with_reducible apply obj_put1; omega) | (with_reducible refine obj_setCell_other ?_ _ _ ?_; rotate_left; (dsimp only; omega)) | with_reducible refine obj_alloc ?_ _ | with_reducible refine obj_drew ?_)
  clear hl hfw_0
  rintro w1 ⟨hfw_1, hba_1, hbb_1, hbr_1⟩
  obtain ⟨ca_0, ca_1, ca_2, ca_3⟩ := v_cells (v := a) hba_1
  have za := frozen_of_obj hba_1
  obtain ⟨cb_0, cb_1, cb_2, cb_3⟩ := v_cells (v := b) hbb_1
  have zb := frozen_of_obj hbb_1
  obtain ⟨cr_0, cr_1, cr_2, cr_3⟩ := v_cells (v := zV) hbr_1
  dsimp only [zV] at cr_0 cr_1 cr_2 cr_3
  have zr := frozen_of_obj hbr_1
  go_wp2_with fail
  refine (HC.out _).mono ?_
  rintro e w2 ⟨rfl, hf2⟩
  have la := obj_lt hba_1
  have lb := obj_lt hbb_1
  have lr := obj_lt hbr_1
  have hl := hfw_1.size
  have hba_2 : w2.heap[w.heap.size]? = some (.cells #[.int .u8 a.k, .int .i64 a.n, .int .i64 a.hi, .string a.t] 23 (0, 0)) := by
    refine hf2.obj (fun x => x) ?_
    repeat (first | with_reducible exact hba_1 | (with_reducible refine obj_alloc_at ?_; simp; done) | (with_reducible apply obj_put4; omega) | (with_reducible apply obj_put1; omega) | (with_reducible refine obj_setCell_other ?_ _ _ ?_; rotate_left; (dsimp only; omega)) | with_reducible refine obj_alloc ?_ _ | with_reducible refine obj_drew ?_ | exact hba_1)
  have hbb_2 : w2.heap[w.heap.size + 1]? = some (.cells #[.int .u8 b.k, .int .i64 b.n, .int .i64 b.hi, .string b.t] 23 (0, 0)) := by
    refine hf2.obj (fun x => x) ?_
    repeat (first | with_reducible exact hbb_1 | (with_reducible refine obj_alloc_at ?_; simp; done) | (with_reducible apply obj_put4; omega) | (with_reducible apply obj_put1; omega) | (with_reducible refine obj_setCell_other ?_ _ _ ?_; rotate_left; (dsimp only; omega)) | with_reducible refine obj_alloc ?_ _ | with_reducible refine obj_drew ?_ | exact hbb_1)
  have hbr_2 : w2.heap[w.heap.size + 2]? = some (.cells #[.int .u8 0, .int .i64 0, .int .i64 0, .string ⟨#[]⟩] 23 (0, 0)) := by
    refine hf2.obj (fun x => x) ?_
    repeat (first | with_reducible exact hbr_1 | (with_reducible refine obj_alloc_at ?_; simp; done) | (with_reducible apply obj_put4; omega) | (with_reducible apply obj_put1; omega) | (with_reducible refine obj_setCell_other ?_ _ _ ?_; rotate_left; (dsimp only; omega)) | with_reducible refine obj_alloc ?_ _ | with_reducible refine obj_drew ?_ | exact hbr_1)
  have hfw_2 : Fr noB w w2 := by
    refine Fr.transN ?_ hf2
    repeat (first | with_reducible exact hfw_1 | with_reducible refine Fr.alloc ?_ _ | (with_reducible refine Fr.setCell ?_ ?_ _; rotate_left; (intro h; dsimp only at h; omega)) | with_reducible refine Fr.drew ?_ | exact hfw_1)
  clear hba_1 hbb_1 hbr_1 la lb lr hl ca_0 ca_1 ca_2 ca_3 za cb_0 cb_1 cb_2 cb_3 zb cr_0 cr_1 cr_2 cr_3 zr hf2 hfw_1
  obtain ⟨ca_0, ca_1, ca_2, ca_3⟩ := v_cells (v := a) hba_2
  have za := frozen_of_obj hba_2
  obtain ⟨cb_0, cb_1, cb_2, cb_3⟩ := v_cells (v := b) hbb_2
  have zb := frozen_of_obj hbb_2
  obtain ⟨cr_0, cr_1, cr_2, cr_3⟩ := v_cells (v := zV) hbr_2
  dsimp only [zV] at cr_0 cr_1 cr_2 cr_3
  have zr := frozen_of_obj hbr_2
  go_upto_region 2 with fail
  have la := obj_lt hba_2
  have lb := obj_lt hbb_2
  have lr := obj_lt hbr_2
  have hl := hfw_2.size
  refine wp_world (fun W => Fr noB w W ∧ W.heap[w.heap.size]? = some (.cells #[.int .u8 a.k, .int .i64 a.n, .int .i64 a.hi, .string a.t] 23 (0, 0)) ∧ W.heap[w.heap.size + 1]? = some (.cells #[.int .u8 b.k, .int .i64 b.n, .int .i64 b.hi, .string b.t] 23 (0, 0)) ∧ W.heap[w.heap.size + 2]? = some (.cells #[.int .u8 0, .int .i64 0, .int .i64 0, .string ⟨#[]⟩] 23 (0, 0)) ∧ W.heap[w2.heap.size]? = some (.cells #[.int .u8 r.1.k, .int .i64 r.1.n, .int .i64 r.1.hi, .string r.1.t] 23 (0, 0))) ⟨?_, ?_, ?_, ?_, ?_⟩ ?_
  · skip
    repeat (first | with_reducible exact hfw_2 | with_reducible refine Fr.alloc ?_ _ | (with_reducible refine Fr.setCell ?_ ?_ _; rotate_left; (intro h; dsimp only at h; omega)) | with_reducible refine Fr.drew ?_ | exact hfw_2)
  · skip
    repeat (first | with_reducible exact hba_2 | (with_reducible refine obj_alloc_at ?_; simp; done) | (with_reducible apply obj_put4; omega) | (with_reducible apply obj_put1; omega) | (with_reducible refine obj_setCell_other ?_ _ _ ?_; rotate_left; (dsimp only; omega)) | with_reducible refine obj_alloc ?_ _ | with_reducible refine obj_drew ?_ | exact hba_2)
  · skip
    repeat (first | with_reducible exact hbb_2 | (with_reducible refine obj_alloc_at ?_; simp; done) | (with_reducible apply obj_put4; omega) | (with_reducible apply obj_put1; omega) | (with_reducible refine obj_setCell_other ?_ _ _ ?_; rotate_left; (dsimp only; omega)) | with_reducible refine obj_alloc ?_ _ | with_reducible refine obj_drew ?_ | exact hbb_2)
  · skip
    repeat (first | with_reducible exact hbr_2 | (with_reducible refine obj_alloc_at ?_; simp; done) | (with_reducible apply obj_put4; omega) | (with_reducible apply obj_put1; omega) | (with_reducible refine obj_setCell_other ?_ _ _ ?_; rotate_left; (dsimp only; omega)) | with_reducible refine obj_alloc ?_ _ | with_reducible refine obj_drew ?_ | exact hbr_2)
  · skip
    repeat (first | (with_reducible refine obj_alloc_at ?_; simp; done) | (with_reducible apply obj_put4; omega) | (with_reducible apply obj_put1; omega) | (with_reducible refine obj_setCell_other ?_ _ _ ?_; rotate_left; (dsimp only; omega)) | with_reducible refine obj_alloc ?_ _ | with_reducible refine obj_drew ?_)
  clear hba_2 hbb_2 hbr_2 la lb lr hl ca_0 ca_1 ca_2 ca_3 za cb_0 cb_1 cb_2 cb_3 zb cr_0 cr_1 cr_2 cr_3 zr hfw_2
  rintro w3 ⟨hfw_3, hba_3, hbb_3, hbr_3, hbv_3⟩
  obtain ⟨ca_0, ca_1, ca_2, ca_3⟩ := v_cells (v := a) hba_3
  have za := frozen_of_obj hba_3
  obtain ⟨cb_0, cb_1, cb_2, cb_3⟩ := v_cells (v := b) hbb_3
  have zb := frozen_of_obj hbb_3
  obtain ⟨cr_0, cr_1, cr_2, cr_3⟩ := v_cells (v := zV) hbr_3
  dsimp only [zV] at cr_0 cr_1 cr_2 cr_3
  have zr := frozen_of_obj hbr_3
  obtain ⟨cv_0, cv_1, cv_2, cv_3⟩ := v_cells (v := r.1) hbv_3
  have zv := frozen_of_obj hbv_3
  go_wp2_with fail
  have la := obj_lt hba_3
  have lb := obj_lt hbb_3
  have lr := obj_lt hbr_3
  have lv := obj_lt hbv_3
  have hl := hfw_3.size
  refine bodyPost_ret (ret_val2 rfl _ _ (w.heap.size + 2) r.1 _ rfl rfl ?_) rfl ⟨?_, ?_⟩
  · show _ = some (Obj.cells #[.int .u8 r.1.k, .int .i64 r.1.n, .int .i64 r.1.hi, .string r.1.t] 23 (0, 0))
    repeat (first | with_reducible exact hbr_3 | (with_reducible refine obj_alloc_at ?_; simp; done) | (with_reducible apply obj_put4; omega) | (with_reducible apply obj_put1; omega) | (with_reducible refine obj_setCell_other ?_ _ _ ?_; rotate_left; (dsimp only; omega)) | with_reducible refine obj_alloc ?_ _ | with_reducible refine obj_drew ?_ | exact hbr_3)
  · rfl
  · skip
    repeat (first | with_reducible exact hfw_3 | with_reducible refine Fr.alloc ?_ _ | (with_reducible refine Fr.setCell ?_ ?_ _; rotate_left; (intro h; dsimp only at h; omega)) | with_reducible refine Fr.drew ?_ | exact hfw_3)

def notF (a : V) : V := if ((notV a).2 != 0) = true then litV 99 0 0 else (notV a).1
set_option maxRecDepth 100000 in
set_option maxHeartbeats 4000000 in
theorem not1_any (a : V) (w : World) :
    Calls Try.prog 26 #[vV a] w fun e w' => e = .returned (vV (notF a)) ∧ Fr noB w w' := by
  have HC := not_any a
  have HF : notF a = if ((notV a).2 != 0) = true then litV 99 0 0 else (notV a).1 := rfl
  generalize notF a = rr at *
  generalize notV a = r at *
  unfold vV at HC ⊢
  have HC := Lib.hid HC
  go_enter Try.func26, Try.ntmps26
  go_upto_region 1 with fail
  have hfw_0 := Fr.refl noB w
  have hl := hfw_0.size
  refine wp_world (fun W => Fr noB w W ∧ W.heap[w.heap.size]? = some (.cells #[.int .u8 a.k, .int .i64 a.n, .int .i64 a.hi, .string a.t] 23 (0, 0)) ∧ W.heap[w.heap.size + 1]? = some (.cells #[.int .u8 0, .int .i64 0, .int .i64 0, .string ⟨#[]⟩] 23 (0, 0))) ⟨?_, ?_, ?_⟩ ?_
  · skip
    repeat (first | with_reducible exact hfw_0 | with_reducible refine Fr.alloc ?_ _ | (with_reducible refine Fr.setCell ?_ ?_ _; rotate_left; (intro h; dsimp only at h; omega)) | with_reducible refine Fr.drew ?_ | exact hfw_0)
  · skip
    repeat (first | (with_reducible refine obj_alloc_at ?_; simp; done) | (with_reducible apply obj_put4; omega) | (with_reducible apply obj_put1; omega) | (with_reducible refine obj_setCell_other ?_ _ _ ?_; rotate_left; (dsimp only; omega)) | with_reducible refine obj_alloc ?_ _ | with_reducible refine obj_drew ?_)
  · skip
    repeat (first | (with_reducible refine obj_alloc_at ?_; simp; done) | (with_reducible apply obj_put4; omega) | (with_reducible apply obj_put1; omega) | (with_reducible refine obj_setCell_other ?_ _ _ ?_; rotate_left; (dsimp only; omega)) | with_reducible refine obj_alloc ?_ _ | with_reducible refine obj_drew ?_)
  clear hl hfw_0
  rintro w1 ⟨hfw_1, hba_1, hbr_1⟩
  obtain ⟨ca_0, ca_1, ca_2, ca_3⟩ := v_cells (v := a) hba_1
  have za := frozen_of_obj hba_1
  obtain ⟨cr_0, cr_1, cr_2, cr_3⟩ := v_cells (v := zV) hbr_1
  dsimp only [zV] at cr_0 cr_1 cr_2 cr_3
  have zr := frozen_of_obj hbr_1
  go_wp2_with fail
  refine (HC.out _).mono ?_
  rintro e w2 ⟨rfl, hf2⟩
  have la := obj_lt hba_1
  have lr := obj_lt hbr_1
  have hl := hfw_1.size
  have hba_2 : w2.heap[w.heap.size]? = some (.cells #[.int .u8 a.k, .int .i64 a.n, .int .i64 a.hi, .string a.t] 23 (0, 0)) := by
    refine hf2.obj (fun x => x) ?_
    repeat (first | with_reducible exact hba_1 | (with_reducible refine obj_alloc_at ?_; simp; done) | (with_reducible apply obj_put4; omega) | (with_reducible apply obj_put1; omega) | (with_reducible refine obj_setCell_other ?_ _ _ ?_; rotate_left; (dsimp only; omega)) | with_reducible refine obj_alloc ?_ _ | with_reducible refine obj_drew ?_ | exact hba_1)
  have hbr_2 : w2.heap[w.heap.size + 1]? = some (.cells #[.int .u8 0, .int .i64 0, .int .i64 0, .string ⟨#[]⟩] 23 (0, 0)) := by
    refine hf2.obj (fun x => x) ?_
    repeat (first | with_reducible exact hbr_1 | (with_reducible refine obj_alloc_at ?_; simp; done) | (with_reducible apply obj_put4; omega) | (with_reducible apply obj_put1; omega) | (with_reducible refine obj_setCell_other ?_ _ _ ?_; rotate_left; (dsimp only; omega)) | with_reducible refine obj_alloc ?_ _ | with_reducible refine obj_drew ?_ | exact hbr_1)
  have hfw_2 : Fr noB w w2 := by
    refine Fr.transN ?_ hf2
    repeat (first | with_reducible exact hfw_1 | with_reducible refine Fr.alloc ?_ _ | (with_reducible refine Fr.setCell ?_ ?_ _; rotate_left; (intro h; dsimp only at h; omega)) | with_reducible refine Fr.drew ?_ | exact hfw_1)
  clear hba_1 hbr_1 la lr hl ca_0 ca_1 ca_2 ca_3 za cr_0 cr_1 cr_2 cr_3 zr hf2 hfw_1
  obtain ⟨ca_0, ca_1, ca_2, ca_3⟩ := v_cells (v := a) hba_2
  have za := frozen_of_obj hba_2
  obtain ⟨cr_0, cr_1, cr_2, cr_3⟩ := v_cells (v := zV) hbr_2
  dsimp only [zV] at cr_0 cr_1 cr_2 cr_3
  have zr := frozen_of_obj hbr_2
  go_upto_region 2 with fail
  have la := obj_lt hba_2
  have lr := obj_lt hbr_2
  have hl := hfw_2.size
  refine wp_world (fun W => Fr noB w W ∧ W.heap[w.heap.size]? = some (.cells #[.int .u8 a.k, .int .i64 a.n, .int .i64 a.hi, .string a.t] 23 (0, 0)) ∧ W.heap[w.heap.size + 1]? = some (.cells #[.int .u8 0, .int .i64 0, .int .i64 0, .string ⟨#[]⟩] 23 (0, 0)) ∧ W.heap[w2.heap.size]? = some (.cells #[.int .u8 r.1.k, .int .i64 r.1.n, .int .i64 r.1.hi, .string r.1.t] 23 (0, 0))) ⟨?_, ?_, ?_, ?_⟩ ?_
  · skip
    repeat (first | with_reducible exact hfw_2 | with_reducible refine Fr.alloc ?_ _ | (with_reducible refine Fr.setCell ?_ ?_ _; rotate_left; (intro h; dsimp only at h; omega)) | with_reducible refine Fr.drew ?_ | exact hfw_2)
  · skip
    repeat (first | with_reducible exact hba_2 | (with_reducible refine obj_alloc_at ?_; simp; done) | (with_reducible apply obj_put4; omega) | (with_reducible apply obj_put1; omega) | (with_reducible refine obj_setCell_other ?_ _ _ ?_; rotate_left; (dsimp only; omega)) | with_reducible refine obj_alloc ?_ _ | with_reducible refine obj_drew ?_ | exact hba_2)
  · skip
    repeat (first | with_reducible exact hbr_2 | (with_reducible refine obj_alloc_at ?_; simp; done) | (with_reducible apply obj_put4; omega) | (with_reducible apply obj_put1; omega) | (with_reducible refine obj_setCell_other ?_ _ _ ?_; rotate_left; (dsimp only; omega)) | with_reducible refine obj_alloc ?_ _ | with_reducible refine obj_drew ?_ | exact hbr_2)
  · skip
    repeat (first | (with_reducible refine obj_alloc_at ?_; simp; done) | (with_reducible apply obj_put4; omega) | (with_reducible apply obj_put1; omega) | (with_reducible refine obj_setCell_other ?_ _ _ ?_; rotate_left; (dsimp only; omega)) | with_reducible refine obj_alloc ?_ _ | with_reducible refine obj_drew ?_)
  clear hba_2 hbr_2 la lr hl ca_0 ca_1 ca_2 ca_3 za cr_0 cr_1 cr_2 cr_3 zr hfw_2
  rintro w3 ⟨hfw_3, hba_3, hbr_3, hbv_3⟩
  obtain ⟨ca_0, ca_1, ca_2, ca_3⟩ := v_cells (v := a) hba_3
  have za := frozen_of_obj hba_3
  obtain ⟨cr_0, cr_1, cr_2, cr_3⟩ := v_cells (v := zV) hbr_3
  dsimp only [zV] at cr_0 cr_1 cr_2 cr_3
  have zr := frozen_of_obj hbr_3
  obtain ⟨cv_0, cv_1, cv_2, cv_3⟩ := v_cells (v := r.1) hbv_3
  have zv := frozen_of_obj hbv_3
  cases hb : (r.2 != 0)
  · rw [hb, if_neg (by decide)] at HF
    subst HF
    go_wp2_with fail
    have la := obj_lt hba_3
    have lr := obj_lt hbr_3
    have lv := obj_lt hbv_3
    have hl := hfw_3.size
    refine bodyPost_ret (ret_val rfl _ _ (w.heap.size + 1) r.1 rfl ?_) rfl ⟨?_, ?_⟩
    · show _ = some (Obj.cells #[.int .u8 r.1.k, .int .i64 r.1.n, .int .i64 r.1.hi, .string r.1.t] 23 (0, 0))
      repeat (first | with_reducible exact hbr_3 | (with_reducible refine obj_alloc_at ?_; simp; done) | (with_reducible apply obj_put4; omega) | (with_reducible apply obj_put1; omega) | (with_reducible refine obj_setCell_other ?_ _ _ ?_; rotate_left; (dsimp only; omega)) | with_reducible refine obj_alloc ?_ _ | with_reducible refine obj_drew ?_ | exact hbr_3)
    · rfl
    · skip
      repeat (first | with_reducible exact hfw_3 | with_reducible refine Fr.alloc ?_ _ | (with_reducible refine Fr.setCell ?_ ?_ _; rotate_left; (intro h; dsimp only at h; omega)) | with_reducible refine Fr.drew ?_ | exact hfw_3)
  · rw [hb, if_pos rfl] at HF
    subst HF
    go_wp2_with fail
    have la := obj_lt hba_3
    have lr := obj_lt hbr_3
    have lv := obj_lt hbv_3
    have hl := hfw_3.size
    refine bodyPost_ret (ret_val rfl _ _ (w.heap.size + 1) (litV 99 0 0) rfl ?_) rfl ⟨?_, ?_⟩
    · show _ = some (Obj.cells #[.int .u8 99, .int .i64 0, .int .i64 0, .string ⟨#[]⟩] 23 (0, 0))
      repeat (first | with_reducible exact hbr_3 | (with_reducible refine obj_alloc_at ?_; simp; done) | (with_reducible apply obj_put4; omega) | (with_reducible apply obj_put1; omega) | (with_reducible refine obj_setCell_other ?_ _ _ ?_; rotate_left; (dsimp only; omega)) | with_reducible refine obj_alloc ?_ _ | with_reducible refine obj_drew ?_ | exact hbr_3)
    · rfl
    · skip
      repeat (first | with_reducible exact hfw_3 | with_reducible refine Fr.alloc ?_ _ | (with_reducible refine Fr.setCell ?_ ?_ _; rotate_left; (intro h; dsimp only at h; omega)) | with_reducible refine Fr.drew ?_ | exact hfw_3)

def andF (a b : V) : V := if ((joinV a b false).2 != 0) = true then litV 99 0 0 else (joinV a b false).1
set_option maxRecDepth 100000 in
set_option maxHeartbeats 4000000 in
theorem and1_any (a b : V) (w : World) :
    Calls Try.prog 28 #[vV a, vV b] w fun e w' => e = .returned (vV (andF a b)) ∧ Fr noB w w' := by
  have HC := and_any a b
  have HF : andF a b = if ((joinV a b false).2 != 0) = true then litV 99 0 0 else (joinV a b false).1 := rfl
  generalize andF a b = rr at *
  generalize joinV a b false = r at *
  unfold vV at HC ⊢
  have HC := Lib.hid HC
  go_enter Try.func28, Try.ntmps28
  go_upto_region 1 with fail
  have hfw_0 := Fr.refl noB w
  have hl := hfw_0.size
  refine wp_world (fun W => Fr noB w W ∧ W.heap[w.heap.size]? = some (.cells #[.int .u8 a.k, .int .i64 a.n, .int .i64 a.hi, .string a.t] 23 (0, 0)) ∧ W.heap[w.heap.size + 1]? = some (.cells #[.int .u8 b.k, .int .i64 b.n, .int .i64 b.hi, .string b.t] 23 (0, 0)) ∧ W.heap[w.heap.size + 2]? = some (.cells #[.int .u8 0, .int .i64 0, .int .i64 0, .string ⟨#[]⟩] 23 (0, 0))) ⟨?_, ?_, ?_, ?_⟩ ?_
  · skip
    repeat (first | with_reducible exact hfw_0 | with_reducible refine Fr.alloc ?_ _ | (with_reducible refine Fr.setCell ?_ ?_ _; rotate_left; (intro h; dsimp only at h; omega)) | with_reducible refine Fr.drew ?_ | exact hfw_0)
  · skip
    repeat (first | (with_reducible refine obj_alloc_at ?_; simp; done) | (with_reducible apply obj_put4; omega) | (with_reducible apply obj_put1; omega) | (with_reducible refine obj_setCell_other ?_ _ _ ?_; rotate_left; (dsimp only; omega)) | with_reducible refine obj_alloc ?_ _ | with_reducible refine obj_drew ?_)
  · skip
    repeat (first | (with_reducible refine obj_alloc_at ?_; simp; done) | (with_reducible apply obj_put4; omega) | (with_reducible apply obj_put1; omega) | (with_reducible refine obj_setCell_other ?_ _ _ ?_; rotate_left; (dsimp only; omega)) | with_reducible refine obj_alloc ?_ _ | with_reducible refine obj_drew ?_)
  · skip
    repeat (first | (with_reducible refine obj_alloc_at ?_; simp; done) | (with_reducible apply obj_put4; omega) | (with_reducible apply obj_put1; omega) | (with_reducible refine obj_setCell_other ?_ _ _ ?_; rotate_left; (dsimp only; omega)) | with_reducible refine obj_alloc ?_ _ | with_reducible refine obj_drew ?_)
  clear hl hfw_0
  rintro w1 ⟨hfw_1, hba_1, hbb_1, hbr_1⟩
  obtain ⟨ca_0, ca_1, ca_2, ca_3⟩ := v_cells (v := a) hba_1
  have za := frozen_of_obj hba_1
  obtain ⟨cb_0, cb_1, cb_2, cb_3⟩ := v_cells (v := b) hbb_1
  have zb := frozen_of_obj hbb_1
  obtain ⟨cr_0, cr_1, cr_2, cr_3⟩ := v_cells (v := zV) hbr_1
  dsimp only [zV] at cr_0 cr_1 cr_2 cr_3
  have zr := frozen_of_obj hbr_1
  go_wp2_with fail
  refine (HC.out _).mono ?_
  rintro e w2 ⟨rfl, hf2⟩
  have la := obj_lt hba_1
  have lb := obj_lt hbb_1
  have lr := obj_lt hbr_1
  have hl := hfw_1.size
  have hba_2 : w2.heap[w.heap.size]? = some (.cells #[.int .u8 a.k, .int .i64 a.n, .int .i64 a.hi, .string a.t] 23 (0, 0)) := by
    refine hf2.obj (fun x => x) ?_
    repeat (first | with_reducible exact hba_1 | (with_reducible refine obj_alloc_at ?_; simp; done) | (with_reducible apply obj_put4; omega) | (with_reducible apply obj_put1; omega) | (with_reducible refine obj_setCell_other ?_ _ _ ?_; rotate_left; (dsimp only; omega)) | with_reducible refine obj_alloc ?_ _ | with_reducible refine obj_drew ?_ | exact hba_1)
  have hbb_2 : w2.heap[w.heap.size + 1]? = some (.cells #[.int .u8 b.k, .int .i64 b.n, .int .i64 b.hi, .string b.t] 23 (0, 0)) := by
    refine hf2.obj (fun x => x) ?_
    repeat (first | with_reducible exact hbb_1 | (with_reducible refine obj_alloc_at ?_; simp; done) | (with_reducible apply obj_put4; omega) | (with_reducible apply obj_put1; omega) | (with_reducible refine obj_setCell_other ?_ _ _ ?_; rotate_left; (dsimp only; omega)) | with_reducible refine obj_alloc ?_ _ | with_reducible refine obj_drew ?_ | exact hbb_1)
  have hbr_2 : w2.heap[w.heap.size + 2]? = some (.cells #[.int .u8 0, .int .i64 0, .int .i64 0, .string ⟨#[]⟩] 23 (0, 0)) := by
    refine hf2.obj (fun x => x) ?_
    repeat (first | with_reducible exact hbr_1 | (with_reducible refine obj_alloc_at ?_; simp; done) | (with_reducible apply obj_put4; omega) | (with_reducible apply obj_put1; omega) | (with_reducible refine obj_setCell_other ?_ _ _ ?_; rotate_left; (dsimp only; omega)) | with_reducible refine obj_alloc ?_ _ | with_reducible refine obj_drew ?_ | exact hbr_1)
  have hfw_2 : Fr noB w w2 := by
    refine Fr.transN ?_ hf2
    repeat (first | with_reducible exact hfw_1 | with_reducible refine Fr.alloc ?_ _ | (with_reducible refine Fr.setCell ?_ ?_ _; rotate_left; (intro h; dsimp only at h; omega)) | with_reducible refine Fr.drew ?_ | exact hfw_1)
  clear hba_1 hbb_1 hbr_1 la lb lr hl ca_0 ca_1 ca_2 ca_3 za cb_0 cb_1 cb_2 cb_3 zb cr_0 cr_1 cr_2 cr_3 zr hf2 hfw_1
  obtain ⟨ca_0, ca_1, ca_2, ca_3⟩ := v_cells (v := a) hba_2
  have za := frozen_of_obj hba_2
  obtain ⟨cb_0, cb_1, cb_2, cb_3⟩ := v_cells (v := b) hbb_2
  have zb := frozen_of_obj hbb_2
  obtain ⟨cr_0, cr_1, cr_2, cr_3⟩ := v_cells (v := zV) hbr_2
  dsimp only [zV] at cr_0 cr_1 cr_2 cr_3
  have zr := frozen_of_obj hbr_2
  go_upto_region 2 with fail
  have la := obj_lt hba_2
  have lb := obj_lt hbb_2
  have lr := obj_lt hbr_2
  have hl := hfw_2.size
  refine wp_world (fun W => Fr noB w W ∧ W.heap[w.heap.size]? = some (.cells #[.int .u8 a.k, .int .i64 a.n, .int .i64 a.hi, .string a.t] 23 (0, 0)) ∧ W.heap[w.heap.size + 1]? = some (.cells #[.int .u8 b.k, .int .i64 b.n, .int .i64 b.hi, .string b.t] 23 (0, 0)) ∧ W.heap[w.heap.size + 2]? = some (.cells #[.int .u8 0, .int .i64 0, .int .i64 0, .string ⟨#[]⟩] 23 (0, 0)) ∧ W.heap[w2.heap.size]? = some (.cells #[.int .u8 r.1.k, .int .i64 r.1.n, .int .i64 r.1.hi, .string r.1.t] 23 (0, 0))) ⟨?_, ?_, ?_, ?_, ?_⟩ ?_
  · skip
    repeat (first | with_reducible exact hfw_2 | with_reducible refine Fr.alloc ?_ _ | (with_reducible refine Fr.setCell ?_ ?_ _; rotate_left; (intro h; dsimp only at h; omega)) | with_reducible refine Fr.drew ?_ | exact hfw_2)
  · skip
    repeat (first | with_reducible exact hba_2 | (with_reducible refine obj_alloc_at ?_; simp; done) | (with_reducible apply obj_put4; omega) | (with_reducible apply obj_put1; omega) | (with_reducible refine obj_setCell_other ?_ _ _ ?_; rotate_left; (dsimp only; omega)) | with_reducible refine obj_alloc ?_ _ | with_reducible refine obj_drew ?_ | exact hba_2)
  · skip
    repeat (first | with_reducible exact hbb_2 | (with_reducible refine obj_alloc_at ?_; simp; done) | (with_reducible apply obj_put4; omega) | (with_reducible apply obj_put1; omega) | (with_reducible refine obj_setCell_other ?_ _ _ ?_; rotate_left; (dsimp only; omega)) | with_reducible refine obj_alloc ?_ _ | with_reducible refine obj_drew ?_ | exact hbb_2)
  · skip
    repeat (first | with_reducible exact hbr_2 | (with_reducible refine obj_alloc_at ?_; simp; done) | (with_reducible apply obj_put4; omega) | (with_reducible apply obj_put1; omega) | (with_reducible refine obj_setCell_other ?_ _ _ ?_; rotate_left; (dsimp only; omega)) | with_reducible refine obj_alloc ?_ _ | with_reducible refine obj_drew ?_ | exact hbr_2)
  · skip
    repeat (first | (with_reducible refine obj_alloc_at ?_; simp; done) | (with_reducible apply obj_put4; omega) | (with_reducible apply obj_put1; omega) | (with_reducible refine obj_setCell_other ?_ _ _ ?_; rotate_left; (dsimp only; omega)) | with_reducible refine obj_alloc ?_ _ | with_reducible refine obj_drew ?_)
  clear hba_2 hbb_2 hbr_2 la lb lr hl ca_0 ca_1 ca_2 ca_3 za cb_0 cb_1 cb_2 cb_3 zb cr_0 cr_1 cr_2 cr_3 zr hfw_2
  rintro w3 ⟨hfw_3, hba_3, hbb_3, hbr_3, hbv_3⟩
  obtain ⟨ca_0, ca_1, ca_2, ca_3⟩ := v_cells (v := a) hba_3
  have za := frozen_of_obj hba_3
  obtain ⟨cb_0, cb_1, cb_2, cb_3⟩ := v_cells (v := b) hbb_3
  have zb := frozen_of_obj hbb_3
  obtain ⟨cr_0, cr_1, cr_2, cr_3⟩ := v_cells (v := zV) hbr_3
  dsimp only [zV] at cr_0 cr_1 cr_2 cr_3
  have zr := frozen_of_obj hbr_3
  obtain ⟨cv_0, cv_1, cv_2, cv_3⟩ := v_cells (v := r.1) hbv_3
  have zv := frozen_of_obj hbv_3
  cases hb : (r.2 != 0)
  · rw [hb, if_neg (by decide)] at HF
    subst HF
    go_wp2_with fail
    have la := obj_lt hba_3
    have lb := obj_lt hbb_3
    have lr := obj_lt hbr_3
    have lv := obj_lt hbv_3
    have hl := hfw_3.size
    refine bodyPost_ret (ret_val rfl _ _ (w.heap.size + 2) r.1 rfl ?_) rfl ⟨?_, ?_⟩
    · show _ = some (Obj.cells #[.int .u8 r.1.k, .int .i64 r.1.n, .int .i64 r.1.hi, .string r.1.t] 23 (0, 0))
      repeat (first | with_reducible exact hbr_3 | (with_reducible refine obj_alloc_at ?_; simp; done) | (with_reducible apply obj_put4; omega) | (with_reducible apply obj_put1; omega) | (with_reducible refine obj_setCell_other ?_ _ _ ?_; rotate_left; (dsimp only; omega)) | with_reducible refine obj_alloc ?_ _ | with_reducible refine obj_drew ?_ | exact hbr_3)
    · rfl
    · skip
      repeat (first | with_reducible exact hfw_3 | with_reducible refine Fr.alloc ?_ _ | (with_reducible refine Fr.setCell ?_ ?_ _; rotate_left; (intro h; dsimp only at h; omega)) | with_reducible refine Fr.drew ?_ | exact hfw_3)
  · rw [hb, if_pos rfl] at HF
    subst HF
    go_wp2_with fail
    have la := obj_lt hba_3
    have lb := obj_lt hbb_3
    have lr := obj_lt hbr_3
    have lv := obj_lt hbv_3
    have hl := hfw_3.size
    refine bodyPost_ret (ret_val rfl _ _ (w.heap.size + 2) (litV 99 0 0) rfl ?_) rfl ⟨?_, ?_⟩
    · show _ = some (Obj.cells #[.int .u8 99, .int .i64 0, .int .i64 0, .string ⟨#[]⟩] 23 (0, 0))
      repeat (first | with_reducible exact hbr_3 | (with_reducible refine obj_alloc_at ?_; simp; done) | (with_reducible apply obj_put4; omega) | (with_reducible apply obj_put1; omega) | (with_reducible refine obj_setCell_other ?_ _ _ ?_; rotate_left; (dsimp only; omega)) | with_reducible refine obj_alloc ?_ _ | with_reducible refine obj_drew ?_ | exact hbr_3)
    · rfl
    · skip
      repeat (first | with_reducible exact hfw_3 | with_reducible refine Fr.alloc ?_ _ | (with_reducible refine Fr.setCell ?_ ?_ _; rotate_left; (intro h; dsimp only at h; omega)) | with_reducible refine Fr.drew ?_ | exact hfw_3)

def orF (a b : V) : V := if ((joinV a b true).2 != 0) = true then litV 99 0 0 else (joinV a b true).1
set_option maxRecDepth 100000 in
set_option maxHeartbeats 4000000 in
theorem or1_any (a b : V) (w : World) :
    Calls Try.prog 30 #[vV a, vV b] w fun e w' => e = .returned (vV (orF a b)) ∧ Fr noB w w' := by
  have HC := or_any a b
  have HF : orF a b = if ((joinV a b true).2 != 0) = true then litV 99 0 0 else (joinV a b true).1 := rfl
  generalize orF a b = rr at *
  generalize joinV a b true = r at *
  unfold vV at HC ⊢
  have HC := Lib.hid HC
  go_enter Try.func30, Try.ntmps30
  go_upto_region 1 with fail
  have hfw_0 := Fr.refl noB w
  have hl := hfw_0.size
  refine wp_world (fun W => Fr noB w W ∧ W.heap[w.heap.size]? = some (.cells #[.int .u8 a.k, .int .i64 a.n, .int .i64 a.hi, .string a.t] 23 (0, 0)) ∧ W.heap[w.heap.size + 1]? = some (.cells #[.int .u8 b.k, .int .i64 b.n, .int .i64 b.hi, .string b.t] 23 (0, 0)) ∧ W.heap[w.heap.size + 2]? = some (.cells #[.int .u8 0, .int .i64 0, .int .i64 0, .string ⟨#[]⟩] 23 (0, 0))) ⟨?_, ?_, ?_, ?_⟩ ?_
  · skip
    repeat (first | with_reducible exact hfw_0 | with_reducible refine Fr.alloc ?_ _ | (with_reducible refine Fr.setCell ?_ ?_ _; rotate_left; (intro h; dsimp only at h; omega)) | with_reducible refine Fr.drew ?_ | exact hfw_0)
  · skip
    repeat (first | (with_reducible refine obj_alloc_at ?_; simp; done) | (with_reducible apply obj_put4; omega) | (with_reducible apply obj_put1; omega) | (with_reducible refine obj_setCell_other ?_ _ _ ?_; rotate_left; (dsimp only; omega)) | with_reducible refine obj_alloc ?_ _ | with_reducible refine obj_drew ?_)
  · skip
    repeat (first | (with_reducible refine obj_alloc_at ?_; simp; done) | (with_reducible apply obj_put4; omega) | (with_reducible apply obj_put1; omega) | (with_reducible refine obj_setCell_other ?_ _ _ ?_; rotate_left; (dsimp only; omega)) | with_reducible refine obj_alloc ?_ _ | with_reducible refine obj_drew ?_)
  · skip
    repeat (first | (with_reducible refine obj_alloc_at ?_; simp; done) | (with_reducible apply obj_put4; omega) | (with_reducible apply obj_put1; omega) | (with_reducible refine obj_setCell_other ?_ _ _ ?_; rotate_left; (dsimp only; omega)) | with_reducible refine obj_alloc ?_ _ | with_reducible refine obj_drew ?_)
  clear hl hfw_0
  rintro w1 ⟨hfw_1, hba_1, hbb_1, hbr_1⟩
  obtain ⟨ca_0, ca_1, ca_2, ca_3⟩ := v_cells (v := a) hba_1
  have za := frozen_of_obj hba_1
  obtain ⟨cb_0, cb_1, cb_2, cb_3⟩ := v_cells (v := b) hbb_1
  have zb := frozen_of_obj hbb_1
  obtain ⟨cr_0, cr_1, cr_2, cr_3⟩ := v_cells (v := zV) hbr_1
  dsimp only [zV] at cr_0 cr_1 cr_2 cr_3
  have zr := frozen_of_obj hbr_1
  go_wp2_with fail
  refine (HC.out _).mono ?_
  rintro e w2 ⟨rfl, hf2⟩
  have la := obj_lt hba_1
  have lb := obj_lt hbb_1
  have lr := obj_lt hbr_1
  have hl := hfw_1.size
  have hba_2 : w2.heap[w.heap.size]? = some (.cells #[.int .u8 a.k, .int .i64 a.n, .int .i64 a.hi, .string a.t] 23 (0, 0)) := by
    refine hf2.obj (fun x => x) ?_
    repeat (first | with_reducible exact hba_1 | (with_reducible refine obj_alloc_at ?_; simp; done) | (with_reducible apply obj_put4; omega) | (with_reducible apply obj_put1; omega) | (with_reducible refine obj_setCell_other ?_ _ _ ?_; rotate_left; (dsimp only; omega)) | with_reducible refine obj_alloc ?_ _ | with_reducible refine obj_drew ?_ | exact hba_1)
  have hbb_2 : w2.heap[w.heap.size + 1]? = some (.cells #[.int .u8 b.k, .int .i64 b.n, .int .i64 b.hi, .string b.t] 23 (0, 0)) := by
    refine hf2.obj (fun x => x) ?_
    repeat (first | with_reducible exact hbb_1 | (with_reducible refine obj_alloc_at ?_; simp; done) | (with_reducible apply obj_put4; omega) | (with_reducible apply obj_put1; omega) | (with_reducible refine obj_setCell_other ?_ _ _ ?_; rotate_left; (dsimp only; omega)) | with_reducible refine obj_alloc ?_ _ | with_reducible refine obj_drew ?_ | exact hbb_1)
  have hbr_2 : w2.heap[w.heap.size + 2]? = some (.cells #[.int .u8 0, .int .i64 0, .int .i64 0, .string ⟨#[]⟩] 23 (0, 0)) := by
    refine hf2.obj (fun x => x) ?_
    repeat (first | with_reducible exact hbr_1 | (with_reducible refine obj_alloc_at ?_; simp; done) | (with_reducible apply obj_put4; omega) | (with_reducible apply obj_put1; omega) | (with_reducible refine obj_setCell_other ?_ _ _ ?_; rotate_left; (dsimp only; omega)) | with_reducible refine obj_alloc ?_ _ | with_reducible refine obj_drew ?_ | exact hbr_1)
  have hfw_2 : Fr noB w w2 := by
    refine Fr.transN ?_ hf2
    repeat (first | with_reducible exact hfw_1 | with_reducible refine Fr.alloc ?_ _ | (with_reducible refine Fr.setCell ?_ ?_ _; rotate_left; (intro h; dsimp only at h; omega)) | with_reducible refine Fr.drew ?_ | exact hfw_1)
  clear hba_1 hbb_1 hbr_1 la lb lr hl ca_0 ca_1 ca_2 ca_3 za cb_0 cb_1 cb_2 cb_3 zb cr_0 cr_1 cr_2 cr_3 zr hf2 hfw_1
  obtain ⟨ca_0, ca_1, ca_2, ca_3⟩ := v_cells (v := a) hba_2
  have za := frozen_of_obj hba_2
  obtain ⟨cb_0, cb_1, cb_2, cb_3⟩ := v_cells (v := b) hbb_2
  have zb := frozen_of_obj hbb_2
  obtain ⟨cr_0, cr_1, cr_2, cr_3⟩ := v_cells (v := zV) hbr_2
  dsimp only [zV] at cr_0 cr_1 cr_2 cr_3
  have zr := frozen_of_obj hbr_2
  go_upto_region 2 with fail
  have la := obj_lt hba_2
  have lb := obj_lt hbb_2
  have lr := obj_lt hbr_2
  have hl := hfw_2.size
  refine wp_world (fun W => Fr noB w W ∧ W.heap[w.heap.size]? = some (.cells #[.int .u8 a.k, .int .i64 a.n, .int .i64 a.hi, .string a.t] 23 (0, 0)) ∧ W.heap[w.heap.size + 1]? = some (.cells #[.int .u8 b.k, .int .i64 b.n, .int .i64 b.hi, .string b.t] 23 (0, 0)) ∧ W.heap[w.heap.size + 2]? = some (.cells #[.int .u8 0, .int .i64 0, .int .i64 0, .string ⟨#[]⟩] 23 (0, 0)) ∧ W.heap[w2.heap.size]? = some (.cells #[.int .u8 r.1.k, .int .i64 r.1.n, .int .i64 r.1.hi, .string r.1.t] 23 (0, 0))) ⟨?_, ?_, ?_, ?_, ?_⟩ ?_
  · skip
    repeat (first | with_reducible exact hfw_2 | with_reducible refine Fr.alloc ?_ _ | (with_reducible refine Fr.setCell ?_ ?_ _; rotate_left; (intro h; dsimp only at h; omega)) | with_reducible refine Fr.drew ?_ | exact hfw_2)
  · skip
    repeat (first | with_reducible exact hba_2 | (with_reducible refine obj_alloc_at ?_; simp; done) | (with_reducible apply obj_put4; omega) | (with_reducible apply obj_put1; omega) | (with_reducible refine obj_setCell_other ?_ _ _ ?_; rotate_left; (dsimp only; omega)) | with_reducible refine obj_alloc ?_ _ | with_reducible refine obj_drew ?_ | exact hba_2)
  · skip
    repeat (first | with_reducible exact hbb_2 | (with_reducible refine obj_alloc_at ?_; simp; done) | (with_reducible apply obj_put4; omega) | (with_reducible apply obj_put1; omega) | (with_reducible refine obj_setCell_other ?_ _ _ ?_; rotate_left; (dsimp only; omega)) | with_reducible refine obj_alloc ?_ _ | with_reducible refine obj_drew ?_ | exact hbb_2)
  · skip
    repeat (first | with_reducible exact hbr_2 | (with_reducible refine obj_alloc_at ?_; simp; done) | (with_reducible apply obj_put4; omega) | (with_reducible apply obj_put1; omega) | (with_reducible refine obj_setCell_other ?_ _ _ ?_; rotate_left; (dsimp only; omega)) | with_reducible refine obj_alloc ?_ _ | with_reducible refine obj_drew ?_ | exact hbr_2)
  · skip
    repeat (first | (with_reducible refine obj_alloc_at ?_; simp; done) | (with_reducible apply obj_put4; omega) | (with_reducible apply obj_put1; omega) | (with_reducible refine obj_setCell_other ?_ _ _ ?_; rotate_left; (dsimp only; omega)) | with_reducible refine obj_alloc ?_ _ | with_reducible refine obj_drew ?_)
  clear hba_2 hbb_2 hbr_2 la lb lr hl ca_0 ca_1 ca_2 ca_3 za cb_0 cb_1 cb_2 cb_3 zb cr_0 cr_1 cr_2 cr_3 zr hfw_2
  rintro w3 ⟨hfw_3, hba_3, hbb_3, hbr_3, hbv_3⟩
  obtain ⟨ca_0, ca_1, ca_2, ca_3⟩ := v_cells (v := a) hba_3
  have za := frozen_of_obj hba_3
  obtain ⟨cb_0, cb_1, cb_2, cb_3⟩ := v_cells (v := b) hbb_3
  have zb := frozen_of_obj hbb_3
  obtain ⟨cr_0, cr_1, cr_2, cr_3⟩ := v_cells (v := zV) hbr_3
  dsimp only [zV] at cr_0 cr_1 cr_2 cr_3
  have zr := frozen_of_obj hbr_3
  obtain ⟨cv_0, cv_1, cv_2, cv_3⟩ := v_cells (v := r.1) hbv_3
  have zv := frozen_of_obj hbv_3
  cases hb : (r.2 != 0)
  · rw [hb, if_neg (by decide)] at HF
    subst HF
    go_wp2_with fail
    have la := obj_lt hba_3
    have lb := obj_lt hbb_3
    have lr := obj_lt hbr_3
    have lv := obj_lt hbv_3
    have hl := hfw_3.size
    refine bodyPost_ret (ret_val rfl _ _ (w.heap.size + 2) r.1 rfl ?_) rfl ⟨?_, ?_⟩
    · show _ = some (Obj.cells #[.int .u8 r.1.k, .int .i64 r.1.n, .int .i64 r.1.hi, .string r.1.t] 23 (0, 0))
      repeat (first | with_reducible exact hbr_3 | (with_reducible refine obj_alloc_at ?_; simp; done) | (with_reducible apply obj_put4; omega) | (with_reducible apply obj_put1; omega) | (with_reducible refine obj_setCell_other ?_ _ _ ?_; rotate_left; (dsimp only; omega)) | with_reducible refine obj_alloc ?_ _ | with_reducible refine obj_drew ?_ | exact hbr_3)
    · rfl
    · skip
      repeat (first | with_reducible exact hfw_3 | with_reducible refine Fr.alloc ?_ _ | (with_reducible refine Fr.setCell ?_ ?_ _; rotate_left; (intro h; dsimp only at h; omega)) | with_reducible refine Fr.drew ?_ | exact hfw_3)
  · rw [hb, if_pos rfl] at HF
    subst HF
    go_wp2_with fail
    have la := obj_lt hba_3
    have lb := obj_lt hbb_3
    have lr := obj_lt hbr_3
    have lv := obj_lt hbv_3
    have hl := hfw_3.size
    refine bodyPost_ret (ret_val rfl _ _ (w.heap.size + 2) (litV 99 0 0) rfl ?_) rfl ⟨?_, ?_⟩
    · show _ = some (Obj.cells #[.int .u8 99, .int .i64 0, .int .i64 0, .string ⟨#[]⟩] 23 (0, 0))
      repeat (first | with_reducible exact hbr_3 | (with_reducible refine obj_alloc_at ?_; simp; done) | (with_reducible apply obj_put4; omega) | (with_reducible apply obj_put1; omega) | (with_reducible refine obj_setCell_other ?_ _ _ ?_; rotate_left; (dsimp only; omega)) | with_reducible refine obj_alloc ?_ _ | with_reducible refine obj_drew ?_ | exact hbr_3)
    · rfl
    · skip
      repeat (first | with_reducible exact hfw_3 | with_reducible refine Fr.alloc ?_ _ | (with_reducible refine Fr.setCell ?_ ?_ _; rotate_left; (intro h; dsimp only at h; omega)) | with_reducible refine Fr.drew ?_ | exact hfw_3)


end Go.Proofs.Ytcncjghcnofioaa
