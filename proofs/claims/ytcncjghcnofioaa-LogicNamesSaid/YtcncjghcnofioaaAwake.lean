/- The walk of the statements' awake. No condition. -/
import Derived.Test.YtcncjghcnofioaaLw
import Derived.Deep.RegionHeld3
namespace Go.Proofs.Ytcncjghcnofioaa
open Go.RowKit

set_option maxRecDepth 100000 in
set_option maxHeartbeats 4000000 in
theorem awake_any (w : World) :
    Calls Try.prog 15 #[] w fun e w' => e = .returned (.bool true) ∧ Fr noB w w' := by
  have HO0 := Lib.hid (show ∀ W : World, Calls Try.prog 25 #[.bool false] W fun e w' => e = .returned (.agg #[.int .u8 2, .int .i64 0, .int .i64 0, .string ⟨#[]⟩]) ∧ Fr noB W w' from fun W => of_any false W)
  have HO1 := Lib.hid (show ∀ W : World, Calls Try.prog 25 #[.bool true] W fun e w' => e = .returned (.agg #[.int .u8 2, .int .i64 1, .int .i64 0, .string ⟨#[]⟩]) ∧ Fr noB W w' from fun W => of_any true W)
  have HAnd := Lib.hid (show ∀ W : World, Calls Try.prog 29 #[.agg #[.int .u8 2, .int .i64 0, .int .i64 0, .string ⟨#[]⟩], .agg #[.int .u8 0, .int .i64 0, .int .i64 0, .string ⟨#[]⟩]] W fun e w' => e = .returned (.tuple #[.agg #[.int .u8 2, .int .i64 0, .int .i64 0, .string ⟨#[]⟩], .int .i64 0]) ∧ Fr noB W w' from fun W => and_any noV zV W)
  have HOr := Lib.hid (show ∀ W : World, Calls Try.prog 31 #[.agg #[.int .u8 0, .int .i64 0, .int .i64 0, .string ⟨#[]⟩], .agg #[.int .u8 2, .int .i64 0, .int .i64 0, .string ⟨#[]⟩]] W fun e w' => e = .returned (.tuple #[.agg #[.int .u8 0, .int .i64 0, .int .i64 0, .string ⟨#[]⟩], .int .i64 0]) ∧ Fr noB W w' from fun W => or_any zV noV W)
  have HI1 := Lib.hid (show ∀ W : World, Calls Try.prog 19 #[.int .i64 9223372036854775807] W fun e w' => e = .returned (.agg #[.int .u8 1, .int .i64 9223372036854775807, .int .i64 0, .string ⟨#[]⟩]) ∧ Fr noB W w' from fun W => int_any _ W)
  have HI2 := Lib.hid (show ∀ W : World, Calls Try.prog 19 #[.int .i64 1] W fun e w' => e = .returned (.agg #[.int .u8 1, .int .i64 1, .int .i64 0, .string ⟨#[]⟩]) ∧ Fr noB W w' from fun W => int_any _ W)
  have HI5 := Lib.hid (show ∀ W : World, Calls Try.prog 19 #[.int .i64 5] W fun e w' => e = .returned (.agg #[.int .u8 1, .int .i64 5, .int .i64 0, .string ⟨#[]⟩]) ∧ Fr noB W w' from fun W => int_any _ W)
  have HAdd := Lib.hid (show ∀ W : World, Calls Try.prog 21 #[.agg #[.int .u8 1, .int .i64 9223372036854775807, .int .i64 0, .string ⟨#[]⟩], .agg #[.int .u8 1, .int .i64 1, .int .i64 0, .string ⟨#[]⟩]] W fun e w' => e = .returned (.tuple #[.agg #[.int .u8 0, .int .i64 0, .int .i64 0, .string ⟨#[]⟩], .int .i64 61]) ∧ Fr noB W w' from fun W => add_any (intV 9223372036854775807) (intV 1) (by decide) (by decide) W)
  have HMul := Lib.hid (show ∀ W : World, Calls Try.prog 23 #[.agg #[.int .u8 0, .int .i64 0, .int .i64 0, .string ⟨#[]⟩], .agg #[.int .u8 1, .int .i64 5, .int .i64 0, .string ⟨#[]⟩]] W fun e w' => e = .returned (.tuple #[.agg #[.int .u8 0, .int .i64 0, .int .i64 0, .string ⟨#[]⟩], .int .i64 0]) ∧ Fr noB W w' from fun W => mul_any zV (intV 5) (by decide) (by decide) W)
  have HEq := Lib.hid (show ∀ W : World, Calls Try.prog 17 #[.agg #[.int .u8 1, .int .i64 1, .int .i64 0, .string ⟨#[]⟩], .agg #[.int .u8 3, .int .i64 0, .int .i64 0, .string ⟨#[]⟩]] W fun e w' => e = .returned (.tuple #[.agg #[.int .u8 0, .int .i64 0, .int .i64 0, .string ⟨#[]⟩], .int .i64 60]) ∧ Fr noB W w' from fun W => equal_any (intV 1) (litV 3 0 0) (by decide) (by decide) W)
  have HLe := Lib.hid (show ∀ W : World, Calls Try.prog 16 #[.agg #[.int .u8 4, .int .i64 1, .int .i64 3, .string ⟨#[]⟩], .agg #[.int .u8 4, .int .i64 1, .int .i64 4, .string ⟨#[]⟩]] W fun e w' => e = .returned (.tuple #[.agg #[.int .u8 2, .int .i64 1, .int .i64 0, .string ⟨#[]⟩], .int .i64 0]) ∧ Fr noB W w' from fun W => less_any (litV 4 1 3) (litV 4 1 4) (by decide) (by decide) W)
  have HY1 := Lib.hid (show ∀ W : World, Calls Try.prog 18 #[.agg #[.int .u8 2, .int .i64 1, .int .i64 0, .string ⟨#[]⟩]] W fun e w' => e = .returned (.bool true) ∧ Fr noB W w' from fun W => yes_any yesV W)
  have HY0 := Lib.hid (show ∀ W : World, Calls Try.prog 18 #[.agg #[.int .u8 2, .int .i64 0, .int .i64 0, .string ⟨#[]⟩]] W fun e w' => e = .returned (.bool false) ∧ Fr noB W w' from fun W => yes_any noV W)
  go_enter Try.func15, Try.ntmps15
  go_wp2_with fail
  have hfw_0 := Fr.refl noB w
  refine (HO0.out _).mono ?_
  rintro e w1 ⟨rfl, hf1⟩
  have hl := hfw_0.size
  have hfw_1 : Fr noB w w1 := by
    refine Fr.transN ?_ hf1
    repeat (first | with_reducible exact hfw_0 | with_reducible refine Fr.alloc ?_ _ | (with_reducible refine Fr.setCell ?_ ?_ _; rotate_left; (intro h; dsimp only at h; omega)) | with_reducible refine Fr.drew ?_ | exact hfw_0)
  clear hl hf1 hfw_0
  go_wp2_with fail
  refine (HO1.out _).mono ?_
  rintro e w2 ⟨rfl, hf2⟩
  have hl := hfw_1.size
  have hfw_2 : Fr noB w w2 := by
    refine Fr.transN ?_ hf2
    repeat (first | with_reducible exact hfw_1 | with_reducible refine Fr.alloc ?_ _ | (with_reducible refine Fr.setCell ?_ ?_ _; rotate_left; (intro h; dsimp only at h; omega)) | with_reducible refine Fr.drew ?_ | exact hfw_1)
  clear hl hf2 hfw_1
  go_upto_region 2 with fail
  have hl := hfw_2.size
  refine wp_world (fun W => Fr noB w W ∧ W.heap[w2.heap.size]? = some (.cells #[.int .u8 2, .int .i64 0, .int .i64 0, .string ⟨#[]⟩] 23 (0, 0)) ∧ W.heap[w2.heap.size + 1]? = some (.cells #[.int .u8 2, .int .i64 1, .int .i64 0, .string ⟨#[]⟩] 23 (0, 0)) ∧ W.heap[w2.heap.size + 2]? = some (.cells #[.int .u8 0, .int .i64 0, .int .i64 0, .string ⟨#[]⟩] 23 (0, 0))) ⟨?_, ?_, ?_, ?_⟩ ?_
  · skip
    repeat (first | with_reducible exact hfw_2 | with_reducible refine Fr.alloc ?_ _ | (with_reducible refine Fr.setCell ?_ ?_ _; rotate_left; (intro h; dsimp only at h; omega)) | with_reducible refine Fr.drew ?_ | exact hfw_2)
  · skip
    repeat (first | (with_reducible refine obj_alloc_at ?_; simp; done) | (with_reducible apply obj_put4; omega) | (with_reducible apply obj_put1; omega) | (with_reducible refine obj_setCell_other ?_ _ _ ?_; rotate_left; (dsimp only; omega)) | with_reducible refine obj_alloc ?_ _ | with_reducible refine obj_drew ?_)
  · skip
    repeat (first | (with_reducible refine obj_alloc_at ?_; simp; done) | (with_reducible apply obj_put4; omega) | (with_reducible apply obj_put1; omega) | (with_reducible refine obj_setCell_other ?_ _ _ ?_; rotate_left; (dsimp only; omega)) | with_reducible refine obj_alloc ?_ _ | with_reducible refine obj_drew ?_)
  · skip
    repeat (first | (with_reducible refine obj_alloc_at ?_; simp; done) | (with_reducible apply obj_put4; omega) | (with_reducible apply obj_put1; omega) | (with_reducible refine obj_setCell_other ?_ _ _ ?_; rotate_left; (dsimp only; omega)) | with_reducible refine obj_alloc ?_ _ | with_reducible refine obj_drew ?_)
  clear hl hfw_2
  rintro w3 ⟨hfw_3, hbn_3, hby_3, hbu_3⟩
  obtain ⟨cn_0, cn_1, cn_2, cn_3⟩ := v_cells (v := noV) hbn_3
  dsimp only [noV] at cn_0 cn_1 cn_2 cn_3
  have zn := frozen_of_obj hbn_3
  obtain ⟨cy_0, cy_1, cy_2, cy_3⟩ := v_cells (v := yesV) hby_3
  dsimp only [yesV] at cy_0 cy_1 cy_2 cy_3
  have zy := frozen_of_obj hby_3
  obtain ⟨cu_0, cu_1, cu_2, cu_3⟩ := v_cells (v := zV) hbu_3
  dsimp only [zV] at cu_0 cu_1 cu_2 cu_3
  have zu := frozen_of_obj hbu_3
  go_wp2_with fail
  refine (HAnd.out _).mono ?_
  rintro e w4 ⟨rfl, hf4⟩
  have ln := obj_lt hbn_3
  have ly := obj_lt hby_3
  have lu := obj_lt hbu_3
  have hl := hfw_3.size
  have hbn_4 : w4.heap[w2.heap.size]? = some (.cells #[.int .u8 2, .int .i64 0, .int .i64 0, .string ⟨#[]⟩] 23 (0, 0)) := by
    refine hf4.obj (fun x => x) ?_
    repeat (first | with_reducible exact hbn_3 | (with_reducible refine obj_alloc_at ?_; simp; done) | (with_reducible apply obj_put4; omega) | (with_reducible apply obj_put1; omega) | (with_reducible refine obj_setCell_other ?_ _ _ ?_; rotate_left; (dsimp only; omega)) | with_reducible refine obj_alloc ?_ _ | with_reducible refine obj_drew ?_ | exact hbn_3)
  have hby_4 : w4.heap[w2.heap.size + 1]? = some (.cells #[.int .u8 2, .int .i64 1, .int .i64 0, .string ⟨#[]⟩] 23 (0, 0)) := by
    refine hf4.obj (fun x => x) ?_
    repeat (first | with_reducible exact hby_3 | (with_reducible refine obj_alloc_at ?_; simp; done) | (with_reducible apply obj_put4; omega) | (with_reducible apply obj_put1; omega) | (with_reducible refine obj_setCell_other ?_ _ _ ?_; rotate_left; (dsimp only; omega)) | with_reducible refine obj_alloc ?_ _ | with_reducible refine obj_drew ?_ | exact hby_3)
  have hbu_4 : w4.heap[w2.heap.size + 2]? = some (.cells #[.int .u8 0, .int .i64 0, .int .i64 0, .string ⟨#[]⟩] 23 (0, 0)) := by
    refine hf4.obj (fun x => x) ?_
    repeat (first | with_reducible exact hbu_3 | (with_reducible refine obj_alloc_at ?_; simp; done) | (with_reducible apply obj_put4; omega) | (with_reducible apply obj_put1; omega) | (with_reducible refine obj_setCell_other ?_ _ _ ?_; rotate_left; (dsimp only; omega)) | with_reducible refine obj_alloc ?_ _ | with_reducible refine obj_drew ?_ | exact hbu_3)
  have hfw_4 : Fr noB w w4 := by
    refine Fr.transN ?_ hf4
    repeat (first | with_reducible exact hfw_3 | with_reducible refine Fr.alloc ?_ _ | (with_reducible refine Fr.setCell ?_ ?_ _; rotate_left; (intro h; dsimp only at h; omega)) | with_reducible refine Fr.drew ?_ | exact hfw_3)
  clear hbn_3 hby_3 hbu_3 ln ly lu hl cn_0 cn_1 cn_2 cn_3 zn cy_0 cy_1 cy_2 cy_3 zy cu_0 cu_1 cu_2 cu_3 zu hf4 hfw_3
  obtain ⟨cn_0, cn_1, cn_2, cn_3⟩ := v_cells (v := noV) hbn_4
  dsimp only [noV] at cn_0 cn_1 cn_2 cn_3
  have zn := frozen_of_obj hbn_4
  obtain ⟨cy_0, cy_1, cy_2, cy_3⟩ := v_cells (v := yesV) hby_4
  dsimp only [yesV] at cy_0 cy_1 cy_2 cy_3
  have zy := frozen_of_obj hby_4
  obtain ⟨cu_0, cu_1, cu_2, cu_3⟩ := v_cells (v := zV) hbu_4
  dsimp only [zV] at cu_0 cu_1 cu_2 cu_3
  have zu := frozen_of_obj hbu_4
  go_upto_region 3 with fail
  have o0 := Lib.hid (obj_lt hbu_4)
  have ln := obj_lt hbn_4
  have ly := obj_lt hby_4
  have lu := obj_lt hbu_4
  have hl := hfw_4.size
  have po0 := o0.out
  refine wp_world (fun W => Fr noB w W ∧ W.heap[w2.heap.size]? = some (.cells #[.int .u8 2, .int .i64 0, .int .i64 0, .string ⟨#[]⟩] 23 (0, 0)) ∧ W.heap[w2.heap.size + 1]? = some (.cells #[.int .u8 2, .int .i64 1, .int .i64 0, .string ⟨#[]⟩] 23 (0, 0)) ∧ W.heap[w2.heap.size + 2]? = some (.cells #[.int .u8 0, .int .i64 0, .int .i64 0, .string ⟨#[]⟩] 23 (0, 0)) ∧ W.heap[w4.heap.size]? = some (.cells #[.int .u8 2, .int .i64 0, .int .i64 0, .string ⟨#[]⟩] 23 (0, 0))) ⟨?_, ?_, ?_, ?_, ?_⟩ ?_
  · skip
    repeat (first | with_reducible exact hfw_4 | with_reducible refine Fr.alloc ?_ _ | (with_reducible refine Fr.setCell ?_ ?_ _; rotate_left; (intro h; dsimp only at h; omega)) | with_reducible refine Fr.drew ?_ | exact hfw_4)
  · skip
    repeat (first | with_reducible exact hbn_4 | (with_reducible refine obj_alloc_at ?_; simp; done) | (with_reducible apply obj_put4; omega) | (with_reducible apply obj_put1; omega) | (with_reducible refine obj_setCell_other ?_ _ _ ?_; rotate_left; (dsimp only; omega)) | with_reducible refine obj_alloc ?_ _ | with_reducible refine obj_drew ?_ | exact hbn_4)
  · skip
    repeat (first | with_reducible exact hby_4 | (with_reducible refine obj_alloc_at ?_; simp; done) | (with_reducible apply obj_put4; omega) | (with_reducible apply obj_put1; omega) | (with_reducible refine obj_setCell_other ?_ _ _ ?_; rotate_left; (dsimp only; omega)) | with_reducible refine obj_alloc ?_ _ | with_reducible refine obj_drew ?_ | exact hby_4)
  · skip
    repeat (first | with_reducible exact hbu_4 | (with_reducible refine obj_alloc_at ?_; simp; done) | (with_reducible apply obj_put4; omega) | (with_reducible apply obj_put1; omega) | (with_reducible refine obj_setCell_other ?_ _ _ ?_; rotate_left; (dsimp only; omega)) | with_reducible refine obj_alloc ?_ _ | with_reducible refine obj_drew ?_ | exact hbu_4)
  · skip
    repeat (first | (with_reducible refine obj_alloc_at ?_; simp; done) | (with_reducible apply obj_put4; omega) | (with_reducible apply obj_put1; omega) | (with_reducible refine obj_setCell_other ?_ _ _ ?_; rotate_left; (dsimp only; omega)) | with_reducible refine obj_alloc ?_ _ | with_reducible refine obj_drew ?_)
  clear hbn_4 hby_4 hbu_4 ln ly lu hl po0 cn_0 cn_1 cn_2 cn_3 zn cy_0 cy_1 cy_2 cy_3 zy cu_0 cu_1 cu_2 cu_3 zu hfw_4
  rintro w5 ⟨hfw_5, hbn_5, hby_5, hbu_5, hba_5⟩
  obtain ⟨cn_0, cn_1, cn_2, cn_3⟩ := v_cells (v := noV) hbn_5
  dsimp only [noV] at cn_0 cn_1 cn_2 cn_3
  have zn := frozen_of_obj hbn_5
  obtain ⟨cy_0, cy_1, cy_2, cy_3⟩ := v_cells (v := yesV) hby_5
  dsimp only [yesV] at cy_0 cy_1 cy_2 cy_3
  have zy := frozen_of_obj hby_5
  obtain ⟨cu_0, cu_1, cu_2, cu_3⟩ := v_cells (v := zV) hbu_5
  dsimp only [zV] at cu_0 cu_1 cu_2 cu_3
  have zu := frozen_of_obj hbu_5
  obtain ⟨ca_0, ca_1, ca_2, ca_3⟩ := v_cells (v := noV) hba_5
  dsimp only [noV] at ca_0 ca_1 ca_2 ca_3
  have za := frozen_of_obj hba_5
  go_wp2_with fail
  refine (HOr.out _).mono ?_
  rintro e w6 ⟨rfl, hf6⟩
  have ln := obj_lt hbn_5
  have ly := obj_lt hby_5
  have lu := obj_lt hbu_5
  have la := obj_lt hba_5
  have hl := hfw_5.size
  have po0 := o0.out
  have hbn_6 : w6.heap[w2.heap.size]? = some (.cells #[.int .u8 2, .int .i64 0, .int .i64 0, .string ⟨#[]⟩] 23 (0, 0)) := by
    refine hf6.obj (fun x => x) ?_
    repeat (first | with_reducible exact hbn_5 | (with_reducible refine obj_alloc_at ?_; simp; done) | (with_reducible apply obj_put4; omega) | (with_reducible apply obj_put1; omega) | (with_reducible refine obj_setCell_other ?_ _ _ ?_; rotate_left; (dsimp only; omega)) | with_reducible refine obj_alloc ?_ _ | with_reducible refine obj_drew ?_ | exact hbn_5)
  have hby_6 : w6.heap[w2.heap.size + 1]? = some (.cells #[.int .u8 2, .int .i64 1, .int .i64 0, .string ⟨#[]⟩] 23 (0, 0)) := by
    refine hf6.obj (fun x => x) ?_
    repeat (first | with_reducible exact hby_5 | (with_reducible refine obj_alloc_at ?_; simp; done) | (with_reducible apply obj_put4; omega) | (with_reducible apply obj_put1; omega) | (with_reducible refine obj_setCell_other ?_ _ _ ?_; rotate_left; (dsimp only; omega)) | with_reducible refine obj_alloc ?_ _ | with_reducible refine obj_drew ?_ | exact hby_5)
  have hbu_6 : w6.heap[w2.heap.size + 2]? = some (.cells #[.int .u8 0, .int .i64 0, .int .i64 0, .string ⟨#[]⟩] 23 (0, 0)) := by
    refine hf6.obj (fun x => x) ?_
    repeat (first | with_reducible exact hbu_5 | (with_reducible refine obj_alloc_at ?_; simp; done) | (with_reducible apply obj_put4; omega) | (with_reducible apply obj_put1; omega) | (with_reducible refine obj_setCell_other ?_ _ _ ?_; rotate_left; (dsimp only; omega)) | with_reducible refine obj_alloc ?_ _ | with_reducible refine obj_drew ?_ | exact hbu_5)
  have hba_6 : w6.heap[w4.heap.size]? = some (.cells #[.int .u8 2, .int .i64 0, .int .i64 0, .string ⟨#[]⟩] 23 (0, 0)) := by
    refine hf6.obj (fun x => x) ?_
    repeat (first | with_reducible exact hba_5 | (with_reducible refine obj_alloc_at ?_; simp; done) | (with_reducible apply obj_put4; omega) | (with_reducible apply obj_put1; omega) | (with_reducible refine obj_setCell_other ?_ _ _ ?_; rotate_left; (dsimp only; omega)) | with_reducible refine obj_alloc ?_ _ | with_reducible refine obj_drew ?_ | exact hba_5)
  have hfw_6 : Fr noB w w6 := by
    refine Fr.transN ?_ hf6
    repeat (first | with_reducible exact hfw_5 | with_reducible refine Fr.alloc ?_ _ | (with_reducible refine Fr.setCell ?_ ?_ _; rotate_left; (intro h; dsimp only at h; omega)) | with_reducible refine Fr.drew ?_ | exact hfw_5)
  clear hbn_5 hby_5 hbu_5 hba_5 ln ly lu la hl po0 cn_0 cn_1 cn_2 cn_3 zn cy_0 cy_1 cy_2 cy_3 zy cu_0 cu_1 cu_2 cu_3 zu ca_0 ca_1 ca_2 ca_3 za hf6 hfw_5
  obtain ⟨cn_0, cn_1, cn_2, cn_3⟩ := v_cells (v := noV) hbn_6
  dsimp only [noV] at cn_0 cn_1 cn_2 cn_3
  have zn := frozen_of_obj hbn_6
  obtain ⟨cy_0, cy_1, cy_2, cy_3⟩ := v_cells (v := yesV) hby_6
  dsimp only [yesV] at cy_0 cy_1 cy_2 cy_3
  have zy := frozen_of_obj hby_6
  obtain ⟨cu_0, cu_1, cu_2, cu_3⟩ := v_cells (v := zV) hbu_6
  dsimp only [zV] at cu_0 cu_1 cu_2 cu_3
  have zu := frozen_of_obj hbu_6
  obtain ⟨ca_0, ca_1, ca_2, ca_3⟩ := v_cells (v := noV) hba_6
  dsimp only [noV] at ca_0 ca_1 ca_2 ca_3
  have za := frozen_of_obj hba_6
  go_upto_region 4 with fail
  have o1 := Lib.hid (obj_lt hba_6)
  have ln := obj_lt hbn_6
  have ly := obj_lt hby_6
  have lu := obj_lt hbu_6
  have la := obj_lt hba_6
  have hl := hfw_6.size
  have po0 := o0.out
  have po1 := o1.out
  refine wp_world (fun W => Fr noB w W ∧ W.heap[w2.heap.size]? = some (.cells #[.int .u8 2, .int .i64 0, .int .i64 0, .string ⟨#[]⟩] 23 (0, 0)) ∧ W.heap[w2.heap.size + 1]? = some (.cells #[.int .u8 2, .int .i64 1, .int .i64 0, .string ⟨#[]⟩] 23 (0, 0)) ∧ W.heap[w2.heap.size + 2]? = some (.cells #[.int .u8 0, .int .i64 0, .int .i64 0, .string ⟨#[]⟩] 23 (0, 0)) ∧ W.heap[w4.heap.size]? = some (.cells #[.int .u8 2, .int .i64 0, .int .i64 0, .string ⟨#[]⟩] 23 (0, 0)) ∧ W.heap[w6.heap.size]? = some (.cells #[.int .u8 0, .int .i64 0, .int .i64 0, .string ⟨#[]⟩] 23 (0, 0))) ⟨?_, ?_, ?_, ?_, ?_, ?_⟩ ?_
  · skip
    repeat (first | with_reducible exact hfw_6 | with_reducible refine Fr.alloc ?_ _ | (with_reducible refine Fr.setCell ?_ ?_ _; rotate_left; (intro h; dsimp only at h; omega)) | with_reducible refine Fr.drew ?_ | exact hfw_6)
  · skip
    repeat (first | with_reducible exact hbn_6 | (with_reducible refine obj_alloc_at ?_; simp; done) | (with_reducible apply obj_put4; omega) | (with_reducible apply obj_put1; omega) | (with_reducible refine obj_setCell_other ?_ _ _ ?_; rotate_left; (dsimp only; omega)) | with_reducible refine obj_alloc ?_ _ | with_reducible refine obj_drew ?_ | exact hbn_6)
  · skip
    repeat (first | with_reducible exact hby_6 | (with_reducible refine obj_alloc_at ?_; simp; done) | (with_reducible apply obj_put4; omega) | (with_reducible apply obj_put1; omega) | (with_reducible refine obj_setCell_other ?_ _ _ ?_; rotate_left; (dsimp only; omega)) | with_reducible refine obj_alloc ?_ _ | with_reducible refine obj_drew ?_ | exact hby_6)
  · skip
    repeat (first | with_reducible exact hbu_6 | (with_reducible refine obj_alloc_at ?_; simp; done) | (with_reducible apply obj_put4; omega) | (with_reducible apply obj_put1; omega) | (with_reducible refine obj_setCell_other ?_ _ _ ?_; rotate_left; (dsimp only; omega)) | with_reducible refine obj_alloc ?_ _ | with_reducible refine obj_drew ?_ | exact hbu_6)
  · skip
    repeat (first | with_reducible exact hba_6 | (with_reducible refine obj_alloc_at ?_; simp; done) | (with_reducible apply obj_put4; omega) | (with_reducible apply obj_put1; omega) | (with_reducible refine obj_setCell_other ?_ _ _ ?_; rotate_left; (dsimp only; omega)) | with_reducible refine obj_alloc ?_ _ | with_reducible refine obj_drew ?_ | exact hba_6)
  · skip
    repeat (first | (with_reducible refine obj_alloc_at ?_; simp; done) | (with_reducible apply obj_put4; omega) | (with_reducible apply obj_put1; omega) | (with_reducible refine obj_setCell_other ?_ _ _ ?_; rotate_left; (dsimp only; omega)) | with_reducible refine obj_alloc ?_ _ | with_reducible refine obj_drew ?_)
  clear hbn_6 hby_6 hbu_6 hba_6 ln ly lu la hl po0 po1 cn_0 cn_1 cn_2 cn_3 zn cy_0 cy_1 cy_2 cy_3 zy cu_0 cu_1 cu_2 cu_3 zu ca_0 ca_1 ca_2 ca_3 za hfw_6
  rintro w7 ⟨hfw_7, hbn_7, hby_7, hbu_7, hba_7, hbb_7⟩
  obtain ⟨cn_0, cn_1, cn_2, cn_3⟩ := v_cells (v := noV) hbn_7
  dsimp only [noV] at cn_0 cn_1 cn_2 cn_3
  have zn := frozen_of_obj hbn_7
  obtain ⟨cy_0, cy_1, cy_2, cy_3⟩ := v_cells (v := yesV) hby_7
  dsimp only [yesV] at cy_0 cy_1 cy_2 cy_3
  have zy := frozen_of_obj hby_7
  obtain ⟨cu_0, cu_1, cu_2, cu_3⟩ := v_cells (v := zV) hbu_7
  dsimp only [zV] at cu_0 cu_1 cu_2 cu_3
  have zu := frozen_of_obj hbu_7
  obtain ⟨ca_0, ca_1, ca_2, ca_3⟩ := v_cells (v := noV) hba_7
  dsimp only [noV] at ca_0 ca_1 ca_2 ca_3
  have za := frozen_of_obj hba_7
  obtain ⟨cb_0, cb_1, cb_2, cb_3⟩ := v_cells (v := zV) hbb_7
  dsimp only [zV] at cb_0 cb_1 cb_2 cb_3
  have zb := frozen_of_obj hbb_7
  go_wp2_with fail
  refine (HI1.out _).mono ?_
  rintro e w8 ⟨rfl, hf8⟩
  have ln := obj_lt hbn_7
  have ly := obj_lt hby_7
  have lu := obj_lt hbu_7
  have la := obj_lt hba_7
  have lb := obj_lt hbb_7
  have hl := hfw_7.size
  have po0 := o0.out
  have po1 := o1.out
  have hbn_8 : w8.heap[w2.heap.size]? = some (.cells #[.int .u8 2, .int .i64 0, .int .i64 0, .string ⟨#[]⟩] 23 (0, 0)) := by
    refine hf8.obj (fun x => x) ?_
    repeat (first | with_reducible exact hbn_7 | (with_reducible refine obj_alloc_at ?_; simp; done) | (with_reducible apply obj_put4; omega) | (with_reducible apply obj_put1; omega) | (with_reducible refine obj_setCell_other ?_ _ _ ?_; rotate_left; (dsimp only; omega)) | with_reducible refine obj_alloc ?_ _ | with_reducible refine obj_drew ?_ | exact hbn_7)
  have hby_8 : w8.heap[w2.heap.size + 1]? = some (.cells #[.int .u8 2, .int .i64 1, .int .i64 0, .string ⟨#[]⟩] 23 (0, 0)) := by
    refine hf8.obj (fun x => x) ?_
    repeat (first | with_reducible exact hby_7 | (with_reducible refine obj_alloc_at ?_; simp; done) | (with_reducible apply obj_put4; omega) | (with_reducible apply obj_put1; omega) | (with_reducible refine obj_setCell_other ?_ _ _ ?_; rotate_left; (dsimp only; omega)) | with_reducible refine obj_alloc ?_ _ | with_reducible refine obj_drew ?_ | exact hby_7)
  have hbu_8 : w8.heap[w2.heap.size + 2]? = some (.cells #[.int .u8 0, .int .i64 0, .int .i64 0, .string ⟨#[]⟩] 23 (0, 0)) := by
    refine hf8.obj (fun x => x) ?_
    repeat (first | with_reducible exact hbu_7 | (with_reducible refine obj_alloc_at ?_; simp; done) | (with_reducible apply obj_put4; omega) | (with_reducible apply obj_put1; omega) | (with_reducible refine obj_setCell_other ?_ _ _ ?_; rotate_left; (dsimp only; omega)) | with_reducible refine obj_alloc ?_ _ | with_reducible refine obj_drew ?_ | exact hbu_7)
  have hba_8 : w8.heap[w4.heap.size]? = some (.cells #[.int .u8 2, .int .i64 0, .int .i64 0, .string ⟨#[]⟩] 23 (0, 0)) := by
    refine hf8.obj (fun x => x) ?_
    repeat (first | with_reducible exact hba_7 | (with_reducible refine obj_alloc_at ?_; simp; done) | (with_reducible apply obj_put4; omega) | (with_reducible apply obj_put1; omega) | (with_reducible refine obj_setCell_other ?_ _ _ ?_; rotate_left; (dsimp only; omega)) | with_reducible refine obj_alloc ?_ _ | with_reducible refine obj_drew ?_ | exact hba_7)
  have hbb_8 : w8.heap[w6.heap.size]? = some (.cells #[.int .u8 0, .int .i64 0, .int .i64 0, .string ⟨#[]⟩] 23 (0, 0)) := by
    refine hf8.obj (fun x => x) ?_
    repeat (first | with_reducible exact hbb_7 | (with_reducible refine obj_alloc_at ?_; simp; done) | (with_reducible apply obj_put4; omega) | (with_reducible apply obj_put1; omega) | (with_reducible refine obj_setCell_other ?_ _ _ ?_; rotate_left; (dsimp only; omega)) | with_reducible refine obj_alloc ?_ _ | with_reducible refine obj_drew ?_ | exact hbb_7)
  have hfw_8 : Fr noB w w8 := by
    refine Fr.transN ?_ hf8
    repeat (first | with_reducible exact hfw_7 | with_reducible refine Fr.alloc ?_ _ | (with_reducible refine Fr.setCell ?_ ?_ _; rotate_left; (intro h; dsimp only at h; omega)) | with_reducible refine Fr.drew ?_ | exact hfw_7)
  clear hbn_7 hby_7 hbu_7 hba_7 hbb_7 ln ly lu la lb hl po0 po1 cn_0 cn_1 cn_2 cn_3 zn cy_0 cy_1 cy_2 cy_3 zy cu_0 cu_1 cu_2 cu_3 zu ca_0 ca_1 ca_2 ca_3 za cb_0 cb_1 cb_2 cb_3 zb hf8 hfw_7
  obtain ⟨cn_0, cn_1, cn_2, cn_3⟩ := v_cells (v := noV) hbn_8
  dsimp only [noV] at cn_0 cn_1 cn_2 cn_3
  have zn := frozen_of_obj hbn_8
  obtain ⟨cy_0, cy_1, cy_2, cy_3⟩ := v_cells (v := yesV) hby_8
  dsimp only [yesV] at cy_0 cy_1 cy_2 cy_3
  have zy := frozen_of_obj hby_8
  obtain ⟨cu_0, cu_1, cu_2, cu_3⟩ := v_cells (v := zV) hbu_8
  dsimp only [zV] at cu_0 cu_1 cu_2 cu_3
  have zu := frozen_of_obj hbu_8
  obtain ⟨ca_0, ca_1, ca_2, ca_3⟩ := v_cells (v := noV) hba_8
  dsimp only [noV] at ca_0 ca_1 ca_2 ca_3
  have za := frozen_of_obj hba_8
  obtain ⟨cb_0, cb_1, cb_2, cb_3⟩ := v_cells (v := zV) hbb_8
  dsimp only [zV] at cb_0 cb_1 cb_2 cb_3
  have zb := frozen_of_obj hbb_8
  go_wp2_with fail
  refine (HI2.out _).mono ?_
  rintro e w9 ⟨rfl, hf9⟩
  have ln := obj_lt hbn_8
  have ly := obj_lt hby_8
  have lu := obj_lt hbu_8
  have la := obj_lt hba_8
  have lb := obj_lt hbb_8
  have hl := hfw_8.size
  have po0 := o0.out
  have po1 := o1.out
  have hbn_9 : w9.heap[w2.heap.size]? = some (.cells #[.int .u8 2, .int .i64 0, .int .i64 0, .string ⟨#[]⟩] 23 (0, 0)) := by
    refine hf9.obj (fun x => x) ?_
    repeat (first | with_reducible exact hbn_8 | (with_reducible refine obj_alloc_at ?_; simp; done) | (with_reducible apply obj_put4; omega) | (with_reducible apply obj_put1; omega) | (with_reducible refine obj_setCell_other ?_ _ _ ?_; rotate_left; (dsimp only; omega)) | with_reducible refine obj_alloc ?_ _ | with_reducible refine obj_drew ?_ | exact hbn_8)
  have hby_9 : w9.heap[w2.heap.size + 1]? = some (.cells #[.int .u8 2, .int .i64 1, .int .i64 0, .string ⟨#[]⟩] 23 (0, 0)) := by
    refine hf9.obj (fun x => x) ?_
    repeat (first | with_reducible exact hby_8 | (with_reducible refine obj_alloc_at ?_; simp; done) | (with_reducible apply obj_put4; omega) | (with_reducible apply obj_put1; omega) | (with_reducible refine obj_setCell_other ?_ _ _ ?_; rotate_left; (dsimp only; omega)) | with_reducible refine obj_alloc ?_ _ | with_reducible refine obj_drew ?_ | exact hby_8)
  have hbu_9 : w9.heap[w2.heap.size + 2]? = some (.cells #[.int .u8 0, .int .i64 0, .int .i64 0, .string ⟨#[]⟩] 23 (0, 0)) := by
    refine hf9.obj (fun x => x) ?_
    repeat (first | with_reducible exact hbu_8 | (with_reducible refine obj_alloc_at ?_; simp; done) | (with_reducible apply obj_put4; omega) | (with_reducible apply obj_put1; omega) | (with_reducible refine obj_setCell_other ?_ _ _ ?_; rotate_left; (dsimp only; omega)) | with_reducible refine obj_alloc ?_ _ | with_reducible refine obj_drew ?_ | exact hbu_8)
  have hba_9 : w9.heap[w4.heap.size]? = some (.cells #[.int .u8 2, .int .i64 0, .int .i64 0, .string ⟨#[]⟩] 23 (0, 0)) := by
    refine hf9.obj (fun x => x) ?_
    repeat (first | with_reducible exact hba_8 | (with_reducible refine obj_alloc_at ?_; simp; done) | (with_reducible apply obj_put4; omega) | (with_reducible apply obj_put1; omega) | (with_reducible refine obj_setCell_other ?_ _ _ ?_; rotate_left; (dsimp only; omega)) | with_reducible refine obj_alloc ?_ _ | with_reducible refine obj_drew ?_ | exact hba_8)
  have hbb_9 : w9.heap[w6.heap.size]? = some (.cells #[.int .u8 0, .int .i64 0, .int .i64 0, .string ⟨#[]⟩] 23 (0, 0)) := by
    refine hf9.obj (fun x => x) ?_
    repeat (first | with_reducible exact hbb_8 | (with_reducible refine obj_alloc_at ?_; simp; done) | (with_reducible apply obj_put4; omega) | (with_reducible apply obj_put1; omega) | (with_reducible refine obj_setCell_other ?_ _ _ ?_; rotate_left; (dsimp only; omega)) | with_reducible refine obj_alloc ?_ _ | with_reducible refine obj_drew ?_ | exact hbb_8)
  have hfw_9 : Fr noB w w9 := by
    refine Fr.transN ?_ hf9
    repeat (first | with_reducible exact hfw_8 | with_reducible refine Fr.alloc ?_ _ | (with_reducible refine Fr.setCell ?_ ?_ _; rotate_left; (intro h; dsimp only at h; omega)) | with_reducible refine Fr.drew ?_ | exact hfw_8)
  clear hbn_8 hby_8 hbu_8 hba_8 hbb_8 ln ly lu la lb hl po0 po1 cn_0 cn_1 cn_2 cn_3 zn cy_0 cy_1 cy_2 cy_3 zy cu_0 cu_1 cu_2 cu_3 zu ca_0 ca_1 ca_2 ca_3 za cb_0 cb_1 cb_2 cb_3 zb hf9 hfw_8
  obtain ⟨cn_0, cn_1, cn_2, cn_3⟩ := v_cells (v := noV) hbn_9
  dsimp only [noV] at cn_0 cn_1 cn_2 cn_3
  have zn := frozen_of_obj hbn_9
  obtain ⟨cy_0, cy_1, cy_2, cy_3⟩ := v_cells (v := yesV) hby_9
  dsimp only [yesV] at cy_0 cy_1 cy_2 cy_3
  have zy := frozen_of_obj hby_9
  obtain ⟨cu_0, cu_1, cu_2, cu_3⟩ := v_cells (v := zV) hbu_9
  dsimp only [zV] at cu_0 cu_1 cu_2 cu_3
  have zu := frozen_of_obj hbu_9
  obtain ⟨ca_0, ca_1, ca_2, ca_3⟩ := v_cells (v := noV) hba_9
  dsimp only [noV] at ca_0 ca_1 ca_2 ca_3
  have za := frozen_of_obj hba_9
  obtain ⟨cb_0, cb_1, cb_2, cb_3⟩ := v_cells (v := zV) hbb_9
  dsimp only [zV] at cb_0 cb_1 cb_2 cb_3
  have zb := frozen_of_obj hbb_9
  go_wp2_with fail
  refine (HAdd.out _).mono ?_
  rintro e w10 ⟨rfl, hf10⟩
  have ln := obj_lt hbn_9
  have ly := obj_lt hby_9
  have lu := obj_lt hbu_9
  have la := obj_lt hba_9
  have lb := obj_lt hbb_9
  have hl := hfw_9.size
  have po0 := o0.out
  have po1 := o1.out
  have hbn_10 : w10.heap[w2.heap.size]? = some (.cells #[.int .u8 2, .int .i64 0, .int .i64 0, .string ⟨#[]⟩] 23 (0, 0)) := by
    refine hf10.obj (fun x => x) ?_
    repeat (first | with_reducible exact hbn_9 | (with_reducible refine obj_alloc_at ?_; simp; done) | (with_reducible apply obj_put4; omega) | (with_reducible apply obj_put1; omega) | (with_reducible refine obj_setCell_other ?_ _ _ ?_; rotate_left; (dsimp only; omega)) | with_reducible refine obj_alloc ?_ _ | with_reducible refine obj_drew ?_ | exact hbn_9)
  have hby_10 : w10.heap[w2.heap.size + 1]? = some (.cells #[.int .u8 2, .int .i64 1, .int .i64 0, .string ⟨#[]⟩] 23 (0, 0)) := by
    refine hf10.obj (fun x => x) ?_
    repeat (first | with_reducible exact hby_9 | (with_reducible refine obj_alloc_at ?_; simp; done) | (with_reducible apply obj_put4; omega) | (with_reducible apply obj_put1; omega) | (with_reducible refine obj_setCell_other ?_ _ _ ?_; rotate_left; (dsimp only; omega)) | with_reducible refine obj_alloc ?_ _ | with_reducible refine obj_drew ?_ | exact hby_9)
  have hbu_10 : w10.heap[w2.heap.size + 2]? = some (.cells #[.int .u8 0, .int .i64 0, .int .i64 0, .string ⟨#[]⟩] 23 (0, 0)) := by
    refine hf10.obj (fun x => x) ?_
    repeat (first | with_reducible exact hbu_9 | (with_reducible refine obj_alloc_at ?_; simp; done) | (with_reducible apply obj_put4; omega) | (with_reducible apply obj_put1; omega) | (with_reducible refine obj_setCell_other ?_ _ _ ?_; rotate_left; (dsimp only; omega)) | with_reducible refine obj_alloc ?_ _ | with_reducible refine obj_drew ?_ | exact hbu_9)
  have hba_10 : w10.heap[w4.heap.size]? = some (.cells #[.int .u8 2, .int .i64 0, .int .i64 0, .string ⟨#[]⟩] 23 (0, 0)) := by
    refine hf10.obj (fun x => x) ?_
    repeat (first | with_reducible exact hba_9 | (with_reducible refine obj_alloc_at ?_; simp; done) | (with_reducible apply obj_put4; omega) | (with_reducible apply obj_put1; omega) | (with_reducible refine obj_setCell_other ?_ _ _ ?_; rotate_left; (dsimp only; omega)) | with_reducible refine obj_alloc ?_ _ | with_reducible refine obj_drew ?_ | exact hba_9)
  have hbb_10 : w10.heap[w6.heap.size]? = some (.cells #[.int .u8 0, .int .i64 0, .int .i64 0, .string ⟨#[]⟩] 23 (0, 0)) := by
    refine hf10.obj (fun x => x) ?_
    repeat (first | with_reducible exact hbb_9 | (with_reducible refine obj_alloc_at ?_; simp; done) | (with_reducible apply obj_put4; omega) | (with_reducible apply obj_put1; omega) | (with_reducible refine obj_setCell_other ?_ _ _ ?_; rotate_left; (dsimp only; omega)) | with_reducible refine obj_alloc ?_ _ | with_reducible refine obj_drew ?_ | exact hbb_9)
  have hfw_10 : Fr noB w w10 := by
    refine Fr.transN ?_ hf10
    repeat (first | with_reducible exact hfw_9 | with_reducible refine Fr.alloc ?_ _ | (with_reducible refine Fr.setCell ?_ ?_ _; rotate_left; (intro h; dsimp only at h; omega)) | with_reducible refine Fr.drew ?_ | exact hfw_9)
  clear hbn_9 hby_9 hbu_9 hba_9 hbb_9 ln ly lu la lb hl po0 po1 cn_0 cn_1 cn_2 cn_3 zn cy_0 cy_1 cy_2 cy_3 zy cu_0 cu_1 cu_2 cu_3 zu ca_0 ca_1 ca_2 ca_3 za cb_0 cb_1 cb_2 cb_3 zb hf10 hfw_9
  obtain ⟨cn_0, cn_1, cn_2, cn_3⟩ := v_cells (v := noV) hbn_10
  dsimp only [noV] at cn_0 cn_1 cn_2 cn_3
  have zn := frozen_of_obj hbn_10
  obtain ⟨cy_0, cy_1, cy_2, cy_3⟩ := v_cells (v := yesV) hby_10
  dsimp only [yesV] at cy_0 cy_1 cy_2 cy_3
  have zy := frozen_of_obj hby_10
  obtain ⟨cu_0, cu_1, cu_2, cu_3⟩ := v_cells (v := zV) hbu_10
  dsimp only [zV] at cu_0 cu_1 cu_2 cu_3
  have zu := frozen_of_obj hbu_10
  obtain ⟨ca_0, ca_1, ca_2, ca_3⟩ := v_cells (v := noV) hba_10
  dsimp only [noV] at ca_0 ca_1 ca_2 ca_3
  have za := frozen_of_obj hba_10
  obtain ⟨cb_0, cb_1, cb_2, cb_3⟩ := v_cells (v := zV) hbb_10
  dsimp only [zV] at cb_0 cb_1 cb_2 cb_3
  have zb := frozen_of_obj hbb_10
  go_upto_region 5 with fail
  have o2 := Lib.hid (obj_lt hbb_10)
  have ln := obj_lt hbn_10
  have ly := obj_lt hby_10
  have lu := obj_lt hbu_10
  have la := obj_lt hba_10
  have lb := obj_lt hbb_10
  have hl := hfw_10.size
  have po0 := o0.out
  have po1 := o1.out
  have po2 := o2.out
  refine wp_world (fun W => Fr noB w W ∧ W.heap[w2.heap.size]? = some (.cells #[.int .u8 2, .int .i64 0, .int .i64 0, .string ⟨#[]⟩] 23 (0, 0)) ∧ W.heap[w2.heap.size + 1]? = some (.cells #[.int .u8 2, .int .i64 1, .int .i64 0, .string ⟨#[]⟩] 23 (0, 0)) ∧ W.heap[w2.heap.size + 2]? = some (.cells #[.int .u8 0, .int .i64 0, .int .i64 0, .string ⟨#[]⟩] 23 (0, 0)) ∧ W.heap[w4.heap.size]? = some (.cells #[.int .u8 2, .int .i64 0, .int .i64 0, .string ⟨#[]⟩] 23 (0, 0)) ∧ W.heap[w6.heap.size]? = some (.cells #[.int .u8 0, .int .i64 0, .int .i64 0, .string ⟨#[]⟩] 23 (0, 0)) ∧ W.heap[w10.heap.size]? = some (.cells #[.int .u8 0, .int .i64 0, .int .i64 0, .string ⟨#[]⟩] 23 (0, 0))) ⟨?_, ?_, ?_, ?_, ?_, ?_, ?_⟩ ?_
  · skip
    repeat (first | with_reducible exact hfw_10 | with_reducible refine Fr.alloc ?_ _ | (with_reducible refine Fr.setCell ?_ ?_ _; rotate_left; (intro h; dsimp only at h; omega)) | with_reducible refine Fr.drew ?_ | exact hfw_10)
  · skip
    repeat (first | with_reducible exact hbn_10 | (with_reducible refine obj_alloc_at ?_; simp; done) | (with_reducible apply obj_put4; omega) | (with_reducible apply obj_put1; omega) | (with_reducible refine obj_setCell_other ?_ _ _ ?_; rotate_left; (dsimp only; omega)) | with_reducible refine obj_alloc ?_ _ | with_reducible refine obj_drew ?_ | exact hbn_10)
  · skip
    repeat (first | with_reducible exact hby_10 | (with_reducible refine obj_alloc_at ?_; simp; done) | (with_reducible apply obj_put4; omega) | (with_reducible apply obj_put1; omega) | (with_reducible refine obj_setCell_other ?_ _ _ ?_; rotate_left; (dsimp only; omega)) | with_reducible refine obj_alloc ?_ _ | with_reducible refine obj_drew ?_ | exact hby_10)
  · skip
    repeat (first | with_reducible exact hbu_10 | (with_reducible refine obj_alloc_at ?_; simp; done) | (with_reducible apply obj_put4; omega) | (with_reducible apply obj_put1; omega) | (with_reducible refine obj_setCell_other ?_ _ _ ?_; rotate_left; (dsimp only; omega)) | with_reducible refine obj_alloc ?_ _ | with_reducible refine obj_drew ?_ | exact hbu_10)
  · skip
    repeat (first | with_reducible exact hba_10 | (with_reducible refine obj_alloc_at ?_; simp; done) | (with_reducible apply obj_put4; omega) | (with_reducible apply obj_put1; omega) | (with_reducible refine obj_setCell_other ?_ _ _ ?_; rotate_left; (dsimp only; omega)) | with_reducible refine obj_alloc ?_ _ | with_reducible refine obj_drew ?_ | exact hba_10)
  · skip
    repeat (first | with_reducible exact hbb_10 | (with_reducible refine obj_alloc_at ?_; simp; done) | (with_reducible apply obj_put4; omega) | (with_reducible apply obj_put1; omega) | (with_reducible refine obj_setCell_other ?_ _ _ ?_; rotate_left; (dsimp only; omega)) | with_reducible refine obj_alloc ?_ _ | with_reducible refine obj_drew ?_ | exact hbb_10)
  · skip
    repeat (first | (with_reducible refine obj_alloc_at ?_; simp; done) | (with_reducible apply obj_put4; omega) | (with_reducible apply obj_put1; omega) | (with_reducible refine obj_setCell_other ?_ _ _ ?_; rotate_left; (dsimp only; omega)) | with_reducible refine obj_alloc ?_ _ | with_reducible refine obj_drew ?_)
  clear hbn_10 hby_10 hbu_10 hba_10 hbb_10 ln ly lu la lb hl po0 po1 po2 cn_0 cn_1 cn_2 cn_3 zn cy_0 cy_1 cy_2 cy_3 zy cu_0 cu_1 cu_2 cu_3 zu ca_0 ca_1 ca_2 ca_3 za cb_0 cb_1 cb_2 cb_3 zb hfw_10
  rintro w11 ⟨hfw_11, hbn_11, hby_11, hbu_11, hba_11, hbb_11, hbg_11⟩
  obtain ⟨cn_0, cn_1, cn_2, cn_3⟩ := v_cells (v := noV) hbn_11
  dsimp only [noV] at cn_0 cn_1 cn_2 cn_3
  have zn := frozen_of_obj hbn_11
  obtain ⟨cy_0, cy_1, cy_2, cy_3⟩ := v_cells (v := yesV) hby_11
  dsimp only [yesV] at cy_0 cy_1 cy_2 cy_3
  have zy := frozen_of_obj hby_11
  obtain ⟨cu_0, cu_1, cu_2, cu_3⟩ := v_cells (v := zV) hbu_11
  dsimp only [zV] at cu_0 cu_1 cu_2 cu_3
  have zu := frozen_of_obj hbu_11
  obtain ⟨ca_0, ca_1, ca_2, ca_3⟩ := v_cells (v := noV) hba_11
  dsimp only [noV] at ca_0 ca_1 ca_2 ca_3
  have za := frozen_of_obj hba_11
  obtain ⟨cb_0, cb_1, cb_2, cb_3⟩ := v_cells (v := zV) hbb_11
  dsimp only [zV] at cb_0 cb_1 cb_2 cb_3
  have zb := frozen_of_obj hbb_11
  obtain ⟨cg_0, cg_1, cg_2, cg_3⟩ := v_cells (v := zV) hbg_11
  dsimp only [zV] at cg_0 cg_1 cg_2 cg_3
  have zg := frozen_of_obj hbg_11
  go_upto_region 5 with fail
  have ln := obj_lt hbn_11
  have ly := obj_lt hby_11
  have lu := obj_lt hbu_11
  have la := obj_lt hba_11
  have lb := obj_lt hbb_11
  have lg := obj_lt hbg_11
  have hl := hfw_11.size
  have po0 := o0.out
  have po1 := o1.out
  have po2 := o2.out
  refine wp_world (fun W => Fr noB w W ∧ W.heap[w2.heap.size]? = some (.cells #[.int .u8 2, .int .i64 0, .int .i64 0, .string ⟨#[]⟩] 23 (0, 0)) ∧ W.heap[w2.heap.size + 1]? = some (.cells #[.int .u8 2, .int .i64 1, .int .i64 0, .string ⟨#[]⟩] 23 (0, 0)) ∧ W.heap[w2.heap.size + 2]? = some (.cells #[.int .u8 0, .int .i64 0, .int .i64 0, .string ⟨#[]⟩] 23 (0, 0)) ∧ W.heap[w4.heap.size]? = some (.cells #[.int .u8 2, .int .i64 0, .int .i64 0, .string ⟨#[]⟩] 23 (0, 0)) ∧ W.heap[w6.heap.size]? = some (.cells #[.int .u8 0, .int .i64 0, .int .i64 0, .string ⟨#[]⟩] 23 (0, 0)) ∧ W.heap[w10.heap.size]? = some (.cells #[.int .u8 0, .int .i64 0, .int .i64 0, .string ⟨#[]⟩] 23 (0, 0))) ⟨?_, ?_, ?_, ?_, ?_, ?_, ?_⟩ ?_
  · skip
    repeat (first | with_reducible exact hfw_11 | with_reducible refine Fr.alloc ?_ _ | (with_reducible refine Fr.setCell ?_ ?_ _; rotate_left; (intro h; dsimp only at h; omega)) | with_reducible refine Fr.drew ?_ | exact hfw_11)
  · skip
    repeat (first | with_reducible exact hbn_11 | (with_reducible refine obj_alloc_at ?_; simp; done) | (with_reducible apply obj_put4; omega) | (with_reducible apply obj_put1; omega) | (with_reducible refine obj_setCell_other ?_ _ _ ?_; rotate_left; (dsimp only; omega)) | with_reducible refine obj_alloc ?_ _ | with_reducible refine obj_drew ?_ | exact hbn_11)
  · skip
    repeat (first | with_reducible exact hby_11 | (with_reducible refine obj_alloc_at ?_; simp; done) | (with_reducible apply obj_put4; omega) | (with_reducible apply obj_put1; omega) | (with_reducible refine obj_setCell_other ?_ _ _ ?_; rotate_left; (dsimp only; omega)) | with_reducible refine obj_alloc ?_ _ | with_reducible refine obj_drew ?_ | exact hby_11)
  · skip
    repeat (first | with_reducible exact hbu_11 | (with_reducible refine obj_alloc_at ?_; simp; done) | (with_reducible apply obj_put4; omega) | (with_reducible apply obj_put1; omega) | (with_reducible refine obj_setCell_other ?_ _ _ ?_; rotate_left; (dsimp only; omega)) | with_reducible refine obj_alloc ?_ _ | with_reducible refine obj_drew ?_ | exact hbu_11)
  · skip
    repeat (first | with_reducible exact hba_11 | (with_reducible refine obj_alloc_at ?_; simp; done) | (with_reducible apply obj_put4; omega) | (with_reducible apply obj_put1; omega) | (with_reducible refine obj_setCell_other ?_ _ _ ?_; rotate_left; (dsimp only; omega)) | with_reducible refine obj_alloc ?_ _ | with_reducible refine obj_drew ?_ | exact hba_11)
  · skip
    repeat (first | with_reducible exact hbb_11 | (with_reducible refine obj_alloc_at ?_; simp; done) | (with_reducible apply obj_put4; omega) | (with_reducible apply obj_put1; omega) | (with_reducible refine obj_setCell_other ?_ _ _ ?_; rotate_left; (dsimp only; omega)) | with_reducible refine obj_alloc ?_ _ | with_reducible refine obj_drew ?_ | exact hbb_11)
  · skip
    repeat (first | with_reducible exact hbg_11 | (with_reducible refine obj_alloc_at ?_; simp; done) | (with_reducible apply obj_put4; omega) | (with_reducible apply obj_put1; omega) | (with_reducible refine obj_setCell_other ?_ _ _ ?_; rotate_left; (dsimp only; omega)) | with_reducible refine obj_alloc ?_ _ | with_reducible refine obj_drew ?_ | exact hbg_11)
  clear hbn_11 hby_11 hbu_11 hba_11 hbb_11 hbg_11 ln ly lu la lb lg hl po0 po1 po2 cn_0 cn_1 cn_2 cn_3 zn cy_0 cy_1 cy_2 cy_3 zy cu_0 cu_1 cu_2 cu_3 zu ca_0 ca_1 ca_2 ca_3 za cb_0 cb_1 cb_2 cb_3 zb cg_0 cg_1 cg_2 cg_3 zg hfw_11
  rintro w12 ⟨hfw_12, hbn_12, hby_12, hbu_12, hba_12, hbb_12, hbg_12⟩
  obtain ⟨cn_0, cn_1, cn_2, cn_3⟩ := v_cells (v := noV) hbn_12
  dsimp only [noV] at cn_0 cn_1 cn_2 cn_3
  have zn := frozen_of_obj hbn_12
  obtain ⟨cy_0, cy_1, cy_2, cy_3⟩ := v_cells (v := yesV) hby_12
  dsimp only [yesV] at cy_0 cy_1 cy_2 cy_3
  have zy := frozen_of_obj hby_12
  obtain ⟨cu_0, cu_1, cu_2, cu_3⟩ := v_cells (v := zV) hbu_12
  dsimp only [zV] at cu_0 cu_1 cu_2 cu_3
  have zu := frozen_of_obj hbu_12
  obtain ⟨ca_0, ca_1, ca_2, ca_3⟩ := v_cells (v := noV) hba_12
  dsimp only [noV] at ca_0 ca_1 ca_2 ca_3
  have za := frozen_of_obj hba_12
  obtain ⟨cb_0, cb_1, cb_2, cb_3⟩ := v_cells (v := zV) hbb_12
  dsimp only [zV] at cb_0 cb_1 cb_2 cb_3
  have zb := frozen_of_obj hbb_12
  obtain ⟨cg_0, cg_1, cg_2, cg_3⟩ := v_cells (v := zV) hbg_12
  dsimp only [zV] at cg_0 cg_1 cg_2 cg_3
  have zg := frozen_of_obj hbg_12
  go_cut [10, 11] (fun s10 s11 wx => ∃ qc : Nat, s10 = .pointer (some ⟨qc, 0, none⟩) ∧ s11 = .int .i64 0 ∧ Fr noB w12 wx ∧ w12.heap.size ≤ qc ∧ wx.heap[qc]? = some (.cells #[.int .u8 0, .int .i64 0, .int .i64 0, .string ⟨#[]⟩] 23 (0, 0)))
  case first =>
    have hqu := obj_drew hbu_12
    have fz : ∀ (X : World) (o : Nat), (X.alloc (.cells #[.int .u8 0, .int .i64 0, .int .i64 0, .string ⟨#[]⟩] 23 (0, 0))).frozen? ⟨X.heap.size, o, none⟩ = false := fun X o => frozen_of_obj (obj_alloc_new X _) o
    have fc : ∀ X : World, (X.alloc (.cells #[.int .u8 0, .int .i64 0, .int .i64 0, .string ⟨#[]⟩] 23 (0, 0))).cell? ⟨X.heap.size, 0, none⟩ = some (.int .u8 0) ∧ (X.alloc (.cells #[.int .u8 0, .int .i64 0, .int .i64 0, .string ⟨#[]⟩] 23 (0, 0))).cell? ⟨X.heap.size, 1, none⟩ = some (.int .i64 0) ∧ (X.alloc (.cells #[.int .u8 0, .int .i64 0, .int .i64 0, .string ⟨#[]⟩] 23 (0, 0))).cell? ⟨X.heap.size, 2, none⟩ = some (.int .i64 0) ∧ (X.alloc (.cells #[.int .u8 0, .int .i64 0, .int .i64 0, .string ⟨#[]⟩] 23 (0, 0))).cell? ⟨X.heap.size, 3, none⟩ = some (.string ⟨#[]⟩) := fun X => v_cells (v := zV) (obj_alloc_new X _)
    have lu := obj_lt hbu_12
    have hdq : w12.drew.heap.size = w12.heap.size := rfl
    have hvu : ∀ X : World, X.heap[w2.heap.size + 2]? = some (.cells #[.int .u8 0, .int .i64 0, .int .i64 0, .string ⟨#[]⟩] 23 (0, 0)) → X.cell? ⟨w2.heap.size + 2, 0, none⟩ = some (.int .u8 0) ∧ X.cell? ⟨w2.heap.size + 2, 1, none⟩ = some (.int .i64 0) ∧ X.cell? ⟨w2.heap.size + 2, 2, none⟩ = some (.int .i64 0) ∧ X.cell? ⟨w2.heap.size + 2, 3, none⟩ = some (.string ⟨#[]⟩) := fun X h => v_cells (v := zV) h
    go_region_held3 (fun X : World => X.cell? ⟨w2.heap.size + 2, 0, none⟩ = some (.int .u8 0) ∧ X.cell? ⟨w2.heap.size + 2, 1, none⟩ = some (.int .i64 0) ∧ X.cell? ⟨w2.heap.size + 2, 2, none⟩ = some (.int .i64 0) ∧ X.cell? ⟨w2.heap.size + 2, 3, none⟩ = some (.string ⟨#[]⟩)) ((refine (hvu _ ?_) <;> repeat (first | with_reducible exact hqu | with_reducible exact hbu_12 | with_reducible refine obj_alloc ?_ _ | (with_reducible refine obj_setCell_other ?_ _ _ ?_; rotate_left; (dsimp only; omega)) | with_reducible refine obj_drew ?_))) (first | (go_at_call 19; refine (HI5.out _).mono ?_; rintro e x0 ⟨rfl, hG0⟩; have k0 := hG0.size; refine have_of (p := x0.heap[w2.heap.size + 2]? = some (.cells #[.int .u8 0, .int .i64 0, .int .i64 0, .string ⟨#[]⟩] 23 (0, 0))) ?_ (fun hqu => ?_); (focus (refine hG0.obj (noB_not _) ?_; repeat (first | with_reducible exact hqu | with_reducible exact hbu_12 | with_reducible refine obj_alloc ?_ _ | with_reducible refine obj_drew ?_))); (first | (have hnn := hG0.obj (fun x => x) hnn) | (with_reducible have hnn := hG0.obj (noB_not _) (obj_alloc_new _ _)) | (with_reducible have hnn := hG0.obj (noB_not _) (obj_drew (obj_alloc_new _ _))) | skip); (first | (have znn := frozen_of_obj hnn; obtain ⟨n0, n1, n2, n3⟩ := v_cells (v := zV) hnn) | skip)) | (go_at_call 23; refine (HMul.out _).mono ?_; rintro e x1 ⟨rfl, hG1⟩; have k1 := hG1.size; refine have_of (p := x1.heap[w2.heap.size + 2]? = some (.cells #[.int .u8 0, .int .i64 0, .int .i64 0, .string ⟨#[]⟩] 23 (0, 0))) ?_ (fun hqu => ?_); (focus (refine hG1.obj (noB_not _) ?_; repeat (first | with_reducible exact hqu | with_reducible exact hbu_12 | with_reducible refine obj_alloc ?_ _ | with_reducible refine obj_drew ?_))); (first | (have hnn := hG1.obj (fun x => x) hnn) | (with_reducible have hnn := hG1.obj (noB_not _) (obj_alloc_new _ _)) | (with_reducible have hnn := hG1.obj (noB_not _) (obj_drew (obj_alloc_new _ _))) | skip); (first | (have znn := frozen_of_obj hnn; obtain ⟨n0, n1, n2, n3⟩ := v_cells (v := zV) hnn) | skip)))
    all_goals (go_wp2_with fail; go_meet)
    all_goals (have hfr0 := Fr.refl noB w12; refine ⟨_, rfl, rfl, ?_, ?_, ?_⟩)
    all_goals (first | ((repeat (first | with_reducible exact hfr0 | with_reducible refine Fr.transN ?_ hG1 | with_reducible refine Fr.transN ?_ hG0 | with_reducible refine Fr.alloc ?_ _ | (with_reducible refine Fr.setCell ?_ ?_ _; rotate_left; (intro h; dsimp only at h; omega)) | with_reducible refine Fr.drew ?_ | exact hfr0)); done) | ((try simp only [World.size_alloc] at k0); (try simp only [World.size_alloc] at k1); omega) | ((repeat (first | with_reducible exact hnn | (with_reducible refine obj_alloc_at ?_; simp; done) | (with_reducible apply obj_put4; omega) | (with_reducible refine obj_setCell_other ?_ _ _ ?_; rotate_left; (dsimp only; omega)) | with_reducible refine obj_alloc ?_ _ | with_reducible refine obj_drew ?_)); done))
  case rest =>
    obtain ⟨qc, rfl, rfl, hf13, hgc, hbc_13⟩ := hcut
    obtain ⟨w13, rfl⟩ : ∃ x, x = wc := ⟨_, rfl⟩
    have o3 := Lib.hid (obj_lt hbg_12)
    have o4 := Lib.hid hgc
    have hbn_13 := hf13.obj (fun x => x) hbn_12
    have hby_13 := hf13.obj (fun x => x) hby_12
    have hbu_13 := hf13.obj (fun x => x) hbu_12
    have hba_13 := hf13.obj (fun x => x) hba_12
    have hbb_13 := hf13.obj (fun x => x) hbb_12
    have hbg_13 := hf13.obj (fun x => x) hbg_12
    have hfw_13 := hfw_12.transN hf13
    clear hbn_12 hby_12 hbu_12 hba_12 hbb_12 hbg_12 cn_0 cn_1 cn_2 cn_3 zn cy_0 cy_1 cy_2 cy_3 zy cu_0 cu_1 cu_2 cu_3 zu ca_0 ca_1 ca_2 ca_3 za cb_0 cb_1 cb_2 cb_3 zb cg_0 cg_1 cg_2 cg_3 zg hf13 hfw_12 hgc
    obtain ⟨cn_0, cn_1, cn_2, cn_3⟩ := v_cells (v := noV) hbn_13
    dsimp only [noV] at cn_0 cn_1 cn_2 cn_3
    have zn := frozen_of_obj hbn_13
    obtain ⟨cy_0, cy_1, cy_2, cy_3⟩ := v_cells (v := yesV) hby_13
    dsimp only [yesV] at cy_0 cy_1 cy_2 cy_3
    have zy := frozen_of_obj hby_13
    obtain ⟨cu_0, cu_1, cu_2, cu_3⟩ := v_cells (v := zV) hbu_13
    dsimp only [zV] at cu_0 cu_1 cu_2 cu_3
    have zu := frozen_of_obj hbu_13
    obtain ⟨ca_0, ca_1, ca_2, ca_3⟩ := v_cells (v := noV) hba_13
    dsimp only [noV] at ca_0 ca_1 ca_2 ca_3
    have za := frozen_of_obj hba_13
    obtain ⟨cb_0, cb_1, cb_2, cb_3⟩ := v_cells (v := zV) hbb_13
    dsimp only [zV] at cb_0 cb_1 cb_2 cb_3
    have zb := frozen_of_obj hbb_13
    obtain ⟨cg_0, cg_1, cg_2, cg_3⟩ := v_cells (v := zV) hbg_13
    dsimp only [zV] at cg_0 cg_1 cg_2 cg_3
    have zg := frozen_of_obj hbg_13
    obtain ⟨cc_0, cc_1, cc_2, cc_3⟩ := v_cells (v := zV) hbc_13
    dsimp only [zV] at cc_0 cc_1 cc_2 cc_3
    have zc := frozen_of_obj hbc_13
    go_wp2_with fail
    refine (HI2.out _).mono ?_
    rintro e w14 ⟨rfl, hf14⟩
    have ln := obj_lt hbn_13
    have ly := obj_lt hby_13
    have lu := obj_lt hbu_13
    have la := obj_lt hba_13
    have lb := obj_lt hbb_13
    have lg := obj_lt hbg_13
    have lc := obj_lt hbc_13
    have hl := hfw_13.size
    have po0 := o0.out
    have po1 := o1.out
    have po2 := o2.out
    have po3 := o3.out
    have po4 := o4.out
    have hbn_14 : w14.heap[w2.heap.size]? = some (.cells #[.int .u8 2, .int .i64 0, .int .i64 0, .string ⟨#[]⟩] 23 (0, 0)) := by
      refine hf14.obj (fun x => x) ?_
      repeat (first | with_reducible exact hbn_13 | (with_reducible refine obj_alloc_at ?_; simp; done) | (with_reducible apply obj_put4; omega) | (with_reducible apply obj_put1; omega) | (with_reducible refine obj_setCell_other ?_ _ _ ?_; rotate_left; (dsimp only; omega)) | with_reducible refine obj_alloc ?_ _ | with_reducible refine obj_drew ?_ | exact hbn_13)
    have hby_14 : w14.heap[w2.heap.size + 1]? = some (.cells #[.int .u8 2, .int .i64 1, .int .i64 0, .string ⟨#[]⟩] 23 (0, 0)) := by
      refine hf14.obj (fun x => x) ?_
      repeat (first | with_reducible exact hby_13 | (with_reducible refine obj_alloc_at ?_; simp; done) | (with_reducible apply obj_put4; omega) | (with_reducible apply obj_put1; omega) | (with_reducible refine obj_setCell_other ?_ _ _ ?_; rotate_left; (dsimp only; omega)) | with_reducible refine obj_alloc ?_ _ | with_reducible refine obj_drew ?_ | exact hby_13)
    have hbu_14 : w14.heap[w2.heap.size + 2]? = some (.cells #[.int .u8 0, .int .i64 0, .int .i64 0, .string ⟨#[]⟩] 23 (0, 0)) := by
      refine hf14.obj (fun x => x) ?_
      repeat (first | with_reducible exact hbu_13 | (with_reducible refine obj_alloc_at ?_; simp; done) | (with_reducible apply obj_put4; omega) | (with_reducible apply obj_put1; omega) | (with_reducible refine obj_setCell_other ?_ _ _ ?_; rotate_left; (dsimp only; omega)) | with_reducible refine obj_alloc ?_ _ | with_reducible refine obj_drew ?_ | exact hbu_13)
    have hba_14 : w14.heap[w4.heap.size]? = some (.cells #[.int .u8 2, .int .i64 0, .int .i64 0, .string ⟨#[]⟩] 23 (0, 0)) := by
      refine hf14.obj (fun x => x) ?_
      repeat (first | with_reducible exact hba_13 | (with_reducible refine obj_alloc_at ?_; simp; done) | (with_reducible apply obj_put4; omega) | (with_reducible apply obj_put1; omega) | (with_reducible refine obj_setCell_other ?_ _ _ ?_; rotate_left; (dsimp only; omega)) | with_reducible refine obj_alloc ?_ _ | with_reducible refine obj_drew ?_ | exact hba_13)
    have hbb_14 : w14.heap[w6.heap.size]? = some (.cells #[.int .u8 0, .int .i64 0, .int .i64 0, .string ⟨#[]⟩] 23 (0, 0)) := by
      refine hf14.obj (fun x => x) ?_
      repeat (first | with_reducible exact hbb_13 | (with_reducible refine obj_alloc_at ?_; simp; done) | (with_reducible apply obj_put4; omega) | (with_reducible apply obj_put1; omega) | (with_reducible refine obj_setCell_other ?_ _ _ ?_; rotate_left; (dsimp only; omega)) | with_reducible refine obj_alloc ?_ _ | with_reducible refine obj_drew ?_ | exact hbb_13)
    have hbg_14 : w14.heap[w10.heap.size]? = some (.cells #[.int .u8 0, .int .i64 0, .int .i64 0, .string ⟨#[]⟩] 23 (0, 0)) := by
      refine hf14.obj (fun x => x) ?_
      repeat (first | with_reducible exact hbg_13 | (with_reducible refine obj_alloc_at ?_; simp; done) | (with_reducible apply obj_put4; omega) | (with_reducible apply obj_put1; omega) | (with_reducible refine obj_setCell_other ?_ _ _ ?_; rotate_left; (dsimp only; omega)) | with_reducible refine obj_alloc ?_ _ | with_reducible refine obj_drew ?_ | exact hbg_13)
    have hbc_14 : w14.heap[qc]? = some (.cells #[.int .u8 0, .int .i64 0, .int .i64 0, .string ⟨#[]⟩] 23 (0, 0)) := by
      refine hf14.obj (fun x => x) ?_
      repeat (first | with_reducible exact hbc_13 | (with_reducible refine obj_alloc_at ?_; simp; done) | (with_reducible apply obj_put4; omega) | (with_reducible apply obj_put1; omega) | (with_reducible refine obj_setCell_other ?_ _ _ ?_; rotate_left; (dsimp only; omega)) | with_reducible refine obj_alloc ?_ _ | with_reducible refine obj_drew ?_ | exact hbc_13)
    have hfw_14 : Fr noB w w14 := by
      refine Fr.transN ?_ hf14
      repeat (first | with_reducible exact hfw_13 | with_reducible refine Fr.alloc ?_ _ | (with_reducible refine Fr.setCell ?_ ?_ _; rotate_left; (intro h; dsimp only at h; omega)) | with_reducible refine Fr.drew ?_ | exact hfw_13)
    clear hbn_13 hby_13 hbu_13 hba_13 hbb_13 hbg_13 hbc_13 ln ly lu la lb lg lc hl po0 po1 po2 po3 po4 cn_0 cn_1 cn_2 cn_3 zn cy_0 cy_1 cy_2 cy_3 zy cu_0 cu_1 cu_2 cu_3 zu ca_0 ca_1 ca_2 ca_3 za cb_0 cb_1 cb_2 cb_3 zb cg_0 cg_1 cg_2 cg_3 zg cc_0 cc_1 cc_2 cc_3 zc hf14 hfw_13
    obtain ⟨cn_0, cn_1, cn_2, cn_3⟩ := v_cells (v := noV) hbn_14
    dsimp only [noV] at cn_0 cn_1 cn_2 cn_3
    have zn := frozen_of_obj hbn_14
    obtain ⟨cy_0, cy_1, cy_2, cy_3⟩ := v_cells (v := yesV) hby_14
    dsimp only [yesV] at cy_0 cy_1 cy_2 cy_3
    have zy := frozen_of_obj hby_14
    obtain ⟨cu_0, cu_1, cu_2, cu_3⟩ := v_cells (v := zV) hbu_14
    dsimp only [zV] at cu_0 cu_1 cu_2 cu_3
    have zu := frozen_of_obj hbu_14
    obtain ⟨ca_0, ca_1, ca_2, ca_3⟩ := v_cells (v := noV) hba_14
    dsimp only [noV] at ca_0 ca_1 ca_2 ca_3
    have za := frozen_of_obj hba_14
    obtain ⟨cb_0, cb_1, cb_2, cb_3⟩ := v_cells (v := zV) hbb_14
    dsimp only [zV] at cb_0 cb_1 cb_2 cb_3
    have zb := frozen_of_obj hbb_14
    obtain ⟨cg_0, cg_1, cg_2, cg_3⟩ := v_cells (v := zV) hbg_14
    dsimp only [zV] at cg_0 cg_1 cg_2 cg_3
    have zg := frozen_of_obj hbg_14
    obtain ⟨cc_0, cc_1, cc_2, cc_3⟩ := v_cells (v := zV) hbc_14
    dsimp only [zV] at cc_0 cc_1 cc_2 cc_3
    have zc := frozen_of_obj hbc_14
    go_wp2_with fail
    refine (HEq.out _).mono ?_
    rintro e w15 ⟨rfl, hf15⟩
    have ln := obj_lt hbn_14
    have ly := obj_lt hby_14
    have lu := obj_lt hbu_14
    have la := obj_lt hba_14
    have lb := obj_lt hbb_14
    have lg := obj_lt hbg_14
    have lc := obj_lt hbc_14
    have hl := hfw_14.size
    have po0 := o0.out
    have po1 := o1.out
    have po2 := o2.out
    have po3 := o3.out
    have po4 := o4.out
    have hbn_15 : w15.heap[w2.heap.size]? = some (.cells #[.int .u8 2, .int .i64 0, .int .i64 0, .string ⟨#[]⟩] 23 (0, 0)) := by
      refine hf15.obj (fun x => x) ?_
      repeat (first | with_reducible exact hbn_14 | (with_reducible refine obj_alloc_at ?_; simp; done) | (with_reducible apply obj_put4; omega) | (with_reducible apply obj_put1; omega) | (with_reducible refine obj_setCell_other ?_ _ _ ?_; rotate_left; (dsimp only; omega)) | with_reducible refine obj_alloc ?_ _ | with_reducible refine obj_drew ?_ | exact hbn_14)
    have hby_15 : w15.heap[w2.heap.size + 1]? = some (.cells #[.int .u8 2, .int .i64 1, .int .i64 0, .string ⟨#[]⟩] 23 (0, 0)) := by
      refine hf15.obj (fun x => x) ?_
      repeat (first | with_reducible exact hby_14 | (with_reducible refine obj_alloc_at ?_; simp; done) | (with_reducible apply obj_put4; omega) | (with_reducible apply obj_put1; omega) | (with_reducible refine obj_setCell_other ?_ _ _ ?_; rotate_left; (dsimp only; omega)) | with_reducible refine obj_alloc ?_ _ | with_reducible refine obj_drew ?_ | exact hby_14)
    have hbu_15 : w15.heap[w2.heap.size + 2]? = some (.cells #[.int .u8 0, .int .i64 0, .int .i64 0, .string ⟨#[]⟩] 23 (0, 0)) := by
      refine hf15.obj (fun x => x) ?_
      repeat (first | with_reducible exact hbu_14 | (with_reducible refine obj_alloc_at ?_; simp; done) | (with_reducible apply obj_put4; omega) | (with_reducible apply obj_put1; omega) | (with_reducible refine obj_setCell_other ?_ _ _ ?_; rotate_left; (dsimp only; omega)) | with_reducible refine obj_alloc ?_ _ | with_reducible refine obj_drew ?_ | exact hbu_14)
    have hba_15 : w15.heap[w4.heap.size]? = some (.cells #[.int .u8 2, .int .i64 0, .int .i64 0, .string ⟨#[]⟩] 23 (0, 0)) := by
      refine hf15.obj (fun x => x) ?_
      repeat (first | with_reducible exact hba_14 | (with_reducible refine obj_alloc_at ?_; simp; done) | (with_reducible apply obj_put4; omega) | (with_reducible apply obj_put1; omega) | (with_reducible refine obj_setCell_other ?_ _ _ ?_; rotate_left; (dsimp only; omega)) | with_reducible refine obj_alloc ?_ _ | with_reducible refine obj_drew ?_ | exact hba_14)
    have hbb_15 : w15.heap[w6.heap.size]? = some (.cells #[.int .u8 0, .int .i64 0, .int .i64 0, .string ⟨#[]⟩] 23 (0, 0)) := by
      refine hf15.obj (fun x => x) ?_
      repeat (first | with_reducible exact hbb_14 | (with_reducible refine obj_alloc_at ?_; simp; done) | (with_reducible apply obj_put4; omega) | (with_reducible apply obj_put1; omega) | (with_reducible refine obj_setCell_other ?_ _ _ ?_; rotate_left; (dsimp only; omega)) | with_reducible refine obj_alloc ?_ _ | with_reducible refine obj_drew ?_ | exact hbb_14)
    have hbg_15 : w15.heap[w10.heap.size]? = some (.cells #[.int .u8 0, .int .i64 0, .int .i64 0, .string ⟨#[]⟩] 23 (0, 0)) := by
      refine hf15.obj (fun x => x) ?_
      repeat (first | with_reducible exact hbg_14 | (with_reducible refine obj_alloc_at ?_; simp; done) | (with_reducible apply obj_put4; omega) | (with_reducible apply obj_put1; omega) | (with_reducible refine obj_setCell_other ?_ _ _ ?_; rotate_left; (dsimp only; omega)) | with_reducible refine obj_alloc ?_ _ | with_reducible refine obj_drew ?_ | exact hbg_14)
    have hbc_15 : w15.heap[qc]? = some (.cells #[.int .u8 0, .int .i64 0, .int .i64 0, .string ⟨#[]⟩] 23 (0, 0)) := by
      refine hf15.obj (fun x => x) ?_
      repeat (first | with_reducible exact hbc_14 | (with_reducible refine obj_alloc_at ?_; simp; done) | (with_reducible apply obj_put4; omega) | (with_reducible apply obj_put1; omega) | (with_reducible refine obj_setCell_other ?_ _ _ ?_; rotate_left; (dsimp only; omega)) | with_reducible refine obj_alloc ?_ _ | with_reducible refine obj_drew ?_ | exact hbc_14)
    have hfw_15 : Fr noB w w15 := by
      refine Fr.transN ?_ hf15
      repeat (first | with_reducible exact hfw_14 | with_reducible refine Fr.alloc ?_ _ | (with_reducible refine Fr.setCell ?_ ?_ _; rotate_left; (intro h; dsimp only at h; omega)) | with_reducible refine Fr.drew ?_ | exact hfw_14)
    clear hbn_14 hby_14 hbu_14 hba_14 hbb_14 hbg_14 hbc_14 ln ly lu la lb lg lc hl po0 po1 po2 po3 po4 cn_0 cn_1 cn_2 cn_3 zn cy_0 cy_1 cy_2 cy_3 zy cu_0 cu_1 cu_2 cu_3 zu ca_0 ca_1 ca_2 ca_3 za cb_0 cb_1 cb_2 cb_3 zb cg_0 cg_1 cg_2 cg_3 zg cc_0 cc_1 cc_2 cc_3 zc hf15 hfw_14
    obtain ⟨cn_0, cn_1, cn_2, cn_3⟩ := v_cells (v := noV) hbn_15
    dsimp only [noV] at cn_0 cn_1 cn_2 cn_3
    have zn := frozen_of_obj hbn_15
    obtain ⟨cy_0, cy_1, cy_2, cy_3⟩ := v_cells (v := yesV) hby_15
    dsimp only [yesV] at cy_0 cy_1 cy_2 cy_3
    have zy := frozen_of_obj hby_15
    obtain ⟨cu_0, cu_1, cu_2, cu_3⟩ := v_cells (v := zV) hbu_15
    dsimp only [zV] at cu_0 cu_1 cu_2 cu_3
    have zu := frozen_of_obj hbu_15
    obtain ⟨ca_0, ca_1, ca_2, ca_3⟩ := v_cells (v := noV) hba_15
    dsimp only [noV] at ca_0 ca_1 ca_2 ca_3
    have za := frozen_of_obj hba_15
    obtain ⟨cb_0, cb_1, cb_2, cb_3⟩ := v_cells (v := zV) hbb_15
    dsimp only [zV] at cb_0 cb_1 cb_2 cb_3
    have zb := frozen_of_obj hbb_15
    obtain ⟨cg_0, cg_1, cg_2, cg_3⟩ := v_cells (v := zV) hbg_15
    dsimp only [zV] at cg_0 cg_1 cg_2 cg_3
    have zg := frozen_of_obj hbg_15
    obtain ⟨cc_0, cc_1, cc_2, cc_3⟩ := v_cells (v := zV) hbc_15
    dsimp only [zV] at cc_0 cc_1 cc_2 cc_3
    have zc := frozen_of_obj hbc_15
    go_upto_region 7 with fail
    have o5 := Lib.hid (obj_lt hbc_15)
    have ln := obj_lt hbn_15
    have ly := obj_lt hby_15
    have lu := obj_lt hbu_15
    have la := obj_lt hba_15
    have lb := obj_lt hbb_15
    have lg := obj_lt hbg_15
    have lc := obj_lt hbc_15
    have hl := hfw_15.size
    have po0 := o0.out
    have po1 := o1.out
    have po2 := o2.out
    have po3 := o3.out
    have po4 := o4.out
    have po5 := o5.out
    refine wp_world (fun W => Fr noB w W ∧ W.heap[w2.heap.size]? = some (.cells #[.int .u8 2, .int .i64 0, .int .i64 0, .string ⟨#[]⟩] 23 (0, 0)) ∧ W.heap[w2.heap.size + 1]? = some (.cells #[.int .u8 2, .int .i64 1, .int .i64 0, .string ⟨#[]⟩] 23 (0, 0)) ∧ W.heap[w2.heap.size + 2]? = some (.cells #[.int .u8 0, .int .i64 0, .int .i64 0, .string ⟨#[]⟩] 23 (0, 0)) ∧ W.heap[w4.heap.size]? = some (.cells #[.int .u8 2, .int .i64 0, .int .i64 0, .string ⟨#[]⟩] 23 (0, 0)) ∧ W.heap[w6.heap.size]? = some (.cells #[.int .u8 0, .int .i64 0, .int .i64 0, .string ⟨#[]⟩] 23 (0, 0)) ∧ W.heap[w10.heap.size]? = some (.cells #[.int .u8 0, .int .i64 0, .int .i64 0, .string ⟨#[]⟩] 23 (0, 0)) ∧ W.heap[qc]? = some (.cells #[.int .u8 0, .int .i64 0, .int .i64 0, .string ⟨#[]⟩] 23 (0, 0)) ∧ W.heap[w15.heap.size]? = some (.cells #[.int .u8 0, .int .i64 0, .int .i64 0, .string ⟨#[]⟩] 23 (0, 0))) ⟨?_, ?_, ?_, ?_, ?_, ?_, ?_, ?_, ?_⟩ ?_
    · skip
      repeat (first | with_reducible exact hfw_15 | with_reducible refine Fr.alloc ?_ _ | (with_reducible refine Fr.setCell ?_ ?_ _; rotate_left; (intro h; dsimp only at h; omega)) | with_reducible refine Fr.drew ?_ | exact hfw_15)
    · skip
      repeat (first | with_reducible exact hbn_15 | (with_reducible refine obj_alloc_at ?_; simp; done) | (with_reducible apply obj_put4; omega) | (with_reducible apply obj_put1; omega) | (with_reducible refine obj_setCell_other ?_ _ _ ?_; rotate_left; (dsimp only; omega)) | with_reducible refine obj_alloc ?_ _ | with_reducible refine obj_drew ?_ | exact hbn_15)
    · skip
      repeat (first | with_reducible exact hby_15 | (with_reducible refine obj_alloc_at ?_; simp; done) | (with_reducible apply obj_put4; omega) | (with_reducible apply obj_put1; omega) | (with_reducible refine obj_setCell_other ?_ _ _ ?_; rotate_left; (dsimp only; omega)) | with_reducible refine obj_alloc ?_ _ | with_reducible refine obj_drew ?_ | exact hby_15)
    · skip
      repeat (first | with_reducible exact hbu_15 | (with_reducible refine obj_alloc_at ?_; simp; done) | (with_reducible apply obj_put4; omega) | (with_reducible apply obj_put1; omega) | (with_reducible refine obj_setCell_other ?_ _ _ ?_; rotate_left; (dsimp only; omega)) | with_reducible refine obj_alloc ?_ _ | with_reducible refine obj_drew ?_ | exact hbu_15)
    · skip
      repeat (first | with_reducible exact hba_15 | (with_reducible refine obj_alloc_at ?_; simp; done) | (with_reducible apply obj_put4; omega) | (with_reducible apply obj_put1; omega) | (with_reducible refine obj_setCell_other ?_ _ _ ?_; rotate_left; (dsimp only; omega)) | with_reducible refine obj_alloc ?_ _ | with_reducible refine obj_drew ?_ | exact hba_15)
    · skip
      repeat (first | with_reducible exact hbb_15 | (with_reducible refine obj_alloc_at ?_; simp; done) | (with_reducible apply obj_put4; omega) | (with_reducible apply obj_put1; omega) | (with_reducible refine obj_setCell_other ?_ _ _ ?_; rotate_left; (dsimp only; omega)) | with_reducible refine obj_alloc ?_ _ | with_reducible refine obj_drew ?_ | exact hbb_15)
    · skip
      repeat (first | with_reducible exact hbg_15 | (with_reducible refine obj_alloc_at ?_; simp; done) | (with_reducible apply obj_put4; omega) | (with_reducible apply obj_put1; omega) | (with_reducible refine obj_setCell_other ?_ _ _ ?_; rotate_left; (dsimp only; omega)) | with_reducible refine obj_alloc ?_ _ | with_reducible refine obj_drew ?_ | exact hbg_15)
    · skip
      repeat (first | with_reducible exact hbc_15 | (with_reducible refine obj_alloc_at ?_; simp; done) | (with_reducible apply obj_put4; omega) | (with_reducible apply obj_put1; omega) | (with_reducible refine obj_setCell_other ?_ _ _ ?_; rotate_left; (dsimp only; omega)) | with_reducible refine obj_alloc ?_ _ | with_reducible refine obj_drew ?_ | exact hbc_15)
    · skip
      repeat (first | (with_reducible refine obj_alloc_at ?_; simp; done) | (with_reducible apply obj_put4; omega) | (with_reducible apply obj_put1; omega) | (with_reducible refine obj_setCell_other ?_ _ _ ?_; rotate_left; (dsimp only; omega)) | with_reducible refine obj_alloc ?_ _ | with_reducible refine obj_drew ?_)
    clear hbn_15 hby_15 hbu_15 hba_15 hbb_15 hbg_15 hbc_15 ln ly lu la lb lg lc hl po0 po1 po2 po3 po4 po5 cn_0 cn_1 cn_2 cn_3 zn cy_0 cy_1 cy_2 cy_3 zy cu_0 cu_1 cu_2 cu_3 zu ca_0 ca_1 ca_2 ca_3 za cb_0 cb_1 cb_2 cb_3 zb cg_0 cg_1 cg_2 cg_3 zg cc_0 cc_1 cc_2 cc_3 zc hfw_15
    rintro w16 ⟨hfw_16, hbn_16, hby_16, hbu_16, hba_16, hbb_16, hbg_16, hbc_16, hbx_16⟩
    obtain ⟨cn_0, cn_1, cn_2, cn_3⟩ := v_cells (v := noV) hbn_16
    dsimp only [noV] at cn_0 cn_1 cn_2 cn_3
    have zn := frozen_of_obj hbn_16
    obtain ⟨cy_0, cy_1, cy_2, cy_3⟩ := v_cells (v := yesV) hby_16
    dsimp only [yesV] at cy_0 cy_1 cy_2 cy_3
    have zy := frozen_of_obj hby_16
    obtain ⟨cu_0, cu_1, cu_2, cu_3⟩ := v_cells (v := zV) hbu_16
    dsimp only [zV] at cu_0 cu_1 cu_2 cu_3
    have zu := frozen_of_obj hbu_16
    obtain ⟨ca_0, ca_1, ca_2, ca_3⟩ := v_cells (v := noV) hba_16
    dsimp only [noV] at ca_0 ca_1 ca_2 ca_3
    have za := frozen_of_obj hba_16
    obtain ⟨cb_0, cb_1, cb_2, cb_3⟩ := v_cells (v := zV) hbb_16
    dsimp only [zV] at cb_0 cb_1 cb_2 cb_3
    have zb := frozen_of_obj hbb_16
    obtain ⟨cg_0, cg_1, cg_2, cg_3⟩ := v_cells (v := zV) hbg_16
    dsimp only [zV] at cg_0 cg_1 cg_2 cg_3
    have zg := frozen_of_obj hbg_16
    obtain ⟨cc_0, cc_1, cc_2, cc_3⟩ := v_cells (v := zV) hbc_16
    dsimp only [zV] at cc_0 cc_1 cc_2 cc_3
    have zc := frozen_of_obj hbc_16
    obtain ⟨cx_0, cx_1, cx_2, cx_3⟩ := v_cells (v := zV) hbx_16
    dsimp only [zV] at cx_0 cx_1 cx_2 cx_3
    have zx := frozen_of_obj hbx_16
    go_wp2_with fail
    refine (HLe.out _).mono ?_
    rintro e w17 ⟨rfl, hf17⟩
    have ln := obj_lt hbn_16
    have ly := obj_lt hby_16
    have lu := obj_lt hbu_16
    have la := obj_lt hba_16
    have lb := obj_lt hbb_16
    have lg := obj_lt hbg_16
    have lc := obj_lt hbc_16
    have lx := obj_lt hbx_16
    have hl := hfw_16.size
    have po0 := o0.out
    have po1 := o1.out
    have po2 := o2.out
    have po3 := o3.out
    have po4 := o4.out
    have po5 := o5.out
    have hbn_17 : w17.heap[w2.heap.size]? = some (.cells #[.int .u8 2, .int .i64 0, .int .i64 0, .string ⟨#[]⟩] 23 (0, 0)) := by
      refine hf17.obj (fun x => x) ?_
      repeat (first | with_reducible exact hbn_16 | (with_reducible refine obj_alloc_at ?_; simp; done) | (with_reducible apply obj_put4; omega) | (with_reducible apply obj_put1; omega) | (with_reducible refine obj_setCell_other ?_ _ _ ?_; rotate_left; (dsimp only; omega)) | with_reducible refine obj_alloc ?_ _ | with_reducible refine obj_drew ?_ | exact hbn_16)
    have hby_17 : w17.heap[w2.heap.size + 1]? = some (.cells #[.int .u8 2, .int .i64 1, .int .i64 0, .string ⟨#[]⟩] 23 (0, 0)) := by
      refine hf17.obj (fun x => x) ?_
      repeat (first | with_reducible exact hby_16 | (with_reducible refine obj_alloc_at ?_; simp; done) | (with_reducible apply obj_put4; omega) | (with_reducible apply obj_put1; omega) | (with_reducible refine obj_setCell_other ?_ _ _ ?_; rotate_left; (dsimp only; omega)) | with_reducible refine obj_alloc ?_ _ | with_reducible refine obj_drew ?_ | exact hby_16)
    have hbu_17 : w17.heap[w2.heap.size + 2]? = some (.cells #[.int .u8 0, .int .i64 0, .int .i64 0, .string ⟨#[]⟩] 23 (0, 0)) := by
      refine hf17.obj (fun x => x) ?_
      repeat (first | with_reducible exact hbu_16 | (with_reducible refine obj_alloc_at ?_; simp; done) | (with_reducible apply obj_put4; omega) | (with_reducible apply obj_put1; omega) | (with_reducible refine obj_setCell_other ?_ _ _ ?_; rotate_left; (dsimp only; omega)) | with_reducible refine obj_alloc ?_ _ | with_reducible refine obj_drew ?_ | exact hbu_16)
    have hba_17 : w17.heap[w4.heap.size]? = some (.cells #[.int .u8 2, .int .i64 0, .int .i64 0, .string ⟨#[]⟩] 23 (0, 0)) := by
      refine hf17.obj (fun x => x) ?_
      repeat (first | with_reducible exact hba_16 | (with_reducible refine obj_alloc_at ?_; simp; done) | (with_reducible apply obj_put4; omega) | (with_reducible apply obj_put1; omega) | (with_reducible refine obj_setCell_other ?_ _ _ ?_; rotate_left; (dsimp only; omega)) | with_reducible refine obj_alloc ?_ _ | with_reducible refine obj_drew ?_ | exact hba_16)
    have hbb_17 : w17.heap[w6.heap.size]? = some (.cells #[.int .u8 0, .int .i64 0, .int .i64 0, .string ⟨#[]⟩] 23 (0, 0)) := by
      refine hf17.obj (fun x => x) ?_
      repeat (first | with_reducible exact hbb_16 | (with_reducible refine obj_alloc_at ?_; simp; done) | (with_reducible apply obj_put4; omega) | (with_reducible apply obj_put1; omega) | (with_reducible refine obj_setCell_other ?_ _ _ ?_; rotate_left; (dsimp only; omega)) | with_reducible refine obj_alloc ?_ _ | with_reducible refine obj_drew ?_ | exact hbb_16)
    have hbg_17 : w17.heap[w10.heap.size]? = some (.cells #[.int .u8 0, .int .i64 0, .int .i64 0, .string ⟨#[]⟩] 23 (0, 0)) := by
      refine hf17.obj (fun x => x) ?_
      repeat (first | with_reducible exact hbg_16 | (with_reducible refine obj_alloc_at ?_; simp; done) | (with_reducible apply obj_put4; omega) | (with_reducible apply obj_put1; omega) | (with_reducible refine obj_setCell_other ?_ _ _ ?_; rotate_left; (dsimp only; omega)) | with_reducible refine obj_alloc ?_ _ | with_reducible refine obj_drew ?_ | exact hbg_16)
    have hbc_17 : w17.heap[qc]? = some (.cells #[.int .u8 0, .int .i64 0, .int .i64 0, .string ⟨#[]⟩] 23 (0, 0)) := by
      refine hf17.obj (fun x => x) ?_
      repeat (first | with_reducible exact hbc_16 | (with_reducible refine obj_alloc_at ?_; simp; done) | (with_reducible apply obj_put4; omega) | (with_reducible apply obj_put1; omega) | (with_reducible refine obj_setCell_other ?_ _ _ ?_; rotate_left; (dsimp only; omega)) | with_reducible refine obj_alloc ?_ _ | with_reducible refine obj_drew ?_ | exact hbc_16)
    have hbx_17 : w17.heap[w15.heap.size]? = some (.cells #[.int .u8 0, .int .i64 0, .int .i64 0, .string ⟨#[]⟩] 23 (0, 0)) := by
      refine hf17.obj (fun x => x) ?_
      repeat (first | with_reducible exact hbx_16 | (with_reducible refine obj_alloc_at ?_; simp; done) | (with_reducible apply obj_put4; omega) | (with_reducible apply obj_put1; omega) | (with_reducible refine obj_setCell_other ?_ _ _ ?_; rotate_left; (dsimp only; omega)) | with_reducible refine obj_alloc ?_ _ | with_reducible refine obj_drew ?_ | exact hbx_16)
    have hfw_17 : Fr noB w w17 := by
      refine Fr.transN ?_ hf17
      repeat (first | with_reducible exact hfw_16 | with_reducible refine Fr.alloc ?_ _ | (with_reducible refine Fr.setCell ?_ ?_ _; rotate_left; (intro h; dsimp only at h; omega)) | with_reducible refine Fr.drew ?_ | exact hfw_16)
    clear hbn_16 hby_16 hbu_16 hba_16 hbb_16 hbg_16 hbc_16 hbx_16 ln ly lu la lb lg lc lx hl po0 po1 po2 po3 po4 po5 cn_0 cn_1 cn_2 cn_3 zn cy_0 cy_1 cy_2 cy_3 zy cu_0 cu_1 cu_2 cu_3 zu ca_0 ca_1 ca_2 ca_3 za cb_0 cb_1 cb_2 cb_3 zb cg_0 cg_1 cg_2 cg_3 zg cc_0 cc_1 cc_2 cc_3 zc cx_0 cx_1 cx_2 cx_3 zx hf17 hfw_16
    obtain ⟨cn_0, cn_1, cn_2, cn_3⟩ := v_cells (v := noV) hbn_17
    dsimp only [noV] at cn_0 cn_1 cn_2 cn_3
    have zn := frozen_of_obj hbn_17
    obtain ⟨cy_0, cy_1, cy_2, cy_3⟩ := v_cells (v := yesV) hby_17
    dsimp only [yesV] at cy_0 cy_1 cy_2 cy_3
    have zy := frozen_of_obj hby_17
    obtain ⟨cu_0, cu_1, cu_2, cu_3⟩ := v_cells (v := zV) hbu_17
    dsimp only [zV] at cu_0 cu_1 cu_2 cu_3
    have zu := frozen_of_obj hbu_17
    obtain ⟨ca_0, ca_1, ca_2, ca_3⟩ := v_cells (v := noV) hba_17
    dsimp only [noV] at ca_0 ca_1 ca_2 ca_3
    have za := frozen_of_obj hba_17
    obtain ⟨cb_0, cb_1, cb_2, cb_3⟩ := v_cells (v := zV) hbb_17
    dsimp only [zV] at cb_0 cb_1 cb_2 cb_3
    have zb := frozen_of_obj hbb_17
    obtain ⟨cg_0, cg_1, cg_2, cg_3⟩ := v_cells (v := zV) hbg_17
    dsimp only [zV] at cg_0 cg_1 cg_2 cg_3
    have zg := frozen_of_obj hbg_17
    obtain ⟨cc_0, cc_1, cc_2, cc_3⟩ := v_cells (v := zV) hbc_17
    dsimp only [zV] at cc_0 cc_1 cc_2 cc_3
    have zc := frozen_of_obj hbc_17
    obtain ⟨cx_0, cx_1, cx_2, cx_3⟩ := v_cells (v := zV) hbx_17
    dsimp only [zV] at cx_0 cx_1 cx_2 cx_3
    have zx := frozen_of_obj hbx_17
    go_upto_region 8 with fail
    have o6 := Lib.hid (obj_lt hbx_17)
    have ln := obj_lt hbn_17
    have ly := obj_lt hby_17
    have lu := obj_lt hbu_17
    have la := obj_lt hba_17
    have lb := obj_lt hbb_17
    have lg := obj_lt hbg_17
    have lc := obj_lt hbc_17
    have lx := obj_lt hbx_17
    have hl := hfw_17.size
    have po0 := o0.out
    have po1 := o1.out
    have po2 := o2.out
    have po3 := o3.out
    have po4 := o4.out
    have po5 := o5.out
    have po6 := o6.out
    refine wp_world (fun W => Fr noB w W ∧ W.heap[w2.heap.size]? = some (.cells #[.int .u8 2, .int .i64 0, .int .i64 0, .string ⟨#[]⟩] 23 (0, 0)) ∧ W.heap[w2.heap.size + 1]? = some (.cells #[.int .u8 2, .int .i64 1, .int .i64 0, .string ⟨#[]⟩] 23 (0, 0)) ∧ W.heap[w2.heap.size + 2]? = some (.cells #[.int .u8 0, .int .i64 0, .int .i64 0, .string ⟨#[]⟩] 23 (0, 0)) ∧ W.heap[w4.heap.size]? = some (.cells #[.int .u8 2, .int .i64 0, .int .i64 0, .string ⟨#[]⟩] 23 (0, 0)) ∧ W.heap[w6.heap.size]? = some (.cells #[.int .u8 0, .int .i64 0, .int .i64 0, .string ⟨#[]⟩] 23 (0, 0)) ∧ W.heap[w10.heap.size]? = some (.cells #[.int .u8 0, .int .i64 0, .int .i64 0, .string ⟨#[]⟩] 23 (0, 0)) ∧ W.heap[qc]? = some (.cells #[.int .u8 0, .int .i64 0, .int .i64 0, .string ⟨#[]⟩] 23 (0, 0)) ∧ W.heap[w15.heap.size]? = some (.cells #[.int .u8 0, .int .i64 0, .int .i64 0, .string ⟨#[]⟩] 23 (0, 0)) ∧ W.heap[w17.heap.size]? = some (.cells #[.int .u8 2, .int .i64 1, .int .i64 0, .string ⟨#[]⟩] 23 (0, 0))) ⟨?_, ?_, ?_, ?_, ?_, ?_, ?_, ?_, ?_, ?_⟩ ?_
    · skip
      repeat (first | with_reducible exact hfw_17 | with_reducible refine Fr.alloc ?_ _ | (with_reducible refine Fr.setCell ?_ ?_ _; rotate_left; (intro h; dsimp only at h; omega)) | with_reducible refine Fr.drew ?_ | exact hfw_17)
    · skip
      repeat (first | with_reducible exact hbn_17 | (with_reducible refine obj_alloc_at ?_; simp; done) | (with_reducible apply obj_put4; omega) | (with_reducible apply obj_put1; omega) | (with_reducible refine obj_setCell_other ?_ _ _ ?_; rotate_left; (dsimp only; omega)) | with_reducible refine obj_alloc ?_ _ | with_reducible refine obj_drew ?_ | exact hbn_17)
    · skip
      repeat (first | with_reducible exact hby_17 | (with_reducible refine obj_alloc_at ?_; simp; done) | (with_reducible apply obj_put4; omega) | (with_reducible apply obj_put1; omega) | (with_reducible refine obj_setCell_other ?_ _ _ ?_; rotate_left; (dsimp only; omega)) | with_reducible refine obj_alloc ?_ _ | with_reducible refine obj_drew ?_ | exact hby_17)
    · skip
      repeat (first | with_reducible exact hbu_17 | (with_reducible refine obj_alloc_at ?_; simp; done) | (with_reducible apply obj_put4; omega) | (with_reducible apply obj_put1; omega) | (with_reducible refine obj_setCell_other ?_ _ _ ?_; rotate_left; (dsimp only; omega)) | with_reducible refine obj_alloc ?_ _ | with_reducible refine obj_drew ?_ | exact hbu_17)
    · skip
      repeat (first | with_reducible exact hba_17 | (with_reducible refine obj_alloc_at ?_; simp; done) | (with_reducible apply obj_put4; omega) | (with_reducible apply obj_put1; omega) | (with_reducible refine obj_setCell_other ?_ _ _ ?_; rotate_left; (dsimp only; omega)) | with_reducible refine obj_alloc ?_ _ | with_reducible refine obj_drew ?_ | exact hba_17)
    · skip
      repeat (first | with_reducible exact hbb_17 | (with_reducible refine obj_alloc_at ?_; simp; done) | (with_reducible apply obj_put4; omega) | (with_reducible apply obj_put1; omega) | (with_reducible refine obj_setCell_other ?_ _ _ ?_; rotate_left; (dsimp only; omega)) | with_reducible refine obj_alloc ?_ _ | with_reducible refine obj_drew ?_ | exact hbb_17)
    · skip
      repeat (first | with_reducible exact hbg_17 | (with_reducible refine obj_alloc_at ?_; simp; done) | (with_reducible apply obj_put4; omega) | (with_reducible apply obj_put1; omega) | (with_reducible refine obj_setCell_other ?_ _ _ ?_; rotate_left; (dsimp only; omega)) | with_reducible refine obj_alloc ?_ _ | with_reducible refine obj_drew ?_ | exact hbg_17)
    · skip
      repeat (first | with_reducible exact hbc_17 | (with_reducible refine obj_alloc_at ?_; simp; done) | (with_reducible apply obj_put4; omega) | (with_reducible apply obj_put1; omega) | (with_reducible refine obj_setCell_other ?_ _ _ ?_; rotate_left; (dsimp only; omega)) | with_reducible refine obj_alloc ?_ _ | with_reducible refine obj_drew ?_ | exact hbc_17)
    · skip
      repeat (first | with_reducible exact hbx_17 | (with_reducible refine obj_alloc_at ?_; simp; done) | (with_reducible apply obj_put4; omega) | (with_reducible apply obj_put1; omega) | (with_reducible refine obj_setCell_other ?_ _ _ ?_; rotate_left; (dsimp only; omega)) | with_reducible refine obj_alloc ?_ _ | with_reducible refine obj_drew ?_ | exact hbx_17)
    · skip
      repeat (first | (with_reducible refine obj_alloc_at ?_; simp; done) | (with_reducible apply obj_put4; omega) | (with_reducible apply obj_put1; omega) | (with_reducible refine obj_setCell_other ?_ _ _ ?_; rotate_left; (dsimp only; omega)) | with_reducible refine obj_alloc ?_ _ | with_reducible refine obj_drew ?_)
    clear hbn_17 hby_17 hbu_17 hba_17 hbb_17 hbg_17 hbc_17 hbx_17 ln ly lu la lb lg lc lx hl po0 po1 po2 po3 po4 po5 po6 cn_0 cn_1 cn_2 cn_3 zn cy_0 cy_1 cy_2 cy_3 zy cu_0 cu_1 cu_2 cu_3 zu ca_0 ca_1 ca_2 ca_3 za cb_0 cb_1 cb_2 cb_3 zb cg_0 cg_1 cg_2 cg_3 zg cc_0 cc_1 cc_2 cc_3 zc cx_0 cx_1 cx_2 cx_3 zx hfw_17
    rintro w18 ⟨hfw_18, hbn_18, hby_18, hbu_18, hba_18, hbb_18, hbg_18, hbc_18, hbx_18, hbd_18⟩
    obtain ⟨cn_0, cn_1, cn_2, cn_3⟩ := v_cells (v := noV) hbn_18
    dsimp only [noV] at cn_0 cn_1 cn_2 cn_3
    have zn := frozen_of_obj hbn_18
    obtain ⟨cy_0, cy_1, cy_2, cy_3⟩ := v_cells (v := yesV) hby_18
    dsimp only [yesV] at cy_0 cy_1 cy_2 cy_3
    have zy := frozen_of_obj hby_18
    obtain ⟨cu_0, cu_1, cu_2, cu_3⟩ := v_cells (v := zV) hbu_18
    dsimp only [zV] at cu_0 cu_1 cu_2 cu_3
    have zu := frozen_of_obj hbu_18
    obtain ⟨ca_0, ca_1, ca_2, ca_3⟩ := v_cells (v := noV) hba_18
    dsimp only [noV] at ca_0 ca_1 ca_2 ca_3
    have za := frozen_of_obj hba_18
    obtain ⟨cb_0, cb_1, cb_2, cb_3⟩ := v_cells (v := zV) hbb_18
    dsimp only [zV] at cb_0 cb_1 cb_2 cb_3
    have zb := frozen_of_obj hbb_18
    obtain ⟨cg_0, cg_1, cg_2, cg_3⟩ := v_cells (v := zV) hbg_18
    dsimp only [zV] at cg_0 cg_1 cg_2 cg_3
    have zg := frozen_of_obj hbg_18
    obtain ⟨cc_0, cc_1, cc_2, cc_3⟩ := v_cells (v := zV) hbc_18
    dsimp only [zV] at cc_0 cc_1 cc_2 cc_3
    have zc := frozen_of_obj hbc_18
    obtain ⟨cx_0, cx_1, cx_2, cx_3⟩ := v_cells (v := zV) hbx_18
    dsimp only [zV] at cx_0 cx_1 cx_2 cx_3
    have zx := frozen_of_obj hbx_18
    obtain ⟨cd_0, cd_1, cd_2, cd_3⟩ := v_cells (v := yesV) hbd_18
    dsimp only [yesV] at cd_0 cd_1 cd_2 cd_3
    have zd := frozen_of_obj hbd_18
    go_wp2_with fail
    refine (HY1.out _).mono ?_
    rintro e w19 ⟨rfl, hf19⟩
    have ln := obj_lt hbn_18
    have ly := obj_lt hby_18
    have lu := obj_lt hbu_18
    have la := obj_lt hba_18
    have lb := obj_lt hbb_18
    have lg := obj_lt hbg_18
    have lc := obj_lt hbc_18
    have lx := obj_lt hbx_18
    have ld := obj_lt hbd_18
    have hl := hfw_18.size
    have po0 := o0.out
    have po1 := o1.out
    have po2 := o2.out
    have po3 := o3.out
    have po4 := o4.out
    have po5 := o5.out
    have po6 := o6.out
    have hbn_19 : w19.heap[w2.heap.size]? = some (.cells #[.int .u8 2, .int .i64 0, .int .i64 0, .string ⟨#[]⟩] 23 (0, 0)) := by
      refine hf19.obj (fun x => x) ?_
      repeat (first | with_reducible exact hbn_18 | (with_reducible refine obj_alloc_at ?_; simp; done) | (with_reducible apply obj_put4; omega) | (with_reducible apply obj_put1; omega) | (with_reducible refine obj_setCell_other ?_ _ _ ?_; rotate_left; (dsimp only; omega)) | with_reducible refine obj_alloc ?_ _ | with_reducible refine obj_drew ?_ | exact hbn_18)
    have hby_19 : w19.heap[w2.heap.size + 1]? = some (.cells #[.int .u8 2, .int .i64 1, .int .i64 0, .string ⟨#[]⟩] 23 (0, 0)) := by
      refine hf19.obj (fun x => x) ?_
      repeat (first | with_reducible exact hby_18 | (with_reducible refine obj_alloc_at ?_; simp; done) | (with_reducible apply obj_put4; omega) | (with_reducible apply obj_put1; omega) | (with_reducible refine obj_setCell_other ?_ _ _ ?_; rotate_left; (dsimp only; omega)) | with_reducible refine obj_alloc ?_ _ | with_reducible refine obj_drew ?_ | exact hby_18)
    have hbu_19 : w19.heap[w2.heap.size + 2]? = some (.cells #[.int .u8 0, .int .i64 0, .int .i64 0, .string ⟨#[]⟩] 23 (0, 0)) := by
      refine hf19.obj (fun x => x) ?_
      repeat (first | with_reducible exact hbu_18 | (with_reducible refine obj_alloc_at ?_; simp; done) | (with_reducible apply obj_put4; omega) | (with_reducible apply obj_put1; omega) | (with_reducible refine obj_setCell_other ?_ _ _ ?_; rotate_left; (dsimp only; omega)) | with_reducible refine obj_alloc ?_ _ | with_reducible refine obj_drew ?_ | exact hbu_18)
    have hba_19 : w19.heap[w4.heap.size]? = some (.cells #[.int .u8 2, .int .i64 0, .int .i64 0, .string ⟨#[]⟩] 23 (0, 0)) := by
      refine hf19.obj (fun x => x) ?_
      repeat (first | with_reducible exact hba_18 | (with_reducible refine obj_alloc_at ?_; simp; done) | (with_reducible apply obj_put4; omega) | (with_reducible apply obj_put1; omega) | (with_reducible refine obj_setCell_other ?_ _ _ ?_; rotate_left; (dsimp only; omega)) | with_reducible refine obj_alloc ?_ _ | with_reducible refine obj_drew ?_ | exact hba_18)
    have hbb_19 : w19.heap[w6.heap.size]? = some (.cells #[.int .u8 0, .int .i64 0, .int .i64 0, .string ⟨#[]⟩] 23 (0, 0)) := by
      refine hf19.obj (fun x => x) ?_
      repeat (first | with_reducible exact hbb_18 | (with_reducible refine obj_alloc_at ?_; simp; done) | (with_reducible apply obj_put4; omega) | (with_reducible apply obj_put1; omega) | (with_reducible refine obj_setCell_other ?_ _ _ ?_; rotate_left; (dsimp only; omega)) | with_reducible refine obj_alloc ?_ _ | with_reducible refine obj_drew ?_ | exact hbb_18)
    have hbg_19 : w19.heap[w10.heap.size]? = some (.cells #[.int .u8 0, .int .i64 0, .int .i64 0, .string ⟨#[]⟩] 23 (0, 0)) := by
      refine hf19.obj (fun x => x) ?_
      repeat (first | with_reducible exact hbg_18 | (with_reducible refine obj_alloc_at ?_; simp; done) | (with_reducible apply obj_put4; omega) | (with_reducible apply obj_put1; omega) | (with_reducible refine obj_setCell_other ?_ _ _ ?_; rotate_left; (dsimp only; omega)) | with_reducible refine obj_alloc ?_ _ | with_reducible refine obj_drew ?_ | exact hbg_18)
    have hbc_19 : w19.heap[qc]? = some (.cells #[.int .u8 0, .int .i64 0, .int .i64 0, .string ⟨#[]⟩] 23 (0, 0)) := by
      refine hf19.obj (fun x => x) ?_
      repeat (first | with_reducible exact hbc_18 | (with_reducible refine obj_alloc_at ?_; simp; done) | (with_reducible apply obj_put4; omega) | (with_reducible apply obj_put1; omega) | (with_reducible refine obj_setCell_other ?_ _ _ ?_; rotate_left; (dsimp only; omega)) | with_reducible refine obj_alloc ?_ _ | with_reducible refine obj_drew ?_ | exact hbc_18)
    have hbx_19 : w19.heap[w15.heap.size]? = some (.cells #[.int .u8 0, .int .i64 0, .int .i64 0, .string ⟨#[]⟩] 23 (0, 0)) := by
      refine hf19.obj (fun x => x) ?_
      repeat (first | with_reducible exact hbx_18 | (with_reducible refine obj_alloc_at ?_; simp; done) | (with_reducible apply obj_put4; omega) | (with_reducible apply obj_put1; omega) | (with_reducible refine obj_setCell_other ?_ _ _ ?_; rotate_left; (dsimp only; omega)) | with_reducible refine obj_alloc ?_ _ | with_reducible refine obj_drew ?_ | exact hbx_18)
    have hbd_19 : w19.heap[w17.heap.size]? = some (.cells #[.int .u8 2, .int .i64 1, .int .i64 0, .string ⟨#[]⟩] 23 (0, 0)) := by
      refine hf19.obj (fun x => x) ?_
      repeat (first | with_reducible exact hbd_18 | (with_reducible refine obj_alloc_at ?_; simp; done) | (with_reducible apply obj_put4; omega) | (with_reducible apply obj_put1; omega) | (with_reducible refine obj_setCell_other ?_ _ _ ?_; rotate_left; (dsimp only; omega)) | with_reducible refine obj_alloc ?_ _ | with_reducible refine obj_drew ?_ | exact hbd_18)
    have hfw_19 : Fr noB w w19 := by
      refine Fr.transN ?_ hf19
      repeat (first | with_reducible exact hfw_18 | with_reducible refine Fr.alloc ?_ _ | (with_reducible refine Fr.setCell ?_ ?_ _; rotate_left; (intro h; dsimp only at h; omega)) | with_reducible refine Fr.drew ?_ | exact hfw_18)
    clear hbn_18 hby_18 hbu_18 hba_18 hbb_18 hbg_18 hbc_18 hbx_18 hbd_18 ln ly lu la lb lg lc lx ld hl po0 po1 po2 po3 po4 po5 po6 cn_0 cn_1 cn_2 cn_3 zn cy_0 cy_1 cy_2 cy_3 zy cu_0 cu_1 cu_2 cu_3 zu ca_0 ca_1 ca_2 ca_3 za cb_0 cb_1 cb_2 cb_3 zb cg_0 cg_1 cg_2 cg_3 zg cc_0 cc_1 cc_2 cc_3 zc cx_0 cx_1 cx_2 cx_3 zx cd_0 cd_1 cd_2 cd_3 zd hf19 hfw_18
    obtain ⟨cn_0, cn_1, cn_2, cn_3⟩ := v_cells (v := noV) hbn_19
    dsimp only [noV] at cn_0 cn_1 cn_2 cn_3
    have zn := frozen_of_obj hbn_19
    obtain ⟨cy_0, cy_1, cy_2, cy_3⟩ := v_cells (v := yesV) hby_19
    dsimp only [yesV] at cy_0 cy_1 cy_2 cy_3
    have zy := frozen_of_obj hby_19
    obtain ⟨cu_0, cu_1, cu_2, cu_3⟩ := v_cells (v := zV) hbu_19
    dsimp only [zV] at cu_0 cu_1 cu_2 cu_3
    have zu := frozen_of_obj hbu_19
    obtain ⟨ca_0, ca_1, ca_2, ca_3⟩ := v_cells (v := noV) hba_19
    dsimp only [noV] at ca_0 ca_1 ca_2 ca_3
    have za := frozen_of_obj hba_19
    obtain ⟨cb_0, cb_1, cb_2, cb_3⟩ := v_cells (v := zV) hbb_19
    dsimp only [zV] at cb_0 cb_1 cb_2 cb_3
    have zb := frozen_of_obj hbb_19
    obtain ⟨cg_0, cg_1, cg_2, cg_3⟩ := v_cells (v := zV) hbg_19
    dsimp only [zV] at cg_0 cg_1 cg_2 cg_3
    have zg := frozen_of_obj hbg_19
    obtain ⟨cc_0, cc_1, cc_2, cc_3⟩ := v_cells (v := zV) hbc_19
    dsimp only [zV] at cc_0 cc_1 cc_2 cc_3
    have zc := frozen_of_obj hbc_19
    obtain ⟨cx_0, cx_1, cx_2, cx_3⟩ := v_cells (v := zV) hbx_19
    dsimp only [zV] at cx_0 cx_1 cx_2 cx_3
    have zx := frozen_of_obj hbx_19
    obtain ⟨cd_0, cd_1, cd_2, cd_3⟩ := v_cells (v := yesV) hbd_19
    dsimp only [yesV] at cd_0 cd_1 cd_2 cd_3
    have zd := frozen_of_obj hbd_19
    go_wp2_with fail
    refine (HY0.out _).mono ?_
    rintro e w20 ⟨rfl, hf20⟩
    have ln := obj_lt hbn_19
    have ly := obj_lt hby_19
    have lu := obj_lt hbu_19
    have la := obj_lt hba_19
    have lb := obj_lt hbb_19
    have lg := obj_lt hbg_19
    have lc := obj_lt hbc_19
    have lx := obj_lt hbx_19
    have ld := obj_lt hbd_19
    have hl := hfw_19.size
    have po0 := o0.out
    have po1 := o1.out
    have po2 := o2.out
    have po3 := o3.out
    have po4 := o4.out
    have po5 := o5.out
    have po6 := o6.out
    have hbn_20 : w20.heap[w2.heap.size]? = some (.cells #[.int .u8 2, .int .i64 0, .int .i64 0, .string ⟨#[]⟩] 23 (0, 0)) := by
      refine hf20.obj (fun x => x) ?_
      repeat (first | with_reducible exact hbn_19 | (with_reducible refine obj_alloc_at ?_; simp; done) | (with_reducible apply obj_put4; omega) | (with_reducible apply obj_put1; omega) | (with_reducible refine obj_setCell_other ?_ _ _ ?_; rotate_left; (dsimp only; omega)) | with_reducible refine obj_alloc ?_ _ | with_reducible refine obj_drew ?_ | exact hbn_19)
    have hby_20 : w20.heap[w2.heap.size + 1]? = some (.cells #[.int .u8 2, .int .i64 1, .int .i64 0, .string ⟨#[]⟩] 23 (0, 0)) := by
      refine hf20.obj (fun x => x) ?_
      repeat (first | with_reducible exact hby_19 | (with_reducible refine obj_alloc_at ?_; simp; done) | (with_reducible apply obj_put4; omega) | (with_reducible apply obj_put1; omega) | (with_reducible refine obj_setCell_other ?_ _ _ ?_; rotate_left; (dsimp only; omega)) | with_reducible refine obj_alloc ?_ _ | with_reducible refine obj_drew ?_ | exact hby_19)
    have hbu_20 : w20.heap[w2.heap.size + 2]? = some (.cells #[.int .u8 0, .int .i64 0, .int .i64 0, .string ⟨#[]⟩] 23 (0, 0)) := by
      refine hf20.obj (fun x => x) ?_
      repeat (first | with_reducible exact hbu_19 | (with_reducible refine obj_alloc_at ?_; simp; done) | (with_reducible apply obj_put4; omega) | (with_reducible apply obj_put1; omega) | (with_reducible refine obj_setCell_other ?_ _ _ ?_; rotate_left; (dsimp only; omega)) | with_reducible refine obj_alloc ?_ _ | with_reducible refine obj_drew ?_ | exact hbu_19)
    have hba_20 : w20.heap[w4.heap.size]? = some (.cells #[.int .u8 2, .int .i64 0, .int .i64 0, .string ⟨#[]⟩] 23 (0, 0)) := by
      refine hf20.obj (fun x => x) ?_
      repeat (first | with_reducible exact hba_19 | (with_reducible refine obj_alloc_at ?_; simp; done) | (with_reducible apply obj_put4; omega) | (with_reducible apply obj_put1; omega) | (with_reducible refine obj_setCell_other ?_ _ _ ?_; rotate_left; (dsimp only; omega)) | with_reducible refine obj_alloc ?_ _ | with_reducible refine obj_drew ?_ | exact hba_19)
    have hbb_20 : w20.heap[w6.heap.size]? = some (.cells #[.int .u8 0, .int .i64 0, .int .i64 0, .string ⟨#[]⟩] 23 (0, 0)) := by
      refine hf20.obj (fun x => x) ?_
      repeat (first | with_reducible exact hbb_19 | (with_reducible refine obj_alloc_at ?_; simp; done) | (with_reducible apply obj_put4; omega) | (with_reducible apply obj_put1; omega) | (with_reducible refine obj_setCell_other ?_ _ _ ?_; rotate_left; (dsimp only; omega)) | with_reducible refine obj_alloc ?_ _ | with_reducible refine obj_drew ?_ | exact hbb_19)
    have hbg_20 : w20.heap[w10.heap.size]? = some (.cells #[.int .u8 0, .int .i64 0, .int .i64 0, .string ⟨#[]⟩] 23 (0, 0)) := by
      refine hf20.obj (fun x => x) ?_
      repeat (first | with_reducible exact hbg_19 | (with_reducible refine obj_alloc_at ?_; simp; done) | (with_reducible apply obj_put4; omega) | (with_reducible apply obj_put1; omega) | (with_reducible refine obj_setCell_other ?_ _ _ ?_; rotate_left; (dsimp only; omega)) | with_reducible refine obj_alloc ?_ _ | with_reducible refine obj_drew ?_ | exact hbg_19)
    have hbc_20 : w20.heap[qc]? = some (.cells #[.int .u8 0, .int .i64 0, .int .i64 0, .string ⟨#[]⟩] 23 (0, 0)) := by
      refine hf20.obj (fun x => x) ?_
      repeat (first | with_reducible exact hbc_19 | (with_reducible refine obj_alloc_at ?_; simp; done) | (with_reducible apply obj_put4; omega) | (with_reducible apply obj_put1; omega) | (with_reducible refine obj_setCell_other ?_ _ _ ?_; rotate_left; (dsimp only; omega)) | with_reducible refine obj_alloc ?_ _ | with_reducible refine obj_drew ?_ | exact hbc_19)
    have hbx_20 : w20.heap[w15.heap.size]? = some (.cells #[.int .u8 0, .int .i64 0, .int .i64 0, .string ⟨#[]⟩] 23 (0, 0)) := by
      refine hf20.obj (fun x => x) ?_
      repeat (first | with_reducible exact hbx_19 | (with_reducible refine obj_alloc_at ?_; simp; done) | (with_reducible apply obj_put4; omega) | (with_reducible apply obj_put1; omega) | (with_reducible refine obj_setCell_other ?_ _ _ ?_; rotate_left; (dsimp only; omega)) | with_reducible refine obj_alloc ?_ _ | with_reducible refine obj_drew ?_ | exact hbx_19)
    have hbd_20 : w20.heap[w17.heap.size]? = some (.cells #[.int .u8 2, .int .i64 1, .int .i64 0, .string ⟨#[]⟩] 23 (0, 0)) := by
      refine hf20.obj (fun x => x) ?_
      repeat (first | with_reducible exact hbd_19 | (with_reducible refine obj_alloc_at ?_; simp; done) | (with_reducible apply obj_put4; omega) | (with_reducible apply obj_put1; omega) | (with_reducible refine obj_setCell_other ?_ _ _ ?_; rotate_left; (dsimp only; omega)) | with_reducible refine obj_alloc ?_ _ | with_reducible refine obj_drew ?_ | exact hbd_19)
    have hfw_20 : Fr noB w w20 := by
      refine Fr.transN ?_ hf20
      repeat (first | with_reducible exact hfw_19 | with_reducible refine Fr.alloc ?_ _ | (with_reducible refine Fr.setCell ?_ ?_ _; rotate_left; (intro h; dsimp only at h; omega)) | with_reducible refine Fr.drew ?_ | exact hfw_19)
    clear hbn_19 hby_19 hbu_19 hba_19 hbb_19 hbg_19 hbc_19 hbx_19 hbd_19 ln ly lu la lb lg lc lx ld hl po0 po1 po2 po3 po4 po5 po6 cn_0 cn_1 cn_2 cn_3 zn cy_0 cy_1 cy_2 cy_3 zy cu_0 cu_1 cu_2 cu_3 zu ca_0 ca_1 ca_2 ca_3 za cb_0 cb_1 cb_2 cb_3 zb cg_0 cg_1 cg_2 cg_3 zg cc_0 cc_1 cc_2 cc_3 zc cx_0 cx_1 cx_2 cx_3 zx cd_0 cd_1 cd_2 cd_3 zd hf20 hfw_19
    obtain ⟨cn_0, cn_1, cn_2, cn_3⟩ := v_cells (v := noV) hbn_20
    dsimp only [noV] at cn_0 cn_1 cn_2 cn_3
    have zn := frozen_of_obj hbn_20
    obtain ⟨cy_0, cy_1, cy_2, cy_3⟩ := v_cells (v := yesV) hby_20
    dsimp only [yesV] at cy_0 cy_1 cy_2 cy_3
    have zy := frozen_of_obj hby_20
    obtain ⟨cu_0, cu_1, cu_2, cu_3⟩ := v_cells (v := zV) hbu_20
    dsimp only [zV] at cu_0 cu_1 cu_2 cu_3
    have zu := frozen_of_obj hbu_20
    obtain ⟨ca_0, ca_1, ca_2, ca_3⟩ := v_cells (v := noV) hba_20
    dsimp only [noV] at ca_0 ca_1 ca_2 ca_3
    have za := frozen_of_obj hba_20
    obtain ⟨cb_0, cb_1, cb_2, cb_3⟩ := v_cells (v := zV) hbb_20
    dsimp only [zV] at cb_0 cb_1 cb_2 cb_3
    have zb := frozen_of_obj hbb_20
    obtain ⟨cg_0, cg_1, cg_2, cg_3⟩ := v_cells (v := zV) hbg_20
    dsimp only [zV] at cg_0 cg_1 cg_2 cg_3
    have zg := frozen_of_obj hbg_20
    obtain ⟨cc_0, cc_1, cc_2, cc_3⟩ := v_cells (v := zV) hbc_20
    dsimp only [zV] at cc_0 cc_1 cc_2 cc_3
    have zc := frozen_of_obj hbc_20
    obtain ⟨cx_0, cx_1, cx_2, cx_3⟩ := v_cells (v := zV) hbx_20
    dsimp only [zV] at cx_0 cx_1 cx_2 cx_3
    have zx := frozen_of_obj hbx_20
    obtain ⟨cd_0, cd_1, cd_2, cd_3⟩ := v_cells (v := yesV) hbd_20
    dsimp only [yesV] at cd_0 cd_1 cd_2 cd_3
    have zd := frozen_of_obj hbd_20
    go_wp2_with fail
    have ln := obj_lt hbn_20
    have ly := obj_lt hby_20
    have lu := obj_lt hbu_20
    have la := obj_lt hba_20
    have lb := obj_lt hbb_20
    have lg := obj_lt hbg_20
    have lc := obj_lt hbc_20
    have lx := obj_lt hbx_20
    have ld := obj_lt hbd_20
    have hl := hfw_20.size
    have po0 := o0.out
    have po1 := o1.out
    have po2 := o2.out
    have po3 := o3.out
    have po4 := o4.out
    have po5 := o5.out
    have po6 := o6.out
    go_ret
    refine ⟨?_, ?_⟩
    · rfl
    · skip
      repeat (first | with_reducible exact hfw_20 | with_reducible refine Fr.alloc ?_ _ | (with_reducible refine Fr.setCell ?_ ?_ _; rotate_left; (intro h; dsimp only at h; omega)) | with_reducible refine Fr.drew ?_ | exact hfw_20)


end Go.Proofs.Ytcncjghcnofioaa
