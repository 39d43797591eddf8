/- The walk of ExprPut. No condition. -/
import Derived.Test.YtengccmjlaejfaaMg30
import Derived.Test.YtengccmjlaejfaaMg10
import Derived.Test.YtengccmjlaejfaaExt
section
namespace Go.Proofs.Ytengccmjlaejfaa
open Go.RowKit

theorem eqv_lit (a b : V) (r : Bool) (h : eqV a b = r) (w : World) : (binOp .eql 23 (.agg #[.int .u8 a.k, .int .i64 a.n, .int .i64 a.hi, .string a.t]) (.agg #[.int .u8 b.k, .int .i64 b.n, .int .i64 b.hi, .string b.t])).run Try.prog w = .ok (.bool r) w := by
  rw [eqv_run, h]
set_option maxRecDepth 100000 in
set_option maxHeartbeats 4000000 in
theorem put_walk (w : World) (t : Tr) (S : Value) (A0 : Option Addr) (n0 c0 : Nat) (L : Bool) (A B : V × Int) (q : Bool) (qE : Hid (∀ W : World, (binOp .eql 23 (.agg #[.int .u8 A.1.k, .int .i64 A.1.n, .int .i64 A.1.hi, .string A.1.t]) (.agg #[.int .u8 B.1.k, .int .i64 B.1.n, .int .i64 B.1.hi, .string B.1.t])).run Try.prog W = .ok (.bool q) W)) (fin : A.2 = 4 ∨ q = true ∧ A.2 = B.2) (HW : Hid (∀ W : World, Calls Try.prog 8 #[] W fun e w' => e = .returned (.bool true) ∧ Fr noB W w'))
    (HL : Hid (∀ W : World, Fr noB w W → Calls Try.prog 9 #[.agg #[.int .u8 t.op, .int .u8 t.k, .int .i64 t.vn, .int .i64 t.hi, .string t.t, .int .i64 t.n, S]] W fun e w' => e = .returned (.bool L) ∧ Fr noB W w'))
    (HE : Hid (∀ W : World, Fr noB w W → Calls Try.prog 12 #[.agg #[.int .u8 t.op, .int .u8 t.k, .int .i64 t.vn, .int .i64 t.hi, .string t.t, .int .i64 t.n, S], .slice A0 n0 c0] W fun e w' => e = .returned (.tuple #[.agg #[.int .u8 A.1.k, .int .i64 A.1.n, .int .i64 A.1.hi, .string A.1.t], .int .i64 A.2]) ∧ Fr noB W w'))
    (Q : World → Value → Prop)
    (HP : L = false → Hid (∀ W : World, Fr noB w W → Calls Try.prog 13 #[.agg #[.int .u8 t.op, .int .u8 t.k, .int .i64 t.vn, .int .i64 t.hi, .string t.t, .int .i64 t.n, S], .slice A0 n0 c0] W fun e w' => ∃ y, e = .returned y ∧ Fr noB W w' ∧ Q w' y))
    (HE2 : Hid (∀ (W : World) (y : Value), Fr noB w W → Q W y → Calls Try.prog 12 #[y, .slice A0 n0 c0] W fun e w' => e = .returned (.tuple #[.agg #[.int .u8 B.1.k, .int .i64 B.1.n, .int .i64 B.1.hi, .string B.1.t], .int .i64 B.2]) ∧ Fr noB W w')) :
    Calls Try.prog 4 #[.agg #[.int .u8 t.op, .int .u8 t.k, .int .i64 t.vn, .int .i64 t.hi, .string t.t, .int .i64 t.n, S], .slice A0 n0 c0] w fun e w' => e = .returned (.bool true) ∧ Fr noB w w' := by
  by_cases p1 : L = true
  · subst p1
    go_enter Try.func4, Try.ntmps4
    go_upto_region 1 with fail
    have hfw_0 := Fr.refl noB w
    have hl := hfw_0.size
    refine wp_world (fun W => Fr noB w W ∧ W.heap[w.heap.size]? = some (.cells #[.int .u8 t.op, .int .u8 t.k, .int .i64 t.vn, .int .i64 t.hi, .string t.t, .int .i64 t.n, S] 26 (0, 0))) ?_ ?_
    · refine ⟨?_, ?_⟩ <;> ((first | unfold Bx | unfold Bl | skip); repeat (first | with_reducible exact hfw_0 | with_reducible refine Fr.alloc ?_ _ | (with_reducible refine Fr.setCell ?_ ?_ _; rotate_left; (intro h; dsimp only at h; omega)) | with_reducible refine Fr.drew ?_ | (with_reducible refine obj_alloc_at ?_; simp; done) | (with_reducible apply obj_put4; omega) | (with_reducible apply obj_put1; omega) | (with_reducible refine obj_setCell_other ?_ _ _ ?_; rotate_left; (dsimp only; omega)) | with_reducible refine obj_alloc ?_ _ | with_reducible refine obj_drew ?_ | exact hfw_0))
    clear hl hfw_0
    rintro w1 ⟨hfw_1, hbe_1⟩
    have ce_0 : w1.cell? ⟨w.heap.size, 0, none⟩ = some (.int .u8 t.op) := by rw [cell_of_obj hbe_1]; rfl
    have ce_1 : w1.cell? ⟨w.heap.size, 1, none⟩ = some (.int .u8 t.k) := by rw [cell_of_obj hbe_1]; rfl
    have ce_2 : w1.cell? ⟨w.heap.size, 2, none⟩ = some (.int .i64 t.vn) := by rw [cell_of_obj hbe_1]; rfl
    have ce_3 : w1.cell? ⟨w.heap.size, 3, none⟩ = some (.int .i64 t.hi) := by rw [cell_of_obj hbe_1]; rfl
    have ce_4 : w1.cell? ⟨w.heap.size, 4, none⟩ = some (.string t.t) := by rw [cell_of_obj hbe_1]; rfl
    have ce_5 : w1.cell? ⟨w.heap.size, 5, none⟩ = some (.int .i64 t.n) := by rw [cell_of_obj hbe_1]; rfl
    have ce_6 : w1.cell? ⟨w.heap.size, 6, none⟩ = some (S) := by rw [cell_of_obj hbe_1]; rfl
    have ze := frozen_of_obj hbe_1
    go_wp2_with fail
    refine (HW.out _).mono ?_
    rintro e w2 ⟨rfl, hf2⟩
    have le := obj_lt hbe_1
    have hl := hfw_1.size
    have hB : w2.heap[w.heap.size]? = some (.cells #[.int .u8 t.op, .int .u8 t.k, .int .i64 t.vn, .int .i64 t.hi, .string t.t, .int .i64 t.n, S] 26 (0, 0)) := by
      ((first | unfold Bx | unfold Bl | skip); refine hf2.obj (noB_not _) ?_; repeat (first | with_reducible exact hbe_1 | (with_reducible refine obj_alloc_at ?_; simp; done) | (with_reducible apply obj_put4; omega) | (with_reducible apply obj_put1; omega) | (with_reducible refine obj_setCell_other ?_ _ _ ?_; rotate_left; (dsimp only; omega)) | with_reducible refine obj_alloc ?_ _ | with_reducible refine obj_drew ?_))
    have hbe_2 := hB
    have hfw_2 : Fr noB w w2 := by
      refine Fr.transN ?_ hf2
      repeat (first | with_reducible exact hfw_1 | with_reducible refine Fr.alloc ?_ _ | (with_reducible refine Fr.setCell ?_ ?_ _; rotate_left; (intro h; dsimp only at h; omega)) | with_reducible refine Fr.drew ?_ | exact hfw_1)
    clear hbe_1 le hl ce_0 ce_1 ce_2 ce_3 ce_4 ce_5 ce_6 ze hB hf2 hfw_1
    have ce_0 : w2.cell? ⟨w.heap.size, 0, none⟩ = some (.int .u8 t.op) := by rw [cell_of_obj hbe_2]; rfl
    have ce_1 : w2.cell? ⟨w.heap.size, 1, none⟩ = some (.int .u8 t.k) := by rw [cell_of_obj hbe_2]; rfl
    have ce_2 : w2.cell? ⟨w.heap.size, 2, none⟩ = some (.int .i64 t.vn) := by rw [cell_of_obj hbe_2]; rfl
    have ce_3 : w2.cell? ⟨w.heap.size, 3, none⟩ = some (.int .i64 t.hi) := by rw [cell_of_obj hbe_2]; rfl
    have ce_4 : w2.cell? ⟨w.heap.size, 4, none⟩ = some (.string t.t) := by rw [cell_of_obj hbe_2]; rfl
    have ce_5 : w2.cell? ⟨w.heap.size, 5, none⟩ = some (.int .i64 t.n) := by rw [cell_of_obj hbe_2]; rfl
    have ce_6 : w2.cell? ⟨w.heap.size, 6, none⟩ = some (S) := by rw [cell_of_obj hbe_2]; rfl
    have ze := frozen_of_obj hbe_2
    go_wp2_with fail
    refine (HL.out _ hfw_2).mono ?_
    rintro e w3 ⟨rfl, hf3⟩
    have le := obj_lt hbe_2
    have hl := hfw_2.size
    have hB : w3.heap[w.heap.size]? = some (.cells #[.int .u8 t.op, .int .u8 t.k, .int .i64 t.vn, .int .i64 t.hi, .string t.t, .int .i64 t.n, S] 26 (0, 0)) := by
      ((first | unfold Bx | unfold Bl | skip); refine hf3.obj (noB_not _) ?_; repeat (first | with_reducible exact hbe_2 | (with_reducible refine obj_alloc_at ?_; simp; done) | (with_reducible apply obj_put4; omega) | (with_reducible apply obj_put1; omega) | (with_reducible refine obj_setCell_other ?_ _ _ ?_; rotate_left; (dsimp only; omega)) | with_reducible refine obj_alloc ?_ _ | with_reducible refine obj_drew ?_))
    have hbe_3 := hB
    have hfw_3 : Fr noB w w3 := by
      refine Fr.transN ?_ hf3
      repeat (first | with_reducible exact hfw_2 | with_reducible refine Fr.alloc ?_ _ | (with_reducible refine Fr.setCell ?_ ?_ _; rotate_left; (intro h; dsimp only at h; omega)) | with_reducible refine Fr.drew ?_ | exact hfw_2)
    clear hbe_2 le hl ce_0 ce_1 ce_2 ce_3 ce_4 ce_5 ce_6 ze hB hf3 hfw_2
    have ce_0 : w3.cell? ⟨w.heap.size, 0, none⟩ = some (.int .u8 t.op) := by rw [cell_of_obj hbe_3]; rfl
    have ce_1 : w3.cell? ⟨w.heap.size, 1, none⟩ = some (.int .u8 t.k) := by rw [cell_of_obj hbe_3]; rfl
    have ce_2 : w3.cell? ⟨w.heap.size, 2, none⟩ = some (.int .i64 t.vn) := by rw [cell_of_obj hbe_3]; rfl
    have ce_3 : w3.cell? ⟨w.heap.size, 3, none⟩ = some (.int .i64 t.hi) := by rw [cell_of_obj hbe_3]; rfl
    have ce_4 : w3.cell? ⟨w.heap.size, 4, none⟩ = some (.string t.t) := by rw [cell_of_obj hbe_3]; rfl
    have ce_5 : w3.cell? ⟨w.heap.size, 5, none⟩ = some (.int .i64 t.n) := by rw [cell_of_obj hbe_3]; rfl
    have ce_6 : w3.cell? ⟨w.heap.size, 6, none⟩ = some (S) := by rw [cell_of_obj hbe_3]; rfl
    have ze := frozen_of_obj hbe_3
    go_wp2_with fail
    refine (HW.out _).mono ?_
    rintro e w4 ⟨rfl, hf4⟩
    have le := obj_lt hbe_3
    have hl := hfw_3.size
    have hB : w4.heap[w.heap.size]? = some (.cells #[.int .u8 t.op, .int .u8 t.k, .int .i64 t.vn, .int .i64 t.hi, .string t.t, .int .i64 t.n, S] 26 (0, 0)) := by
      ((first | unfold Bx | unfold Bl | skip); refine hf4.obj (noB_not _) ?_; repeat (first | with_reducible exact hbe_3 | (with_reducible refine obj_alloc_at ?_; simp; done) | (with_reducible apply obj_put4; omega) | (with_reducible apply obj_put1; omega) | (with_reducible refine obj_setCell_other ?_ _ _ ?_; rotate_left; (dsimp only; omega)) | with_reducible refine obj_alloc ?_ _ | with_reducible refine obj_drew ?_))
    have hbe_4 := hB
    have hfw_4 : Fr noB w w4 := by
      refine Fr.transN ?_ hf4
      repeat (first | with_reducible exact hfw_3 | with_reducible refine Fr.alloc ?_ _ | (with_reducible refine Fr.setCell ?_ ?_ _; rotate_left; (intro h; dsimp only at h; omega)) | with_reducible refine Fr.drew ?_ | exact hfw_3)
    clear hbe_3 le hl ce_0 ce_1 ce_2 ce_3 ce_4 ce_5 ce_6 ze hB hf4 hfw_3
    have ce_0 : w4.cell? ⟨w.heap.size, 0, none⟩ = some (.int .u8 t.op) := by rw [cell_of_obj hbe_4]; rfl
    have ce_1 : w4.cell? ⟨w.heap.size, 1, none⟩ = some (.int .u8 t.k) := by rw [cell_of_obj hbe_4]; rfl
    have ce_2 : w4.cell? ⟨w.heap.size, 2, none⟩ = some (.int .i64 t.vn) := by rw [cell_of_obj hbe_4]; rfl
    have ce_3 : w4.cell? ⟨w.heap.size, 3, none⟩ = some (.int .i64 t.hi) := by rw [cell_of_obj hbe_4]; rfl
    have ce_4 : w4.cell? ⟨w.heap.size, 4, none⟩ = some (.string t.t) := by rw [cell_of_obj hbe_4]; rfl
    have ce_5 : w4.cell? ⟨w.heap.size, 5, none⟩ = some (.int .i64 t.n) := by rw [cell_of_obj hbe_4]; rfl
    have ce_6 : w4.cell? ⟨w.heap.size, 6, none⟩ = some (S) := by rw [cell_of_obj hbe_4]; rfl
    have ze := frozen_of_obj hbe_4
    go_wp2_with fail
    have le := obj_lt hbe_4
    have hl := hfw_4.size
    go_ret
    refine ⟨?_, ?_⟩
    · rfl
    · skip
      repeat (first | with_reducible exact hfw_4 | with_reducible refine Fr.alloc ?_ _ | (with_reducible refine Fr.setCell ?_ ?_ _; rotate_left; (intro h; dsimp only at h; omega)) | with_reducible refine Fr.drew ?_ | exact hfw_4)
  · have p1 : L = false := by simpa using p1
    subst p1
    replace HP := HP rfl
    by_cases p2 : (500 : Int) < (n0 : Int)
    · go_enter Try.func4, Try.ntmps4
      go_upto_region 1 with fail
      have hfw_0 := Fr.refl noB w
      have hl := hfw_0.size
      refine wp_world (fun W => Fr noB w W ∧ W.heap[w.heap.size]? = some (.cells #[.int .u8 t.op, .int .u8 t.k, .int .i64 t.vn, .int .i64 t.hi, .string t.t, .int .i64 t.n, S] 26 (0, 0))) ?_ ?_
      · refine ⟨?_, ?_⟩ <;> ((first | unfold Bx | unfold Bl | skip); repeat (first | with_reducible exact hfw_0 | with_reducible refine Fr.alloc ?_ _ | (with_reducible refine Fr.setCell ?_ ?_ _; rotate_left; (intro h; dsimp only at h; omega)) | with_reducible refine Fr.drew ?_ | (with_reducible refine obj_alloc_at ?_; simp; done) | (with_reducible apply obj_put4; omega) | (with_reducible apply obj_put1; omega) | (with_reducible refine obj_setCell_other ?_ _ _ ?_; rotate_left; (dsimp only; omega)) | with_reducible refine obj_alloc ?_ _ | with_reducible refine obj_drew ?_ | exact hfw_0))
      clear hl hfw_0
      rintro w1 ⟨hfw_1, hbe_1⟩
      have ce_0 : w1.cell? ⟨w.heap.size, 0, none⟩ = some (.int .u8 t.op) := by rw [cell_of_obj hbe_1]; rfl
      have ce_1 : w1.cell? ⟨w.heap.size, 1, none⟩ = some (.int .u8 t.k) := by rw [cell_of_obj hbe_1]; rfl
      have ce_2 : w1.cell? ⟨w.heap.size, 2, none⟩ = some (.int .i64 t.vn) := by rw [cell_of_obj hbe_1]; rfl
      have ce_3 : w1.cell? ⟨w.heap.size, 3, none⟩ = some (.int .i64 t.hi) := by rw [cell_of_obj hbe_1]; rfl
      have ce_4 : w1.cell? ⟨w.heap.size, 4, none⟩ = some (.string t.t) := by rw [cell_of_obj hbe_1]; rfl
      have ce_5 : w1.cell? ⟨w.heap.size, 5, none⟩ = some (.int .i64 t.n) := by rw [cell_of_obj hbe_1]; rfl
      have ce_6 : w1.cell? ⟨w.heap.size, 6, none⟩ = some (S) := by rw [cell_of_obj hbe_1]; rfl
      have ze := frozen_of_obj hbe_1
      go_wp2_with fail
      refine (HW.out _).mono ?_
      rintro e w2 ⟨rfl, hf2⟩
      have le := obj_lt hbe_1
      have hl := hfw_1.size
      have hB : w2.heap[w.heap.size]? = some (.cells #[.int .u8 t.op, .int .u8 t.k, .int .i64 t.vn, .int .i64 t.hi, .string t.t, .int .i64 t.n, S] 26 (0, 0)) := by
        ((first | unfold Bx | unfold Bl | skip); refine hf2.obj (noB_not _) ?_; repeat (first | with_reducible exact hbe_1 | (with_reducible refine obj_alloc_at ?_; simp; done) | (with_reducible apply obj_put4; omega) | (with_reducible apply obj_put1; omega) | (with_reducible refine obj_setCell_other ?_ _ _ ?_; rotate_left; (dsimp only; omega)) | with_reducible refine obj_alloc ?_ _ | with_reducible refine obj_drew ?_))
      have hbe_2 := hB
      have hfw_2 : Fr noB w w2 := by
        refine Fr.transN ?_ hf2
        repeat (first | with_reducible exact hfw_1 | with_reducible refine Fr.alloc ?_ _ | (with_reducible refine Fr.setCell ?_ ?_ _; rotate_left; (intro h; dsimp only at h; omega)) | with_reducible refine Fr.drew ?_ | exact hfw_1)
      clear hbe_1 le hl ce_0 ce_1 ce_2 ce_3 ce_4 ce_5 ce_6 ze hB hf2 hfw_1
      have ce_0 : w2.cell? ⟨w.heap.size, 0, none⟩ = some (.int .u8 t.op) := by rw [cell_of_obj hbe_2]; rfl
      have ce_1 : w2.cell? ⟨w.heap.size, 1, none⟩ = some (.int .u8 t.k) := by rw [cell_of_obj hbe_2]; rfl
      have ce_2 : w2.cell? ⟨w.heap.size, 2, none⟩ = some (.int .i64 t.vn) := by rw [cell_of_obj hbe_2]; rfl
      have ce_3 : w2.cell? ⟨w.heap.size, 3, none⟩ = some (.int .i64 t.hi) := by rw [cell_of_obj hbe_2]; rfl
      have ce_4 : w2.cell? ⟨w.heap.size, 4, none⟩ = some (.string t.t) := by rw [cell_of_obj hbe_2]; rfl
      have ce_5 : w2.cell? ⟨w.heap.size, 5, none⟩ = some (.int .i64 t.n) := by rw [cell_of_obj hbe_2]; rfl
      have ce_6 : w2.cell? ⟨w.heap.size, 6, none⟩ = some (S) := by rw [cell_of_obj hbe_2]; rfl
      have ze := frozen_of_obj hbe_2
      go_wp2_with fail
      refine (HL.out _ hfw_2).mono ?_
      rintro e w3 ⟨rfl, hf3⟩
      have le := obj_lt hbe_2
      have hl := hfw_2.size
      have hB : w3.heap[w.heap.size]? = some (.cells #[.int .u8 t.op, .int .u8 t.k, .int .i64 t.vn, .int .i64 t.hi, .string t.t, .int .i64 t.n, S] 26 (0, 0)) := by
        ((first | unfold Bx | unfold Bl | skip); refine hf3.obj (noB_not _) ?_; repeat (first | with_reducible exact hbe_2 | (with_reducible refine obj_alloc_at ?_; simp; done) | (with_reducible apply obj_put4; omega) | (with_reducible apply obj_put1; omega) | (with_reducible refine obj_setCell_other ?_ _ _ ?_; rotate_left; (dsimp only; omega)) | with_reducible refine obj_alloc ?_ _ | with_reducible refine obj_drew ?_))
      have hbe_3 := hB
      have hfw_3 : Fr noB w w3 := by
        refine Fr.transN ?_ hf3
        repeat (first | with_reducible exact hfw_2 | with_reducible refine Fr.alloc ?_ _ | (with_reducible refine Fr.setCell ?_ ?_ _; rotate_left; (intro h; dsimp only at h; omega)) | with_reducible refine Fr.drew ?_ | exact hfw_2)
      clear hbe_2 le hl ce_0 ce_1 ce_2 ce_3 ce_4 ce_5 ce_6 ze hB hf3 hfw_2
      have ce_0 : w3.cell? ⟨w.heap.size, 0, none⟩ = some (.int .u8 t.op) := by rw [cell_of_obj hbe_3]; rfl
      have ce_1 : w3.cell? ⟨w.heap.size, 1, none⟩ = some (.int .u8 t.k) := by rw [cell_of_obj hbe_3]; rfl
      have ce_2 : w3.cell? ⟨w.heap.size, 2, none⟩ = some (.int .i64 t.vn) := by rw [cell_of_obj hbe_3]; rfl
      have ce_3 : w3.cell? ⟨w.heap.size, 3, none⟩ = some (.int .i64 t.hi) := by rw [cell_of_obj hbe_3]; rfl
      have ce_4 : w3.cell? ⟨w.heap.size, 4, none⟩ = some (.string t.t) := by rw [cell_of_obj hbe_3]; rfl
      have ce_5 : w3.cell? ⟨w.heap.size, 5, none⟩ = some (.int .i64 t.n) := by rw [cell_of_obj hbe_3]; rfl
      have ce_6 : w3.cell? ⟨w.heap.size, 6, none⟩ = some (S) := by rw [cell_of_obj hbe_3]; rfl
      have ze := frozen_of_obj hbe_3
      go_wp2_with fail
      refine (HW.out _).mono ?_
      rintro e w4 ⟨rfl, hf4⟩
      have le := obj_lt hbe_3
      have hl := hfw_3.size
      have hB : w4.heap[w.heap.size]? = some (.cells #[.int .u8 t.op, .int .u8 t.k, .int .i64 t.vn, .int .i64 t.hi, .string t.t, .int .i64 t.n, S] 26 (0, 0)) := by
        ((first | unfold Bx | unfold Bl | skip); refine hf4.obj (noB_not _) ?_; repeat (first | with_reducible exact hbe_3 | (with_reducible refine obj_alloc_at ?_; simp; done) | (with_reducible apply obj_put4; omega) | (with_reducible apply obj_put1; omega) | (with_reducible refine obj_setCell_other ?_ _ _ ?_; rotate_left; (dsimp only; omega)) | with_reducible refine obj_alloc ?_ _ | with_reducible refine obj_drew ?_))
      have hbe_4 := hB
      have hfw_4 : Fr noB w w4 := by
        refine Fr.transN ?_ hf4
        repeat (first | with_reducible exact hfw_3 | with_reducible refine Fr.alloc ?_ _ | (with_reducible refine Fr.setCell ?_ ?_ _; rotate_left; (intro h; dsimp only at h; omega)) | with_reducible refine Fr.drew ?_ | exact hfw_3)
      clear hbe_3 le hl ce_0 ce_1 ce_2 ce_3 ce_4 ce_5 ce_6 ze hB hf4 hfw_3
      have ce_0 : w4.cell? ⟨w.heap.size, 0, none⟩ = some (.int .u8 t.op) := by rw [cell_of_obj hbe_4]; rfl
      have ce_1 : w4.cell? ⟨w.heap.size, 1, none⟩ = some (.int .u8 t.k) := by rw [cell_of_obj hbe_4]; rfl
      have ce_2 : w4.cell? ⟨w.heap.size, 2, none⟩ = some (.int .i64 t.vn) := by rw [cell_of_obj hbe_4]; rfl
      have ce_3 : w4.cell? ⟨w.heap.size, 3, none⟩ = some (.int .i64 t.hi) := by rw [cell_of_obj hbe_4]; rfl
      have ce_4 : w4.cell? ⟨w.heap.size, 4, none⟩ = some (.string t.t) := by rw [cell_of_obj hbe_4]; rfl
      have ce_5 : w4.cell? ⟨w.heap.size, 5, none⟩ = some (.int .i64 t.n) := by rw [cell_of_obj hbe_4]; rfl
      have ce_6 : w4.cell? ⟨w.heap.size, 6, none⟩ = some (S) := by rw [cell_of_obj hbe_4]; rfl
      have ze := frozen_of_obj hbe_4
      go_wp2_with fail
      have le := obj_lt hbe_4
      have hl := hfw_4.size
      go_ret
      refine ⟨?_, ?_⟩
      · rfl
      · skip
        repeat (first | with_reducible exact hfw_4 | with_reducible refine Fr.alloc ?_ _ | (with_reducible refine Fr.setCell ?_ ?_ _; rotate_left; (intro h; dsimp only at h; omega)) | with_reducible refine Fr.drew ?_ | exact hfw_4)
    · go_enter Try.func4, Try.ntmps4
      go_upto_region 1 with fail
      have hfw_0 := Fr.refl noB w
      have hl := hfw_0.size
      refine wp_world (fun W => Fr noB w W ∧ W.heap[w.heap.size]? = some (.cells #[.int .u8 t.op, .int .u8 t.k, .int .i64 t.vn, .int .i64 t.hi, .string t.t, .int .i64 t.n, S] 26 (0, 0))) ?_ ?_
      · refine ⟨?_, ?_⟩ <;> ((first | unfold Bx | unfold Bl | skip); repeat (first | with_reducible exact hfw_0 | with_reducible refine Fr.alloc ?_ _ | (with_reducible refine Fr.setCell ?_ ?_ _; rotate_left; (intro h; dsimp only at h; omega)) | with_reducible refine Fr.drew ?_ | (with_reducible refine obj_alloc_at ?_; simp; done) | (with_reducible apply obj_put4; omega) | (with_reducible apply obj_put1; omega) | (with_reducible refine obj_setCell_other ?_ _ _ ?_; rotate_left; (dsimp only; omega)) | with_reducible refine obj_alloc ?_ _ | with_reducible refine obj_drew ?_ | exact hfw_0))
      clear hl hfw_0
      rintro w1 ⟨hfw_1, hbe_1⟩
      have ce_0 : w1.cell? ⟨w.heap.size, 0, none⟩ = some (.int .u8 t.op) := by rw [cell_of_obj hbe_1]; rfl
      have ce_1 : w1.cell? ⟨w.heap.size, 1, none⟩ = some (.int .u8 t.k) := by rw [cell_of_obj hbe_1]; rfl
      have ce_2 : w1.cell? ⟨w.heap.size, 2, none⟩ = some (.int .i64 t.vn) := by rw [cell_of_obj hbe_1]; rfl
      have ce_3 : w1.cell? ⟨w.heap.size, 3, none⟩ = some (.int .i64 t.hi) := by rw [cell_of_obj hbe_1]; rfl
      have ce_4 : w1.cell? ⟨w.heap.size, 4, none⟩ = some (.string t.t) := by rw [cell_of_obj hbe_1]; rfl
      have ce_5 : w1.cell? ⟨w.heap.size, 5, none⟩ = some (.int .i64 t.n) := by rw [cell_of_obj hbe_1]; rfl
      have ce_6 : w1.cell? ⟨w.heap.size, 6, none⟩ = some (S) := by rw [cell_of_obj hbe_1]; rfl
      have ze := frozen_of_obj hbe_1
      go_wp2_with fail
      refine (HW.out _).mono ?_
      rintro e w2 ⟨rfl, hf2⟩
      have le := obj_lt hbe_1
      have hl := hfw_1.size
      have hB : w2.heap[w.heap.size]? = some (.cells #[.int .u8 t.op, .int .u8 t.k, .int .i64 t.vn, .int .i64 t.hi, .string t.t, .int .i64 t.n, S] 26 (0, 0)) := by
        ((first | unfold Bx | unfold Bl | skip); refine hf2.obj (noB_not _) ?_; repeat (first | with_reducible exact hbe_1 | (with_reducible refine obj_alloc_at ?_; simp; done) | (with_reducible apply obj_put4; omega) | (with_reducible apply obj_put1; omega) | (with_reducible refine obj_setCell_other ?_ _ _ ?_; rotate_left; (dsimp only; omega)) | with_reducible refine obj_alloc ?_ _ | with_reducible refine obj_drew ?_))
      have hbe_2 := hB
      have hfw_2 : Fr noB w w2 := by
        refine Fr.transN ?_ hf2
        repeat (first | with_reducible exact hfw_1 | with_reducible refine Fr.alloc ?_ _ | (with_reducible refine Fr.setCell ?_ ?_ _; rotate_left; (intro h; dsimp only at h; omega)) | with_reducible refine Fr.drew ?_ | exact hfw_1)
      clear hbe_1 le hl ce_0 ce_1 ce_2 ce_3 ce_4 ce_5 ce_6 ze hB hf2 hfw_1
      have ce_0 : w2.cell? ⟨w.heap.size, 0, none⟩ = some (.int .u8 t.op) := by rw [cell_of_obj hbe_2]; rfl
      have ce_1 : w2.cell? ⟨w.heap.size, 1, none⟩ = some (.int .u8 t.k) := by rw [cell_of_obj hbe_2]; rfl
      have ce_2 : w2.cell? ⟨w.heap.size, 2, none⟩ = some (.int .i64 t.vn) := by rw [cell_of_obj hbe_2]; rfl
      have ce_3 : w2.cell? ⟨w.heap.size, 3, none⟩ = some (.int .i64 t.hi) := by rw [cell_of_obj hbe_2]; rfl
      have ce_4 : w2.cell? ⟨w.heap.size, 4, none⟩ = some (.string t.t) := by rw [cell_of_obj hbe_2]; rfl
      have ce_5 : w2.cell? ⟨w.heap.size, 5, none⟩ = some (.int .i64 t.n) := by rw [cell_of_obj hbe_2]; rfl
      have ce_6 : w2.cell? ⟨w.heap.size, 6, none⟩ = some (S) := by rw [cell_of_obj hbe_2]; rfl
      have ze := frozen_of_obj hbe_2
      go_wp2_with fail
      refine (HL.out _ hfw_2).mono ?_
      rintro e w3 ⟨rfl, hf3⟩
      have le := obj_lt hbe_2
      have hl := hfw_2.size
      have hB : w3.heap[w.heap.size]? = some (.cells #[.int .u8 t.op, .int .u8 t.k, .int .i64 t.vn, .int .i64 t.hi, .string t.t, .int .i64 t.n, S] 26 (0, 0)) := by
        ((first | unfold Bx | unfold Bl | skip); refine hf3.obj (noB_not _) ?_; repeat (first | with_reducible exact hbe_2 | (with_reducible refine obj_alloc_at ?_; simp; done) | (with_reducible apply obj_put4; omega) | (with_reducible apply obj_put1; omega) | (with_reducible refine obj_setCell_other ?_ _ _ ?_; rotate_left; (dsimp only; omega)) | with_reducible refine obj_alloc ?_ _ | with_reducible refine obj_drew ?_))
      have hbe_3 := hB
      have hfw_3 : Fr noB w w3 := by
        refine Fr.transN ?_ hf3
        repeat (first | with_reducible exact hfw_2 | with_reducible refine Fr.alloc ?_ _ | (with_reducible refine Fr.setCell ?_ ?_ _; rotate_left; (intro h; dsimp only at h; omega)) | with_reducible refine Fr.drew ?_ | exact hfw_2)
      clear hbe_2 le hl ce_0 ce_1 ce_2 ce_3 ce_4 ce_5 ce_6 ze hB hf3 hfw_2
      have ce_0 : w3.cell? ⟨w.heap.size, 0, none⟩ = some (.int .u8 t.op) := by rw [cell_of_obj hbe_3]; rfl
      have ce_1 : w3.cell? ⟨w.heap.size, 1, none⟩ = some (.int .u8 t.k) := by rw [cell_of_obj hbe_3]; rfl
      have ce_2 : w3.cell? ⟨w.heap.size, 2, none⟩ = some (.int .i64 t.vn) := by rw [cell_of_obj hbe_3]; rfl
      have ce_3 : w3.cell? ⟨w.heap.size, 3, none⟩ = some (.int .i64 t.hi) := by rw [cell_of_obj hbe_3]; rfl
      have ce_4 : w3.cell? ⟨w.heap.size, 4, none⟩ = some (.string t.t) := by rw [cell_of_obj hbe_3]; rfl
      have ce_5 : w3.cell? ⟨w.heap.size, 5, none⟩ = some (.int .i64 t.n) := by rw [cell_of_obj hbe_3]; rfl
      have ce_6 : w3.cell? ⟨w.heap.size, 6, none⟩ = some (S) := by rw [cell_of_obj hbe_3]; rfl
      have ze := frozen_of_obj hbe_3
      go_upto_region 3 with fail
      have le := obj_lt hbe_3
      have hl := hfw_3.size
      refine wp_world (fun W => Fr noB w W ∧ W.heap[w.heap.size]? = some (.cells #[.int .u8 t.op, .int .u8 t.k, .int .i64 t.vn, .int .i64 t.hi, .string t.t, .int .i64 t.n, S] 26 (0, 0))) ?_ ?_
      · refine ⟨?_, ?_⟩ <;> ((first | unfold Bx | unfold Bl | skip); repeat (first | with_reducible exact hfw_3 | with_reducible refine Fr.alloc ?_ _ | (with_reducible refine Fr.setCell ?_ ?_ _; rotate_left; (intro h; dsimp only at h; omega)) | with_reducible refine Fr.drew ?_ | with_reducible exact hbe_3 | (with_reducible refine obj_alloc_at ?_; simp; done) | (with_reducible apply obj_put4; omega) | (with_reducible apply obj_put1; omega) | (with_reducible refine obj_setCell_other ?_ _ _ ?_; rotate_left; (dsimp only; omega)) | with_reducible refine obj_alloc ?_ _ | with_reducible refine obj_drew ?_ | exact hfw_3))
      clear hbe_3 le hl ce_0 ce_1 ce_2 ce_3 ce_4 ce_5 ce_6 ze hfw_3
      rintro w4 ⟨hfw_4, hbe_4⟩
      have ce_0 : w4.cell? ⟨w.heap.size, 0, none⟩ = some (.int .u8 t.op) := by rw [cell_of_obj hbe_4]; rfl
      have ce_1 : w4.cell? ⟨w.heap.size, 1, none⟩ = some (.int .u8 t.k) := by rw [cell_of_obj hbe_4]; rfl
      have ce_2 : w4.cell? ⟨w.heap.size, 2, none⟩ = some (.int .i64 t.vn) := by rw [cell_of_obj hbe_4]; rfl
      have ce_3 : w4.cell? ⟨w.heap.size, 3, none⟩ = some (.int .i64 t.hi) := by rw [cell_of_obj hbe_4]; rfl
      have ce_4 : w4.cell? ⟨w.heap.size, 4, none⟩ = some (.string t.t) := by rw [cell_of_obj hbe_4]; rfl
      have ce_5 : w4.cell? ⟨w.heap.size, 5, none⟩ = some (.int .i64 t.n) := by rw [cell_of_obj hbe_4]; rfl
      have ce_6 : w4.cell? ⟨w.heap.size, 6, none⟩ = some (S) := by rw [cell_of_obj hbe_4]; rfl
      have ze := frozen_of_obj hbe_4
      go_wp2_with fail
      refine (HE.out _ hfw_4).mono ?_
      rintro e w5 ⟨rfl, hf5⟩
      have le := obj_lt hbe_4
      have hl := hfw_4.size
      have hB : w5.heap[w.heap.size]? = some (.cells #[.int .u8 t.op, .int .u8 t.k, .int .i64 t.vn, .int .i64 t.hi, .string t.t, .int .i64 t.n, S] 26 (0, 0)) := by
        ((first | unfold Bx | unfold Bl | skip); refine hf5.obj (noB_not _) ?_; repeat (first | with_reducible exact hbe_4 | (with_reducible refine obj_alloc_at ?_; simp; done) | (with_reducible apply obj_put4; omega) | (with_reducible apply obj_put1; omega) | (with_reducible refine obj_setCell_other ?_ _ _ ?_; rotate_left; (dsimp only; omega)) | with_reducible refine obj_alloc ?_ _ | with_reducible refine obj_drew ?_))
      have hbe_5 := hB
      have hfw_5 : Fr noB w w5 := by
        refine Fr.transN ?_ hf5
        repeat (first | with_reducible exact hfw_4 | with_reducible refine Fr.alloc ?_ _ | (with_reducible refine Fr.setCell ?_ ?_ _; rotate_left; (intro h; dsimp only at h; omega)) | with_reducible refine Fr.drew ?_ | exact hfw_4)
      clear hbe_4 le hl ce_0 ce_1 ce_2 ce_3 ce_4 ce_5 ce_6 ze hB hf5 hfw_4
      have ce_0 : w5.cell? ⟨w.heap.size, 0, none⟩ = some (.int .u8 t.op) := by rw [cell_of_obj hbe_5]; rfl
      have ce_1 : w5.cell? ⟨w.heap.size, 1, none⟩ = some (.int .u8 t.k) := by rw [cell_of_obj hbe_5]; rfl
      have ce_2 : w5.cell? ⟨w.heap.size, 2, none⟩ = some (.int .i64 t.vn) := by rw [cell_of_obj hbe_5]; rfl
      have ce_3 : w5.cell? ⟨w.heap.size, 3, none⟩ = some (.int .i64 t.hi) := by rw [cell_of_obj hbe_5]; rfl
      have ce_4 : w5.cell? ⟨w.heap.size, 4, none⟩ = some (.string t.t) := by rw [cell_of_obj hbe_5]; rfl
      have ce_5 : w5.cell? ⟨w.heap.size, 5, none⟩ = some (.int .i64 t.n) := by rw [cell_of_obj hbe_5]; rfl
      have ce_6 : w5.cell? ⟨w.heap.size, 6, none⟩ = some (S) := by rw [cell_of_obj hbe_5]; rfl
      have ze := frozen_of_obj hbe_5
      go_upto_region 4 with fail
      have o0 := Lib.hid (obj_lt hbe_5)
      have le := obj_lt hbe_5
      have hl := hfw_5.size
      have po0 := o0.out
      refine wp_world (fun W => Fr noB w W ∧ W.heap[w.heap.size]? = some (.cells #[.int .u8 t.op, .int .u8 t.k, .int .i64 t.vn, .int .i64 t.hi, .string t.t, .int .i64 t.n, S] 26 (0, 0)) ∧ Bx W w5.heap.size A.1) ?_ ?_
      · refine ⟨?_, ?_, ?_⟩ <;> ((first | unfold Bx | unfold Bl | skip); repeat (first | with_reducible exact hfw_5 | with_reducible refine Fr.alloc ?_ _ | (with_reducible refine Fr.setCell ?_ ?_ _; rotate_left; (intro h; dsimp only at h; omega)) | with_reducible refine Fr.drew ?_ | with_reducible exact hbe_5 | (with_reducible refine obj_alloc_at ?_; simp; done) | (with_reducible apply obj_put4; omega) | (with_reducible apply obj_put1; omega) | (with_reducible refine obj_setCell_other ?_ _ _ ?_; rotate_left; (dsimp only; omega)) | with_reducible refine obj_alloc ?_ _ | with_reducible refine obj_drew ?_ | exact hfw_5))
      clear hbe_5 le hl po0 ce_0 ce_1 ce_2 ce_3 ce_4 ce_5 ce_6 ze hfw_5
      rintro w6 ⟨hfw_6, hbe_6, hba_6⟩
      have ce_0 : w6.cell? ⟨w.heap.size, 0, none⟩ = some (.int .u8 t.op) := by rw [cell_of_obj hbe_6]; rfl
      have ce_1 : w6.cell? ⟨w.heap.size, 1, none⟩ = some (.int .u8 t.k) := by rw [cell_of_obj hbe_6]; rfl
      have ce_2 : w6.cell? ⟨w.heap.size, 2, none⟩ = some (.int .i64 t.vn) := by rw [cell_of_obj hbe_6]; rfl
      have ce_3 : w6.cell? ⟨w.heap.size, 3, none⟩ = some (.int .i64 t.hi) := by rw [cell_of_obj hbe_6]; rfl
      have ce_4 : w6.cell? ⟨w.heap.size, 4, none⟩ = some (.string t.t) := by rw [cell_of_obj hbe_6]; rfl
      have ce_5 : w6.cell? ⟨w.heap.size, 5, none⟩ = some (.int .i64 t.n) := by rw [cell_of_obj hbe_6]; rfl
      have ce_6 : w6.cell? ⟨w.heap.size, 6, none⟩ = some (S) := by rw [cell_of_obj hbe_6]; rfl
      have ze := frozen_of_obj hbe_6
      obtain ⟨ca_0, ca_1, ca_2, ca_3, za⟩ := hba_6.cs
      go_wp2_with fail
      refine (HP.out _ hfw_6).mono ?_
      rintro e w7 ⟨y, rfl, hf7, hy⟩
      have le := obj_lt hbe_6
      have la := hba_6.lt
      have hl := hfw_6.size
      have po0 := o0.out
      have hB : w7.heap[w.heap.size]? = some (.cells #[.int .u8 t.op, .int .u8 t.k, .int .i64 t.vn, .int .i64 t.hi, .string t.t, .int .i64 t.n, S] 26 (0, 0)) ∧ Bx w7 w5.heap.size A.1 := by
        refine ⟨?_, ?_⟩ <;> ((first | unfold Bx | unfold Bl | skip); refine hf7.obj (noB_not _) ?_; repeat (first | with_reducible exact hbe_6 | with_reducible exact hba_6.raw | (with_reducible refine obj_alloc_at ?_; simp; done) | (with_reducible apply obj_put4; omega) | (with_reducible apply obj_put1; omega) | (with_reducible refine obj_setCell_other ?_ _ _ ?_; rotate_left; (dsimp only; omega)) | with_reducible refine obj_alloc ?_ _ | with_reducible refine obj_drew ?_))
      obtain ⟨hbe_7, hba_7⟩ := hB
      have hfw_7 : Fr noB w w7 := by
        refine Fr.transN ?_ hf7
        repeat (first | with_reducible exact hfw_6 | with_reducible refine Fr.alloc ?_ _ | (with_reducible refine Fr.setCell ?_ ?_ _; rotate_left; (intro h; dsimp only at h; omega)) | with_reducible refine Fr.drew ?_ | exact hfw_6)
      clear hbe_6 hba_6 le la hl po0 ce_0 ce_1 ce_2 ce_3 ce_4 ce_5 ce_6 ze ca_0 ca_1 ca_2 ca_3 za hf7 hfw_6
      have ce_0 : w7.cell? ⟨w.heap.size, 0, none⟩ = some (.int .u8 t.op) := by rw [cell_of_obj hbe_7]; rfl
      have ce_1 : w7.cell? ⟨w.heap.size, 1, none⟩ = some (.int .u8 t.k) := by rw [cell_of_obj hbe_7]; rfl
      have ce_2 : w7.cell? ⟨w.heap.size, 2, none⟩ = some (.int .i64 t.vn) := by rw [cell_of_obj hbe_7]; rfl
      have ce_3 : w7.cell? ⟨w.heap.size, 3, none⟩ = some (.int .i64 t.hi) := by rw [cell_of_obj hbe_7]; rfl
      have ce_4 : w7.cell? ⟨w.heap.size, 4, none⟩ = some (.string t.t) := by rw [cell_of_obj hbe_7]; rfl
      have ce_5 : w7.cell? ⟨w.heap.size, 5, none⟩ = some (.int .i64 t.n) := by rw [cell_of_obj hbe_7]; rfl
      have ce_6 : w7.cell? ⟨w.heap.size, 6, none⟩ = some (S) := by rw [cell_of_obj hbe_7]; rfl
      have ze := frozen_of_obj hbe_7
      obtain ⟨ca_0, ca_1, ca_2, ca_3, za⟩ := hba_7.cs
      go_wp2_with fail
      refine (HE2.out _ y hfw_7 hy).mono ?_
      rintro e w8 ⟨rfl, hf8⟩
      have le := obj_lt hbe_7
      have la := hba_7.lt
      have hl := hfw_7.size
      have po0 := o0.out
      have hB : w8.heap[w.heap.size]? = some (.cells #[.int .u8 t.op, .int .u8 t.k, .int .i64 t.vn, .int .i64 t.hi, .string t.t, .int .i64 t.n, S] 26 (0, 0)) ∧ Bx w8 w5.heap.size A.1 := by
        refine ⟨?_, ?_⟩ <;> ((first | unfold Bx | unfold Bl | skip); refine hf8.obj (noB_not _) ?_; repeat (first | with_reducible exact hbe_7 | with_reducible exact hba_7.raw | (with_reducible refine obj_alloc_at ?_; simp; done) | (with_reducible apply obj_put4; omega) | (with_reducible apply obj_put1; omega) | (with_reducible refine obj_setCell_other ?_ _ _ ?_; rotate_left; (dsimp only; omega)) | with_reducible refine obj_alloc ?_ _ | with_reducible refine obj_drew ?_))
      obtain ⟨hbe_8, hba_8⟩ := hB
      have hfw_8 : Fr noB w w8 := by
        refine Fr.transN ?_ hf8
        repeat (first | with_reducible exact hfw_7 | with_reducible refine Fr.alloc ?_ _ | (with_reducible refine Fr.setCell ?_ ?_ _; rotate_left; (intro h; dsimp only at h; omega)) | with_reducible refine Fr.drew ?_ | exact hfw_7)
      clear hbe_7 hba_7 le la hl po0 ce_0 ce_1 ce_2 ce_3 ce_4 ce_5 ce_6 ze ca_0 ca_1 ca_2 ca_3 za hf8 hfw_7
      have ce_0 : w8.cell? ⟨w.heap.size, 0, none⟩ = some (.int .u8 t.op) := by rw [cell_of_obj hbe_8]; rfl
      have ce_1 : w8.cell? ⟨w.heap.size, 1, none⟩ = some (.int .u8 t.k) := by rw [cell_of_obj hbe_8]; rfl
      have ce_2 : w8.cell? ⟨w.heap.size, 2, none⟩ = some (.int .i64 t.vn) := by rw [cell_of_obj hbe_8]; rfl
      have ce_3 : w8.cell? ⟨w.heap.size, 3, none⟩ = some (.int .i64 t.hi) := by rw [cell_of_obj hbe_8]; rfl
      have ce_4 : w8.cell? ⟨w.heap.size, 4, none⟩ = some (.string t.t) := by rw [cell_of_obj hbe_8]; rfl
      have ce_5 : w8.cell? ⟨w.heap.size, 5, none⟩ = some (.int .i64 t.n) := by rw [cell_of_obj hbe_8]; rfl
      have ce_6 : w8.cell? ⟨w.heap.size, 6, none⟩ = some (S) := by rw [cell_of_obj hbe_8]; rfl
      have ze := frozen_of_obj hbe_8
      obtain ⟨ca_0, ca_1, ca_2, ca_3, za⟩ := hba_8.cs
      go_upto_region 5 with fail
      have o1 := Lib.hid (hba_8.lt)
      have le := obj_lt hbe_8
      have la := hba_8.lt
      have hl := hfw_8.size
      have po0 := o0.out
      have po1 := o1.out
      refine wp_world (fun W => Fr noB w W ∧ W.heap[w.heap.size]? = some (.cells #[.int .u8 t.op, .int .u8 t.k, .int .i64 t.vn, .int .i64 t.hi, .string t.t, .int .i64 t.n, S] 26 (0, 0)) ∧ Bx W w5.heap.size A.1 ∧ Bx W w8.heap.size B.1) ?_ ?_
      · refine ⟨?_, ?_, ?_, ?_⟩ <;> ((first | unfold Bx | unfold Bl | skip); repeat (first | with_reducible exact hfw_8 | with_reducible refine Fr.alloc ?_ _ | (with_reducible refine Fr.setCell ?_ ?_ _; rotate_left; (intro h; dsimp only at h; omega)) | with_reducible refine Fr.drew ?_ | with_reducible exact hbe_8 | with_reducible exact hba_8.raw | (with_reducible refine obj_alloc_at ?_; simp; done) | (with_reducible apply obj_put4; omega) | (with_reducible apply obj_put1; omega) | (with_reducible refine obj_setCell_other ?_ _ _ ?_; rotate_left; (dsimp only; omega)) | with_reducible refine obj_alloc ?_ _ | with_reducible refine obj_drew ?_ | exact hfw_8))
      clear hbe_8 hba_8 le la hl po0 po1 ce_0 ce_1 ce_2 ce_3 ce_4 ce_5 ce_6 ze ca_0 ca_1 ca_2 ca_3 za hfw_8
      rintro w9 ⟨hfw_9, hbe_9, hba_9, hbb_9⟩
      have ce_0 : w9.cell? ⟨w.heap.size, 0, none⟩ = some (.int .u8 t.op) := by rw [cell_of_obj hbe_9]; rfl
      have ce_1 : w9.cell? ⟨w.heap.size, 1, none⟩ = some (.int .u8 t.k) := by rw [cell_of_obj hbe_9]; rfl
      have ce_2 : w9.cell? ⟨w.heap.size, 2, none⟩ = some (.int .i64 t.vn) := by rw [cell_of_obj hbe_9]; rfl
      have ce_3 : w9.cell? ⟨w.heap.size, 3, none⟩ = some (.int .i64 t.hi) := by rw [cell_of_obj hbe_9]; rfl
      have ce_4 : w9.cell? ⟨w.heap.size, 4, none⟩ = some (.string t.t) := by rw [cell_of_obj hbe_9]; rfl
      have ce_5 : w9.cell? ⟨w.heap.size, 5, none⟩ = some (.int .i64 t.n) := by rw [cell_of_obj hbe_9]; rfl
      have ce_6 : w9.cell? ⟨w.heap.size, 6, none⟩ = some (S) := by rw [cell_of_obj hbe_9]; rfl
      have ze := frozen_of_obj hbe_9
      obtain ⟨ca_0, ca_1, ca_2, ca_3, za⟩ := hba_9.cs
      obtain ⟨cb_0, cb_1, cb_2, cb_3, zb⟩ := hbb_9.cs
      have qEx := qE.out
      have le := obj_lt hbe_9
      have la := hba_9.lt
      have lb := hbb_9.lt
      have hl := hfw_9.size
      have po0 := o0.out
      have po1 := o1.out
      go_wp2_with fail
      all_goals go_ret
      all_goals refine ⟨?_, ?_⟩
      all_goals first | rfl | ((repeat (first | with_reducible exact hfw_9 | with_reducible refine Fr.alloc ?_ _ | (with_reducible refine Fr.setCell ?_ ?_ _; rotate_left; (intro h; dsimp only at h; omega)) | with_reducible refine Fr.drew ?_ | exact hfw_9)); done) | (clear HW HL HE HP HE2; simp_all; done) | (rcases fin with f0 | ⟨f1, f2⟩; (exact absurd f0 (by assumption)); first | exact absurd f1 (by assumption) | (show Ending.returned (Value.bool (A.2 == 4 || A.2 == B.2)) = Ending.returned (.bool true); rw [f2]; simp; done))

end Go.Proofs.Ytengccmjlaejfaa
end
section
namespace Go.Proofs.Ytengccmjlaejfaa
open Ev Go.RowKit
set_option maxRecDepth 100000
set_option linter.unusedVariables false
def toW (v : Vl) : V := ⟨v.k, v.n, v.hi, v.t⟩
theorem exput_calls {t : Tr} {row : List Vl} {W : World} {vs : Array Value} (h : @VRels ⟨fun b => W.heap[b]?, false⟩ (fun _ => none) [trA t, .fz (eL row) row.length vks] vs.toList) :
    Calls Try.prog 4 vs W fun e w' => e = .returned (.bool true) ∧ Go.Proofs.Ytengccmjlaejfaa.Fr noB W w' := by
  obtain ⟨y1, s1, e1, h1, y2, s2, e2, ⟨_, h2⟩, h3⟩ := h
  have h3 : s2 = [] := h3
  subst h3
  subst e2
  obtain rfl : vs = #[y1, y2] := by apply Array.ext'; rw [e1]
  obtain ⟨S, rfl, hS⟩ := ex_vrel h1
  obtain ⟨A0, c0, hy2, _⟩ := fz_V W row y2 h2
  have hfin : (evalF row t).2 = 4 ∨ eqV (toW (evalF row t).1) (toW (evalF row (putF row t)).1) = true ∧ (evalF row t).2 = (evalF row (putF row t)).2 := by
    by_cases c : (evalF row t).2 = 4
    · exact .inl c
    · rw [put_law row t c]; exact .inr ⟨eqV_self _, rfl⟩
  rw [List.length_map] at hy2
  subst hy2
  exact put_walk W t S A0 row.length c0 (decide (sizeF t 500 > 500)) (toW (evalF row t).1, (evalF row t).2) (toW (evalF row (putF row t)).1, (evalF row (putF row t)).2)
    (eqV (toW (evalF row t).1) (toW (evalF row (putF row t)).1)) (fun W' => eqv_lit (toW (evalF row t).1) (toW (evalF row (putF row t)).1) _ rfl W') hfin
    (fun W' => works_true W') (fun W' hf => large_calls hS hf) (fun W' hf => eval_calls h1 h2 hf)
    (fun w' y => @VRel ⟨fun b => w'.heap[b]?, false⟩ (fun _ => none) (trA (putF row t)) y ∧ (∀ (b : Nat) (o : Obj), W.heap[b]? = some o → w'.heap[b]? = some o))
    (fun hL W' hf => by
      have hc : cntF t ≤ 1000 := by
        have hL : ¬ sizeF t 500 > 500 := by simpa using hL
        have := (sizeF_iff t 500).2
        omega
      refine (put_calls hc hS h2 hf).mono ?_
      rintro e w' ⟨y, he, hf', hv⟩
      exact ⟨y, he, hf', hv, fr_m (hf.trans hf')⟩)
    (fun W' y hf ⟨hv, hm⟩ => by
      have hR : @FzRel ⟨fun b => W'.heap[b]?, false⟩ (.l (eL row) row.length vks) (.slice A0 row.length c0) := by
        unfold FzRel at h2 ⊢
        rcases h2 with h2 | ⟨b, o, k, C, e, fr, a1, a2, a3, a4, a5⟩
        · exact .inl h2
        · refine .inr ⟨b, o, k, C, e, fr, a1, a2, hm _ _ a3, a4, fun i c hi hc => ?_⟩
          obtain ⟨f1, z, f2, f3⟩ := a5 i c hi hc
          refine ⟨f1, z, f2, ?_⟩
          match c, hc with
          | 0, _ => exact f3
          | 1, _ => exact f3
          | 2, _ => exact f3
          | 3, _ => exact f3
      exact eval_calls hv hR (Fr.refl _ _))
end Go.Proofs.Ytengccmjlaejfaa
end
