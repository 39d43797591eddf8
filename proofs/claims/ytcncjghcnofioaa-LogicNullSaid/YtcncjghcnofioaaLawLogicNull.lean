/- The walk of LogicNull. No condition. -/
import Derived.Test.YtcncjghcnofioaaBx
import Derived.Test.YtcncjghcnofioaaAwake
import Derived.Test.YtcncjghcnofioaaLogicM
import Derived.Test.YtcncjghcnofioaaLogicI
import Derived.Test.YtcncjghcnofioaaReadV
import Derived.Test.YtcncjghcnofioaaExt
namespace Go.Proofs.Ytcncjghcnofioaa
open Go.RowKit

theorem num_nullr (v : V) (r : Int) (b : Bool) : numV v zV r b = (zV, if areB 1 v = true then 0 else 60) := by
  unfold numV
  have h1 : areB 1 zV = true := rfl
  have h2 : nullB zV = true := rfl
  rw [h1, h2, Bool.and_true, Bool.or_true]
  cases areB 1 v <;> rfl
theorem num_nulll (v : V) (r : Int) (b : Bool) : numV zV v r b = (zV, if areB 1 v = true then 0 else 60) := by
  unfold numV
  have h1 : areB 1 zV = true := rfl
  have h2 : nullB zV = true := rfl
  rw [h1, h2, Bool.true_and, Bool.true_or]
  cases areB 1 v <;> rfl
theorem ord_nullr (v : V) (b : Bool) : ordV v zV b = (zV, 0) := by
  unfold ordV
  have h2 : nullB zV = true := rfl
  rw [h2, Bool.or_true]; rfl
theorem ord_nulll (v : V) (b : Bool) : ordV zV v b = (zV, 0) := by
  unfold ordV
  have h2 : nullB zV = true := rfl
  rw [h2, Bool.true_or]; rfl
theorem kinds (v : V) : ((v.k == 0) = true ∧ (v.k == 2) = false ∧ yesB v = false ∧ areB 2 v = true) ∨ ((v.k == 0) = false ∧ (v.k == 2) = true ∧ yesB v = true ∧ areB 2 v = true) ∨ ((v.k == 0) = false ∧ (v.k == 2) = true ∧ yesB v = false ∧ areB 2 v = true) ∨ ((v.k == 0) = false ∧ (v.k == 2) = false ∧ yesB v = false ∧ areB 2 v = false) := by
  by_cases h0 : v.k = 0
  · exact .inl ⟨by simp [h0], by simp [h0], by simp [yesB, h0], by simp [areB, h0]⟩
  · by_cases h2 : v.k = 2
    · cases hy : yesB v
      · exact .inr (.inr (.inl ⟨by simp [h0], by simp [h2], rfl, by simp [areB, h2]⟩))
      · exact .inr (.inl ⟨by simp [h0], by simp [h2], rfl, by simp [areB, h2]⟩)
    · exact .inr (.inr (.inr ⟨by simp [h0], by simp [h2], by simp [yesB, h2], by simp [areB, h0, h2]⟩))
theorem eqv_lit (a b : V) (r : Bool) (h : eqV a b = r) (w : World) : (binOp .eql 23 (.agg #[.int .u8 a.k, .int .i64 a.n, .int .i64 a.hi, .string a.t]) (.agg #[.int .u8 b.k, .int .i64 b.n, .int .i64 b.hi, .string b.t])).run Try.prog w = .ok (.bool r) w := by
  rw [eqv_run, h]
theorem neqv_lit (a b : V) (r : Bool) (h : eqV a b = !r) (w : World) : (binOp .neq 23 (.agg #[.int .u8 a.k, .int .i64 a.n, .int .i64 a.hi, .string a.t]) (.agg #[.int .u8 b.k, .int .i64 b.n, .int .i64 b.hi, .string b.t])).run Try.prog w = .ok (.bool r) w := by
  rw [neqv_run, h, Bool.not_not]

set_option maxRecDepth 100000 in
set_option maxHeartbeats 4000000 in
theorem null_law (v : V) (hv : -9223372036854775808 ≤ v.n ∧ v.n ≤ 9223372036854775807) (w : World) :
    Calls Try.prog 8 #[vV v] w fun e w' => e = .returned (.bool true) ∧ Fr noB w w' := by
  have HAw := Lib.hid (fun W : World => awake_any W)
  obtain ⟨ee, hee⟩ : ∃ z : Int, z = if areB 1 v = true then 0 else 60 := ⟨_, rfl⟩
  have HAddR := Lib.hid (show ∀ W : World, Calls Try.prog 21 #[.agg #[.int .u8 v.k, .int .i64 v.n, .int .i64 v.hi, .string v.t], .agg #[.int .u8 0, .int .i64 0, .int .i64 0, .string ⟨#[]⟩]] W fun e w' => e = .returned (.tuple #[.agg #[.int .u8 0, .int .i64 0, .int .i64 0, .string ⟨#[]⟩], .int .i64 ee]) ∧ Fr noB W w' from fun W => by
    have h := add_any v zV hv (by decide : -9223372036854775808 ≤ zV.n ∧ zV.n ≤ 9223372036854775807) W
    rw [num_nullr v] at h
    rw [hee]; exact h)
  have HAddL := Lib.hid (show ∀ W : World, Calls Try.prog 21 #[.agg #[.int .u8 0, .int .i64 0, .int .i64 0, .string ⟨#[]⟩], .agg #[.int .u8 v.k, .int .i64 v.n, .int .i64 v.hi, .string v.t]] W fun e w' => e = .returned (.tuple #[.agg #[.int .u8 0, .int .i64 0, .int .i64 0, .string ⟨#[]⟩], .int .i64 ee]) ∧ Fr noB W w' from fun W => by
    have h := add_any zV v (by decide : -9223372036854775808 ≤ zV.n ∧ zV.n ≤ 9223372036854775807) hv W
    rw [num_nulll v] at h
    rw [hee]; exact h)
  have HSubR := Lib.hid (show ∀ W : World, Calls Try.prog 22 #[.agg #[.int .u8 v.k, .int .i64 v.n, .int .i64 v.hi, .string v.t], .agg #[.int .u8 0, .int .i64 0, .int .i64 0, .string ⟨#[]⟩]] W fun e w' => e = .returned (.tuple #[.agg #[.int .u8 0, .int .i64 0, .int .i64 0, .string ⟨#[]⟩], .int .i64 ee]) ∧ Fr noB W w' from fun W => by
    have h := sub_any v zV hv (by decide : -9223372036854775808 ≤ zV.n ∧ zV.n ≤ 9223372036854775807) W
    rw [num_nullr v] at h
    rw [hee]; exact h)
  have HSubL := Lib.hid (show ∀ W : World, Calls Try.prog 22 #[.agg #[.int .u8 0, .int .i64 0, .int .i64 0, .string ⟨#[]⟩], .agg #[.int .u8 v.k, .int .i64 v.n, .int .i64 v.hi, .string v.t]] W fun e w' => e = .returned (.tuple #[.agg #[.int .u8 0, .int .i64 0, .int .i64 0, .string ⟨#[]⟩], .int .i64 ee]) ∧ Fr noB W w' from fun W => by
    have h := sub_any zV v (by decide : -9223372036854775808 ≤ zV.n ∧ zV.n ≤ 9223372036854775807) hv W
    rw [num_nulll v] at h
    rw [hee]; exact h)
  have HMulR := Lib.hid (show ∀ W : World, Calls Try.prog 23 #[.agg #[.int .u8 v.k, .int .i64 v.n, .int .i64 v.hi, .string v.t], .agg #[.int .u8 0, .int .i64 0, .int .i64 0, .string ⟨#[]⟩]] W fun e w' => e = .returned (.tuple #[.agg #[.int .u8 0, .int .i64 0, .int .i64 0, .string ⟨#[]⟩], .int .i64 ee]) ∧ Fr noB W w' from fun W => by
    have h := mul_any v zV hv (by decide : -9223372036854775808 ≤ zV.n ∧ zV.n ≤ 9223372036854775807) W
    rw [num_nullr v] at h
    rw [hee]; exact h)
  have HMulL := Lib.hid (show ∀ W : World, Calls Try.prog 23 #[.agg #[.int .u8 0, .int .i64 0, .int .i64 0, .string ⟨#[]⟩], .agg #[.int .u8 v.k, .int .i64 v.n, .int .i64 v.hi, .string v.t]] W fun e w' => e = .returned (.tuple #[.agg #[.int .u8 0, .int .i64 0, .int .i64 0, .string ⟨#[]⟩], .int .i64 ee]) ∧ Fr noB W w' from fun W => by
    have h := mul_any zV v (by decide : -9223372036854775808 ≤ zV.n ∧ zV.n ≤ 9223372036854775807) hv W
    rw [num_nulll v] at h
    rw [hee]; exact h)
  have HEqualR := Lib.hid (show ∀ W : World, Calls Try.prog 17 #[.agg #[.int .u8 v.k, .int .i64 v.n, .int .i64 v.hi, .string v.t], .agg #[.int .u8 0, .int .i64 0, .int .i64 0, .string ⟨#[]⟩]] W fun e w' => e = .returned (.tuple #[.agg #[.int .u8 0, .int .i64 0, .int .i64 0, .string ⟨#[]⟩], .int .i64 0]) ∧ Fr noB W w' from fun W => by
    have h := equal_any v zV hv (by decide : -9223372036854775808 ≤ zV.n ∧ zV.n ≤ 9223372036854775807) W
    rw [ord_nullr v] at h
    exact h)
  have HEqualL := Lib.hid (show ∀ W : World, Calls Try.prog 17 #[.agg #[.int .u8 0, .int .i64 0, .int .i64 0, .string ⟨#[]⟩], .agg #[.int .u8 v.k, .int .i64 v.n, .int .i64 v.hi, .string v.t]] W fun e w' => e = .returned (.tuple #[.agg #[.int .u8 0, .int .i64 0, .int .i64 0, .string ⟨#[]⟩], .int .i64 0]) ∧ Fr noB W w' from fun W => by
    have h := equal_any zV v (by decide : -9223372036854775808 ≤ zV.n ∧ zV.n ≤ 9223372036854775807) hv W
    rw [ord_nulll v] at h
    exact h)
  have HLessR := Lib.hid (show ∀ W : World, Calls Try.prog 16 #[.agg #[.int .u8 v.k, .int .i64 v.n, .int .i64 v.hi, .string v.t], .agg #[.int .u8 0, .int .i64 0, .int .i64 0, .string ⟨#[]⟩]] W fun e w' => e = .returned (.tuple #[.agg #[.int .u8 0, .int .i64 0, .int .i64 0, .string ⟨#[]⟩], .int .i64 0]) ∧ Fr noB W w' from fun W => by
    have h := less_any v zV hv (by decide : -9223372036854775808 ≤ zV.n ∧ zV.n ≤ 9223372036854775807) W
    rw [ord_nullr v] at h
    exact h)
  have HLessL := Lib.hid (show ∀ W : World, Calls Try.prog 16 #[.agg #[.int .u8 0, .int .i64 0, .int .i64 0, .string ⟨#[]⟩], .agg #[.int .u8 v.k, .int .i64 v.n, .int .i64 v.hi, .string v.t]] W fun e w' => e = .returned (.tuple #[.agg #[.int .u8 0, .int .i64 0, .int .i64 0, .string ⟨#[]⟩], .int .i64 0]) ∧ Fr noB W w' from fun W => by
    have h := less_any zV v (by decide : -9223372036854775808 ≤ zV.n ∧ zV.n ≤ 9223372036854775807) hv W
    rw [ord_nulll v] at h
    exact h)
  have HNot := Lib.hid (show ∀ W : World, Calls Try.prog 27 #[.agg #[.int .u8 0, .int .i64 0, .int .i64 0, .string ⟨#[]⟩]] W fun e w' => e = .returned (.tuple #[.agg #[.int .u8 0, .int .i64 0, .int .i64 0, .string ⟨#[]⟩], .int .i64 0]) ∧ Fr noB W w' from fun W => not_any zV W)
  have HNeg := Lib.hid (show ∀ W : World, Calls Try.prog 24 #[.agg #[.int .u8 0, .int .i64 0, .int .i64 0, .string ⟨#[]⟩]] W fun e w' => e = .returned (.tuple #[.agg #[.int .u8 0, .int .i64 0, .int .i64 0, .string ⟨#[]⟩], .int .i64 0]) ∧ Fr noB W w' from fun W => neg_any zV (by decide) W)
  have HIN := Lib.hid (show ∀ W : World, Calls Try.prog 35 #[.agg #[.int .u8 0, .int .i64 0, .int .i64 0, .string ⟨#[]⟩]] W fun e w' => e = .returned (.agg #[.int .u8 2, .int .i64 1, .int .i64 0, .string ⟨#[]⟩]) ∧ Fr noB W w' from fun W => isnull_any zV W)
  have HIV := Lib.hid (show ∀ W : World, Calls Try.prog 35 #[.agg #[.int .u8 v.k, .int .i64 v.n, .int .i64 v.hi, .string v.t]] W fun e w' => e = .returned (.agg #[.int .u8 (ofV (nullB v)).k, .int .i64 (ofV (nullB v)).n, .int .i64 (ofV (nullB v)).hi, .string (ofV (nullB v)).t]) ∧ Fr noB W w' from fun W => isnull_any v W)
  have HO0 := Lib.hid (show ∀ W : World, Calls Try.prog 25 #[.bool false] W fun e w' => e = .returned (.agg #[.int .u8 2, .int .i64 0, .int .i64 0, .string ⟨#[]⟩]) ∧ Fr noB W w' from fun W => of_any false W)
  have HO1 := Lib.hid (show ∀ W : World, Calls Try.prog 25 #[.bool true] W fun e w' => e = .returned (.agg #[.int .u8 2, .int .i64 1, .int .i64 0, .string ⟨#[]⟩]) ∧ Fr noB W w' from fun W => of_any true W)
  have HY := Lib.hid (show ∀ W : World, Calls Try.prog 18 #[.agg #[.int .u8 v.k, .int .i64 v.n, .int .i64 v.hi, .string v.t]] W fun e w' => e = .returned (.bool (yesB v)) ∧ Fr noB W w' from fun W => yes_any v W)
  have HAnd := Lib.hid (show ∀ W : World, Calls Try.prog 29 #[.agg #[.int .u8 v.k, .int .i64 v.n, .int .i64 v.hi, .string v.t], .agg #[.int .u8 0, .int .i64 0, .int .i64 0, .string ⟨#[]⟩]] W fun e w' => e = .returned (.tuple #[.agg #[.int .u8 (joinV v zV false).1.k, .int .i64 (joinV v zV false).1.n, .int .i64 (joinV v zV false).1.hi, .string (joinV v zV false).1.t], .int .i64 (joinV v zV false).2]) ∧ Fr noB W w' from fun W => and_any v zV W)
  have HOr := Lib.hid (show ∀ W : World, Calls Try.prog 31 #[.agg #[.int .u8 0, .int .i64 0, .int .i64 0, .string ⟨#[]⟩], .agg #[.int .u8 v.k, .int .i64 v.n, .int .i64 v.hi, .string v.t]] W fun e w' => e = .returned (.tuple #[.agg #[.int .u8 (joinV zV v true).1.k, .int .i64 (joinV zV v true).1.n, .int .i64 (joinV zV v true).1.hi, .string (joinV zV v true).1.t], .int .i64 (joinV zV v true).2]) ∧ Fr noB W w' from fun W => or_any zV v W)
  have N1 := Lib.hid (show ∀ W : World, (binOp .neq 23 (.agg #[.int .u8 0, .int .i64 0, .int .i64 0, .string ⟨#[]⟩]) (.agg #[.int .u8 0, .int .i64 0, .int .i64 0, .string ⟨#[]⟩])).run Try.prog W = .ok (.bool false) W from neqv_lit zV zV false (by exact (eqV_iff _ _).2 rfl))
  have N2 := Lib.hid (show ∀ W : World, (binOp .neq 23 (.agg #[.int .u8 2, .int .i64 1, .int .i64 0, .string ⟨#[]⟩]) (.agg #[.int .u8 2, .int .i64 1, .int .i64 0, .string ⟨#[]⟩])).run Try.prog W = .ok (.bool false) W from neqv_lit yesV yesV false (by exact (eqV_iff _ _).2 rfl))
  have N3 := Lib.hid (show ∀ W : World, (binOp .neq 23 (.agg #[.int .u8 2, .int .i64 0, .int .i64 0, .string ⟨#[]⟩]) (.agg #[.int .u8 2, .int .i64 0, .int .i64 0, .string ⟨#[]⟩])).run Try.prog W = .ok (.bool false) W from neqv_lit noV noV false (by exact (eqV_iff _ _).2 rfl))
  have E1 := Lib.hid (show ∀ W : World, (binOp .eql 23 (.agg #[.int .u8 0, .int .i64 0, .int .i64 0, .string ⟨#[]⟩]) (.agg #[.int .u8 0, .int .i64 0, .int .i64 0, .string ⟨#[]⟩])).run Try.prog W = .ok (.bool true) W from eqv_lit zV zV true (by exact (eqV_iff _ _).2 rfl))
  have E2 := Lib.hid (show ∀ W : World, (binOp .eql 23 (.agg #[.int .u8 2, .int .i64 1, .int .i64 0, .string ⟨#[]⟩]) (.agg #[.int .u8 2, .int .i64 1, .int .i64 0, .string ⟨#[]⟩])).run Try.prog W = .ok (.bool true) W from eqv_lit yesV yesV true (by exact (eqV_iff _ _).2 rfl))
  have E3 := Lib.hid (show ∀ W : World, (binOp .eql 23 (.agg #[.int .u8 2, .int .i64 0, .int .i64 0, .string ⟨#[]⟩]) (.agg #[.int .u8 2, .int .i64 0, .int .i64 0, .string ⟨#[]⟩])).run Try.prog W = .ok (.bool true) W from eqv_lit noV noV true (by exact (eqV_iff _ _).2 rfl))
  have E4 := Lib.hid (show ∀ W : World, (binOp .eql 23 (.agg #[.int .u8 0, .int .i64 0, .int .i64 0, .string ⟨#[]⟩]) (.agg #[.int .u8 2, .int .i64 0, .int .i64 0, .string ⟨#[]⟩])).run Try.prog W = .ok (.bool false) W from eqv_lit zV noV false (by rfl))
  have E5 := Lib.hid (show ∀ W : World, (binOp .eql 23 (.agg #[.int .u8 0, .int .i64 0, .int .i64 0, .string ⟨#[]⟩]) (.agg #[.int .u8 2, .int .i64 1, .int .i64 0, .string ⟨#[]⟩])).run Try.prog W = .ok (.bool false) W from eqv_lit zV yesV false (by rfl))
  generalize hA : joinV v zV false = A at HAnd
  generalize hB : joinV zV v true = B at HOr
  generalize hI : ofV (nullB v) = IV at HIV
  have HOk := Lib.hid (show ∀ W : World, Calls Try.prog 25 #[.bool (v.k == 0)] W fun e w' => e = .returned (.agg #[.int .u8 IV.k, .int .i64 IV.n, .int .i64 IV.hi, .string IV.t]) ∧ Fr noB W w' from fun W => hI ▸ of_any (nullB v) W)
  have N4 := Lib.hid (show ∀ W : World, (binOp .neq 23 (.agg #[.int .u8 IV.k, .int .i64 IV.n, .int .i64 IV.hi, .string IV.t]) (.agg #[.int .u8 IV.k, .int .i64 IV.n, .int .i64 IV.hi, .string IV.t])).run Try.prog W = .ok (.bool false) W from neqv_lit IV IV false (by exact (eqV_iff _ _).2 rfl))
  have HJA := Lib.hid hA; have HJB := Lib.hid hB
  clear hee hv hA hB hI
  unfold vV
  go_enter Try.func8, Try.ntmps8
  go_upto_region 1 with fail
  have hfw_0 := Fr.refl noB w
  have hl := hfw_0.size
  refine wp_world (fun W => Fr noB w W ∧ Bx W w.heap.size v) ?_ ?_
  · refine ⟨?_, ?_⟩ <;> ((first | unfold Bx | unfold Bl | skip); repeat (first | with_reducible exact hfw_0 | with_reducible refine Fr.alloc ?_ _ | (with_reducible refine Fr.setCell ?_ ?_ _; rotate_left; (intro h; dsimp only at h; omega)) | with_reducible refine Fr.drew ?_ | (with_reducible refine obj_alloc_at ?_; simp; done) | (with_reducible apply obj_put4; omega) | (with_reducible apply obj_put1; omega) | (with_reducible refine obj_setCell_other ?_ _ _ ?_; rotate_left; (dsimp only; omega)) | with_reducible refine obj_alloc ?_ _ | with_reducible refine obj_drew ?_ | exact hfw_0))
  clear hl hfw_0
  rintro w1 ⟨hfw_1, hbv_1⟩
  obtain ⟨cv_0, cv_1, cv_2, cv_3, zv⟩ := hbv_1.cs
  by_cases p1 : (2000 : Int) < (v.t.size : Int)
  · go_wp2_with fail
    refine (HAw.out _).mono ?_
    rintro e w2 ⟨rfl, hf2⟩
    have lv := hbv_1.lt
    have hl := hfw_1.size
    have hB : Bx w2 w.heap.size v := by
      ((first | unfold Bx | unfold Bl | skip); refine hf2.obj (noB_not _) ?_; repeat (first | with_reducible exact hbv_1.raw | (with_reducible refine obj_alloc_at ?_; simp; done) | (with_reducible apply obj_put4; omega) | (with_reducible apply obj_put1; omega) | (with_reducible refine obj_setCell_other ?_ _ _ ?_; rotate_left; (dsimp only; omega)) | with_reducible refine obj_alloc ?_ _ | with_reducible refine obj_drew ?_))
    have hbv_2 := hB
    have hfw_2 : Fr noB w w2 := by
      refine Fr.transN ?_ hf2
      repeat (first | with_reducible exact hfw_1 | with_reducible refine Fr.alloc ?_ _ | (with_reducible refine Fr.setCell ?_ ?_ _; rotate_left; (intro h; dsimp only at h; omega)) | with_reducible refine Fr.drew ?_ | exact hfw_1)
    clear hbv_1 lv hl cv_0 cv_1 cv_2 cv_3 zv hB hf2 hfw_1
    obtain ⟨cv_0, cv_1, cv_2, cv_3, zv⟩ := hbv_2.cs
    go_wp2_with fail
    have lv := hbv_2.lt
    have hl := hfw_2.size
    go_ret
    refine ⟨?_, ?_⟩
    · rfl
    · skip
      repeat (first | with_reducible exact hfw_2 | with_reducible refine Fr.alloc ?_ _ | (with_reducible refine Fr.setCell ?_ ?_ _; rotate_left; (intro h; dsimp only at h; omega)) | with_reducible refine Fr.drew ?_ | exact hfw_2)
  · go_wp2_with fail
    refine (HAw.out _).mono ?_
    rintro e w2 ⟨rfl, hf2⟩
    have lv := hbv_1.lt
    have hl := hfw_1.size
    have hB : Bx w2 w.heap.size v := by
      ((first | unfold Bx | unfold Bl | skip); refine hf2.obj (noB_not _) ?_; repeat (first | with_reducible exact hbv_1.raw | (with_reducible refine obj_alloc_at ?_; simp; done) | (with_reducible apply obj_put4; omega) | (with_reducible apply obj_put1; omega) | (with_reducible refine obj_setCell_other ?_ _ _ ?_; rotate_left; (dsimp only; omega)) | with_reducible refine obj_alloc ?_ _ | with_reducible refine obj_drew ?_))
    have hbv_2 := hB
    have hfw_2 : Fr noB w w2 := by
      refine Fr.transN ?_ hf2
      repeat (first | with_reducible exact hfw_1 | with_reducible refine Fr.alloc ?_ _ | (with_reducible refine Fr.setCell ?_ ?_ _; rotate_left; (intro h; dsimp only at h; omega)) | with_reducible refine Fr.drew ?_ | exact hfw_1)
    clear hbv_1 lv hl cv_0 cv_1 cv_2 cv_3 zv hB hf2 hfw_1
    obtain ⟨cv_0, cv_1, cv_2, cv_3, zv⟩ := hbv_2.cs
    clear p1
    go_upto_region 4 with fail
    have o0 := Lib.hid (hbv_2.lt)
    have lv := hbv_2.lt
    have hl := hfw_2.size
    have po0 := o0.out
    refine wp_world (fun W => Fr noB w W ∧ Bx W w.heap.size v ∧ Bl W w2.heap.size 0 0 0) ?_ ?_
    · refine ⟨?_, ?_, ?_⟩ <;> ((first | unfold Bx | unfold Bl | skip); repeat (first | with_reducible exact hfw_2 | with_reducible refine Fr.alloc ?_ _ | (with_reducible refine Fr.setCell ?_ ?_ _; rotate_left; (intro h; dsimp only at h; omega)) | with_reducible refine Fr.drew ?_ | with_reducible exact hbv_2.raw | (with_reducible refine obj_alloc_at ?_; simp; done) | (with_reducible apply obj_put4; omega) | (with_reducible apply obj_put1; omega) | (with_reducible refine obj_setCell_other ?_ _ _ ?_; rotate_left; (dsimp only; omega)) | with_reducible refine obj_alloc ?_ _ | with_reducible refine obj_drew ?_ | exact hfw_2))
    clear hbv_2 lv hl po0 cv_0 cv_1 cv_2 cv_3 zv hfw_2
    rintro w3 ⟨hfw_3, hbv_3, hbu_3⟩
    obtain ⟨cv_0, cv_1, cv_2, cv_3, zv⟩ := hbv_3.cs
    obtain ⟨cu_0, cu_1, cu_2, cu_3, zu⟩ := hbu_3.cs
    go_wp2_with fail
    have o1 := Lib.hid (hbu_3.lt)
    have lv := hbv_3.lt
    have lu := hbu_3.lt
    have hl := hfw_3.size
    have po0 := o0.out
    have po1 := o1.out
    refine wp_world (fun W => Fr noB w W ∧ Bx W w.heap.size v ∧ Bl W w2.heap.size 0 0 0 ∧ W.heap[w3.heap.size]? = some (.cells #[.func (.func 21) #[] #[], .func (.func 22) #[] #[], .func (.func 23) #[] #[], .func (.func 17) #[] #[], .func (.func 16) #[] #[]] 27 (0, 0))) ?_ ?_
    · refine ⟨?_, ?_, ?_, ?_⟩ <;> ((first | unfold Bx | unfold Bl | skip); repeat (first | with_reducible exact hfw_3 | with_reducible refine Fr.alloc ?_ _ | (with_reducible refine Fr.setCell ?_ ?_ _; rotate_left; (intro h; dsimp only at h; omega)) | with_reducible refine Fr.drew ?_ | with_reducible exact hbv_3.raw | with_reducible exact hbu_3.raw | (with_reducible refine obj_alloc_at ?_; simp; done) | (with_reducible apply obj_put4; omega) | (with_reducible apply obj_put1; omega) | (with_reducible refine obj_setCell_other ?_ _ _ ?_; rotate_left; (dsimp only; omega)) | with_reducible refine obj_alloc ?_ _ | with_reducible refine obj_drew ?_ | exact hfw_3))
    clear hbv_3 hbu_3 lv lu hl po0 po1 cv_0 cv_1 cv_2 cv_3 zv cu_0 cu_1 cu_2 cu_3 zu hfw_3
    rintro w4 ⟨hfw_4, hbv_4, hbu_4, hbf_4⟩
    obtain ⟨cv_0, cv_1, cv_2, cv_3, zv⟩ := hbv_4.cs
    obtain ⟨cu_0, cu_1, cu_2, cu_3, zu⟩ := hbu_4.cs
    have cf_0 : w4.cell? ⟨w3.heap.size, 0, none⟩ = some (.func (.func 21) #[] #[]) := by rw [cell_of_obj hbf_4]; rfl
    have cf_1 : w4.cell? ⟨w3.heap.size, 1, none⟩ = some (.func (.func 22) #[] #[]) := by rw [cell_of_obj hbf_4]; rfl
    have cf_2 : w4.cell? ⟨w3.heap.size, 2, none⟩ = some (.func (.func 23) #[] #[]) := by rw [cell_of_obj hbf_4]; rfl
    have cf_3 : w4.cell? ⟨w3.heap.size, 3, none⟩ = some (.func (.func 17) #[] #[]) := by rw [cell_of_obj hbf_4]; rfl
    have cf_4 : w4.cell? ⟨w3.heap.size, 4, none⟩ = some (.func (.func 16) #[] #[]) := by rw [cell_of_obj hbf_4]; rfl
    have zf := frozen_of_obj hbf_4
    go_loopg [31] 5 (fun gh iv wr => ∃ i : Nat, i ≤ 5 ∧ gh = 5 - i ∧ iv = .int .i64 i ∧ Fr noB w4 wr)
    case atStart => exact ⟨0, by omega, by omega, rfl, Fr.refl _ _⟩
    case round =>
      obtain ⟨i, hi, rfl, rfl, hf⟩ := hrel
      have hi' : i = 0 ∨ i = 1 ∨ i = 2 ∨ i = 3 ∨ i = 4 ∨ i = 5 := by omega
      rcases hi' with rfl | rfl | rfl | rfl | rfl | rfl
      · clear hi
        have hbv_5 := hbv_4.mv hf
        have hbu_5 := hbu_4.mv hf
        have hbf_5 := raw_mv hbf_4 hf
        clear hbv_4 hbu_4 hbf_4 cv_0 cv_1 cv_2 cv_3 zv cu_0 cu_1 cu_2 cu_3 zu cf_0 cf_1 cf_2 cf_3 cf_4 zf
        obtain ⟨cv_0, cv_1, cv_2, cv_3, zv⟩ := hbv_5.cs
        obtain ⟨cu_0, cu_1, cu_2, cu_3, zu⟩ := hbu_5.cs
        have cf_0 : wr.cell? ⟨w3.heap.size, 0, none⟩ = some (.func (.func 21) #[] #[]) := by rw [cell_of_obj hbf_5]; rfl
        have cf_1 : wr.cell? ⟨w3.heap.size, 1, none⟩ = some (.func (.func 22) #[] #[]) := by rw [cell_of_obj hbf_5]; rfl
        have cf_2 : wr.cell? ⟨w3.heap.size, 2, none⟩ = some (.func (.func 23) #[] #[]) := by rw [cell_of_obj hbf_5]; rfl
        have cf_3 : wr.cell? ⟨w3.heap.size, 3, none⟩ = some (.func (.func 17) #[] #[]) := by rw [cell_of_obj hbf_5]; rfl
        have cf_4 : wr.cell? ⟨w3.heap.size, 4, none⟩ = some (.func (.func 16) #[] #[]) := by rw [cell_of_obj hbf_5]; rfl
        have zf := frozen_of_obj hbf_5
        go_wp2_with fail
        refine (HAddR.out _).mono ?_
        rintro e w6 ⟨rfl, hf6⟩
        have lv := hbv_5.lt
        have lu := hbu_5.lt
        have lf := obj_lt hbf_5
        have hl := hf.size
        have hB : Bx w6 w.heap.size v ∧ Bl w6 w2.heap.size 0 0 0 ∧ w6.heap[w3.heap.size]? = some (.cells #[.func (.func 21) #[] #[], .func (.func 22) #[] #[], .func (.func 23) #[] #[], .func (.func 17) #[] #[], .func (.func 16) #[] #[]] 27 (0, 0)) := by
          refine ⟨?_, ?_, ?_⟩ <;> ((first | unfold Bx | unfold Bl | skip); refine hf6.obj (noB_not _) ?_; repeat (first | with_reducible exact hbv_5.raw | with_reducible exact hbu_5.raw | with_reducible exact hbf_5 | (with_reducible refine obj_alloc_at ?_; simp; done) | (with_reducible apply obj_put4; omega) | (with_reducible apply obj_put1; omega) | (with_reducible refine obj_setCell_other ?_ _ _ ?_; rotate_left; (dsimp only; omega)) | with_reducible refine obj_alloc ?_ _ | with_reducible refine obj_drew ?_))
        obtain ⟨hbv_6, hbu_6, hbf_6⟩ := hB
        have hfw_6 : Fr noB w4 w6 := by
          refine Fr.transN ?_ hf6
          repeat (first | with_reducible exact hf | with_reducible refine Fr.alloc ?_ _ | (with_reducible refine Fr.setCell ?_ ?_ _; rotate_left; (intro h; dsimp only at h; omega)) | with_reducible refine Fr.drew ?_ | exact hf)
        clear hbv_5 hbu_5 hbf_5 lv lu lf hl cv_0 cv_1 cv_2 cv_3 zv cu_0 cu_1 cu_2 cu_3 zu cf_0 cf_1 cf_2 cf_3 cf_4 zf hf6 hf
        obtain ⟨cv_0, cv_1, cv_2, cv_3, zv⟩ := hbv_6.cs
        obtain ⟨cu_0, cu_1, cu_2, cu_3, zu⟩ := hbu_6.cs
        have cf_0 : w6.cell? ⟨w3.heap.size, 0, none⟩ = some (.func (.func 21) #[] #[]) := by rw [cell_of_obj hbf_6]; rfl
        have cf_1 : w6.cell? ⟨w3.heap.size, 1, none⟩ = some (.func (.func 22) #[] #[]) := by rw [cell_of_obj hbf_6]; rfl
        have cf_2 : w6.cell? ⟨w3.heap.size, 2, none⟩ = some (.func (.func 23) #[] #[]) := by rw [cell_of_obj hbf_6]; rfl
        have cf_3 : w6.cell? ⟨w3.heap.size, 3, none⟩ = some (.func (.func 17) #[] #[]) := by rw [cell_of_obj hbf_6]; rfl
        have cf_4 : w6.cell? ⟨w3.heap.size, 4, none⟩ = some (.func (.func 16) #[] #[]) := by rw [cell_of_obj hbf_6]; rfl
        have zf := frozen_of_obj hbf_6
        go_upto_region 8 with fail
        have o0 := Lib.hid (obj_lt hbf_6)
        have lv := hbv_6.lt
        have lu := hbu_6.lt
        have lf := obj_lt hbf_6
        have hl := hfw_6.size
        have po0 := o0.out
        refine wp_world (fun W => Fr noB w4 W ∧ Bx W w.heap.size v ∧ Bl W w2.heap.size 0 0 0 ∧ W.heap[w3.heap.size]? = some (.cells #[.func (.func 21) #[] #[], .func (.func 22) #[] #[], .func (.func 23) #[] #[], .func (.func 17) #[] #[], .func (.func 16) #[] #[]] 27 (0, 0)) ∧ Bl W w6.heap.size 0 0 0) ?_ ?_
        · refine ⟨?_, ?_, ?_, ?_, ?_⟩ <;> ((first | unfold Bx | unfold Bl | skip); repeat (first | with_reducible exact hfw_6 | with_reducible refine Fr.alloc ?_ _ | (with_reducible refine Fr.setCell ?_ ?_ _; rotate_left; (intro h; dsimp only at h; omega)) | with_reducible refine Fr.drew ?_ | with_reducible exact hbv_6.raw | with_reducible exact hbu_6.raw | with_reducible exact hbf_6 | (with_reducible refine obj_alloc_at ?_; simp; done) | (with_reducible apply obj_put4; omega) | (with_reducible apply obj_put1; omega) | (with_reducible refine obj_setCell_other ?_ _ _ ?_; rotate_left; (dsimp only; omega)) | with_reducible refine obj_alloc ?_ _ | with_reducible refine obj_drew ?_ | exact hfw_6))
        clear hbv_6 hbu_6 hbf_6 lv lu lf hl po0 cv_0 cv_1 cv_2 cv_3 zv cu_0 cu_1 cu_2 cu_3 zu cf_0 cf_1 cf_2 cf_3 cf_4 zf hfw_6
        rintro w7 ⟨hfw_7, hbv_7, hbu_7, hbf_7, hbp_7⟩
        obtain ⟨cv_0, cv_1, cv_2, cv_3, zv⟩ := hbv_7.cs
        obtain ⟨cu_0, cu_1, cu_2, cu_3, zu⟩ := hbu_7.cs
        have cf_0 : w7.cell? ⟨w3.heap.size, 0, none⟩ = some (.func (.func 21) #[] #[]) := by rw [cell_of_obj hbf_7]; rfl
        have cf_1 : w7.cell? ⟨w3.heap.size, 1, none⟩ = some (.func (.func 22) #[] #[]) := by rw [cell_of_obj hbf_7]; rfl
        have cf_2 : w7.cell? ⟨w3.heap.size, 2, none⟩ = some (.func (.func 23) #[] #[]) := by rw [cell_of_obj hbf_7]; rfl
        have cf_3 : w7.cell? ⟨w3.heap.size, 3, none⟩ = some (.func (.func 17) #[] #[]) := by rw [cell_of_obj hbf_7]; rfl
        have cf_4 : w7.cell? ⟨w3.heap.size, 4, none⟩ = some (.func (.func 16) #[] #[]) := by rw [cell_of_obj hbf_7]; rfl
        have zf := frozen_of_obj hbf_7
        obtain ⟨cp_0, cp_1, cp_2, cp_3, zp⟩ := hbp_7.cs
        go_wp2_with fail
        refine (HAddL.out _).mono ?_
        rintro e w8 ⟨rfl, hf8⟩
        have lv := hbv_7.lt
        have lu := hbu_7.lt
        have lf := obj_lt hbf_7
        have lp := hbp_7.lt
        have hl := hfw_7.size
        have po0 := o0.out
        have hB : Bx w8 w.heap.size v ∧ Bl w8 w2.heap.size 0 0 0 ∧ w8.heap[w3.heap.size]? = some (.cells #[.func (.func 21) #[] #[], .func (.func 22) #[] #[], .func (.func 23) #[] #[], .func (.func 17) #[] #[], .func (.func 16) #[] #[]] 27 (0, 0)) ∧ Bl w8 w6.heap.size 0 0 0 := by
          refine ⟨?_, ?_, ?_, ?_⟩ <;> ((first | unfold Bx | unfold Bl | skip); refine hf8.obj (noB_not _) ?_; repeat (first | with_reducible exact hbv_7.raw | with_reducible exact hbu_7.raw | with_reducible exact hbf_7 | with_reducible exact hbp_7.raw | (with_reducible refine obj_alloc_at ?_; simp; done) | (with_reducible apply obj_put4; omega) | (with_reducible apply obj_put1; omega) | (with_reducible refine obj_setCell_other ?_ _ _ ?_; rotate_left; (dsimp only; omega)) | with_reducible refine obj_alloc ?_ _ | with_reducible refine obj_drew ?_))
        obtain ⟨hbv_8, hbu_8, hbf_8, hbp_8⟩ := hB
        have hfw_8 : Fr noB w4 w8 := by
          refine Fr.transN ?_ hf8
          repeat (first | with_reducible exact hfw_7 | with_reducible refine Fr.alloc ?_ _ | (with_reducible refine Fr.setCell ?_ ?_ _; rotate_left; (intro h; dsimp only at h; omega)) | with_reducible refine Fr.drew ?_ | exact hfw_7)
        clear hbv_7 hbu_7 hbf_7 hbp_7 lv lu lf lp hl po0 cv_0 cv_1 cv_2 cv_3 zv cu_0 cu_1 cu_2 cu_3 zu cf_0 cf_1 cf_2 cf_3 cf_4 zf cp_0 cp_1 cp_2 cp_3 zp hf8 hfw_7
        obtain ⟨cv_0, cv_1, cv_2, cv_3, zv⟩ := hbv_8.cs
        obtain ⟨cu_0, cu_1, cu_2, cu_3, zu⟩ := hbu_8.cs
        have cf_0 : w8.cell? ⟨w3.heap.size, 0, none⟩ = some (.func (.func 21) #[] #[]) := by rw [cell_of_obj hbf_8]; rfl
        have cf_1 : w8.cell? ⟨w3.heap.size, 1, none⟩ = some (.func (.func 22) #[] #[]) := by rw [cell_of_obj hbf_8]; rfl
        have cf_2 : w8.cell? ⟨w3.heap.size, 2, none⟩ = some (.func (.func 23) #[] #[]) := by rw [cell_of_obj hbf_8]; rfl
        have cf_3 : w8.cell? ⟨w3.heap.size, 3, none⟩ = some (.func (.func 17) #[] #[]) := by rw [cell_of_obj hbf_8]; rfl
        have cf_4 : w8.cell? ⟨w3.heap.size, 4, none⟩ = some (.func (.func 16) #[] #[]) := by rw [cell_of_obj hbf_8]; rfl
        have zf := frozen_of_obj hbf_8
        obtain ⟨cp_0, cp_1, cp_2, cp_3, zp⟩ := hbp_8.cs
        go_upto_region 9 with fail
        have o1 := Lib.hid (hbp_8.lt)
        have lv := hbv_8.lt
        have lu := hbu_8.lt
        have lf := obj_lt hbf_8
        have lp := hbp_8.lt
        have hl := hfw_8.size
        have po0 := o0.out
        have po1 := o1.out
        refine wp_world (fun W => Fr noB w4 W ∧ Bx W w.heap.size v ∧ Bl W w2.heap.size 0 0 0 ∧ W.heap[w3.heap.size]? = some (.cells #[.func (.func 21) #[] #[], .func (.func 22) #[] #[], .func (.func 23) #[] #[], .func (.func 17) #[] #[], .func (.func 16) #[] #[]] 27 (0, 0)) ∧ Bl W w6.heap.size 0 0 0 ∧ Bl W w8.heap.size 0 0 0) ?_ ?_
        · refine ⟨?_, ?_, ?_, ?_, ?_, ?_⟩ <;> ((first | unfold Bx | unfold Bl | skip); repeat (first | with_reducible exact hfw_8 | with_reducible refine Fr.alloc ?_ _ | (with_reducible refine Fr.setCell ?_ ?_ _; rotate_left; (intro h; dsimp only at h; omega)) | with_reducible refine Fr.drew ?_ | with_reducible exact hbv_8.raw | with_reducible exact hbu_8.raw | with_reducible exact hbf_8 | with_reducible exact hbp_8.raw | (with_reducible refine obj_alloc_at ?_; simp; done) | (with_reducible apply obj_put4; omega) | (with_reducible apply obj_put1; omega) | (with_reducible refine obj_setCell_other ?_ _ _ ?_; rotate_left; (dsimp only; omega)) | with_reducible refine obj_alloc ?_ _ | with_reducible refine obj_drew ?_ | exact hfw_8))
        clear hbv_8 hbu_8 hbf_8 hbp_8 lv lu lf lp hl po0 po1 cv_0 cv_1 cv_2 cv_3 zv cu_0 cu_1 cu_2 cu_3 zu cf_0 cf_1 cf_2 cf_3 cf_4 zf cp_0 cp_1 cp_2 cp_3 zp hfw_8
        rintro w9 ⟨hfw_9, hbv_9, hbu_9, hbf_9, hbp_9, hbq_9⟩
        obtain ⟨cv_0, cv_1, cv_2, cv_3, zv⟩ := hbv_9.cs
        obtain ⟨cu_0, cu_1, cu_2, cu_3, zu⟩ := hbu_9.cs
        have cf_0 : w9.cell? ⟨w3.heap.size, 0, none⟩ = some (.func (.func 21) #[] #[]) := by rw [cell_of_obj hbf_9]; rfl
        have cf_1 : w9.cell? ⟨w3.heap.size, 1, none⟩ = some (.func (.func 22) #[] #[]) := by rw [cell_of_obj hbf_9]; rfl
        have cf_2 : w9.cell? ⟨w3.heap.size, 2, none⟩ = some (.func (.func 23) #[] #[]) := by rw [cell_of_obj hbf_9]; rfl
        have cf_3 : w9.cell? ⟨w3.heap.size, 3, none⟩ = some (.func (.func 17) #[] #[]) := by rw [cell_of_obj hbf_9]; rfl
        have cf_4 : w9.cell? ⟨w3.heap.size, 4, none⟩ = some (.func (.func 16) #[] #[]) := by rw [cell_of_obj hbf_9]; rfl
        have zf := frozen_of_obj hbf_9
        obtain ⟨cp_0, cp_1, cp_2, cp_3, zp⟩ := hbp_9.cs
        obtain ⟨cq_0, cq_1, cq_2, cq_3, zq⟩ := hbq_9.cs
        have N := N1.out
        go_wp2_with fail
        go_roundg 4
        case measure => omega
        case rel => exact ⟨1, by omega, by omega, by go_num, hfw_9⟩
      · clear hi
        have hbv_5 := hbv_4.mv hf
        have hbu_5 := hbu_4.mv hf
        have hbf_5 := raw_mv hbf_4 hf
        clear hbv_4 hbu_4 hbf_4 cv_0 cv_1 cv_2 cv_3 zv cu_0 cu_1 cu_2 cu_3 zu cf_0 cf_1 cf_2 cf_3 cf_4 zf
        obtain ⟨cv_0, cv_1, cv_2, cv_3, zv⟩ := hbv_5.cs
        obtain ⟨cu_0, cu_1, cu_2, cu_3, zu⟩ := hbu_5.cs
        have cf_0 : wr.cell? ⟨w3.heap.size, 0, none⟩ = some (.func (.func 21) #[] #[]) := by rw [cell_of_obj hbf_5]; rfl
        have cf_1 : wr.cell? ⟨w3.heap.size, 1, none⟩ = some (.func (.func 22) #[] #[]) := by rw [cell_of_obj hbf_5]; rfl
        have cf_2 : wr.cell? ⟨w3.heap.size, 2, none⟩ = some (.func (.func 23) #[] #[]) := by rw [cell_of_obj hbf_5]; rfl
        have cf_3 : wr.cell? ⟨w3.heap.size, 3, none⟩ = some (.func (.func 17) #[] #[]) := by rw [cell_of_obj hbf_5]; rfl
        have cf_4 : wr.cell? ⟨w3.heap.size, 4, none⟩ = some (.func (.func 16) #[] #[]) := by rw [cell_of_obj hbf_5]; rfl
        have zf := frozen_of_obj hbf_5
        go_wp2_with fail
        refine (HSubR.out _).mono ?_
        rintro e w6 ⟨rfl, hf6⟩
        have lv := hbv_5.lt
        have lu := hbu_5.lt
        have lf := obj_lt hbf_5
        have hl := hf.size
        have hB : Bx w6 w.heap.size v ∧ Bl w6 w2.heap.size 0 0 0 ∧ w6.heap[w3.heap.size]? = some (.cells #[.func (.func 21) #[] #[], .func (.func 22) #[] #[], .func (.func 23) #[] #[], .func (.func 17) #[] #[], .func (.func 16) #[] #[]] 27 (0, 0)) := by
          refine ⟨?_, ?_, ?_⟩ <;> ((first | unfold Bx | unfold Bl | skip); refine hf6.obj (noB_not _) ?_; repeat (first | with_reducible exact hbv_5.raw | with_reducible exact hbu_5.raw | with_reducible exact hbf_5 | (with_reducible refine obj_alloc_at ?_; simp; done) | (with_reducible apply obj_put4; omega) | (with_reducible apply obj_put1; omega) | (with_reducible refine obj_setCell_other ?_ _ _ ?_; rotate_left; (dsimp only; omega)) | with_reducible refine obj_alloc ?_ _ | with_reducible refine obj_drew ?_))
        obtain ⟨hbv_6, hbu_6, hbf_6⟩ := hB
        have hfw_6 : Fr noB w4 w6 := by
          refine Fr.transN ?_ hf6
          repeat (first | with_reducible exact hf | with_reducible refine Fr.alloc ?_ _ | (with_reducible refine Fr.setCell ?_ ?_ _; rotate_left; (intro h; dsimp only at h; omega)) | with_reducible refine Fr.drew ?_ | exact hf)
        clear hbv_5 hbu_5 hbf_5 lv lu lf hl cv_0 cv_1 cv_2 cv_3 zv cu_0 cu_1 cu_2 cu_3 zu cf_0 cf_1 cf_2 cf_3 cf_4 zf hf6 hf
        obtain ⟨cv_0, cv_1, cv_2, cv_3, zv⟩ := hbv_6.cs
        obtain ⟨cu_0, cu_1, cu_2, cu_3, zu⟩ := hbu_6.cs
        have cf_0 : w6.cell? ⟨w3.heap.size, 0, none⟩ = some (.func (.func 21) #[] #[]) := by rw [cell_of_obj hbf_6]; rfl
        have cf_1 : w6.cell? ⟨w3.heap.size, 1, none⟩ = some (.func (.func 22) #[] #[]) := by rw [cell_of_obj hbf_6]; rfl
        have cf_2 : w6.cell? ⟨w3.heap.size, 2, none⟩ = some (.func (.func 23) #[] #[]) := by rw [cell_of_obj hbf_6]; rfl
        have cf_3 : w6.cell? ⟨w3.heap.size, 3, none⟩ = some (.func (.func 17) #[] #[]) := by rw [cell_of_obj hbf_6]; rfl
        have cf_4 : w6.cell? ⟨w3.heap.size, 4, none⟩ = some (.func (.func 16) #[] #[]) := by rw [cell_of_obj hbf_6]; rfl
        have zf := frozen_of_obj hbf_6
        go_upto_region 8 with fail
        have o0 := Lib.hid (obj_lt hbf_6)
        have lv := hbv_6.lt
        have lu := hbu_6.lt
        have lf := obj_lt hbf_6
        have hl := hfw_6.size
        have po0 := o0.out
        refine wp_world (fun W => Fr noB w4 W ∧ Bx W w.heap.size v ∧ Bl W w2.heap.size 0 0 0 ∧ W.heap[w3.heap.size]? = some (.cells #[.func (.func 21) #[] #[], .func (.func 22) #[] #[], .func (.func 23) #[] #[], .func (.func 17) #[] #[], .func (.func 16) #[] #[]] 27 (0, 0)) ∧ Bl W w6.heap.size 0 0 0) ?_ ?_
        · refine ⟨?_, ?_, ?_, ?_, ?_⟩ <;> ((first | unfold Bx | unfold Bl | skip); repeat (first | with_reducible exact hfw_6 | with_reducible refine Fr.alloc ?_ _ | (with_reducible refine Fr.setCell ?_ ?_ _; rotate_left; (intro h; dsimp only at h; omega)) | with_reducible refine Fr.drew ?_ | with_reducible exact hbv_6.raw | with_reducible exact hbu_6.raw | with_reducible exact hbf_6 | (with_reducible refine obj_alloc_at ?_; simp; done) | (with_reducible apply obj_put4; omega) | (with_reducible apply obj_put1; omega) | (with_reducible refine obj_setCell_other ?_ _ _ ?_; rotate_left; (dsimp only; omega)) | with_reducible refine obj_alloc ?_ _ | with_reducible refine obj_drew ?_ | exact hfw_6))
        clear hbv_6 hbu_6 hbf_6 lv lu lf hl po0 cv_0 cv_1 cv_2 cv_3 zv cu_0 cu_1 cu_2 cu_3 zu cf_0 cf_1 cf_2 cf_3 cf_4 zf hfw_6
        rintro w7 ⟨hfw_7, hbv_7, hbu_7, hbf_7, hbp_7⟩
        obtain ⟨cv_0, cv_1, cv_2, cv_3, zv⟩ := hbv_7.cs
        obtain ⟨cu_0, cu_1, cu_2, cu_3, zu⟩ := hbu_7.cs
        have cf_0 : w7.cell? ⟨w3.heap.size, 0, none⟩ = some (.func (.func 21) #[] #[]) := by rw [cell_of_obj hbf_7]; rfl
        have cf_1 : w7.cell? ⟨w3.heap.size, 1, none⟩ = some (.func (.func 22) #[] #[]) := by rw [cell_of_obj hbf_7]; rfl
        have cf_2 : w7.cell? ⟨w3.heap.size, 2, none⟩ = some (.func (.func 23) #[] #[]) := by rw [cell_of_obj hbf_7]; rfl
        have cf_3 : w7.cell? ⟨w3.heap.size, 3, none⟩ = some (.func (.func 17) #[] #[]) := by rw [cell_of_obj hbf_7]; rfl
        have cf_4 : w7.cell? ⟨w3.heap.size, 4, none⟩ = some (.func (.func 16) #[] #[]) := by rw [cell_of_obj hbf_7]; rfl
        have zf := frozen_of_obj hbf_7
        obtain ⟨cp_0, cp_1, cp_2, cp_3, zp⟩ := hbp_7.cs
        go_wp2_with fail
        refine (HSubL.out _).mono ?_
        rintro e w8 ⟨rfl, hf8⟩
        have lv := hbv_7.lt
        have lu := hbu_7.lt
        have lf := obj_lt hbf_7
        have lp := hbp_7.lt
        have hl := hfw_7.size
        have po0 := o0.out
        have hB : Bx w8 w.heap.size v ∧ Bl w8 w2.heap.size 0 0 0 ∧ w8.heap[w3.heap.size]? = some (.cells #[.func (.func 21) #[] #[], .func (.func 22) #[] #[], .func (.func 23) #[] #[], .func (.func 17) #[] #[], .func (.func 16) #[] #[]] 27 (0, 0)) ∧ Bl w8 w6.heap.size 0 0 0 := by
          refine ⟨?_, ?_, ?_, ?_⟩ <;> ((first | unfold Bx | unfold Bl | skip); refine hf8.obj (noB_not _) ?_; repeat (first | with_reducible exact hbv_7.raw | with_reducible exact hbu_7.raw | with_reducible exact hbf_7 | with_reducible exact hbp_7.raw | (with_reducible refine obj_alloc_at ?_; simp; done) | (with_reducible apply obj_put4; omega) | (with_reducible apply obj_put1; omega) | (with_reducible refine obj_setCell_other ?_ _ _ ?_; rotate_left; (dsimp only; omega)) | with_reducible refine obj_alloc ?_ _ | with_reducible refine obj_drew ?_))
        obtain ⟨hbv_8, hbu_8, hbf_8, hbp_8⟩ := hB
        have hfw_8 : Fr noB w4 w8 := by
          refine Fr.transN ?_ hf8
          repeat (first | with_reducible exact hfw_7 | with_reducible refine Fr.alloc ?_ _ | (with_reducible refine Fr.setCell ?_ ?_ _; rotate_left; (intro h; dsimp only at h; omega)) | with_reducible refine Fr.drew ?_ | exact hfw_7)
        clear hbv_7 hbu_7 hbf_7 hbp_7 lv lu lf lp hl po0 cv_0 cv_1 cv_2 cv_3 zv cu_0 cu_1 cu_2 cu_3 zu cf_0 cf_1 cf_2 cf_3 cf_4 zf cp_0 cp_1 cp_2 cp_3 zp hf8 hfw_7
        obtain ⟨cv_0, cv_1, cv_2, cv_3, zv⟩ := hbv_8.cs
        obtain ⟨cu_0, cu_1, cu_2, cu_3, zu⟩ := hbu_8.cs
        have cf_0 : w8.cell? ⟨w3.heap.size, 0, none⟩ = some (.func (.func 21) #[] #[]) := by rw [cell_of_obj hbf_8]; rfl
        have cf_1 : w8.cell? ⟨w3.heap.size, 1, none⟩ = some (.func (.func 22) #[] #[]) := by rw [cell_of_obj hbf_8]; rfl
        have cf_2 : w8.cell? ⟨w3.heap.size, 2, none⟩ = some (.func (.func 23) #[] #[]) := by rw [cell_of_obj hbf_8]; rfl
        have cf_3 : w8.cell? ⟨w3.heap.size, 3, none⟩ = some (.func (.func 17) #[] #[]) := by rw [cell_of_obj hbf_8]; rfl
        have cf_4 : w8.cell? ⟨w3.heap.size, 4, none⟩ = some (.func (.func 16) #[] #[]) := by rw [cell_of_obj hbf_8]; rfl
        have zf := frozen_of_obj hbf_8
        obtain ⟨cp_0, cp_1, cp_2, cp_3, zp⟩ := hbp_8.cs
        go_upto_region 9 with fail
        have o1 := Lib.hid (hbp_8.lt)
        have lv := hbv_8.lt
        have lu := hbu_8.lt
        have lf := obj_lt hbf_8
        have lp := hbp_8.lt
        have hl := hfw_8.size
        have po0 := o0.out
        have po1 := o1.out
        refine wp_world (fun W => Fr noB w4 W ∧ Bx W w.heap.size v ∧ Bl W w2.heap.size 0 0 0 ∧ W.heap[w3.heap.size]? = some (.cells #[.func (.func 21) #[] #[], .func (.func 22) #[] #[], .func (.func 23) #[] #[], .func (.func 17) #[] #[], .func (.func 16) #[] #[]] 27 (0, 0)) ∧ Bl W w6.heap.size 0 0 0 ∧ Bl W w8.heap.size 0 0 0) ?_ ?_
        · refine ⟨?_, ?_, ?_, ?_, ?_, ?_⟩ <;> ((first | unfold Bx | unfold Bl | skip); repeat (first | with_reducible exact hfw_8 | with_reducible refine Fr.alloc ?_ _ | (with_reducible refine Fr.setCell ?_ ?_ _; rotate_left; (intro h; dsimp only at h; omega)) | with_reducible refine Fr.drew ?_ | with_reducible exact hbv_8.raw | with_reducible exact hbu_8.raw | with_reducible exact hbf_8 | with_reducible exact hbp_8.raw | (with_reducible refine obj_alloc_at ?_; simp; done) | (with_reducible apply obj_put4; omega) | (with_reducible apply obj_put1; omega) | (with_reducible refine obj_setCell_other ?_ _ _ ?_; rotate_left; (dsimp only; omega)) | with_reducible refine obj_alloc ?_ _ | with_reducible refine obj_drew ?_ | exact hfw_8))
        clear hbv_8 hbu_8 hbf_8 hbp_8 lv lu lf lp hl po0 po1 cv_0 cv_1 cv_2 cv_3 zv cu_0 cu_1 cu_2 cu_3 zu cf_0 cf_1 cf_2 cf_3 cf_4 zf cp_0 cp_1 cp_2 cp_3 zp hfw_8
        rintro w9 ⟨hfw_9, hbv_9, hbu_9, hbf_9, hbp_9, hbq_9⟩
        obtain ⟨cv_0, cv_1, cv_2, cv_3, zv⟩ := hbv_9.cs
        obtain ⟨cu_0, cu_1, cu_2, cu_3, zu⟩ := hbu_9.cs
        have cf_0 : w9.cell? ⟨w3.heap.size, 0, none⟩ = some (.func (.func 21) #[] #[]) := by rw [cell_of_obj hbf_9]; rfl
        have cf_1 : w9.cell? ⟨w3.heap.size, 1, none⟩ = some (.func (.func 22) #[] #[]) := by rw [cell_of_obj hbf_9]; rfl
        have cf_2 : w9.cell? ⟨w3.heap.size, 2, none⟩ = some (.func (.func 23) #[] #[]) := by rw [cell_of_obj hbf_9]; rfl
        have cf_3 : w9.cell? ⟨w3.heap.size, 3, none⟩ = some (.func (.func 17) #[] #[]) := by rw [cell_of_obj hbf_9]; rfl
        have cf_4 : w9.cell? ⟨w3.heap.size, 4, none⟩ = some (.func (.func 16) #[] #[]) := by rw [cell_of_obj hbf_9]; rfl
        have zf := frozen_of_obj hbf_9
        obtain ⟨cp_0, cp_1, cp_2, cp_3, zp⟩ := hbp_9.cs
        obtain ⟨cq_0, cq_1, cq_2, cq_3, zq⟩ := hbq_9.cs
        have N := N1.out
        go_wp2_with fail
        go_roundg 3
        case measure => omega
        case rel => exact ⟨2, by omega, by omega, by go_num, hfw_9⟩
      · clear hi
        have hbv_5 := hbv_4.mv hf
        have hbu_5 := hbu_4.mv hf
        have hbf_5 := raw_mv hbf_4 hf
        clear hbv_4 hbu_4 hbf_4 cv_0 cv_1 cv_2 cv_3 zv cu_0 cu_1 cu_2 cu_3 zu cf_0 cf_1 cf_2 cf_3 cf_4 zf
        obtain ⟨cv_0, cv_1, cv_2, cv_3, zv⟩ := hbv_5.cs
        obtain ⟨cu_0, cu_1, cu_2, cu_3, zu⟩ := hbu_5.cs
        have cf_0 : wr.cell? ⟨w3.heap.size, 0, none⟩ = some (.func (.func 21) #[] #[]) := by rw [cell_of_obj hbf_5]; rfl
        have cf_1 : wr.cell? ⟨w3.heap.size, 1, none⟩ = some (.func (.func 22) #[] #[]) := by rw [cell_of_obj hbf_5]; rfl
        have cf_2 : wr.cell? ⟨w3.heap.size, 2, none⟩ = some (.func (.func 23) #[] #[]) := by rw [cell_of_obj hbf_5]; rfl
        have cf_3 : wr.cell? ⟨w3.heap.size, 3, none⟩ = some (.func (.func 17) #[] #[]) := by rw [cell_of_obj hbf_5]; rfl
        have cf_4 : wr.cell? ⟨w3.heap.size, 4, none⟩ = some (.func (.func 16) #[] #[]) := by rw [cell_of_obj hbf_5]; rfl
        have zf := frozen_of_obj hbf_5
        go_wp2_with fail
        refine (HMulR.out _).mono ?_
        rintro e w6 ⟨rfl, hf6⟩
        have lv := hbv_5.lt
        have lu := hbu_5.lt
        have lf := obj_lt hbf_5
        have hl := hf.size
        have hB : Bx w6 w.heap.size v ∧ Bl w6 w2.heap.size 0 0 0 ∧ w6.heap[w3.heap.size]? = some (.cells #[.func (.func 21) #[] #[], .func (.func 22) #[] #[], .func (.func 23) #[] #[], .func (.func 17) #[] #[], .func (.func 16) #[] #[]] 27 (0, 0)) := by
          refine ⟨?_, ?_, ?_⟩ <;> ((first | unfold Bx | unfold Bl | skip); refine hf6.obj (noB_not _) ?_; repeat (first | with_reducible exact hbv_5.raw | with_reducible exact hbu_5.raw | with_reducible exact hbf_5 | (with_reducible refine obj_alloc_at ?_; simp; done) | (with_reducible apply obj_put4; omega) | (with_reducible apply obj_put1; omega) | (with_reducible refine obj_setCell_other ?_ _ _ ?_; rotate_left; (dsimp only; omega)) | with_reducible refine obj_alloc ?_ _ | with_reducible refine obj_drew ?_))
        obtain ⟨hbv_6, hbu_6, hbf_6⟩ := hB
        have hfw_6 : Fr noB w4 w6 := by
          refine Fr.transN ?_ hf6
          repeat (first | with_reducible exact hf | with_reducible refine Fr.alloc ?_ _ | (with_reducible refine Fr.setCell ?_ ?_ _; rotate_left; (intro h; dsimp only at h; omega)) | with_reducible refine Fr.drew ?_ | exact hf)
        clear hbv_5 hbu_5 hbf_5 lv lu lf hl cv_0 cv_1 cv_2 cv_3 zv cu_0 cu_1 cu_2 cu_3 zu cf_0 cf_1 cf_2 cf_3 cf_4 zf hf6 hf
        obtain ⟨cv_0, cv_1, cv_2, cv_3, zv⟩ := hbv_6.cs
        obtain ⟨cu_0, cu_1, cu_2, cu_3, zu⟩ := hbu_6.cs
        have cf_0 : w6.cell? ⟨w3.heap.size, 0, none⟩ = some (.func (.func 21) #[] #[]) := by rw [cell_of_obj hbf_6]; rfl
        have cf_1 : w6.cell? ⟨w3.heap.size, 1, none⟩ = some (.func (.func 22) #[] #[]) := by rw [cell_of_obj hbf_6]; rfl
        have cf_2 : w6.cell? ⟨w3.heap.size, 2, none⟩ = some (.func (.func 23) #[] #[]) := by rw [cell_of_obj hbf_6]; rfl
        have cf_3 : w6.cell? ⟨w3.heap.size, 3, none⟩ = some (.func (.func 17) #[] #[]) := by rw [cell_of_obj hbf_6]; rfl
        have cf_4 : w6.cell? ⟨w3.heap.size, 4, none⟩ = some (.func (.func 16) #[] #[]) := by rw [cell_of_obj hbf_6]; rfl
        have zf := frozen_of_obj hbf_6
        go_upto_region 8 with fail
        have o0 := Lib.hid (obj_lt hbf_6)
        have lv := hbv_6.lt
        have lu := hbu_6.lt
        have lf := obj_lt hbf_6
        have hl := hfw_6.size
        have po0 := o0.out
        refine wp_world (fun W => Fr noB w4 W ∧ Bx W w.heap.size v ∧ Bl W w2.heap.size 0 0 0 ∧ W.heap[w3.heap.size]? = some (.cells #[.func (.func 21) #[] #[], .func (.func 22) #[] #[], .func (.func 23) #[] #[], .func (.func 17) #[] #[], .func (.func 16) #[] #[]] 27 (0, 0)) ∧ Bl W w6.heap.size 0 0 0) ?_ ?_
        · refine ⟨?_, ?_, ?_, ?_, ?_⟩ <;> ((first | unfold Bx | unfold Bl | skip); repeat (first | with_reducible exact hfw_6 | with_reducible refine Fr.alloc ?_ _ | (with_reducible refine Fr.setCell ?_ ?_ _; rotate_left; (intro h; dsimp only at h; omega)) | with_reducible refine Fr.drew ?_ | with_reducible exact hbv_6.raw | with_reducible exact hbu_6.raw | with_reducible exact hbf_6 | (with_reducible refine obj_alloc_at ?_; simp; done) | (with_reducible apply obj_put4; omega) | (with_reducible apply obj_put1; omega) | (with_reducible refine obj_setCell_other ?_ _ _ ?_; rotate_left; (dsimp only; omega)) | with_reducible refine obj_alloc ?_ _ | with_reducible refine obj_drew ?_ | exact hfw_6))
        clear hbv_6 hbu_6 hbf_6 lv lu lf hl po0 cv_0 cv_1 cv_2 cv_3 zv cu_0 cu_1 cu_2 cu_3 zu cf_0 cf_1 cf_2 cf_3 cf_4 zf hfw_6
        rintro w7 ⟨hfw_7, hbv_7, hbu_7, hbf_7, hbp_7⟩
        obtain ⟨cv_0, cv_1, cv_2, cv_3, zv⟩ := hbv_7.cs
        obtain ⟨cu_0, cu_1, cu_2, cu_3, zu⟩ := hbu_7.cs
        have cf_0 : w7.cell? ⟨w3.heap.size, 0, none⟩ = some (.func (.func 21) #[] #[]) := by rw [cell_of_obj hbf_7]; rfl
        have cf_1 : w7.cell? ⟨w3.heap.size, 1, none⟩ = some (.func (.func 22) #[] #[]) := by rw [cell_of_obj hbf_7]; rfl
        have cf_2 : w7.cell? ⟨w3.heap.size, 2, none⟩ = some (.func (.func 23) #[] #[]) := by rw [cell_of_obj hbf_7]; rfl
        have cf_3 : w7.cell? ⟨w3.heap.size, 3, none⟩ = some (.func (.func 17) #[] #[]) := by rw [cell_of_obj hbf_7]; rfl
        have cf_4 : w7.cell? ⟨w3.heap.size, 4, none⟩ = some (.func (.func 16) #[] #[]) := by rw [cell_of_obj hbf_7]; rfl
        have zf := frozen_of_obj hbf_7
        obtain ⟨cp_0, cp_1, cp_2, cp_3, zp⟩ := hbp_7.cs
        go_wp2_with fail
        refine (HMulL.out _).mono ?_
        rintro e w8 ⟨rfl, hf8⟩
        have lv := hbv_7.lt
        have lu := hbu_7.lt
        have lf := obj_lt hbf_7
        have lp := hbp_7.lt
        have hl := hfw_7.size
        have po0 := o0.out
        have hB : Bx w8 w.heap.size v ∧ Bl w8 w2.heap.size 0 0 0 ∧ w8.heap[w3.heap.size]? = some (.cells #[.func (.func 21) #[] #[], .func (.func 22) #[] #[], .func (.func 23) #[] #[], .func (.func 17) #[] #[], .func (.func 16) #[] #[]] 27 (0, 0)) ∧ Bl w8 w6.heap.size 0 0 0 := by
          refine ⟨?_, ?_, ?_, ?_⟩ <;> ((first | unfold Bx | unfold Bl | skip); refine hf8.obj (noB_not _) ?_; repeat (first | with_reducible exact hbv_7.raw | with_reducible exact hbu_7.raw | with_reducible exact hbf_7 | with_reducible exact hbp_7.raw | (with_reducible refine obj_alloc_at ?_; simp; done) | (with_reducible apply obj_put4; omega) | (with_reducible apply obj_put1; omega) | (with_reducible refine obj_setCell_other ?_ _ _ ?_; rotate_left; (dsimp only; omega)) | with_reducible refine obj_alloc ?_ _ | with_reducible refine obj_drew ?_))
        obtain ⟨hbv_8, hbu_8, hbf_8, hbp_8⟩ := hB
        have hfw_8 : Fr noB w4 w8 := by
          refine Fr.transN ?_ hf8
          repeat (first | with_reducible exact hfw_7 | with_reducible refine Fr.alloc ?_ _ | (with_reducible refine Fr.setCell ?_ ?_ _; rotate_left; (intro h; dsimp only at h; omega)) | with_reducible refine Fr.drew ?_ | exact hfw_7)
        clear hbv_7 hbu_7 hbf_7 hbp_7 lv lu lf lp hl po0 cv_0 cv_1 cv_2 cv_3 zv cu_0 cu_1 cu_2 cu_3 zu cf_0 cf_1 cf_2 cf_3 cf_4 zf cp_0 cp_1 cp_2 cp_3 zp hf8 hfw_7
        obtain ⟨cv_0, cv_1, cv_2, cv_3, zv⟩ := hbv_8.cs
        obtain ⟨cu_0, cu_1, cu_2, cu_3, zu⟩ := hbu_8.cs
        have cf_0 : w8.cell? ⟨w3.heap.size, 0, none⟩ = some (.func (.func 21) #[] #[]) := by rw [cell_of_obj hbf_8]; rfl
        have cf_1 : w8.cell? ⟨w3.heap.size, 1, none⟩ = some (.func (.func 22) #[] #[]) := by rw [cell_of_obj hbf_8]; rfl
        have cf_2 : w8.cell? ⟨w3.heap.size, 2, none⟩ = some (.func (.func 23) #[] #[]) := by rw [cell_of_obj hbf_8]; rfl
        have cf_3 : w8.cell? ⟨w3.heap.size, 3, none⟩ = some (.func (.func 17) #[] #[]) := by rw [cell_of_obj hbf_8]; rfl
        have cf_4 : w8.cell? ⟨w3.heap.size, 4, none⟩ = some (.func (.func 16) #[] #[]) := by rw [cell_of_obj hbf_8]; rfl
        have zf := frozen_of_obj hbf_8
        obtain ⟨cp_0, cp_1, cp_2, cp_3, zp⟩ := hbp_8.cs
        go_upto_region 9 with fail
        have o1 := Lib.hid (hbp_8.lt)
        have lv := hbv_8.lt
        have lu := hbu_8.lt
        have lf := obj_lt hbf_8
        have lp := hbp_8.lt
        have hl := hfw_8.size
        have po0 := o0.out
        have po1 := o1.out
        refine wp_world (fun W => Fr noB w4 W ∧ Bx W w.heap.size v ∧ Bl W w2.heap.size 0 0 0 ∧ W.heap[w3.heap.size]? = some (.cells #[.func (.func 21) #[] #[], .func (.func 22) #[] #[], .func (.func 23) #[] #[], .func (.func 17) #[] #[], .func (.func 16) #[] #[]] 27 (0, 0)) ∧ Bl W w6.heap.size 0 0 0 ∧ Bl W w8.heap.size 0 0 0) ?_ ?_
        · refine ⟨?_, ?_, ?_, ?_, ?_, ?_⟩ <;> ((first | unfold Bx | unfold Bl | skip); repeat (first | with_reducible exact hfw_8 | with_reducible refine Fr.alloc ?_ _ | (with_reducible refine Fr.setCell ?_ ?_ _; rotate_left; (intro h; dsimp only at h; omega)) | with_reducible refine Fr.drew ?_ | with_reducible exact hbv_8.raw | with_reducible exact hbu_8.raw | with_reducible exact hbf_8 | with_reducible exact hbp_8.raw | (with_reducible refine obj_alloc_at ?_; simp; done) | (with_reducible apply obj_put4; omega) | (with_reducible apply obj_put1; omega) | (with_reducible refine obj_setCell_other ?_ _ _ ?_; rotate_left; (dsimp only; omega)) | with_reducible refine obj_alloc ?_ _ | with_reducible refine obj_drew ?_ | exact hfw_8))
        clear hbv_8 hbu_8 hbf_8 hbp_8 lv lu lf lp hl po0 po1 cv_0 cv_1 cv_2 cv_3 zv cu_0 cu_1 cu_2 cu_3 zu cf_0 cf_1 cf_2 cf_3 cf_4 zf cp_0 cp_1 cp_2 cp_3 zp hfw_8
        rintro w9 ⟨hfw_9, hbv_9, hbu_9, hbf_9, hbp_9, hbq_9⟩
        obtain ⟨cv_0, cv_1, cv_2, cv_3, zv⟩ := hbv_9.cs
        obtain ⟨cu_0, cu_1, cu_2, cu_3, zu⟩ := hbu_9.cs
        have cf_0 : w9.cell? ⟨w3.heap.size, 0, none⟩ = some (.func (.func 21) #[] #[]) := by rw [cell_of_obj hbf_9]; rfl
        have cf_1 : w9.cell? ⟨w3.heap.size, 1, none⟩ = some (.func (.func 22) #[] #[]) := by rw [cell_of_obj hbf_9]; rfl
        have cf_2 : w9.cell? ⟨w3.heap.size, 2, none⟩ = some (.func (.func 23) #[] #[]) := by rw [cell_of_obj hbf_9]; rfl
        have cf_3 : w9.cell? ⟨w3.heap.size, 3, none⟩ = some (.func (.func 17) #[] #[]) := by rw [cell_of_obj hbf_9]; rfl
        have cf_4 : w9.cell? ⟨w3.heap.size, 4, none⟩ = some (.func (.func 16) #[] #[]) := by rw [cell_of_obj hbf_9]; rfl
        have zf := frozen_of_obj hbf_9
        obtain ⟨cp_0, cp_1, cp_2, cp_3, zp⟩ := hbp_9.cs
        obtain ⟨cq_0, cq_1, cq_2, cq_3, zq⟩ := hbq_9.cs
        have N := N1.out
        go_wp2_with fail
        go_roundg 2
        case measure => omega
        case rel => exact ⟨3, by omega, by omega, by go_num, hfw_9⟩
      · clear hi
        have hbv_5 := hbv_4.mv hf
        have hbu_5 := hbu_4.mv hf
        have hbf_5 := raw_mv hbf_4 hf
        clear hbv_4 hbu_4 hbf_4 cv_0 cv_1 cv_2 cv_3 zv cu_0 cu_1 cu_2 cu_3 zu cf_0 cf_1 cf_2 cf_3 cf_4 zf
        obtain ⟨cv_0, cv_1, cv_2, cv_3, zv⟩ := hbv_5.cs
        obtain ⟨cu_0, cu_1, cu_2, cu_3, zu⟩ := hbu_5.cs
        have cf_0 : wr.cell? ⟨w3.heap.size, 0, none⟩ = some (.func (.func 21) #[] #[]) := by rw [cell_of_obj hbf_5]; rfl
        have cf_1 : wr.cell? ⟨w3.heap.size, 1, none⟩ = some (.func (.func 22) #[] #[]) := by rw [cell_of_obj hbf_5]; rfl
        have cf_2 : wr.cell? ⟨w3.heap.size, 2, none⟩ = some (.func (.func 23) #[] #[]) := by rw [cell_of_obj hbf_5]; rfl
        have cf_3 : wr.cell? ⟨w3.heap.size, 3, none⟩ = some (.func (.func 17) #[] #[]) := by rw [cell_of_obj hbf_5]; rfl
        have cf_4 : wr.cell? ⟨w3.heap.size, 4, none⟩ = some (.func (.func 16) #[] #[]) := by rw [cell_of_obj hbf_5]; rfl
        have zf := frozen_of_obj hbf_5
        go_wp2_with fail
        refine (HEqualR.out _).mono ?_
        rintro e w6 ⟨rfl, hf6⟩
        have lv := hbv_5.lt
        have lu := hbu_5.lt
        have lf := obj_lt hbf_5
        have hl := hf.size
        have hB : Bx w6 w.heap.size v ∧ Bl w6 w2.heap.size 0 0 0 ∧ w6.heap[w3.heap.size]? = some (.cells #[.func (.func 21) #[] #[], .func (.func 22) #[] #[], .func (.func 23) #[] #[], .func (.func 17) #[] #[], .func (.func 16) #[] #[]] 27 (0, 0)) := by
          refine ⟨?_, ?_, ?_⟩ <;> ((first | unfold Bx | unfold Bl | skip); refine hf6.obj (noB_not _) ?_; repeat (first | with_reducible exact hbv_5.raw | with_reducible exact hbu_5.raw | with_reducible exact hbf_5 | (with_reducible refine obj_alloc_at ?_; simp; done) | (with_reducible apply obj_put4; omega) | (with_reducible apply obj_put1; omega) | (with_reducible refine obj_setCell_other ?_ _ _ ?_; rotate_left; (dsimp only; omega)) | with_reducible refine obj_alloc ?_ _ | with_reducible refine obj_drew ?_))
        obtain ⟨hbv_6, hbu_6, hbf_6⟩ := hB
        have hfw_6 : Fr noB w4 w6 := by
          refine Fr.transN ?_ hf6
          repeat (first | with_reducible exact hf | with_reducible refine Fr.alloc ?_ _ | (with_reducible refine Fr.setCell ?_ ?_ _; rotate_left; (intro h; dsimp only at h; omega)) | with_reducible refine Fr.drew ?_ | exact hf)
        clear hbv_5 hbu_5 hbf_5 lv lu lf hl cv_0 cv_1 cv_2 cv_3 zv cu_0 cu_1 cu_2 cu_3 zu cf_0 cf_1 cf_2 cf_3 cf_4 zf hf6 hf
        obtain ⟨cv_0, cv_1, cv_2, cv_3, zv⟩ := hbv_6.cs
        obtain ⟨cu_0, cu_1, cu_2, cu_3, zu⟩ := hbu_6.cs
        have cf_0 : w6.cell? ⟨w3.heap.size, 0, none⟩ = some (.func (.func 21) #[] #[]) := by rw [cell_of_obj hbf_6]; rfl
        have cf_1 : w6.cell? ⟨w3.heap.size, 1, none⟩ = some (.func (.func 22) #[] #[]) := by rw [cell_of_obj hbf_6]; rfl
        have cf_2 : w6.cell? ⟨w3.heap.size, 2, none⟩ = some (.func (.func 23) #[] #[]) := by rw [cell_of_obj hbf_6]; rfl
        have cf_3 : w6.cell? ⟨w3.heap.size, 3, none⟩ = some (.func (.func 17) #[] #[]) := by rw [cell_of_obj hbf_6]; rfl
        have cf_4 : w6.cell? ⟨w3.heap.size, 4, none⟩ = some (.func (.func 16) #[] #[]) := by rw [cell_of_obj hbf_6]; rfl
        have zf := frozen_of_obj hbf_6
        go_upto_region 8 with fail
        have o0 := Lib.hid (obj_lt hbf_6)
        have lv := hbv_6.lt
        have lu := hbu_6.lt
        have lf := obj_lt hbf_6
        have hl := hfw_6.size
        have po0 := o0.out
        refine wp_world (fun W => Fr noB w4 W ∧ Bx W w.heap.size v ∧ Bl W w2.heap.size 0 0 0 ∧ W.heap[w3.heap.size]? = some (.cells #[.func (.func 21) #[] #[], .func (.func 22) #[] #[], .func (.func 23) #[] #[], .func (.func 17) #[] #[], .func (.func 16) #[] #[]] 27 (0, 0)) ∧ Bl W w6.heap.size 0 0 0) ?_ ?_
        · refine ⟨?_, ?_, ?_, ?_, ?_⟩ <;> ((first | unfold Bx | unfold Bl | skip); repeat (first | with_reducible exact hfw_6 | with_reducible refine Fr.alloc ?_ _ | (with_reducible refine Fr.setCell ?_ ?_ _; rotate_left; (intro h; dsimp only at h; omega)) | with_reducible refine Fr.drew ?_ | with_reducible exact hbv_6.raw | with_reducible exact hbu_6.raw | with_reducible exact hbf_6 | (with_reducible refine obj_alloc_at ?_; simp; done) | (with_reducible apply obj_put4; omega) | (with_reducible apply obj_put1; omega) | (with_reducible refine obj_setCell_other ?_ _ _ ?_; rotate_left; (dsimp only; omega)) | with_reducible refine obj_alloc ?_ _ | with_reducible refine obj_drew ?_ | exact hfw_6))
        clear hbv_6 hbu_6 hbf_6 lv lu lf hl po0 cv_0 cv_1 cv_2 cv_3 zv cu_0 cu_1 cu_2 cu_3 zu cf_0 cf_1 cf_2 cf_3 cf_4 zf hfw_6
        rintro w7 ⟨hfw_7, hbv_7, hbu_7, hbf_7, hbp_7⟩
        obtain ⟨cv_0, cv_1, cv_2, cv_3, zv⟩ := hbv_7.cs
        obtain ⟨cu_0, cu_1, cu_2, cu_3, zu⟩ := hbu_7.cs
        have cf_0 : w7.cell? ⟨w3.heap.size, 0, none⟩ = some (.func (.func 21) #[] #[]) := by rw [cell_of_obj hbf_7]; rfl
        have cf_1 : w7.cell? ⟨w3.heap.size, 1, none⟩ = some (.func (.func 22) #[] #[]) := by rw [cell_of_obj hbf_7]; rfl
        have cf_2 : w7.cell? ⟨w3.heap.size, 2, none⟩ = some (.func (.func 23) #[] #[]) := by rw [cell_of_obj hbf_7]; rfl
        have cf_3 : w7.cell? ⟨w3.heap.size, 3, none⟩ = some (.func (.func 17) #[] #[]) := by rw [cell_of_obj hbf_7]; rfl
        have cf_4 : w7.cell? ⟨w3.heap.size, 4, none⟩ = some (.func (.func 16) #[] #[]) := by rw [cell_of_obj hbf_7]; rfl
        have zf := frozen_of_obj hbf_7
        obtain ⟨cp_0, cp_1, cp_2, cp_3, zp⟩ := hbp_7.cs
        go_wp2_with fail
        refine (HEqualL.out _).mono ?_
        rintro e w8 ⟨rfl, hf8⟩
        have lv := hbv_7.lt
        have lu := hbu_7.lt
        have lf := obj_lt hbf_7
        have lp := hbp_7.lt
        have hl := hfw_7.size
        have po0 := o0.out
        have hB : Bx w8 w.heap.size v ∧ Bl w8 w2.heap.size 0 0 0 ∧ w8.heap[w3.heap.size]? = some (.cells #[.func (.func 21) #[] #[], .func (.func 22) #[] #[], .func (.func 23) #[] #[], .func (.func 17) #[] #[], .func (.func 16) #[] #[]] 27 (0, 0)) ∧ Bl w8 w6.heap.size 0 0 0 := by
          refine ⟨?_, ?_, ?_, ?_⟩ <;> ((first | unfold Bx | unfold Bl | skip); refine hf8.obj (noB_not _) ?_; repeat (first | with_reducible exact hbv_7.raw | with_reducible exact hbu_7.raw | with_reducible exact hbf_7 | with_reducible exact hbp_7.raw | (with_reducible refine obj_alloc_at ?_; simp; done) | (with_reducible apply obj_put4; omega) | (with_reducible apply obj_put1; omega) | (with_reducible refine obj_setCell_other ?_ _ _ ?_; rotate_left; (dsimp only; omega)) | with_reducible refine obj_alloc ?_ _ | with_reducible refine obj_drew ?_))
        obtain ⟨hbv_8, hbu_8, hbf_8, hbp_8⟩ := hB
        have hfw_8 : Fr noB w4 w8 := by
          refine Fr.transN ?_ hf8
          repeat (first | with_reducible exact hfw_7 | with_reducible refine Fr.alloc ?_ _ | (with_reducible refine Fr.setCell ?_ ?_ _; rotate_left; (intro h; dsimp only at h; omega)) | with_reducible refine Fr.drew ?_ | exact hfw_7)
        clear hbv_7 hbu_7 hbf_7 hbp_7 lv lu lf lp hl po0 cv_0 cv_1 cv_2 cv_3 zv cu_0 cu_1 cu_2 cu_3 zu cf_0 cf_1 cf_2 cf_3 cf_4 zf cp_0 cp_1 cp_2 cp_3 zp hf8 hfw_7
        obtain ⟨cv_0, cv_1, cv_2, cv_3, zv⟩ := hbv_8.cs
        obtain ⟨cu_0, cu_1, cu_2, cu_3, zu⟩ := hbu_8.cs
        have cf_0 : w8.cell? ⟨w3.heap.size, 0, none⟩ = some (.func (.func 21) #[] #[]) := by rw [cell_of_obj hbf_8]; rfl
        have cf_1 : w8.cell? ⟨w3.heap.size, 1, none⟩ = some (.func (.func 22) #[] #[]) := by rw [cell_of_obj hbf_8]; rfl
        have cf_2 : w8.cell? ⟨w3.heap.size, 2, none⟩ = some (.func (.func 23) #[] #[]) := by rw [cell_of_obj hbf_8]; rfl
        have cf_3 : w8.cell? ⟨w3.heap.size, 3, none⟩ = some (.func (.func 17) #[] #[]) := by rw [cell_of_obj hbf_8]; rfl
        have cf_4 : w8.cell? ⟨w3.heap.size, 4, none⟩ = some (.func (.func 16) #[] #[]) := by rw [cell_of_obj hbf_8]; rfl
        have zf := frozen_of_obj hbf_8
        obtain ⟨cp_0, cp_1, cp_2, cp_3, zp⟩ := hbp_8.cs
        go_upto_region 9 with fail
        have o1 := Lib.hid (hbp_8.lt)
        have lv := hbv_8.lt
        have lu := hbu_8.lt
        have lf := obj_lt hbf_8
        have lp := hbp_8.lt
        have hl := hfw_8.size
        have po0 := o0.out
        have po1 := o1.out
        refine wp_world (fun W => Fr noB w4 W ∧ Bx W w.heap.size v ∧ Bl W w2.heap.size 0 0 0 ∧ W.heap[w3.heap.size]? = some (.cells #[.func (.func 21) #[] #[], .func (.func 22) #[] #[], .func (.func 23) #[] #[], .func (.func 17) #[] #[], .func (.func 16) #[] #[]] 27 (0, 0)) ∧ Bl W w6.heap.size 0 0 0 ∧ Bl W w8.heap.size 0 0 0) ?_ ?_
        · refine ⟨?_, ?_, ?_, ?_, ?_, ?_⟩ <;> ((first | unfold Bx | unfold Bl | skip); repeat (first | with_reducible exact hfw_8 | with_reducible refine Fr.alloc ?_ _ | (with_reducible refine Fr.setCell ?_ ?_ _; rotate_left; (intro h; dsimp only at h; omega)) | with_reducible refine Fr.drew ?_ | with_reducible exact hbv_8.raw | with_reducible exact hbu_8.raw | with_reducible exact hbf_8 | with_reducible exact hbp_8.raw | (with_reducible refine obj_alloc_at ?_; simp; done) | (with_reducible apply obj_put4; omega) | (with_reducible apply obj_put1; omega) | (with_reducible refine obj_setCell_other ?_ _ _ ?_; rotate_left; (dsimp only; omega)) | with_reducible refine obj_alloc ?_ _ | with_reducible refine obj_drew ?_ | exact hfw_8))
        clear hbv_8 hbu_8 hbf_8 hbp_8 lv lu lf lp hl po0 po1 cv_0 cv_1 cv_2 cv_3 zv cu_0 cu_1 cu_2 cu_3 zu cf_0 cf_1 cf_2 cf_3 cf_4 zf cp_0 cp_1 cp_2 cp_3 zp hfw_8
        rintro w9 ⟨hfw_9, hbv_9, hbu_9, hbf_9, hbp_9, hbq_9⟩
        obtain ⟨cv_0, cv_1, cv_2, cv_3, zv⟩ := hbv_9.cs
        obtain ⟨cu_0, cu_1, cu_2, cu_3, zu⟩ := hbu_9.cs
        have cf_0 : w9.cell? ⟨w3.heap.size, 0, none⟩ = some (.func (.func 21) #[] #[]) := by rw [cell_of_obj hbf_9]; rfl
        have cf_1 : w9.cell? ⟨w3.heap.size, 1, none⟩ = some (.func (.func 22) #[] #[]) := by rw [cell_of_obj hbf_9]; rfl
        have cf_2 : w9.cell? ⟨w3.heap.size, 2, none⟩ = some (.func (.func 23) #[] #[]) := by rw [cell_of_obj hbf_9]; rfl
        have cf_3 : w9.cell? ⟨w3.heap.size, 3, none⟩ = some (.func (.func 17) #[] #[]) := by rw [cell_of_obj hbf_9]; rfl
        have cf_4 : w9.cell? ⟨w3.heap.size, 4, none⟩ = some (.func (.func 16) #[] #[]) := by rw [cell_of_obj hbf_9]; rfl
        have zf := frozen_of_obj hbf_9
        obtain ⟨cp_0, cp_1, cp_2, cp_3, zp⟩ := hbp_9.cs
        obtain ⟨cq_0, cq_1, cq_2, cq_3, zq⟩ := hbq_9.cs
        have N := N1.out
        go_wp2_with fail
        go_roundg 1
        case measure => omega
        case rel => exact ⟨4, by omega, by omega, by go_num, hfw_9⟩
      · clear hi
        have hbv_5 := hbv_4.mv hf
        have hbu_5 := hbu_4.mv hf
        have hbf_5 := raw_mv hbf_4 hf
        clear hbv_4 hbu_4 hbf_4 cv_0 cv_1 cv_2 cv_3 zv cu_0 cu_1 cu_2 cu_3 zu cf_0 cf_1 cf_2 cf_3 cf_4 zf
        obtain ⟨cv_0, cv_1, cv_2, cv_3, zv⟩ := hbv_5.cs
        obtain ⟨cu_0, cu_1, cu_2, cu_3, zu⟩ := hbu_5.cs
        have cf_0 : wr.cell? ⟨w3.heap.size, 0, none⟩ = some (.func (.func 21) #[] #[]) := by rw [cell_of_obj hbf_5]; rfl
        have cf_1 : wr.cell? ⟨w3.heap.size, 1, none⟩ = some (.func (.func 22) #[] #[]) := by rw [cell_of_obj hbf_5]; rfl
        have cf_2 : wr.cell? ⟨w3.heap.size, 2, none⟩ = some (.func (.func 23) #[] #[]) := by rw [cell_of_obj hbf_5]; rfl
        have cf_3 : wr.cell? ⟨w3.heap.size, 3, none⟩ = some (.func (.func 17) #[] #[]) := by rw [cell_of_obj hbf_5]; rfl
        have cf_4 : wr.cell? ⟨w3.heap.size, 4, none⟩ = some (.func (.func 16) #[] #[]) := by rw [cell_of_obj hbf_5]; rfl
        have zf := frozen_of_obj hbf_5
        go_wp2_with fail
        refine (HLessR.out _).mono ?_
        rintro e w6 ⟨rfl, hf6⟩
        have lv := hbv_5.lt
        have lu := hbu_5.lt
        have lf := obj_lt hbf_5
        have hl := hf.size
        have hB : Bx w6 w.heap.size v ∧ Bl w6 w2.heap.size 0 0 0 ∧ w6.heap[w3.heap.size]? = some (.cells #[.func (.func 21) #[] #[], .func (.func 22) #[] #[], .func (.func 23) #[] #[], .func (.func 17) #[] #[], .func (.func 16) #[] #[]] 27 (0, 0)) := by
          refine ⟨?_, ?_, ?_⟩ <;> ((first | unfold Bx | unfold Bl | skip); refine hf6.obj (noB_not _) ?_; repeat (first | with_reducible exact hbv_5.raw | with_reducible exact hbu_5.raw | with_reducible exact hbf_5 | (with_reducible refine obj_alloc_at ?_; simp; done) | (with_reducible apply obj_put4; omega) | (with_reducible apply obj_put1; omega) | (with_reducible refine obj_setCell_other ?_ _ _ ?_; rotate_left; (dsimp only; omega)) | with_reducible refine obj_alloc ?_ _ | with_reducible refine obj_drew ?_))
        obtain ⟨hbv_6, hbu_6, hbf_6⟩ := hB
        have hfw_6 : Fr noB w4 w6 := by
          refine Fr.transN ?_ hf6
          repeat (first | with_reducible exact hf | with_reducible refine Fr.alloc ?_ _ | (with_reducible refine Fr.setCell ?_ ?_ _; rotate_left; (intro h; dsimp only at h; omega)) | with_reducible refine Fr.drew ?_ | exact hf)
        clear hbv_5 hbu_5 hbf_5 lv lu lf hl cv_0 cv_1 cv_2 cv_3 zv cu_0 cu_1 cu_2 cu_3 zu cf_0 cf_1 cf_2 cf_3 cf_4 zf hf6 hf
        obtain ⟨cv_0, cv_1, cv_2, cv_3, zv⟩ := hbv_6.cs
        obtain ⟨cu_0, cu_1, cu_2, cu_3, zu⟩ := hbu_6.cs
        have cf_0 : w6.cell? ⟨w3.heap.size, 0, none⟩ = some (.func (.func 21) #[] #[]) := by rw [cell_of_obj hbf_6]; rfl
        have cf_1 : w6.cell? ⟨w3.heap.size, 1, none⟩ = some (.func (.func 22) #[] #[]) := by rw [cell_of_obj hbf_6]; rfl
        have cf_2 : w6.cell? ⟨w3.heap.size, 2, none⟩ = some (.func (.func 23) #[] #[]) := by rw [cell_of_obj hbf_6]; rfl
        have cf_3 : w6.cell? ⟨w3.heap.size, 3, none⟩ = some (.func (.func 17) #[] #[]) := by rw [cell_of_obj hbf_6]; rfl
        have cf_4 : w6.cell? ⟨w3.heap.size, 4, none⟩ = some (.func (.func 16) #[] #[]) := by rw [cell_of_obj hbf_6]; rfl
        have zf := frozen_of_obj hbf_6
        go_upto_region 8 with fail
        have o0 := Lib.hid (obj_lt hbf_6)
        have lv := hbv_6.lt
        have lu := hbu_6.lt
        have lf := obj_lt hbf_6
        have hl := hfw_6.size
        have po0 := o0.out
        refine wp_world (fun W => Fr noB w4 W ∧ Bx W w.heap.size v ∧ Bl W w2.heap.size 0 0 0 ∧ W.heap[w3.heap.size]? = some (.cells #[.func (.func 21) #[] #[], .func (.func 22) #[] #[], .func (.func 23) #[] #[], .func (.func 17) #[] #[], .func (.func 16) #[] #[]] 27 (0, 0)) ∧ Bl W w6.heap.size 0 0 0) ?_ ?_
        · refine ⟨?_, ?_, ?_, ?_, ?_⟩ <;> ((first | unfold Bx | unfold Bl | skip); repeat (first | with_reducible exact hfw_6 | with_reducible refine Fr.alloc ?_ _ | (with_reducible refine Fr.setCell ?_ ?_ _; rotate_left; (intro h; dsimp only at h; omega)) | with_reducible refine Fr.drew ?_ | with_reducible exact hbv_6.raw | with_reducible exact hbu_6.raw | with_reducible exact hbf_6 | (with_reducible refine obj_alloc_at ?_; simp; done) | (with_reducible apply obj_put4; omega) | (with_reducible apply obj_put1; omega) | (with_reducible refine obj_setCell_other ?_ _ _ ?_; rotate_left; (dsimp only; omega)) | with_reducible refine obj_alloc ?_ _ | with_reducible refine obj_drew ?_ | exact hfw_6))
        clear hbv_6 hbu_6 hbf_6 lv lu lf hl po0 cv_0 cv_1 cv_2 cv_3 zv cu_0 cu_1 cu_2 cu_3 zu cf_0 cf_1 cf_2 cf_3 cf_4 zf hfw_6
        rintro w7 ⟨hfw_7, hbv_7, hbu_7, hbf_7, hbp_7⟩
        obtain ⟨cv_0, cv_1, cv_2, cv_3, zv⟩ := hbv_7.cs
        obtain ⟨cu_0, cu_1, cu_2, cu_3, zu⟩ := hbu_7.cs
        have cf_0 : w7.cell? ⟨w3.heap.size, 0, none⟩ = some (.func (.func 21) #[] #[]) := by rw [cell_of_obj hbf_7]; rfl
        have cf_1 : w7.cell? ⟨w3.heap.size, 1, none⟩ = some (.func (.func 22) #[] #[]) := by rw [cell_of_obj hbf_7]; rfl
        have cf_2 : w7.cell? ⟨w3.heap.size, 2, none⟩ = some (.func (.func 23) #[] #[]) := by rw [cell_of_obj hbf_7]; rfl
        have cf_3 : w7.cell? ⟨w3.heap.size, 3, none⟩ = some (.func (.func 17) #[] #[]) := by rw [cell_of_obj hbf_7]; rfl
        have cf_4 : w7.cell? ⟨w3.heap.size, 4, none⟩ = some (.func (.func 16) #[] #[]) := by rw [cell_of_obj hbf_7]; rfl
        have zf := frozen_of_obj hbf_7
        obtain ⟨cp_0, cp_1, cp_2, cp_3, zp⟩ := hbp_7.cs
        go_wp2_with fail
        refine (HLessL.out _).mono ?_
        rintro e w8 ⟨rfl, hf8⟩
        have lv := hbv_7.lt
        have lu := hbu_7.lt
        have lf := obj_lt hbf_7
        have lp := hbp_7.lt
        have hl := hfw_7.size
        have po0 := o0.out
        have hB : Bx w8 w.heap.size v ∧ Bl w8 w2.heap.size 0 0 0 ∧ w8.heap[w3.heap.size]? = some (.cells #[.func (.func 21) #[] #[], .func (.func 22) #[] #[], .func (.func 23) #[] #[], .func (.func 17) #[] #[], .func (.func 16) #[] #[]] 27 (0, 0)) ∧ Bl w8 w6.heap.size 0 0 0 := by
          refine ⟨?_, ?_, ?_, ?_⟩ <;> ((first | unfold Bx | unfold Bl | skip); refine hf8.obj (noB_not _) ?_; repeat (first | with_reducible exact hbv_7.raw | with_reducible exact hbu_7.raw | with_reducible exact hbf_7 | with_reducible exact hbp_7.raw | (with_reducible refine obj_alloc_at ?_; simp; done) | (with_reducible apply obj_put4; omega) | (with_reducible apply obj_put1; omega) | (with_reducible refine obj_setCell_other ?_ _ _ ?_; rotate_left; (dsimp only; omega)) | with_reducible refine obj_alloc ?_ _ | with_reducible refine obj_drew ?_))
        obtain ⟨hbv_8, hbu_8, hbf_8, hbp_8⟩ := hB
        have hfw_8 : Fr noB w4 w8 := by
          refine Fr.transN ?_ hf8
          repeat (first | with_reducible exact hfw_7 | with_reducible refine Fr.alloc ?_ _ | (with_reducible refine Fr.setCell ?_ ?_ _; rotate_left; (intro h; dsimp only at h; omega)) | with_reducible refine Fr.drew ?_ | exact hfw_7)
        clear hbv_7 hbu_7 hbf_7 hbp_7 lv lu lf lp hl po0 cv_0 cv_1 cv_2 cv_3 zv cu_0 cu_1 cu_2 cu_3 zu cf_0 cf_1 cf_2 cf_3 cf_4 zf cp_0 cp_1 cp_2 cp_3 zp hf8 hfw_7
        obtain ⟨cv_0, cv_1, cv_2, cv_3, zv⟩ := hbv_8.cs
        obtain ⟨cu_0, cu_1, cu_2, cu_3, zu⟩ := hbu_8.cs
        have cf_0 : w8.cell? ⟨w3.heap.size, 0, none⟩ = some (.func (.func 21) #[] #[]) := by rw [cell_of_obj hbf_8]; rfl
        have cf_1 : w8.cell? ⟨w3.heap.size, 1, none⟩ = some (.func (.func 22) #[] #[]) := by rw [cell_of_obj hbf_8]; rfl
        have cf_2 : w8.cell? ⟨w3.heap.size, 2, none⟩ = some (.func (.func 23) #[] #[]) := by rw [cell_of_obj hbf_8]; rfl
        have cf_3 : w8.cell? ⟨w3.heap.size, 3, none⟩ = some (.func (.func 17) #[] #[]) := by rw [cell_of_obj hbf_8]; rfl
        have cf_4 : w8.cell? ⟨w3.heap.size, 4, none⟩ = some (.func (.func 16) #[] #[]) := by rw [cell_of_obj hbf_8]; rfl
        have zf := frozen_of_obj hbf_8
        obtain ⟨cp_0, cp_1, cp_2, cp_3, zp⟩ := hbp_8.cs
        go_upto_region 9 with fail
        have o1 := Lib.hid (hbp_8.lt)
        have lv := hbv_8.lt
        have lu := hbu_8.lt
        have lf := obj_lt hbf_8
        have lp := hbp_8.lt
        have hl := hfw_8.size
        have po0 := o0.out
        have po1 := o1.out
        refine wp_world (fun W => Fr noB w4 W ∧ Bx W w.heap.size v ∧ Bl W w2.heap.size 0 0 0 ∧ W.heap[w3.heap.size]? = some (.cells #[.func (.func 21) #[] #[], .func (.func 22) #[] #[], .func (.func 23) #[] #[], .func (.func 17) #[] #[], .func (.func 16) #[] #[]] 27 (0, 0)) ∧ Bl W w6.heap.size 0 0 0 ∧ Bl W w8.heap.size 0 0 0) ?_ ?_
        · refine ⟨?_, ?_, ?_, ?_, ?_, ?_⟩ <;> ((first | unfold Bx | unfold Bl | skip); repeat (first | with_reducible exact hfw_8 | with_reducible refine Fr.alloc ?_ _ | (with_reducible refine Fr.setCell ?_ ?_ _; rotate_left; (intro h; dsimp only at h; omega)) | with_reducible refine Fr.drew ?_ | with_reducible exact hbv_8.raw | with_reducible exact hbu_8.raw | with_reducible exact hbf_8 | with_reducible exact hbp_8.raw | (with_reducible refine obj_alloc_at ?_; simp; done) | (with_reducible apply obj_put4; omega) | (with_reducible apply obj_put1; omega) | (with_reducible refine obj_setCell_other ?_ _ _ ?_; rotate_left; (dsimp only; omega)) | with_reducible refine obj_alloc ?_ _ | with_reducible refine obj_drew ?_ | exact hfw_8))
        clear hbv_8 hbu_8 hbf_8 hbp_8 lv lu lf lp hl po0 po1 cv_0 cv_1 cv_2 cv_3 zv cu_0 cu_1 cu_2 cu_3 zu cf_0 cf_1 cf_2 cf_3 cf_4 zf cp_0 cp_1 cp_2 cp_3 zp hfw_8
        rintro w9 ⟨hfw_9, hbv_9, hbu_9, hbf_9, hbp_9, hbq_9⟩
        obtain ⟨cv_0, cv_1, cv_2, cv_3, zv⟩ := hbv_9.cs
        obtain ⟨cu_0, cu_1, cu_2, cu_3, zu⟩ := hbu_9.cs
        have cf_0 : w9.cell? ⟨w3.heap.size, 0, none⟩ = some (.func (.func 21) #[] #[]) := by rw [cell_of_obj hbf_9]; rfl
        have cf_1 : w9.cell? ⟨w3.heap.size, 1, none⟩ = some (.func (.func 22) #[] #[]) := by rw [cell_of_obj hbf_9]; rfl
        have cf_2 : w9.cell? ⟨w3.heap.size, 2, none⟩ = some (.func (.func 23) #[] #[]) := by rw [cell_of_obj hbf_9]; rfl
        have cf_3 : w9.cell? ⟨w3.heap.size, 3, none⟩ = some (.func (.func 17) #[] #[]) := by rw [cell_of_obj hbf_9]; rfl
        have cf_4 : w9.cell? ⟨w3.heap.size, 4, none⟩ = some (.func (.func 16) #[] #[]) := by rw [cell_of_obj hbf_9]; rfl
        have zf := frozen_of_obj hbf_9
        obtain ⟨cp_0, cp_1, cp_2, cp_3, zp⟩ := hbp_9.cs
        obtain ⟨cq_0, cq_1, cq_2, cq_3, zq⟩ := hbq_9.cs
        have N := N1.out
        go_wp2_with fail
        go_roundg 0
        case measure => omega
        case rel => exact ⟨5, by omega, by omega, by go_num, hfw_9⟩
      · clear hi
        have hbv_5 := hbv_4.mv hf
        have hbu_5 := hbu_4.mv hf
        have hbf_5 := raw_mv hbf_4 hf
        have hfw_5 := hfw_4.transN hf
        clear hbv_4 hbu_4 hbf_4 cv_0 cv_1 cv_2 cv_3 zv cu_0 cu_1 cu_2 cu_3 zu cf_0 cf_1 cf_2 cf_3 cf_4 zf hf hfw_4
        obtain ⟨cv_0, cv_1, cv_2, cv_3, zv⟩ := hbv_5.cs
        obtain ⟨cu_0, cu_1, cu_2, cu_3, zu⟩ := hbu_5.cs
        have cf_0 : wr.cell? ⟨w3.heap.size, 0, none⟩ = some (.func (.func 21) #[] #[]) := by rw [cell_of_obj hbf_5]; rfl
        have cf_1 : wr.cell? ⟨w3.heap.size, 1, none⟩ = some (.func (.func 22) #[] #[]) := by rw [cell_of_obj hbf_5]; rfl
        have cf_2 : wr.cell? ⟨w3.heap.size, 2, none⟩ = some (.func (.func 23) #[] #[]) := by rw [cell_of_obj hbf_5]; rfl
        have cf_3 : wr.cell? ⟨w3.heap.size, 3, none⟩ = some (.func (.func 17) #[] #[]) := by rw [cell_of_obj hbf_5]; rfl
        have cf_4 : wr.cell? ⟨w3.heap.size, 4, none⟩ = some (.func (.func 16) #[] #[]) := by rw [cell_of_obj hbf_5]; rfl
        have zf := frozen_of_obj hbf_5
        go_wp2_with fail
        refine (HAnd.out _).mono ?_
        rintro e w6 ⟨rfl, hf6⟩
        have lv := hbv_5.lt
        have lu := hbu_5.lt
        have lf := obj_lt hbf_5
        have hl := hfw_5.size
        have po0 := o0.out
        have po1 := o1.out
        have hB : Bx w6 w.heap.size v ∧ Bl w6 w2.heap.size 0 0 0 ∧ w6.heap[w3.heap.size]? = some (.cells #[.func (.func 21) #[] #[], .func (.func 22) #[] #[], .func (.func 23) #[] #[], .func (.func 17) #[] #[], .func (.func 16) #[] #[]] 27 (0, 0)) := by
          refine ⟨?_, ?_, ?_⟩ <;> ((first | unfold Bx | unfold Bl | skip); refine hf6.obj (noB_not _) ?_; repeat (first | with_reducible exact hbv_5.raw | with_reducible exact hbu_5.raw | with_reducible exact hbf_5 | (with_reducible refine obj_alloc_at ?_; simp; done) | (with_reducible apply obj_put4; omega) | (with_reducible apply obj_put1; omega) | (with_reducible refine obj_setCell_other ?_ _ _ ?_; rotate_left; (dsimp only; omega)) | with_reducible refine obj_alloc ?_ _ | with_reducible refine obj_drew ?_))
        obtain ⟨hbv_6, hbu_6, hbf_6⟩ := hB
        have hfw_6 : Fr noB w w6 := by
          refine Fr.transN ?_ hf6
          repeat (first | with_reducible exact hfw_5 | with_reducible refine Fr.alloc ?_ _ | (with_reducible refine Fr.setCell ?_ ?_ _; rotate_left; (intro h; dsimp only at h; omega)) | with_reducible refine Fr.drew ?_ | exact hfw_5)
        clear hbv_5 hbu_5 hbf_5 lv lu lf hl po0 po1 cv_0 cv_1 cv_2 cv_3 zv cu_0 cu_1 cu_2 cu_3 zu cf_0 cf_1 cf_2 cf_3 cf_4 zf hf6 hfw_5
        obtain ⟨cv_0, cv_1, cv_2, cv_3, zv⟩ := hbv_6.cs
        obtain ⟨cu_0, cu_1, cu_2, cu_3, zu⟩ := hbu_6.cs
        have cf_0 : w6.cell? ⟨w3.heap.size, 0, none⟩ = some (.func (.func 21) #[] #[]) := by rw [cell_of_obj hbf_6]; rfl
        have cf_1 : w6.cell? ⟨w3.heap.size, 1, none⟩ = some (.func (.func 22) #[] #[]) := by rw [cell_of_obj hbf_6]; rfl
        have cf_2 : w6.cell? ⟨w3.heap.size, 2, none⟩ = some (.func (.func 23) #[] #[]) := by rw [cell_of_obj hbf_6]; rfl
        have cf_3 : w6.cell? ⟨w3.heap.size, 3, none⟩ = some (.func (.func 17) #[] #[]) := by rw [cell_of_obj hbf_6]; rfl
        have cf_4 : w6.cell? ⟨w3.heap.size, 4, none⟩ = some (.func (.func 16) #[] #[]) := by rw [cell_of_obj hbf_6]; rfl
        have zf := frozen_of_obj hbf_6
        go_upto_region 13 with fail
        have o2 := Lib.hid (obj_lt hbf_6)
        have lv := hbv_6.lt
        have lu := hbu_6.lt
        have lf := obj_lt hbf_6
        have hl := hfw_6.size
        have po0 := o0.out
        have po1 := o1.out
        have po2 := o2.out
        refine wp_world (fun W => Fr noB w W ∧ Bx W w.heap.size v ∧ Bl W w2.heap.size 0 0 0 ∧ Bx W w6.heap.size A.1) ?_ ?_
        · refine ⟨?_, ?_, ?_, ?_⟩ <;> ((first | unfold Bx | unfold Bl | skip); repeat (first | with_reducible exact hfw_6 | with_reducible refine Fr.alloc ?_ _ | (with_reducible refine Fr.setCell ?_ ?_ _; rotate_left; (intro h; dsimp only at h; omega)) | with_reducible refine Fr.drew ?_ | with_reducible exact hbv_6.raw | with_reducible exact hbu_6.raw | with_reducible exact hbf_6 | (with_reducible refine obj_alloc_at ?_; simp; done) | (with_reducible apply obj_put4; omega) | (with_reducible apply obj_put1; omega) | (with_reducible refine obj_setCell_other ?_ _ _ ?_; rotate_left; (dsimp only; omega)) | with_reducible refine obj_alloc ?_ _ | with_reducible refine obj_drew ?_ | exact hfw_6))
        clear hbv_6 hbu_6 hbf_6 lv lu lf hl po0 po1 po2 cv_0 cv_1 cv_2 cv_3 zv cu_0 cu_1 cu_2 cu_3 zu cf_0 cf_1 cf_2 cf_3 cf_4 zf hfw_6
        rintro w7 ⟨hfw_7, hbv_7, hbu_7, hba_7⟩
        obtain ⟨cv_0, cv_1, cv_2, cv_3, zv⟩ := hbv_7.cs
        obtain ⟨cu_0, cu_1, cu_2, cu_3, zu⟩ := hbu_7.cs
        obtain ⟨ca_0, ca_1, ca_2, ca_3, za⟩ := hba_7.cs
        go_wp2_with fail
        refine (HOr.out _).mono ?_
        rintro e w8 ⟨rfl, hf8⟩
        have lv := hbv_7.lt
        have lu := hbu_7.lt
        have la := hba_7.lt
        have hl := hfw_7.size
        have po0 := o0.out
        have po1 := o1.out
        have po2 := o2.out
        have hB : Bx w8 w.heap.size v ∧ Bl w8 w2.heap.size 0 0 0 ∧ Bx w8 w6.heap.size A.1 := by
          refine ⟨?_, ?_, ?_⟩ <;> ((first | unfold Bx | unfold Bl | skip); refine hf8.obj (noB_not _) ?_; repeat (first | with_reducible exact hbv_7.raw | with_reducible exact hbu_7.raw | with_reducible exact hba_7.raw | (with_reducible refine obj_alloc_at ?_; simp; done) | (with_reducible apply obj_put4; omega) | (with_reducible apply obj_put1; omega) | (with_reducible refine obj_setCell_other ?_ _ _ ?_; rotate_left; (dsimp only; omega)) | with_reducible refine obj_alloc ?_ _ | with_reducible refine obj_drew ?_))
        obtain ⟨hbv_8, hbu_8, hba_8⟩ := hB
        have hfw_8 : Fr noB w w8 := by
          refine Fr.transN ?_ hf8
          repeat (first | with_reducible exact hfw_7 | with_reducible refine Fr.alloc ?_ _ | (with_reducible refine Fr.setCell ?_ ?_ _; rotate_left; (intro h; dsimp only at h; omega)) | with_reducible refine Fr.drew ?_ | exact hfw_7)
        clear hbv_7 hbu_7 hba_7 lv lu la hl po0 po1 po2 cv_0 cv_1 cv_2 cv_3 zv cu_0 cu_1 cu_2 cu_3 zu ca_0 ca_1 ca_2 ca_3 za hf8 hfw_7
        obtain ⟨cv_0, cv_1, cv_2, cv_3, zv⟩ := hbv_8.cs
        obtain ⟨cu_0, cu_1, cu_2, cu_3, zu⟩ := hbu_8.cs
        obtain ⟨ca_0, ca_1, ca_2, ca_3, za⟩ := hba_8.cs
        go_upto_region 14 with fail
        have o3 := Lib.hid (hba_8.lt)
        have lv := hbv_8.lt
        have lu := hbu_8.lt
        have la := hba_8.lt
        have hl := hfw_8.size
        have po0 := o0.out
        have po1 := o1.out
        have po2 := o2.out
        have po3 := o3.out
        refine wp_world (fun W => Fr noB w W ∧ Bx W w.heap.size v ∧ Bl W w2.heap.size 0 0 0 ∧ Bx W w6.heap.size A.1 ∧ Bx W w8.heap.size B.1) ?_ ?_
        · refine ⟨?_, ?_, ?_, ?_, ?_⟩ <;> ((first | unfold Bx | unfold Bl | skip); repeat (first | with_reducible exact hfw_8 | with_reducible refine Fr.alloc ?_ _ | (with_reducible refine Fr.setCell ?_ ?_ _; rotate_left; (intro h; dsimp only at h; omega)) | with_reducible refine Fr.drew ?_ | with_reducible exact hbv_8.raw | with_reducible exact hbu_8.raw | with_reducible exact hba_8.raw | (with_reducible refine obj_alloc_at ?_; simp; done) | (with_reducible apply obj_put4; omega) | (with_reducible apply obj_put1; omega) | (with_reducible refine obj_setCell_other ?_ _ _ ?_; rotate_left; (dsimp only; omega)) | with_reducible refine obj_alloc ?_ _ | with_reducible refine obj_drew ?_ | exact hfw_8))
        clear hbv_8 hbu_8 hba_8 lv lu la hl po0 po1 po2 po3 cv_0 cv_1 cv_2 cv_3 zv cu_0 cu_1 cu_2 cu_3 zu ca_0 ca_1 ca_2 ca_3 za hfw_8
        rintro w9 ⟨hfw_9, hbv_9, hbu_9, hba_9, hbb_9⟩
        obtain ⟨cv_0, cv_1, cv_2, cv_3, zv⟩ := hbv_9.cs
        obtain ⟨cu_0, cu_1, cu_2, cu_3, zu⟩ := hbu_9.cs
        obtain ⟨ca_0, ca_1, ca_2, ca_3, za⟩ := hba_9.cs
        obtain ⟨cb_0, cb_1, cb_2, cb_3, zb⟩ := hbb_9.cs
        go_wp2_with fail
        refine (HNot.out _).mono ?_
        rintro e w10 ⟨rfl, hf10⟩
        have lv := hbv_9.lt
        have lu := hbu_9.lt
        have la := hba_9.lt
        have lb := hbb_9.lt
        have hl := hfw_9.size
        have po0 := o0.out
        have po1 := o1.out
        have po2 := o2.out
        have po3 := o3.out
        have hB : Bx w10 w.heap.size v ∧ Bl w10 w2.heap.size 0 0 0 ∧ Bx w10 w6.heap.size A.1 ∧ Bx w10 w8.heap.size B.1 := by
          refine ⟨?_, ?_, ?_, ?_⟩ <;> ((first | unfold Bx | unfold Bl | skip); refine hf10.obj (noB_not _) ?_; repeat (first | with_reducible exact hbv_9.raw | with_reducible exact hbu_9.raw | with_reducible exact hba_9.raw | with_reducible exact hbb_9.raw | (with_reducible refine obj_alloc_at ?_; simp; done) | (with_reducible apply obj_put4; omega) | (with_reducible apply obj_put1; omega) | (with_reducible refine obj_setCell_other ?_ _ _ ?_; rotate_left; (dsimp only; omega)) | with_reducible refine obj_alloc ?_ _ | with_reducible refine obj_drew ?_))
        obtain ⟨hbv_10, hbu_10, hba_10, hbb_10⟩ := hB
        have hfw_10 : Fr noB w w10 := by
          refine Fr.transN ?_ hf10
          repeat (first | with_reducible exact hfw_9 | with_reducible refine Fr.alloc ?_ _ | (with_reducible refine Fr.setCell ?_ ?_ _; rotate_left; (intro h; dsimp only at h; omega)) | with_reducible refine Fr.drew ?_ | exact hfw_9)
        clear hbv_9 hbu_9 hba_9 hbb_9 lv lu la lb hl po0 po1 po2 po3 cv_0 cv_1 cv_2 cv_3 zv cu_0 cu_1 cu_2 cu_3 zu ca_0 ca_1 ca_2 ca_3 za cb_0 cb_1 cb_2 cb_3 zb hf10 hfw_9
        obtain ⟨cv_0, cv_1, cv_2, cv_3, zv⟩ := hbv_10.cs
        obtain ⟨cu_0, cu_1, cu_2, cu_3, zu⟩ := hbu_10.cs
        obtain ⟨ca_0, ca_1, ca_2, ca_3, za⟩ := hba_10.cs
        obtain ⟨cb_0, cb_1, cb_2, cb_3, zb⟩ := hbb_10.cs
        go_upto_region 15 with fail
        have o4 := Lib.hid (hbb_10.lt)
        have lv := hbv_10.lt
        have lu := hbu_10.lt
        have la := hba_10.lt
        have lb := hbb_10.lt
        have hl := hfw_10.size
        have po0 := o0.out
        have po1 := o1.out
        have po2 := o2.out
        have po3 := o3.out
        have po4 := o4.out
        refine wp_world (fun W => Fr noB w W ∧ Bx W w.heap.size v ∧ Bl W w2.heap.size 0 0 0 ∧ Bx W w6.heap.size A.1 ∧ Bx W w8.heap.size B.1 ∧ Bl W w10.heap.size 0 0 0) ?_ ?_
        · refine ⟨?_, ?_, ?_, ?_, ?_, ?_⟩ <;> ((first | unfold Bx | unfold Bl | skip); repeat (first | with_reducible exact hfw_10 | with_reducible refine Fr.alloc ?_ _ | (with_reducible refine Fr.setCell ?_ ?_ _; rotate_left; (intro h; dsimp only at h; omega)) | with_reducible refine Fr.drew ?_ | with_reducible exact hbv_10.raw | with_reducible exact hbu_10.raw | with_reducible exact hba_10.raw | with_reducible exact hbb_10.raw | (with_reducible refine obj_alloc_at ?_; simp; done) | (with_reducible apply obj_put4; omega) | (with_reducible apply obj_put1; omega) | (with_reducible refine obj_setCell_other ?_ _ _ ?_; rotate_left; (dsimp only; omega)) | with_reducible refine obj_alloc ?_ _ | with_reducible refine obj_drew ?_ | exact hfw_10))
        clear hbv_10 hbu_10 hba_10 hbb_10 lv lu la lb hl po0 po1 po2 po3 po4 cv_0 cv_1 cv_2 cv_3 zv cu_0 cu_1 cu_2 cu_3 zu ca_0 ca_1 ca_2 ca_3 za cb_0 cb_1 cb_2 cb_3 zb hfw_10
        rintro w11 ⟨hfw_11, hbv_11, hbu_11, hba_11, hbb_11, hbn_11⟩
        obtain ⟨cv_0, cv_1, cv_2, cv_3, zv⟩ := hbv_11.cs
        obtain ⟨cu_0, cu_1, cu_2, cu_3, zu⟩ := hbu_11.cs
        obtain ⟨ca_0, ca_1, ca_2, ca_3, za⟩ := hba_11.cs
        obtain ⟨cb_0, cb_1, cb_2, cb_3, zb⟩ := hbb_11.cs
        obtain ⟨cn_0, cn_1, cn_2, cn_3, zn⟩ := hbn_11.cs
        go_wp2_with fail
        refine (HNeg.out _).mono ?_
        rintro e w12 ⟨rfl, hf12⟩
        have lv := hbv_11.lt
        have lu := hbu_11.lt
        have la := hba_11.lt
        have lb := hbb_11.lt
        have ln := hbn_11.lt
        have hl := hfw_11.size
        have po0 := o0.out
        have po1 := o1.out
        have po2 := o2.out
        have po3 := o3.out
        have po4 := o4.out
        have hB : Bx w12 w.heap.size v ∧ Bl w12 w2.heap.size 0 0 0 ∧ Bx w12 w6.heap.size A.1 ∧ Bx w12 w8.heap.size B.1 ∧ Bl w12 w10.heap.size 0 0 0 := by
          refine ⟨?_, ?_, ?_, ?_, ?_⟩ <;> ((first | unfold Bx | unfold Bl | skip); refine hf12.obj (noB_not _) ?_; repeat (first | with_reducible exact hbv_11.raw | with_reducible exact hbu_11.raw | with_reducible exact hba_11.raw | with_reducible exact hbb_11.raw | with_reducible exact hbn_11.raw | (with_reducible refine obj_alloc_at ?_; simp; done) | (with_reducible apply obj_put4; omega) | (with_reducible apply obj_put1; omega) | (with_reducible refine obj_setCell_other ?_ _ _ ?_; rotate_left; (dsimp only; omega)) | with_reducible refine obj_alloc ?_ _ | with_reducible refine obj_drew ?_))
        obtain ⟨hbv_12, hbu_12, hba_12, hbb_12, hbn_12⟩ := hB
        have hfw_12 : Fr noB w w12 := by
          refine Fr.transN ?_ hf12
          repeat (first | with_reducible exact hfw_11 | with_reducible refine Fr.alloc ?_ _ | (with_reducible refine Fr.setCell ?_ ?_ _; rotate_left; (intro h; dsimp only at h; omega)) | with_reducible refine Fr.drew ?_ | exact hfw_11)
        clear hbv_11 hbu_11 hba_11 hbb_11 hbn_11 lv lu la lb ln hl po0 po1 po2 po3 po4 cv_0 cv_1 cv_2 cv_3 zv cu_0 cu_1 cu_2 cu_3 zu ca_0 ca_1 ca_2 ca_3 za cb_0 cb_1 cb_2 cb_3 zb cn_0 cn_1 cn_2 cn_3 zn hf12 hfw_11
        obtain ⟨cv_0, cv_1, cv_2, cv_3, zv⟩ := hbv_12.cs
        obtain ⟨cu_0, cu_1, cu_2, cu_3, zu⟩ := hbu_12.cs
        obtain ⟨ca_0, ca_1, ca_2, ca_3, za⟩ := hba_12.cs
        obtain ⟨cb_0, cb_1, cb_2, cb_3, zb⟩ := hbb_12.cs
        obtain ⟨cn_0, cn_1, cn_2, cn_3, zn⟩ := hbn_12.cs
        go_upto_region 16 with fail
        have o5 := Lib.hid (hbn_12.lt)
        have lv := hbv_12.lt
        have lu := hbu_12.lt
        have la := hba_12.lt
        have lb := hbb_12.lt
        have ln := hbn_12.lt
        have hl := hfw_12.size
        have po0 := o0.out
        have po1 := o1.out
        have po2 := o2.out
        have po3 := o3.out
        have po4 := o4.out
        have po5 := o5.out
        refine wp_world (fun W => Fr noB w W ∧ Bx W w.heap.size v ∧ Bl W w2.heap.size 0 0 0 ∧ Bx W w6.heap.size A.1 ∧ Bx W w8.heap.size B.1 ∧ Bl W w10.heap.size 0 0 0 ∧ Bl W w12.heap.size 0 0 0) ?_ ?_
        · refine ⟨?_, ?_, ?_, ?_, ?_, ?_, ?_⟩ <;> ((first | unfold Bx | unfold Bl | skip); repeat (first | with_reducible exact hfw_12 | with_reducible refine Fr.alloc ?_ _ | (with_reducible refine Fr.setCell ?_ ?_ _; rotate_left; (intro h; dsimp only at h; omega)) | with_reducible refine Fr.drew ?_ | with_reducible exact hbv_12.raw | with_reducible exact hbu_12.raw | with_reducible exact hba_12.raw | with_reducible exact hbb_12.raw | with_reducible exact hbn_12.raw | (with_reducible refine obj_alloc_at ?_; simp; done) | (with_reducible apply obj_put4; omega) | (with_reducible apply obj_put1; omega) | (with_reducible refine obj_setCell_other ?_ _ _ ?_; rotate_left; (dsimp only; omega)) | with_reducible refine obj_alloc ?_ _ | with_reducible refine obj_drew ?_ | exact hfw_12))
        clear hbv_12 hbu_12 hba_12 hbb_12 hbn_12 lv lu la lb ln hl po0 po1 po2 po3 po4 po5 cv_0 cv_1 cv_2 cv_3 zv cu_0 cu_1 cu_2 cu_3 zu ca_0 ca_1 ca_2 ca_3 za cb_0 cb_1 cb_2 cb_3 zb cn_0 cn_1 cn_2 cn_3 zn hfw_12
        rintro w13 ⟨hfw_13, hbv_13, hbu_13, hba_13, hbb_13, hbn_13, hbg_13⟩
        obtain ⟨cv_0, cv_1, cv_2, cv_3, zv⟩ := hbv_13.cs
        obtain ⟨cu_0, cu_1, cu_2, cu_3, zu⟩ := hbu_13.cs
        obtain ⟨ca_0, ca_1, ca_2, ca_3, za⟩ := hba_13.cs
        obtain ⟨cb_0, cb_1, cb_2, cb_3, zb⟩ := hbb_13.cs
        obtain ⟨cn_0, cn_1, cn_2, cn_3, zn⟩ := hbn_13.cs
        obtain ⟨cg_0, cg_1, cg_2, cg_3, zg⟩ := hbg_13.cs
        have N1x := N1.out
        have N2x := N2.out
        have N4x := N4.out
        have xv0 := Ext.cell cv_0
        have xv1 := Ext.cell cv_1
        have xv2 := Ext.cell cv_2
        have xv3 := Ext.cell cv_3
        have xu0 := Ext.cell cu_0
        have xu1 := Ext.cell cu_1
        have xu2 := Ext.cell cu_2
        have xu3 := Ext.cell cu_3
        have xa0 := Ext.cell ca_0
        have xa1 := Ext.cell ca_1
        have xa2 := Ext.cell ca_2
        have xa3 := Ext.cell ca_3
        have xb0 := Ext.cell cb_0
        have xb1 := Ext.cell cb_1
        have xb2 := Ext.cell cb_2
        have xb3 := Ext.cell cb_3
        have xn0 := Ext.cell cn_0
        have xn1 := Ext.cell cn_1
        have xn2 := Ext.cell cn_2
        have xn3 := Ext.cell cn_3
        have xg0 := Ext.cell cg_0
        have xg1 := Ext.cell cg_1
        have xg2 := Ext.cell cg_2
        have xg3 := Ext.cell cg_3
        clear cv_0 cv_1 cv_2 cv_3 zv cu_0 cu_1 cu_2 cu_3 zu ca_0 ca_1 ca_2 ca_3 za cb_0 cb_1 cb_2 cb_3 zb cn_0 cn_1 cn_2 cn_3 zn cg_0 cg_1 cg_2 cg_3 zg
        refine wp_region_ext (by kernel_rfl) (by kernel_rfl) ?_
        repeat (go_big_quiet_step ((first | (go_at_call 35; first | exact Ext.calls (HIN.out _) | exact Ext.calls (HIV.out _)) | (go_at_call 25; first | exact Ext.calls (HO1.out _) | exact Ext.calls (HOk.out _)))))
        refine wpQuiet_nil ?_
        rintro _ ⟨⟨w14, hf14⟩, rfl⟩
        clear xv0 xv1 xv2 xv3 xu0 xu1 xu2 xu3 xa0 xa1 xa2 xa3 xb0 xb1 xb2 xb3 xn0 xn1 xn2 xn3 xg0 xg1 xg2 xg3 N1x N2x N4x
        have hbv_15 := hbv_13.mv hf14
        have hbu_15 := hbu_13.mv hf14
        have hba_15 := hba_13.mv hf14
        have hbb_15 := hbb_13.mv hf14
        have hbn_15 := hbn_13.mv hf14
        have hbg_15 := hbg_13.mv hf14
        have hfw_15 := hfw_13.transN hf14
        clear hbv_13 hbu_13 hba_13 hbb_13 hbn_13 hbg_13 hf14 hfw_13
        obtain ⟨cv_0, cv_1, cv_2, cv_3, zv⟩ := hbv_15.cs
        obtain ⟨cu_0, cu_1, cu_2, cu_3, zu⟩ := hbu_15.cs
        obtain ⟨ca_0, ca_1, ca_2, ca_3, za⟩ := hba_15.cs
        obtain ⟨cb_0, cb_1, cb_2, cb_3, zb⟩ := hbb_15.cs
        obtain ⟨cn_0, cn_1, cn_2, cn_3, zn⟩ := hbn_15.cs
        obtain ⟨cg_0, cg_1, cg_2, cg_3, zg⟩ := hbg_15.cs
        rcases kinds v with ⟨k0, k2, ky, ka⟩ | ⟨k0, k2, ky, ka⟩ | ⟨k0, k2, ky, ka⟩ | ⟨k0, k2, ky, ka⟩
        · have ja : A = (zV, 0) := by rw [← HJA.out, joinV, ka, show areB 2 zV = true from rfl, show isB zV false = false from rfl, isB, k2, ky, nullB, k0]; rfl
          have jb : B = (zV, 0) := by rw [← HJB.out]; unfold joinV; rw [ka, show areB 2 zV = true from rfl, show isB zV true = false from rfl, isB, k2, ky, nullB, nullB, k0]; rfl
          rw [ky] at HY
          have fA0 : (A.2 == 0) = true := by rw [ja]; rfl
          have fA60 : (A.2 == 60) = false := by rw [ja]; rfl
          have fB0 : (B.2 == 0) = true := by rw [jb]; rfl
          have fB60 : (B.2 == 60) = false := by rw [jb]; rfl
          have EA0 := Lib.hid (show ∀ W : World, (binOp .eql 23 (.agg #[.int .u8 A.1.k, .int .i64 A.1.n, .int .i64 A.1.hi, .string A.1.t]) (.agg #[.int .u8 2, .int .i64 0, .int .i64 0, .string ⟨#[]⟩])).run Try.prog W = .ok (.bool false) W from eqv_lit A.1 noV false (by rw [ja]; rfl))
          have EAz := Lib.hid (show ∀ W : World, (binOp .eql 23 (.agg #[.int .u8 A.1.k, .int .i64 A.1.n, .int .i64 A.1.hi, .string A.1.t]) (.agg #[.int .u8 0, .int .i64 0, .int .i64 0, .string ⟨#[]⟩])).run Try.prog W = .ok (.bool true) W from eqv_lit A.1 zV true (by rw [ja]; exact (eqV_iff _ _).2 rfl))
          have EB1 := Lib.hid (show ∀ W : World, (binOp .eql 23 (.agg #[.int .u8 B.1.k, .int .i64 B.1.n, .int .i64 B.1.hi, .string B.1.t]) (.agg #[.int .u8 2, .int .i64 1, .int .i64 0, .string ⟨#[]⟩])).run Try.prog W = .ok (.bool false) W from eqv_lit B.1 yesV false (by rw [jb]; rfl))
          have EBz := Lib.hid (show ∀ W : World, (binOp .eql 23 (.agg #[.int .u8 B.1.k, .int .i64 B.1.n, .int .i64 B.1.hi, .string B.1.t]) (.agg #[.int .u8 0, .int .i64 0, .int .i64 0, .string ⟨#[]⟩])).run Try.prog W = .ok (.bool true) W from eqv_lit B.1 zV true (by rw [jb]; exact (eqV_iff _ _).2 rfl))
          have f0 : (v.k != 0) = false := by simpa using k0
          have f2 : (v.k != 2) = true := by simpa using k2
          clear ja jb ky ka
          go_upto_region 21 with fail
          have lv := hbv_15.lt
          have lu := hbu_15.lt
          have la := hba_15.lt
          have lb := hbb_15.lt
          have ln := hbn_15.lt
          have lg := hbg_15.lt
          have hl := hfw_15.size
          have po0 := o0.out
          have po1 := o1.out
          have po2 := o2.out
          have po3 := o3.out
          have po4 := o4.out
          have po5 := o5.out
          refine wp_world (fun W => Fr noB w W ∧ Bx W w.heap.size v ∧ Bl W w2.heap.size 0 0 0 ∧ Bx W w6.heap.size A.1 ∧ Bx W w8.heap.size B.1 ∧ Bl W w10.heap.size 0 0 0 ∧ Bl W w12.heap.size 0 0 0) ?_ ?_
          · refine ⟨?_, ?_, ?_, ?_, ?_, ?_, ?_⟩ <;> ((first | unfold Bx | unfold Bl | skip); repeat (first | with_reducible exact hfw_15 | with_reducible refine Fr.alloc ?_ _ | (with_reducible refine Fr.setCell ?_ ?_ _; rotate_left; (intro h; dsimp only at h; omega)) | with_reducible refine Fr.drew ?_ | with_reducible exact hbv_15.raw | with_reducible exact hbu_15.raw | with_reducible exact hba_15.raw | with_reducible exact hbb_15.raw | with_reducible exact hbn_15.raw | with_reducible exact hbg_15.raw | (with_reducible refine obj_alloc_at ?_; simp; done) | (with_reducible apply obj_put4; omega) | (with_reducible apply obj_put1; omega) | (with_reducible refine obj_setCell_other ?_ _ _ ?_; rotate_left; (dsimp only; omega)) | with_reducible refine obj_alloc ?_ _ | with_reducible refine obj_drew ?_ | exact hfw_15))
          clear hbv_15 hbu_15 hba_15 hbb_15 hbn_15 hbg_15 lv lu la lb ln lg hl po0 po1 po2 po3 po4 po5 cv_0 cv_1 cv_2 cv_3 zv cu_0 cu_1 cu_2 cu_3 zu ca_0 ca_1 ca_2 ca_3 za cb_0 cb_1 cb_2 cb_3 zb cn_0 cn_1 cn_2 cn_3 zn cg_0 cg_1 cg_2 cg_3 zg hfw_15
          rintro w16 ⟨hfw_16, hbv_16, hbu_16, hba_16, hbb_16, hbn_16, hbg_16⟩
          obtain ⟨cv_0, cv_1, cv_2, cv_3, zv⟩ := hbv_16.cs
          obtain ⟨cu_0, cu_1, cu_2, cu_3, zu⟩ := hbu_16.cs
          obtain ⟨ca_0, ca_1, ca_2, ca_3, za⟩ := hba_16.cs
          obtain ⟨cb_0, cb_1, cb_2, cb_3, zb⟩ := hbb_16.cs
          obtain ⟨cn_0, cn_1, cn_2, cn_3, zn⟩ := hbn_16.cs
          obtain ⟨cg_0, cg_1, cg_2, cg_3, zg⟩ := hbg_16.cs
          have EA0x := EA0.out
          have EAzx := EAz.out
          have EB1x := EB1.out
          have EBzx := EBz.out
          have xv0 := Ext.cell cv_0
          have xv1 := Ext.cell cv_1
          have xv2 := Ext.cell cv_2
          have xv3 := Ext.cell cv_3
          have xu0 := Ext.cell cu_0
          have xu1 := Ext.cell cu_1
          have xu2 := Ext.cell cu_2
          have xu3 := Ext.cell cu_3
          have xa0 := Ext.cell ca_0
          have xa1 := Ext.cell ca_1
          have xa2 := Ext.cell ca_2
          have xa3 := Ext.cell ca_3
          have xb0 := Ext.cell cb_0
          have xb1 := Ext.cell cb_1
          have xb2 := Ext.cell cb_2
          have xb3 := Ext.cell cb_3
          have xn0 := Ext.cell cn_0
          have xn1 := Ext.cell cn_1
          have xn2 := Ext.cell cn_2
          have xn3 := Ext.cell cn_3
          have xg0 := Ext.cell cg_0
          have xg1 := Ext.cell cg_1
          have xg2 := Ext.cell cg_2
          have xg3 := Ext.cell cg_3
          clear cv_0 cv_1 cv_2 cv_3 zv cu_0 cu_1 cu_2 cu_3 zu ca_0 ca_1 ca_2 ca_3 za cb_0 cb_1 cb_2 cb_3 zb cn_0 cn_1 cn_2 cn_3 zn cg_0 cg_1 cg_2 cg_3 zg
          refine wp_region_ext (by kernel_rfl) (by kernel_rfl) ?_
          repeat (go_big_quiet_step ((first | (go_at_call 25; first | exact Ext.calls (HO0.out _) | exact Ext.calls (HO1.out _)) | (go_at_call 18; exact Ext.calls (HY.out _)))))
          refine wpQuiet_nil ?_
          rintro _ ⟨⟨w17, hf17⟩, rfl⟩
          clear xv0 xv1 xv2 xv3 xu0 xu1 xu2 xu3 xa0 xa1 xa2 xa3 xb0 xb1 xb2 xb3 xn0 xn1 xn2 xn3 xg0 xg1 xg2 xg3 EA0x EAzx EB1x EBzx
          have hbv_18 := hbv_16.mv hf17
          have hbu_18 := hbu_16.mv hf17
          have hba_18 := hba_16.mv hf17
          have hbb_18 := hbb_16.mv hf17
          have hbn_18 := hbn_16.mv hf17
          have hbg_18 := hbg_16.mv hf17
          have hfw_18 := hfw_16.transN hf17
          clear hbv_16 hbu_16 hba_16 hbb_16 hbn_16 hbg_16 hf17 hfw_16
          obtain ⟨cv_0, cv_1, cv_2, cv_3, zv⟩ := hbv_18.cs
          obtain ⟨cu_0, cu_1, cu_2, cu_3, zu⟩ := hbu_18.cs
          obtain ⟨ca_0, ca_1, ca_2, ca_3, za⟩ := hba_18.cs
          obtain ⟨cb_0, cb_1, cb_2, cb_3, zb⟩ := hbb_18.cs
          obtain ⟨cn_0, cn_1, cn_2, cn_3, zn⟩ := hbn_18.cs
          obtain ⟨cg_0, cg_1, cg_2, cg_3, zg⟩ := hbg_18.cs
          go_wp2_with fail
          have lv := hbv_18.lt
          have lu := hbu_18.lt
          have la := hba_18.lt
          have lb := hbb_18.lt
          have ln := hbn_18.lt
          have lg := hbg_18.lt
          have hl := hfw_18.size
          have po0 := o0.out
          have po1 := o1.out
          have po2 := o2.out
          have po3 := o3.out
          have po4 := o4.out
          have po5 := o5.out
          go_ret
          refine ⟨?_, ?_⟩
          · rfl
          · skip
            repeat (first | with_reducible exact hfw_18 | with_reducible refine Fr.alloc ?_ _ | (with_reducible refine Fr.setCell ?_ ?_ _; rotate_left; (intro h; dsimp only at h; omega)) | with_reducible refine Fr.drew ?_ | exact hfw_18)
        · have ja : A = (zV, 0) := by rw [← HJA.out, joinV, ka, show areB 2 zV = true from rfl, show isB zV false = false from rfl, isB, k2, ky, nullB, k0]; rfl
          have jb : B = (yesV, 0) := by rw [← HJB.out]; unfold joinV; rw [ka, show areB 2 zV = true from rfl, show isB zV true = false from rfl, isB, k2, ky, nullB, nullB, k0]; rfl
          rw [ky] at HY
          have fA0 : (A.2 == 0) = true := by rw [ja]; rfl
          have fA60 : (A.2 == 60) = false := by rw [ja]; rfl
          have fB0 : (B.2 == 0) = true := by rw [jb]; rfl
          have fB60 : (B.2 == 60) = false := by rw [jb]; rfl
          have EA0 := Lib.hid (show ∀ W : World, (binOp .eql 23 (.agg #[.int .u8 A.1.k, .int .i64 A.1.n, .int .i64 A.1.hi, .string A.1.t]) (.agg #[.int .u8 2, .int .i64 0, .int .i64 0, .string ⟨#[]⟩])).run Try.prog W = .ok (.bool false) W from eqv_lit A.1 noV false (by rw [ja]; rfl))
          have EAz := Lib.hid (show ∀ W : World, (binOp .eql 23 (.agg #[.int .u8 A.1.k, .int .i64 A.1.n, .int .i64 A.1.hi, .string A.1.t]) (.agg #[.int .u8 0, .int .i64 0, .int .i64 0, .string ⟨#[]⟩])).run Try.prog W = .ok (.bool true) W from eqv_lit A.1 zV true (by rw [ja]; exact (eqV_iff _ _).2 rfl))
          have EB1 := Lib.hid (show ∀ W : World, (binOp .eql 23 (.agg #[.int .u8 B.1.k, .int .i64 B.1.n, .int .i64 B.1.hi, .string B.1.t]) (.agg #[.int .u8 2, .int .i64 1, .int .i64 0, .string ⟨#[]⟩])).run Try.prog W = .ok (.bool true) W from eqv_lit B.1 yesV true (by rw [jb]; exact (eqV_iff _ _).2 rfl))
          have EBz := Lib.hid (show ∀ W : World, (binOp .eql 23 (.agg #[.int .u8 B.1.k, .int .i64 B.1.n, .int .i64 B.1.hi, .string B.1.t]) (.agg #[.int .u8 0, .int .i64 0, .int .i64 0, .string ⟨#[]⟩])).run Try.prog W = .ok (.bool false) W from eqv_lit B.1 zV false (by rw [jb]; rfl))
          have f0 : (v.k != 0) = true := by simpa using k0
          have f2 : (v.k != 2) = false := by simpa using k2
          clear ja jb ky ka
          go_wp2_with fail
          refine (HY.out _).mono ?_
          rintro e w16 ⟨rfl, hf16⟩
          have lv := hbv_15.lt
          have lu := hbu_15.lt
          have la := hba_15.lt
          have lb := hbb_15.lt
          have ln := hbn_15.lt
          have lg := hbg_15.lt
          have hl := hfw_15.size
          have po0 := o0.out
          have po1 := o1.out
          have po2 := o2.out
          have po3 := o3.out
          have po4 := o4.out
          have po5 := o5.out
          have hB : Bx w16 w.heap.size v ∧ Bl w16 w2.heap.size 0 0 0 ∧ Bx w16 w6.heap.size A.1 ∧ Bx w16 w8.heap.size B.1 ∧ Bl w16 w10.heap.size 0 0 0 ∧ Bl w16 w12.heap.size 0 0 0 := by
            refine ⟨?_, ?_, ?_, ?_, ?_, ?_⟩ <;> ((first | unfold Bx | unfold Bl | skip); refine hf16.obj (noB_not _) ?_; repeat (first | with_reducible exact hbv_15.raw | with_reducible exact hbu_15.raw | with_reducible exact hba_15.raw | with_reducible exact hbb_15.raw | with_reducible exact hbn_15.raw | with_reducible exact hbg_15.raw | (with_reducible refine obj_alloc_at ?_; simp; done) | (with_reducible apply obj_put4; omega) | (with_reducible apply obj_put1; omega) | (with_reducible refine obj_setCell_other ?_ _ _ ?_; rotate_left; (dsimp only; omega)) | with_reducible refine obj_alloc ?_ _ | with_reducible refine obj_drew ?_))
          obtain ⟨hbv_16, hbu_16, hba_16, hbb_16, hbn_16, hbg_16⟩ := hB
          have hfw_16 : Fr noB w w16 := by
            refine Fr.transN ?_ hf16
            repeat (first | with_reducible exact hfw_15 | with_reducible refine Fr.alloc ?_ _ | (with_reducible refine Fr.setCell ?_ ?_ _; rotate_left; (intro h; dsimp only at h; omega)) | with_reducible refine Fr.drew ?_ | exact hfw_15)
          clear hbv_15 hbu_15 hba_15 hbb_15 hbn_15 hbg_15 lv lu la lb ln lg hl po0 po1 po2 po3 po4 po5 cv_0 cv_1 cv_2 cv_3 zv cu_0 cu_1 cu_2 cu_3 zu ca_0 ca_1 ca_2 ca_3 za cb_0 cb_1 cb_2 cb_3 zb cn_0 cn_1 cn_2 cn_3 zn cg_0 cg_1 cg_2 cg_3 zg hf16 hfw_15
          obtain ⟨cv_0, cv_1, cv_2, cv_3, zv⟩ := hbv_16.cs
          obtain ⟨cu_0, cu_1, cu_2, cu_3, zu⟩ := hbu_16.cs
          obtain ⟨ca_0, ca_1, ca_2, ca_3, za⟩ := hba_16.cs
          obtain ⟨cb_0, cb_1, cb_2, cb_3, zb⟩ := hbb_16.cs
          obtain ⟨cn_0, cn_1, cn_2, cn_3, zn⟩ := hbn_16.cs
          obtain ⟨cg_0, cg_1, cg_2, cg_3, zg⟩ := hbg_16.cs
          go_upto_region 21 with fail
          have lv := hbv_16.lt
          have lu := hbu_16.lt
          have la := hba_16.lt
          have lb := hbb_16.lt
          have ln := hbn_16.lt
          have lg := hbg_16.lt
          have hl := hfw_16.size
          have po0 := o0.out
          have po1 := o1.out
          have po2 := o2.out
          have po3 := o3.out
          have po4 := o4.out
          have po5 := o5.out
          refine wp_world (fun W => Fr noB w W ∧ Bx W w.heap.size v ∧ Bl W w2.heap.size 0 0 0 ∧ Bx W w6.heap.size A.1 ∧ Bx W w8.heap.size B.1 ∧ Bl W w10.heap.size 0 0 0 ∧ Bl W w12.heap.size 0 0 0) ?_ ?_
          · refine ⟨?_, ?_, ?_, ?_, ?_, ?_, ?_⟩ <;> ((first | unfold Bx | unfold Bl | skip); repeat (first | with_reducible exact hfw_16 | with_reducible refine Fr.alloc ?_ _ | (with_reducible refine Fr.setCell ?_ ?_ _; rotate_left; (intro h; dsimp only at h; omega)) | with_reducible refine Fr.drew ?_ | with_reducible exact hbv_16.raw | with_reducible exact hbu_16.raw | with_reducible exact hba_16.raw | with_reducible exact hbb_16.raw | with_reducible exact hbn_16.raw | with_reducible exact hbg_16.raw | (with_reducible refine obj_alloc_at ?_; simp; done) | (with_reducible apply obj_put4; omega) | (with_reducible apply obj_put1; omega) | (with_reducible refine obj_setCell_other ?_ _ _ ?_; rotate_left; (dsimp only; omega)) | with_reducible refine obj_alloc ?_ _ | with_reducible refine obj_drew ?_ | exact hfw_16))
          clear hbv_16 hbu_16 hba_16 hbb_16 hbn_16 hbg_16 lv lu la lb ln lg hl po0 po1 po2 po3 po4 po5 cv_0 cv_1 cv_2 cv_3 zv cu_0 cu_1 cu_2 cu_3 zu ca_0 ca_1 ca_2 ca_3 za cb_0 cb_1 cb_2 cb_3 zb cn_0 cn_1 cn_2 cn_3 zn cg_0 cg_1 cg_2 cg_3 zg hfw_16
          rintro w17 ⟨hfw_17, hbv_17, hbu_17, hba_17, hbb_17, hbn_17, hbg_17⟩
          obtain ⟨cv_0, cv_1, cv_2, cv_3, zv⟩ := hbv_17.cs
          obtain ⟨cu_0, cu_1, cu_2, cu_3, zu⟩ := hbu_17.cs
          obtain ⟨ca_0, ca_1, ca_2, ca_3, za⟩ := hba_17.cs
          obtain ⟨cb_0, cb_1, cb_2, cb_3, zb⟩ := hbb_17.cs
          obtain ⟨cn_0, cn_1, cn_2, cn_3, zn⟩ := hbn_17.cs
          obtain ⟨cg_0, cg_1, cg_2, cg_3, zg⟩ := hbg_17.cs
          have EA0x := EA0.out
          have EAzx := EAz.out
          have EB1x := EB1.out
          have EBzx := EBz.out
          have xv0 := Ext.cell cv_0
          have xv1 := Ext.cell cv_1
          have xv2 := Ext.cell cv_2
          have xv3 := Ext.cell cv_3
          have xu0 := Ext.cell cu_0
          have xu1 := Ext.cell cu_1
          have xu2 := Ext.cell cu_2
          have xu3 := Ext.cell cu_3
          have xa0 := Ext.cell ca_0
          have xa1 := Ext.cell ca_1
          have xa2 := Ext.cell ca_2
          have xa3 := Ext.cell ca_3
          have xb0 := Ext.cell cb_0
          have xb1 := Ext.cell cb_1
          have xb2 := Ext.cell cb_2
          have xb3 := Ext.cell cb_3
          have xn0 := Ext.cell cn_0
          have xn1 := Ext.cell cn_1
          have xn2 := Ext.cell cn_2
          have xn3 := Ext.cell cn_3
          have xg0 := Ext.cell cg_0
          have xg1 := Ext.cell cg_1
          have xg2 := Ext.cell cg_2
          have xg3 := Ext.cell cg_3
          clear cv_0 cv_1 cv_2 cv_3 zv cu_0 cu_1 cu_2 cu_3 zu ca_0 ca_1 ca_2 ca_3 za cb_0 cb_1 cb_2 cb_3 zb cn_0 cn_1 cn_2 cn_3 zn cg_0 cg_1 cg_2 cg_3 zg
          refine wp_region_ext (by kernel_rfl) (by kernel_rfl) ?_
          repeat (go_big_quiet_step ((first | (go_at_call 25; first | exact Ext.calls (HO0.out _) | exact Ext.calls (HO1.out _)) | (go_at_call 18; exact Ext.calls (HY.out _)))))
          refine wpQuiet_nil ?_
          rintro _ ⟨⟨w18, hf18⟩, rfl⟩
          clear xv0 xv1 xv2 xv3 xu0 xu1 xu2 xu3 xa0 xa1 xa2 xa3 xb0 xb1 xb2 xb3 xn0 xn1 xn2 xn3 xg0 xg1 xg2 xg3 EA0x EAzx EB1x EBzx
          have hbv_19 := hbv_17.mv hf18
          have hbu_19 := hbu_17.mv hf18
          have hba_19 := hba_17.mv hf18
          have hbb_19 := hbb_17.mv hf18
          have hbn_19 := hbn_17.mv hf18
          have hbg_19 := hbg_17.mv hf18
          have hfw_19 := hfw_17.transN hf18
          clear hbv_17 hbu_17 hba_17 hbb_17 hbn_17 hbg_17 hf18 hfw_17
          obtain ⟨cv_0, cv_1, cv_2, cv_3, zv⟩ := hbv_19.cs
          obtain ⟨cu_0, cu_1, cu_2, cu_3, zu⟩ := hbu_19.cs
          obtain ⟨ca_0, ca_1, ca_2, ca_3, za⟩ := hba_19.cs
          obtain ⟨cb_0, cb_1, cb_2, cb_3, zb⟩ := hbb_19.cs
          obtain ⟨cn_0, cn_1, cn_2, cn_3, zn⟩ := hbn_19.cs
          obtain ⟨cg_0, cg_1, cg_2, cg_3, zg⟩ := hbg_19.cs
          go_wp2_with fail
          have lv := hbv_19.lt
          have lu := hbu_19.lt
          have la := hba_19.lt
          have lb := hbb_19.lt
          have ln := hbn_19.lt
          have lg := hbg_19.lt
          have hl := hfw_19.size
          have po0 := o0.out
          have po1 := o1.out
          have po2 := o2.out
          have po3 := o3.out
          have po4 := o4.out
          have po5 := o5.out
          go_ret
          refine ⟨?_, ?_⟩
          · rfl
          · skip
            repeat (first | with_reducible exact hfw_19 | with_reducible refine Fr.alloc ?_ _ | (with_reducible refine Fr.setCell ?_ ?_ _; rotate_left; (intro h; dsimp only at h; omega)) | with_reducible refine Fr.drew ?_ | exact hfw_19)
        · have ja : A = (noV, 0) := by rw [← HJA.out, joinV, ka, show areB 2 zV = true from rfl, show isB zV false = false from rfl, isB, k2, ky, nullB, k0]; rfl
          have jb : B = (zV, 0) := by rw [← HJB.out]; unfold joinV; rw [ka, show areB 2 zV = true from rfl, show isB zV true = false from rfl, isB, k2, ky, nullB, nullB, k0]; rfl
          rw [ky] at HY
          have fA0 : (A.2 == 0) = true := by rw [ja]; rfl
          have fA60 : (A.2 == 60) = false := by rw [ja]; rfl
          have fB0 : (B.2 == 0) = true := by rw [jb]; rfl
          have fB60 : (B.2 == 60) = false := by rw [jb]; rfl
          have EA0 := Lib.hid (show ∀ W : World, (binOp .eql 23 (.agg #[.int .u8 A.1.k, .int .i64 A.1.n, .int .i64 A.1.hi, .string A.1.t]) (.agg #[.int .u8 2, .int .i64 0, .int .i64 0, .string ⟨#[]⟩])).run Try.prog W = .ok (.bool true) W from eqv_lit A.1 noV true (by rw [ja]; exact (eqV_iff _ _).2 rfl))
          have EAz := Lib.hid (show ∀ W : World, (binOp .eql 23 (.agg #[.int .u8 A.1.k, .int .i64 A.1.n, .int .i64 A.1.hi, .string A.1.t]) (.agg #[.int .u8 0, .int .i64 0, .int .i64 0, .string ⟨#[]⟩])).run Try.prog W = .ok (.bool false) W from eqv_lit A.1 zV false (by rw [ja]; rfl))
          have EB1 := Lib.hid (show ∀ W : World, (binOp .eql 23 (.agg #[.int .u8 B.1.k, .int .i64 B.1.n, .int .i64 B.1.hi, .string B.1.t]) (.agg #[.int .u8 2, .int .i64 1, .int .i64 0, .string ⟨#[]⟩])).run Try.prog W = .ok (.bool false) W from eqv_lit B.1 yesV false (by rw [jb]; rfl))
          have EBz := Lib.hid (show ∀ W : World, (binOp .eql 23 (.agg #[.int .u8 B.1.k, .int .i64 B.1.n, .int .i64 B.1.hi, .string B.1.t]) (.agg #[.int .u8 0, .int .i64 0, .int .i64 0, .string ⟨#[]⟩])).run Try.prog W = .ok (.bool true) W from eqv_lit B.1 zV true (by rw [jb]; exact (eqV_iff _ _).2 rfl))
          have f0 : (v.k != 0) = true := by simpa using k0
          have f2 : (v.k != 2) = false := by simpa using k2
          clear ja jb ky ka
          go_wp2_with fail
          refine (HY.out _).mono ?_
          rintro e w16 ⟨rfl, hf16⟩
          have lv := hbv_15.lt
          have lu := hbu_15.lt
          have la := hba_15.lt
          have lb := hbb_15.lt
          have ln := hbn_15.lt
          have lg := hbg_15.lt
          have hl := hfw_15.size
          have po0 := o0.out
          have po1 := o1.out
          have po2 := o2.out
          have po3 := o3.out
          have po4 := o4.out
          have po5 := o5.out
          have hB : Bx w16 w.heap.size v ∧ Bl w16 w2.heap.size 0 0 0 ∧ Bx w16 w6.heap.size A.1 ∧ Bx w16 w8.heap.size B.1 ∧ Bl w16 w10.heap.size 0 0 0 ∧ Bl w16 w12.heap.size 0 0 0 := by
            refine ⟨?_, ?_, ?_, ?_, ?_, ?_⟩ <;> ((first | unfold Bx | unfold Bl | skip); refine hf16.obj (noB_not _) ?_; repeat (first | with_reducible exact hbv_15.raw | with_reducible exact hbu_15.raw | with_reducible exact hba_15.raw | with_reducible exact hbb_15.raw | with_reducible exact hbn_15.raw | with_reducible exact hbg_15.raw | (with_reducible refine obj_alloc_at ?_; simp; done) | (with_reducible apply obj_put4; omega) | (with_reducible apply obj_put1; omega) | (with_reducible refine obj_setCell_other ?_ _ _ ?_; rotate_left; (dsimp only; omega)) | with_reducible refine obj_alloc ?_ _ | with_reducible refine obj_drew ?_))
          obtain ⟨hbv_16, hbu_16, hba_16, hbb_16, hbn_16, hbg_16⟩ := hB
          have hfw_16 : Fr noB w w16 := by
            refine Fr.transN ?_ hf16
            repeat (first | with_reducible exact hfw_15 | with_reducible refine Fr.alloc ?_ _ | (with_reducible refine Fr.setCell ?_ ?_ _; rotate_left; (intro h; dsimp only at h; omega)) | with_reducible refine Fr.drew ?_ | exact hfw_15)
          clear hbv_15 hbu_15 hba_15 hbb_15 hbn_15 hbg_15 lv lu la lb ln lg hl po0 po1 po2 po3 po4 po5 cv_0 cv_1 cv_2 cv_3 zv cu_0 cu_1 cu_2 cu_3 zu ca_0 ca_1 ca_2 ca_3 za cb_0 cb_1 cb_2 cb_3 zb cn_0 cn_1 cn_2 cn_3 zn cg_0 cg_1 cg_2 cg_3 zg hf16 hfw_15
          obtain ⟨cv_0, cv_1, cv_2, cv_3, zv⟩ := hbv_16.cs
          obtain ⟨cu_0, cu_1, cu_2, cu_3, zu⟩ := hbu_16.cs
          obtain ⟨ca_0, ca_1, ca_2, ca_3, za⟩ := hba_16.cs
          obtain ⟨cb_0, cb_1, cb_2, cb_3, zb⟩ := hbb_16.cs
          obtain ⟨cn_0, cn_1, cn_2, cn_3, zn⟩ := hbn_16.cs
          obtain ⟨cg_0, cg_1, cg_2, cg_3, zg⟩ := hbg_16.cs
          go_upto_region 21 with fail
          have lv := hbv_16.lt
          have lu := hbu_16.lt
          have la := hba_16.lt
          have lb := hbb_16.lt
          have ln := hbn_16.lt
          have lg := hbg_16.lt
          have hl := hfw_16.size
          have po0 := o0.out
          have po1 := o1.out
          have po2 := o2.out
          have po3 := o3.out
          have po4 := o4.out
          have po5 := o5.out
          refine wp_world (fun W => Fr noB w W ∧ Bx W w.heap.size v ∧ Bl W w2.heap.size 0 0 0 ∧ Bx W w6.heap.size A.1 ∧ Bx W w8.heap.size B.1 ∧ Bl W w10.heap.size 0 0 0 ∧ Bl W w12.heap.size 0 0 0) ?_ ?_
          · refine ⟨?_, ?_, ?_, ?_, ?_, ?_, ?_⟩ <;> ((first | unfold Bx | unfold Bl | skip); repeat (first | with_reducible exact hfw_16 | with_reducible refine Fr.alloc ?_ _ | (with_reducible refine Fr.setCell ?_ ?_ _; rotate_left; (intro h; dsimp only at h; omega)) | with_reducible refine Fr.drew ?_ | with_reducible exact hbv_16.raw | with_reducible exact hbu_16.raw | with_reducible exact hba_16.raw | with_reducible exact hbb_16.raw | with_reducible exact hbn_16.raw | with_reducible exact hbg_16.raw | (with_reducible refine obj_alloc_at ?_; simp; done) | (with_reducible apply obj_put4; omega) | (with_reducible apply obj_put1; omega) | (with_reducible refine obj_setCell_other ?_ _ _ ?_; rotate_left; (dsimp only; omega)) | with_reducible refine obj_alloc ?_ _ | with_reducible refine obj_drew ?_ | exact hfw_16))
          clear hbv_16 hbu_16 hba_16 hbb_16 hbn_16 hbg_16 lv lu la lb ln lg hl po0 po1 po2 po3 po4 po5 cv_0 cv_1 cv_2 cv_3 zv cu_0 cu_1 cu_2 cu_3 zu ca_0 ca_1 ca_2 ca_3 za cb_0 cb_1 cb_2 cb_3 zb cn_0 cn_1 cn_2 cn_3 zn cg_0 cg_1 cg_2 cg_3 zg hfw_16
          rintro w17 ⟨hfw_17, hbv_17, hbu_17, hba_17, hbb_17, hbn_17, hbg_17⟩
          obtain ⟨cv_0, cv_1, cv_2, cv_3, zv⟩ := hbv_17.cs
          obtain ⟨cu_0, cu_1, cu_2, cu_3, zu⟩ := hbu_17.cs
          obtain ⟨ca_0, ca_1, ca_2, ca_3, za⟩ := hba_17.cs
          obtain ⟨cb_0, cb_1, cb_2, cb_3, zb⟩ := hbb_17.cs
          obtain ⟨cn_0, cn_1, cn_2, cn_3, zn⟩ := hbn_17.cs
          obtain ⟨cg_0, cg_1, cg_2, cg_3, zg⟩ := hbg_17.cs
          have EA0x := EA0.out
          have EAzx := EAz.out
          have EB1x := EB1.out
          have EBzx := EBz.out
          have xv0 := Ext.cell cv_0
          have xv1 := Ext.cell cv_1
          have xv2 := Ext.cell cv_2
          have xv3 := Ext.cell cv_3
          have xu0 := Ext.cell cu_0
          have xu1 := Ext.cell cu_1
          have xu2 := Ext.cell cu_2
          have xu3 := Ext.cell cu_3
          have xa0 := Ext.cell ca_0
          have xa1 := Ext.cell ca_1
          have xa2 := Ext.cell ca_2
          have xa3 := Ext.cell ca_3
          have xb0 := Ext.cell cb_0
          have xb1 := Ext.cell cb_1
          have xb2 := Ext.cell cb_2
          have xb3 := Ext.cell cb_3
          have xn0 := Ext.cell cn_0
          have xn1 := Ext.cell cn_1
          have xn2 := Ext.cell cn_2
          have xn3 := Ext.cell cn_3
          have xg0 := Ext.cell cg_0
          have xg1 := Ext.cell cg_1
          have xg2 := Ext.cell cg_2
          have xg3 := Ext.cell cg_3
          clear cv_0 cv_1 cv_2 cv_3 zv cu_0 cu_1 cu_2 cu_3 zu ca_0 ca_1 ca_2 ca_3 za cb_0 cb_1 cb_2 cb_3 zb cn_0 cn_1 cn_2 cn_3 zn cg_0 cg_1 cg_2 cg_3 zg
          refine wp_region_ext (by kernel_rfl) (by kernel_rfl) ?_
          repeat (go_big_quiet_step ((first | (go_at_call 25; first | exact Ext.calls (HO0.out _) | exact Ext.calls (HO1.out _)) | (go_at_call 18; exact Ext.calls (HY.out _)))))
          refine wpQuiet_nil ?_
          rintro _ ⟨⟨w18, hf18⟩, rfl⟩
          clear xv0 xv1 xv2 xv3 xu0 xu1 xu2 xu3 xa0 xa1 xa2 xa3 xb0 xb1 xb2 xb3 xn0 xn1 xn2 xn3 xg0 xg1 xg2 xg3 EA0x EAzx EB1x EBzx
          have hbv_19 := hbv_17.mv hf18
          have hbu_19 := hbu_17.mv hf18
          have hba_19 := hba_17.mv hf18
          have hbb_19 := hbb_17.mv hf18
          have hbn_19 := hbn_17.mv hf18
          have hbg_19 := hbg_17.mv hf18
          have hfw_19 := hfw_17.transN hf18
          clear hbv_17 hbu_17 hba_17 hbb_17 hbn_17 hbg_17 hf18 hfw_17
          obtain ⟨cv_0, cv_1, cv_2, cv_3, zv⟩ := hbv_19.cs
          obtain ⟨cu_0, cu_1, cu_2, cu_3, zu⟩ := hbu_19.cs
          obtain ⟨ca_0, ca_1, ca_2, ca_3, za⟩ := hba_19.cs
          obtain ⟨cb_0, cb_1, cb_2, cb_3, zb⟩ := hbb_19.cs
          obtain ⟨cn_0, cn_1, cn_2, cn_3, zn⟩ := hbn_19.cs
          obtain ⟨cg_0, cg_1, cg_2, cg_3, zg⟩ := hbg_19.cs
          go_wp2_with fail
          have lv := hbv_19.lt
          have lu := hbu_19.lt
          have la := hba_19.lt
          have lb := hbb_19.lt
          have ln := hbn_19.lt
          have lg := hbg_19.lt
          have hl := hfw_19.size
          have po0 := o0.out
          have po1 := o1.out
          have po2 := o2.out
          have po3 := o3.out
          have po4 := o4.out
          have po5 := o5.out
          go_ret
          refine ⟨?_, ?_⟩
          · rfl
          · skip
            repeat (first | with_reducible exact hfw_19 | with_reducible refine Fr.alloc ?_ _ | (with_reducible refine Fr.setCell ?_ ?_ _; rotate_left; (intro h; dsimp only at h; omega)) | with_reducible refine Fr.drew ?_ | exact hfw_19)
        · have ja : A = (zV, 60) := by rw [← HJA.out, joinV, ka]; rfl
          have jb : B = (zV, 60) := by rw [← HJB.out, joinV, ka, Bool.and_false]; rfl
          rw [ky] at HY
          have fA0 : (A.2 == 0) = false := by rw [ja]; rfl
          have fA60 : (A.2 == 60) = true := by rw [ja]; rfl
          have fB0 : (B.2 == 0) = false := by rw [jb]; rfl
          have fB60 : (B.2 == 60) = true := by rw [jb]; rfl
          have EA0 := Lib.hid (show ∀ W : World, (binOp .eql 23 (.agg #[.int .u8 A.1.k, .int .i64 A.1.n, .int .i64 A.1.hi, .string A.1.t]) (.agg #[.int .u8 2, .int .i64 0, .int .i64 0, .string ⟨#[]⟩])).run Try.prog W = .ok (.bool false) W from eqv_lit A.1 noV false (by rw [ja]; rfl))
          have EAz := Lib.hid (show ∀ W : World, (binOp .eql 23 (.agg #[.int .u8 A.1.k, .int .i64 A.1.n, .int .i64 A.1.hi, .string A.1.t]) (.agg #[.int .u8 0, .int .i64 0, .int .i64 0, .string ⟨#[]⟩])).run Try.prog W = .ok (.bool true) W from eqv_lit A.1 zV true (by rw [ja]; exact (eqV_iff _ _).2 rfl))
          have EB1 := Lib.hid (show ∀ W : World, (binOp .eql 23 (.agg #[.int .u8 B.1.k, .int .i64 B.1.n, .int .i64 B.1.hi, .string B.1.t]) (.agg #[.int .u8 2, .int .i64 1, .int .i64 0, .string ⟨#[]⟩])).run Try.prog W = .ok (.bool false) W from eqv_lit B.1 yesV false (by rw [jb]; rfl))
          have EBz := Lib.hid (show ∀ W : World, (binOp .eql 23 (.agg #[.int .u8 B.1.k, .int .i64 B.1.n, .int .i64 B.1.hi, .string B.1.t]) (.agg #[.int .u8 0, .int .i64 0, .int .i64 0, .string ⟨#[]⟩])).run Try.prog W = .ok (.bool true) W from eqv_lit B.1 zV true (by rw [jb]; exact (eqV_iff _ _).2 rfl))
          have f0 : (v.k != 0) = true := by simpa using k0
          have f2 : (v.k != 2) = true := by simpa using k2
          clear ja jb ky ka
          go_wp2_with fail
          have lv := hbv_15.lt
          have lu := hbu_15.lt
          have la := hba_15.lt
          have lb := hbb_15.lt
          have ln := hbn_15.lt
          have lg := hbg_15.lt
          have hl := hfw_15.size
          have po0 := o0.out
          have po1 := o1.out
          have po2 := o2.out
          have po3 := o3.out
          have po4 := o4.out
          have po5 := o5.out
          go_ret
          refine ⟨?_, ?_⟩
          · rfl
          · skip
            repeat (first | with_reducible exact hfw_15 | with_reducible refine Fr.alloc ?_ _ | (with_reducible refine Fr.setCell ?_ ?_ _; rotate_left; (intro h; dsimp only at h; omega)) | with_reducible refine Fr.drew ?_ | exact hfw_15)


theorem logicNull_walk (v : V) (w : World) (hv : VOk v) :
    Calls Try.prog 8 #[vV v] w fun e w' => e = .returned (.bool true) ∧ Fr noB w w' := null_law v hv.n w

end Go.Proofs.Ytcncjghcnofioaa
