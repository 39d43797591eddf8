/- The walk of LogicLaws. No condition. -/
import Derived.Test.YtcncjghcnofioaaAwake
import Derived.Test.YtcncjghcnofioaaLex
namespace Go.Proofs.Ytcncjghcnofioaa
open Go.RowKit

/-- One of three. -/
def triV (z : Int) : V := if z % 3 = 0 then noV else if z % 3 = 1 then yesV else zV
theorem tri_cells {w : World} {g : Nat} {t : TypeId} (h : w.heap[g]? = some (.cells #[.int .u8 2, .int .i64 0, .int .i64 0, .string ⟨#[]⟩, .int .u8 2, .int .i64 1, .int .i64 0, .string ⟨#[]⟩, .int .u8 0, .int .i64 0, .int .i64 0, .string ⟨#[]⟩] t (0, 0))) (z : Int) (_hz : 0 ≤ z) :
    w.cell? ⟨g, (z % 3).toNat * 4, none⟩ = some (.int .u8 (triV z).k) ∧ w.cell? ⟨g, (z % 3).toNat * 4 + 1, none⟩ = some (.int .i64 (triV z).n) ∧ w.cell? ⟨g, (z % 3).toNat * 4 + 2, none⟩ = some (.int .i64 (triV z).hi) ∧ w.cell? ⟨g, (z % 3).toNat * 4 + 3, none⟩ = some (.string (triV z).t) := by
  have h3 : z % 3 = 0 ∨ z % 3 = 1 ∨ z % 3 = 2 := by omega
  unfold triV
  rcases h3 with e | e | e <;> (rw [e]; refine ⟨?_, ?_, ?_, ?_⟩ <;> (rw [cell_of_obj h]; rfl))

theorem laws_eqs (x y z : Int) (_hx : 0 ≤ x) (_hy : 0 ≤ y) (_hz : 0 ≤ z) : eqV (notF (notF (triV x))) (triV x) = true ∧ eqV (andF (triV x) (triV y)) (andF (triV y) (triV x)) = true ∧ eqV (orF (triV x) (triV y)) (orF (triV y) (triV x)) = true ∧ eqV (andF (andF (triV x) (triV y)) (triV z)) (andF (triV x) (andF (triV y) (triV z))) = true ∧ eqV (orF (orF (triV x) (triV y)) (triV z)) (orF (triV x) (orF (triV y) (triV z))) = true ∧ eqV (notF (andF (triV x) (triV y))) (orF (notF (triV x)) (notF (triV y))) = true ∧ eqV (notF (orF (triV x) (triV y))) (andF (notF (triV x)) (notF (triV y))) = true ∧ eqV (andF (triV x) (orF (triV y) (triV z))) (orF (andF (triV x) (triV y)) (andF (triV x) (triV z))) = true ∧ eqV (andF (triV x) (orF (triV x) (triV y))) (triV x) = true := by
  have h1 : x % 3 = 0 ∨ x % 3 = 1 ∨ x % 3 = 2 := by omega
  have h2 : y % 3 = 0 ∨ y % 3 = 1 ∨ y % 3 = 2 := by omega
  have h3 : z % 3 = 0 ∨ z % 3 = 1 ∨ z % 3 = 2 := by omega
  have a0 : ∀ v : Int, v % 3 = 0 → triV v = noV := fun v h => by unfold triV; rw [if_pos h]
  have a1 : ∀ v : Int, v % 3 = 1 → triV v = yesV := fun v h => by unfold triV; rw [if_neg (by omega), if_pos h]
  have a2 : ∀ v : Int, v % 3 = 2 → triV v = zV := fun v h => by unfold triV; rw [if_neg (by omega), if_neg (by omega)]
  have b1 : triV x = noV ∨ triV x = yesV ∨ triV x = zV := h1.imp (a0 x) (Or.imp (a1 x) (a2 x))
  have b2 : triV y = noV ∨ triV y = yesV ∨ triV y = zV := h2.imp (a0 y) (Or.imp (a1 y) (a2 y))
  have b3 : triV z = noV ∨ triV z = yesV ∨ triV z = zV := h3.imp (a0 z) (Or.imp (a1 z) (a2 z))
  clear a0 a1 a2 h1 h2 h3
  rcases b1 with e1 | e1 | e1 <;> rcases b2 with e2 | e2 | e2 <;> rcases b3 with e3 | e3 | e3 <;> (rw [e1, e2, e3]; exact ⟨(eqV_iff _ _).2 rfl, (eqV_iff _ _).2 rfl, (eqV_iff _ _).2 rfl, (eqV_iff _ _).2 rfl, (eqV_iff _ _).2 rfl, (eqV_iff _ _).2 rfl, (eqV_iff _ _).2 rfl, (eqV_iff _ _).2 rfl, (eqV_iff _ _).2 rfl⟩)

set_option maxRecDepth 100000 in
set_option maxHeartbeats 4000000 in
theorem laws_any (x y z : Int) (hx : 0 ≤ x ∧ x ≤ 255) (hy : 0 ≤ y ∧ y ≤ 255) (hz : 0 ≤ z ∧ z ≤ 255) (w : World) :
    Calls Try.prog 5 #[.int .u8 x, .int .u8 y, .int .u8 z] w fun e w' => e = .returned (.bool true) ∧ Fr noB w w' := by
  have HO0 := Lib.hid (show ∀ W : World, Calls Try.prog 25 #[.bool false] W fun e w' => e = .returned (.agg #[.int .u8 2, .int .i64 0, .int .i64 0, .string ⟨#[]⟩]) ∧ Fr noB W w' from fun W => of_any false W)
  have HO1 := Lib.hid (show ∀ W : World, Calls Try.prog 25 #[.bool true] W fun e w' => e = .returned (.agg #[.int .u8 2, .int .i64 1, .int .i64 0, .string ⟨#[]⟩]) ∧ Fr noB W w' from fun W => of_any true W)
  have HAw := Lib.hid (fun W : World => awake_any W)
  have HN := Lib.hid (show ∀ (a : V) (W : World), Calls Try.prog 26 #[.agg #[.int .u8 a.k, .int .i64 a.n, .int .i64 a.hi, .string a.t]] W fun e w' => e = .returned (.agg #[.int .u8 (notF a).k, .int .i64 (notF a).n, .int .i64 (notF a).hi, .string (notF a).t]) ∧ Fr noB W w' from fun a W => not1_any a W)
  have HA := Lib.hid (show ∀ (a b : V) (W : World), Calls Try.prog 28 #[.agg #[.int .u8 a.k, .int .i64 a.n, .int .i64 a.hi, .string a.t], .agg #[.int .u8 b.k, .int .i64 b.n, .int .i64 b.hi, .string b.t]] W fun e w' => e = .returned (.agg #[.int .u8 (andF a b).k, .int .i64 (andF a b).n, .int .i64 (andF a b).hi, .string (andF a b).t]) ∧ Fr noB W w' from fun a b W => and1_any a b W)
  have HO := Lib.hid (show ∀ (a b : V) (W : World), Calls Try.prog 30 #[.agg #[.int .u8 a.k, .int .i64 a.n, .int .i64 a.hi, .string a.t], .agg #[.int .u8 b.k, .int .i64 b.n, .int .i64 b.hi, .string b.t]] W fun e w' => e = .returned (.agg #[.int .u8 (orF a b).k, .int .i64 (orF a b).n, .int .i64 (orF a b).hi, .string (orF a b).t]) ∧ Fr noB W w' from fun a b W => or1_any a b W)
  go_enter Try.func5, Try.ntmps5
  go_wp2_with fail
  have hfw_0 := Fr.refl noB w
  refine (HO0.out _).mono ?_
  rintro e w1 ⟨rfl, hf1⟩
  have hl := hfw_0.size
  have hfw_1 : Fr noB w w1 := by
    refine Fr.transN ?_ hf1
    repeat (first | with_reducible exact hfw_0 | with_reducible refine Fr.alloc ?_ _ | (with_reducible refine Fr.setCell ?_ ?_ _; rotate_left; (intro h; dsimp only at h; omega)) | with_reducible refine Fr.drew ?_ | exact hfw_0)
  clear hl hf1 hfw_0
  go_wp2_with fail
  refine (HO1.out _).mono ?_
  rintro e w2 ⟨rfl, hf2⟩
  have hl := hfw_1.size
  have hfw_2 : Fr noB w w2 := by
    refine Fr.transN ?_ hf2
    repeat (first | with_reducible exact hfw_1 | with_reducible refine Fr.alloc ?_ _ | (with_reducible refine Fr.setCell ?_ ?_ _; rotate_left; (intro h; dsimp only at h; omega)) | with_reducible refine Fr.drew ?_ | exact hfw_1)
  clear hl hf2 hfw_1
  go_upto_region 2 with fail
  have hl := hfw_2.size
  refine wp_world (fun W => Fr noB w W ∧ W.heap[w2.heap.size]? = some (.cells #[.int .u8 2, .int .i64 0, .int .i64 0, .string ⟨#[]⟩, .int .u8 2, .int .i64 1, .int .i64 0, .string ⟨#[]⟩, .int .u8 0, .int .i64 0, .int .i64 0, .string ⟨#[]⟩] 23 (0, 0))) ⟨?_, ?_⟩ ?_
  · skip
    repeat (first | with_reducible exact hfw_2 | with_reducible refine Fr.alloc ?_ _ | (with_reducible refine Fr.setCell ?_ ?_ _; rotate_left; (intro h; dsimp only at h; omega)) | with_reducible refine Fr.drew ?_ | exact hfw_2)
  · skip
    repeat (first | (with_reducible refine obj_alloc_at ?_; simp; done) | (with_reducible apply obj_put4; omega) | (with_reducible apply obj_put1; omega) | (with_reducible refine obj_setCell_other ?_ _ _ ?_; rotate_left; (dsimp only; omega)) | with_reducible refine obj_alloc ?_ _ | with_reducible refine obj_drew ?_)
  clear hl hfw_2
  rintro w3 ⟨hfw_3, hbl_3⟩
  have cl_0 : w3.cell? ⟨w2.heap.size, 0, none⟩ = some (.int .u8 2) := by rw [cell_of_obj hbl_3]; rfl
  have cl_1 : w3.cell? ⟨w2.heap.size, 1, none⟩ = some (.int .i64 0) := by rw [cell_of_obj hbl_3]; rfl
  have cl_2 : w3.cell? ⟨w2.heap.size, 2, none⟩ = some (.int .i64 0) := by rw [cell_of_obj hbl_3]; rfl
  have cl_3 : w3.cell? ⟨w2.heap.size, 3, none⟩ = some (.string ⟨#[]⟩) := by rw [cell_of_obj hbl_3]; rfl
  have cl_4 : w3.cell? ⟨w2.heap.size, 4, none⟩ = some (.int .u8 2) := by rw [cell_of_obj hbl_3]; rfl
  have cl_5 : w3.cell? ⟨w2.heap.size, 5, none⟩ = some (.int .i64 1) := by rw [cell_of_obj hbl_3]; rfl
  have cl_6 : w3.cell? ⟨w2.heap.size, 6, none⟩ = some (.int .i64 0) := by rw [cell_of_obj hbl_3]; rfl
  have cl_7 : w3.cell? ⟨w2.heap.size, 7, none⟩ = some (.string ⟨#[]⟩) := by rw [cell_of_obj hbl_3]; rfl
  have cl_8 : w3.cell? ⟨w2.heap.size, 8, none⟩ = some (.int .u8 0) := by rw [cell_of_obj hbl_3]; rfl
  have cl_9 : w3.cell? ⟨w2.heap.size, 9, none⟩ = some (.int .i64 0) := by rw [cell_of_obj hbl_3]; rfl
  have cl_10 : w3.cell? ⟨w2.heap.size, 10, none⟩ = some (.int .i64 0) := by rw [cell_of_obj hbl_3]; rfl
  have cl_11 : w3.cell? ⟨w2.heap.size, 11, none⟩ = some (.string ⟨#[]⟩) := by rw [cell_of_obj hbl_3]; rfl
  have zl := frozen_of_obj hbl_3
  have ll := obj_lt hbl_3
  have hl := hfw_3.size
  refine wp_world (fun W => Fr noB w W ∧ W.heap[w2.heap.size]? = some (.cells #[.int .u8 2, .int .i64 0, .int .i64 0, .string ⟨#[]⟩, .int .u8 2, .int .i64 1, .int .i64 0, .string ⟨#[]⟩, .int .u8 0, .int .i64 0, .int .i64 0, .string ⟨#[]⟩] 23 (0, 0))) ⟨?_, ?_⟩ ?_
  · skip
    repeat (first | with_reducible exact hfw_3 | with_reducible refine Fr.alloc ?_ _ | (with_reducible refine Fr.setCell ?_ ?_ _; rotate_left; (intro h; dsimp only at h; omega)) | with_reducible refine Fr.drew ?_ | exact hfw_3)
  · skip
    repeat (first | with_reducible exact hbl_3 | (with_reducible refine obj_alloc_at ?_; simp; done) | (with_reducible apply obj_put4; omega) | (with_reducible apply obj_put1; omega) | (with_reducible refine obj_setCell_other ?_ _ _ ?_; rotate_left; (dsimp only; omega)) | with_reducible refine obj_alloc ?_ _ | with_reducible refine obj_drew ?_ | exact hbl_3)
  clear hbl_3 ll hl cl_0 cl_1 cl_2 cl_3 cl_4 cl_5 cl_6 cl_7 cl_8 cl_9 cl_10 cl_11 zl hfw_3
  rintro w4 ⟨hfw_4, hbl_4⟩
  have cl_0 : w4.cell? ⟨w2.heap.size, 0, none⟩ = some (.int .u8 2) := by rw [cell_of_obj hbl_4]; rfl
  have cl_1 : w4.cell? ⟨w2.heap.size, 1, none⟩ = some (.int .i64 0) := by rw [cell_of_obj hbl_4]; rfl
  have cl_2 : w4.cell? ⟨w2.heap.size, 2, none⟩ = some (.int .i64 0) := by rw [cell_of_obj hbl_4]; rfl
  have cl_3 : w4.cell? ⟨w2.heap.size, 3, none⟩ = some (.string ⟨#[]⟩) := by rw [cell_of_obj hbl_4]; rfl
  have cl_4 : w4.cell? ⟨w2.heap.size, 4, none⟩ = some (.int .u8 2) := by rw [cell_of_obj hbl_4]; rfl
  have cl_5 : w4.cell? ⟨w2.heap.size, 5, none⟩ = some (.int .i64 1) := by rw [cell_of_obj hbl_4]; rfl
  have cl_6 : w4.cell? ⟨w2.heap.size, 6, none⟩ = some (.int .i64 0) := by rw [cell_of_obj hbl_4]; rfl
  have cl_7 : w4.cell? ⟨w2.heap.size, 7, none⟩ = some (.string ⟨#[]⟩) := by rw [cell_of_obj hbl_4]; rfl
  have cl_8 : w4.cell? ⟨w2.heap.size, 8, none⟩ = some (.int .u8 0) := by rw [cell_of_obj hbl_4]; rfl
  have cl_9 : w4.cell? ⟨w2.heap.size, 9, none⟩ = some (.int .i64 0) := by rw [cell_of_obj hbl_4]; rfl
  have cl_10 : w4.cell? ⟨w2.heap.size, 10, none⟩ = some (.int .i64 0) := by rw [cell_of_obj hbl_4]; rfl
  have cl_11 : w4.cell? ⟨w2.heap.size, 11, none⟩ = some (.string ⟨#[]⟩) := by rw [cell_of_obj hbl_4]; rfl
  have zl := frozen_of_obj hbl_4
  obtain ⟨tx0, tx1, tx2, tx3⟩ := tri_cells hbl_4 x hx.1
  obtain ⟨ty0, ty1, ty2, ty3⟩ := tri_cells hbl_4 y hy.1
  obtain ⟨tz0, tz1, tz2, tz3⟩ := tri_cells hbl_4 z hz.1
  have Tx0 : ∀ o : Obj, (w4.alloc o).cell? ⟨w2.heap.size, (x % 3).toNat * 4, none⟩ = some (.int .u8 ((triV x)).k) ∧ (w4.alloc o).cell? ⟨w2.heap.size, (x % 3).toNat * 4 + 1, none⟩ = some (.int .i64 ((triV x)).n) ∧ (w4.alloc o).cell? ⟨w2.heap.size, (x % 3).toNat * 4 + 2, none⟩ = some (.int .i64 ((triV x)).hi) ∧ (w4.alloc o).cell? ⟨w2.heap.size, (x % 3).toNat * 4 + 3, none⟩ = some (.string ((triV x)).t) := fun o => tri_cells (obj_alloc hbl_4 o) x hx.1
  have Tx1 : ∀ o p : Obj, ((w4.alloc o).alloc p).cell? ⟨w2.heap.size, (x % 3).toNat * 4, none⟩ = some (.int .u8 ((triV x)).k) ∧ ((w4.alloc o).alloc p).cell? ⟨w2.heap.size, (x % 3).toNat * 4 + 1, none⟩ = some (.int .i64 ((triV x)).n) ∧ ((w4.alloc o).alloc p).cell? ⟨w2.heap.size, (x % 3).toNat * 4 + 2, none⟩ = some (.int .i64 ((triV x)).hi) ∧ ((w4.alloc o).alloc p).cell? ⟨w2.heap.size, (x % 3).toNat * 4 + 3, none⟩ = some (.string ((triV x)).t) := fun o p => tri_cells (obj_alloc (obj_alloc hbl_4 o) p) x hx.1
  have Tx2 : ∀ o p q : Obj, (((w4.alloc o).alloc p).alloc q).cell? ⟨w2.heap.size, (x % 3).toNat * 4, none⟩ = some (.int .u8 ((triV x)).k) ∧ (((w4.alloc o).alloc p).alloc q).cell? ⟨w2.heap.size, (x % 3).toNat * 4 + 1, none⟩ = some (.int .i64 ((triV x)).n) ∧ (((w4.alloc o).alloc p).alloc q).cell? ⟨w2.heap.size, (x % 3).toNat * 4 + 2, none⟩ = some (.int .i64 ((triV x)).hi) ∧ (((w4.alloc o).alloc p).alloc q).cell? ⟨w2.heap.size, (x % 3).toNat * 4 + 3, none⟩ = some (.string ((triV x)).t) := fun o p q => tri_cells (obj_alloc (obj_alloc (obj_alloc hbl_4 o) p) q) x hx.1
  have Ty0 : ∀ o : Obj, (w4.alloc o).cell? ⟨w2.heap.size, (y % 3).toNat * 4, none⟩ = some (.int .u8 ((triV y)).k) ∧ (w4.alloc o).cell? ⟨w2.heap.size, (y % 3).toNat * 4 + 1, none⟩ = some (.int .i64 ((triV y)).n) ∧ (w4.alloc o).cell? ⟨w2.heap.size, (y % 3).toNat * 4 + 2, none⟩ = some (.int .i64 ((triV y)).hi) ∧ (w4.alloc o).cell? ⟨w2.heap.size, (y % 3).toNat * 4 + 3, none⟩ = some (.string ((triV y)).t) := fun o => tri_cells (obj_alloc hbl_4 o) y hy.1
  have Ty1 : ∀ o p : Obj, ((w4.alloc o).alloc p).cell? ⟨w2.heap.size, (y % 3).toNat * 4, none⟩ = some (.int .u8 ((triV y)).k) ∧ ((w4.alloc o).alloc p).cell? ⟨w2.heap.size, (y % 3).toNat * 4 + 1, none⟩ = some (.int .i64 ((triV y)).n) ∧ ((w4.alloc o).alloc p).cell? ⟨w2.heap.size, (y % 3).toNat * 4 + 2, none⟩ = some (.int .i64 ((triV y)).hi) ∧ ((w4.alloc o).alloc p).cell? ⟨w2.heap.size, (y % 3).toNat * 4 + 3, none⟩ = some (.string ((triV y)).t) := fun o p => tri_cells (obj_alloc (obj_alloc hbl_4 o) p) y hy.1
  have Ty2 : ∀ o p q : Obj, (((w4.alloc o).alloc p).alloc q).cell? ⟨w2.heap.size, (y % 3).toNat * 4, none⟩ = some (.int .u8 ((triV y)).k) ∧ (((w4.alloc o).alloc p).alloc q).cell? ⟨w2.heap.size, (y % 3).toNat * 4 + 1, none⟩ = some (.int .i64 ((triV y)).n) ∧ (((w4.alloc o).alloc p).alloc q).cell? ⟨w2.heap.size, (y % 3).toNat * 4 + 2, none⟩ = some (.int .i64 ((triV y)).hi) ∧ (((w4.alloc o).alloc p).alloc q).cell? ⟨w2.heap.size, (y % 3).toNat * 4 + 3, none⟩ = some (.string ((triV y)).t) := fun o p q => tri_cells (obj_alloc (obj_alloc (obj_alloc hbl_4 o) p) q) y hy.1
  have Tz0 : ∀ o : Obj, (w4.alloc o).cell? ⟨w2.heap.size, (z % 3).toNat * 4, none⟩ = some (.int .u8 ((triV z)).k) ∧ (w4.alloc o).cell? ⟨w2.heap.size, (z % 3).toNat * 4 + 1, none⟩ = some (.int .i64 ((triV z)).n) ∧ (w4.alloc o).cell? ⟨w2.heap.size, (z % 3).toNat * 4 + 2, none⟩ = some (.int .i64 ((triV z)).hi) ∧ (w4.alloc o).cell? ⟨w2.heap.size, (z % 3).toNat * 4 + 3, none⟩ = some (.string ((triV z)).t) := fun o => tri_cells (obj_alloc hbl_4 o) z hz.1
  have Tz1 : ∀ o p : Obj, ((w4.alloc o).alloc p).cell? ⟨w2.heap.size, (z % 3).toNat * 4, none⟩ = some (.int .u8 ((triV z)).k) ∧ ((w4.alloc o).alloc p).cell? ⟨w2.heap.size, (z % 3).toNat * 4 + 1, none⟩ = some (.int .i64 ((triV z)).n) ∧ ((w4.alloc o).alloc p).cell? ⟨w2.heap.size, (z % 3).toNat * 4 + 2, none⟩ = some (.int .i64 ((triV z)).hi) ∧ ((w4.alloc o).alloc p).cell? ⟨w2.heap.size, (z % 3).toNat * 4 + 3, none⟩ = some (.string ((triV z)).t) := fun o p => tri_cells (obj_alloc (obj_alloc hbl_4 o) p) z hz.1
  have Tz2 : ∀ o p q : Obj, (((w4.alloc o).alloc p).alloc q).cell? ⟨w2.heap.size, (z % 3).toNat * 4, none⟩ = some (.int .u8 ((triV z)).k) ∧ (((w4.alloc o).alloc p).alloc q).cell? ⟨w2.heap.size, (z % 3).toNat * 4 + 1, none⟩ = some (.int .i64 ((triV z)).n) ∧ (((w4.alloc o).alloc p).alloc q).cell? ⟨w2.heap.size, (z % 3).toNat * 4 + 2, none⟩ = some (.int .i64 ((triV z)).hi) ∧ (((w4.alloc o).alloc p).alloc q).cell? ⟨w2.heap.size, (z % 3).toNat * 4 + 3, none⟩ = some (.string ((triV z)).t) := fun o p q => tri_cells (obj_alloc (obj_alloc (obj_alloc hbl_4 o) p) q) z hz.1
  have HL := laws_eqs x y z hx.1 hy.1 hz.1
  generalize hA : triV x = A at *
  generalize hB : triV y = B at *
  generalize hC : triV z = C at *
  go_cut [8, 9, 10] (fun s8 s9 s10 wx => ∃ qa : Nat, ∃ qb : Nat, ∃ qc : Nat, s8 = .pointer (some ⟨qa, 0, none⟩) ∧ s9 = .pointer (some ⟨qb, 0, none⟩) ∧ s10 = .pointer (some ⟨qc, 0, none⟩) ∧ Fr noB w4 wx ∧ w4.heap.size ≤ qa ∧ wx.heap[qa]? = some (.cells #[.int .u8 A.k, .int .i64 A.n, .int .i64 A.hi, .string A.t] 23 (0, 0)) ∧ w4.heap.size ≤ qb ∧ wx.heap[qb]? = some (.cells #[.int .u8 B.k, .int .i64 B.n, .int .i64 B.hi, .string B.t] 23 (0, 0)) ∧ w4.heap.size ≤ qc ∧ wx.heap[qc]? = some (.cells #[.int .u8 C.k, .int .i64 C.n, .int .i64 C.hi, .string C.t] 23 (0, 0)))
  case first => as_aux_lemma =>
    go_region
    all_goals (go_wp2_with fail; go_meet)
    all_goals (have hfr0 := Fr.refl noB w4; refine ⟨_, _, _, rfl, rfl, rfl, ?_, ?_, ?_, ?_, ?_, ?_, ?_⟩)
    all_goals (first | ((repeat (first | with_reducible exact hfr0 | with_reducible refine Fr.alloc ?_ _ | (with_reducible refine Fr.setCell ?_ ?_ _; rotate_left; (intro h; dsimp only at h; omega)) | with_reducible refine Fr.drew ?_ | exact hfr0)); done) | (omega) | ((repeat (first | with_reducible exact hnn | (with_reducible refine obj_alloc_at ?_; simp; done) | (with_reducible apply obj_put4; omega) | (with_reducible refine obj_setCell_other ?_ _ _ ?_; rotate_left; (dsimp only; omega)) | with_reducible refine obj_alloc ?_ _ | with_reducible refine obj_drew ?_)); done))
  case rest =>
    obtain ⟨qa, qb, qc, rfl, rfl, rfl, hf5, hga, hba_5, hgb, hbb_5, hgc, hbc_5⟩ := hcut
    obtain ⟨w5, rfl⟩ : ∃ x, x = wc := ⟨_, rfl⟩
    have o0 := Lib.hid (obj_lt hbl_4)
    have o1 := Lib.hid hga
    have o2 := Lib.hid hgb
    have o3 := Lib.hid hgc
    have hbl_5 := hf5.obj (fun x => x) hbl_4
    have hfw_5 := hfw_4.transN hf5
    clear hbl_4 cl_0 cl_1 cl_2 cl_3 cl_4 cl_5 cl_6 cl_7 cl_8 cl_9 cl_10 cl_11 zl Tx0 Tx1 Tx2 Ty0 Ty1 Ty2 Tz0 Tz1 Tz2 tx0 tx1 tx2 tx3 ty0 ty1 ty2 ty3 tz0 tz1 tz2 tz3 hf5 hfw_4 hga hgb hgc
    have cl_0 : w5.cell? ⟨w2.heap.size, 0, none⟩ = some (.int .u8 2) := by rw [cell_of_obj hbl_5]; rfl
    have cl_1 : w5.cell? ⟨w2.heap.size, 1, none⟩ = some (.int .i64 0) := by rw [cell_of_obj hbl_5]; rfl
    have cl_2 : w5.cell? ⟨w2.heap.size, 2, none⟩ = some (.int .i64 0) := by rw [cell_of_obj hbl_5]; rfl
    have cl_3 : w5.cell? ⟨w2.heap.size, 3, none⟩ = some (.string ⟨#[]⟩) := by rw [cell_of_obj hbl_5]; rfl
    have cl_4 : w5.cell? ⟨w2.heap.size, 4, none⟩ = some (.int .u8 2) := by rw [cell_of_obj hbl_5]; rfl
    have cl_5 : w5.cell? ⟨w2.heap.size, 5, none⟩ = some (.int .i64 1) := by rw [cell_of_obj hbl_5]; rfl
    have cl_6 : w5.cell? ⟨w2.heap.size, 6, none⟩ = some (.int .i64 0) := by rw [cell_of_obj hbl_5]; rfl
    have cl_7 : w5.cell? ⟨w2.heap.size, 7, none⟩ = some (.string ⟨#[]⟩) := by rw [cell_of_obj hbl_5]; rfl
    have cl_8 : w5.cell? ⟨w2.heap.size, 8, none⟩ = some (.int .u8 0) := by rw [cell_of_obj hbl_5]; rfl
    have cl_9 : w5.cell? ⟨w2.heap.size, 9, none⟩ = some (.int .i64 0) := by rw [cell_of_obj hbl_5]; rfl
    have cl_10 : w5.cell? ⟨w2.heap.size, 10, none⟩ = some (.int .i64 0) := by rw [cell_of_obj hbl_5]; rfl
    have cl_11 : w5.cell? ⟨w2.heap.size, 11, none⟩ = some (.string ⟨#[]⟩) := by rw [cell_of_obj hbl_5]; rfl
    have zl := frozen_of_obj hbl_5
    obtain ⟨ca_0, ca_1, ca_2, ca_3⟩ := v_cells (v := A) hba_5
    have za := frozen_of_obj hba_5
    obtain ⟨cb_0, cb_1, cb_2, cb_3⟩ := v_cells (v := B) hbb_5
    have zb := frozen_of_obj hbb_5
    obtain ⟨cc_0, cc_1, cc_2, cc_3⟩ := v_cells (v := C) hbc_5
    have zc := frozen_of_obj hbc_5
    clear hA hB hC hx hy hz
    obtain ⟨e0, e1, e2, e3, e4, e5, e6, e7, e8⟩ := HL
    have HE0 := Lib.hid (show ∀ W : World, (binOp .eql 23 (.agg #[.int .u8 ((notF (notF A))).k, .int .i64 ((notF (notF A))).n, .int .i64 ((notF (notF A))).hi, .string ((notF (notF A))).t]) (.agg #[.int .u8 A.k, .int .i64 A.n, .int .i64 A.hi, .string A.t])).run Try.prog W = .ok (.bool true) W from fun W => by rw [eqv_run, e0])
    have HE1 := Lib.hid (show ∀ W : World, (binOp .eql 23 (.agg #[.int .u8 ((andF A B)).k, .int .i64 ((andF A B)).n, .int .i64 ((andF A B)).hi, .string ((andF A B)).t]) (.agg #[.int .u8 ((andF B A)).k, .int .i64 ((andF B A)).n, .int .i64 ((andF B A)).hi, .string ((andF B A)).t])).run Try.prog W = .ok (.bool true) W from fun W => by rw [eqv_run, e1])
    have HE2 := Lib.hid (show ∀ W : World, (binOp .eql 23 (.agg #[.int .u8 ((orF A B)).k, .int .i64 ((orF A B)).n, .int .i64 ((orF A B)).hi, .string ((orF A B)).t]) (.agg #[.int .u8 ((orF B A)).k, .int .i64 ((orF B A)).n, .int .i64 ((orF B A)).hi, .string ((orF B A)).t])).run Try.prog W = .ok (.bool true) W from fun W => by rw [eqv_run, e2])
    have HE3 := Lib.hid (show ∀ W : World, (binOp .eql 23 (.agg #[.int .u8 ((andF (andF A B) C)).k, .int .i64 ((andF (andF A B) C)).n, .int .i64 ((andF (andF A B) C)).hi, .string ((andF (andF A B) C)).t]) (.agg #[.int .u8 ((andF A (andF B C))).k, .int .i64 ((andF A (andF B C))).n, .int .i64 ((andF A (andF B C))).hi, .string ((andF A (andF B C))).t])).run Try.prog W = .ok (.bool true) W from fun W => by rw [eqv_run, e3])
    have HE4 := Lib.hid (show ∀ W : World, (binOp .eql 23 (.agg #[.int .u8 ((orF (orF A B) C)).k, .int .i64 ((orF (orF A B) C)).n, .int .i64 ((orF (orF A B) C)).hi, .string ((orF (orF A B) C)).t]) (.agg #[.int .u8 ((orF A (orF B C))).k, .int .i64 ((orF A (orF B C))).n, .int .i64 ((orF A (orF B C))).hi, .string ((orF A (orF B C))).t])).run Try.prog W = .ok (.bool true) W from fun W => by rw [eqv_run, e4])
    have HE5 := Lib.hid (show ∀ W : World, (binOp .eql 23 (.agg #[.int .u8 ((notF (andF A B))).k, .int .i64 ((notF (andF A B))).n, .int .i64 ((notF (andF A B))).hi, .string ((notF (andF A B))).t]) (.agg #[.int .u8 ((orF (notF A) (notF B))).k, .int .i64 ((orF (notF A) (notF B))).n, .int .i64 ((orF (notF A) (notF B))).hi, .string ((orF (notF A) (notF B))).t])).run Try.prog W = .ok (.bool true) W from fun W => by rw [eqv_run, e5])
    have HE6 := Lib.hid (show ∀ W : World, (binOp .eql 23 (.agg #[.int .u8 ((notF (orF A B))).k, .int .i64 ((notF (orF A B))).n, .int .i64 ((notF (orF A B))).hi, .string ((notF (orF A B))).t]) (.agg #[.int .u8 ((andF (notF A) (notF B))).k, .int .i64 ((andF (notF A) (notF B))).n, .int .i64 ((andF (notF A) (notF B))).hi, .string ((andF (notF A) (notF B))).t])).run Try.prog W = .ok (.bool true) W from fun W => by rw [eqv_run, e6])
    have HE7 := Lib.hid (show ∀ W : World, (binOp .eql 23 (.agg #[.int .u8 ((andF A (orF B C))).k, .int .i64 ((andF A (orF B C))).n, .int .i64 ((andF A (orF B C))).hi, .string ((andF A (orF B C))).t]) (.agg #[.int .u8 ((orF (andF A B) (andF A C))).k, .int .i64 ((orF (andF A B) (andF A C))).n, .int .i64 ((orF (andF A B) (andF A C))).hi, .string ((orF (andF A B) (andF A C))).t])).run Try.prog W = .ok (.bool true) W from fun W => by rw [eqv_run, e7])
    have HE8 := Lib.hid (show ∀ W : World, (binOp .eql 23 (.agg #[.int .u8 ((andF A (orF A B))).k, .int .i64 ((andF A (orF A B))).n, .int .i64 ((andF A (orF A B))).hi, .string ((andF A (orF A B))).t]) (.agg #[.int .u8 A.k, .int .i64 A.n, .int .i64 A.hi, .string A.t])).run Try.prog W = .ok (.bool true) W from fun W => by rw [eqv_run, e8])
    clear e0 e1 e2 e3 e4 e5 e6 e7 e8
    go_wp2_with fail
    simp only [List.append_eq, List.cons_append, List.nil_append]
    have xa0 := Ext.cell ca_0
    have xa1 := Ext.cell ca_1
    have xa2 := Ext.cell ca_2
    have xa3 := Ext.cell ca_3
    have xb0 := Ext.cell cb_0
    have xb1 := Ext.cell cb_1
    have xb2 := Ext.cell cb_2
    have xb3 := Ext.cell cb_3
    have xc0 := Ext.cell cc_0
    have xc1 := Ext.cell cc_1
    have xc2 := Ext.cell cc_2
    have xc3 := Ext.cell cc_3
    have E0 := HE0.out
    have E1 := HE1.out
    have E2 := HE2.out
    have E3 := HE3.out
    have E4 := HE4.out
    have E5 := HE5.out
    have E6 := HE6.out
    have E7 := HE7.out
    have E8 := HE8.out
    clear HE0 HE1 HE2 HE3 HE4 HE5 HE6 HE7 HE8 cl_0 cl_1 cl_2 cl_3 cl_4 cl_5 cl_6 cl_7 cl_8 cl_9 cl_10 cl_11 zl ca_0 ca_1 ca_2 ca_3 za cb_0 cb_1 cb_2 cb_3 zb cc_0 cc_1 cc_2 cc_3 zc hbl_5 hba_5 hbb_5 hbc_5
    as_aux_lemma =>
      refine wp_region_ext (by kernel_rfl) (lexB_of (by as_aux_lemma => kernel_rfl) (by as_aux_lemma => kernel_rfl)) ?_
      repeat (go_big_quiet_step ((first | (go_at_call 15; exact Ext.calls (HAw.out _)) | (go_at_call 26; exact Ext.calls (HN.out _ _)) | (go_at_call 28; exact Ext.calls (HA.out _ _ _)) | (go_at_call 30; exact Ext.calls (HO.out _ _ _)))))
      refine wpQuiet_nil ?_
      rintro w9 ⟨⟨_, hfE⟩, rfl⟩
      have hfw_9 := hfw_5.transN hfE
      go_wp2_with fail
      have hl := hfw_9.size
      have po0 := o0.out
      have po1 := o1.out
      have po2 := o2.out
      have po3 := o3.out
      go_ret
      refine ⟨?_, ?_⟩
      · rfl
      · skip
        repeat (first | with_reducible exact hfw_9 | with_reducible refine Fr.alloc ?_ _ | (with_reducible refine Fr.setCell ?_ ?_ _; rotate_left; (intro h; dsimp only at h; omega)) | with_reducible refine Fr.drew ?_ | exact hfw_9)


theorem logicLaws_walk (x y z : Int) (w : World) (hx : (Lit.int .u8 x).wf = true) (hy : (Lit.int .u8 y).wf = true) (hz : (Lit.int .u8 z).wf = true) :
    Calls Try.prog 5 #[.int .u8 x, .int .u8 y, .int .u8 z] w fun e w' => e = .returned (.bool true) ∧ Fr noB w w' := by
  simp [Lit.wf, IntKind.min, IntKind.max, IntKind.signed, IntKind.bits] at hx hy hz
  exact laws_any x y z (by omega) (by omega) (by omega) w

end Go.Proofs.Ytcncjghcnofioaa
