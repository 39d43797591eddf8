/- The walks of the closures of package logic's Add and Sub. The condition: the numbers are of 64 bits. -/
import Derived.Test.YtcncjghcnofioaaLogicN
namespace Go.Proofs.Ytcncjghcnofioaa
open Go.RowKit

/-- A number of 64 bits. -/
def okI (z : Int) : Bool := decide (-9223372036854775808 ≤ z) && decide (z ≤ 9223372036854775807)

set_option maxHeartbeats 4000000 in
theorem addc_any (x y : Int) (hx : -9223372036854775808 ≤ x ∧ x ≤ 9223372036854775807) (hy : -9223372036854775808 ≤ y ∧ y ≤ 9223372036854775807) (w : World) :
    Calls Try.prog 66 #[.int .i64 x, .int .i64 y] w fun e w' => e = .returned (.tuple #[.int .i64 (wrap64 (x + y)), .bool (okI (x + y))]) ∧ Fr noB w w' := by
  obtain ⟨hx1, hx2⟩ := hx
  obtain ⟨hy1, hy2⟩ := hy
  by_cases h : -9223372036854775808 ≤ x + y ∧ x + y ≤ 9223372036854775807
  · obtain ⟨h1, h2⟩ := h
    have HD := Lib.hid (show okI (x + y) = true by unfold okI; rw [decide_eq_true h1, decide_eq_true h2]; rfl)
    have HW := Lib.hid (show wrap64 (x + y) = x + y by unfold wrap64; omega)
    go_enter Try.func66, Try.ntmps66
    go_wp2_with fail
    go_ret2
    exact ⟨by rw [HD.out, HW.out] <;> rfl, Fr.refl _ _⟩
  · have HD := Lib.hid (show okI (x + y) = false by unfold okI; rw [← Bool.decide_and]; exact decide_eq_false h)
    by_cases hp : 0 < y
    · have h2 : 9223372036854775807 < x + y := by omega
      have hw : wrap64 (x + y) ≤ x := by unfold wrap64; omega
      have HDW := Lib.hid (show decide (x < wrap64 (x + y)) = false by rw [decide_eq_false_iff_not]; omega)
      have hyb : (y == 0) = false := by rw [beq_eq_false_iff_ne]; omega
      clear h
      go_enter Try.func66, Try.ntmps66
      go_wp2_with fail
      go_ret2
      exact ⟨by rw [HD.out, ← HDW.out] <;> rfl, Fr.refl _ _⟩
    · have h2 : x + y < -9223372036854775808 := by omega
      have hw : x < wrap64 (x + y) := by unfold wrap64; omega
      have hyb : (y == 0) = false := by rw [beq_eq_false_iff_ne]; omega
      clear h
      go_enter Try.func66, Try.ntmps66
      go_wp2_with fail
      go_ret2
      exact ⟨by rw [HD.out] <;> rfl, Fr.refl _ _⟩

set_option maxHeartbeats 4000000 in
theorem subc_any (x y : Int) (hx : -9223372036854775808 ≤ x ∧ x ≤ 9223372036854775807) (hy : -9223372036854775808 ≤ y ∧ y ≤ 9223372036854775807) (w : World) :
    Calls Try.prog 67 #[.int .i64 x, .int .i64 y] w fun e w' => e = .returned (.tuple #[.int .i64 (wrap64 (x - y)), .bool (okI (x - y))]) ∧ Fr noB w w' := by
  obtain ⟨hx1, hx2⟩ := hx
  obtain ⟨hy1, hy2⟩ := hy
  by_cases h : -9223372036854775808 ≤ x - y ∧ x - y ≤ 9223372036854775807
  · obtain ⟨h1, h2⟩ := h
    have HD := Lib.hid (show okI (x - y) = true by unfold okI; rw [decide_eq_true h1, decide_eq_true h2]; rfl)
    have HW := Lib.hid (show wrap64 (x - y) = x - y by unfold wrap64; omega)
    go_enter Try.func67, Try.ntmps67
    go_wp2_with fail
    go_ret2
    exact ⟨by rw [HD.out, HW.out] <;> rfl, Fr.refl _ _⟩
  · have HD := Lib.hid (show okI (x - y) = false by unfold okI; rw [← Bool.decide_and]; exact decide_eq_false h)
    by_cases hp : 0 < y
    · have h2 : x - y < -9223372036854775808 := by omega
      have hw : x ≤ wrap64 (x - y) := by unfold wrap64; omega
      have HDW := Lib.hid (show decide (wrap64 (x - y) < x) = false by rw [decide_eq_false_iff_not]; omega)
      have hyb : (y == 0) = false := by rw [beq_eq_false_iff_ne]; omega
      clear h
      go_enter Try.func67, Try.ntmps67
      go_wp2_with fail
      go_ret2
      exact ⟨by rw [HD.out, ← HDW.out] <;> rfl, Fr.refl _ _⟩
    · have h2 : 9223372036854775807 < x - y := by omega
      have hw : wrap64 (x - y) < x := by unfold wrap64; omega
      have hyb : (y == 0) = false := by rw [beq_eq_false_iff_ne]; omega
      clear h
      go_enter Try.func67, Try.ntmps67
      go_wp2_with fail
      go_ret2
      exact ⟨by rw [HD.out] <;> rfl, Fr.refl _ _⟩

set_option maxRecDepth 100000 in
set_option maxHeartbeats 4000000 in
theorem add_any (a b : V) (ha : -9223372036854775808 ≤ a.n ∧ a.n ≤ 9223372036854775807) (hb : -9223372036854775808 ≤ b.n ∧ b.n ≤ 9223372036854775807) (w : World) :
    Calls Try.prog 21 #[vV a, vV b] w fun e w' => e = .returned (.tuple #[vV (numV a b (wrap64 (a.n + b.n)) (okI (a.n + b.n))).1, .int .i64 (numV a b (wrap64 (a.n + b.n)) (okI (a.n + b.n))).2]) ∧ Fr noB w w' := by
  obtain ⟨hb0, hb1, hb3, hsz⟩ := trio_new w (.cells #[.int .u8 a.k, .int .i64 a.n, .int .i64 a.hi, .string a.t] 23) (.cells #[.int .u8 b.k, .int .i64 b.n, .int .i64 b.hi, .string b.t] 23) (.cells #[.int .u8 0, .int .i64 0, .int .i64 0, .string ⟨#[]⟩] 23)
  have hfw : Fr noB w (((w.alloc (.cells #[.int .u8 a.k, .int .i64 a.n, .int .i64 a.hi, .string a.t] 23)).alloc (.cells #[.int .u8 b.k, .int .i64 b.n, .int .i64 b.hi, .string b.t] 23)).alloc (.cells #[.int .u8 0, .int .i64 0, .int .i64 0, .string ⟨#[]⟩] 23)) := (((Fr.refl _ _).alloc _).alloc _).alloc _
  have hj : ∀ W : World, Calls Try.prog 65 #[vV a, vV b, .func (.func 66) #[] #[]] W fun e w' => e = .returned (.tuple #[vV (numV a b (wrap64 (a.n + b.n)) (okI (a.n + b.n))).1, .int .i64 (numV a b (wrap64 (a.n + b.n)) (okI (a.n + b.n))).2]) ∧ Fr noB W w' :=
    number_add a b _ _ (fun W => addc_any a.n b.n ha hb W)
  generalize numV a b (wrap64 (a.n + b.n)) (okI (a.n + b.n)) = r at *
  unfold vV at hj ⊢
  go_enter Try.func21, Try.ntmps21
  go_upto_region 1 with fail
  generalize (((w.alloc (.cells #[.int .u8 a.k, .int .i64 a.n, .int .i64 a.hi, .string a.t] 23)).alloc (.cells #[.int .u8 b.k, .int .i64 b.n, .int .i64 b.hi, .string b.t] 23)).alloc (.cells #[.int .u8 0, .int .i64 0, .int .i64 0, .string ⟨#[]⟩] 23)) = W0 at *
  obtain ⟨c0, c1, c2, c3⟩ := v_cells hb0
  obtain ⟨d0, d1, d2, d3⟩ := v_cells hb1
  have HJ := Lib.hid hj
  clear hj
  go_wp2_with fail
  refine (HJ.out _).mono ?_
  rintro e w1 ⟨rfl, hf1⟩
  have hb3 := hf1.obj (fun x => x) hb3
  have hz := frozen_of_obj hb3
  obtain ⟨z0, z1, z2, z3⟩ := v_cells (v := zV) hb3
  have hfw := hfw.trans hf1
  go_wp2_with fail
  refine bodyPost_ret (ret_val2 rfl _ _ (w.heap.size + 2) r.1 _ rfl rfl ?_) rfl ⟨?_, ?_⟩
  · exact obj_setCell (obj_setCell (obj_setCell (obj_setCell hb3 0 _) 1 _) 2 _) 3 _
  · rfl
  · exact ((((hfw.setCell (fun h => by dsimp only at h; omega) _).setCell (fun h => by dsimp only at h; omega) _).setCell (fun h => by dsimp only at h; omega) _).setCell (fun h => by dsimp only at h; omega) _)

set_option maxRecDepth 100000 in
set_option maxHeartbeats 4000000 in
theorem sub_any (a b : V) (ha : -9223372036854775808 ≤ a.n ∧ a.n ≤ 9223372036854775807) (hb : -9223372036854775808 ≤ b.n ∧ b.n ≤ 9223372036854775807) (w : World) :
    Calls Try.prog 22 #[vV a, vV b] w fun e w' => e = .returned (.tuple #[vV (numV a b (wrap64 (a.n - b.n)) (okI (a.n - b.n))).1, .int .i64 (numV a b (wrap64 (a.n - b.n)) (okI (a.n - b.n))).2]) ∧ Fr noB w w' := by
  obtain ⟨hb0, hb1, hb3, hsz⟩ := trio_new w (.cells #[.int .u8 a.k, .int .i64 a.n, .int .i64 a.hi, .string a.t] 23) (.cells #[.int .u8 b.k, .int .i64 b.n, .int .i64 b.hi, .string b.t] 23) (.cells #[.int .u8 0, .int .i64 0, .int .i64 0, .string ⟨#[]⟩] 23)
  have hfw : Fr noB w (((w.alloc (.cells #[.int .u8 a.k, .int .i64 a.n, .int .i64 a.hi, .string a.t] 23)).alloc (.cells #[.int .u8 b.k, .int .i64 b.n, .int .i64 b.hi, .string b.t] 23)).alloc (.cells #[.int .u8 0, .int .i64 0, .int .i64 0, .string ⟨#[]⟩] 23)) := (((Fr.refl _ _).alloc _).alloc _).alloc _
  have hj : ∀ W : World, Calls Try.prog 65 #[vV a, vV b, .func (.func 67) #[] #[]] W fun e w' => e = .returned (.tuple #[vV (numV a b (wrap64 (a.n - b.n)) (okI (a.n - b.n))).1, .int .i64 (numV a b (wrap64 (a.n - b.n)) (okI (a.n - b.n))).2]) ∧ Fr noB W w' :=
    number_sub a b _ _ (fun W => subc_any a.n b.n ha hb W)
  generalize numV a b (wrap64 (a.n - b.n)) (okI (a.n - b.n)) = r at *
  unfold vV at hj ⊢
  go_enter Try.func22, Try.ntmps22
  go_upto_region 1 with fail
  generalize (((w.alloc (.cells #[.int .u8 a.k, .int .i64 a.n, .int .i64 a.hi, .string a.t] 23)).alloc (.cells #[.int .u8 b.k, .int .i64 b.n, .int .i64 b.hi, .string b.t] 23)).alloc (.cells #[.int .u8 0, .int .i64 0, .int .i64 0, .string ⟨#[]⟩] 23)) = W0 at *
  obtain ⟨c0, c1, c2, c3⟩ := v_cells hb0
  obtain ⟨d0, d1, d2, d3⟩ := v_cells hb1
  have HJ := Lib.hid hj
  clear hj
  go_wp2_with fail
  refine (HJ.out _).mono ?_
  rintro e w1 ⟨rfl, hf1⟩
  have hb3 := hf1.obj (fun x => x) hb3
  have hz := frozen_of_obj hb3
  obtain ⟨z0, z1, z2, z3⟩ := v_cells (v := zV) hb3
  have hfw := hfw.trans hf1
  go_wp2_with fail
  refine bodyPost_ret (ret_val2 rfl _ _ (w.heap.size + 2) r.1 _ rfl rfl ?_) rfl ⟨?_, ?_⟩
  · exact obj_setCell (obj_setCell (obj_setCell (obj_setCell hb3 0 _) 1 _) 2 _) 3 _
  · rfl
  · exact ((((hfw.setCell (fun h => by dsimp only at h; omega) _).setCell (fun h => by dsimp only at h; omega) _).setCell (fun h => by dsimp only at h; omega) _).setCell (fun h => by dsimp only at h; omega) _)

end Go.Proofs.Ytcncjghcnofioaa
