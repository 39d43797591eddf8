/- The walks of strings.Compare, cmp.Or, of package logic's order, ordered, Less, Equal. The condition: the numbers are of 64 bits. -/
import Derived.Test.YtcncjghcnofioaaMul
import Derived.StillTailTactics
namespace Go.Proofs.Ytcncjghcnofioaa
open Go.RowKit

set_option maxRecDepth 100000 in
set_option maxHeartbeats 1000000 in
theorem cmpstr_any (a b : ByteArray) (w : World) :
    Calls Try.prog 108 #[.string a, .string b] w fun e w' => e = .returned (.int .i64 (Lib.compareBytes a.data.toList b.data.toList)) ∧ w = w' := by
  go_enter Try.func108, Try.ntmps108
  go_wp2
  rw [run_callFunc_extern Try.func115 (by kernel_rfl) (by kernel_rfl) (by kernel_rfl) (e := Extern.BytealgCompare.compare) (by kernel_rfl), Lib.run_compareString]
  simp only [Result.andThen]
  rw [Oper.upon_value]
  go_wp2
  go_ret
  exact ⟨rfl, rfl⟩

set_option maxHeartbeats 1000000 in
theorem scmp_any (a b : ByteArray) (w : World) :
    Calls Try.prog 95 #[.string a, .string b] w fun e w' => e = .returned (.int .i64 (Lib.compareBytes a.data.toList b.data.toList)) ∧ w = w' := by
  go_enter Try.func95, Try.ntmps95
  go_wp2_with (go_at_call 108; refine (cmpstr_any _ _ _).mono ?_; rintro e w1 ⟨rfl, rfl⟩)
  go_ret
  exact ⟨rfl, rfl⟩

def orI (x y : Int) : Int := if x = 0 then y else x

set_option maxHeartbeats 1000000 in
theorem or2_any (x y : Int) (g : Nat) (t : TypeId) (w : World) (h : w.heap[g]? = some (.cells #[.int .i64 x, .int .i64 y] t (0, 0))) :
    Calls Try.prog 96 #[.slice (some ⟨g, 0, none⟩) 2 2] w fun e w' => e = .returned (.int .i64 (orI x y)) ∧ w = w' := by
  have c0 := cell_of_obj h 0
  have c1 := cell_of_obj h 1
  dsimp at c0 c1
  have hz : (0 : Int) = 0 := rfl
  cases hx : (x == 0)
  · have HR := Lib.hid (show orI x y = x by unfold orI; rw [if_neg (by rw [beq_eq_false_iff_ne] at hx; exact hx)])
    go_enter Try.func96, Try.ntmps96
    go_wp2_with fail
    go_loopg [8] 2 (fun gh iv wr => ∃ i : Nat, i ≤ 0 ∧ gh = 2 - i ∧ iv = .int .i64 i ∧ w = wr)
    case atStart => exact ⟨0, by omega, by omega, rfl, rfl⟩
    case round =>
      obtain ⟨i, hi, rfl, rfl, rfl⟩ := hrel
      obtain rfl : i = 0 := by omega
      go_wp2_with fail
      go_ret
      exact ⟨by rw [HR.out] <;> rfl, rfl⟩
  · have hx0 : x = 0 := by simpa using hx
    subst hx0
    cases hy : (y == 0)
    · have HR := Lib.hid (show orI 0 y = y by unfold orI; rw [if_pos rfl])
      go_enter Try.func96, Try.ntmps96
      go_wp2_with fail
      go_loopg [8] 2 (fun gh iv wr => ∃ i : Nat, i ≤ 1 ∧ gh = 2 - i ∧ iv = .int .i64 i ∧ w = wr)
      case atStart => exact ⟨0, by omega, by omega, rfl, rfl⟩
      case round =>
        obtain ⟨i, hi, rfl, rfl, rfl⟩ := hrel
        have hi' : i = 0 ∨ i = 1 := by omega
        rcases hi' with rfl | rfl
        · go_wp2_with fail
          go_roundg 1
          case measure => omega
          case rel => exact ⟨1, by omega, by omega, by go_num, rfl⟩
        · go_wp2_with fail
          go_ret
          exact ⟨by rw [HR.out] <;> rfl, rfl⟩
    · have hy0 : y = 0 := by simpa using hy
      subst hy0
      have HR := Lib.hid (show orI 0 0 = 0 by decide)
      go_enter Try.func96, Try.ntmps96
      go_wp2_with fail
      go_loopg [8] 2 (fun gh iv wr => ∃ i : Nat, i ≤ 2 ∧ gh = 2 - i ∧ iv = .int .i64 i ∧ w = wr)
      case atStart => exact ⟨0, by omega, by omega, rfl, rfl⟩
      case round =>
        obtain ⟨i, hi, rfl, rfl, rfl⟩ := hrel
        have hi' : i = 0 ∨ i = 1 ∨ i = 2 := by omega
        rcases hi' with rfl | rfl | rfl
        · go_wp2_with fail
          go_roundg 1
          case measure => omega
          case rel => exact ⟨1, by omega, by omega, by go_num, rfl⟩
        · go_wp2_with fail
          go_roundg 0
          case measure => omega
          case rel => exact ⟨2, by omega, by omega, by go_num, rfl⟩
        · go_wp2_with fail
          go_ret
          exact ⟨by rw [HR.out] <;> rfl, rfl⟩

/-- How two values of one kind stand. -/
def orderV (a b : V) : Int :=
  if a.k = 3 then Lib.compareBytes a.t.data.toList b.t.data.toList
  else if a.k = 4 then orI (cmpI a.n b.n) (cmpI a.hi b.hi)
  else if a.k = 2 then cmpI (if (1 : Int) < (a.n.natAbs : Int) then 1 else (a.n.natAbs : Int)) (if (1 : Int) < (b.n.natAbs : Int) then 1 else (b.n.natAbs : Int))
  else cmpI a.n b.n

set_option maxRecDepth 100000 in
set_option maxHeartbeats 4000000 in
theorem order_any (a b : V) (ha : -9223372036854775808 ≤ a.n ∧ a.n ≤ 9223372036854775807) (hb : -9223372036854775808 ≤ b.n ∧ b.n ≤ 9223372036854775807) (w : World) :
    Calls Try.prog 88 #[vV a, vV b] w fun e w' => e = .returned (.int .i64 (orderV a b)) ∧ Fr noB w w' := by
  obtain ⟨hb0, hb1⟩ := three_new w (.cells #[.int .u8 a.k, .int .i64 a.n, .int .i64 a.hi, .string a.t] 23) (.cells #[.int .u8 b.k, .int .i64 b.n, .int .i64 b.hi, .string b.t] 23)
  have hfw : Fr noB w ((w.alloc (.cells #[.int .u8 a.k, .int .i64 a.n, .int .i64 a.hi, .string a.t] 23)).alloc (.cells #[.int .u8 b.k, .int .i64 b.n, .int .i64 b.hi, .string b.t] 23)) := ((Fr.refl _ _).alloc _).alloc _
  obtain ⟨c0, c1, c2, c3⟩ := v_cells hb0
  obtain ⟨d0, d1, d2, d3⟩ := v_cells hb1
  have HXA := Lib.hid ha
  have HXB := Lib.hid hb
  clear hb0 hb1 ha hb
  unfold vV
  go_enter Try.func88, Try.ntmps88
  go_upto_region 1 with fail
  generalize ((w.alloc (.cells #[.int .u8 a.k, .int .i64 a.n, .int .i64 a.hi, .string a.t] 23)).alloc (.cells #[.int .u8 b.k, .int .i64 b.n, .int .i64 b.hi, .string b.t] 23)) = W0 at *
  by_cases h3 : a.k = 3
  · have HR := Lib.hid (show orderV a b = Lib.compareBytes a.t.data.toList b.t.data.toList by unfold orderV; rw [if_pos h3])
    rw [h3] at c0
    go_wp2_with (go_at_call 95; refine (scmp_any _ _ _).mono ?_; rintro e w1 ⟨rfl, rfl⟩)
    go_ret
    exact ⟨by rw [HR.out] <;> rfl, hfw⟩
  by_cases h4 : a.k = 4
  · have HR := Lib.hid (show orderV a b = orI (cmpI a.n b.n) (cmpI a.hi b.hi) by unfold orderV; rw [if_neg h3, if_pos h4])
    clear h3
    rw [h4] at c0
    clear h4
    go_upto_region 5 with fail
    refine wp_region_still_tail 10 (by kernel_rfl) (by kernel_rfl) ?_
    simp only [List.take_succ_cons, List.take_zero, List.drop_succ_cons, List.drop_zero]
    repeat still_step
    still_call ((cmp64_any a.n b.n _).mono fun _ _ h => ⟨h.1, h.2.symm⟩)
    repeat still_step
    still_call ((cmp64_any a.hi b.hi _).mono fun _ _ h => ⟨h.1, h.2.symm⟩)
    repeat still_step
    refine wpStill_nil ?_
    change wpList _ _ _ _ _ W0.drew
    have hfd : Fr noB w W0.drew := hfw.drew
    generalize W0.drew = W1 at *
    go_wp2_with (go_at_call 96; refine (or2_any _ _ _ _ _ (obj_alloc_new _ _)).mono ?_; rintro e w1 ⟨rfl, rfl⟩)
    go_ret
    exact ⟨by rw [HR.out] <;> rfl, hfd.alloc _⟩
  by_cases h2 : a.k = 2
  · have HR := Lib.hid (show orderV a b = cmpI (if (1 : Int) < (a.n.natAbs : Int) then 1 else (a.n.natAbs : Int)) (if (1 : Int) < (b.n.natAbs : Int) then 1 else (b.n.natAbs : Int)) by unfold orderV; rw [if_neg h3, if_neg h4, if_pos h2])
    clear h3 h4
    rw [h2] at c0
    clear h2
    by_cases h1 : (1 : Int) < (a.n.natAbs : Int) <;> by_cases h5 : (1 : Int) < (b.n.natAbs : Int)
    · rw [if_pos h1, if_pos h5] at HR
      go_upto_region 7 with fail
      refine wp_region_still_tail 9 (by kernel_rfl) (by kernel_rfl) ?_
      simp only [List.take_succ_cons, List.take_zero, List.drop_succ_cons, List.drop_zero]
      repeat still_step
      still_call ((size_any a.n HXA.out _).mono fun _ _ h => ⟨h.1, h.2.symm⟩)
      repeat still_step
      still_call ((size_any b.n HXB.out _).mono fun _ _ h => ⟨h.1, h.2.symm⟩)
      repeat still_step
      still_call ((cmpu_any _ _ _).mono fun _ _ h => ⟨h.1, h.2.symm⟩)
      repeat still_step
      refine wpStill_nil ?_
      change wpList _ _ _ _ _ W0.drew
      have hfd : Fr noB w W0.drew := hfw.drew
      generalize W0.drew = W1 at *
      go_wp2_with fail
      go_ret
      exact ⟨by rw [HR.out] <;> rfl, hfd⟩
    · rw [if_pos h1, if_neg h5] at HR
      go_upto_region 7 with fail
      refine wp_region_still_tail 9 (by kernel_rfl) (by kernel_rfl) ?_
      simp only [List.take_succ_cons, List.take_zero, List.drop_succ_cons, List.drop_zero]
      repeat still_step
      still_call ((size_any a.n HXA.out _).mono fun _ _ h => ⟨h.1, h.2.symm⟩)
      repeat still_step
      still_call ((size_any b.n HXB.out _).mono fun _ _ h => ⟨h.1, h.2.symm⟩)
      repeat still_step
      still_call ((cmpu_any _ _ _).mono fun _ _ h => ⟨h.1, h.2.symm⟩)
      repeat still_step
      refine wpStill_nil ?_
      change wpList _ _ _ _ _ W0.drew
      have hfd : Fr noB w W0.drew := hfw.drew
      generalize W0.drew = W1 at *
      go_wp2_with fail
      go_ret
      exact ⟨by rw [HR.out] <;> rfl, hfd⟩
    · rw [if_neg h1, if_pos h5] at HR
      go_upto_region 7 with fail
      refine wp_region_still_tail 9 (by kernel_rfl) (by kernel_rfl) ?_
      simp only [List.take_succ_cons, List.take_zero, List.drop_succ_cons, List.drop_zero]
      repeat still_step
      still_call ((size_any a.n HXA.out _).mono fun _ _ h => ⟨h.1, h.2.symm⟩)
      repeat still_step
      still_call ((size_any b.n HXB.out _).mono fun _ _ h => ⟨h.1, h.2.symm⟩)
      repeat still_step
      still_call ((cmpu_any _ _ _).mono fun _ _ h => ⟨h.1, h.2.symm⟩)
      repeat still_step
      refine wpStill_nil ?_
      change wpList _ _ _ _ _ W0.drew
      have hfd : Fr noB w W0.drew := hfw.drew
      generalize W0.drew = W1 at *
      go_wp2_with fail
      go_ret
      exact ⟨by rw [HR.out] <;> rfl, hfd⟩
    · rw [if_neg h1, if_neg h5] at HR
      go_upto_region 7 with fail
      refine wp_region_still_tail 9 (by kernel_rfl) (by kernel_rfl) ?_
      simp only [List.take_succ_cons, List.take_zero, List.drop_succ_cons, List.drop_zero]
      repeat still_step
      still_call ((size_any a.n HXA.out _).mono fun _ _ h => ⟨h.1, h.2.symm⟩)
      repeat still_step
      still_call ((size_any b.n HXB.out _).mono fun _ _ h => ⟨h.1, h.2.symm⟩)
      repeat still_step
      still_call ((cmpu_any _ _ _).mono fun _ _ h => ⟨h.1, h.2.symm⟩)
      repeat still_step
      refine wpStill_nil ?_
      change wpList _ _ _ _ _ W0.drew
      have hfd : Fr noB w W0.drew := hfw.drew
      generalize W0.drew = W1 at *
      go_wp2_with fail
      go_ret
      exact ⟨by rw [HR.out] <;> rfl, hfd⟩
  have HR := Lib.hid (show orderV a b = cmpI a.n b.n by unfold orderV; rw [if_neg h3, if_neg h4, if_neg h2])
  have hb3 : (a.k == 3) = false := by rw [beq_eq_false_iff_ne]; exact h3
  have hb4 : (a.k == 4) = false := by rw [beq_eq_false_iff_ne]; exact h4
  have hb2 : (a.k == 2) = false := by rw [beq_eq_false_iff_ne]; exact h2
  clear h3 h4 h2
  go_wp2_with (go_at_call 86; refine (cmp64_any _ _ _).mono ?_; rintro e w1 ⟨rfl, rfl⟩)
  go_ret
  exact ⟨by rw [HR.out] <;> rfl, hfw⟩

def ordV (a b : V) (r : Bool) : V × Int := if (nullB a || nullB b) = true then (zV, 0) else if a.k = b.k then (ofV r, 0) else (zV, 60)

set_option maxRecDepth 100000 in
set_option maxHeartbeats 4000000 in
theorem ordered_less (a b : V) (ha : -9223372036854775808 ≤ a.n ∧ a.n ≤ 9223372036854775807) (hb : -9223372036854775808 ≤ b.n ∧ b.n ≤ 9223372036854775807) (w : World) :
    Calls Try.prog 62 #[vV a, vV b, .func (.func 63) #[] #[]] w fun e w' => e = .returned (.tuple #[vV (ordV a b (decide (orderV a b < 0))).1, .int .i64 (ordV a b (decide (orderV a b < 0))).2]) ∧ Fr noB w w' := by
  obtain ⟨hb0, hb1, hb3, hsz⟩ := trio_new w (.cells #[.int .u8 a.k, .int .i64 a.n, .int .i64 a.hi, .string a.t] 23) (.cells #[.int .u8 b.k, .int .i64 b.n, .int .i64 b.hi, .string b.t] 23) (.cells #[.int .u8 0, .int .i64 0, .int .i64 0, .string ⟨#[]⟩] 23)
  have hfw : Fr noB w (((w.alloc (.cells #[.int .u8 a.k, .int .i64 a.n, .int .i64 a.hi, .string a.t] 23)).alloc (.cells #[.int .u8 b.k, .int .i64 b.n, .int .i64 b.hi, .string b.t] 23)).alloc (.cells #[.int .u8 0, .int .i64 0, .int .i64 0, .string ⟨#[]⟩] 23)) := (((Fr.refl _ _).alloc _).alloc _).alloc _
  have HOR := Lib.hid (order_any a b ha hb)
  clear ha hb
  generalize orderV a b = ov at *
  have hof := of_any (decide (ov < 0))
  have HOF := Lib.hid hof
  clear hof
  unfold vV at HOR ⊢
  go_enter Try.func62, Try.ntmps62
  go_upto_region 1 with fail
  generalize (((w.alloc (.cells #[.int .u8 a.k, .int .i64 a.n, .int .i64 a.hi, .string a.t] 23)).alloc (.cells #[.int .u8 b.k, .int .i64 b.n, .int .i64 b.hi, .string b.t] 23)).alloc (.cells #[.int .u8 0, .int .i64 0, .int .i64 0, .string ⟨#[]⟩] 23)) = W0 at *
  obtain ⟨c0, c1, c2, c3⟩ := v_cells hb0
  obtain ⟨d0, d1, d2, d3⟩ := v_cells hb1
  cases hnl : nullB a || nullB b
  · have HNL := Lib.hid hnl
    go_wp2_with fail
    refine (null2_any a b (w.heap.size + 3) _ _ false HNL.out (by have := obj_alloc_new W0 (.cells #[.int .u8 a.k, .int .i64 a.n, .int .i64 a.hi, .string a.t, .int .u8 b.k, .int .i64 b.n, .int .i64 b.hi, .string b.t] 23); rw [hsz] at this; exact this)).mono ?_
    rintro e w1 ⟨rfl, hf1⟩
    have hf1 : Fr noB W0 w1 := ((Fr.refl noB W0).alloc _).trans hf1
    have hb0 := hf1.obj (fun x => x) hb0
    have hb1 := hf1.obj (fun x => x) hb1
    have hb3 := hf1.obj (fun x => x) hb3
    obtain ⟨c0, c1, c2, c3⟩ := v_cells hb0
    obtain ⟨d0, d1, d2, d3⟩ := v_cells hb1
    have hz := frozen_of_obj hb3
    obtain ⟨z0, z1, z2, z3⟩ := v_cells (v := zV) hb3
    simp only [zV] at z0 z1 z2 z3
    have hfw := hfw.trans hf1
    clear hf1
    by_cases hk : a.k = b.k
    · have HR := Lib.hid (show ordV a b (decide (ov < 0)) = (ofV (decide (ov < 0)), 0) by unfold ordV; rw [if_neg (by rw [hnl]; decide), if_pos hk])
      have hkb : (a.k != b.k) = false := by rw [hk]; simp
      clear hnl hk
      go_wp2_with fail
      refine (HOR.out _).mono ?_
      rintro e w2 ⟨rfl, hf2⟩
      have hb0 := hf2.obj (fun x => x) hb0
      have hb1 := hf2.obj (fun x => x) hb1
      have hb3 := hf2.obj (fun x => x) hb3
      obtain ⟨c0, c1, c2, c3⟩ := v_cells hb0
      obtain ⟨d0, d1, d2, d3⟩ := v_cells hb1
      have hz := frozen_of_obj hb3
      obtain ⟨z0, z1, z2, z3⟩ := v_cells (v := zV) hb3
      simp only [zV] at z0 z1 z2 z3
      have hfw := hfw.trans hf2
      clear hf2
      go_wp2_with fail
      refine (less1_any _ _).mono ?_
      rintro e w3 ⟨rfl, rfl⟩
      go_wp2_with fail
      refine (HOF.out _).mono ?_
      rintro e w4 ⟨rfl, hf4⟩
      have hb0 := hf4.obj (fun x => x) hb0
      have hb1 := hf4.obj (fun x => x) hb1
      have hb3 := hf4.obj (fun x => x) hb3
      obtain ⟨c0, c1, c2, c3⟩ := v_cells hb0
      obtain ⟨d0, d1, d2, d3⟩ := v_cells hb1
      have hz := frozen_of_obj hb3
      obtain ⟨z0, z1, z2, z3⟩ := v_cells (v := zV) hb3
      simp only [zV] at z0 z1 z2 z3
      have hfw := hfw.trans hf4
      clear hf4
      unfold vV
      go_wp2_with fail
      refine bodyPost_ret (ret_val2 rfl _ _ (w.heap.size + 2) (ofV (decide (ov < 0))) _ rfl rfl ?_) rfl ⟨?_, ?_⟩
      · exact obj_setCell (obj_setCell (obj_setCell (obj_setCell hb3 0 _) 1 _) 2 _) 3 _
      · rw [HR.out] <;> rfl
      · exact ((((hfw.setCell (fun h => by dsimp only at h; omega) _).setCell (fun h => by dsimp only at h; omega) _).setCell (fun h => by dsimp only at h; omega) _).setCell (fun h => by dsimp only at h; omega) _)
    · have HR := Lib.hid (show ordV a b (decide (ov < 0)) = (zV, 60) by unfold ordV; rw [if_neg (by rw [hnl]; decide), if_neg hk])
      have hkb : (a.k != b.k) = true := by simpa using hk
      clear hnl hk
      go_wp2_with fail
      refine bodyPost_ret (ret_val2 rfl _ _ (w.heap.size + 2) zV _ rfl rfl ?_) rfl ⟨?_, ?_⟩
      · exact obj_setCell (obj_setCell (obj_setCell (obj_setCell hb3 0 _) 1 _) 2 _) 3 _
      · rw [HR.out] <;> rfl
      · exact ((((hfw.setCell (fun h => by dsimp only at h; omega) _).setCell (fun h => by dsimp only at h; omega) _).setCell (fun h => by dsimp only at h; omega) _).setCell (fun h => by dsimp only at h; omega) _)
  · have HR := Lib.hid (show ordV a b (decide (ov < 0)) = (zV, 0) by unfold ordV; rw [if_pos hnl])
    have HNL := Lib.hid hnl
    clear hnl
    go_wp2_with fail
    refine (null2_any a b (w.heap.size + 3) _ _ true HNL.out (by have := obj_alloc_new W0 (.cells #[.int .u8 a.k, .int .i64 a.n, .int .i64 a.hi, .string a.t, .int .u8 b.k, .int .i64 b.n, .int .i64 b.hi, .string b.t] 23); rw [hsz] at this; exact this)).mono ?_
    rintro e w1 ⟨rfl, hf1⟩
    have hf1 : Fr noB W0 w1 := ((Fr.refl noB W0).alloc _).trans hf1
    have hb0 := hf1.obj (fun x => x) hb0
    have hb1 := hf1.obj (fun x => x) hb1
    have hb3 := hf1.obj (fun x => x) hb3
    obtain ⟨c0, c1, c2, c3⟩ := v_cells hb0
    obtain ⟨d0, d1, d2, d3⟩ := v_cells hb1
    have hz := frozen_of_obj hb3
    obtain ⟨z0, z1, z2, z3⟩ := v_cells (v := zV) hb3
    simp only [zV] at z0 z1 z2 z3
    have hfw := hfw.trans hf1
    clear hf1
    go_wp2_with fail
    refine bodyPost_ret (ret_val2 rfl _ _ (w.heap.size + 2) zV _ rfl rfl ?_) rfl ⟨?_, ?_⟩
    · exact obj_setCell (obj_setCell (obj_setCell (obj_setCell hb3 0 _) 1 _) 2 _) 3 _
    · rw [HR.out] <;> rfl
    · exact ((((hfw.setCell (fun h => by dsimp only at h; omega) _).setCell (fun h => by dsimp only at h; omega) _).setCell (fun h => by dsimp only at h; omega) _).setCell (fun h => by dsimp only at h; omega) _)

set_option maxRecDepth 100000 in
set_option maxHeartbeats 4000000 in
theorem ordered_equal (a b : V) (ha : -9223372036854775808 ≤ a.n ∧ a.n ≤ 9223372036854775807) (hb : -9223372036854775808 ≤ b.n ∧ b.n ≤ 9223372036854775807) (w : World) :
    Calls Try.prog 62 #[vV a, vV b, .func (.func 64) #[] #[]] w fun e w' => e = .returned (.tuple #[vV (ordV a b (orderV a b == 0)).1, .int .i64 (ordV a b (orderV a b == 0)).2]) ∧ Fr noB w w' := by
  obtain ⟨hb0, hb1, hb3, hsz⟩ := trio_new w (.cells #[.int .u8 a.k, .int .i64 a.n, .int .i64 a.hi, .string a.t] 23) (.cells #[.int .u8 b.k, .int .i64 b.n, .int .i64 b.hi, .string b.t] 23) (.cells #[.int .u8 0, .int .i64 0, .int .i64 0, .string ⟨#[]⟩] 23)
  have hfw : Fr noB w (((w.alloc (.cells #[.int .u8 a.k, .int .i64 a.n, .int .i64 a.hi, .string a.t] 23)).alloc (.cells #[.int .u8 b.k, .int .i64 b.n, .int .i64 b.hi, .string b.t] 23)).alloc (.cells #[.int .u8 0, .int .i64 0, .int .i64 0, .string ⟨#[]⟩] 23)) := (((Fr.refl _ _).alloc _).alloc _).alloc _
  have HOR := Lib.hid (order_any a b ha hb)
  clear ha hb
  generalize orderV a b = ov at *
  have hof := of_any ((ov == 0))
  have HOF := Lib.hid hof
  clear hof
  unfold vV at HOR ⊢
  go_enter Try.func62, Try.ntmps62
  go_upto_region 1 with fail
  generalize (((w.alloc (.cells #[.int .u8 a.k, .int .i64 a.n, .int .i64 a.hi, .string a.t] 23)).alloc (.cells #[.int .u8 b.k, .int .i64 b.n, .int .i64 b.hi, .string b.t] 23)).alloc (.cells #[.int .u8 0, .int .i64 0, .int .i64 0, .string ⟨#[]⟩] 23)) = W0 at *
  obtain ⟨c0, c1, c2, c3⟩ := v_cells hb0
  obtain ⟨d0, d1, d2, d3⟩ := v_cells hb1
  cases hnl : nullB a || nullB b
  · have HNL := Lib.hid hnl
    go_wp2_with fail
    refine (null2_any a b (w.heap.size + 3) _ _ false HNL.out (by have := obj_alloc_new W0 (.cells #[.int .u8 a.k, .int .i64 a.n, .int .i64 a.hi, .string a.t, .int .u8 b.k, .int .i64 b.n, .int .i64 b.hi, .string b.t] 23); rw [hsz] at this; exact this)).mono ?_
    rintro e w1 ⟨rfl, hf1⟩
    have hf1 : Fr noB W0 w1 := ((Fr.refl noB W0).alloc _).trans hf1
    have hb0 := hf1.obj (fun x => x) hb0
    have hb1 := hf1.obj (fun x => x) hb1
    have hb3 := hf1.obj (fun x => x) hb3
    obtain ⟨c0, c1, c2, c3⟩ := v_cells hb0
    obtain ⟨d0, d1, d2, d3⟩ := v_cells hb1
    have hz := frozen_of_obj hb3
    obtain ⟨z0, z1, z2, z3⟩ := v_cells (v := zV) hb3
    simp only [zV] at z0 z1 z2 z3
    have hfw := hfw.trans hf1
    clear hf1
    by_cases hk : a.k = b.k
    · have HR := Lib.hid (show ordV a b ((ov == 0)) = (ofV ((ov == 0)), 0) by unfold ordV; rw [if_neg (by rw [hnl]; decide), if_pos hk])
      have hkb : (a.k != b.k) = false := by rw [hk]; simp
      clear hnl hk
      go_wp2_with fail
      refine (HOR.out _).mono ?_
      rintro e w2 ⟨rfl, hf2⟩
      have hb0 := hf2.obj (fun x => x) hb0
      have hb1 := hf2.obj (fun x => x) hb1
      have hb3 := hf2.obj (fun x => x) hb3
      obtain ⟨c0, c1, c2, c3⟩ := v_cells hb0
      obtain ⟨d0, d1, d2, d3⟩ := v_cells hb1
      have hz := frozen_of_obj hb3
      obtain ⟨z0, z1, z2, z3⟩ := v_cells (v := zV) hb3
      simp only [zV] at z0 z1 z2 z3
      have hfw := hfw.trans hf2
      clear hf2
      go_wp2_with fail
      refine (equal1_any _ _).mono ?_
      rintro e w3 ⟨rfl, rfl⟩
      go_wp2_with fail
      refine (HOF.out _).mono ?_
      rintro e w4 ⟨rfl, hf4⟩
      have hb0 := hf4.obj (fun x => x) hb0
      have hb1 := hf4.obj (fun x => x) hb1
      have hb3 := hf4.obj (fun x => x) hb3
      obtain ⟨c0, c1, c2, c3⟩ := v_cells hb0
      obtain ⟨d0, d1, d2, d3⟩ := v_cells hb1
      have hz := frozen_of_obj hb3
      obtain ⟨z0, z1, z2, z3⟩ := v_cells (v := zV) hb3
      simp only [zV] at z0 z1 z2 z3
      have hfw := hfw.trans hf4
      clear hf4
      unfold vV
      go_wp2_with fail
      refine bodyPost_ret (ret_val2 rfl _ _ (w.heap.size + 2) (ofV ((ov == 0))) _ rfl rfl ?_) rfl ⟨?_, ?_⟩
      · exact obj_setCell (obj_setCell (obj_setCell (obj_setCell hb3 0 _) 1 _) 2 _) 3 _
      · rw [HR.out] <;> rfl
      · exact ((((hfw.setCell (fun h => by dsimp only at h; omega) _).setCell (fun h => by dsimp only at h; omega) _).setCell (fun h => by dsimp only at h; omega) _).setCell (fun h => by dsimp only at h; omega) _)
    · have HR := Lib.hid (show ordV a b ((ov == 0)) = (zV, 60) by unfold ordV; rw [if_neg (by rw [hnl]; decide), if_neg hk])
      have hkb : (a.k != b.k) = true := by simpa using hk
      clear hnl hk
      go_wp2_with fail
      refine bodyPost_ret (ret_val2 rfl _ _ (w.heap.size + 2) zV _ rfl rfl ?_) rfl ⟨?_, ?_⟩
      · exact obj_setCell (obj_setCell (obj_setCell (obj_setCell hb3 0 _) 1 _) 2 _) 3 _
      · rw [HR.out] <;> rfl
      · exact ((((hfw.setCell (fun h => by dsimp only at h; omega) _).setCell (fun h => by dsimp only at h; omega) _).setCell (fun h => by dsimp only at h; omega) _).setCell (fun h => by dsimp only at h; omega) _)
  · have HR := Lib.hid (show ordV a b ((ov == 0)) = (zV, 0) by unfold ordV; rw [if_pos hnl])
    have HNL := Lib.hid hnl
    clear hnl
    go_wp2_with fail
    refine (null2_any a b (w.heap.size + 3) _ _ true HNL.out (by have := obj_alloc_new W0 (.cells #[.int .u8 a.k, .int .i64 a.n, .int .i64 a.hi, .string a.t, .int .u8 b.k, .int .i64 b.n, .int .i64 b.hi, .string b.t] 23); rw [hsz] at this; exact this)).mono ?_
    rintro e w1 ⟨rfl, hf1⟩
    have hf1 : Fr noB W0 w1 := ((Fr.refl noB W0).alloc _).trans hf1
    have hb0 := hf1.obj (fun x => x) hb0
    have hb1 := hf1.obj (fun x => x) hb1
    have hb3 := hf1.obj (fun x => x) hb3
    obtain ⟨c0, c1, c2, c3⟩ := v_cells hb0
    obtain ⟨d0, d1, d2, d3⟩ := v_cells hb1
    have hz := frozen_of_obj hb3
    obtain ⟨z0, z1, z2, z3⟩ := v_cells (v := zV) hb3
    simp only [zV] at z0 z1 z2 z3
    have hfw := hfw.trans hf1
    clear hf1
    go_wp2_with fail
    refine bodyPost_ret (ret_val2 rfl _ _ (w.heap.size + 2) zV _ rfl rfl ?_) rfl ⟨?_, ?_⟩
    · exact obj_setCell (obj_setCell (obj_setCell (obj_setCell hb3 0 _) 1 _) 2 _) 3 _
    · rw [HR.out] <;> rfl
    · exact ((((hfw.setCell (fun h => by dsimp only at h; omega) _).setCell (fun h => by dsimp only at h; omega) _).setCell (fun h => by dsimp only at h; omega) _).setCell (fun h => by dsimp only at h; omega) _)

set_option maxRecDepth 100000 in
set_option maxHeartbeats 4000000 in
theorem less_any (a b : V) (ha : -9223372036854775808 ≤ a.n ∧ a.n ≤ 9223372036854775807) (hb : -9223372036854775808 ≤ b.n ∧ b.n ≤ 9223372036854775807) (w : World) :
    Calls Try.prog 16 #[vV a, vV b] w fun e w' => e = .returned (.tuple #[vV (ordV a b (decide (orderV a b < 0))).1, .int .i64 (ordV a b (decide (orderV a b < 0))).2]) ∧ Fr noB w w' := by
  obtain ⟨hb0, hb1, hb3, hsz⟩ := trio_new w (.cells #[.int .u8 a.k, .int .i64 a.n, .int .i64 a.hi, .string a.t] 23) (.cells #[.int .u8 b.k, .int .i64 b.n, .int .i64 b.hi, .string b.t] 23) (.cells #[.int .u8 0, .int .i64 0, .int .i64 0, .string ⟨#[]⟩] 23)
  have hfw : Fr noB w (((w.alloc (.cells #[.int .u8 a.k, .int .i64 a.n, .int .i64 a.hi, .string a.t] 23)).alloc (.cells #[.int .u8 b.k, .int .i64 b.n, .int .i64 b.hi, .string b.t] 23)).alloc (.cells #[.int .u8 0, .int .i64 0, .int .i64 0, .string ⟨#[]⟩] 23)) := (((Fr.refl _ _).alloc _).alloc _).alloc _
  have hj : ∀ W : World, Calls Try.prog 62 #[vV a, vV b, .func (.func 63) #[] #[]] W fun e w' => e = .returned (.tuple #[vV (ordV a b (decide (orderV a b < 0))).1, .int .i64 (ordV a b (decide (orderV a b < 0))).2]) ∧ Fr noB W w' :=
    ordered_less a b ha hb
  generalize ordV a b (decide (orderV a b < 0)) = r at *
  unfold vV at hj ⊢
  go_enter Try.func16, Try.ntmps16
  go_upto_region 1 with fail
  generalize (((w.alloc (.cells #[.int .u8 a.k, .int .i64 a.n, .int .i64 a.hi, .string a.t] 23)).alloc (.cells #[.int .u8 b.k, .int .i64 b.n, .int .i64 b.hi, .string b.t] 23)).alloc (.cells #[.int .u8 0, .int .i64 0, .int .i64 0, .string ⟨#[]⟩] 23)) = W0 at *
  obtain ⟨c0, c1, c2, c3⟩ := v_cells hb0
  obtain ⟨d0, d1, d2, d3⟩ := v_cells hb1
  have HJ := Lib.hid hj
  clear hj
  go_wp2_with fail
  refine (HJ.out _).mono ?_
  rintro e w1 ⟨rfl, hf1⟩
  have hb3 := hf1.obj (fun x => x) hb3
  have hz := frozen_of_obj hb3
  obtain ⟨z0, z1, z2, z3⟩ := v_cells (v := zV) hb3
  have hfw := hfw.trans hf1
  go_wp2_with fail
  refine bodyPost_ret (ret_val2 rfl _ _ (w.heap.size + 2) r.1 _ rfl rfl ?_) rfl ⟨?_, ?_⟩
  · exact obj_setCell (obj_setCell (obj_setCell (obj_setCell hb3 0 _) 1 _) 2 _) 3 _
  · rfl
  · exact ((((hfw.setCell (fun h => by dsimp only at h; omega) _).setCell (fun h => by dsimp only at h; omega) _).setCell (fun h => by dsimp only at h; omega) _).setCell (fun h => by dsimp only at h; omega) _)

set_option maxRecDepth 100000 in
set_option maxHeartbeats 4000000 in
theorem equal_any (a b : V) (ha : -9223372036854775808 ≤ a.n ∧ a.n ≤ 9223372036854775807) (hb : -9223372036854775808 ≤ b.n ∧ b.n ≤ 9223372036854775807) (w : World) :
    Calls Try.prog 17 #[vV a, vV b] w fun e w' => e = .returned (.tuple #[vV (ordV a b (orderV a b == 0)).1, .int .i64 (ordV a b (orderV a b == 0)).2]) ∧ Fr noB w w' := by
  obtain ⟨hb0, hb1, hb3, hsz⟩ := trio_new w (.cells #[.int .u8 a.k, .int .i64 a.n, .int .i64 a.hi, .string a.t] 23) (.cells #[.int .u8 b.k, .int .i64 b.n, .int .i64 b.hi, .string b.t] 23) (.cells #[.int .u8 0, .int .i64 0, .int .i64 0, .string ⟨#[]⟩] 23)
  have hfw : Fr noB w (((w.alloc (.cells #[.int .u8 a.k, .int .i64 a.n, .int .i64 a.hi, .string a.t] 23)).alloc (.cells #[.int .u8 b.k, .int .i64 b.n, .int .i64 b.hi, .string b.t] 23)).alloc (.cells #[.int .u8 0, .int .i64 0, .int .i64 0, .string ⟨#[]⟩] 23)) := (((Fr.refl _ _).alloc _).alloc _).alloc _
  have hj : ∀ W : World, Calls Try.prog 62 #[vV a, vV b, .func (.func 64) #[] #[]] W fun e w' => e = .returned (.tuple #[vV (ordV a b (orderV a b == 0)).1, .int .i64 (ordV a b (orderV a b == 0)).2]) ∧ Fr noB W w' :=
    ordered_equal a b ha hb
  generalize ordV a b (orderV a b == 0) = r at *
  unfold vV at hj ⊢
  go_enter Try.func17, Try.ntmps17
  go_upto_region 1 with fail
  generalize (((w.alloc (.cells #[.int .u8 a.k, .int .i64 a.n, .int .i64 a.hi, .string a.t] 23)).alloc (.cells #[.int .u8 b.k, .int .i64 b.n, .int .i64 b.hi, .string b.t] 23)).alloc (.cells #[.int .u8 0, .int .i64 0, .int .i64 0, .string ⟨#[]⟩] 23)) = W0 at *
  obtain ⟨c0, c1, c2, c3⟩ := v_cells hb0
  obtain ⟨d0, d1, d2, d3⟩ := v_cells hb1
  have HJ := Lib.hid hj
  clear hj
  go_wp2_with fail
  refine (HJ.out _).mono ?_
  rintro e w1 ⟨rfl, hf1⟩
  have hb3 := hf1.obj (fun x => x) hb3
  have hz := frozen_of_obj hb3
  obtain ⟨z0, z1, z2, z3⟩ := v_cells (v := zV) hb3
  have hfw := hfw.trans hf1
  go_wp2_with fail
  refine bodyPost_ret (ret_val2 rfl _ _ (w.heap.size + 2) r.1 _ rfl rfl ?_) rfl ⟨?_, ?_⟩
  · exact obj_setCell (obj_setCell (obj_setCell (obj_setCell hb3 0 _) 1 _) 2 _) 3 _
  · rfl
  · exact ((((hfw.setCell (fun h => by dsimp only at h; omega) _).setCell (fun h => by dsimp only at h; omega) _).setCell (fun h => by dsimp only at h; omega) _).setCell (fun h => by dsimp only at h; omega) _)

end Go.Proofs.Ytcncjghcnofioaa
