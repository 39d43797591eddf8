/- The walks of bits.Mul64 and of package logic's Mul. The condition: the numbers are of 64 bits. -/
import Derived.Test.YtcncjghcnofioaaCmp
import Derived.Shelf.Bits.Mul64
namespace Go.Proofs.Ytcncjghcnofioaa
open Go.RowKit

set_option maxHeartbeats 1000000 in
theorem mul64_any (x y : Nat) (hx : x < 18446744073709551616) (hy : y < 18446744073709551616) (w : World) :
    Calls Try.prog 69 #[.int .u64 x, .int .u64 y] w fun e w' => e = .returned (.tuple #[.int .u64 ((x * y / 18446744073709551616 : Nat) : Int), .int .u64 ((x * y % 18446744073709551616 : Nat) : Int)]) ∧ w = w' := by
  obtain ⟨bd, bt, bw, hhi⟩ := Lib.mul64_hi x y hx hy
  have ba := Lib.half_mul_le (a := x / 4294967296) (b := y / 4294967296) (by omega) (by omega)
  have bb := Lib.half_mul_le (a := x / 4294967296) (b := y % 4294967296) (by omega) (by omega)
  have bc := Lib.half_mul_le (a := x % 4294967296) (b := y / 4294967296) (by omega) (by omega)
  have ba' : x / 4294967296 * (y / 4294967296) < 18446744073709551616 := by omega
  have bb' : x / 4294967296 * (y % 4294967296) < 18446744073709551616 := by omega
  have bc' : x % 4294967296 * (y / 4294967296) < 18446744073709551616 := by omega
  have bh1 : x / 4294967296 * (y / 4294967296) + (x / 4294967296 * (y % 4294967296) + x % 4294967296 * (y % 4294967296) / 4294967296) / 4294967296 < 18446744073709551616 := by omega
  have bh : x / 4294967296 * (y / 4294967296) + (x / 4294967296 * (y % 4294967296) + x % 4294967296 * (y % 4294967296) / 4294967296) / 4294967296 + ((x / 4294967296 * (y % 4294967296) + x % 4294967296 * (y % 4294967296) / 4294967296) % 4294967296 + x % 4294967296 * (y / 4294967296)) / 4294967296 < 18446744073709551616 := by omega
  go_enter Try.func69, Try.ntmps69
  go_wp2
  simp only [Mul64.maskN x hx, Mul64.maskN y hy, Mul64.divN, Mul64.mulN, Mul64.addN, Mul64.wrapN _ bd, Mul64.wrapN _ bb', Mul64.wrapN _ bt, Mul64.maskN _ bt, Mul64.wrapN _ bc', Mul64.wrapN _ bw, Mul64.wrapN _ ba', Mul64.wrapN _ bh1, Mul64.wrapN _ bh, Mul64.wrapM (x * y)]
  rw [hhi]
  go_ret2
  exact ⟨rfl, rfl⟩

theorem signs (x y : Int) : (((x < 0) ↔ (y < 0)) → 0 ≤ x * y) ∧ (¬ ((x < 0) ↔ (y < 0)) → x * y ≤ 0) := by
  by_cases hx : x < 0 <;> by_cases hy : y < 0
  · exact ⟨fun _ => Int.mul_nonneg_of_nonpos_of_nonpos (by omega) (by omega), fun h => absurd (by simp [hx, hy]) h⟩
  · exact ⟨fun h => absurd (h.mp hx) hy, fun _ => Int.mul_nonpos_of_nonpos_of_nonneg (by omega) (by omega)⟩
  · exact ⟨fun h => absurd (h.mpr hy) hx, fun _ => Int.mul_nonpos_of_nonneg_of_nonpos (by omega) (by omega)⟩
  · exact ⟨fun _ => Int.mul_nonneg (by omega) (by omega), fun h => absurd (by simp [hx, hy]) h⟩

set_option maxHeartbeats 4000000 in

set_option maxRecDepth 100000 in
set_option maxHeartbeats 4000000 in
theorem mulc_any (x y : Int) (hx : -9223372036854775808 ≤ x ∧ x ≤ 9223372036854775807) (hy : -9223372036854775808 ≤ y ∧ y ≤ 9223372036854775807) (w : World) :
    Calls Try.prog 68 #[.int .i64 x, .int .i64 y] w fun e w' => e = .returned (.tuple #[.int .i64 (wrap64 (x * y)), .bool (okI (x * y))]) ∧ Fr noB w w' := by
  obtain ⟨s1, s2⟩ := signs x y
  have hA := Int.natAbs_mul x y
  have HM := Lib.hid (fun W : World => mul64_any x.natAbs y.natAbs (by omega) (by omega) W)
  have HXB := Lib.hid hx
  have HYB := Lib.hid hy
  rw [← hA] at HM
  generalize hz : x * y = z at *
  have HZ := Lib.hid (show wrap64 z = wrap64 (x * y) by rw [hz])
  clear hA hx hy hz
  by_cases hh : z.natAbs / 18446744073709551616 = 0
  · have hhb : (((z.natAbs / 18446744073709551616 : Nat) : Int) == 0) = true := by rw [hh]; rfl
    have hlo : ((z.natAbs % 18446744073709551616 : Nat) : Int) = z.natAbs := by omega
    rw [hlo] at HM
    by_cases hs : (x < 0) ↔ (y < 0)
    · have h0 := s1 hs
      have HD := Lib.hid (show okI z = decide ((z.natAbs : Int) ≤ 9223372036854775807) by unfold okI; rw [decide_eq_true (show -9223372036854775808 ≤ z by omega), Bool.true_and]; apply decide_eq_decide.mpr; omega)
      generalize ((z.natAbs / 18446744073709551616 : Nat) : Int) = hi at *
      generalize (z.natAbs : Int) = lo at *
      have hb : (!(decide (x < 0) == decide (y < 0))) = false := by simp [hs]
      clear hs s1 s2 hlo h0 hh
      go_enter Try.func68, Try.ntmps68
      go_wp2_with (first | (go_at_call 70; refine (size_any _ (by first | exact HXB.out | exact HYB.out) _).mono ?_; rintro e w1 ⟨rfl, rfl⟩) | (go_at_call 69; refine (HM.out _).mono ?_; rintro e w1 ⟨rfl, rfl⟩))
      go_ret2
      exact ⟨by rw [HD.out, HZ.out] <;> rfl, Fr.refl _ _⟩
    · have h0 := s2 hs
      have HD := Lib.hid (show okI z = decide ((z.natAbs : Int) ≤ 9223372036854775808) by unfold okI; rw [decide_eq_true (show z ≤ 9223372036854775807 by omega), Bool.and_true]; apply decide_eq_decide.mpr; omega)
      generalize ((z.natAbs / 18446744073709551616 : Nat) : Int) = hi at *
      generalize (z.natAbs : Int) = lo at *
      have hb : (!(decide (x < 0) == decide (y < 0))) = true := by
        by_cases hx : x < 0 <;> by_cases hy : y < 0 <;> first | (exfalso; apply hs; simp only [hx, hy]; done) | (simp only [hx, hy, decide_true, decide_false]; rfl)
      clear hs s1 s2 hlo h0 hh
      go_enter Try.func68, Try.ntmps68
      go_wp2_with (first | (go_at_call 70; refine (size_any _ (by first | exact HXB.out | exact HYB.out) _).mono ?_; rintro e w1 ⟨rfl, rfl⟩) | (go_at_call 69; refine (HM.out _).mono ?_; rintro e w1 ⟨rfl, rfl⟩))
      go_ret2
      exact ⟨by rw [HD.out, HZ.out] <;> rfl, Fr.refl _ _⟩
  · have hhb : (((z.natAbs / 18446744073709551616 : Nat) : Int) == 0) = false := by rw [beq_eq_false_iff_ne]; omega
    have HD := Lib.hid (show okI z = false by unfold okI; rw [← Bool.decide_and]; apply decide_eq_false; omega)
    generalize ((z.natAbs / 18446744073709551616 : Nat) : Int) = hi at *
    generalize ((z.natAbs % 18446744073709551616 : Nat) : Int) = lo at *
    clear s1 s2 hh
    cases hb : (!(decide (x < 0) == decide (y < 0)))
    · go_enter Try.func68, Try.ntmps68
      go_wp2_with (first | (go_at_call 70; refine (size_any _ (by first | exact HXB.out | exact HYB.out) _).mono ?_; rintro e w1 ⟨rfl, rfl⟩) | (go_at_call 69; refine (HM.out _).mono ?_; rintro e w1 ⟨rfl, rfl⟩))
      go_ret2
      exact ⟨by rw [HD.out, HZ.out] <;> rfl, Fr.refl _ _⟩
    · go_enter Try.func68, Try.ntmps68
      go_wp2_with (first | (go_at_call 70; refine (size_any _ (by first | exact HXB.out | exact HYB.out) _).mono ?_; rintro e w1 ⟨rfl, rfl⟩) | (go_at_call 69; refine (HM.out _).mono ?_; rintro e w1 ⟨rfl, rfl⟩))
      go_ret2
      exact ⟨by rw [HD.out, HZ.out] <;> rfl, Fr.refl _ _⟩

set_option maxRecDepth 100000 in
set_option maxHeartbeats 4000000 in
theorem mul_any (a b : V) (ha : -9223372036854775808 ≤ a.n ∧ a.n ≤ 9223372036854775807) (hb : -9223372036854775808 ≤ b.n ∧ b.n ≤ 9223372036854775807) (w : World) :
    Calls Try.prog 23 #[vV a, vV b] w fun e w' => e = .returned (.tuple #[vV (numV a b (wrap64 (a.n * b.n)) (okI (a.n * b.n))).1, .int .i64 (numV a b (wrap64 (a.n * b.n)) (okI (a.n * b.n))).2]) ∧ Fr noB w w' := by
  obtain ⟨hb0, hb1, hb3, hsz⟩ := trio_new w (.cells #[.int .u8 a.k, .int .i64 a.n, .int .i64 a.hi, .string a.t] 23) (.cells #[.int .u8 b.k, .int .i64 b.n, .int .i64 b.hi, .string b.t] 23) (.cells #[.int .u8 0, .int .i64 0, .int .i64 0, .string ⟨#[]⟩] 23)
  have hfw : Fr noB w (((w.alloc (.cells #[.int .u8 a.k, .int .i64 a.n, .int .i64 a.hi, .string a.t] 23)).alloc (.cells #[.int .u8 b.k, .int .i64 b.n, .int .i64 b.hi, .string b.t] 23)).alloc (.cells #[.int .u8 0, .int .i64 0, .int .i64 0, .string ⟨#[]⟩] 23)) := (((Fr.refl _ _).alloc _).alloc _).alloc _
  have hj : ∀ W : World, Calls Try.prog 65 #[vV a, vV b, .func (.func 68) #[] #[]] W fun e w' => e = .returned (.tuple #[vV (numV a b (wrap64 (a.n * b.n)) (okI (a.n * b.n))).1, .int .i64 (numV a b (wrap64 (a.n * b.n)) (okI (a.n * b.n))).2]) ∧ Fr noB W w' :=
    number_mul a b _ _ (fun W => mulc_any a.n b.n ha hb W)
  generalize numV a b (wrap64 (a.n * b.n)) (okI (a.n * b.n)) = r at *
  unfold vV at hj ⊢
  go_enter Try.func23, Try.ntmps23
  go_upto_region 1 with fail
  generalize (((w.alloc (.cells #[.int .u8 a.k, .int .i64 a.n, .int .i64 a.hi, .string a.t] 23)).alloc (.cells #[.int .u8 b.k, .int .i64 b.n, .int .i64 b.hi, .string b.t] 23)).alloc (.cells #[.int .u8 0, .int .i64 0, .int .i64 0, .string ⟨#[]⟩] 23)) = W0 at *
  obtain ⟨c0, c1, c2, c3⟩ := v_cells hb0
  obtain ⟨d0, d1, d2, d3⟩ := v_cells hb1
  have HJ := Lib.hid hj
  clear hj
  go_wp2_with fail
  refine (HJ.out _).mono ?_
  rintro e w1 ⟨rfl, hf1⟩
  have hb3 := hf1.obj (fun x => x) hb3
  have hz := frozen_of_obj hb3
  obtain ⟨z0, z1, z2, z3⟩ := v_cells (v := zV) hb3
  have hfw := hfw.trans hf1
  go_wp2_with fail
  refine bodyPost_ret (ret_val2 rfl _ _ (w.heap.size + 2) r.1 _ rfl rfl ?_) rfl ⟨?_, ?_⟩
  · exact obj_setCell (obj_setCell (obj_setCell (obj_setCell hb3 0 _) 1 _) 2 _) 3 _
  · rfl
  · exact ((((hfw.setCell (fun h => by dsimp only at h; omega) _).setCell (fun h => by dsimp only at h; omega) _).setCell (fun h => by dsimp only at h; omega) _).setCell (fun h => by dsimp only at h; omega) _)

end Go.Proofs.Ytcncjghcnofioaa
