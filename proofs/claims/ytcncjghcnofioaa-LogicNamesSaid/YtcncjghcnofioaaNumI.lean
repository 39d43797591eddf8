/- What package logic's calls tell of two numbers. The condition: they are of 64 bits. -/
import Derived.Test.YtcncjghcnofioaaLw
namespace Go.Proofs.Ytcncjghcnofioaa
open Go.RowKit

/-- What a call tells of numbers: the number, if it is one. -/
def rV (b : Bool) (r : Int) : V := if b = true then intV r else zV
theorem wrap_ok {z : Int} (h : okI z = true) : wrap64 z = z := by
  simp only [okI, Bool.and_eq_true, decide_eq_true_eq] at h
  unfold wrap64
  omega
theorem numV_int (n m r : Int) : numV (intV n) (intV m) (wrap64 r) (okI r) = (rV (okI r) r, if okI r = true then 0 else 61) := by
  have h1 : (areB 1 (intV n) && areB 1 (intV m)) = true := rfl
  have h2 : (nullB (intV n) || nullB (intV m)) = false := rfl
  unfold numV rV
  rw [h1, h2, if_neg (by decide), if_neg (by decide)]
  cases h : okI r
  · rfl
  · rw [wrap_ok h]; rfl
theorem numV_null (m r : Int) (b : Bool) : numV zV (intV m) r b = (zV, 0) := rfl
theorem neqv_of {a b : V} (h : a = b) (w : World) : (binOp .neq 23 (.agg #[.int .u8 a.k, .int .i64 a.n, .int .i64 a.hi, .string a.t]) (.agg #[.int .u8 b.k, .int .i64 b.n, .int .i64 b.hi, .string b.t])).run Try.prog w = .ok (.bool false) w := by
  rw [neqv_run, (eqV_iff a b).2 h]; rfl
theorem eqv_of {a b : V} (h : a = b) (w : World) : (binOp .eql 23 (.agg #[.int .u8 a.k, .int .i64 a.n, .int .i64 a.hi, .string a.t]) (.agg #[.int .u8 b.k, .int .i64 b.n, .int .i64 b.hi, .string b.t])).run Try.prog w = .ok (.bool true) w := by
  rw [eqv_run, (eqV_iff a b).2 h]
theorem sixty (b : Bool) : ((if b = true then (0 : Int) else 61) == 0) = b := by cases b <;> rfl

theorem okz (n m : Int) (h : okI (n * m) = false) : (n == 0) = false ∧ (m == 0) = false := by
  constructor
  · rw [beq_eq_false_iff_ne]
    intro e
    rw [e, Int.zero_mul] at h
    exact absurd h (by decide)
  · rw [beq_eq_false_iff_ne]
    intro e
    rw [e, Int.mul_zero] at h
    exact absurd h (by decide)
theorem okneg (m : Int) (hm : -9223372036854775808 ≤ m ∧ m ≤ 9223372036854775807) : (m != -9223372036854775808) = okI (0 - m) := by
  unfold okI
  by_cases h : m = -9223372036854775808
  · rw [h]; decide
  · rw [decide_eq_true (show -9223372036854775808 ≤ 0 - m by omega), decide_eq_true (show 0 - m ≤ 9223372036854775807 by omega)]
    simpa using h

theorem two_add_i (n m : Int) (hn : -9223372036854775808 ≤ n ∧ n ≤ 9223372036854775807) (hm : -9223372036854775808 ≤ m ∧ m ≤ 9223372036854775807) (w : World) :
    Calls Try.prog 20 #[.func (.func 21) #[] #[], .agg #[.int .u8 1, .int .i64 n, .int .i64 0, .string ⟨#[]⟩], .agg #[.int .u8 1, .int .i64 m, .int .i64 0, .string ⟨#[]⟩]] w fun e w' => e = .returned (.tuple #[.agg #[.int .u8 (rV (okI (n + m)) (n + m)).k, .int .i64 (rV (okI (n + m)) (n + m)).n, .int .i64 (rV (okI (n + m)) (n + m)).hi, .string (rV (okI (n + m)) (n + m)).t], .bool (okI (n + m))]) ∧ Fr noB w w' := by
  have h := two_add (intV n) (intV m) hn hm w
  simp only [intV] at h
  rw [show numV { k := 1, n := n, hi := 0, t := ⟨#[]⟩ } { k := 1, n := m, hi := 0, t := ⟨#[]⟩ } (wrap64 (n + m)) (okI (n + m)) = (rV (okI (n + m)) (n + m), if okI (n + m) = true then 0 else 61) from numV_int n m (n + m)] at h
  simp only [sixty] at h
  exact h
theorem two_sub_i (n m : Int) (hn : -9223372036854775808 ≤ n ∧ n ≤ 9223372036854775807) (hm : -9223372036854775808 ≤ m ∧ m ≤ 9223372036854775807) (w : World) :
    Calls Try.prog 20 #[.func (.func 22) #[] #[], .agg #[.int .u8 1, .int .i64 n, .int .i64 0, .string ⟨#[]⟩], .agg #[.int .u8 1, .int .i64 m, .int .i64 0, .string ⟨#[]⟩]] w fun e w' => e = .returned (.tuple #[.agg #[.int .u8 (rV (okI (n - m)) (n - m)).k, .int .i64 (rV (okI (n - m)) (n - m)).n, .int .i64 (rV (okI (n - m)) (n - m)).hi, .string (rV (okI (n - m)) (n - m)).t], .bool (okI (n - m))]) ∧ Fr noB w w' := by
  have h := two_sub (intV n) (intV m) hn hm w
  simp only [intV] at h
  rw [show numV { k := 1, n := n, hi := 0, t := ⟨#[]⟩ } { k := 1, n := m, hi := 0, t := ⟨#[]⟩ } (wrap64 (n - m)) (okI (n - m)) = (rV (okI (n - m)) (n - m), if okI (n - m) = true then 0 else 61) from numV_int n m (n - m)] at h
  simp only [sixty] at h
  exact h
theorem two_mul_i (n m : Int) (hn : -9223372036854775808 ≤ n ∧ n ≤ 9223372036854775807) (hm : -9223372036854775808 ≤ m ∧ m ≤ 9223372036854775807) (w : World) :
    Calls Try.prog 20 #[.func (.func 23) #[] #[], .agg #[.int .u8 1, .int .i64 n, .int .i64 0, .string ⟨#[]⟩], .agg #[.int .u8 1, .int .i64 m, .int .i64 0, .string ⟨#[]⟩]] w fun e w' => e = .returned (.tuple #[.agg #[.int .u8 (rV (okI (n * m)) (n * m)).k, .int .i64 (rV (okI (n * m)) (n * m)).n, .int .i64 (rV (okI (n * m)) (n * m)).hi, .string (rV (okI (n * m)) (n * m)).t], .bool (okI (n * m))]) ∧ Fr noB w w' := by
  have h := two_mul (intV n) (intV m) hn hm w
  simp only [intV] at h
  rw [show numV { k := 1, n := n, hi := 0, t := ⟨#[]⟩ } { k := 1, n := m, hi := 0, t := ⟨#[]⟩ } (wrap64 (n * m)) (okI (n * m)) = (rV (okI (n * m)) (n * m), if okI (n * m) = true then 0 else 61) from numV_int n m (n * m)] at h
  simp only [sixty] at h
  exact h

end Go.Proofs.Ytcncjghcnofioaa
