/- The walks of cmp.Compare over int64 and uint64, of package logic's size, of strings.Compare. No condition. -/
import Derived.Test.YtcncjghcnofioaaLogicD
import Derived.Lib.Bytealg
namespace Go.Proofs.Ytcncjghcnofioaa
open Go.RowKit

def cmpI (x y : Int) : Int := if x < y then -1 else if y < x then 1 else 0

set_option maxHeartbeats 1000000 in
theorem nan64_any (x : Int) (w : World) : Calls Try.prog 93 #[.int .i64 x] w fun e w' => e = .returned (.bool false) ∧ w = w' := by
  go_enter Try.func93, Try.ntmps93
  go_wp2
  go_ret
  exact ⟨rfl, rfl⟩
set_option maxHeartbeats 1000000 in
theorem nanu_any (x : Int) (w : World) : Calls Try.prog 109 #[.int .u64 x] w fun e w' => e = .returned (.bool false) ∧ w = w' := by
  go_enter Try.func109, Try.ntmps109
  go_wp2
  go_ret
  exact ⟨rfl, rfl⟩
set_option maxHeartbeats 1000000 in
theorem cmp64_any (x y : Int) (w : World) : Calls Try.prog 86 #[.int .i64 x, .int .i64 y] w fun e w' => e = .returned (.int .i64 (cmpI x y)) ∧ w = w' := by
  by_cases h1 : x < y
  · have HR := Lib.hid (show cmpI x y = -1 by simp [cmpI, h1])
    go_enter Try.func86, Try.ntmps86
    go_wp2_with (go_at_call 93; refine (nan64_any _ _).mono ?_; rintro e w' ⟨rfl, rfl⟩)
    go_ret
    exact ⟨by rw [HR.out] <;> rfl, rfl⟩
  · by_cases h2 : y < x
    · have HR := Lib.hid (show cmpI x y = 1 by simp [cmpI, h1, h2])
      go_enter Try.func86, Try.ntmps86
      go_wp2_with (go_at_call 93; refine (nan64_any _ _).mono ?_; rintro e w' ⟨rfl, rfl⟩)
      go_ret
      exact ⟨by rw [HR.out] <;> rfl, rfl⟩
    · have HR := Lib.hid (show cmpI x y = 0 by simp [cmpI, h1, h2])
      go_enter Try.func86, Try.ntmps86
      go_wp2_with (go_at_call 93; refine (nan64_any _ _).mono ?_; rintro e w' ⟨rfl, rfl⟩)
      go_ret
      exact ⟨by rw [HR.out] <;> rfl, rfl⟩

set_option maxHeartbeats 1000000 in
theorem cmpu_any (x y : Int) (w : World) : Calls Try.prog 97 #[.int .u64 x, .int .u64 y] w fun e w' => e = .returned (.int .i64 (cmpI x y)) ∧ w = w' := by
  by_cases h1 : x < y
  · have HR := Lib.hid (show cmpI x y = -1 by simp [cmpI, h1])
    go_enter Try.func97, Try.ntmps97
    go_wp2_with (go_at_call 109; refine (nanu_any _ _).mono ?_; rintro e w' ⟨rfl, rfl⟩)
    go_ret
    exact ⟨by rw [HR.out] <;> rfl, rfl⟩
  · by_cases h2 : y < x
    · have HR := Lib.hid (show cmpI x y = 1 by simp [cmpI, h1, h2])
      go_enter Try.func97, Try.ntmps97
      go_wp2_with (go_at_call 109; refine (nanu_any _ _).mono ?_; rintro e w' ⟨rfl, rfl⟩)
      go_ret
      exact ⟨by rw [HR.out] <;> rfl, rfl⟩
    · have HR := Lib.hid (show cmpI x y = 0 by simp [cmpI, h1, h2])
      go_enter Try.func97, Try.ntmps97
      go_wp2_with (go_at_call 109; refine (nanu_any _ _).mono ?_; rintro e w' ⟨rfl, rfl⟩)
      go_ret
      exact ⟨by rw [HR.out] <;> rfl, rfl⟩

set_option maxHeartbeats 1000000 in
theorem size_any (x : Int) (hx : -9223372036854775808 ≤ x ∧ x ≤ 9223372036854775807) (w : World) : Calls Try.prog 70 #[.int .i64 x] w fun e w' => e = .returned (.int .u64 (x.natAbs : Int)) ∧ w = w' := by
  obtain ⟨hx1, hx2⟩ := hx
  by_cases h : x < 0
  · have HR := Lib.hid (show ((x.natAbs : Nat) : Int) = -x by omega)
    go_enter Try.func70, Try.ntmps70
    go_wp2_with fail
    go_ret
    refine ⟨?_, rfl⟩
    rw [HR.out]
    have e : IntKind.u64.wrap (-IntKind.u64.wrap x) = -x := by
      simp [IntKind.wrap, IntKind.signed, IntKind.bits]
      omega
    rw [← e]
    rfl
  · have HR := Lib.hid (show ((x.natAbs : Nat) : Int) = x by omega)
    go_enter Try.func70, Try.ntmps70
    go_wp2_with fail
    go_ret
    refine ⟨?_, rfl⟩
    rw [HR.out] <;> rfl

set_option maxHeartbeats 1000000 in
theorem less1_any (n : Int) (w : World) : Calls Try.prog 63 #[.int .i64 n] w fun e w' => e = .returned (.bool (decide (n < 0))) ∧ w = w' := by
  go_enter Try.func63, Try.ntmps63
  go_wp2
  go_ret
  exact ⟨rfl, rfl⟩
set_option maxHeartbeats 1000000 in
theorem equal1_any (n : Int) (w : World) : Calls Try.prog 64 #[.int .i64 n] w fun e w' => e = .returned (.bool (n == 0)) ∧ w = w' := by
  go_enter Try.func64, Try.ntmps64
  go_wp2
  go_ret
  exact ⟨rfl, rfl⟩

end Go.Proofs.Ytcncjghcnofioaa
