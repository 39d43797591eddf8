/- The walk of LogicTells. No condition. -/
import Derived.Test.YtcncjghcnofioaaRef6
import Derived.Test.YtcncjghcnofioaaAwake
import Derived.Test.YtcncjghcnofioaaLogicM
import Derived.Test.YtcncjghcnofioaaLogicI
import Derived.Test.YtcncjghcnofioaaReadV
import Derived.Test.YtcncjghcnofioaaExt
namespace Go.Proofs.Ytcncjghcnofioaa
open Go.RowKit

theorem eqv_lit (a b : V) (r : Bool) (h : eqV a b = r) (w : World) : (binOp .eql 23 (.agg #[.int .u8 a.k, .int .i64 a.n, .int .i64 a.hi, .string a.t]) (.agg #[.int .u8 b.k, .int .i64 b.n, .int .i64 b.hi, .string b.t])).run Try.prog w = .ok (.bool r) w := by
  rw [eqv_run, h]
theorem neqv_lit (a b : V) (r : Bool) (h : eqV a b = !r) (w : World) : (binOp .neq 23 (.agg #[.int .u8 a.k, .int .i64 a.n, .int .i64 a.hi, .string a.t]) (.agg #[.int .u8 b.k, .int .i64 b.n, .int .i64 b.hi, .string b.t])).run Try.prog w = .ok (.bool r) w := by
  rw [neqv_run, h, Bool.not_not]

set_option maxRecDepth 100000 in
set_option maxHeartbeats 4000000 in
theorem tells_law (a b : V) (n : Int) (is : Bool) (ha : -9223372036854775808 ≤ a.n ∧ a.n ≤ 9223372036854775807) (hb : -9223372036854775808 ≤ b.n ∧ b.n ≤ 9223372036854775807) (w : World) :
    Calls Try.prog 7 #[vV a, vV b, .int .i64 n, .bool is] w fun e w' => e = .returned (.bool true) ∧ Fr noB w w' := by
  have HAw := Lib.hid (fun W : World => awake_any W)
  obtain ⟨N, hN⟩ : ∃ z, z = notV a := ⟨_, rfl⟩
  have HN := Lib.hid (show ∀ W : World, Calls Try.prog 27 #[.agg #[.int .u8 a.k, .int .i64 a.n, .int .i64 a.hi, .string a.t]] W fun e w' => e = .returned (.tuple #[.agg #[.int .u8 N.1.k, .int .i64 N.1.n, .int .i64 N.1.hi, .string N.1.t], .int .i64 N.2]) ∧ Fr noB W w' from fun W => by rw [hN]; exact not_any a W)
  have KN := Lib.hid (show ∀ W : World, Calls Try.prog 37 #[.agg #[.int .u8 a.k, .int .i64 a.n, .int .i64 a.hi, .string a.t]] W fun e w' => e = .returned (.tuple #[.agg #[.int .u8 N.1.k, .int .i64 N.1.n, .int .i64 N.1.hi, .string N.1.t], .int .i64 N.2]) ∧ Fr noB W w' from fun W => by rw [hN]; exact rnot_any a W)
  have qN := Lib.hid (show ∀ W : World, (binOp .neq 23 (.agg #[.int .u8 N.1.k, .int .i64 N.1.n, .int .i64 N.1.hi, .string N.1.t]) (.agg #[.int .u8 N.1.k, .int .i64 N.1.n, .int .i64 N.1.hi, .string N.1.t])).run Try.prog W = .ok (.bool false) W from neqv_lit N.1 N.1 false (eqV_self _))
  have eN := Lib.hid (show ∀ W : World, (binOp .eql 23 (.agg #[.int .u8 N.1.k, .int .i64 N.1.n, .int .i64 N.1.hi, .string N.1.t]) (.agg #[.int .u8 N.1.k, .int .i64 N.1.n, .int .i64 N.1.hi, .string N.1.t])).run Try.prog W = .ok (.bool true) W from eqv_lit N.1 N.1 true (eqV_self _))
  obtain ⟨G, hG⟩ : ∃ z, z = negV a := ⟨_, rfl⟩
  have HG := Lib.hid (show ∀ W : World, Calls Try.prog 24 #[.agg #[.int .u8 a.k, .int .i64 a.n, .int .i64 a.hi, .string a.t]] W fun e w' => e = .returned (.tuple #[.agg #[.int .u8 G.1.k, .int .i64 G.1.n, .int .i64 G.1.hi, .string G.1.t], .int .i64 G.2]) ∧ Fr noB W w' from fun W => by rw [hG]; exact neg_any a ha W)
  have KG := Lib.hid (show ∀ W : World, Calls Try.prog 38 #[.agg #[.int .u8 a.k, .int .i64 a.n, .int .i64 a.hi, .string a.t]] W fun e w' => e = .returned (.tuple #[.agg #[.int .u8 G.1.k, .int .i64 G.1.n, .int .i64 G.1.hi, .string G.1.t], .int .i64 G.2]) ∧ Fr noB W w' from fun W => by rw [hG]; exact rneg_any a ha W)
  have qG := Lib.hid (show ∀ W : World, (binOp .neq 23 (.agg #[.int .u8 G.1.k, .int .i64 G.1.n, .int .i64 G.1.hi, .string G.1.t]) (.agg #[.int .u8 G.1.k, .int .i64 G.1.n, .int .i64 G.1.hi, .string G.1.t])).run Try.prog W = .ok (.bool false) W from neqv_lit G.1 G.1 false (eqV_self _))
  have eG := Lib.hid (show ∀ W : World, (binOp .eql 23 (.agg #[.int .u8 G.1.k, .int .i64 G.1.n, .int .i64 G.1.hi, .string G.1.t]) (.agg #[.int .u8 G.1.k, .int .i64 G.1.n, .int .i64 G.1.hi, .string G.1.t])).run Try.prog W = .ok (.bool true) W from eqv_lit G.1 G.1 true (eqV_self _))
  obtain ⟨A, hA⟩ : ∃ z, z = joinV a b false := ⟨_, rfl⟩
  have HA := Lib.hid (show ∀ W : World, Calls Try.prog 29 #[.agg #[.int .u8 a.k, .int .i64 a.n, .int .i64 a.hi, .string a.t], .agg #[.int .u8 b.k, .int .i64 b.n, .int .i64 b.hi, .string b.t]] W fun e w' => e = .returned (.tuple #[.agg #[.int .u8 A.1.k, .int .i64 A.1.n, .int .i64 A.1.hi, .string A.1.t], .int .i64 A.2]) ∧ Fr noB W w' from fun W => by rw [hA]; exact and_any a b W)
  have KA := Lib.hid (show ∀ W : World, Calls Try.prog 39 #[.agg #[.int .u8 a.k, .int .i64 a.n, .int .i64 a.hi, .string a.t], .agg #[.int .u8 b.k, .int .i64 b.n, .int .i64 b.hi, .string b.t]] W fun e w' => e = .returned (.tuple #[.agg #[.int .u8 A.1.k, .int .i64 A.1.n, .int .i64 A.1.hi, .string A.1.t], .int .i64 A.2]) ∧ Fr noB W w' from fun W => by rw [hA]; exact rand_any a b W)
  have qA := Lib.hid (show ∀ W : World, (binOp .neq 23 (.agg #[.int .u8 A.1.k, .int .i64 A.1.n, .int .i64 A.1.hi, .string A.1.t]) (.agg #[.int .u8 A.1.k, .int .i64 A.1.n, .int .i64 A.1.hi, .string A.1.t])).run Try.prog W = .ok (.bool false) W from neqv_lit A.1 A.1 false (eqV_self _))
  have eA := Lib.hid (show ∀ W : World, (binOp .eql 23 (.agg #[.int .u8 A.1.k, .int .i64 A.1.n, .int .i64 A.1.hi, .string A.1.t]) (.agg #[.int .u8 A.1.k, .int .i64 A.1.n, .int .i64 A.1.hi, .string A.1.t])).run Try.prog W = .ok (.bool true) W from eqv_lit A.1 A.1 true (eqV_self _))
  obtain ⟨O, hO⟩ : ∃ z, z = joinV a b true := ⟨_, rfl⟩
  have HO := Lib.hid (show ∀ W : World, Calls Try.prog 31 #[.agg #[.int .u8 a.k, .int .i64 a.n, .int .i64 a.hi, .string a.t], .agg #[.int .u8 b.k, .int .i64 b.n, .int .i64 b.hi, .string b.t]] W fun e w' => e = .returned (.tuple #[.agg #[.int .u8 O.1.k, .int .i64 O.1.n, .int .i64 O.1.hi, .string O.1.t], .int .i64 O.2]) ∧ Fr noB W w' from fun W => by rw [hO]; exact or_any a b W)
  have KO := Lib.hid (show ∀ W : World, Calls Try.prog 40 #[.agg #[.int .u8 a.k, .int .i64 a.n, .int .i64 a.hi, .string a.t], .agg #[.int .u8 b.k, .int .i64 b.n, .int .i64 b.hi, .string b.t]] W fun e w' => e = .returned (.tuple #[.agg #[.int .u8 O.1.k, .int .i64 O.1.n, .int .i64 O.1.hi, .string O.1.t], .int .i64 O.2]) ∧ Fr noB W w' from fun W => by rw [hO]; exact ror_any a b W)
  have qO := Lib.hid (show ∀ W : World, (binOp .neq 23 (.agg #[.int .u8 O.1.k, .int .i64 O.1.n, .int .i64 O.1.hi, .string O.1.t]) (.agg #[.int .u8 O.1.k, .int .i64 O.1.n, .int .i64 O.1.hi, .string O.1.t])).run Try.prog W = .ok (.bool false) W from neqv_lit O.1 O.1 false (eqV_self _))
  have eO := Lib.hid (show ∀ W : World, (binOp .eql 23 (.agg #[.int .u8 O.1.k, .int .i64 O.1.n, .int .i64 O.1.hi, .string O.1.t]) (.agg #[.int .u8 O.1.k, .int .i64 O.1.n, .int .i64 O.1.hi, .string O.1.t])).run Try.prog W = .ok (.bool true) W from eqv_lit O.1 O.1 true (eqV_self _))
  obtain ⟨D, hD⟩ : ∃ z, z = numV a b (wrap64 (a.n + b.n)) (okI (a.n + b.n)) := ⟨_, rfl⟩
  have HD := Lib.hid (show ∀ W : World, Calls Try.prog 21 #[.agg #[.int .u8 a.k, .int .i64 a.n, .int .i64 a.hi, .string a.t], .agg #[.int .u8 b.k, .int .i64 b.n, .int .i64 b.hi, .string b.t]] W fun e w' => e = .returned (.tuple #[.agg #[.int .u8 D.1.k, .int .i64 D.1.n, .int .i64 D.1.hi, .string D.1.t], .int .i64 D.2]) ∧ Fr noB W w' from fun W => by rw [hD]; exact add_any a b ha hb W)
  have KD := Lib.hid (show ∀ W : World, Calls Try.prog 41 #[.agg #[.int .u8 a.k, .int .i64 a.n, .int .i64 a.hi, .string a.t], .agg #[.int .u8 b.k, .int .i64 b.n, .int .i64 b.hi, .string b.t]] W fun e w' => e = .returned (.tuple #[.agg #[.int .u8 D.1.k, .int .i64 D.1.n, .int .i64 D.1.hi, .string D.1.t], .int .i64 D.2]) ∧ Fr noB W w' from fun W => by rw [hD]; exact radd_any a b ha hb W)
  have qD := Lib.hid (show ∀ W : World, (binOp .neq 23 (.agg #[.int .u8 D.1.k, .int .i64 D.1.n, .int .i64 D.1.hi, .string D.1.t]) (.agg #[.int .u8 D.1.k, .int .i64 D.1.n, .int .i64 D.1.hi, .string D.1.t])).run Try.prog W = .ok (.bool false) W from neqv_lit D.1 D.1 false (eqV_self _))
  have eD := Lib.hid (show ∀ W : World, (binOp .eql 23 (.agg #[.int .u8 D.1.k, .int .i64 D.1.n, .int .i64 D.1.hi, .string D.1.t]) (.agg #[.int .u8 D.1.k, .int .i64 D.1.n, .int .i64 D.1.hi, .string D.1.t])).run Try.prog W = .ok (.bool true) W from eqv_lit D.1 D.1 true (eqV_self _))
  obtain ⟨S, hS⟩ : ∃ z, z = numV a b (wrap64 (a.n - b.n)) (okI (a.n - b.n)) := ⟨_, rfl⟩
  have HS := Lib.hid (show ∀ W : World, Calls Try.prog 22 #[.agg #[.int .u8 a.k, .int .i64 a.n, .int .i64 a.hi, .string a.t], .agg #[.int .u8 b.k, .int .i64 b.n, .int .i64 b.hi, .string b.t]] W fun e w' => e = .returned (.tuple #[.agg #[.int .u8 S.1.k, .int .i64 S.1.n, .int .i64 S.1.hi, .string S.1.t], .int .i64 S.2]) ∧ Fr noB W w' from fun W => by rw [hS]; exact sub_any a b ha hb W)
  have KS := Lib.hid (show ∀ W : World, Calls Try.prog 42 #[.agg #[.int .u8 a.k, .int .i64 a.n, .int .i64 a.hi, .string a.t], .agg #[.int .u8 b.k, .int .i64 b.n, .int .i64 b.hi, .string b.t]] W fun e w' => e = .returned (.tuple #[.agg #[.int .u8 S.1.k, .int .i64 S.1.n, .int .i64 S.1.hi, .string S.1.t], .int .i64 S.2]) ∧ Fr noB W w' from fun W => by rw [hS]; exact rsub_any a b ha hb W)
  have qS := Lib.hid (show ∀ W : World, (binOp .neq 23 (.agg #[.int .u8 S.1.k, .int .i64 S.1.n, .int .i64 S.1.hi, .string S.1.t]) (.agg #[.int .u8 S.1.k, .int .i64 S.1.n, .int .i64 S.1.hi, .string S.1.t])).run Try.prog W = .ok (.bool false) W from neqv_lit S.1 S.1 false (eqV_self _))
  have eS := Lib.hid (show ∀ W : World, (binOp .eql 23 (.agg #[.int .u8 S.1.k, .int .i64 S.1.n, .int .i64 S.1.hi, .string S.1.t]) (.agg #[.int .u8 S.1.k, .int .i64 S.1.n, .int .i64 S.1.hi, .string S.1.t])).run Try.prog W = .ok (.bool true) W from eqv_lit S.1 S.1 true (eqV_self _))
  obtain ⟨M, hM⟩ : ∃ z, z = numV a b (wrap64 (a.n * b.n)) (okI (a.n * b.n)) := ⟨_, rfl⟩
  have HM := Lib.hid (show ∀ W : World, Calls Try.prog 23 #[.agg #[.int .u8 a.k, .int .i64 a.n, .int .i64 a.hi, .string a.t], .agg #[.int .u8 b.k, .int .i64 b.n, .int .i64 b.hi, .string b.t]] W fun e w' => e = .returned (.tuple #[.agg #[.int .u8 M.1.k, .int .i64 M.1.n, .int .i64 M.1.hi, .string M.1.t], .int .i64 M.2]) ∧ Fr noB W w' from fun W => by rw [hM]; exact mul_any a b ha hb W)
  have KM := Lib.hid (show ∀ W : World, Calls Try.prog 43 #[.agg #[.int .u8 a.k, .int .i64 a.n, .int .i64 a.hi, .string a.t], .agg #[.int .u8 b.k, .int .i64 b.n, .int .i64 b.hi, .string b.t]] W fun e w' => e = .returned (.tuple #[.agg #[.int .u8 M.1.k, .int .i64 M.1.n, .int .i64 M.1.hi, .string M.1.t], .int .i64 M.2]) ∧ Fr noB W w' from fun W => by rw [hM]; exact rmul_any a b ha hb W)
  have qM := Lib.hid (show ∀ W : World, (binOp .neq 23 (.agg #[.int .u8 M.1.k, .int .i64 M.1.n, .int .i64 M.1.hi, .string M.1.t]) (.agg #[.int .u8 M.1.k, .int .i64 M.1.n, .int .i64 M.1.hi, .string M.1.t])).run Try.prog W = .ok (.bool false) W from neqv_lit M.1 M.1 false (eqV_self _))
  have eM := Lib.hid (show ∀ W : World, (binOp .eql 23 (.agg #[.int .u8 M.1.k, .int .i64 M.1.n, .int .i64 M.1.hi, .string M.1.t]) (.agg #[.int .u8 M.1.k, .int .i64 M.1.n, .int .i64 M.1.hi, .string M.1.t])).run Try.prog W = .ok (.bool true) W from eqv_lit M.1 M.1 true (eqV_self _))
  obtain ⟨E, hE⟩ : ∃ z, z = ordV a b (orderV a b == 0) := ⟨_, rfl⟩
  have HE := Lib.hid (show ∀ W : World, Calls Try.prog 17 #[.agg #[.int .u8 a.k, .int .i64 a.n, .int .i64 a.hi, .string a.t], .agg #[.int .u8 b.k, .int .i64 b.n, .int .i64 b.hi, .string b.t]] W fun e w' => e = .returned (.tuple #[.agg #[.int .u8 E.1.k, .int .i64 E.1.n, .int .i64 E.1.hi, .string E.1.t], .int .i64 E.2]) ∧ Fr noB W w' from fun W => by rw [hE]; exact equal_any a b ha hb W)
  have KE := Lib.hid (show ∀ W : World, Calls Try.prog 44 #[.agg #[.int .u8 a.k, .int .i64 a.n, .int .i64 a.hi, .string a.t], .agg #[.int .u8 b.k, .int .i64 b.n, .int .i64 b.hi, .string b.t]] W fun e w' => e = .returned (.tuple #[.agg #[.int .u8 E.1.k, .int .i64 E.1.n, .int .i64 E.1.hi, .string E.1.t], .int .i64 E.2]) ∧ Fr noB W w' from fun W => by rw [hE]; exact requal_any a b W)
  have qE := Lib.hid (show ∀ W : World, (binOp .neq 23 (.agg #[.int .u8 E.1.k, .int .i64 E.1.n, .int .i64 E.1.hi, .string E.1.t]) (.agg #[.int .u8 E.1.k, .int .i64 E.1.n, .int .i64 E.1.hi, .string E.1.t])).run Try.prog W = .ok (.bool false) W from neqv_lit E.1 E.1 false (eqV_self _))
  have eE := Lib.hid (show ∀ W : World, (binOp .eql 23 (.agg #[.int .u8 E.1.k, .int .i64 E.1.n, .int .i64 E.1.hi, .string E.1.t]) (.agg #[.int .u8 E.1.k, .int .i64 E.1.n, .int .i64 E.1.hi, .string E.1.t])).run Try.prog W = .ok (.bool true) W from eqv_lit E.1 E.1 true (eqV_self _))
  obtain ⟨L, hL⟩ : ∃ z, z = ordV a b (decide (orderV a b < 0)) := ⟨_, rfl⟩
  have HL := Lib.hid (show ∀ W : World, Calls Try.prog 16 #[.agg #[.int .u8 a.k, .int .i64 a.n, .int .i64 a.hi, .string a.t], .agg #[.int .u8 b.k, .int .i64 b.n, .int .i64 b.hi, .string b.t]] W fun e w' => e = .returned (.tuple #[.agg #[.int .u8 L.1.k, .int .i64 L.1.n, .int .i64 L.1.hi, .string L.1.t], .int .i64 L.2]) ∧ Fr noB W w' from fun W => by rw [hL]; exact less_any a b ha hb W)
  have KL := Lib.hid (show ∀ W : World, Calls Try.prog 45 #[.agg #[.int .u8 a.k, .int .i64 a.n, .int .i64 a.hi, .string a.t], .agg #[.int .u8 b.k, .int .i64 b.n, .int .i64 b.hi, .string b.t]] W fun e w' => e = .returned (.tuple #[.agg #[.int .u8 L.1.k, .int .i64 L.1.n, .int .i64 L.1.hi, .string L.1.t], .int .i64 L.2]) ∧ Fr noB W w' from fun W => by rw [hL]; exact rless_any a b W)
  have qL := Lib.hid (show ∀ W : World, (binOp .neq 23 (.agg #[.int .u8 L.1.k, .int .i64 L.1.n, .int .i64 L.1.hi, .string L.1.t]) (.agg #[.int .u8 L.1.k, .int .i64 L.1.n, .int .i64 L.1.hi, .string L.1.t])).run Try.prog W = .ok (.bool false) W from neqv_lit L.1 L.1 false (eqV_self _))
  have eL := Lib.hid (show ∀ W : World, (binOp .eql 23 (.agg #[.int .u8 L.1.k, .int .i64 L.1.n, .int .i64 L.1.hi, .string L.1.t]) (.agg #[.int .u8 L.1.k, .int .i64 L.1.n, .int .i64 L.1.hi, .string L.1.t])).run Try.prog W = .ok (.bool true) W from eqv_lit L.1 L.1 true (eqV_self _))
  obtain ⟨y, hy⟩ : ∃ z, z = yesB a := ⟨_, rfl⟩
  obtain ⟨OF, hOF⟩ : ∃ z, z = ofV is := ⟨_, rfl⟩
  obtain ⟨NU, hNU⟩ : ∃ z, z = ofV (nullB a) := ⟨_, rfl⟩
  obtain ⟨IT, hIT⟩ : ∃ z, z = intV n := ⟨_, rfl⟩
  have HY1 := Lib.hid (show ∀ W : World, Calls Try.prog 18 #[.agg #[.int .u8 a.k, .int .i64 a.n, .int .i64 a.hi, .string a.t]] W fun e w' => e = .returned (.bool y) ∧ Fr noB W w' from fun W => by rw [hy]; exact yes_any a W)
  have KY1 := Lib.hid (show ∀ W : World, Calls Try.prog 33 #[.agg #[.int .u8 a.k, .int .i64 a.n, .int .i64 a.hi, .string a.t]] W fun e w' => e = .returned (.bool y) ∧ Fr noB W w' from fun W => by rw [hy]; exact ryes_any a W)
  have HF1 := Lib.hid (show ∀ W : World, Calls Try.prog 25 #[.bool is] W fun e w' => e = .returned (.agg #[.int .u8 OF.k, .int .i64 OF.n, .int .i64 OF.hi, .string OF.t]) ∧ Fr noB W w' from fun W => by rw [hOF]; exact of_any is W)
  have KF1 := Lib.hid (show ∀ W : World, Calls Try.prog 32 #[.bool is] W fun e w' => e = .returned (.agg #[.int .u8 OF.k, .int .i64 OF.n, .int .i64 OF.hi, .string OF.t]) ∧ Fr noB W w' from fun W => by rw [hOF]; exact rof_any is W)
  have HI1 := Lib.hid (show ∀ W : World, Calls Try.prog 19 #[.int .i64 n] W fun e w' => e = .returned (.agg #[.int .u8 IT.k, .int .i64 IT.n, .int .i64 IT.hi, .string IT.t]) ∧ Fr noB W w' from fun W => by rw [hIT]; exact int_any n W)
  have KI1 := Lib.hid (show ∀ W : World, Calls Try.prog 34 #[.int .i64 n] W fun e w' => e = .returned (.agg #[.int .u8 IT.k, .int .i64 IT.n, .int .i64 IT.hi, .string IT.t]) ∧ Fr noB W w' from fun W => by rw [hIT]; exact rint_any n W)
  have HU1 := Lib.hid (show ∀ W : World, Calls Try.prog 35 #[.agg #[.int .u8 a.k, .int .i64 a.n, .int .i64 a.hi, .string a.t]] W fun e w' => e = .returned (.agg #[.int .u8 NU.k, .int .i64 NU.n, .int .i64 NU.hi, .string NU.t]) ∧ Fr noB W w' from fun W => by rw [hNU]; exact isnull_any a W)
  have KU1 := Lib.hid (show ∀ W : World, Calls Try.prog 36 #[.agg #[.int .u8 a.k, .int .i64 a.n, .int .i64 a.hi, .string a.t]] W fun e w' => e = .returned (.agg #[.int .u8 NU.k, .int .i64 NU.n, .int .i64 NU.hi, .string NU.t]) ∧ Fr noB W w' from fun W => by rw [hNU]; exact risnull_any a W)
  have qOF := Lib.hid (show ∀ W : World, (binOp .neq 23 (.agg #[.int .u8 OF.k, .int .i64 OF.n, .int .i64 OF.hi, .string OF.t]) (.agg #[.int .u8 OF.k, .int .i64 OF.n, .int .i64 OF.hi, .string OF.t])).run Try.prog W = .ok (.bool false) W from neqv_lit OF OF false (eqV_self _))
  have qIT := Lib.hid (show ∀ W : World, (binOp .neq 23 (.agg #[.int .u8 IT.k, .int .i64 IT.n, .int .i64 IT.hi, .string IT.t]) (.agg #[.int .u8 IT.k, .int .i64 IT.n, .int .i64 IT.hi, .string IT.t])).run Try.prog W = .ok (.bool false) W from neqv_lit IT IT false (eqV_self _))
  have qNU := Lib.hid (show ∀ W : World, (binOp .neq 23 (.agg #[.int .u8 NU.k, .int .i64 NU.n, .int .i64 NU.hi, .string NU.t]) (.agg #[.int .u8 NU.k, .int .i64 NU.n, .int .i64 NU.hi, .string NU.t])).run Try.prog W = .ok (.bool false) W from neqv_lit NU NU false (eqV_self _))
  clear ha hb hy hOF hNU hIT hN hG hA hO hD hS hM hE hL
  unfold vV
  go_enter Try.func7, Try.ntmps7
  go_upto_region 1 with fail
  have hfw_0 := Fr.refl noB w
  have hl := hfw_0.size
  refine wp_world (fun W => Fr noB w W ∧ Bx W w.heap.size a ∧ Bx W (w.heap.size + 1) b) ?_ ?_
  · refine ⟨?_, ?_, ?_⟩ <;> ((first | unfold Bx | unfold Bl | skip); repeat (first | with_reducible exact hfw_0 | with_reducible refine Fr.alloc ?_ _ | (with_reducible refine Fr.setCell ?_ ?_ _; rotate_left; (intro h; dsimp only at h; omega)) | with_reducible refine Fr.drew ?_ | (with_reducible refine obj_alloc_at ?_; simp; done) | (with_reducible apply obj_put4; omega) | (with_reducible apply obj_put1; omega) | (with_reducible refine obj_setCell_other ?_ _ _ ?_; rotate_left; (dsimp only; omega)) | with_reducible refine obj_alloc ?_ _ | with_reducible refine obj_drew ?_ | exact hfw_0))
  clear hl hfw_0
  rintro w1 ⟨hfw_1, hba_1, hbb_1⟩
  obtain ⟨ca_0, ca_1, ca_2, ca_3, za⟩ := hba_1.cs
  obtain ⟨cb_0, cb_1, cb_2, cb_3, zb⟩ := hbb_1.cs
  by_cases p1 : (2000 : Int) < (a.t.size : Int)
  · go_wp2_with fail
    refine (HAw.out _).mono ?_
    rintro e w2 ⟨rfl, hf2⟩
    have la := hba_1.lt
    have lb := hbb_1.lt
    have hl := hfw_1.size
    have hB : Bx w2 w.heap.size a ∧ Bx w2 (w.heap.size + 1) b := by
      refine ⟨?_, ?_⟩ <;> ((first | unfold Bx | unfold Bl | skip); refine hf2.obj (noB_not _) ?_; repeat (first | with_reducible exact hba_1.raw | with_reducible exact hbb_1.raw | (with_reducible refine obj_alloc_at ?_; simp; done) | (with_reducible apply obj_put4; omega) | (with_reducible apply obj_put1; omega) | (with_reducible refine obj_setCell_other ?_ _ _ ?_; rotate_left; (dsimp only; omega)) | with_reducible refine obj_alloc ?_ _ | with_reducible refine obj_drew ?_))
    obtain ⟨hba_2, hbb_2⟩ := hB
    have hfw_2 : Fr noB w w2 := by
      refine Fr.transN ?_ hf2
      repeat (first | with_reducible exact hfw_1 | with_reducible refine Fr.alloc ?_ _ | (with_reducible refine Fr.setCell ?_ ?_ _; rotate_left; (intro h; dsimp only at h; omega)) | with_reducible refine Fr.drew ?_ | exact hfw_1)
    clear hba_1 hbb_1 la lb hl ca_0 ca_1 ca_2 ca_3 za cb_0 cb_1 cb_2 cb_3 zb hf2 hfw_1
    obtain ⟨ca_0, ca_1, ca_2, ca_3, za⟩ := hba_2.cs
    obtain ⟨cb_0, cb_1, cb_2, cb_3, zb⟩ := hbb_2.cs
    go_wp2_with fail
    have la := hba_2.lt
    have lb := hbb_2.lt
    have hl := hfw_2.size
    go_ret
    refine ⟨?_, ?_⟩
    · rfl
    · skip
      repeat (first | with_reducible exact hfw_2 | with_reducible refine Fr.alloc ?_ _ | (with_reducible refine Fr.setCell ?_ ?_ _; rotate_left; (intro h; dsimp only at h; omega)) | with_reducible refine Fr.drew ?_ | exact hfw_2)
  · by_cases p2 : (2000 : Int) < (b.t.size : Int)
    · go_wp2_with fail
      refine (HAw.out _).mono ?_
      rintro e w2 ⟨rfl, hf2⟩
      have la := hba_1.lt
      have lb := hbb_1.lt
      have hl := hfw_1.size
      have hB : Bx w2 w.heap.size a ∧ Bx w2 (w.heap.size + 1) b := by
        refine ⟨?_, ?_⟩ <;> ((first | unfold Bx | unfold Bl | skip); refine hf2.obj (noB_not _) ?_; repeat (first | with_reducible exact hba_1.raw | with_reducible exact hbb_1.raw | (with_reducible refine obj_alloc_at ?_; simp; done) | (with_reducible apply obj_put4; omega) | (with_reducible apply obj_put1; omega) | (with_reducible refine obj_setCell_other ?_ _ _ ?_; rotate_left; (dsimp only; omega)) | with_reducible refine obj_alloc ?_ _ | with_reducible refine obj_drew ?_))
      obtain ⟨hba_2, hbb_2⟩ := hB
      have hfw_2 : Fr noB w w2 := by
        refine Fr.transN ?_ hf2
        repeat (first | with_reducible exact hfw_1 | with_reducible refine Fr.alloc ?_ _ | (with_reducible refine Fr.setCell ?_ ?_ _; rotate_left; (intro h; dsimp only at h; omega)) | with_reducible refine Fr.drew ?_ | exact hfw_1)
      clear hba_1 hbb_1 la lb hl ca_0 ca_1 ca_2 ca_3 za cb_0 cb_1 cb_2 cb_3 zb hf2 hfw_1
      obtain ⟨ca_0, ca_1, ca_2, ca_3, za⟩ := hba_2.cs
      obtain ⟨cb_0, cb_1, cb_2, cb_3, zb⟩ := hbb_2.cs
      go_wp2_with fail
      have la := hba_2.lt
      have lb := hbb_2.lt
      have hl := hfw_2.size
      go_ret
      refine ⟨?_, ?_⟩
      · rfl
      · skip
        repeat (first | with_reducible exact hfw_2 | with_reducible refine Fr.alloc ?_ _ | (with_reducible refine Fr.setCell ?_ ?_ _; rotate_left; (intro h; dsimp only at h; omega)) | with_reducible refine Fr.drew ?_ | exact hfw_2)
    · go_upto_region 3 with fail
      have la := hba_1.lt
      have lb := hbb_1.lt
      have hl := hfw_1.size
      refine wp_world (fun W => Fr noB w W ∧ Bx W w.heap.size a ∧ Bx W (w.heap.size + 1) b) ?_ ?_
      · refine ⟨?_, ?_, ?_⟩ <;> ((first | unfold Bx | unfold Bl | skip); repeat (first | with_reducible exact hfw_1 | with_reducible refine Fr.alloc ?_ _ | (with_reducible refine Fr.setCell ?_ ?_ _; rotate_left; (intro h; dsimp only at h; omega)) | with_reducible refine Fr.drew ?_ | with_reducible exact hba_1.raw | with_reducible exact hbb_1.raw | (with_reducible refine obj_alloc_at ?_; simp; done) | (with_reducible apply obj_put4; omega) | (with_reducible apply obj_put1; omega) | (with_reducible refine obj_setCell_other ?_ _ _ ?_; rotate_left; (dsimp only; omega)) | with_reducible refine obj_alloc ?_ _ | with_reducible refine obj_drew ?_ | exact hfw_1))
      clear hba_1 hbb_1 la lb hl ca_0 ca_1 ca_2 ca_3 za cb_0 cb_1 cb_2 cb_3 zb hfw_1
      rintro w2 ⟨hfw_2, hba_2, hbb_2⟩
      obtain ⟨ca_0, ca_1, ca_2, ca_3, za⟩ := hba_2.cs
      obtain ⟨cb_0, cb_1, cb_2, cb_3, zb⟩ := hbb_2.cs
      clear p1 p2
      have qOFx := qOF.out
      have qITx := qIT.out
      have qNUx := qNU.out
      have yy : (y != y) = false := by simp
      have xa0 := Ext.cell ca_0
      have xa1 := Ext.cell ca_1
      have xa2 := Ext.cell ca_2
      have xa3 := Ext.cell ca_3
      have xb0 := Ext.cell cb_0
      have xb1 := Ext.cell cb_1
      have xb2 := Ext.cell cb_2
      have xb3 := Ext.cell cb_3
      clear ca_0 ca_1 ca_2 ca_3 za cb_0 cb_1 cb_2 cb_3 zb
      refine wp_region_ext (by kernel_rfl) (by kernel_rfl) ?_
      repeat (go_big_quiet_step ((first | (go_at_call 18; exact Ext.calls (HY1.out _)) | (go_at_call 33; exact Ext.calls (KY1.out _)) | (go_at_call 25; exact Ext.calls (HF1.out _)) | (go_at_call 32; exact Ext.calls (KF1.out _)) | (go_at_call 19; exact Ext.calls (HI1.out _)) | (go_at_call 34; exact Ext.calls (KI1.out _)) | (go_at_call 35; exact Ext.calls (HU1.out _)) | (go_at_call 36; exact Ext.calls (KU1.out _)))))
      refine wpQuiet_nil ?_
      rintro _ ⟨⟨w3, hf3⟩, rfl⟩
      clear qOFx qITx qNUx yy xa0 xa1 xa2 xa3 xb0 xb1 xb2 xb3
      have hba_4 := hba_2.mv hf3
      have hbb_4 := hbb_2.mv hf3
      have hfw_4 := hfw_2.transN hf3
      clear hba_2 hbb_2 hf3 hfw_2
      obtain ⟨ca_0, ca_1, ca_2, ca_3, za⟩ := hba_4.cs
      obtain ⟨cb_0, cb_1, cb_2, cb_3, zb⟩ := hbb_4.cs
      go_wp2_with fail
      refine (HN.out _).mono ?_
      rintro e w5 ⟨rfl, hf5⟩
      have la := hba_4.lt
      have lb := hbb_4.lt
      have hl := hfw_4.size
      have hB : Bx w5 w.heap.size a ∧ Bx w5 (w.heap.size + 1) b := by
        refine ⟨?_, ?_⟩ <;> ((first | unfold Bx | unfold Bl | skip); refine hf5.obj (noB_not _) ?_; repeat (first | with_reducible exact hba_4.raw | with_reducible exact hbb_4.raw | (with_reducible refine obj_alloc_at ?_; simp; done) | (with_reducible apply obj_put4; omega) | (with_reducible apply obj_put1; omega) | (with_reducible refine obj_setCell_other ?_ _ _ ?_; rotate_left; (dsimp only; omega)) | with_reducible refine obj_alloc ?_ _ | with_reducible refine obj_drew ?_))
      obtain ⟨hba_5, hbb_5⟩ := hB
      have hfw_5 : Fr noB w w5 := by
        refine Fr.transN ?_ hf5
        repeat (first | with_reducible exact hfw_4 | with_reducible refine Fr.alloc ?_ _ | (with_reducible refine Fr.setCell ?_ ?_ _; rotate_left; (intro h; dsimp only at h; omega)) | with_reducible refine Fr.drew ?_ | exact hfw_4)
      clear hba_4 hbb_4 la lb hl ca_0 ca_1 ca_2 ca_3 za cb_0 cb_1 cb_2 cb_3 zb hf5 hfw_4
      obtain ⟨ca_0, ca_1, ca_2, ca_3, za⟩ := hba_5.cs
      obtain ⟨cb_0, cb_1, cb_2, cb_3, zb⟩ := hbb_5.cs
      go_upto_region 6 with fail
      have o0 := Lib.hid (hbb_5.lt)
      have la := hba_5.lt
      have lb := hbb_5.lt
      have hl := hfw_5.size
      have po0 := o0.out
      refine wp_world (fun W => Fr noB w W ∧ Bx W w.heap.size a ∧ Bx W (w.heap.size + 1) b ∧ Bx W w5.heap.size N.1) ?_ ?_
      · refine ⟨?_, ?_, ?_, ?_⟩ <;> ((first | unfold Bx | unfold Bl | skip); repeat (first | with_reducible exact hfw_5 | with_reducible refine Fr.alloc ?_ _ | (with_reducible refine Fr.setCell ?_ ?_ _; rotate_left; (intro h; dsimp only at h; omega)) | with_reducible refine Fr.drew ?_ | with_reducible exact hba_5.raw | with_reducible exact hbb_5.raw | (with_reducible refine obj_alloc_at ?_; simp; done) | (with_reducible apply obj_put4; omega) | (with_reducible apply obj_put1; omega) | (with_reducible refine obj_setCell_other ?_ _ _ ?_; rotate_left; (dsimp only; omega)) | with_reducible refine obj_alloc ?_ _ | with_reducible refine obj_drew ?_ | exact hfw_5))
      clear hba_5 hbb_5 la lb hl po0 ca_0 ca_1 ca_2 ca_3 za cb_0 cb_1 cb_2 cb_3 zb hfw_5
      rintro w6 ⟨hfw_6, hba_6, hbb_6, hbc_6⟩
      obtain ⟨ca_0, ca_1, ca_2, ca_3, za⟩ := hba_6.cs
      obtain ⟨cb_0, cb_1, cb_2, cb_3, zb⟩ := hbb_6.cs
      obtain ⟨cc_0, cc_1, cc_2, cc_3, zc⟩ := hbc_6.cs
      go_wp2_with fail
      refine (KN.out _).mono ?_
      rintro e w7 ⟨rfl, hf7⟩
      have la := hba_6.lt
      have lb := hbb_6.lt
      have lc := hbc_6.lt
      have hl := hfw_6.size
      have po0 := o0.out
      have hB : Bx w7 w.heap.size a ∧ Bx w7 (w.heap.size + 1) b ∧ Bx w7 w5.heap.size N.1 := by
        refine ⟨?_, ?_, ?_⟩ <;> ((first | unfold Bx | unfold Bl | skip); refine hf7.obj (noB_not _) ?_; repeat (first | with_reducible exact hba_6.raw | with_reducible exact hbb_6.raw | with_reducible exact hbc_6.raw | (with_reducible refine obj_alloc_at ?_; simp; done) | (with_reducible apply obj_put4; omega) | (with_reducible apply obj_put1; omega) | (with_reducible refine obj_setCell_other ?_ _ _ ?_; rotate_left; (dsimp only; omega)) | with_reducible refine obj_alloc ?_ _ | with_reducible refine obj_drew ?_))
      obtain ⟨hba_7, hbb_7, hbc_7⟩ := hB
      have hfw_7 : Fr noB w w7 := by
        refine Fr.transN ?_ hf7
        repeat (first | with_reducible exact hfw_6 | with_reducible refine Fr.alloc ?_ _ | (with_reducible refine Fr.setCell ?_ ?_ _; rotate_left; (intro h; dsimp only at h; omega)) | with_reducible refine Fr.drew ?_ | exact hfw_6)
      clear hba_6 hbb_6 hbc_6 la lb lc hl po0 ca_0 ca_1 ca_2 ca_3 za cb_0 cb_1 cb_2 cb_3 zb cc_0 cc_1 cc_2 cc_3 zc hf7 hfw_6
      obtain ⟨ca_0, ca_1, ca_2, ca_3, za⟩ := hba_7.cs
      obtain ⟨cb_0, cb_1, cb_2, cb_3, zb⟩ := hbb_7.cs
      obtain ⟨cc_0, cc_1, cc_2, cc_3, zc⟩ := hbc_7.cs
      go_upto_region 7 with fail
      have o1 := Lib.hid (hbc_7.lt)
      have la := hba_7.lt
      have lb := hbb_7.lt
      have lc := hbc_7.lt
      have hl := hfw_7.size
      have po0 := o0.out
      have po1 := o1.out
      refine wp_world (fun W => Fr noB w W ∧ Bx W w.heap.size a ∧ Bx W (w.heap.size + 1) b ∧ Bx W w5.heap.size N.1 ∧ Bx W w7.heap.size N.1) ?_ ?_
      · refine ⟨?_, ?_, ?_, ?_, ?_⟩ <;> ((first | unfold Bx | unfold Bl | skip); repeat (first | with_reducible exact hfw_7 | with_reducible refine Fr.alloc ?_ _ | (with_reducible refine Fr.setCell ?_ ?_ _; rotate_left; (intro h; dsimp only at h; omega)) | with_reducible refine Fr.drew ?_ | with_reducible exact hba_7.raw | with_reducible exact hbb_7.raw | with_reducible exact hbc_7.raw | (with_reducible refine obj_alloc_at ?_; simp; done) | (with_reducible apply obj_put4; omega) | (with_reducible apply obj_put1; omega) | (with_reducible refine obj_setCell_other ?_ _ _ ?_; rotate_left; (dsimp only; omega)) | with_reducible refine obj_alloc ?_ _ | with_reducible refine obj_drew ?_ | exact hfw_7))
      clear hba_7 hbb_7 hbc_7 la lb lc hl po0 po1 ca_0 ca_1 ca_2 ca_3 za cb_0 cb_1 cb_2 cb_3 zb cc_0 cc_1 cc_2 cc_3 zc hfw_7
      rintro w8 ⟨hfw_8, hba_8, hbb_8, hbc_8, hbd_8⟩
      obtain ⟨ca_0, ca_1, ca_2, ca_3, za⟩ := hba_8.cs
      obtain ⟨cb_0, cb_1, cb_2, cb_3, zb⟩ := hbb_8.cs
      obtain ⟨cc_0, cc_1, cc_2, cc_3, zc⟩ := hbc_8.cs
      obtain ⟨cd_0, cd_1, cd_2, cd_3, zd⟩ := hbd_8.cs
      go_wp2_with fail
      refine (HG.out _).mono ?_
      rintro e w9 ⟨rfl, hf9⟩
      have la := hba_8.lt
      have lb := hbb_8.lt
      have lc := hbc_8.lt
      have ld := hbd_8.lt
      have hl := hfw_8.size
      have po0 := o0.out
      have po1 := o1.out
      have hB : Bx w9 w.heap.size a ∧ Bx w9 (w.heap.size + 1) b ∧ Bx w9 w5.heap.size N.1 ∧ Bx w9 w7.heap.size N.1 := by
        refine ⟨?_, ?_, ?_, ?_⟩ <;> ((first | unfold Bx | unfold Bl | skip); refine hf9.obj (noB_not _) ?_; repeat (first | with_reducible exact hba_8.raw | with_reducible exact hbb_8.raw | with_reducible exact hbc_8.raw | with_reducible exact hbd_8.raw | (with_reducible refine obj_alloc_at ?_; simp; done) | (with_reducible apply obj_put4; omega) | (with_reducible apply obj_put1; omega) | (with_reducible refine obj_setCell_other ?_ _ _ ?_; rotate_left; (dsimp only; omega)) | with_reducible refine obj_alloc ?_ _ | with_reducible refine obj_drew ?_))
      obtain ⟨hba_9, hbb_9, hbc_9, hbd_9⟩ := hB
      have hfw_9 : Fr noB w w9 := by
        refine Fr.transN ?_ hf9
        repeat (first | with_reducible exact hfw_8 | with_reducible refine Fr.alloc ?_ _ | (with_reducible refine Fr.setCell ?_ ?_ _; rotate_left; (intro h; dsimp only at h; omega)) | with_reducible refine Fr.drew ?_ | exact hfw_8)
      clear hba_8 hbb_8 hbc_8 hbd_8 la lb lc ld hl po0 po1 ca_0 ca_1 ca_2 ca_3 za cb_0 cb_1 cb_2 cb_3 zb cc_0 cc_1 cc_2 cc_3 zc cd_0 cd_1 cd_2 cd_3 zd hf9 hfw_8
      obtain ⟨ca_0, ca_1, ca_2, ca_3, za⟩ := hba_9.cs
      obtain ⟨cb_0, cb_1, cb_2, cb_3, zb⟩ := hbb_9.cs
      obtain ⟨cc_0, cc_1, cc_2, cc_3, zc⟩ := hbc_9.cs
      obtain ⟨cd_0, cd_1, cd_2, cd_3, zd⟩ := hbd_9.cs
      go_upto_region 8 with fail
      have o2 := Lib.hid (hbd_9.lt)
      have la := hba_9.lt
      have lb := hbb_9.lt
      have lc := hbc_9.lt
      have ld := hbd_9.lt
      have hl := hfw_9.size
      have po0 := o0.out
      have po1 := o1.out
      have po2 := o2.out
      refine wp_world (fun W => Fr noB w W ∧ Bx W w.heap.size a ∧ Bx W (w.heap.size + 1) b ∧ Bx W w5.heap.size N.1 ∧ Bx W w7.heap.size N.1 ∧ Bx W w9.heap.size G.1) ?_ ?_
      · refine ⟨?_, ?_, ?_, ?_, ?_, ?_⟩ <;> ((first | unfold Bx | unfold Bl | skip); repeat (first | with_reducible exact hfw_9 | with_reducible refine Fr.alloc ?_ _ | (with_reducible refine Fr.setCell ?_ ?_ _; rotate_left; (intro h; dsimp only at h; omega)) | with_reducible refine Fr.drew ?_ | with_reducible exact hba_9.raw | with_reducible exact hbb_9.raw | with_reducible exact hbc_9.raw | with_reducible exact hbd_9.raw | (with_reducible refine obj_alloc_at ?_; simp; done) | (with_reducible apply obj_put4; omega) | (with_reducible apply obj_put1; omega) | (with_reducible refine obj_setCell_other ?_ _ _ ?_; rotate_left; (dsimp only; omega)) | with_reducible refine obj_alloc ?_ _ | with_reducible refine obj_drew ?_ | exact hfw_9))
      clear hba_9 hbb_9 hbc_9 hbd_9 la lb lc ld hl po0 po1 po2 ca_0 ca_1 ca_2 ca_3 za cb_0 cb_1 cb_2 cb_3 zb cc_0 cc_1 cc_2 cc_3 zc cd_0 cd_1 cd_2 cd_3 zd hfw_9
      rintro w10 ⟨hfw_10, hba_10, hbb_10, hbc_10, hbd_10, hbg_10⟩
      obtain ⟨ca_0, ca_1, ca_2, ca_3, za⟩ := hba_10.cs
      obtain ⟨cb_0, cb_1, cb_2, cb_3, zb⟩ := hbb_10.cs
      obtain ⟨cc_0, cc_1, cc_2, cc_3, zc⟩ := hbc_10.cs
      obtain ⟨cd_0, cd_1, cd_2, cd_3, zd⟩ := hbd_10.cs
      obtain ⟨cg_0, cg_1, cg_2, cg_3, zg⟩ := hbg_10.cs
      go_wp2_with fail
      refine (KG.out _).mono ?_
      rintro e w11 ⟨rfl, hf11⟩
      have la := hba_10.lt
      have lb := hbb_10.lt
      have lc := hbc_10.lt
      have ld := hbd_10.lt
      have lg := hbg_10.lt
      have hl := hfw_10.size
      have po0 := o0.out
      have po1 := o1.out
      have po2 := o2.out
      have hB : Bx w11 w.heap.size a ∧ Bx w11 (w.heap.size + 1) b ∧ Bx w11 w5.heap.size N.1 ∧ Bx w11 w7.heap.size N.1 ∧ Bx w11 w9.heap.size G.1 := by
        refine ⟨?_, ?_, ?_, ?_, ?_⟩ <;> ((first | unfold Bx | unfold Bl | skip); refine hf11.obj (noB_not _) ?_; repeat (first | with_reducible exact hba_10.raw | with_reducible exact hbb_10.raw | with_reducible exact hbc_10.raw | with_reducible exact hbd_10.raw | with_reducible exact hbg_10.raw | (with_reducible refine obj_alloc_at ?_; simp; done) | (with_reducible apply obj_put4; omega) | (with_reducible apply obj_put1; omega) | (with_reducible refine obj_setCell_other ?_ _ _ ?_; rotate_left; (dsimp only; omega)) | with_reducible refine obj_alloc ?_ _ | with_reducible refine obj_drew ?_))
      obtain ⟨hba_11, hbb_11, hbc_11, hbd_11, hbg_11⟩ := hB
      have hfw_11 : Fr noB w w11 := by
        refine Fr.transN ?_ hf11
        repeat (first | with_reducible exact hfw_10 | with_reducible refine Fr.alloc ?_ _ | (with_reducible refine Fr.setCell ?_ ?_ _; rotate_left; (intro h; dsimp only at h; omega)) | with_reducible refine Fr.drew ?_ | exact hfw_10)
      clear hba_10 hbb_10 hbc_10 hbd_10 hbg_10 la lb lc ld lg hl po0 po1 po2 ca_0 ca_1 ca_2 ca_3 za cb_0 cb_1 cb_2 cb_3 zb cc_0 cc_1 cc_2 cc_3 zc cd_0 cd_1 cd_2 cd_3 zd cg_0 cg_1 cg_2 cg_3 zg hf11 hfw_10
      obtain ⟨ca_0, ca_1, ca_2, ca_3, za⟩ := hba_11.cs
      obtain ⟨cb_0, cb_1, cb_2, cb_3, zb⟩ := hbb_11.cs
      obtain ⟨cc_0, cc_1, cc_2, cc_3, zc⟩ := hbc_11.cs
      obtain ⟨cd_0, cd_1, cd_2, cd_3, zd⟩ := hbd_11.cs
      obtain ⟨cg_0, cg_1, cg_2, cg_3, zg⟩ := hbg_11.cs
      go_upto_region 9 with fail
      have o3 := Lib.hid (hbg_11.lt)
      have la := hba_11.lt
      have lb := hbb_11.lt
      have lc := hbc_11.lt
      have ld := hbd_11.lt
      have lg := hbg_11.lt
      have hl := hfw_11.size
      have po0 := o0.out
      have po1 := o1.out
      have po2 := o2.out
      have po3 := o3.out
      refine wp_world (fun W => Fr noB w W ∧ Bx W w.heap.size a ∧ Bx W (w.heap.size + 1) b ∧ Bx W w5.heap.size N.1 ∧ Bx W w7.heap.size N.1 ∧ Bx W w9.heap.size G.1 ∧ Bx W w11.heap.size G.1) ?_ ?_
      · refine ⟨?_, ?_, ?_, ?_, ?_, ?_, ?_⟩ <;> ((first | unfold Bx | unfold Bl | skip); repeat (first | with_reducible exact hfw_11 | with_reducible refine Fr.alloc ?_ _ | (with_reducible refine Fr.setCell ?_ ?_ _; rotate_left; (intro h; dsimp only at h; omega)) | with_reducible refine Fr.drew ?_ | with_reducible exact hba_11.raw | with_reducible exact hbb_11.raw | with_reducible exact hbc_11.raw | with_reducible exact hbd_11.raw | with_reducible exact hbg_11.raw | (with_reducible refine obj_alloc_at ?_; simp; done) | (with_reducible apply obj_put4; omega) | (with_reducible apply obj_put1; omega) | (with_reducible refine obj_setCell_other ?_ _ _ ?_; rotate_left; (dsimp only; omega)) | with_reducible refine obj_alloc ?_ _ | with_reducible refine obj_drew ?_ | exact hfw_11))
      clear hba_11 hbb_11 hbc_11 hbd_11 hbg_11 la lb lc ld lg hl po0 po1 po2 po3 ca_0 ca_1 ca_2 ca_3 za cb_0 cb_1 cb_2 cb_3 zb cc_0 cc_1 cc_2 cc_3 zc cd_0 cd_1 cd_2 cd_3 zd cg_0 cg_1 cg_2 cg_3 zg hfw_11
      rintro w12 ⟨hfw_12, hba_12, hbb_12, hbc_12, hbd_12, hbg_12, hbi_12⟩
      obtain ⟨ca_0, ca_1, ca_2, ca_3, za⟩ := hba_12.cs
      obtain ⟨cb_0, cb_1, cb_2, cb_3, zb⟩ := hbb_12.cs
      obtain ⟨cc_0, cc_1, cc_2, cc_3, zc⟩ := hbc_12.cs
      obtain ⟨cd_0, cd_1, cd_2, cd_3, zd⟩ := hbd_12.cs
      obtain ⟨cg_0, cg_1, cg_2, cg_3, zg⟩ := hbg_12.cs
      obtain ⟨ci_0, ci_1, ci_2, ci_3, zi⟩ := hbi_12.cs
      have qNx := qN.out
      have qGx := qG.out
      go_wp2_with fail
      refine (HA.out _).mono ?_
      rintro e w13 ⟨rfl, hf13⟩
      have la := hba_12.lt
      have lb := hbb_12.lt
      have lc := hbc_12.lt
      have ld := hbd_12.lt
      have lg := hbg_12.lt
      have li := hbi_12.lt
      have hl := hfw_12.size
      have po0 := o0.out
      have po1 := o1.out
      have po2 := o2.out
      have po3 := o3.out
      have hB : Bx w13 w.heap.size a ∧ Bx w13 (w.heap.size + 1) b ∧ Bx w13 w5.heap.size N.1 ∧ Bx w13 w7.heap.size N.1 ∧ Bx w13 w9.heap.size G.1 ∧ Bx w13 w11.heap.size G.1 := by
        refine ⟨?_, ?_, ?_, ?_, ?_, ?_⟩ <;> ((first | unfold Bx | unfold Bl | skip); refine hf13.obj (noB_not _) ?_; repeat (first | with_reducible exact hba_12.raw | with_reducible exact hbb_12.raw | with_reducible exact hbc_12.raw | with_reducible exact hbd_12.raw | with_reducible exact hbg_12.raw | with_reducible exact hbi_12.raw | (with_reducible refine obj_alloc_at ?_; simp; done) | (with_reducible apply obj_put4; omega) | (with_reducible apply obj_put1; omega) | (with_reducible refine obj_setCell_other ?_ _ _ ?_; rotate_left; (dsimp only; omega)) | with_reducible refine obj_alloc ?_ _ | with_reducible refine obj_drew ?_))
      obtain ⟨hba_13, hbb_13, hbc_13, hbd_13, hbg_13, hbi_13⟩ := hB
      have hfw_13 : Fr noB w w13 := by
        refine Fr.transN ?_ hf13
        repeat (first | with_reducible exact hfw_12 | with_reducible refine Fr.alloc ?_ _ | (with_reducible refine Fr.setCell ?_ ?_ _; rotate_left; (intro h; dsimp only at h; omega)) | with_reducible refine Fr.drew ?_ | exact hfw_12)
      clear hba_12 hbb_12 hbc_12 hbd_12 hbg_12 hbi_12 la lb lc ld lg li hl po0 po1 po2 po3 ca_0 ca_1 ca_2 ca_3 za cb_0 cb_1 cb_2 cb_3 zb cc_0 cc_1 cc_2 cc_3 zc cd_0 cd_1 cd_2 cd_3 zd cg_0 cg_1 cg_2 cg_3 zg ci_0 ci_1 ci_2 ci_3 zi qNx qGx hf13 hfw_12
      obtain ⟨ca_0, ca_1, ca_2, ca_3, za⟩ := hba_13.cs
      obtain ⟨cb_0, cb_1, cb_2, cb_3, zb⟩ := hbb_13.cs
      obtain ⟨cc_0, cc_1, cc_2, cc_3, zc⟩ := hbc_13.cs
      obtain ⟨cd_0, cd_1, cd_2, cd_3, zd⟩ := hbd_13.cs
      obtain ⟨cg_0, cg_1, cg_2, cg_3, zg⟩ := hbg_13.cs
      obtain ⟨ci_0, ci_1, ci_2, ci_3, zi⟩ := hbi_13.cs
      go_upto_region 12 with fail
      have la := hba_13.lt
      have lb := hbb_13.lt
      have lc := hbc_13.lt
      have ld := hbd_13.lt
      have lg := hbg_13.lt
      have li := hbi_13.lt
      have hl := hfw_13.size
      have po0 := o0.out
      have po1 := o1.out
      have po2 := o2.out
      have po3 := o3.out
      refine wp_world (fun W => Fr noB w W ∧ Bx W w.heap.size a ∧ Bx W (w.heap.size + 1) b ∧ Bx W w5.heap.size A.1 ∧ Bx W w7.heap.size N.1 ∧ Bx W w9.heap.size G.1 ∧ Bx W w11.heap.size G.1) ?_ ?_
      · refine ⟨?_, ?_, ?_, ?_, ?_, ?_, ?_⟩ <;> ((first | unfold Bx | unfold Bl | skip); repeat (first | with_reducible exact hfw_13 | with_reducible refine Fr.alloc ?_ _ | (with_reducible refine Fr.setCell ?_ ?_ _; rotate_left; (intro h; dsimp only at h; omega)) | with_reducible refine Fr.drew ?_ | with_reducible exact hba_13.raw | with_reducible exact hbb_13.raw | with_reducible exact hbc_13.raw | with_reducible exact hbd_13.raw | with_reducible exact hbg_13.raw | with_reducible exact hbi_13.raw | (with_reducible refine obj_alloc_at ?_; simp; done) | (with_reducible apply obj_put4; omega) | (with_reducible apply obj_put1; omega) | (with_reducible refine obj_setCell_other ?_ _ _ ?_; rotate_left; (dsimp only; omega)) | with_reducible refine obj_alloc ?_ _ | with_reducible refine obj_drew ?_ | exact hfw_13))
      clear hba_13 hbb_13 hbc_13 hbd_13 hbg_13 hbi_13 la lb lc ld lg li hl po0 po1 po2 po3 ca_0 ca_1 ca_2 ca_3 za cb_0 cb_1 cb_2 cb_3 zb cc_0 cc_1 cc_2 cc_3 zc cd_0 cd_1 cd_2 cd_3 zd cg_0 cg_1 cg_2 cg_3 zg ci_0 ci_1 ci_2 ci_3 zi hfw_13
      rintro w14 ⟨hfw_14, hba_14, hbb_14, hbc_14, hbd_14, hbg_14, hbi_14⟩
      obtain ⟨ca_0, ca_1, ca_2, ca_3, za⟩ := hba_14.cs
      obtain ⟨cb_0, cb_1, cb_2, cb_3, zb⟩ := hbb_14.cs
      obtain ⟨cc_0, cc_1, cc_2, cc_3, zc⟩ := hbc_14.cs
      obtain ⟨cd_0, cd_1, cd_2, cd_3, zd⟩ := hbd_14.cs
      obtain ⟨cg_0, cg_1, cg_2, cg_3, zg⟩ := hbg_14.cs
      obtain ⟨ci_0, ci_1, ci_2, ci_3, zi⟩ := hbi_14.cs
      go_wp2_with fail
      refine (KA.out _).mono ?_
      rintro e w15 ⟨rfl, hf15⟩
      have la := hba_14.lt
      have lb := hbb_14.lt
      have lc := hbc_14.lt
      have ld := hbd_14.lt
      have lg := hbg_14.lt
      have li := hbi_14.lt
      have hl := hfw_14.size
      have po0 := o0.out
      have po1 := o1.out
      have po2 := o2.out
      have po3 := o3.out
      have hB : Bx w15 w.heap.size a ∧ Bx w15 (w.heap.size + 1) b ∧ Bx w15 w5.heap.size A.1 ∧ Bx w15 w7.heap.size N.1 ∧ Bx w15 w9.heap.size G.1 ∧ Bx w15 w11.heap.size G.1 := by
        refine ⟨?_, ?_, ?_, ?_, ?_, ?_⟩ <;> ((first | unfold Bx | unfold Bl | skip); refine hf15.obj (noB_not _) ?_; repeat (first | with_reducible exact hba_14.raw | with_reducible exact hbb_14.raw | with_reducible exact hbc_14.raw | with_reducible exact hbd_14.raw | with_reducible exact hbg_14.raw | with_reducible exact hbi_14.raw | (with_reducible refine obj_alloc_at ?_; simp; done) | (with_reducible apply obj_put4; omega) | (with_reducible apply obj_put1; omega) | (with_reducible refine obj_setCell_other ?_ _ _ ?_; rotate_left; (dsimp only; omega)) | with_reducible refine obj_alloc ?_ _ | with_reducible refine obj_drew ?_))
      obtain ⟨hba_15, hbb_15, hbc_15, hbd_15, hbg_15, hbi_15⟩ := hB
      have hfw_15 : Fr noB w w15 := by
        refine Fr.transN ?_ hf15
        repeat (first | with_reducible exact hfw_14 | with_reducible refine Fr.alloc ?_ _ | (with_reducible refine Fr.setCell ?_ ?_ _; rotate_left; (intro h; dsimp only at h; omega)) | with_reducible refine Fr.drew ?_ | exact hfw_14)
      clear hba_14 hbb_14 hbc_14 hbd_14 hbg_14 hbi_14 la lb lc ld lg li hl po0 po1 po2 po3 ca_0 ca_1 ca_2 ca_3 za cb_0 cb_1 cb_2 cb_3 zb cc_0 cc_1 cc_2 cc_3 zc cd_0 cd_1 cd_2 cd_3 zd cg_0 cg_1 cg_2 cg_3 zg ci_0 ci_1 ci_2 ci_3 zi hf15 hfw_14
      obtain ⟨ca_0, ca_1, ca_2, ca_3, za⟩ := hba_15.cs
      obtain ⟨cb_0, cb_1, cb_2, cb_3, zb⟩ := hbb_15.cs
      obtain ⟨cc_0, cc_1, cc_2, cc_3, zc⟩ := hbc_15.cs
      obtain ⟨cd_0, cd_1, cd_2, cd_3, zd⟩ := hbd_15.cs
      obtain ⟨cg_0, cg_1, cg_2, cg_3, zg⟩ := hbg_15.cs
      obtain ⟨ci_0, ci_1, ci_2, ci_3, zi⟩ := hbi_15.cs
      go_upto_region 13 with fail
      have la := hba_15.lt
      have lb := hbb_15.lt
      have lc := hbc_15.lt
      have ld := hbd_15.lt
      have lg := hbg_15.lt
      have li := hbi_15.lt
      have hl := hfw_15.size
      have po0 := o0.out
      have po1 := o1.out
      have po2 := o2.out
      have po3 := o3.out
      refine wp_world (fun W => Fr noB w W ∧ Bx W w.heap.size a ∧ Bx W (w.heap.size + 1) b ∧ Bx W w5.heap.size A.1 ∧ Bx W w7.heap.size A.1 ∧ Bx W w9.heap.size G.1 ∧ Bx W w11.heap.size G.1) ?_ ?_
      · refine ⟨?_, ?_, ?_, ?_, ?_, ?_, ?_⟩ <;> ((first | unfold Bx | unfold Bl | skip); repeat (first | with_reducible exact hfw_15 | with_reducible refine Fr.alloc ?_ _ | (with_reducible refine Fr.setCell ?_ ?_ _; rotate_left; (intro h; dsimp only at h; omega)) | with_reducible refine Fr.drew ?_ | with_reducible exact hba_15.raw | with_reducible exact hbb_15.raw | with_reducible exact hbc_15.raw | with_reducible exact hbd_15.raw | with_reducible exact hbg_15.raw | with_reducible exact hbi_15.raw | (with_reducible refine obj_alloc_at ?_; simp; done) | (with_reducible apply obj_put4; omega) | (with_reducible apply obj_put1; omega) | (with_reducible refine obj_setCell_other ?_ _ _ ?_; rotate_left; (dsimp only; omega)) | with_reducible refine obj_alloc ?_ _ | with_reducible refine obj_drew ?_ | exact hfw_15))
      clear hba_15 hbb_15 hbc_15 hbd_15 hbg_15 hbi_15 la lb lc ld lg li hl po0 po1 po2 po3 ca_0 ca_1 ca_2 ca_3 za cb_0 cb_1 cb_2 cb_3 zb cc_0 cc_1 cc_2 cc_3 zc cd_0 cd_1 cd_2 cd_3 zd cg_0 cg_1 cg_2 cg_3 zg ci_0 ci_1 ci_2 ci_3 zi hfw_15
      rintro w16 ⟨hfw_16, hba_16, hbb_16, hbc_16, hbd_16, hbg_16, hbi_16⟩
      obtain ⟨ca_0, ca_1, ca_2, ca_3, za⟩ := hba_16.cs
      obtain ⟨cb_0, cb_1, cb_2, cb_3, zb⟩ := hbb_16.cs
      obtain ⟨cc_0, cc_1, cc_2, cc_3, zc⟩ := hbc_16.cs
      obtain ⟨cd_0, cd_1, cd_2, cd_3, zd⟩ := hbd_16.cs
      obtain ⟨cg_0, cg_1, cg_2, cg_3, zg⟩ := hbg_16.cs
      obtain ⟨ci_0, ci_1, ci_2, ci_3, zi⟩ := hbi_16.cs
      go_wp2_with fail
      refine (HO.out _).mono ?_
      rintro e w17 ⟨rfl, hf17⟩
      have la := hba_16.lt
      have lb := hbb_16.lt
      have lc := hbc_16.lt
      have ld := hbd_16.lt
      have lg := hbg_16.lt
      have li := hbi_16.lt
      have hl := hfw_16.size
      have po0 := o0.out
      have po1 := o1.out
      have po2 := o2.out
      have po3 := o3.out
      have hB : Bx w17 w.heap.size a ∧ Bx w17 (w.heap.size + 1) b ∧ Bx w17 w5.heap.size A.1 ∧ Bx w17 w7.heap.size A.1 ∧ Bx w17 w9.heap.size G.1 ∧ Bx w17 w11.heap.size G.1 := by
        refine ⟨?_, ?_, ?_, ?_, ?_, ?_⟩ <;> ((first | unfold Bx | unfold Bl | skip); refine hf17.obj (noB_not _) ?_; repeat (first | with_reducible exact hba_16.raw | with_reducible exact hbb_16.raw | with_reducible exact hbc_16.raw | with_reducible exact hbd_16.raw | with_reducible exact hbg_16.raw | with_reducible exact hbi_16.raw | (with_reducible refine obj_alloc_at ?_; simp; done) | (with_reducible apply obj_put4; omega) | (with_reducible apply obj_put1; omega) | (with_reducible refine obj_setCell_other ?_ _ _ ?_; rotate_left; (dsimp only; omega)) | with_reducible refine obj_alloc ?_ _ | with_reducible refine obj_drew ?_))
      obtain ⟨hba_17, hbb_17, hbc_17, hbd_17, hbg_17, hbi_17⟩ := hB
      have hfw_17 : Fr noB w w17 := by
        refine Fr.transN ?_ hf17
        repeat (first | with_reducible exact hfw_16 | with_reducible refine Fr.alloc ?_ _ | (with_reducible refine Fr.setCell ?_ ?_ _; rotate_left; (intro h; dsimp only at h; omega)) | with_reducible refine Fr.drew ?_ | exact hfw_16)
      clear hba_16 hbb_16 hbc_16 hbd_16 hbg_16 hbi_16 la lb lc ld lg li hl po0 po1 po2 po3 ca_0 ca_1 ca_2 ca_3 za cb_0 cb_1 cb_2 cb_3 zb cc_0 cc_1 cc_2 cc_3 zc cd_0 cd_1 cd_2 cd_3 zd cg_0 cg_1 cg_2 cg_3 zg ci_0 ci_1 ci_2 ci_3 zi hf17 hfw_16
      obtain ⟨ca_0, ca_1, ca_2, ca_3, za⟩ := hba_17.cs
      obtain ⟨cb_0, cb_1, cb_2, cb_3, zb⟩ := hbb_17.cs
      obtain ⟨cc_0, cc_1, cc_2, cc_3, zc⟩ := hbc_17.cs
      obtain ⟨cd_0, cd_1, cd_2, cd_3, zd⟩ := hbd_17.cs
      obtain ⟨cg_0, cg_1, cg_2, cg_3, zg⟩ := hbg_17.cs
      obtain ⟨ci_0, ci_1, ci_2, ci_3, zi⟩ := hbi_17.cs
      go_upto_region 14 with fail
      have la := hba_17.lt
      have lb := hbb_17.lt
      have lc := hbc_17.lt
      have ld := hbd_17.lt
      have lg := hbg_17.lt
      have li := hbi_17.lt
      have hl := hfw_17.size
      have po0 := o0.out
      have po1 := o1.out
      have po2 := o2.out
      have po3 := o3.out
      refine wp_world (fun W => Fr noB w W ∧ Bx W w.heap.size a ∧ Bx W (w.heap.size + 1) b ∧ Bx W w5.heap.size A.1 ∧ Bx W w7.heap.size A.1 ∧ Bx W w9.heap.size O.1 ∧ Bx W w11.heap.size G.1) ?_ ?_
      · refine ⟨?_, ?_, ?_, ?_, ?_, ?_, ?_⟩ <;> ((first | unfold Bx | unfold Bl | skip); repeat (first | with_reducible exact hfw_17 | with_reducible refine Fr.alloc ?_ _ | (with_reducible refine Fr.setCell ?_ ?_ _; rotate_left; (intro h; dsimp only at h; omega)) | with_reducible refine Fr.drew ?_ | with_reducible exact hba_17.raw | with_reducible exact hbb_17.raw | with_reducible exact hbc_17.raw | with_reducible exact hbd_17.raw | with_reducible exact hbg_17.raw | with_reducible exact hbi_17.raw | (with_reducible refine obj_alloc_at ?_; simp; done) | (with_reducible apply obj_put4; omega) | (with_reducible apply obj_put1; omega) | (with_reducible refine obj_setCell_other ?_ _ _ ?_; rotate_left; (dsimp only; omega)) | with_reducible refine obj_alloc ?_ _ | with_reducible refine obj_drew ?_ | exact hfw_17))
      clear hba_17 hbb_17 hbc_17 hbd_17 hbg_17 hbi_17 la lb lc ld lg li hl po0 po1 po2 po3 ca_0 ca_1 ca_2 ca_3 za cb_0 cb_1 cb_2 cb_3 zb cc_0 cc_1 cc_2 cc_3 zc cd_0 cd_1 cd_2 cd_3 zd cg_0 cg_1 cg_2 cg_3 zg ci_0 ci_1 ci_2 ci_3 zi hfw_17
      rintro w18 ⟨hfw_18, hba_18, hbb_18, hbc_18, hbd_18, hbg_18, hbi_18⟩
      obtain ⟨ca_0, ca_1, ca_2, ca_3, za⟩ := hba_18.cs
      obtain ⟨cb_0, cb_1, cb_2, cb_3, zb⟩ := hbb_18.cs
      obtain ⟨cc_0, cc_1, cc_2, cc_3, zc⟩ := hbc_18.cs
      obtain ⟨cd_0, cd_1, cd_2, cd_3, zd⟩ := hbd_18.cs
      obtain ⟨cg_0, cg_1, cg_2, cg_3, zg⟩ := hbg_18.cs
      obtain ⟨ci_0, ci_1, ci_2, ci_3, zi⟩ := hbi_18.cs
      go_wp2_with fail
      refine (KO.out _).mono ?_
      rintro e w19 ⟨rfl, hf19⟩
      have la := hba_18.lt
      have lb := hbb_18.lt
      have lc := hbc_18.lt
      have ld := hbd_18.lt
      have lg := hbg_18.lt
      have li := hbi_18.lt
      have hl := hfw_18.size
      have po0 := o0.out
      have po1 := o1.out
      have po2 := o2.out
      have po3 := o3.out
      have hB : Bx w19 w.heap.size a ∧ Bx w19 (w.heap.size + 1) b ∧ Bx w19 w5.heap.size A.1 ∧ Bx w19 w7.heap.size A.1 ∧ Bx w19 w9.heap.size O.1 ∧ Bx w19 w11.heap.size G.1 := by
        refine ⟨?_, ?_, ?_, ?_, ?_, ?_⟩ <;> ((first | unfold Bx | unfold Bl | skip); refine hf19.obj (noB_not _) ?_; repeat (first | with_reducible exact hba_18.raw | with_reducible exact hbb_18.raw | with_reducible exact hbc_18.raw | with_reducible exact hbd_18.raw | with_reducible exact hbg_18.raw | with_reducible exact hbi_18.raw | (with_reducible refine obj_alloc_at ?_; simp; done) | (with_reducible apply obj_put4; omega) | (with_reducible apply obj_put1; omega) | (with_reducible refine obj_setCell_other ?_ _ _ ?_; rotate_left; (dsimp only; omega)) | with_reducible refine obj_alloc ?_ _ | with_reducible refine obj_drew ?_))
      obtain ⟨hba_19, hbb_19, hbc_19, hbd_19, hbg_19, hbi_19⟩ := hB
      have hfw_19 : Fr noB w w19 := by
        refine Fr.transN ?_ hf19
        repeat (first | with_reducible exact hfw_18 | with_reducible refine Fr.alloc ?_ _ | (with_reducible refine Fr.setCell ?_ ?_ _; rotate_left; (intro h; dsimp only at h; omega)) | with_reducible refine Fr.drew ?_ | exact hfw_18)
      clear hba_18 hbb_18 hbc_18 hbd_18 hbg_18 hbi_18 la lb lc ld lg li hl po0 po1 po2 po3 ca_0 ca_1 ca_2 ca_3 za cb_0 cb_1 cb_2 cb_3 zb cc_0 cc_1 cc_2 cc_3 zc cd_0 cd_1 cd_2 cd_3 zd cg_0 cg_1 cg_2 cg_3 zg ci_0 ci_1 ci_2 ci_3 zi hf19 hfw_18
      obtain ⟨ca_0, ca_1, ca_2, ca_3, za⟩ := hba_19.cs
      obtain ⟨cb_0, cb_1, cb_2, cb_3, zb⟩ := hbb_19.cs
      obtain ⟨cc_0, cc_1, cc_2, cc_3, zc⟩ := hbc_19.cs
      obtain ⟨cd_0, cd_1, cd_2, cd_3, zd⟩ := hbd_19.cs
      obtain ⟨cg_0, cg_1, cg_2, cg_3, zg⟩ := hbg_19.cs
      obtain ⟨ci_0, ci_1, ci_2, ci_3, zi⟩ := hbi_19.cs
      go_upto_region 15 with fail
      have la := hba_19.lt
      have lb := hbb_19.lt
      have lc := hbc_19.lt
      have ld := hbd_19.lt
      have lg := hbg_19.lt
      have li := hbi_19.lt
      have hl := hfw_19.size
      have po0 := o0.out
      have po1 := o1.out
      have po2 := o2.out
      have po3 := o3.out
      refine wp_world (fun W => Fr noB w W ∧ Bx W w.heap.size a ∧ Bx W (w.heap.size + 1) b ∧ Bx W w5.heap.size A.1 ∧ Bx W w7.heap.size A.1 ∧ Bx W w9.heap.size O.1 ∧ Bx W w11.heap.size O.1) ?_ ?_
      · refine ⟨?_, ?_, ?_, ?_, ?_, ?_, ?_⟩ <;> ((first | unfold Bx | unfold Bl | skip); repeat (first | with_reducible exact hfw_19 | with_reducible refine Fr.alloc ?_ _ | (with_reducible refine Fr.setCell ?_ ?_ _; rotate_left; (intro h; dsimp only at h; omega)) | with_reducible refine Fr.drew ?_ | with_reducible exact hba_19.raw | with_reducible exact hbb_19.raw | with_reducible exact hbc_19.raw | with_reducible exact hbd_19.raw | with_reducible exact hbg_19.raw | with_reducible exact hbi_19.raw | (with_reducible refine obj_alloc_at ?_; simp; done) | (with_reducible apply obj_put4; omega) | (with_reducible apply obj_put1; omega) | (with_reducible refine obj_setCell_other ?_ _ _ ?_; rotate_left; (dsimp only; omega)) | with_reducible refine obj_alloc ?_ _ | with_reducible refine obj_drew ?_ | exact hfw_19))
      clear hba_19 hbb_19 hbc_19 hbd_19 hbg_19 hbi_19 la lb lc ld lg li hl po0 po1 po2 po3 ca_0 ca_1 ca_2 ca_3 za cb_0 cb_1 cb_2 cb_3 zb cc_0 cc_1 cc_2 cc_3 zc cd_0 cd_1 cd_2 cd_3 zd cg_0 cg_1 cg_2 cg_3 zg ci_0 ci_1 ci_2 ci_3 zi hfw_19
      rintro w20 ⟨hfw_20, hba_20, hbb_20, hbc_20, hbd_20, hbg_20, hbi_20⟩
      obtain ⟨ca_0, ca_1, ca_2, ca_3, za⟩ := hba_20.cs
      obtain ⟨cb_0, cb_1, cb_2, cb_3, zb⟩ := hbb_20.cs
      obtain ⟨cc_0, cc_1, cc_2, cc_3, zc⟩ := hbc_20.cs
      obtain ⟨cd_0, cd_1, cd_2, cd_3, zd⟩ := hbd_20.cs
      obtain ⟨cg_0, cg_1, cg_2, cg_3, zg⟩ := hbg_20.cs
      obtain ⟨ci_0, ci_1, ci_2, ci_3, zi⟩ := hbi_20.cs
      have qAx := qA.out
      have qOx := qO.out
      go_wp2_with fail
      refine (HD.out _).mono ?_
      rintro e w21 ⟨rfl, hf21⟩
      have la := hba_20.lt
      have lb := hbb_20.lt
      have lc := hbc_20.lt
      have ld := hbd_20.lt
      have lg := hbg_20.lt
      have li := hbi_20.lt
      have hl := hfw_20.size
      have po0 := o0.out
      have po1 := o1.out
      have po2 := o2.out
      have po3 := o3.out
      have hB : Bx w21 w.heap.size a ∧ Bx w21 (w.heap.size + 1) b ∧ Bx w21 w5.heap.size A.1 ∧ Bx w21 w7.heap.size A.1 ∧ Bx w21 w9.heap.size O.1 ∧ Bx w21 w11.heap.size O.1 := by
        refine ⟨?_, ?_, ?_, ?_, ?_, ?_⟩ <;> ((first | unfold Bx | unfold Bl | skip); refine hf21.obj (noB_not _) ?_; repeat (first | with_reducible exact hba_20.raw | with_reducible exact hbb_20.raw | with_reducible exact hbc_20.raw | with_reducible exact hbd_20.raw | with_reducible exact hbg_20.raw | with_reducible exact hbi_20.raw | (with_reducible refine obj_alloc_at ?_; simp; done) | (with_reducible apply obj_put4; omega) | (with_reducible apply obj_put1; omega) | (with_reducible refine obj_setCell_other ?_ _ _ ?_; rotate_left; (dsimp only; omega)) | with_reducible refine obj_alloc ?_ _ | with_reducible refine obj_drew ?_))
      obtain ⟨hba_21, hbb_21, hbc_21, hbd_21, hbg_21, hbi_21⟩ := hB
      have hfw_21 : Fr noB w w21 := by
        refine Fr.transN ?_ hf21
        repeat (first | with_reducible exact hfw_20 | with_reducible refine Fr.alloc ?_ _ | (with_reducible refine Fr.setCell ?_ ?_ _; rotate_left; (intro h; dsimp only at h; omega)) | with_reducible refine Fr.drew ?_ | exact hfw_20)
      clear hba_20 hbb_20 hbc_20 hbd_20 hbg_20 hbi_20 la lb lc ld lg li hl po0 po1 po2 po3 ca_0 ca_1 ca_2 ca_3 za cb_0 cb_1 cb_2 cb_3 zb cc_0 cc_1 cc_2 cc_3 zc cd_0 cd_1 cd_2 cd_3 zd cg_0 cg_1 cg_2 cg_3 zg ci_0 ci_1 ci_2 ci_3 zi qAx qOx hf21 hfw_20
      obtain ⟨ca_0, ca_1, ca_2, ca_3, za⟩ := hba_21.cs
      obtain ⟨cb_0, cb_1, cb_2, cb_3, zb⟩ := hbb_21.cs
      obtain ⟨cc_0, cc_1, cc_2, cc_3, zc⟩ := hbc_21.cs
      obtain ⟨cd_0, cd_1, cd_2, cd_3, zd⟩ := hbd_21.cs
      obtain ⟨cg_0, cg_1, cg_2, cg_3, zg⟩ := hbg_21.cs
      obtain ⟨ci_0, ci_1, ci_2, ci_3, zi⟩ := hbi_21.cs
      go_upto_region 18 with fail
      have la := hba_21.lt
      have lb := hbb_21.lt
      have lc := hbc_21.lt
      have ld := hbd_21.lt
      have lg := hbg_21.lt
      have li := hbi_21.lt
      have hl := hfw_21.size
      have po0 := o0.out
      have po1 := o1.out
      have po2 := o2.out
      have po3 := o3.out
      refine wp_world (fun W => Fr noB w W ∧ Bx W w.heap.size a ∧ Bx W (w.heap.size + 1) b ∧ Bx W w5.heap.size D.1 ∧ Bx W w7.heap.size A.1 ∧ Bx W w9.heap.size O.1 ∧ Bx W w11.heap.size O.1) ?_ ?_
      · refine ⟨?_, ?_, ?_, ?_, ?_, ?_, ?_⟩ <;> ((first | unfold Bx | unfold Bl | skip); repeat (first | with_reducible exact hfw_21 | with_reducible refine Fr.alloc ?_ _ | (with_reducible refine Fr.setCell ?_ ?_ _; rotate_left; (intro h; dsimp only at h; omega)) | with_reducible refine Fr.drew ?_ | with_reducible exact hba_21.raw | with_reducible exact hbb_21.raw | with_reducible exact hbc_21.raw | with_reducible exact hbd_21.raw | with_reducible exact hbg_21.raw | with_reducible exact hbi_21.raw | (with_reducible refine obj_alloc_at ?_; simp; done) | (with_reducible apply obj_put4; omega) | (with_reducible apply obj_put1; omega) | (with_reducible refine obj_setCell_other ?_ _ _ ?_; rotate_left; (dsimp only; omega)) | with_reducible refine obj_alloc ?_ _ | with_reducible refine obj_drew ?_ | exact hfw_21))
      clear hba_21 hbb_21 hbc_21 hbd_21 hbg_21 hbi_21 la lb lc ld lg li hl po0 po1 po2 po3 ca_0 ca_1 ca_2 ca_3 za cb_0 cb_1 cb_2 cb_3 zb cc_0 cc_1 cc_2 cc_3 zc cd_0 cd_1 cd_2 cd_3 zd cg_0 cg_1 cg_2 cg_3 zg ci_0 ci_1 ci_2 ci_3 zi hfw_21
      rintro w22 ⟨hfw_22, hba_22, hbb_22, hbc_22, hbd_22, hbg_22, hbi_22⟩
      obtain ⟨ca_0, ca_1, ca_2, ca_3, za⟩ := hba_22.cs
      obtain ⟨cb_0, cb_1, cb_2, cb_3, zb⟩ := hbb_22.cs
      obtain ⟨cc_0, cc_1, cc_2, cc_3, zc⟩ := hbc_22.cs
      obtain ⟨cd_0, cd_1, cd_2, cd_3, zd⟩ := hbd_22.cs
      obtain ⟨cg_0, cg_1, cg_2, cg_3, zg⟩ := hbg_22.cs
      obtain ⟨ci_0, ci_1, ci_2, ci_3, zi⟩ := hbi_22.cs
      go_wp2_with fail
      refine (KD.out _).mono ?_
      rintro e w23 ⟨rfl, hf23⟩
      have la := hba_22.lt
      have lb := hbb_22.lt
      have lc := hbc_22.lt
      have ld := hbd_22.lt
      have lg := hbg_22.lt
      have li := hbi_22.lt
      have hl := hfw_22.size
      have po0 := o0.out
      have po1 := o1.out
      have po2 := o2.out
      have po3 := o3.out
      have hB : Bx w23 w.heap.size a ∧ Bx w23 (w.heap.size + 1) b ∧ Bx w23 w5.heap.size D.1 ∧ Bx w23 w7.heap.size A.1 ∧ Bx w23 w9.heap.size O.1 ∧ Bx w23 w11.heap.size O.1 := by
        refine ⟨?_, ?_, ?_, ?_, ?_, ?_⟩ <;> ((first | unfold Bx | unfold Bl | skip); refine hf23.obj (noB_not _) ?_; repeat (first | with_reducible exact hba_22.raw | with_reducible exact hbb_22.raw | with_reducible exact hbc_22.raw | with_reducible exact hbd_22.raw | with_reducible exact hbg_22.raw | with_reducible exact hbi_22.raw | (with_reducible refine obj_alloc_at ?_; simp; done) | (with_reducible apply obj_put4; omega) | (with_reducible apply obj_put1; omega) | (with_reducible refine obj_setCell_other ?_ _ _ ?_; rotate_left; (dsimp only; omega)) | with_reducible refine obj_alloc ?_ _ | with_reducible refine obj_drew ?_))
      obtain ⟨hba_23, hbb_23, hbc_23, hbd_23, hbg_23, hbi_23⟩ := hB
      have hfw_23 : Fr noB w w23 := by
        refine Fr.transN ?_ hf23
        repeat (first | with_reducible exact hfw_22 | with_reducible refine Fr.alloc ?_ _ | (with_reducible refine Fr.setCell ?_ ?_ _; rotate_left; (intro h; dsimp only at h; omega)) | with_reducible refine Fr.drew ?_ | exact hfw_22)
      clear hba_22 hbb_22 hbc_22 hbd_22 hbg_22 hbi_22 la lb lc ld lg li hl po0 po1 po2 po3 ca_0 ca_1 ca_2 ca_3 za cb_0 cb_1 cb_2 cb_3 zb cc_0 cc_1 cc_2 cc_3 zc cd_0 cd_1 cd_2 cd_3 zd cg_0 cg_1 cg_2 cg_3 zg ci_0 ci_1 ci_2 ci_3 zi hf23 hfw_22
      obtain ⟨ca_0, ca_1, ca_2, ca_3, za⟩ := hba_23.cs
      obtain ⟨cb_0, cb_1, cb_2, cb_3, zb⟩ := hbb_23.cs
      obtain ⟨cc_0, cc_1, cc_2, cc_3, zc⟩ := hbc_23.cs
      obtain ⟨cd_0, cd_1, cd_2, cd_3, zd⟩ := hbd_23.cs
      obtain ⟨cg_0, cg_1, cg_2, cg_3, zg⟩ := hbg_23.cs
      obtain ⟨ci_0, ci_1, ci_2, ci_3, zi⟩ := hbi_23.cs
      go_upto_region 19 with fail
      have la := hba_23.lt
      have lb := hbb_23.lt
      have lc := hbc_23.lt
      have ld := hbd_23.lt
      have lg := hbg_23.lt
      have li := hbi_23.lt
      have hl := hfw_23.size
      have po0 := o0.out
      have po1 := o1.out
      have po2 := o2.out
      have po3 := o3.out
      refine wp_world (fun W => Fr noB w W ∧ Bx W w.heap.size a ∧ Bx W (w.heap.size + 1) b ∧ Bx W w5.heap.size D.1 ∧ Bx W w7.heap.size D.1 ∧ Bx W w9.heap.size O.1 ∧ Bx W w11.heap.size O.1) ?_ ?_
      · refine ⟨?_, ?_, ?_, ?_, ?_, ?_, ?_⟩ <;> ((first | unfold Bx | unfold Bl | skip); repeat (first | with_reducible exact hfw_23 | with_reducible refine Fr.alloc ?_ _ | (with_reducible refine Fr.setCell ?_ ?_ _; rotate_left; (intro h; dsimp only at h; omega)) | with_reducible refine Fr.drew ?_ | with_reducible exact hba_23.raw | with_reducible exact hbb_23.raw | with_reducible exact hbc_23.raw | with_reducible exact hbd_23.raw | with_reducible exact hbg_23.raw | with_reducible exact hbi_23.raw | (with_reducible refine obj_alloc_at ?_; simp; done) | (with_reducible apply obj_put4; omega) | (with_reducible apply obj_put1; omega) | (with_reducible refine obj_setCell_other ?_ _ _ ?_; rotate_left; (dsimp only; omega)) | with_reducible refine obj_alloc ?_ _ | with_reducible refine obj_drew ?_ | exact hfw_23))
      clear hba_23 hbb_23 hbc_23 hbd_23 hbg_23 hbi_23 la lb lc ld lg li hl po0 po1 po2 po3 ca_0 ca_1 ca_2 ca_3 za cb_0 cb_1 cb_2 cb_3 zb cc_0 cc_1 cc_2 cc_3 zc cd_0 cd_1 cd_2 cd_3 zd cg_0 cg_1 cg_2 cg_3 zg ci_0 ci_1 ci_2 ci_3 zi hfw_23
      rintro w24 ⟨hfw_24, hba_24, hbb_24, hbc_24, hbd_24, hbg_24, hbi_24⟩
      obtain ⟨ca_0, ca_1, ca_2, ca_3, za⟩ := hba_24.cs
      obtain ⟨cb_0, cb_1, cb_2, cb_3, zb⟩ := hbb_24.cs
      obtain ⟨cc_0, cc_1, cc_2, cc_3, zc⟩ := hbc_24.cs
      obtain ⟨cd_0, cd_1, cd_2, cd_3, zd⟩ := hbd_24.cs
      obtain ⟨cg_0, cg_1, cg_2, cg_3, zg⟩ := hbg_24.cs
      obtain ⟨ci_0, ci_1, ci_2, ci_3, zi⟩ := hbi_24.cs
      go_wp2_with fail
      refine (HS.out _).mono ?_
      rintro e w25 ⟨rfl, hf25⟩
      have la := hba_24.lt
      have lb := hbb_24.lt
      have lc := hbc_24.lt
      have ld := hbd_24.lt
      have lg := hbg_24.lt
      have li := hbi_24.lt
      have hl := hfw_24.size
      have po0 := o0.out
      have po1 := o1.out
      have po2 := o2.out
      have po3 := o3.out
      have hB : Bx w25 w.heap.size a ∧ Bx w25 (w.heap.size + 1) b ∧ Bx w25 w5.heap.size D.1 ∧ Bx w25 w7.heap.size D.1 ∧ Bx w25 w9.heap.size O.1 ∧ Bx w25 w11.heap.size O.1 := by
        refine ⟨?_, ?_, ?_, ?_, ?_, ?_⟩ <;> ((first | unfold Bx | unfold Bl | skip); refine hf25.obj (noB_not _) ?_; repeat (first | with_reducible exact hba_24.raw | with_reducible exact hbb_24.raw | with_reducible exact hbc_24.raw | with_reducible exact hbd_24.raw | with_reducible exact hbg_24.raw | with_reducible exact hbi_24.raw | (with_reducible refine obj_alloc_at ?_; simp; done) | (with_reducible apply obj_put4; omega) | (with_reducible apply obj_put1; omega) | (with_reducible refine obj_setCell_other ?_ _ _ ?_; rotate_left; (dsimp only; omega)) | with_reducible refine obj_alloc ?_ _ | with_reducible refine obj_drew ?_))
      obtain ⟨hba_25, hbb_25, hbc_25, hbd_25, hbg_25, hbi_25⟩ := hB
      have hfw_25 : Fr noB w w25 := by
        refine Fr.transN ?_ hf25
        repeat (first | with_reducible exact hfw_24 | with_reducible refine Fr.alloc ?_ _ | (with_reducible refine Fr.setCell ?_ ?_ _; rotate_left; (intro h; dsimp only at h; omega)) | with_reducible refine Fr.drew ?_ | exact hfw_24)
      clear hba_24 hbb_24 hbc_24 hbd_24 hbg_24 hbi_24 la lb lc ld lg li hl po0 po1 po2 po3 ca_0 ca_1 ca_2 ca_3 za cb_0 cb_1 cb_2 cb_3 zb cc_0 cc_1 cc_2 cc_3 zc cd_0 cd_1 cd_2 cd_3 zd cg_0 cg_1 cg_2 cg_3 zg ci_0 ci_1 ci_2 ci_3 zi hf25 hfw_24
      obtain ⟨ca_0, ca_1, ca_2, ca_3, za⟩ := hba_25.cs
      obtain ⟨cb_0, cb_1, cb_2, cb_3, zb⟩ := hbb_25.cs
      obtain ⟨cc_0, cc_1, cc_2, cc_3, zc⟩ := hbc_25.cs
      obtain ⟨cd_0, cd_1, cd_2, cd_3, zd⟩ := hbd_25.cs
      obtain ⟨cg_0, cg_1, cg_2, cg_3, zg⟩ := hbg_25.cs
      obtain ⟨ci_0, ci_1, ci_2, ci_3, zi⟩ := hbi_25.cs
      go_upto_region 20 with fail
      have la := hba_25.lt
      have lb := hbb_25.lt
      have lc := hbc_25.lt
      have ld := hbd_25.lt
      have lg := hbg_25.lt
      have li := hbi_25.lt
      have hl := hfw_25.size
      have po0 := o0.out
      have po1 := o1.out
      have po2 := o2.out
      have po3 := o3.out
      refine wp_world (fun W => Fr noB w W ∧ Bx W w.heap.size a ∧ Bx W (w.heap.size + 1) b ∧ Bx W w5.heap.size D.1 ∧ Bx W w7.heap.size D.1 ∧ Bx W w9.heap.size S.1 ∧ Bx W w11.heap.size O.1) ?_ ?_
      · refine ⟨?_, ?_, ?_, ?_, ?_, ?_, ?_⟩ <;> ((first | unfold Bx | unfold Bl | skip); repeat (first | with_reducible exact hfw_25 | with_reducible refine Fr.alloc ?_ _ | (with_reducible refine Fr.setCell ?_ ?_ _; rotate_left; (intro h; dsimp only at h; omega)) | with_reducible refine Fr.drew ?_ | with_reducible exact hba_25.raw | with_reducible exact hbb_25.raw | with_reducible exact hbc_25.raw | with_reducible exact hbd_25.raw | with_reducible exact hbg_25.raw | with_reducible exact hbi_25.raw | (with_reducible refine obj_alloc_at ?_; simp; done) | (with_reducible apply obj_put4; omega) | (with_reducible apply obj_put1; omega) | (with_reducible refine obj_setCell_other ?_ _ _ ?_; rotate_left; (dsimp only; omega)) | with_reducible refine obj_alloc ?_ _ | with_reducible refine obj_drew ?_ | exact hfw_25))
      clear hba_25 hbb_25 hbc_25 hbd_25 hbg_25 hbi_25 la lb lc ld lg li hl po0 po1 po2 po3 ca_0 ca_1 ca_2 ca_3 za cb_0 cb_1 cb_2 cb_3 zb cc_0 cc_1 cc_2 cc_3 zc cd_0 cd_1 cd_2 cd_3 zd cg_0 cg_1 cg_2 cg_3 zg ci_0 ci_1 ci_2 ci_3 zi hfw_25
      rintro w26 ⟨hfw_26, hba_26, hbb_26, hbc_26, hbd_26, hbg_26, hbi_26⟩
      obtain ⟨ca_0, ca_1, ca_2, ca_3, za⟩ := hba_26.cs
      obtain ⟨cb_0, cb_1, cb_2, cb_3, zb⟩ := hbb_26.cs
      obtain ⟨cc_0, cc_1, cc_2, cc_3, zc⟩ := hbc_26.cs
      obtain ⟨cd_0, cd_1, cd_2, cd_3, zd⟩ := hbd_26.cs
      obtain ⟨cg_0, cg_1, cg_2, cg_3, zg⟩ := hbg_26.cs
      obtain ⟨ci_0, ci_1, ci_2, ci_3, zi⟩ := hbi_26.cs
      go_wp2_with fail
      refine (KS.out _).mono ?_
      rintro e w27 ⟨rfl, hf27⟩
      have la := hba_26.lt
      have lb := hbb_26.lt
      have lc := hbc_26.lt
      have ld := hbd_26.lt
      have lg := hbg_26.lt
      have li := hbi_26.lt
      have hl := hfw_26.size
      have po0 := o0.out
      have po1 := o1.out
      have po2 := o2.out
      have po3 := o3.out
      have hB : Bx w27 w.heap.size a ∧ Bx w27 (w.heap.size + 1) b ∧ Bx w27 w5.heap.size D.1 ∧ Bx w27 w7.heap.size D.1 ∧ Bx w27 w9.heap.size S.1 ∧ Bx w27 w11.heap.size O.1 := by
        refine ⟨?_, ?_, ?_, ?_, ?_, ?_⟩ <;> ((first | unfold Bx | unfold Bl | skip); refine hf27.obj (noB_not _) ?_; repeat (first | with_reducible exact hba_26.raw | with_reducible exact hbb_26.raw | with_reducible exact hbc_26.raw | with_reducible exact hbd_26.raw | with_reducible exact hbg_26.raw | with_reducible exact hbi_26.raw | (with_reducible refine obj_alloc_at ?_; simp; done) | (with_reducible apply obj_put4; omega) | (with_reducible apply obj_put1; omega) | (with_reducible refine obj_setCell_other ?_ _ _ ?_; rotate_left; (dsimp only; omega)) | with_reducible refine obj_alloc ?_ _ | with_reducible refine obj_drew ?_))
      obtain ⟨hba_27, hbb_27, hbc_27, hbd_27, hbg_27, hbi_27⟩ := hB
      have hfw_27 : Fr noB w w27 := by
        refine Fr.transN ?_ hf27
        repeat (first | with_reducible exact hfw_26 | with_reducible refine Fr.alloc ?_ _ | (with_reducible refine Fr.setCell ?_ ?_ _; rotate_left; (intro h; dsimp only at h; omega)) | with_reducible refine Fr.drew ?_ | exact hfw_26)
      clear hba_26 hbb_26 hbc_26 hbd_26 hbg_26 hbi_26 la lb lc ld lg li hl po0 po1 po2 po3 ca_0 ca_1 ca_2 ca_3 za cb_0 cb_1 cb_2 cb_3 zb cc_0 cc_1 cc_2 cc_3 zc cd_0 cd_1 cd_2 cd_3 zd cg_0 cg_1 cg_2 cg_3 zg ci_0 ci_1 ci_2 ci_3 zi hf27 hfw_26
      obtain ⟨ca_0, ca_1, ca_2, ca_3, za⟩ := hba_27.cs
      obtain ⟨cb_0, cb_1, cb_2, cb_3, zb⟩ := hbb_27.cs
      obtain ⟨cc_0, cc_1, cc_2, cc_3, zc⟩ := hbc_27.cs
      obtain ⟨cd_0, cd_1, cd_2, cd_3, zd⟩ := hbd_27.cs
      obtain ⟨cg_0, cg_1, cg_2, cg_3, zg⟩ := hbg_27.cs
      obtain ⟨ci_0, ci_1, ci_2, ci_3, zi⟩ := hbi_27.cs
      go_upto_region 21 with fail
      have la := hba_27.lt
      have lb := hbb_27.lt
      have lc := hbc_27.lt
      have ld := hbd_27.lt
      have lg := hbg_27.lt
      have li := hbi_27.lt
      have hl := hfw_27.size
      have po0 := o0.out
      have po1 := o1.out
      have po2 := o2.out
      have po3 := o3.out
      refine wp_world (fun W => Fr noB w W ∧ Bx W w.heap.size a ∧ Bx W (w.heap.size + 1) b ∧ Bx W w5.heap.size D.1 ∧ Bx W w7.heap.size D.1 ∧ Bx W w9.heap.size S.1 ∧ Bx W w11.heap.size S.1) ?_ ?_
      · refine ⟨?_, ?_, ?_, ?_, ?_, ?_, ?_⟩ <;> ((first | unfold Bx | unfold Bl | skip); repeat (first | with_reducible exact hfw_27 | with_reducible refine Fr.alloc ?_ _ | (with_reducible refine Fr.setCell ?_ ?_ _; rotate_left; (intro h; dsimp only at h; omega)) | with_reducible refine Fr.drew ?_ | with_reducible exact hba_27.raw | with_reducible exact hbb_27.raw | with_reducible exact hbc_27.raw | with_reducible exact hbd_27.raw | with_reducible exact hbg_27.raw | with_reducible exact hbi_27.raw | (with_reducible refine obj_alloc_at ?_; simp; done) | (with_reducible apply obj_put4; omega) | (with_reducible apply obj_put1; omega) | (with_reducible refine obj_setCell_other ?_ _ _ ?_; rotate_left; (dsimp only; omega)) | with_reducible refine obj_alloc ?_ _ | with_reducible refine obj_drew ?_ | exact hfw_27))
      clear hba_27 hbb_27 hbc_27 hbd_27 hbg_27 hbi_27 la lb lc ld lg li hl po0 po1 po2 po3 ca_0 ca_1 ca_2 ca_3 za cb_0 cb_1 cb_2 cb_3 zb cc_0 cc_1 cc_2 cc_3 zc cd_0 cd_1 cd_2 cd_3 zd cg_0 cg_1 cg_2 cg_3 zg ci_0 ci_1 ci_2 ci_3 zi hfw_27
      rintro w28 ⟨hfw_28, hba_28, hbb_28, hbc_28, hbd_28, hbg_28, hbi_28⟩
      obtain ⟨ca_0, ca_1, ca_2, ca_3, za⟩ := hba_28.cs
      obtain ⟨cb_0, cb_1, cb_2, cb_3, zb⟩ := hbb_28.cs
      obtain ⟨cc_0, cc_1, cc_2, cc_3, zc⟩ := hbc_28.cs
      obtain ⟨cd_0, cd_1, cd_2, cd_3, zd⟩ := hbd_28.cs
      obtain ⟨cg_0, cg_1, cg_2, cg_3, zg⟩ := hbg_28.cs
      obtain ⟨ci_0, ci_1, ci_2, ci_3, zi⟩ := hbi_28.cs
      have qDx := qD.out
      have qSx := qS.out
      go_wp2_with fail
      refine (HM.out _).mono ?_
      rintro e w29 ⟨rfl, hf29⟩
      have la := hba_28.lt
      have lb := hbb_28.lt
      have lc := hbc_28.lt
      have ld := hbd_28.lt
      have lg := hbg_28.lt
      have li := hbi_28.lt
      have hl := hfw_28.size
      have po0 := o0.out
      have po1 := o1.out
      have po2 := o2.out
      have po3 := o3.out
      have hB : Bx w29 w.heap.size a ∧ Bx w29 (w.heap.size + 1) b ∧ Bx w29 w5.heap.size D.1 ∧ Bx w29 w7.heap.size D.1 ∧ Bx w29 w9.heap.size S.1 ∧ Bx w29 w11.heap.size S.1 := by
        refine ⟨?_, ?_, ?_, ?_, ?_, ?_⟩ <;> ((first | unfold Bx | unfold Bl | skip); refine hf29.obj (noB_not _) ?_; repeat (first | with_reducible exact hba_28.raw | with_reducible exact hbb_28.raw | with_reducible exact hbc_28.raw | with_reducible exact hbd_28.raw | with_reducible exact hbg_28.raw | with_reducible exact hbi_28.raw | (with_reducible refine obj_alloc_at ?_; simp; done) | (with_reducible apply obj_put4; omega) | (with_reducible apply obj_put1; omega) | (with_reducible refine obj_setCell_other ?_ _ _ ?_; rotate_left; (dsimp only; omega)) | with_reducible refine obj_alloc ?_ _ | with_reducible refine obj_drew ?_))
      obtain ⟨hba_29, hbb_29, hbc_29, hbd_29, hbg_29, hbi_29⟩ := hB
      have hfw_29 : Fr noB w w29 := by
        refine Fr.transN ?_ hf29
        repeat (first | with_reducible exact hfw_28 | with_reducible refine Fr.alloc ?_ _ | (with_reducible refine Fr.setCell ?_ ?_ _; rotate_left; (intro h; dsimp only at h; omega)) | with_reducible refine Fr.drew ?_ | exact hfw_28)
      clear hba_28 hbb_28 hbc_28 hbd_28 hbg_28 hbi_28 la lb lc ld lg li hl po0 po1 po2 po3 ca_0 ca_1 ca_2 ca_3 za cb_0 cb_1 cb_2 cb_3 zb cc_0 cc_1 cc_2 cc_3 zc cd_0 cd_1 cd_2 cd_3 zd cg_0 cg_1 cg_2 cg_3 zg ci_0 ci_1 ci_2 ci_3 zi qDx qSx hf29 hfw_28
      obtain ⟨ca_0, ca_1, ca_2, ca_3, za⟩ := hba_29.cs
      obtain ⟨cb_0, cb_1, cb_2, cb_3, zb⟩ := hbb_29.cs
      obtain ⟨cc_0, cc_1, cc_2, cc_3, zc⟩ := hbc_29.cs
      obtain ⟨cd_0, cd_1, cd_2, cd_3, zd⟩ := hbd_29.cs
      obtain ⟨cg_0, cg_1, cg_2, cg_3, zg⟩ := hbg_29.cs
      obtain ⟨ci_0, ci_1, ci_2, ci_3, zi⟩ := hbi_29.cs
      go_upto_region 24 with fail
      have la := hba_29.lt
      have lb := hbb_29.lt
      have lc := hbc_29.lt
      have ld := hbd_29.lt
      have lg := hbg_29.lt
      have li := hbi_29.lt
      have hl := hfw_29.size
      have po0 := o0.out
      have po1 := o1.out
      have po2 := o2.out
      have po3 := o3.out
      refine wp_world (fun W => Fr noB w W ∧ Bx W w.heap.size a ∧ Bx W (w.heap.size + 1) b ∧ Bx W w5.heap.size M.1 ∧ Bx W w7.heap.size D.1 ∧ Bx W w9.heap.size S.1 ∧ Bx W w11.heap.size S.1) ?_ ?_
      · refine ⟨?_, ?_, ?_, ?_, ?_, ?_, ?_⟩ <;> ((first | unfold Bx | unfold Bl | skip); repeat (first | with_reducible exact hfw_29 | with_reducible refine Fr.alloc ?_ _ | (with_reducible refine Fr.setCell ?_ ?_ _; rotate_left; (intro h; dsimp only at h; omega)) | with_reducible refine Fr.drew ?_ | with_reducible exact hba_29.raw | with_reducible exact hbb_29.raw | with_reducible exact hbc_29.raw | with_reducible exact hbd_29.raw | with_reducible exact hbg_29.raw | with_reducible exact hbi_29.raw | (with_reducible refine obj_alloc_at ?_; simp; done) | (with_reducible apply obj_put4; omega) | (with_reducible apply obj_put1; omega) | (with_reducible refine obj_setCell_other ?_ _ _ ?_; rotate_left; (dsimp only; omega)) | with_reducible refine obj_alloc ?_ _ | with_reducible refine obj_drew ?_ | exact hfw_29))
      clear hba_29 hbb_29 hbc_29 hbd_29 hbg_29 hbi_29 la lb lc ld lg li hl po0 po1 po2 po3 ca_0 ca_1 ca_2 ca_3 za cb_0 cb_1 cb_2 cb_3 zb cc_0 cc_1 cc_2 cc_3 zc cd_0 cd_1 cd_2 cd_3 zd cg_0 cg_1 cg_2 cg_3 zg ci_0 ci_1 ci_2 ci_3 zi hfw_29
      rintro w30 ⟨hfw_30, hba_30, hbb_30, hbc_30, hbd_30, hbg_30, hbi_30⟩
      obtain ⟨ca_0, ca_1, ca_2, ca_3, za⟩ := hba_30.cs
      obtain ⟨cb_0, cb_1, cb_2, cb_3, zb⟩ := hbb_30.cs
      obtain ⟨cc_0, cc_1, cc_2, cc_3, zc⟩ := hbc_30.cs
      obtain ⟨cd_0, cd_1, cd_2, cd_3, zd⟩ := hbd_30.cs
      obtain ⟨cg_0, cg_1, cg_2, cg_3, zg⟩ := hbg_30.cs
      obtain ⟨ci_0, ci_1, ci_2, ci_3, zi⟩ := hbi_30.cs
      go_wp2_with fail
      refine (KM.out _).mono ?_
      rintro e w31 ⟨rfl, hf31⟩
      have la := hba_30.lt
      have lb := hbb_30.lt
      have lc := hbc_30.lt
      have ld := hbd_30.lt
      have lg := hbg_30.lt
      have li := hbi_30.lt
      have hl := hfw_30.size
      have po0 := o0.out
      have po1 := o1.out
      have po2 := o2.out
      have po3 := o3.out
      have hB : Bx w31 w.heap.size a ∧ Bx w31 (w.heap.size + 1) b ∧ Bx w31 w5.heap.size M.1 ∧ Bx w31 w7.heap.size D.1 ∧ Bx w31 w9.heap.size S.1 ∧ Bx w31 w11.heap.size S.1 := by
        refine ⟨?_, ?_, ?_, ?_, ?_, ?_⟩ <;> ((first | unfold Bx | unfold Bl | skip); refine hf31.obj (noB_not _) ?_; repeat (first | with_reducible exact hba_30.raw | with_reducible exact hbb_30.raw | with_reducible exact hbc_30.raw | with_reducible exact hbd_30.raw | with_reducible exact hbg_30.raw | with_reducible exact hbi_30.raw | (with_reducible refine obj_alloc_at ?_; simp; done) | (with_reducible apply obj_put4; omega) | (with_reducible apply obj_put1; omega) | (with_reducible refine obj_setCell_other ?_ _ _ ?_; rotate_left; (dsimp only; omega)) | with_reducible refine obj_alloc ?_ _ | with_reducible refine obj_drew ?_))
      obtain ⟨hba_31, hbb_31, hbc_31, hbd_31, hbg_31, hbi_31⟩ := hB
      have hfw_31 : Fr noB w w31 := by
        refine Fr.transN ?_ hf31
        repeat (first | with_reducible exact hfw_30 | with_reducible refine Fr.alloc ?_ _ | (with_reducible refine Fr.setCell ?_ ?_ _; rotate_left; (intro h; dsimp only at h; omega)) | with_reducible refine Fr.drew ?_ | exact hfw_30)
      clear hba_30 hbb_30 hbc_30 hbd_30 hbg_30 hbi_30 la lb lc ld lg li hl po0 po1 po2 po3 ca_0 ca_1 ca_2 ca_3 za cb_0 cb_1 cb_2 cb_3 zb cc_0 cc_1 cc_2 cc_3 zc cd_0 cd_1 cd_2 cd_3 zd cg_0 cg_1 cg_2 cg_3 zg ci_0 ci_1 ci_2 ci_3 zi hf31 hfw_30
      obtain ⟨ca_0, ca_1, ca_2, ca_3, za⟩ := hba_31.cs
      obtain ⟨cb_0, cb_1, cb_2, cb_3, zb⟩ := hbb_31.cs
      obtain ⟨cc_0, cc_1, cc_2, cc_3, zc⟩ := hbc_31.cs
      obtain ⟨cd_0, cd_1, cd_2, cd_3, zd⟩ := hbd_31.cs
      obtain ⟨cg_0, cg_1, cg_2, cg_3, zg⟩ := hbg_31.cs
      obtain ⟨ci_0, ci_1, ci_2, ci_3, zi⟩ := hbi_31.cs
      go_upto_region 25 with fail
      have la := hba_31.lt
      have lb := hbb_31.lt
      have lc := hbc_31.lt
      have ld := hbd_31.lt
      have lg := hbg_31.lt
      have li := hbi_31.lt
      have hl := hfw_31.size
      have po0 := o0.out
      have po1 := o1.out
      have po2 := o2.out
      have po3 := o3.out
      refine wp_world (fun W => Fr noB w W ∧ Bx W w.heap.size a ∧ Bx W (w.heap.size + 1) b ∧ Bx W w5.heap.size M.1 ∧ Bx W w7.heap.size M.1 ∧ Bx W w9.heap.size S.1 ∧ Bx W w11.heap.size S.1) ?_ ?_
      · refine ⟨?_, ?_, ?_, ?_, ?_, ?_, ?_⟩ <;> ((first | unfold Bx | unfold Bl | skip); repeat (first | with_reducible exact hfw_31 | with_reducible refine Fr.alloc ?_ _ | (with_reducible refine Fr.setCell ?_ ?_ _; rotate_left; (intro h; dsimp only at h; omega)) | with_reducible refine Fr.drew ?_ | with_reducible exact hba_31.raw | with_reducible exact hbb_31.raw | with_reducible exact hbc_31.raw | with_reducible exact hbd_31.raw | with_reducible exact hbg_31.raw | with_reducible exact hbi_31.raw | (with_reducible refine obj_alloc_at ?_; simp; done) | (with_reducible apply obj_put4; omega) | (with_reducible apply obj_put1; omega) | (with_reducible refine obj_setCell_other ?_ _ _ ?_; rotate_left; (dsimp only; omega)) | with_reducible refine obj_alloc ?_ _ | with_reducible refine obj_drew ?_ | exact hfw_31))
      clear hba_31 hbb_31 hbc_31 hbd_31 hbg_31 hbi_31 la lb lc ld lg li hl po0 po1 po2 po3 ca_0 ca_1 ca_2 ca_3 za cb_0 cb_1 cb_2 cb_3 zb cc_0 cc_1 cc_2 cc_3 zc cd_0 cd_1 cd_2 cd_3 zd cg_0 cg_1 cg_2 cg_3 zg ci_0 ci_1 ci_2 ci_3 zi hfw_31
      rintro w32 ⟨hfw_32, hba_32, hbb_32, hbc_32, hbd_32, hbg_32, hbi_32⟩
      obtain ⟨ca_0, ca_1, ca_2, ca_3, za⟩ := hba_32.cs
      obtain ⟨cb_0, cb_1, cb_2, cb_3, zb⟩ := hbb_32.cs
      obtain ⟨cc_0, cc_1, cc_2, cc_3, zc⟩ := hbc_32.cs
      obtain ⟨cd_0, cd_1, cd_2, cd_3, zd⟩ := hbd_32.cs
      obtain ⟨cg_0, cg_1, cg_2, cg_3, zg⟩ := hbg_32.cs
      obtain ⟨ci_0, ci_1, ci_2, ci_3, zi⟩ := hbi_32.cs
      go_wp2_with fail
      refine (HE.out _).mono ?_
      rintro e w33 ⟨rfl, hf33⟩
      have la := hba_32.lt
      have lb := hbb_32.lt
      have lc := hbc_32.lt
      have ld := hbd_32.lt
      have lg := hbg_32.lt
      have li := hbi_32.lt
      have hl := hfw_32.size
      have po0 := o0.out
      have po1 := o1.out
      have po2 := o2.out
      have po3 := o3.out
      have hB : Bx w33 w.heap.size a ∧ Bx w33 (w.heap.size + 1) b ∧ Bx w33 w5.heap.size M.1 ∧ Bx w33 w7.heap.size M.1 ∧ Bx w33 w9.heap.size S.1 ∧ Bx w33 w11.heap.size S.1 := by
        refine ⟨?_, ?_, ?_, ?_, ?_, ?_⟩ <;> ((first | unfold Bx | unfold Bl | skip); refine hf33.obj (noB_not _) ?_; repeat (first | with_reducible exact hba_32.raw | with_reducible exact hbb_32.raw | with_reducible exact hbc_32.raw | with_reducible exact hbd_32.raw | with_reducible exact hbg_32.raw | with_reducible exact hbi_32.raw | (with_reducible refine obj_alloc_at ?_; simp; done) | (with_reducible apply obj_put4; omega) | (with_reducible apply obj_put1; omega) | (with_reducible refine obj_setCell_other ?_ _ _ ?_; rotate_left; (dsimp only; omega)) | with_reducible refine obj_alloc ?_ _ | with_reducible refine obj_drew ?_))
      obtain ⟨hba_33, hbb_33, hbc_33, hbd_33, hbg_33, hbi_33⟩ := hB
      have hfw_33 : Fr noB w w33 := by
        refine Fr.transN ?_ hf33
        repeat (first | with_reducible exact hfw_32 | with_reducible refine Fr.alloc ?_ _ | (with_reducible refine Fr.setCell ?_ ?_ _; rotate_left; (intro h; dsimp only at h; omega)) | with_reducible refine Fr.drew ?_ | exact hfw_32)
      clear hba_32 hbb_32 hbc_32 hbd_32 hbg_32 hbi_32 la lb lc ld lg li hl po0 po1 po2 po3 ca_0 ca_1 ca_2 ca_3 za cb_0 cb_1 cb_2 cb_3 zb cc_0 cc_1 cc_2 cc_3 zc cd_0 cd_1 cd_2 cd_3 zd cg_0 cg_1 cg_2 cg_3 zg ci_0 ci_1 ci_2 ci_3 zi hf33 hfw_32
      obtain ⟨ca_0, ca_1, ca_2, ca_3, za⟩ := hba_33.cs
      obtain ⟨cb_0, cb_1, cb_2, cb_3, zb⟩ := hbb_33.cs
      obtain ⟨cc_0, cc_1, cc_2, cc_3, zc⟩ := hbc_33.cs
      obtain ⟨cd_0, cd_1, cd_2, cd_3, zd⟩ := hbd_33.cs
      obtain ⟨cg_0, cg_1, cg_2, cg_3, zg⟩ := hbg_33.cs
      obtain ⟨ci_0, ci_1, ci_2, ci_3, zi⟩ := hbi_33.cs
      go_upto_region 26 with fail
      have la := hba_33.lt
      have lb := hbb_33.lt
      have lc := hbc_33.lt
      have ld := hbd_33.lt
      have lg := hbg_33.lt
      have li := hbi_33.lt
      have hl := hfw_33.size
      have po0 := o0.out
      have po1 := o1.out
      have po2 := o2.out
      have po3 := o3.out
      refine wp_world (fun W => Fr noB w W ∧ Bx W w.heap.size a ∧ Bx W (w.heap.size + 1) b ∧ Bx W w5.heap.size M.1 ∧ Bx W w7.heap.size M.1 ∧ Bx W w9.heap.size E.1 ∧ Bx W w11.heap.size S.1) ?_ ?_
      · refine ⟨?_, ?_, ?_, ?_, ?_, ?_, ?_⟩ <;> ((first | unfold Bx | unfold Bl | skip); repeat (first | with_reducible exact hfw_33 | with_reducible refine Fr.alloc ?_ _ | (with_reducible refine Fr.setCell ?_ ?_ _; rotate_left; (intro h; dsimp only at h; omega)) | with_reducible refine Fr.drew ?_ | with_reducible exact hba_33.raw | with_reducible exact hbb_33.raw | with_reducible exact hbc_33.raw | with_reducible exact hbd_33.raw | with_reducible exact hbg_33.raw | with_reducible exact hbi_33.raw | (with_reducible refine obj_alloc_at ?_; simp; done) | (with_reducible apply obj_put4; omega) | (with_reducible apply obj_put1; omega) | (with_reducible refine obj_setCell_other ?_ _ _ ?_; rotate_left; (dsimp only; omega)) | with_reducible refine obj_alloc ?_ _ | with_reducible refine obj_drew ?_ | exact hfw_33))
      clear hba_33 hbb_33 hbc_33 hbd_33 hbg_33 hbi_33 la lb lc ld lg li hl po0 po1 po2 po3 ca_0 ca_1 ca_2 ca_3 za cb_0 cb_1 cb_2 cb_3 zb cc_0 cc_1 cc_2 cc_3 zc cd_0 cd_1 cd_2 cd_3 zd cg_0 cg_1 cg_2 cg_3 zg ci_0 ci_1 ci_2 ci_3 zi hfw_33
      rintro w34 ⟨hfw_34, hba_34, hbb_34, hbc_34, hbd_34, hbg_34, hbi_34⟩
      obtain ⟨ca_0, ca_1, ca_2, ca_3, za⟩ := hba_34.cs
      obtain ⟨cb_0, cb_1, cb_2, cb_3, zb⟩ := hbb_34.cs
      obtain ⟨cc_0, cc_1, cc_2, cc_3, zc⟩ := hbc_34.cs
      obtain ⟨cd_0, cd_1, cd_2, cd_3, zd⟩ := hbd_34.cs
      obtain ⟨cg_0, cg_1, cg_2, cg_3, zg⟩ := hbg_34.cs
      obtain ⟨ci_0, ci_1, ci_2, ci_3, zi⟩ := hbi_34.cs
      go_wp2_with fail
      refine (KE.out _).mono ?_
      rintro e w35 ⟨rfl, hf35⟩
      have la := hba_34.lt
      have lb := hbb_34.lt
      have lc := hbc_34.lt
      have ld := hbd_34.lt
      have lg := hbg_34.lt
      have li := hbi_34.lt
      have hl := hfw_34.size
      have po0 := o0.out
      have po1 := o1.out
      have po2 := o2.out
      have po3 := o3.out
      have hB : Bx w35 w.heap.size a ∧ Bx w35 (w.heap.size + 1) b ∧ Bx w35 w5.heap.size M.1 ∧ Bx w35 w7.heap.size M.1 ∧ Bx w35 w9.heap.size E.1 ∧ Bx w35 w11.heap.size S.1 := by
        refine ⟨?_, ?_, ?_, ?_, ?_, ?_⟩ <;> ((first | unfold Bx | unfold Bl | skip); refine hf35.obj (noB_not _) ?_; repeat (first | with_reducible exact hba_34.raw | with_reducible exact hbb_34.raw | with_reducible exact hbc_34.raw | with_reducible exact hbd_34.raw | with_reducible exact hbg_34.raw | with_reducible exact hbi_34.raw | (with_reducible refine obj_alloc_at ?_; simp; done) | (with_reducible apply obj_put4; omega) | (with_reducible apply obj_put1; omega) | (with_reducible refine obj_setCell_other ?_ _ _ ?_; rotate_left; (dsimp only; omega)) | with_reducible refine obj_alloc ?_ _ | with_reducible refine obj_drew ?_))
      obtain ⟨hba_35, hbb_35, hbc_35, hbd_35, hbg_35, hbi_35⟩ := hB
      have hfw_35 : Fr noB w w35 := by
        refine Fr.transN ?_ hf35
        repeat (first | with_reducible exact hfw_34 | with_reducible refine Fr.alloc ?_ _ | (with_reducible refine Fr.setCell ?_ ?_ _; rotate_left; (intro h; dsimp only at h; omega)) | with_reducible refine Fr.drew ?_ | exact hfw_34)
      clear hba_34 hbb_34 hbc_34 hbd_34 hbg_34 hbi_34 la lb lc ld lg li hl po0 po1 po2 po3 ca_0 ca_1 ca_2 ca_3 za cb_0 cb_1 cb_2 cb_3 zb cc_0 cc_1 cc_2 cc_3 zc cd_0 cd_1 cd_2 cd_3 zd cg_0 cg_1 cg_2 cg_3 zg ci_0 ci_1 ci_2 ci_3 zi hf35 hfw_34
      obtain ⟨ca_0, ca_1, ca_2, ca_3, za⟩ := hba_35.cs
      obtain ⟨cb_0, cb_1, cb_2, cb_3, zb⟩ := hbb_35.cs
      obtain ⟨cc_0, cc_1, cc_2, cc_3, zc⟩ := hbc_35.cs
      obtain ⟨cd_0, cd_1, cd_2, cd_3, zd⟩ := hbd_35.cs
      obtain ⟨cg_0, cg_1, cg_2, cg_3, zg⟩ := hbg_35.cs
      obtain ⟨ci_0, ci_1, ci_2, ci_3, zi⟩ := hbi_35.cs
      go_upto_region 27 with fail
      have la := hba_35.lt
      have lb := hbb_35.lt
      have lc := hbc_35.lt
      have ld := hbd_35.lt
      have lg := hbg_35.lt
      have li := hbi_35.lt
      have hl := hfw_35.size
      have po0 := o0.out
      have po1 := o1.out
      have po2 := o2.out
      have po3 := o3.out
      refine wp_world (fun W => Fr noB w W ∧ Bx W w.heap.size a ∧ Bx W (w.heap.size + 1) b ∧ Bx W w5.heap.size M.1 ∧ Bx W w7.heap.size M.1 ∧ Bx W w9.heap.size E.1 ∧ Bx W w11.heap.size E.1) ?_ ?_
      · refine ⟨?_, ?_, ?_, ?_, ?_, ?_, ?_⟩ <;> ((first | unfold Bx | unfold Bl | skip); repeat (first | with_reducible exact hfw_35 | with_reducible refine Fr.alloc ?_ _ | (with_reducible refine Fr.setCell ?_ ?_ _; rotate_left; (intro h; dsimp only at h; omega)) | with_reducible refine Fr.drew ?_ | with_reducible exact hba_35.raw | with_reducible exact hbb_35.raw | with_reducible exact hbc_35.raw | with_reducible exact hbd_35.raw | with_reducible exact hbg_35.raw | with_reducible exact hbi_35.raw | (with_reducible refine obj_alloc_at ?_; simp; done) | (with_reducible apply obj_put4; omega) | (with_reducible apply obj_put1; omega) | (with_reducible refine obj_setCell_other ?_ _ _ ?_; rotate_left; (dsimp only; omega)) | with_reducible refine obj_alloc ?_ _ | with_reducible refine obj_drew ?_ | exact hfw_35))
      clear hba_35 hbb_35 hbc_35 hbd_35 hbg_35 hbi_35 la lb lc ld lg li hl po0 po1 po2 po3 ca_0 ca_1 ca_2 ca_3 za cb_0 cb_1 cb_2 cb_3 zb cc_0 cc_1 cc_2 cc_3 zc cd_0 cd_1 cd_2 cd_3 zd cg_0 cg_1 cg_2 cg_3 zg ci_0 ci_1 ci_2 ci_3 zi hfw_35
      rintro w36 ⟨hfw_36, hba_36, hbb_36, hbc_36, hbd_36, hbg_36, hbi_36⟩
      obtain ⟨ca_0, ca_1, ca_2, ca_3, za⟩ := hba_36.cs
      obtain ⟨cb_0, cb_1, cb_2, cb_3, zb⟩ := hbb_36.cs
      obtain ⟨cc_0, cc_1, cc_2, cc_3, zc⟩ := hbc_36.cs
      obtain ⟨cd_0, cd_1, cd_2, cd_3, zd⟩ := hbd_36.cs
      obtain ⟨cg_0, cg_1, cg_2, cg_3, zg⟩ := hbg_36.cs
      obtain ⟨ci_0, ci_1, ci_2, ci_3, zi⟩ := hbi_36.cs
      go_wp2_with fail
      refine (HL.out _).mono ?_
      rintro e w37 ⟨rfl, hf37⟩
      have la := hba_36.lt
      have lb := hbb_36.lt
      have lc := hbc_36.lt
      have ld := hbd_36.lt
      have lg := hbg_36.lt
      have li := hbi_36.lt
      have hl := hfw_36.size
      have po0 := o0.out
      have po1 := o1.out
      have po2 := o2.out
      have po3 := o3.out
      have hB : Bx w37 w.heap.size a ∧ Bx w37 (w.heap.size + 1) b ∧ Bx w37 w5.heap.size M.1 ∧ Bx w37 w7.heap.size M.1 ∧ Bx w37 w9.heap.size E.1 ∧ Bx w37 w11.heap.size E.1 := by
        refine ⟨?_, ?_, ?_, ?_, ?_, ?_⟩ <;> ((first | unfold Bx | unfold Bl | skip); refine hf37.obj (noB_not _) ?_; repeat (first | with_reducible exact hba_36.raw | with_reducible exact hbb_36.raw | with_reducible exact hbc_36.raw | with_reducible exact hbd_36.raw | with_reducible exact hbg_36.raw | with_reducible exact hbi_36.raw | (with_reducible refine obj_alloc_at ?_; simp; done) | (with_reducible apply obj_put4; omega) | (with_reducible apply obj_put1; omega) | (with_reducible refine obj_setCell_other ?_ _ _ ?_; rotate_left; (dsimp only; omega)) | with_reducible refine obj_alloc ?_ _ | with_reducible refine obj_drew ?_))
      obtain ⟨hba_37, hbb_37, hbc_37, hbd_37, hbg_37, hbi_37⟩ := hB
      have hfw_37 : Fr noB w w37 := by
        refine Fr.transN ?_ hf37
        repeat (first | with_reducible exact hfw_36 | with_reducible refine Fr.alloc ?_ _ | (with_reducible refine Fr.setCell ?_ ?_ _; rotate_left; (intro h; dsimp only at h; omega)) | with_reducible refine Fr.drew ?_ | exact hfw_36)
      clear hba_36 hbb_36 hbc_36 hbd_36 hbg_36 hbi_36 la lb lc ld lg li hl po0 po1 po2 po3 ca_0 ca_1 ca_2 ca_3 za cb_0 cb_1 cb_2 cb_3 zb cc_0 cc_1 cc_2 cc_3 zc cd_0 cd_1 cd_2 cd_3 zd cg_0 cg_1 cg_2 cg_3 zg ci_0 ci_1 ci_2 ci_3 zi hf37 hfw_36
      obtain ⟨ca_0, ca_1, ca_2, ca_3, za⟩ := hba_37.cs
      obtain ⟨cb_0, cb_1, cb_2, cb_3, zb⟩ := hbb_37.cs
      obtain ⟨cc_0, cc_1, cc_2, cc_3, zc⟩ := hbc_37.cs
      obtain ⟨cd_0, cd_1, cd_2, cd_3, zd⟩ := hbd_37.cs
      obtain ⟨cg_0, cg_1, cg_2, cg_3, zg⟩ := hbg_37.cs
      obtain ⟨ci_0, ci_1, ci_2, ci_3, zi⟩ := hbi_37.cs
      go_upto_region 28 with fail
      have o4 := Lib.hid (hbi_37.lt)
      have la := hba_37.lt
      have lb := hbb_37.lt
      have lc := hbc_37.lt
      have ld := hbd_37.lt
      have lg := hbg_37.lt
      have li := hbi_37.lt
      have hl := hfw_37.size
      have po0 := o0.out
      have po1 := o1.out
      have po2 := o2.out
      have po3 := o3.out
      have po4 := o4.out
      refine wp_world (fun W => Fr noB w W ∧ Bx W w.heap.size a ∧ Bx W (w.heap.size + 1) b ∧ Bx W w5.heap.size M.1 ∧ Bx W w7.heap.size M.1 ∧ Bx W w9.heap.size E.1 ∧ Bx W w11.heap.size E.1 ∧ Bx W w37.heap.size L.1) ?_ ?_
      · refine ⟨?_, ?_, ?_, ?_, ?_, ?_, ?_, ?_⟩ <;> ((first | unfold Bx | unfold Bl | skip); repeat (first | with_reducible exact hfw_37 | with_reducible refine Fr.alloc ?_ _ | (with_reducible refine Fr.setCell ?_ ?_ _; rotate_left; (intro h; dsimp only at h; omega)) | with_reducible refine Fr.drew ?_ | with_reducible exact hba_37.raw | with_reducible exact hbb_37.raw | with_reducible exact hbc_37.raw | with_reducible exact hbd_37.raw | with_reducible exact hbg_37.raw | with_reducible exact hbi_37.raw | (with_reducible refine obj_alloc_at ?_; simp; done) | (with_reducible apply obj_put4; omega) | (with_reducible apply obj_put1; omega) | (with_reducible refine obj_setCell_other ?_ _ _ ?_; rotate_left; (dsimp only; omega)) | with_reducible refine obj_alloc ?_ _ | with_reducible refine obj_drew ?_ | exact hfw_37))
      clear hba_37 hbb_37 hbc_37 hbd_37 hbg_37 hbi_37 la lb lc ld lg li hl po0 po1 po2 po3 po4 ca_0 ca_1 ca_2 ca_3 za cb_0 cb_1 cb_2 cb_3 zb cc_0 cc_1 cc_2 cc_3 zc cd_0 cd_1 cd_2 cd_3 zd cg_0 cg_1 cg_2 cg_3 zg ci_0 ci_1 ci_2 ci_3 zi hfw_37
      rintro w38 ⟨hfw_38, hba_38, hbb_38, hbc_38, hbd_38, hbg_38, hbi_38, hbk_38⟩
      obtain ⟨ca_0, ca_1, ca_2, ca_3, za⟩ := hba_38.cs
      obtain ⟨cb_0, cb_1, cb_2, cb_3, zb⟩ := hbb_38.cs
      obtain ⟨cc_0, cc_1, cc_2, cc_3, zc⟩ := hbc_38.cs
      obtain ⟨cd_0, cd_1, cd_2, cd_3, zd⟩ := hbd_38.cs
      obtain ⟨cg_0, cg_1, cg_2, cg_3, zg⟩ := hbg_38.cs
      obtain ⟨ci_0, ci_1, ci_2, ci_3, zi⟩ := hbi_38.cs
      obtain ⟨ck_0, ck_1, ck_2, ck_3, zk⟩ := hbk_38.cs
      go_wp2_with fail
      refine (KL.out _).mono ?_
      rintro e w39 ⟨rfl, hf39⟩
      have la := hba_38.lt
      have lb := hbb_38.lt
      have lc := hbc_38.lt
      have ld := hbd_38.lt
      have lg := hbg_38.lt
      have li := hbi_38.lt
      have lk := hbk_38.lt
      have hl := hfw_38.size
      have po0 := o0.out
      have po1 := o1.out
      have po2 := o2.out
      have po3 := o3.out
      have po4 := o4.out
      have hB : Bx w39 w.heap.size a ∧ Bx w39 (w.heap.size + 1) b ∧ Bx w39 w5.heap.size M.1 ∧ Bx w39 w7.heap.size M.1 ∧ Bx w39 w9.heap.size E.1 ∧ Bx w39 w11.heap.size E.1 ∧ Bx w39 w37.heap.size L.1 := by
        refine ⟨?_, ?_, ?_, ?_, ?_, ?_, ?_⟩ <;> ((first | unfold Bx | unfold Bl | skip); refine hf39.obj (noB_not _) ?_; repeat (first | with_reducible exact hba_38.raw | with_reducible exact hbb_38.raw | with_reducible exact hbc_38.raw | with_reducible exact hbd_38.raw | with_reducible exact hbg_38.raw | with_reducible exact hbi_38.raw | with_reducible exact hbk_38.raw | (with_reducible refine obj_alloc_at ?_; simp; done) | (with_reducible apply obj_put4; omega) | (with_reducible apply obj_put1; omega) | (with_reducible refine obj_setCell_other ?_ _ _ ?_; rotate_left; (dsimp only; omega)) | with_reducible refine obj_alloc ?_ _ | with_reducible refine obj_drew ?_))
      obtain ⟨hba_39, hbb_39, hbc_39, hbd_39, hbg_39, hbi_39, hbk_39⟩ := hB
      have hfw_39 : Fr noB w w39 := by
        refine Fr.transN ?_ hf39
        repeat (first | with_reducible exact hfw_38 | with_reducible refine Fr.alloc ?_ _ | (with_reducible refine Fr.setCell ?_ ?_ _; rotate_left; (intro h; dsimp only at h; omega)) | with_reducible refine Fr.drew ?_ | exact hfw_38)
      clear hba_38 hbb_38 hbc_38 hbd_38 hbg_38 hbi_38 hbk_38 la lb lc ld lg li lk hl po0 po1 po2 po3 po4 ca_0 ca_1 ca_2 ca_3 za cb_0 cb_1 cb_2 cb_3 zb cc_0 cc_1 cc_2 cc_3 zc cd_0 cd_1 cd_2 cd_3 zd cg_0 cg_1 cg_2 cg_3 zg ci_0 ci_1 ci_2 ci_3 zi ck_0 ck_1 ck_2 ck_3 zk hf39 hfw_38
      obtain ⟨ca_0, ca_1, ca_2, ca_3, za⟩ := hba_39.cs
      obtain ⟨cb_0, cb_1, cb_2, cb_3, zb⟩ := hbb_39.cs
      obtain ⟨cc_0, cc_1, cc_2, cc_3, zc⟩ := hbc_39.cs
      obtain ⟨cd_0, cd_1, cd_2, cd_3, zd⟩ := hbd_39.cs
      obtain ⟨cg_0, cg_1, cg_2, cg_3, zg⟩ := hbg_39.cs
      obtain ⟨ci_0, ci_1, ci_2, ci_3, zi⟩ := hbi_39.cs
      obtain ⟨ck_0, ck_1, ck_2, ck_3, zk⟩ := hbk_39.cs
      go_upto_region 29 with fail
      have o5 := Lib.hid (hbk_39.lt)
      have la := hba_39.lt
      have lb := hbb_39.lt
      have lc := hbc_39.lt
      have ld := hbd_39.lt
      have lg := hbg_39.lt
      have li := hbi_39.lt
      have lk := hbk_39.lt
      have hl := hfw_39.size
      have po0 := o0.out
      have po1 := o1.out
      have po2 := o2.out
      have po3 := o3.out
      have po4 := o4.out
      have po5 := o5.out
      refine wp_world (fun W => Fr noB w W ∧ Bx W w.heap.size a ∧ Bx W (w.heap.size + 1) b ∧ Bx W w5.heap.size M.1 ∧ Bx W w7.heap.size M.1 ∧ Bx W w9.heap.size E.1 ∧ Bx W w11.heap.size E.1 ∧ Bx W w37.heap.size L.1 ∧ Bx W w39.heap.size L.1) ?_ ?_
      · refine ⟨?_, ?_, ?_, ?_, ?_, ?_, ?_, ?_, ?_⟩ <;> ((first | unfold Bx | unfold Bl | skip); repeat (first | with_reducible exact hfw_39 | with_reducible refine Fr.alloc ?_ _ | (with_reducible refine Fr.setCell ?_ ?_ _; rotate_left; (intro h; dsimp only at h; omega)) | with_reducible refine Fr.drew ?_ | with_reducible exact hba_39.raw | with_reducible exact hbb_39.raw | with_reducible exact hbc_39.raw | with_reducible exact hbd_39.raw | with_reducible exact hbg_39.raw | with_reducible exact hbi_39.raw | with_reducible exact hbk_39.raw | (with_reducible refine obj_alloc_at ?_; simp; done) | (with_reducible apply obj_put4; omega) | (with_reducible apply obj_put1; omega) | (with_reducible refine obj_setCell_other ?_ _ _ ?_; rotate_left; (dsimp only; omega)) | with_reducible refine obj_alloc ?_ _ | with_reducible refine obj_drew ?_ | exact hfw_39))
      clear hba_39 hbb_39 hbc_39 hbd_39 hbg_39 hbi_39 hbk_39 la lb lc ld lg li lk hl po0 po1 po2 po3 po4 po5 ca_0 ca_1 ca_2 ca_3 za cb_0 cb_1 cb_2 cb_3 zb cc_0 cc_1 cc_2 cc_3 zc cd_0 cd_1 cd_2 cd_3 zd cg_0 cg_1 cg_2 cg_3 zg ci_0 ci_1 ci_2 ci_3 zi ck_0 ck_1 ck_2 ck_3 zk hfw_39
      rintro w40 ⟨hfw_40, hba_40, hbb_40, hbc_40, hbd_40, hbg_40, hbi_40, hbk_40, hbm_40⟩
      obtain ⟨ca_0, ca_1, ca_2, ca_3, za⟩ := hba_40.cs
      obtain ⟨cb_0, cb_1, cb_2, cb_3, zb⟩ := hbb_40.cs
      obtain ⟨cc_0, cc_1, cc_2, cc_3, zc⟩ := hbc_40.cs
      obtain ⟨cd_0, cd_1, cd_2, cd_3, zd⟩ := hbd_40.cs
      obtain ⟨cg_0, cg_1, cg_2, cg_3, zg⟩ := hbg_40.cs
      obtain ⟨ci_0, ci_1, ci_2, ci_3, zi⟩ := hbi_40.cs
      obtain ⟨ck_0, ck_1, ck_2, ck_3, zk⟩ := hbk_40.cs
      obtain ⟨cm_0, cm_1, cm_2, cm_3, zm⟩ := hbm_40.cs
      have eMx := eM.out
      have eEx := eE.out
      have eLx := eL.out
      go_wp2_with fail
      refine (HAw.out _).mono ?_
      rintro e w41 ⟨rfl, hf41⟩
      have la := hba_40.lt
      have lb := hbb_40.lt
      have lc := hbc_40.lt
      have ld := hbd_40.lt
      have lg := hbg_40.lt
      have li := hbi_40.lt
      have lk := hbk_40.lt
      have lm := hbm_40.lt
      have hl := hfw_40.size
      have po0 := o0.out
      have po1 := o1.out
      have po2 := o2.out
      have po3 := o3.out
      have po4 := o4.out
      have po5 := o5.out
      have hB : Bx w41 w.heap.size a ∧ Bx w41 (w.heap.size + 1) b ∧ Bx w41 w5.heap.size M.1 ∧ Bx w41 w7.heap.size M.1 ∧ Bx w41 w9.heap.size E.1 ∧ Bx w41 w11.heap.size E.1 ∧ Bx w41 w37.heap.size L.1 ∧ Bx w41 w39.heap.size L.1 := by
        refine ⟨?_, ?_, ?_, ?_, ?_, ?_, ?_, ?_⟩ <;> ((first | unfold Bx | unfold Bl | skip); refine hf41.obj (noB_not _) ?_; repeat (first | with_reducible exact hba_40.raw | with_reducible exact hbb_40.raw | with_reducible exact hbc_40.raw | with_reducible exact hbd_40.raw | with_reducible exact hbg_40.raw | with_reducible exact hbi_40.raw | with_reducible exact hbk_40.raw | with_reducible exact hbm_40.raw | (with_reducible refine obj_alloc_at ?_; simp; done) | (with_reducible apply obj_put4; omega) | (with_reducible apply obj_put1; omega) | (with_reducible refine obj_setCell_other ?_ _ _ ?_; rotate_left; (dsimp only; omega)) | with_reducible refine obj_alloc ?_ _ | with_reducible refine obj_drew ?_))
      obtain ⟨hba_41, hbb_41, hbc_41, hbd_41, hbg_41, hbi_41, hbk_41, hbm_41⟩ := hB
      have hfw_41 : Fr noB w w41 := by
        refine Fr.transN ?_ hf41
        repeat (first | with_reducible exact hfw_40 | with_reducible refine Fr.alloc ?_ _ | (with_reducible refine Fr.setCell ?_ ?_ _; rotate_left; (intro h; dsimp only at h; omega)) | with_reducible refine Fr.drew ?_ | exact hfw_40)
      clear hba_40 hbb_40 hbc_40 hbd_40 hbg_40 hbi_40 hbk_40 hbm_40 la lb lc ld lg li lk lm hl po0 po1 po2 po3 po4 po5 ca_0 ca_1 ca_2 ca_3 za cb_0 cb_1 cb_2 cb_3 zb cc_0 cc_1 cc_2 cc_3 zc cd_0 cd_1 cd_2 cd_3 zd cg_0 cg_1 cg_2 cg_3 zg ci_0 ci_1 ci_2 ci_3 zi ck_0 ck_1 ck_2 ck_3 zk cm_0 cm_1 cm_2 cm_3 zm eMx eEx eLx hf41 hfw_40
      obtain ⟨ca_0, ca_1, ca_2, ca_3, za⟩ := hba_41.cs
      obtain ⟨cb_0, cb_1, cb_2, cb_3, zb⟩ := hbb_41.cs
      obtain ⟨cc_0, cc_1, cc_2, cc_3, zc⟩ := hbc_41.cs
      obtain ⟨cd_0, cd_1, cd_2, cd_3, zd⟩ := hbd_41.cs
      obtain ⟨cg_0, cg_1, cg_2, cg_3, zg⟩ := hbg_41.cs
      obtain ⟨ci_0, ci_1, ci_2, ci_3, zi⟩ := hbi_41.cs
      obtain ⟨ck_0, ck_1, ck_2, ck_3, zk⟩ := hbk_41.cs
      obtain ⟨cm_0, cm_1, cm_2, cm_3, zm⟩ := hbm_41.cs
      go_wp2_with fail
      have la := hba_41.lt
      have lb := hbb_41.lt
      have lc := hbc_41.lt
      have ld := hbd_41.lt
      have lg := hbg_41.lt
      have li := hbi_41.lt
      have lk := hbk_41.lt
      have lm := hbm_41.lt
      have hl := hfw_41.size
      have po0 := o0.out
      have po1 := o1.out
      have po2 := o2.out
      have po3 := o3.out
      have po4 := o4.out
      have po5 := o5.out
      go_ret
      refine ⟨?_, ?_⟩
      · rfl
      · skip
        repeat (first | with_reducible exact hfw_41 | with_reducible refine Fr.alloc ?_ _ | (with_reducible refine Fr.setCell ?_ ?_ _; rotate_left; (intro h; dsimp only at h; omega)) | with_reducible refine Fr.drew ?_ | exact hfw_41)


theorem logicTells_walk (a b : V) (n : Int) (is : Bool) (w : World) (ha : VOk a) (hb : VOk b) (_hn : (Lit.int .i64 n).wf = true) :
    Calls Try.prog 7 #[vV a, vV b, .int .i64 n, .bool is] w fun e w' => e = .returned (.bool true) ∧ Fr noB w w' := tells_law a b n is ha.n hb.n w

end Go.Proofs.Ytcncjghcnofioaa
