/- The small functions of package span, and the document's, at whatever values, by the open evaluator. No condition. -/
import Derived.Test.YtcncjghcnofioaaEvU
import Derived.Test.YtcncjghcnofioaaSpN
namespace Go.Proofs.Ytcncjghcnofioaa
open Ev

def vL (k n h : Int) (t : ByteArray) : Value := .agg #[.int .u8 k, .int .i64 n, .int .i64 h, .string t]
def eB : ByteArray := ⟨#[]⟩
def ofF (n hi : Int) : Value := bif decide (n ≥ hi) then .tuple #[vL 0 0 0 eB, .int .i64 4] else .tuple #[vL 4 n hi eB, .int .i64 0]
theorem bifB (c x y : Bool) : (bif c then Value.bool x else Value.bool y) = .bool (bif c then x else y) := by cases c <;> rfl
set_option maxRecDepth 100000
theorem of_o (n hi : Int) (w : World) : Calls Try.prog 53 #[.int .i64 n, .int .i64 hi] w fun e w' => e = .returned (ofF n hi) ∧ Fr noB w w' :=
  calls_open sp_mix sp_ok noS_ok 100 (args := [.s (.int .i64 n), .s (.int .i64 hi)]) (xs := [.int .i64 n, .int .i64 hi]) (by kernel_rfl) (by kernel_rfl) (by kernel_rfl) w
theorem rof_o (n hi : Int) (w : World) : Calls Try.prog 54 #[.int .i64 n, .int .i64 hi] w fun e w' => e = .returned (ofF n hi) ∧ Fr noB w w' :=
  calls_open sp_mix sp_ok noS_ok 100 (args := [.s (.int .i64 n), .s (.int .i64 hi)]) (xs := [.int .i64 n, .int .i64 hi]) (by kernel_rfl) (by kernel_rfl) (by kernel_rfl) w
def mayF (k n h : Int) (t : ByteArray) : Bool := bif (k == 4 && (n == n && (h == h && (t.toList == eB.toList && true)))) then decide (n < h) else false
theorem may_o (k n h : Int) (t : ByteArray) (w : World) : Calls Try.prog 57 #[vL k n h t] w fun e w' => e = .returned (.bool (mayF k n h t)) ∧ Fr noB w w' :=
  calls_open sp_mix sp_ok noS_ok 100 (args := [.s (vL k n h t)]) (xs := [vL k n h t]) (by kernel_rfl) (by kernel_rfl) (Eq.trans (b := bif (k == 4 && (n == n && (h == h && (t.toList == eB.toList && true)))) then .bool (decide (n < h)) else .bool false) (by kernel_rfl) (bifB _ _ _)) w
def rmayF (k n h : Int) (t : ByteArray) : Bool := bif k == 4 then (bif decide (n < h) then t.toList == eB.toList else false) else false
theorem rmay_o (k n h : Int) (t : ByteArray) (w : World) : Calls Try.prog 58 #[vL k n h t] w fun e w' => e = .returned (.bool (rmayF k n h t)) ∧ Fr noB w w' :=
  calls_open sp_mix sp_ok noS_ok 100 (args := [.s (vL k n h t)]) (xs := [vL k n h t]) (by kernel_rfl) (by kernel_rfl) (Eq.trans (b := bif k == 4 then (bif decide (n < h) then .bool (t.toList == eB.toList) else .bool false) else .bool false) (by kernel_rfl) (by rw [bifB, bifB]; rfl)) w
/-- A value that may be a span. -/
def okF (k n h : Int) (t : ByteArray) : Bool := k == 4 && (decide (n < h) && t.toList == eB.toList)
theorem mayF_eq (k n h : Int) (t : ByteArray) : mayF k n h t = okF k n h t := by
  unfold mayF okF
  simp only [BEq.rfl, Bool.true_and, Bool.and_true]
  cases k == 4 <;> cases t.toList == eB.toList <;> cases decide (n < h) <;> rfl
theorem rmayF_eq (k n h : Int) (t : ByteArray) : rmayF k n h t = okF k n h t := by
  unfold rmayF okF
  cases k == 4 <;> cases t.toList == eB.toList <;> cases decide (n < h) <;> rfl
theorem may_k (k n h : Int) (t : ByteArray) (w : World) : Calls Try.prog 57 #[vL k n h t] w fun e w' => e = .returned (.bool (okF k n h t)) ∧ Fr noB w w' := by rw [← mayF_eq]; exact may_o k n h t w
theorem rmay_k (k n h : Int) (t : ByteArray) (w : World) : Calls Try.prog 58 #[vL k n h t] w fun e w' => e = .returned (.bool (okF k n h t)) ∧ Fr noB w w' := by rw [← rmayF_eq]; exact rmay_o k n h t w
/-- What the calls tell of values. -/
def maySum (f : FuncId) : Sum := plT f fun
  | [.agg ⟨[.int .u8 k, .int .i64 n, .int .i64 h, .string t]⟩] => some (.bool (okF k n h t))
  | _ => none
def ofSum (f : FuncId) : Sum := plT f fun
  | [.int .i64 n, .int .i64 hi] => some (ofF n hi)
  | _ => none
theorem maySum_ok : SumG Try.prog (maySum 57) := plT_ok (by kernel_rfl) fun xs v h w => by
  split at h
  · cases h; exact may_k _ _ _ _ w
  · cases h
theorem rmaySum_ok : SumG Try.prog (maySum 58) := plT_ok (by kernel_rfl) fun xs v h w => by
  split at h
  · cases h; exact rmay_k _ _ _ _ w
  · cases h
def hasF (k n h : Int) (t : ByteArray) (m : Int) : Bool := okF k n h t && (decide (n ≤ m) && decide (m < h))
theorem has_o (k n h : Int) (t : ByteArray) (m : Int) (w : World) : Calls Try.prog 59 #[vL k n h t, .int .i64 m] w fun e w' => e = .returned (.bool (hasF k n h t m)) ∧ Fr noB w w' :=
  calls_open sp_mix sp_ok maySum_ok 100 (args := [.s (vL k n h t), .s (.int .i64 m)]) (xs := [vL k n h t, .int .i64 m]) (by kernel_rfl) (by kernel_rfl) (Eq.trans (b := bif okF k n h t then (bif decide (n ≤ m) then .bool (decide (m < h)) else .bool false) else .bool false) (by kernel_rfl) (by rw [bifB, bifB]; unfold hasF; cases okF k n h t <;> cases decide (n ≤ m) <;> rfl)) w
theorem rhas_o (k n h : Int) (t : ByteArray) (m : Int) (w : World) : Calls Try.prog 60 #[vL k n h t, .int .i64 m] w fun e w' => e = .returned (.bool (hasF k n h t m)) ∧ Fr noB w w' :=
  calls_open sp_mix sp_ok rmaySum_ok 100 (args := [.s (vL k n h t), .s (.int .i64 m)]) (xs := [vL k n h t, .int .i64 m]) (by kernel_rfl) (by kernel_rfl) (Eq.trans (b := bif okF k n h t then (bif decide (m ≥ n) then .bool (decide (m < h)) else .bool false) else .bool false) (by kernel_rfl) (by rw [bifB, bifB]; unfold hasF; show Value.bool (bif okF k n h t then (bif decide (n ≤ m) then decide (m < h) else false) else false) = _; cases okF k n h t <;> cases decide (n ≤ m) <;> rfl)) w
def meetsF (k n h : Int) (t : ByteArray) (k' n' h' : Int) (t' : ByteArray) : Bool := okF k n h t && (okF k' n' h' t' && (decide (n < h') && decide (n' < h)))
theorem meets_o (k n h : Int) (t : ByteArray) (k' n' h' : Int) (t' : ByteArray) (w : World) : Calls Try.prog 52 #[vL k n h t, vL k' n' h' t'] w fun e w' => e = .returned (.bool (meetsF k n h t k' n' h' t')) ∧ Fr noB w w' :=
  calls_open sp_mix sp_ok maySum_ok 100 (args := [.s (vL k n h t), .s (vL k' n' h' t')]) (xs := [vL k n h t, vL k' n' h' t']) (by kernel_rfl) (by kernel_rfl) (Eq.trans (b := bif okF k n h t then (bif okF k' n' h' t' then (bif decide (n < h') then .bool (decide (n' < h)) else .bool false) else .bool false) else .bool false) (by kernel_rfl) (by rw [bifB, bifB, bifB]; unfold meetsF; cases okF k n h t <;> cases okF k' n' h' t' <;> cases decide (n < h') <;> rfl)) w
end Go.Proofs.Ytcncjghcnofioaa
