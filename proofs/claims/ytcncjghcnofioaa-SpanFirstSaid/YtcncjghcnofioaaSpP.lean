/- What two spans have in common, by package span and by the document; and the summaries of all the small calls. No condition. -/
import Derived.Test.YtcncjghcnofioaaSpO
namespace Go.Proofs.Ytcncjghcnofioaa
open Ev
set_option maxRecDepth 100000
/-- A span of two numbers, part by part. -/
def spT (n hi : Int) : Value := .tuple #[vL (bif decide (n ≥ hi) then 0 else 4) (bif decide (n ≥ hi) then 0 else n) (bif decide (n ≥ hi) then 0 else hi) eB, .int .i64 (bif decide (n ≥ hi) then 4 else 0)]
theorem ofF_sp (n hi : Int) : ofF n hi = spT n hi := by unfold ofF spT; cases decide (n ≥ hi) <;> rfl
def ofS (f : FuncId) : Sum := plT f fun
  | [.int .i64 n, .int .i64 hi] => some (spT n hi)
  | _ => none
theorem ofS_ok : SumG Try.prog (ofS 53) := plT_ok (by kernel_rfl) fun xs v h w => by
  split at h
  · cases h; rw [← ofF_sp]; exact of_o _ _ w
  · cases h
theorem rofS_ok : SumG Try.prog (ofS 54) := plT_ok (by kernel_rfl) fun xs v h w => by
  split at h
  · cases h; rw [← ofF_sp]; exact rof_o _ _ w
  · cases h
def hasS (f : FuncId) : Sum := plT f fun
  | [.agg ⟨[.int .u8 k, .int .i64 n, .int .i64 h, .string t]⟩, .int .i64 m] => some (.bool (hasF k n h t m))
  | _ => none
theorem hasS_ok : SumG Try.prog (hasS 59) := plT_ok (by kernel_rfl) fun xs v h w => by
  split at h
  · cases h; exact has_o _ _ _ _ _ w
  · cases h
theorem rhasS_ok : SumG Try.prog (hasS 60) := plT_ok (by kernel_rfl) fun xs v h w => by
  split at h
  · cases h; exact rhas_o _ _ _ _ _ w
  · cases h
def meetsS (f : FuncId) : Sum := plT f fun
  | [.agg ⟨[.int .u8 k, .int .i64 n, .int .i64 h, .string t]⟩, .agg ⟨[.int .u8 k', .int .i64 n', .int .i64 h', .string t']⟩] => some (.bool (meetsF k n h t k' n' h' t'))
  | _ => none
theorem meetsS_ok : SumG Try.prog (meetsS 52) := plT_ok (by kernel_rfl) fun xs v h w => by
  split at h
  · cases h; exact meets_o _ _ _ _ _ _ _ _ w
  · cases h
/-- The greater, the lesser. -/
def mxI (a b : Int) : Int := if b > a then b else a
def mnI (a b : Int) : Int := if b < a then b else a
def zT : Value := .tuple #[vL 0 0 0 eB, .bool false]
def cmT (m : Bool) (n h n' h' : Int) : Value := .tuple #[vL (bif m then 4 else 0) (bif m then mxI n n' else 0) (bif m then mnI h h' else 0) eB, .bool m]
def osum (f g : FuncId) : Sum := orS (meetsS f) (ofS g)
theorem osum_ok : SumG Try.prog (osum 52 53) := orS_ok meetsS_ok ofS_ok
theorem common_o (k n h : Int) (t : ByteArray) (k' n' h' : Int) (t' : ByteArray) (w : World) : Calls Try.prog 55 #[vL k n h t, vL k' n' h' t'] w fun e w' => e = .returned (bif !(meetsF k n h t k' n' h' t') then zT else .tuple #[vL (bif decide (mxI n n' ≥ mnI h h') then 0 else 4) (bif decide (mxI n n' ≥ mnI h h') then 0 else mxI n n') (bif decide (mxI n n' ≥ mnI h h') then 0 else mnI h h') eB, .bool true]) ∧ Fr noB w w' :=
  calls_open sp_mix sp_ok osum_ok 100 (args := [.s (vL k n h t), .s (vL k' n' h' t')]) (xs := [vL k n h t, vL k' n' h' t']) (by kernel_rfl) (by kernel_rfl) (by kernel_rfl) w
def rsum (f g : FuncId) : Sum := orS (maySum f) (ofS g)
theorem rsum_ok : SumG Try.prog (rsum 58 54) := orS_ok rmaySum_ok rofS_ok
def rT (x y : Int) : Value := .tuple #[vL (bif decide (x ≥ y) then 0 else 4) (bif decide (x ≥ y) then 0 else x) (bif decide (x ≥ y) then 0 else y) eB, .bool ((bif decide (x ≥ y) then (4 : Int) else 0) == 0)]
theorem rcommon_o (k n h : Int) (t : ByteArray) (k' n' h' : Int) (t' : ByteArray) (w : World) : Calls Try.prog 56 #[vL k n h t, vL k' n' h' t'] w fun e w' => e = .returned (bif !(okF k n h t) then zT else bif !(okF k' n' h' t') then zT else
      bif decide (n' > n) then (bif decide (h' < h) then rT n' h' else rT n' h) else (bif decide (h' < h) then rT n h' else rT n h)) ∧ Fr noB w w' :=
  calls_open sp_mix sp_ok rsum_ok 100 (args := [.s (vL k n h t), .s (vL k' n' h' t')]) (xs := [vL k n h t, vL k' n' h' t']) (by kernel_rfl) (by kernel_rfl) (by kernel_rfl) w
end Go.Proofs.Ytcncjghcnofioaa
