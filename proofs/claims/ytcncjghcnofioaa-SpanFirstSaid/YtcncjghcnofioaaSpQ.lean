/- The statements SpanTells and SpanBoth come to true. No condition. -/
import Derived.Test.YtcncjghcnofioaaSpP
namespace Go.Proofs.Ytcncjghcnofioaa
open Ev
set_option maxRecDepth 100000
theorem meets_lt {k n h : Int} {t : ByteArray} {k' n' h' : Int} {t' : ByteArray} (hm : meetsF k n h t k' n' h' t' = true) : mxI n n' < mnI h h' ∧ n < h ∧ n' < h' := by
  unfold meetsF okF at hm
  simp only [Bool.and_eq_true, decide_eq_true_eq] at hm
  obtain ⟨⟨_, h1, _⟩, ⟨_, h2, _⟩, h3, h4⟩ := hm
  refine ⟨?_, h1, h2⟩
  unfold mxI mnI
  split <;> split <;> omega
theorem cm1 (k n h : Int) (t : ByteArray) (k' n' h' : Int) (t' : ByteArray) : (bif !(meetsF k n h t k' n' h' t') then zT else .tuple #[vL (bif decide (mxI n n' ≥ mnI h h') then 0 else 4) (bif decide (mxI n n' ≥ mnI h h') then 0 else mxI n n') (bif decide (mxI n n' ≥ mnI h h') then 0 else mnI h h') eB, .bool true]) = cmT (meetsF k n h t k' n' h' t') n h n' h' := by
  cases hm : meetsF k n h t k' n' h' t' with
  | false => rfl
  | true =>
    have := (meets_lt hm).1
    have hd : decide (mxI n n' ≥ mnI h h') = false := by simp; omega
    rw [hd]; rfl
theorem rT_eq (x y : Int) : rT x y = cmT (decide (x < y)) x y x y := by
  unfold rT cmT
  by_cases c : x < y
  · have h1 : decide (x ≥ y) = false := by simp; omega
    have h2 : mxI x x = x := by unfold mxI; split <;> rfl
    have h3 : mnI y y = y := by unfold mnI; split <;> rfl
    rw [h1, decide_eq_true c, h2, h3]; rfl
  · have h1 : decide (x ≥ y) = true := by simp; omega
    rw [h1, decide_eq_false c]; rfl
theorem cm2 (k n h : Int) (t : ByteArray) (k' n' h' : Int) (t' : ByteArray) : (bif !(okF k n h t) then zT else bif !(okF k' n' h' t') then zT else
      bif decide (n' > n) then (bif decide (h' < h) then rT n' h' else rT n' h) else (bif decide (h' < h) then rT n h' else rT n h)) = cmT (meetsF k n h t k' n' h' t') n h n' h' := by
  unfold meetsF
  cases h1 : okF k n h t with
  | false => rfl
  | true =>
    cases h2 : okF k' n' h' t' with
    | false => rfl
    | true =>
      have l1 : n < h := by unfold okF at h1; simp only [Bool.and_eq_true, decide_eq_true_eq] at h1; exact h1.2.1
      have l2 : n' < h' := by unfold okF at h2; simp only [Bool.and_eq_true, decide_eq_true_eq] at h2; exact h2.2.1
      simp only [Bool.not_true, cond_false, Bool.true_and]
      have key : ∀ x y, x = mxI n n' → y = mnI h h' → rT x y = cmT (decide (n < h') && decide (n' < h)) n h n' h' := by
        intro x y hx hy
        have e : decide (x < y) = (decide (n < h') && decide (n' < h)) := by
          rw [← Bool.decide_and, decide_eq_decide, hx, hy]
          unfold mxI mnI
          split <;> split <;> omega
        rw [rT_eq, e]
        unfold cmT
        have e1 : mxI x x = mxI n n' := by rw [← hx]; unfold mxI; split <;> rfl
        have e2 : mnI y y = mnI h h' := by rw [← hy]; unfold mnI; split <;> rfl
        rw [e1, e2]
      by_cases c1 : n' > n <;> by_cases c2 : h' < h <;> simp only [c1, c2, decide_true, decide_false, cond_true, cond_false] <;> (apply key <;> simp [mxI, mnI, c1, c2])
def cmS (f : FuncId) : Sum := plT f fun
  | [.agg ⟨[.int .u8 k, .int .i64 n, .int .i64 h, .string t]⟩, .agg ⟨[.int .u8 k', .int .i64 n', .int .i64 h', .string t']⟩] => some (cmT (meetsF k n h t k' n' h' t') n h n' h')
  | _ => none
theorem cmS_ok : SumG Try.prog (cmS 55) := plT_ok (by kernel_rfl) fun xs v h w => by
  split at h
  · cases h; rw [← cm1]; exact common_o _ _ _ _ _ _ _ _ w
  · cases h
theorem rcmS_ok : SumG Try.prog (cmS 56) := plT_ok (by kernel_rfl) fun xs v h w => by
  split at h
  · cases h; rw [← cm2]; exact rcommon_o _ _ _ _ _ _ _ _ w
  · cases h
theorem rmeets_o (k n h : Int) (t : ByteArray) (k' n' h' : Int) (t' : ByteArray) (w : World) : Calls Try.prog 61 #[vL k n h t, vL k' n' h' t'] w fun e w' => e = .returned (.bool (meetsF k n h t k' n' h' t')) ∧ Fr noB w w' :=
  calls_open sp_mix sp_ok rcmS_ok 100 (args := [.s (vL k n h t), .s (vL k' n' h' t')]) (xs := [vL k n h t, vL k' n' h' t']) (by kernel_rfl) (by kernel_rfl) (by kernel_rfl) w
theorem rmeetsS_ok : SumG Try.prog (meetsS 61) := plT_ok (by kernel_rfl) fun xs v h w => by
  split at h
  · cases h; exact rmeets_o _ _ _ _ _ _ _ _ w
  · cases h
def awS (f : FuncId) : Sum := plT f fun
  | [] => some (.bool true)
  | _ => none
theorem awS_ok : SumG Try.prog (awS 46) := plT_ok (by kernel_rfl) fun xs v h w => by
  split at h
  · cases h; exact spanAwake_walk w
  · cases h
def spS : Sum := orS (ofS 53) (orS (ofS 54) (orS (cmS 55) (orS (cmS 56) (orS (maySum 57) (orS (maySum 58) (orS (hasS 59) (orS (hasS 60) (orS (meetsS 52) (orS (meetsS 61) (awS 46))))))))))
theorem spS_ok : SumG Try.prog spS := orS_ok ofS_ok (orS_ok rofS_ok (orS_ok cmS_ok (orS_ok rcmS_ok (orS_ok maySum_ok (orS_ok rmaySum_ok (orS_ok hasS_ok (orS_ok rhasS_ok (orS_ok meetsS_ok (orS_ok rmeetsS_ok awS_ok)))))))))
def eqS (k n h : Int) (t : ByteArray) (k' n' h' : Int) (t' : ByteArray) : Bool := k == k' && (n == n' && (h == h' && (t.toList == t'.toList && true)))
theorem eqS_self (k n h : Int) (t : ByteArray) : eqS k n h t k n h t = true := by simp [eqS]
def bT (b : Bool) : Value := .bool b
def tellsV (n hi k1 n1 h1 : Int) (t1 : ByteArray) (k2 n2 h2 : Int) (t2 : ByteArray) : Value :=
  bif decide ((t1.size : Int) > 1000) then bT true else bif decide ((t2.size : Int) > 1000) then bT true else
  bif eqS (bif decide (n ≥ hi) then 0 else 4) (bif decide (n ≥ hi) then 0 else n) (bif decide (n ≥ hi) then 0 else hi) eB (bif decide (n ≥ hi) then 0 else 4) (bif decide (n ≥ hi) then 0 else n) (bif decide (n ≥ hi) then 0 else hi) eB then
  bif ((bif decide (n ≥ hi) then (4 : Int) else 0) == (bif decide (n ≥ hi) then 4 else 0)) then
  bif eqS (bif meetsF k1 n1 h1 t1 k2 n2 h2 t2 then 4 else 0) (bif meetsF k1 n1 h1 t1 k2 n2 h2 t2 then mxI n1 n2 else 0) (bif meetsF k1 n1 h1 t1 k2 n2 h2 t2 then mnI h1 h2 else 0) eB (bif meetsF k1 n1 h1 t1 k2 n2 h2 t2 then 4 else 0) (bif meetsF k1 n1 h1 t1 k2 n2 h2 t2 then mxI n1 n2 else 0) (bif meetsF k1 n1 h1 t1 k2 n2 h2 t2 then mnI h1 h2 else 0) eB then
  bif (meetsF k1 n1 h1 t1 k2 n2 h2 t2 == meetsF k1 n1 h1 t1 k2 n2 h2 t2) then
  bif (okF k1 n1 h1 t1 == okF k1 n1 h1 t1) then
  bif (hasF k1 n1 h1 t1 n == hasF k1 n1 h1 t1 n) then
  bif (hasF k2 n2 h2 t2 hi == hasF k2 n2 h2 t2 hi) then
  bif (meetsF k1 n1 h1 t1 k2 n2 h2 t2 == meetsF k1 n1 h1 t1 k2 n2 h2 t2) then bT true else bT false else bT false else bT false else bT false else bT false else bT false else bT false else bT false
theorem tellsV_true (n hi k1 n1 h1 : Int) (t1 : ByteArray) (k2 n2 h2 : Int) (t2 : ByteArray) : tellsV n hi k1 n1 h1 t1 k2 n2 h2 t2 = .bool true := by
  unfold tellsV
  simp only [eqS_self, BEq.rfl, cond_true]
  cases decide ((t1.size : Int) > 1000) <;> cases decide ((t2.size : Int) > 1000) <;> rfl
theorem spanTells_walk (n hi k1 n1 h1 : Int) (t1 : ByteArray) (k2 n2 h2 : Int) (t2 : ByteArray) (w : World) : Calls Try.prog 11 #[.int .i64 n, .int .i64 hi, vL k1 n1 h1 t1, vL k2 n2 h2 t2] w fun e w' => e = .returned (.bool true) ∧ Fr noB w w' :=
  calls_open sp_mix sp_ok spS_ok 3000 (args := [.s (.int .i64 n), .s (.int .i64 hi), .s (vL k1 n1 h1 t1), .s (vL k2 n2 h2 t2)]) (xs := [.int .i64 n, .int .i64 hi, vL k1 n1 h1 t1, vL k2 n2 h2 t2]) (by kernel_rfl) (by kernel_rfl) (Eq.trans (b := tellsV n hi k1 n1 h1 t1 k2 n2 h2 t2) (by kernel_rfl) (tellsV_true _ _ _ _ _ _ _ _ _ _)) w
end Go.Proofs.Ytcncjghcnofioaa
