/- The statement SpanBoth comes to true at whatever values; both statements as their rows ask. No condition. -/
import Derived.Test.YtcncjghcnofioaaSpQ
import Derived.Test.YtcncjghcnofioaaReadV
namespace Go.Proofs.Ytcncjghcnofioaa
open Ev
set_option maxRecDepth 100000
section
variable (k1 n1 h1 : Int) (t1 : ByteArray) (k2 n2 h2 : Int) (t2 : ByteArray) (m : Int)
def cK (M : Bool) : Int := bif M then 4 else 0
def cN (M : Bool) (a b : Int) : Int := bif M then mxI a b else 0
def cH (M : Bool) (a b : Int) : Int := bif M then mnI a b else 0
/-- What is asked of two spans, behind what they have in common. -/
def bothR : Value :=
  bif !okF k1 n1 h1 t1 then (bif !meetsF k1 n1 h1 t1 k2 n2 h2 t2 then bT (eqS (cK (meetsF k1 n1 h1 t1 k2 n2 h2 t2)) (cN (meetsF k1 n1 h1 t1 k2 n2 h2 t2) n1 n2) (cH (meetsF k1 n1 h1 t1 k2 n2 h2 t2) h1 h2) eB 0 0 0 eB) else bT false) else
  bif !okF k2 n2 h2 t2 then (bif !meetsF k1 n1 h1 t1 k2 n2 h2 t2 then bT (eqS (cK (meetsF k1 n1 h1 t1 k2 n2 h2 t2)) (cN (meetsF k1 n1 h1 t1 k2 n2 h2 t2) n1 n2) (cH (meetsF k1 n1 h1 t1 k2 n2 h2 t2) h1 h2) eB 0 0 0 eB) else bT false) else
  bif !meetsF k1 n1 h1 t1 k2 n2 h2 t2 then (bif decide (h1 ≤ n2) then bT true else bT (decide (h2 ≤ n1))) else
  bif okF (cK (meetsF k1 n1 h1 t1 k2 n2 h2 t2)) (cN (meetsF k1 n1 h1 t1 k2 n2 h2 t2) n1 n2) (cH (meetsF k1 n1 h1 t1 k2 n2 h2 t2) h1 h2) eB then
  bif hasF k1 n1 h1 t1 (cN (meetsF k1 n1 h1 t1 k2 n2 h2 t2) n1 n2) then
  bif hasF k2 n2 h2 t2 (cN (meetsF k1 n1 h1 t1 k2 n2 h2 t2) n1 n2) then
  bif hasF k1 n1 h1 t1 (IntKind.i64.wrap (cH (meetsF k1 n1 h1 t1 k2 n2 h2 t2) h1 h2 - 1)) then
  bT (hasF k2 n2 h2 t2 (IntKind.i64.wrap (cH (meetsF k1 n1 h1 t1 k2 n2 h2 t2) h1 h2 - 1))) else bT false else bT false else bT false else bT false
def bothV : Value :=
  bif decide ((t1.size : Int) > 1000) then bT true else bif decide ((t2.size : Int) > 1000) then bT true else
  bif !(meetsF k1 n1 h1 t1 k2 n2 h2 t2 == meetsF k1 n1 h1 t1 k2 n2 h2 t2) then bT false else
  bif !(meetsF k1 n1 h1 t1 k2 n2 h2 t2 == meetsF k2 n2 h2 t2 k1 n1 h1 t1) then bT false else
  bif !(meetsF k1 n1 h1 t1 k2 n2 h2 t2 == meetsF k2 n2 h2 t2 k1 n1 h1 t1) then bT false else
  bif !(eqS (cK (meetsF k1 n1 h1 t1 k2 n2 h2 t2)) (cN (meetsF k1 n1 h1 t1 k2 n2 h2 t2) n1 n2) (cH (meetsF k1 n1 h1 t1 k2 n2 h2 t2) h1 h2) eB (cK (meetsF k2 n2 h2 t2 k1 n1 h1 t1)) (cN (meetsF k2 n2 h2 t2 k1 n1 h1 t1) n2 n1) (cH (meetsF k2 n2 h2 t2 k1 n1 h1 t1) h2 h1) eB) then bT false else
  bif !(meetsF k1 n1 h1 t1 k1 n1 h1 t1 == okF k1 n1 h1 t1) then bT false else
  bif hasF k1 n1 h1 t1 m then (bif !(hasF (cK (meetsF k1 n1 h1 t1 k2 n2 h2 t2)) (cN (meetsF k1 n1 h1 t1 k2 n2 h2 t2) n1 n2) (cH (meetsF k1 n1 h1 t1 k2 n2 h2 t2) h1 h2) eB m == hasF k2 n2 h2 t2 m) then bT false else bothR k1 n1 h1 t1 k2 n2 h2 t2)
  else (bif !(hasF (cK (meetsF k1 n1 h1 t1 k2 n2 h2 t2)) (cN (meetsF k1 n1 h1 t1 k2 n2 h2 t2) n1 n2) (cH (meetsF k1 n1 h1 t1 k2 n2 h2 t2) h1 h2) eB m == false) then bT false else bothR k1 n1 h1 t1 k2 n2 h2 t2)

theorem meets_iff : meetsF k1 n1 h1 t1 k2 n2 h2 t2 = true ↔ okF k1 n1 h1 t1 = true ∧ okF k2 n2 h2 t2 = true ∧ n1 < h2 ∧ n2 < h1 := by
  unfold meetsF; simp only [Bool.and_eq_true, decide_eq_true_eq]
theorem ok_lt (h : okF k1 n1 h1 t1 = true) : n1 < h1 := by
  unfold okF at h; simp only [Bool.and_eq_true, decide_eq_true_eq] at h; exact h.2.1
theorem has_iff : hasF k1 n1 h1 t1 m = true ↔ okF k1 n1 h1 t1 = true ∧ n1 ≤ m ∧ m < h1 := by
  unfold hasF; simp only [Bool.and_eq_true, decide_eq_true_eq]
theorem meets_comm : meetsF k1 n1 h1 t1 k2 n2 h2 t2 = meetsF k2 n2 h2 t2 k1 n1 h1 t1 := by
  rw [Bool.eq_iff_iff, meets_iff, meets_iff]; exact ⟨fun ⟨a, b, c, d⟩ => ⟨b, a, d, c⟩, fun ⟨a, b, c, d⟩ => ⟨b, a, d, c⟩⟩
theorem meets_self : meetsF k1 n1 h1 t1 k1 n1 h1 t1 = okF k1 n1 h1 t1 := by
  rw [Bool.eq_iff_iff, meets_iff]
  exact ⟨fun h => h.1, fun h => ⟨h, h, ok_lt _ _ _ _ h, ok_lt _ _ _ _ h⟩⟩
theorem mx_comm (a b : Int) : mxI a b = mxI b a := by unfold mxI; split <;> split <;> omega
theorem mn_comm (a b : Int) : mnI a b = mnI b a := by unfold mnI; split <;> split <;> omega
theorem ok_span (n h : Int) : okF 4 n h eB = decide (n < h) := by simp [okF]
theorem wrap_id {x : Int} (h : -9223372036854775808 ≤ x ∧ x ≤ 9223372036854775807) : IntKind.i64.wrap x = x := by
  unfold IntKind.wrap
  simp [IntKind.bits, IntKind.signed]
  omega
theorem bothV_true (ha : -9223372036854775808 ≤ n1 ∧ n1 ≤ 9223372036854775807 ∧ h1 ≤ 9223372036854775807) : bothV k1 n1 h1 t1 k2 n2 h2 t2 m = .bool true := by
  have hR : bothR k1 n1 h1 t1 k2 n2 h2 t2 = .bool true := by
    unfold bothR
    cases o1 : okF k1 n1 h1 t1 with
    | false =>
      have : meetsF k1 n1 h1 t1 k2 n2 h2 t2 = false := by unfold meetsF; rw [o1]; rfl
      rw [this]; simp [cK, cN, cH, bT, eqS_self]
    | true =>
      cases o2 : okF k2 n2 h2 t2 with
      | false =>
        have : meetsF k1 n1 h1 t1 k2 n2 h2 t2 = false := by unfold meetsF; rw [o2, Bool.false_and, Bool.and_false]
        rw [this]; simp [cK, cN, cH, bT, eqS_self]
      | true =>
        have l1 := ok_lt _ _ _ _ o1
        have l2 := ok_lt _ _ _ _ o2
        cases hm : meetsF k1 n1 h1 t1 k2 n2 h2 t2 with
        | false =>
          simp only [Bool.not_true, Bool.not_false, cond_false, cond_true]
          by_cases c : h1 ≤ n2
          · rw [decide_eq_true c]; rfl
          · rw [decide_eq_false c]
            have : h2 ≤ n1 := by
              rcases Int.lt_or_le n1 h2 with c2 | c2
              · have := (meets_iff k1 n1 h1 t1 k2 n2 h2 t2).2 ⟨o1, o2, c2, by omega⟩
                rw [hm] at this; cases this
              · exact c2
            rw [decide_eq_true this]; rfl
        | true =>
          have l3 := (meets_lt hm).1
          have m1 : mxI n1 n2 = n1 ∨ mxI n1 n2 = n2 := by unfold mxI; split <;> simp
          have m2 : n1 ≤ mxI n1 n2 ∧ n2 ≤ mxI n1 n2 := by unfold mxI; split <;> omega
          have m3 : mnI h1 h2 ≤ h1 ∧ mnI h1 h2 ≤ h2 := by unfold mnI; split <;> omega
          have m4 : mnI h1 h2 = h1 ∨ mnI h1 h2 = h2 := by unfold mnI; split <;> simp
          simp only [Bool.not_true, cond_false, cK, cN, cH, cond_true, ok_span]
          have hw : IntKind.i64.wrap (mnI h1 h2 - 1) = mnI h1 h2 - 1 := wrap_id (by omega)
          rw [hw, decide_eq_true l3]
          have a1 : hasF k1 n1 h1 t1 (mxI n1 n2) = true := (has_iff ..).2 ⟨o1, by omega, by omega⟩
          have a2 : hasF k2 n2 h2 t2 (mxI n1 n2) = true := (has_iff ..).2 ⟨o2, by omega, by omega⟩
          have a3 : hasF k1 n1 h1 t1 (mnI h1 h2 - 1) = true := (has_iff ..).2 ⟨o1, by omega, by omega⟩
          have a4 : hasF k2 n2 h2 t2 (mnI h1 h2 - 1) = true := (has_iff ..).2 ⟨o2, by omega, by omega⟩
          rw [a1, a2, a3, a4]; rfl
  unfold bothV
  rw [hR]
  have e1 : eqS (cK (meetsF k1 n1 h1 t1 k2 n2 h2 t2)) (cN (meetsF k1 n1 h1 t1 k2 n2 h2 t2) n1 n2) (cH (meetsF k1 n1 h1 t1 k2 n2 h2 t2) h1 h2) eB (cK (meetsF k2 n2 h2 t2 k1 n1 h1 t1)) (cN (meetsF k2 n2 h2 t2 k1 n1 h1 t1) n2 n1) (cH (meetsF k2 n2 h2 t2 k1 n1 h1 t1) h2 h1) eB = true := by
    rw [meets_comm k2 n2 h2 t2 k1 n1 h1 t1]
    unfold cN cH
    rw [mx_comm n2 n1, mn_comm h2 h1]
    exact eqS_self _ _ _ _
  have e2 : hasF (cK (meetsF k1 n1 h1 t1 k2 n2 h2 t2)) (cN (meetsF k1 n1 h1 t1 k2 n2 h2 t2) n1 n2) (cH (meetsF k1 n1 h1 t1 k2 n2 h2 t2) h1 h2) eB m = (hasF k1 n1 h1 t1 m && hasF k2 n2 h2 t2 m) := by
    rw [Bool.eq_iff_iff, has_iff, Bool.and_eq_true, has_iff, has_iff]
    have m2 : mxI n1 n2 ≤ m ↔ n1 ≤ m ∧ n2 ≤ m := by unfold mxI; split <;> omega
    have m3 : m < mnI h1 h2 ↔ m < h1 ∧ m < h2 := by unfold mnI; split <;> omega
    cases hm : meetsF k1 n1 h1 t1 k2 n2 h2 t2 with
    | true =>
      obtain ⟨o1, o2, _, _⟩ := (meets_iff ..).1 hm
      have l3 := (meets_lt hm).1
      simp only [cK, cN, cH, cond_true, ok_span, decide_eq_true_eq, o1, o2, true_and]
      rw [m2, m3]
      exact ⟨fun ⟨_, ⟨a, b⟩, c, d⟩ => ⟨⟨a, c⟩, b, d⟩, fun ⟨⟨a, c⟩, b, d⟩ => ⟨l3, ⟨a, b⟩, c, d⟩⟩
    | false =>
      constructor
      · rintro ⟨x, _⟩; simp [cK, okF] at x
      · rintro ⟨⟨o1, a, b⟩, o2, c, d⟩
        have := (meets_iff k1 n1 h1 t1 k2 n2 h2 t2).2 ⟨o1, o2, by omega, by omega⟩
        rw [hm] at this; cases this
  rw [e1, e2, meets_self, ← meets_comm k1 n1 h1 t1 k2 n2 h2 t2]
  simp only [BEq.rfl, Bool.not_true, cond_false]
  cases decide ((t1.size : Int) > 1000) <;> cases decide ((t2.size : Int) > 1000) <;> cases hasF k1 n1 h1 t1 m <;> cases hasF k2 n2 h2 t2 m <;> rfl
end
theorem spanBoth_walk (k1 n1 h1 : Int) (t1 : ByteArray) (k2 n2 h2 : Int) (t2 : ByteArray) (m : Int) (ha : -9223372036854775808 ≤ n1 ∧ n1 ≤ 9223372036854775807 ∧ h1 ≤ 9223372036854775807) (w : World) :
    Calls Try.prog 13 #[vL k1 n1 h1 t1, vL k2 n2 h2 t2, .int .i64 m] w fun e w' => e = .returned (.bool true) ∧ Fr noB w w' :=
  calls_open sp_mix sp_ok spS_ok 3000 (args := [.s (vL k1 n1 h1 t1), .s (vL k2 n2 h2 t2), .s (.int .i64 m)]) (xs := [vL k1 n1 h1 t1, vL k2 n2 h2 t2, .int .i64 m]) (by kernel_rfl) (by kernel_rfl) (Eq.trans (b := bothV k1 n1 h1 t1 k2 n2 h2 t2 m) (by kernel_rfl) (bothV_true _ _ _ _ _ _ _ _ _ ha)) w
theorem spanBoth_row (a b : V) (m : Int) (W : World) (ha : VOk a) (_ : VOk b) {p : Prop} (_ : p) : Calls Try.prog 13 #[vV a, vV b, .int .i64 m] W fun e w' => e = .returned (.bool true) ∧ Fr noB W w' :=
  spanBoth_walk _ _ _ _ _ _ _ _ _ ⟨ha.n.1, ha.n.2, ha.hi.2⟩ W
theorem spanTells_row (n hi : Int) (a b : V) (W : World) {p1 p2 : Prop} (_ : p1) (_ : p2) (_ : VOk a) (_ : VOk b) : Calls Try.prog 11 #[.int .i64 n, .int .i64 hi, vV a, vV b] W fun e w' => e = .returned (.bool true) ∧ Fr noB W w' :=
  spanTells_walk _ _ _ _ _ _ _ _ _ _ W
end Go.Proofs.Ytcncjghcnofioaa
