/- The walk of LogicNumbers. No condition. -/
import Derived.Test.YtcncjghcnofioaaNumI
import Derived.Test.YtcncjghcnofioaaAwake
import Derived.Test.YtcncjghcnofioaaLogicM
namespace Go.Proofs.Ytcncjghcnofioaa
open Go.RowKit

set_option maxRecDepth 100000 in
set_option maxHeartbeats 4000000 in
theorem numbers_any (n m : Int) (hn : -9223372036854775808 ≤ n ∧ n ≤ 9223372036854775807) (hm : -9223372036854775808 ≤ m ∧ m ≤ 9223372036854775807) (w : World) :
    Calls Try.prog 4 #[.int .i64 n, .int .i64 m] w fun e w' => e = .returned (.bool true) ∧ Fr noB w w' := by
  have HI : ∀ x : Int, Hid (∀ W : World, Calls Try.prog 19 #[.int .i64 x] W fun e w' => e = .returned (.agg #[.int .u8 1, .int .i64 x, .int .i64 0, .string ⟨#[]⟩]) ∧ Fr noB W w') := fun x => Lib.hid (fun W => int_any x W)
  have HAw := Lib.hid (fun W : World => awake_any W)
  obtain ⟨ok1, hok1⟩ : ∃ z, z = okI (n + m) := ⟨_, rfl⟩
  obtain ⟨ok2, hok2⟩ : ∃ z, z = okI (n * m) := ⟨_, rfl⟩
  obtain ⟨c, hc⟩ : ∃ z, z = okI (n - m) := ⟨_, rfl⟩
  obtain ⟨d, hd⟩ : ∃ z, z = okI (m - n) := ⟨_, rfl⟩
  obtain ⟨g, hg⟩ : ∃ z, z = okI (0 - m) := ⟨_, rfl⟩
  obtain ⟨S1, hS1⟩ : ∃ z, z = rV ok1 (n + m) := ⟨_, rfl⟩
  obtain ⟨BK, hBK⟩ : ∃ z, z = rV ok1 n := ⟨_, rfl⟩
  obtain ⟨P1, hP1⟩ : ∃ z, z = rV ok2 (n * m) := ⟨_, rfl⟩
  obtain ⟨L1, hL1⟩ : ∃ z, z = rV c (n - m) := ⟨_, rfl⟩
  obtain ⟨M1, hM1⟩ : ∃ z, z = rV d (m - n) := ⟨_, rfl⟩
  obtain ⟨NV, hNV⟩ : ∃ z, z = rV g (0 - m) := ⟨_, rfl⟩
  obtain ⟨NE, hNE⟩ : ∃ z : Int, z = if g = true then 0 else 61 := ⟨_, rfl⟩
  have HADD1 := Lib.hid (show ∀ W : World, Calls Try.prog 20 #[.func (.func 21) #[] #[], .agg #[.int .u8 1, .int .i64 n, .int .i64 0, .string ⟨#[]⟩], .agg #[.int .u8 1, .int .i64 m, .int .i64 0, .string ⟨#[]⟩]] W fun e w' => e = .returned (.tuple #[.agg #[.int .u8 S1.k, .int .i64 S1.n, .int .i64 S1.hi, .string S1.t], .bool ok1]) ∧ Fr noB W w' from fun W => by rw [hS1, hok1]; exact two_add_i n m hn hm W)
  have HADD2 := Lib.hid (show ∀ W : World, Calls Try.prog 20 #[.func (.func 21) #[] #[], .agg #[.int .u8 1, .int .i64 m, .int .i64 0, .string ⟨#[]⟩], .agg #[.int .u8 1, .int .i64 n, .int .i64 0, .string ⟨#[]⟩]] W fun e w' => e = .returned (.tuple #[.agg #[.int .u8 S1.k, .int .i64 S1.n, .int .i64 S1.hi, .string S1.t], .bool ok1]) ∧ Fr noB W w' from fun W => by rw [hS1, hok1, Int.add_comm n m]; exact two_add_i m n hm hn W)
  have HSUB1 := Lib.hid (show ∀ W : World, Calls Try.prog 20 #[.func (.func 22) #[] #[], .agg #[.int .u8 S1.k, .int .i64 S1.n, .int .i64 S1.hi, .string S1.t], .agg #[.int .u8 1, .int .i64 m, .int .i64 0, .string ⟨#[]⟩]] W fun e w' => e = .returned (.tuple #[.agg #[.int .u8 BK.k, .int .i64 BK.n, .int .i64 BK.hi, .string BK.t], .bool true]) ∧ Fr noB W w' from fun W => by
    cases hk : ok1
    · rw [hS1, hBK, hk]
      have h := two_sub zV (intV m) (by decide) hm W
      exact h
    · have h0 : okI (n + m) = true := by rw [← hok1]; exact hk
      have h1 := h0
      simp only [okI, Bool.and_eq_true, decide_eq_true_eq] at h1
      have h := two_sub_i (n + m) m h1 hm W
      rw [Int.add_sub_cancel, (show okI n = true by simp only [okI, hn.1, hn.2, decide_true, Bool.and_self])] at h
      rw [hS1, hBK, hk]
      exact h)
  have HMUL1 := Lib.hid (show ∀ W : World, Calls Try.prog 20 #[.func (.func 23) #[] #[], .agg #[.int .u8 1, .int .i64 n, .int .i64 0, .string ⟨#[]⟩], .agg #[.int .u8 1, .int .i64 m, .int .i64 0, .string ⟨#[]⟩]] W fun e w' => e = .returned (.tuple #[.agg #[.int .u8 P1.k, .int .i64 P1.n, .int .i64 P1.hi, .string P1.t], .bool ok2]) ∧ Fr noB W w' from fun W => by rw [hP1, hok2]; exact two_mul_i n m hn hm W)
  have HMUL2 := Lib.hid (show ∀ W : World, Calls Try.prog 20 #[.func (.func 23) #[] #[], .agg #[.int .u8 1, .int .i64 m, .int .i64 0, .string ⟨#[]⟩], .agg #[.int .u8 1, .int .i64 n, .int .i64 0, .string ⟨#[]⟩]] W fun e w' => e = .returned (.tuple #[.agg #[.int .u8 P1.k, .int .i64 P1.n, .int .i64 P1.hi, .string P1.t], .bool ok2]) ∧ Fr noB W w' from fun W => by rw [hP1, hok2, Int.mul_comm n m]; exact two_mul_i m n hm hn W)
  have HSUB2 := Lib.hid (show ∀ W : World, Calls Try.prog 20 #[.func (.func 22) #[] #[], .agg #[.int .u8 1, .int .i64 n, .int .i64 0, .string ⟨#[]⟩], .agg #[.int .u8 1, .int .i64 m, .int .i64 0, .string ⟨#[]⟩]] W fun e w' => e = .returned (.tuple #[.agg #[.int .u8 L1.k, .int .i64 L1.n, .int .i64 L1.hi, .string L1.t], .bool c]) ∧ Fr noB W w' from fun W => by rw [hL1, hc]; exact two_sub_i n m hn hm W)
  have HSUB3 := Lib.hid (show ∀ W : World, Calls Try.prog 20 #[.func (.func 22) #[] #[], .agg #[.int .u8 1, .int .i64 m, .int .i64 0, .string ⟨#[]⟩], .agg #[.int .u8 1, .int .i64 n, .int .i64 0, .string ⟨#[]⟩]] W fun e w' => e = .returned (.tuple #[.agg #[.int .u8 M1.k, .int .i64 M1.n, .int .i64 M1.hi, .string M1.t], .bool d]) ∧ Fr noB W w' from fun W => by rw [hM1, hd]; exact two_sub_i m n hm hn W)
  have HNEG := Lib.hid (show ∀ W : World, Calls Try.prog 24 #[.agg #[.int .u8 1, .int .i64 m, .int .i64 0, .string ⟨#[]⟩]] W fun e w' => e = .returned (.tuple #[.agg #[.int .u8 NV.k, .int .i64 NV.n, .int .i64 NV.hi, .string NV.t], .int .i64 NE]) ∧ Fr noB W w' from fun W => by
    have h := neg_any (intV m) hm W
    rw [show negV (intV m) = (rV (okI (0 - m)) (0 - m), if okI (0 - m) = true then 0 else 61) from numV_int 0 m (0 - m), ← hg, ← hNV, ← hNE] at h
    exact h)
  have HADD3 := Lib.hid (show (c && g) = true → ∀ W : World, Calls Try.prog 20 #[.func (.func 21) #[] #[], .agg #[.int .u8 1, .int .i64 n, .int .i64 0, .string ⟨#[]⟩], .agg #[.int .u8 NV.k, .int .i64 NV.n, .int .i64 NV.hi, .string NV.t]] W fun e w' => e = .returned (.tuple #[.agg #[.int .u8 L1.k, .int .i64 L1.n, .int .i64 L1.hi, .string L1.t], .bool true]) ∧ Fr noB W w' from fun hcg W => by
    simp only [Bool.and_eq_true] at hcg
    obtain ⟨h1, h2⟩ := hcg
    have h3 := h2
    rw [hg] at h3
    simp only [okI, Bool.and_eq_true, decide_eq_true_eq] at h3
    have h := two_add_i n (0 - m) hn h3 W
    rw [show n + (0 - m) = n - m by omega, ← hc, h1] at h
    rw [hNV, hL1, h1, h2]
    exact h)
  have HMUL4 := Lib.hid (show ∀ W : World, Calls Try.prog 20 #[.func (.func 23) #[] #[], .agg #[.int .u8 1, .int .i64 n, .int .i64 0, .string ⟨#[]⟩], .agg #[.int .u8 1, .int .i64 1, .int .i64 0, .string ⟨#[]⟩]] W fun e w' => e = .returned (.tuple #[.agg #[.int .u8 1, .int .i64 n, .int .i64 0, .string ⟨#[]⟩], .bool true]) ∧ Fr noB W w' from fun W => by
    have h := two_mul_i n 1 hn (by decide) W
    rw [Int.mul_one, (show okI n = true by simp only [okI, hn.1, hn.2, decide_true, Bool.and_self])] at h
    exact h)
  have HADD4 := Lib.hid (show ∀ W : World, Calls Try.prog 20 #[.func (.func 21) #[] #[], .agg #[.int .u8 1, .int .i64 n, .int .i64 0, .string ⟨#[]⟩], .agg #[.int .u8 1, .int .i64 0, .int .i64 0, .string ⟨#[]⟩]] W fun e w' => e = .returned (.tuple #[.agg #[.int .u8 1, .int .i64 n, .int .i64 0, .string ⟨#[]⟩], .bool true]) ∧ Fr noB W w' from fun W => by
    have h := two_add_i n 0 hn (by decide) W
    rw [Int.add_zero, (show okI n = true by simp only [okI, hn.1, hn.2, decide_true, Bool.and_self])] at h
    exact h)
  have HQ1 := Lib.hid (show ∀ W : World, (binOp .neq 23 (.agg #[.int .u8 S1.k, .int .i64 S1.n, .int .i64 S1.hi, .string S1.t]) (.agg #[.int .u8 S1.k, .int .i64 S1.n, .int .i64 S1.hi, .string S1.t])).run Try.prog W = .ok (.bool false) W from neqv_of rfl)
  have HQ2 := Lib.hid (show ∀ W : World, (binOp .neq 23 (.agg #[.int .u8 P1.k, .int .i64 P1.n, .int .i64 P1.hi, .string P1.t]) (.agg #[.int .u8 P1.k, .int .i64 P1.n, .int .i64 P1.hi, .string P1.t])).run Try.prog W = .ok (.bool false) W from neqv_of rfl)
  have HQ3 := Lib.hid (show ∀ W : World, (binOp .neq 23 (.agg #[.int .u8 L1.k, .int .i64 L1.n, .int .i64 L1.hi, .string L1.t]) (.agg #[.int .u8 L1.k, .int .i64 L1.n, .int .i64 L1.hi, .string L1.t])).run Try.prog W = .ok (.bool false) W from neqv_of rfl)
  have HF1 := Lib.hid (show ok1 = true → (S1.k != 1) = false ∧ (S1.n != wrap64 (n + m)) = false ∧ (∀ W : World, (binOp .neq 23 (.agg #[.int .u8 BK.k, .int .i64 BK.n, .int .i64 BK.hi, .string BK.t]) (.agg #[.int .u8 1, .int .i64 n, .int .i64 0, .string ⟨#[]⟩])).run Try.prog W = .ok (.bool false) W) from fun hk => by
    have h0 : okI (n + m) = true := by rw [← hok1]; exact hk
    rw [hS1, hBK, hk, wrap_ok h0]
    exact ⟨rfl, by simp [rV, intV], neqv_of (a := rV true n) (b := intV n) rfl⟩)
  have HF2 := Lib.hid (show ok2 = false → (n == 0) = false ∧ (m == 0) = false from fun hk => okz n m (hok2.symm.trans hk))
  have HF3 := Lib.hid (show ok2 = true → m ≠ 0 → P1.n.tdiv m = n ∧ P1.n.tmod m = 0 from fun hk h0 => by
    rw [hP1, hk]
    exact ⟨Int.mul_tdiv_cancel n h0, Int.mul_tmod_left n m⟩)
  have HF4 := Lib.hid (show (NE == 0) = g from by rw [hNE]; exact sixty g)
  have HF5 := Lib.hid (show c = true → d = true → L1.n = -M1.n ∧ M1.n = m - n ∧ okI (n - m) = true from fun h1 h2 => by
    rw [hL1, hM1, h1, h2]
    refine ⟨?_, rfl, by rw [← hc]; exact h1⟩
    show n - m = -(m - n)
    omega)
  have HF6 := Lib.hid (show (m != -9223372036854775808) = g from hg ▸ okneg m hm)
  clear hok1 hok2 hc hd hg hS1 hBK hP1 hL1 hM1 hNV hNE
  have HE1 := Lib.hid (show ∀ W : World, (binOp .eql 23 (.agg #[.int .u8 1, .int .i64 n, .int .i64 0, .string ⟨#[]⟩]) (.agg #[.int .u8 1, .int .i64 n, .int .i64 0, .string ⟨#[]⟩])).run Try.prog W = .ok (.bool true) W from eqv_of (a := intV n) (b := intV n) rfl)
  have HN := Lib.hid hn
  clear hn hm
  go_enter Try.func4, Try.ntmps4
  go_wp2_with fail
  have hfw_0 := Fr.refl noB w
  refine ((HI n).out _).mono ?_
  rintro e w1 ⟨rfl, hf1⟩
  have hl := hfw_0.size
  have hfw_1 : Fr noB w w1 := by
    refine Fr.transN ?_ hf1
    repeat (first | with_reducible exact hfw_0 | with_reducible refine Fr.alloc ?_ _ | (with_reducible refine Fr.setCell ?_ ?_ _; rotate_left; (intro h; dsimp only at h; omega)) | with_reducible refine Fr.drew ?_ | exact hfw_0)
  clear hl hf1 hfw_0
  go_wp2_with fail
  refine ((HI m).out _).mono ?_
  rintro e w2 ⟨rfl, hf2⟩
  have hl := hfw_1.size
  have hfw_2 : Fr noB w w2 := by
    refine Fr.transN ?_ hf2
    repeat (first | with_reducible exact hfw_1 | with_reducible refine Fr.alloc ?_ _ | (with_reducible refine Fr.setCell ?_ ?_ _; rotate_left; (intro h; dsimp only at h; omega)) | with_reducible refine Fr.drew ?_ | exact hfw_1)
  clear hl hf2 hfw_1
  go_upto_region 2 with fail
  have hl := hfw_2.size
  refine wp_world (fun W => Fr noB w W ∧ W.heap[w2.heap.size]? = some (.cells #[.int .u8 1, .int .i64 n, .int .i64 0, .string ⟨#[]⟩] 23 (0, 0)) ∧ W.heap[w2.heap.size + 1]? = some (.cells #[.int .u8 1, .int .i64 m, .int .i64 0, .string ⟨#[]⟩] 23 (0, 0))) ⟨?_, ?_, ?_⟩ ?_
  · skip
    repeat (first | with_reducible exact hfw_2 | with_reducible refine Fr.alloc ?_ _ | (with_reducible refine Fr.setCell ?_ ?_ _; rotate_left; (intro h; dsimp only at h; omega)) | with_reducible refine Fr.drew ?_ | exact hfw_2)
  · skip
    repeat (first | (with_reducible refine obj_alloc_at ?_; simp; done) | (with_reducible apply obj_put4; omega) | (with_reducible apply obj_put1; omega) | (with_reducible refine obj_setCell_other ?_ _ _ ?_; rotate_left; (dsimp only; omega)) | with_reducible refine obj_alloc ?_ _ | with_reducible refine obj_drew ?_)
  · skip
    repeat (first | (with_reducible refine obj_alloc_at ?_; simp; done) | (with_reducible apply obj_put4; omega) | (with_reducible apply obj_put1; omega) | (with_reducible refine obj_setCell_other ?_ _ _ ?_; rotate_left; (dsimp only; omega)) | with_reducible refine obj_alloc ?_ _ | with_reducible refine obj_drew ?_)
  clear hl hfw_2
  rintro w3 ⟨hfw_3, hba_3, hbb_3⟩
  obtain ⟨ca_0, ca_1, ca_2, ca_3⟩ := v_cells (v := intV n) hba_3
  dsimp only [intV] at ca_0 ca_1 ca_2 ca_3
  have za := frozen_of_obj hba_3
  obtain ⟨cb_0, cb_1, cb_2, cb_3⟩ := v_cells (v := intV m) hbb_3
  dsimp only [intV] at cb_0 cb_1 cb_2 cb_3
  have zb := frozen_of_obj hbb_3
  go_wp2_with fail
  refine (HADD1.out _).mono ?_
  rintro e w4 ⟨rfl, hf4⟩
  have la := obj_lt hba_3
  have lb := obj_lt hbb_3
  have hl := hfw_3.size
  have hba_4 : w4.heap[w2.heap.size]? = some (.cells #[.int .u8 1, .int .i64 n, .int .i64 0, .string ⟨#[]⟩] 23 (0, 0)) := by
    refine hf4.obj (fun x => x) ?_
    repeat (first | with_reducible exact hba_3 | (with_reducible refine obj_alloc_at ?_; simp; done) | (with_reducible apply obj_put4; omega) | (with_reducible apply obj_put1; omega) | (with_reducible refine obj_setCell_other ?_ _ _ ?_; rotate_left; (dsimp only; omega)) | with_reducible refine obj_alloc ?_ _ | with_reducible refine obj_drew ?_ | exact hba_3)
  have hbb_4 : w4.heap[w2.heap.size + 1]? = some (.cells #[.int .u8 1, .int .i64 m, .int .i64 0, .string ⟨#[]⟩] 23 (0, 0)) := by
    refine hf4.obj (fun x => x) ?_
    repeat (first | with_reducible exact hbb_3 | (with_reducible refine obj_alloc_at ?_; simp; done) | (with_reducible apply obj_put4; omega) | (with_reducible apply obj_put1; omega) | (with_reducible refine obj_setCell_other ?_ _ _ ?_; rotate_left; (dsimp only; omega)) | with_reducible refine obj_alloc ?_ _ | with_reducible refine obj_drew ?_ | exact hbb_3)
  have hfw_4 : Fr noB w w4 := by
    refine Fr.transN ?_ hf4
    repeat (first | with_reducible exact hfw_3 | with_reducible refine Fr.alloc ?_ _ | (with_reducible refine Fr.setCell ?_ ?_ _; rotate_left; (intro h; dsimp only at h; omega)) | with_reducible refine Fr.drew ?_ | exact hfw_3)
  clear hba_3 hbb_3 la lb hl ca_0 ca_1 ca_2 ca_3 za cb_0 cb_1 cb_2 cb_3 zb hf4 hfw_3
  obtain ⟨ca_0, ca_1, ca_2, ca_3⟩ := v_cells (v := intV n) hba_4
  dsimp only [intV] at ca_0 ca_1 ca_2 ca_3
  have za := frozen_of_obj hba_4
  obtain ⟨cb_0, cb_1, cb_2, cb_3⟩ := v_cells (v := intV m) hbb_4
  dsimp only [intV] at cb_0 cb_1 cb_2 cb_3
  have zb := frozen_of_obj hbb_4
  go_upto_region 3 with fail
  have o0 := Lib.hid (obj_lt hbb_4)
  have la := obj_lt hba_4
  have lb := obj_lt hbb_4
  have hl := hfw_4.size
  have po0 := o0.out
  refine wp_world (fun W => Fr noB w W ∧ W.heap[w2.heap.size]? = some (.cells #[.int .u8 1, .int .i64 n, .int .i64 0, .string ⟨#[]⟩] 23 (0, 0)) ∧ W.heap[w2.heap.size + 1]? = some (.cells #[.int .u8 1, .int .i64 m, .int .i64 0, .string ⟨#[]⟩] 23 (0, 0)) ∧ W.heap[w4.heap.size]? = some (.cells #[.int .u8 S1.k, .int .i64 S1.n, .int .i64 S1.hi, .string S1.t] 23 (0, 0))) ⟨?_, ?_, ?_, ?_⟩ ?_
  · skip
    repeat (first | with_reducible exact hfw_4 | with_reducible refine Fr.alloc ?_ _ | (with_reducible refine Fr.setCell ?_ ?_ _; rotate_left; (intro h; dsimp only at h; omega)) | with_reducible refine Fr.drew ?_ | exact hfw_4)
  · skip
    repeat (first | with_reducible exact hba_4 | (with_reducible refine obj_alloc_at ?_; simp; done) | (with_reducible apply obj_put4; omega) | (with_reducible apply obj_put1; omega) | (with_reducible refine obj_setCell_other ?_ _ _ ?_; rotate_left; (dsimp only; omega)) | with_reducible refine obj_alloc ?_ _ | with_reducible refine obj_drew ?_ | exact hba_4)
  · skip
    repeat (first | with_reducible exact hbb_4 | (with_reducible refine obj_alloc_at ?_; simp; done) | (with_reducible apply obj_put4; omega) | (with_reducible apply obj_put1; omega) | (with_reducible refine obj_setCell_other ?_ _ _ ?_; rotate_left; (dsimp only; omega)) | with_reducible refine obj_alloc ?_ _ | with_reducible refine obj_drew ?_ | exact hbb_4)
  · skip
    repeat (first | (with_reducible refine obj_alloc_at ?_; simp; done) | (with_reducible apply obj_put4; omega) | (with_reducible apply obj_put1; omega) | (with_reducible refine obj_setCell_other ?_ _ _ ?_; rotate_left; (dsimp only; omega)) | with_reducible refine obj_alloc ?_ _ | with_reducible refine obj_drew ?_)
  clear hba_4 hbb_4 la lb hl po0 ca_0 ca_1 ca_2 ca_3 za cb_0 cb_1 cb_2 cb_3 zb hfw_4
  rintro w5 ⟨hfw_5, hba_5, hbb_5, hbs_5⟩
  obtain ⟨ca_0, ca_1, ca_2, ca_3⟩ := v_cells (v := intV n) hba_5
  dsimp only [intV] at ca_0 ca_1 ca_2 ca_3
  have za := frozen_of_obj hba_5
  obtain ⟨cb_0, cb_1, cb_2, cb_3⟩ := v_cells (v := intV m) hbb_5
  dsimp only [intV] at cb_0 cb_1 cb_2 cb_3
  have zb := frozen_of_obj hbb_5
  obtain ⟨cs_0, cs_1, cs_2, cs_3⟩ := v_cells (v := S1) hbs_5
  have zs := frozen_of_obj hbs_5
  go_wp2_with fail
  refine (HADD2.out _).mono ?_
  rintro e w6 ⟨rfl, hf6⟩
  have la := obj_lt hba_5
  have lb := obj_lt hbb_5
  have ls := obj_lt hbs_5
  have hl := hfw_5.size
  have po0 := o0.out
  have hba_6 : w6.heap[w2.heap.size]? = some (.cells #[.int .u8 1, .int .i64 n, .int .i64 0, .string ⟨#[]⟩] 23 (0, 0)) := by
    refine hf6.obj (fun x => x) ?_
    repeat (first | with_reducible exact hba_5 | (with_reducible refine obj_alloc_at ?_; simp; done) | (with_reducible apply obj_put4; omega) | (with_reducible apply obj_put1; omega) | (with_reducible refine obj_setCell_other ?_ _ _ ?_; rotate_left; (dsimp only; omega)) | with_reducible refine obj_alloc ?_ _ | with_reducible refine obj_drew ?_ | exact hba_5)
  have hbb_6 : w6.heap[w2.heap.size + 1]? = some (.cells #[.int .u8 1, .int .i64 m, .int .i64 0, .string ⟨#[]⟩] 23 (0, 0)) := by
    refine hf6.obj (fun x => x) ?_
    repeat (first | with_reducible exact hbb_5 | (with_reducible refine obj_alloc_at ?_; simp; done) | (with_reducible apply obj_put4; omega) | (with_reducible apply obj_put1; omega) | (with_reducible refine obj_setCell_other ?_ _ _ ?_; rotate_left; (dsimp only; omega)) | with_reducible refine obj_alloc ?_ _ | with_reducible refine obj_drew ?_ | exact hbb_5)
  have hbs_6 : w6.heap[w4.heap.size]? = some (.cells #[.int .u8 S1.k, .int .i64 S1.n, .int .i64 S1.hi, .string S1.t] 23 (0, 0)) := by
    refine hf6.obj (fun x => x) ?_
    repeat (first | with_reducible exact hbs_5 | (with_reducible refine obj_alloc_at ?_; simp; done) | (with_reducible apply obj_put4; omega) | (with_reducible apply obj_put1; omega) | (with_reducible refine obj_setCell_other ?_ _ _ ?_; rotate_left; (dsimp only; omega)) | with_reducible refine obj_alloc ?_ _ | with_reducible refine obj_drew ?_ | exact hbs_5)
  have hfw_6 : Fr noB w w6 := by
    refine Fr.transN ?_ hf6
    repeat (first | with_reducible exact hfw_5 | with_reducible refine Fr.alloc ?_ _ | (with_reducible refine Fr.setCell ?_ ?_ _; rotate_left; (intro h; dsimp only at h; omega)) | with_reducible refine Fr.drew ?_ | exact hfw_5)
  clear hba_5 hbb_5 hbs_5 la lb ls hl po0 ca_0 ca_1 ca_2 ca_3 za cb_0 cb_1 cb_2 cb_3 zb cs_0 cs_1 cs_2 cs_3 zs hf6 hfw_5
  obtain ⟨ca_0, ca_1, ca_2, ca_3⟩ := v_cells (v := intV n) hba_6
  dsimp only [intV] at ca_0 ca_1 ca_2 ca_3
  have za := frozen_of_obj hba_6
  obtain ⟨cb_0, cb_1, cb_2, cb_3⟩ := v_cells (v := intV m) hbb_6
  dsimp only [intV] at cb_0 cb_1 cb_2 cb_3
  have zb := frozen_of_obj hbb_6
  obtain ⟨cs_0, cs_1, cs_2, cs_3⟩ := v_cells (v := S1) hbs_6
  have zs := frozen_of_obj hbs_6
  go_upto_region 4 with fail
  have o1 := Lib.hid (obj_lt hbs_6)
  have la := obj_lt hba_6
  have lb := obj_lt hbb_6
  have ls := obj_lt hbs_6
  have hl := hfw_6.size
  have po0 := o0.out
  have po1 := o1.out
  refine wp_world (fun W => Fr noB w W ∧ W.heap[w2.heap.size]? = some (.cells #[.int .u8 1, .int .i64 n, .int .i64 0, .string ⟨#[]⟩] 23 (0, 0)) ∧ W.heap[w2.heap.size + 1]? = some (.cells #[.int .u8 1, .int .i64 m, .int .i64 0, .string ⟨#[]⟩] 23 (0, 0)) ∧ W.heap[w4.heap.size]? = some (.cells #[.int .u8 S1.k, .int .i64 S1.n, .int .i64 S1.hi, .string S1.t] 23 (0, 0)) ∧ W.heap[w6.heap.size]? = some (.cells #[.int .u8 S1.k, .int .i64 S1.n, .int .i64 S1.hi, .string S1.t] 23 (0, 0))) ⟨?_, ?_, ?_, ?_, ?_⟩ ?_
  · skip
    repeat (first | with_reducible exact hfw_6 | with_reducible refine Fr.alloc ?_ _ | (with_reducible refine Fr.setCell ?_ ?_ _; rotate_left; (intro h; dsimp only at h; omega)) | with_reducible refine Fr.drew ?_ | exact hfw_6)
  · skip
    repeat (first | with_reducible exact hba_6 | (with_reducible refine obj_alloc_at ?_; simp; done) | (with_reducible apply obj_put4; omega) | (with_reducible apply obj_put1; omega) | (with_reducible refine obj_setCell_other ?_ _ _ ?_; rotate_left; (dsimp only; omega)) | with_reducible refine obj_alloc ?_ _ | with_reducible refine obj_drew ?_ | exact hba_6)
  · skip
    repeat (first | with_reducible exact hbb_6 | (with_reducible refine obj_alloc_at ?_; simp; done) | (with_reducible apply obj_put4; omega) | (with_reducible apply obj_put1; omega) | (with_reducible refine obj_setCell_other ?_ _ _ ?_; rotate_left; (dsimp only; omega)) | with_reducible refine obj_alloc ?_ _ | with_reducible refine obj_drew ?_ | exact hbb_6)
  · skip
    repeat (first | with_reducible exact hbs_6 | (with_reducible refine obj_alloc_at ?_; simp; done) | (with_reducible apply obj_put4; omega) | (with_reducible apply obj_put1; omega) | (with_reducible refine obj_setCell_other ?_ _ _ ?_; rotate_left; (dsimp only; omega)) | with_reducible refine obj_alloc ?_ _ | with_reducible refine obj_drew ?_ | exact hbs_6)
  · skip
    repeat (first | (with_reducible refine obj_alloc_at ?_; simp; done) | (with_reducible apply obj_put4; omega) | (with_reducible apply obj_put1; omega) | (with_reducible refine obj_setCell_other ?_ _ _ ?_; rotate_left; (dsimp only; omega)) | with_reducible refine obj_alloc ?_ _ | with_reducible refine obj_drew ?_)
  clear hba_6 hbb_6 hbs_6 la lb ls hl po0 po1 ca_0 ca_1 ca_2 ca_3 za cb_0 cb_1 cb_2 cb_3 zb cs_0 cs_1 cs_2 cs_3 zs hfw_6
  rintro w7 ⟨hfw_7, hba_7, hbb_7, hbs_7, hbt_7⟩
  obtain ⟨ca_0, ca_1, ca_2, ca_3⟩ := v_cells (v := intV n) hba_7
  dsimp only [intV] at ca_0 ca_1 ca_2 ca_3
  have za := frozen_of_obj hba_7
  obtain ⟨cb_0, cb_1, cb_2, cb_3⟩ := v_cells (v := intV m) hbb_7
  dsimp only [intV] at cb_0 cb_1 cb_2 cb_3
  have zb := frozen_of_obj hbb_7
  obtain ⟨cs_0, cs_1, cs_2, cs_3⟩ := v_cells (v := S1) hbs_7
  have zs := frozen_of_obj hbs_7
  obtain ⟨ct_0, ct_1, ct_2, ct_3⟩ := v_cells (v := S1) hbt_7
  have zt := frozen_of_obj hbt_7
  go_cut [54, 8, 10] (fun s54 s8 s10 wx => s54 = .bool false ∧ s8 = .bool ok1 ∧ s10 = .bool ok1 ∧ Fr noB w7 wx)
  case first => as_aux_lemma =>
    have q := HQ1.out
    cases hk1 : ok1
    · go_wp2_with (go_at_call 15; refine (HAw.out _).mono ?_; rintro e x0 ⟨rfl, hG0⟩)
      go_meet
      case rel => first | exact ⟨(by rfl), by first | rfl | (rw [hk1]; rfl) | rw [hk1], by first | rfl | (rw [hk1]; rfl) | rw [hk1], Fr.refl _ _⟩ | exact ⟨rfl, by first | rfl | (rw [hk1]; rfl) | rw [hk1], by first | rfl | (rw [hk1]; rfl) | rw [hk1], hG0⟩
    · go_wp2_with (go_at_call 15; refine (HAw.out _).mono ?_; rintro e x0 ⟨rfl, hG0⟩)
      go_meet
      case rel => first | exact ⟨(by rfl), by first | rfl | (rw [hk1]; rfl) | rw [hk1], by first | rfl | (rw [hk1]; rfl) | rw [hk1], Fr.refl _ _⟩ | exact ⟨rfl, by first | rfl | (rw [hk1]; rfl) | rw [hk1], by first | rfl | (rw [hk1]; rfl) | rw [hk1], hG0⟩
  case rest =>
    obtain ⟨rfl, rfl, rfl, hf8⟩ := hcut
    obtain ⟨w8, rfl⟩ : ∃ x, x = wc := ⟨_, rfl⟩
    have hba_8 := hf8.obj (fun x => x) hba_7
    have hbb_8 := hf8.obj (fun x => x) hbb_7
    have hbs_8 := hf8.obj (fun x => x) hbs_7
    have hbt_8 := hf8.obj (fun x => x) hbt_7
    have hfw_8 := hfw_7.transN hf8
    clear hba_7 hbb_7 hbs_7 hbt_7 ca_0 ca_1 ca_2 ca_3 za cb_0 cb_1 cb_2 cb_3 zb cs_0 cs_1 cs_2 cs_3 zs ct_0 ct_1 ct_2 ct_3 zt hf8 hfw_7
    obtain ⟨ca_0, ca_1, ca_2, ca_3⟩ := v_cells (v := intV n) hba_8
    dsimp only [intV] at ca_0 ca_1 ca_2 ca_3
    have za := frozen_of_obj hba_8
    obtain ⟨cb_0, cb_1, cb_2, cb_3⟩ := v_cells (v := intV m) hbb_8
    dsimp only [intV] at cb_0 cb_1 cb_2 cb_3
    have zb := frozen_of_obj hbb_8
    obtain ⟨cs_0, cs_1, cs_2, cs_3⟩ := v_cells (v := S1) hbs_8
    have zs := frozen_of_obj hbs_8
    obtain ⟨ct_0, ct_1, ct_2, ct_3⟩ := v_cells (v := S1) hbt_8
    have zt := frozen_of_obj hbt_8
    go_upto_region 6 with fail
    have la := obj_lt hba_8
    have lb := obj_lt hbb_8
    have ls := obj_lt hbs_8
    have lt := obj_lt hbt_8
    have hl := hfw_8.size
    have po0 := o0.out
    have po1 := o1.out
    refine wp_world (fun W => Fr noB w W ∧ W.heap[w2.heap.size]? = some (.cells #[.int .u8 1, .int .i64 n, .int .i64 0, .string ⟨#[]⟩] 23 (0, 0)) ∧ W.heap[w2.heap.size + 1]? = some (.cells #[.int .u8 1, .int .i64 m, .int .i64 0, .string ⟨#[]⟩] 23 (0, 0)) ∧ W.heap[w4.heap.size]? = some (.cells #[.int .u8 S1.k, .int .i64 S1.n, .int .i64 S1.hi, .string S1.t] 23 (0, 0))) ⟨?_, ?_, ?_, ?_⟩ ?_
    · skip
      repeat (first | with_reducible exact hfw_8 | with_reducible refine Fr.alloc ?_ _ | (with_reducible refine Fr.setCell ?_ ?_ _; rotate_left; (intro h; dsimp only at h; omega)) | with_reducible refine Fr.drew ?_ | exact hfw_8)
    · skip
      repeat (first | with_reducible exact hba_8 | (with_reducible refine obj_alloc_at ?_; simp; done) | (with_reducible apply obj_put4; omega) | (with_reducible apply obj_put1; omega) | (with_reducible refine obj_setCell_other ?_ _ _ ?_; rotate_left; (dsimp only; omega)) | with_reducible refine obj_alloc ?_ _ | with_reducible refine obj_drew ?_ | exact hba_8)
    · skip
      repeat (first | with_reducible exact hbb_8 | (with_reducible refine obj_alloc_at ?_; simp; done) | (with_reducible apply obj_put4; omega) | (with_reducible apply obj_put1; omega) | (with_reducible refine obj_setCell_other ?_ _ _ ?_; rotate_left; (dsimp only; omega)) | with_reducible refine obj_alloc ?_ _ | with_reducible refine obj_drew ?_ | exact hbb_8)
    · skip
      repeat (first | with_reducible exact hbs_8 | (with_reducible refine obj_alloc_at ?_; simp; done) | (with_reducible apply obj_put4; omega) | (with_reducible apply obj_put1; omega) | (with_reducible refine obj_setCell_other ?_ _ _ ?_; rotate_left; (dsimp only; omega)) | with_reducible refine obj_alloc ?_ _ | with_reducible refine obj_drew ?_ | exact hbs_8)
    clear hba_8 hbb_8 hbs_8 hbt_8 la lb ls lt hl po0 po1 ca_0 ca_1 ca_2 ca_3 za cb_0 cb_1 cb_2 cb_3 zb cs_0 cs_1 cs_2 cs_3 zs ct_0 ct_1 ct_2 ct_3 zt hfw_8
    rintro w9 ⟨hfw_9, hba_9, hbb_9, hbs_9⟩
    obtain ⟨ca_0, ca_1, ca_2, ca_3⟩ := v_cells (v := intV n) hba_9
    dsimp only [intV] at ca_0 ca_1 ca_2 ca_3
    have za := frozen_of_obj hba_9
    obtain ⟨cb_0, cb_1, cb_2, cb_3⟩ := v_cells (v := intV m) hbb_9
    dsimp only [intV] at cb_0 cb_1 cb_2 cb_3
    have zb := frozen_of_obj hbb_9
    obtain ⟨cs_0, cs_1, cs_2, cs_3⟩ := v_cells (v := S1) hbs_9
    have zs := frozen_of_obj hbs_9
    go_wp2_with fail
    refine (HSUB1.out _).mono ?_
    rintro e w10 ⟨rfl, hf10⟩
    have la := obj_lt hba_9
    have lb := obj_lt hbb_9
    have ls := obj_lt hbs_9
    have hl := hfw_9.size
    have po0 := o0.out
    have po1 := o1.out
    have hba_10 : w10.heap[w2.heap.size]? = some (.cells #[.int .u8 1, .int .i64 n, .int .i64 0, .string ⟨#[]⟩] 23 (0, 0)) := by
      refine hf10.obj (fun x => x) ?_
      repeat (first | with_reducible exact hba_9 | (with_reducible refine obj_alloc_at ?_; simp; done) | (with_reducible apply obj_put4; omega) | (with_reducible apply obj_put1; omega) | (with_reducible refine obj_setCell_other ?_ _ _ ?_; rotate_left; (dsimp only; omega)) | with_reducible refine obj_alloc ?_ _ | with_reducible refine obj_drew ?_ | exact hba_9)
    have hbb_10 : w10.heap[w2.heap.size + 1]? = some (.cells #[.int .u8 1, .int .i64 m, .int .i64 0, .string ⟨#[]⟩] 23 (0, 0)) := by
      refine hf10.obj (fun x => x) ?_
      repeat (first | with_reducible exact hbb_9 | (with_reducible refine obj_alloc_at ?_; simp; done) | (with_reducible apply obj_put4; omega) | (with_reducible apply obj_put1; omega) | (with_reducible refine obj_setCell_other ?_ _ _ ?_; rotate_left; (dsimp only; omega)) | with_reducible refine obj_alloc ?_ _ | with_reducible refine obj_drew ?_ | exact hbb_9)
    have hbs_10 : w10.heap[w4.heap.size]? = some (.cells #[.int .u8 S1.k, .int .i64 S1.n, .int .i64 S1.hi, .string S1.t] 23 (0, 0)) := by
      refine hf10.obj (fun x => x) ?_
      repeat (first | with_reducible exact hbs_9 | (with_reducible refine obj_alloc_at ?_; simp; done) | (with_reducible apply obj_put4; omega) | (with_reducible apply obj_put1; omega) | (with_reducible refine obj_setCell_other ?_ _ _ ?_; rotate_left; (dsimp only; omega)) | with_reducible refine obj_alloc ?_ _ | with_reducible refine obj_drew ?_ | exact hbs_9)
    have hfw_10 : Fr noB w w10 := by
      refine Fr.transN ?_ hf10
      repeat (first | with_reducible exact hfw_9 | with_reducible refine Fr.alloc ?_ _ | (with_reducible refine Fr.setCell ?_ ?_ _; rotate_left; (intro h; dsimp only at h; omega)) | with_reducible refine Fr.drew ?_ | exact hfw_9)
    clear hba_9 hbb_9 hbs_9 la lb ls hl po0 po1 ca_0 ca_1 ca_2 ca_3 za cb_0 cb_1 cb_2 cb_3 zb cs_0 cs_1 cs_2 cs_3 zs hf10 hfw_9
    obtain ⟨ca_0, ca_1, ca_2, ca_3⟩ := v_cells (v := intV n) hba_10
    dsimp only [intV] at ca_0 ca_1 ca_2 ca_3
    have za := frozen_of_obj hba_10
    obtain ⟨cb_0, cb_1, cb_2, cb_3⟩ := v_cells (v := intV m) hbb_10
    dsimp only [intV] at cb_0 cb_1 cb_2 cb_3
    have zb := frozen_of_obj hbb_10
    obtain ⟨cs_0, cs_1, cs_2, cs_3⟩ := v_cells (v := S1) hbs_10
    have zs := frozen_of_obj hbs_10
    go_upto_region 7 with fail
    have o2 := Lib.hid (obj_lt hbs_10)
    have la := obj_lt hba_10
    have lb := obj_lt hbb_10
    have ls := obj_lt hbs_10
    have hl := hfw_10.size
    have po0 := o0.out
    have po1 := o1.out
    have po2 := o2.out
    refine wp_world (fun W => Fr noB w W ∧ W.heap[w2.heap.size]? = some (.cells #[.int .u8 1, .int .i64 n, .int .i64 0, .string ⟨#[]⟩] 23 (0, 0)) ∧ W.heap[w2.heap.size + 1]? = some (.cells #[.int .u8 1, .int .i64 m, .int .i64 0, .string ⟨#[]⟩] 23 (0, 0)) ∧ W.heap[w4.heap.size]? = some (.cells #[.int .u8 S1.k, .int .i64 S1.n, .int .i64 S1.hi, .string S1.t] 23 (0, 0)) ∧ W.heap[w10.heap.size]? = some (.cells #[.int .u8 BK.k, .int .i64 BK.n, .int .i64 BK.hi, .string BK.t] 23 (0, 0))) ⟨?_, ?_, ?_, ?_, ?_⟩ ?_
    · skip
      repeat (first | with_reducible exact hfw_10 | with_reducible refine Fr.alloc ?_ _ | (with_reducible refine Fr.setCell ?_ ?_ _; rotate_left; (intro h; dsimp only at h; omega)) | with_reducible refine Fr.drew ?_ | exact hfw_10)
    · skip
      repeat (first | with_reducible exact hba_10 | (with_reducible refine obj_alloc_at ?_; simp; done) | (with_reducible apply obj_put4; omega) | (with_reducible apply obj_put1; omega) | (with_reducible refine obj_setCell_other ?_ _ _ ?_; rotate_left; (dsimp only; omega)) | with_reducible refine obj_alloc ?_ _ | with_reducible refine obj_drew ?_ | exact hba_10)
    · skip
      repeat (first | with_reducible exact hbb_10 | (with_reducible refine obj_alloc_at ?_; simp; done) | (with_reducible apply obj_put4; omega) | (with_reducible apply obj_put1; omega) | (with_reducible refine obj_setCell_other ?_ _ _ ?_; rotate_left; (dsimp only; omega)) | with_reducible refine obj_alloc ?_ _ | with_reducible refine obj_drew ?_ | exact hbb_10)
    · skip
      repeat (first | with_reducible exact hbs_10 | (with_reducible refine obj_alloc_at ?_; simp; done) | (with_reducible apply obj_put4; omega) | (with_reducible apply obj_put1; omega) | (with_reducible refine obj_setCell_other ?_ _ _ ?_; rotate_left; (dsimp only; omega)) | with_reducible refine obj_alloc ?_ _ | with_reducible refine obj_drew ?_ | exact hbs_10)
    · skip
      repeat (first | (with_reducible refine obj_alloc_at ?_; simp; done) | (with_reducible apply obj_put4; omega) | (with_reducible apply obj_put1; omega) | (with_reducible refine obj_setCell_other ?_ _ _ ?_; rotate_left; (dsimp only; omega)) | with_reducible refine obj_alloc ?_ _ | with_reducible refine obj_drew ?_)
    clear hba_10 hbb_10 hbs_10 la lb ls hl po0 po1 po2 ca_0 ca_1 ca_2 ca_3 za cb_0 cb_1 cb_2 cb_3 zb cs_0 cs_1 cs_2 cs_3 zs hfw_10
    rintro w11 ⟨hfw_11, hba_11, hbb_11, hbs_11, hbk_11⟩
    obtain ⟨ca_0, ca_1, ca_2, ca_3⟩ := v_cells (v := intV n) hba_11
    dsimp only [intV] at ca_0 ca_1 ca_2 ca_3
    have za := frozen_of_obj hba_11
    obtain ⟨cb_0, cb_1, cb_2, cb_3⟩ := v_cells (v := intV m) hbb_11
    dsimp only [intV] at cb_0 cb_1 cb_2 cb_3
    have zb := frozen_of_obj hbb_11
    obtain ⟨cs_0, cs_1, cs_2, cs_3⟩ := v_cells (v := S1) hbs_11
    have zs := frozen_of_obj hbs_11
    obtain ⟨ck_0, ck_1, ck_2, ck_3⟩ := v_cells (v := BK) hbk_11
    have zk := frozen_of_obj hbk_11
    go_cut [83, 8, 10] (fun s83 s8 s10 wx => s83 = .bool false ∧ s8 = .bool ok1 ∧ s10 = .bool ok1 ∧ Fr noB w11 wx)
    case first => as_aux_lemma =>
      cases hk1 : ok1
      · go_wp2_with fail
        go_meet
        case rel => first | exact ⟨(by rfl), by first | rfl | (rw [hk1]; rfl) | rw [hk1], by first | rfl | (rw [hk1]; rfl) | rw [hk1], Fr.refl _ _⟩ | exact ⟨rfl, by first | rfl | (rw [hk1]; rfl) | rw [hk1], by first | rfl | (rw [hk1]; rfl) | rw [hk1], hG0⟩
      · obtain ⟨f1, f2, f3⟩ := HF1.out hk1
        go_wp2_with fail
        go_meet
        case rel => first | exact ⟨(by rfl), by first | rfl | (rw [hk1]; rfl) | rw [hk1], by first | rfl | (rw [hk1]; rfl) | rw [hk1], Fr.refl _ _⟩ | exact ⟨rfl, by first | rfl | (rw [hk1]; rfl) | rw [hk1], by first | rfl | (rw [hk1]; rfl) | rw [hk1], hG0⟩
    case rest =>
      obtain ⟨rfl, rfl, rfl, hf12⟩ := hcut
      obtain ⟨w12, rfl⟩ : ∃ x, x = wc := ⟨_, rfl⟩
      have hba_12 := hf12.obj (fun x => x) hba_11
      have hbb_12 := hf12.obj (fun x => x) hbb_11
      have hbs_12 := hf12.obj (fun x => x) hbs_11
      have hbk_12 := hf12.obj (fun x => x) hbk_11
      have hfw_12 := hfw_11.transN hf12
      clear hba_11 hbb_11 hbs_11 hbk_11 ca_0 ca_1 ca_2 ca_3 za cb_0 cb_1 cb_2 cb_3 zb cs_0 cs_1 cs_2 cs_3 zs ck_0 ck_1 ck_2 ck_3 zk hf12 hfw_11
      obtain ⟨ca_0, ca_1, ca_2, ca_3⟩ := v_cells (v := intV n) hba_12
      dsimp only [intV] at ca_0 ca_1 ca_2 ca_3
      have za := frozen_of_obj hba_12
      obtain ⟨cb_0, cb_1, cb_2, cb_3⟩ := v_cells (v := intV m) hbb_12
      dsimp only [intV] at cb_0 cb_1 cb_2 cb_3
      have zb := frozen_of_obj hbb_12
      obtain ⟨cs_0, cs_1, cs_2, cs_3⟩ := v_cells (v := S1) hbs_12
      have zs := frozen_of_obj hbs_12
      obtain ⟨ck_0, ck_1, ck_2, ck_3⟩ := v_cells (v := BK) hbk_12
      have zk := frozen_of_obj hbk_12
      go_upto_region 9 with fail
      have la := obj_lt hba_12
      have lb := obj_lt hbb_12
      have ls := obj_lt hbs_12
      have lk := obj_lt hbk_12
      have hl := hfw_12.size
      have po0 := o0.out
      have po1 := o1.out
      have po2 := o2.out
      refine wp_world (fun W => Fr noB w W ∧ W.heap[w2.heap.size]? = some (.cells #[.int .u8 1, .int .i64 n, .int .i64 0, .string ⟨#[]⟩] 23 (0, 0)) ∧ W.heap[w2.heap.size + 1]? = some (.cells #[.int .u8 1, .int .i64 m, .int .i64 0, .string ⟨#[]⟩] 23 (0, 0))) ⟨?_, ?_, ?_⟩ ?_
      · skip
        repeat (first | with_reducible exact hfw_12 | with_reducible refine Fr.alloc ?_ _ | (with_reducible refine Fr.setCell ?_ ?_ _; rotate_left; (intro h; dsimp only at h; omega)) | with_reducible refine Fr.drew ?_ | exact hfw_12)
      · skip
        repeat (first | with_reducible exact hba_12 | (with_reducible refine obj_alloc_at ?_; simp; done) | (with_reducible apply obj_put4; omega) | (with_reducible apply obj_put1; omega) | (with_reducible refine obj_setCell_other ?_ _ _ ?_; rotate_left; (dsimp only; omega)) | with_reducible refine obj_alloc ?_ _ | with_reducible refine obj_drew ?_ | exact hba_12)
      · skip
        repeat (first | with_reducible exact hbb_12 | (with_reducible refine obj_alloc_at ?_; simp; done) | (with_reducible apply obj_put4; omega) | (with_reducible apply obj_put1; omega) | (with_reducible refine obj_setCell_other ?_ _ _ ?_; rotate_left; (dsimp only; omega)) | with_reducible refine obj_alloc ?_ _ | with_reducible refine obj_drew ?_ | exact hbb_12)
      clear hba_12 hbb_12 hbs_12 hbk_12 la lb ls lk hl po0 po1 po2 ca_0 ca_1 ca_2 ca_3 za cb_0 cb_1 cb_2 cb_3 zb cs_0 cs_1 cs_2 cs_3 zs ck_0 ck_1 ck_2 ck_3 zk hfw_12
      rintro w13 ⟨hfw_13, hba_13, hbb_13⟩
      obtain ⟨ca_0, ca_1, ca_2, ca_3⟩ := v_cells (v := intV n) hba_13
      dsimp only [intV] at ca_0 ca_1 ca_2 ca_3
      have za := frozen_of_obj hba_13
      obtain ⟨cb_0, cb_1, cb_2, cb_3⟩ := v_cells (v := intV m) hbb_13
      dsimp only [intV] at cb_0 cb_1 cb_2 cb_3
      have zb := frozen_of_obj hbb_13
      go_wp2_with fail
      refine (HMUL1.out _).mono ?_
      rintro e w14 ⟨rfl, hf14⟩
      have la := obj_lt hba_13
      have lb := obj_lt hbb_13
      have hl := hfw_13.size
      have po0 := o0.out
      have po1 := o1.out
      have po2 := o2.out
      have hba_14 : w14.heap[w2.heap.size]? = some (.cells #[.int .u8 1, .int .i64 n, .int .i64 0, .string ⟨#[]⟩] 23 (0, 0)) := by
        refine hf14.obj (fun x => x) ?_
        repeat (first | with_reducible exact hba_13 | (with_reducible refine obj_alloc_at ?_; simp; done) | (with_reducible apply obj_put4; omega) | (with_reducible apply obj_put1; omega) | (with_reducible refine obj_setCell_other ?_ _ _ ?_; rotate_left; (dsimp only; omega)) | with_reducible refine obj_alloc ?_ _ | with_reducible refine obj_drew ?_ | exact hba_13)
      have hbb_14 : w14.heap[w2.heap.size + 1]? = some (.cells #[.int .u8 1, .int .i64 m, .int .i64 0, .string ⟨#[]⟩] 23 (0, 0)) := by
        refine hf14.obj (fun x => x) ?_
        repeat (first | with_reducible exact hbb_13 | (with_reducible refine obj_alloc_at ?_; simp; done) | (with_reducible apply obj_put4; omega) | (with_reducible apply obj_put1; omega) | (with_reducible refine obj_setCell_other ?_ _ _ ?_; rotate_left; (dsimp only; omega)) | with_reducible refine obj_alloc ?_ _ | with_reducible refine obj_drew ?_ | exact hbb_13)
      have hfw_14 : Fr noB w w14 := by
        refine Fr.transN ?_ hf14
        repeat (first | with_reducible exact hfw_13 | with_reducible refine Fr.alloc ?_ _ | (with_reducible refine Fr.setCell ?_ ?_ _; rotate_left; (intro h; dsimp only at h; omega)) | with_reducible refine Fr.drew ?_ | exact hfw_13)
      clear hba_13 hbb_13 la lb hl po0 po1 po2 ca_0 ca_1 ca_2 ca_3 za cb_0 cb_1 cb_2 cb_3 zb hf14 hfw_13
      obtain ⟨ca_0, ca_1, ca_2, ca_3⟩ := v_cells (v := intV n) hba_14
      dsimp only [intV] at ca_0 ca_1 ca_2 ca_3
      have za := frozen_of_obj hba_14
      obtain ⟨cb_0, cb_1, cb_2, cb_3⟩ := v_cells (v := intV m) hbb_14
      dsimp only [intV] at cb_0 cb_1 cb_2 cb_3
      have zb := frozen_of_obj hbb_14
      go_upto_region 10 with fail
      have o3 := Lib.hid (obj_lt hbb_14)
      have la := obj_lt hba_14
      have lb := obj_lt hbb_14
      have hl := hfw_14.size
      have po0 := o0.out
      have po1 := o1.out
      have po2 := o2.out
      have po3 := o3.out
      refine wp_world (fun W => Fr noB w W ∧ W.heap[w2.heap.size]? = some (.cells #[.int .u8 1, .int .i64 n, .int .i64 0, .string ⟨#[]⟩] 23 (0, 0)) ∧ W.heap[w2.heap.size + 1]? = some (.cells #[.int .u8 1, .int .i64 m, .int .i64 0, .string ⟨#[]⟩] 23 (0, 0)) ∧ W.heap[w14.heap.size]? = some (.cells #[.int .u8 P1.k, .int .i64 P1.n, .int .i64 P1.hi, .string P1.t] 23 (0, 0))) ⟨?_, ?_, ?_, ?_⟩ ?_
      · skip
        repeat (first | with_reducible exact hfw_14 | with_reducible refine Fr.alloc ?_ _ | (with_reducible refine Fr.setCell ?_ ?_ _; rotate_left; (intro h; dsimp only at h; omega)) | with_reducible refine Fr.drew ?_ | exact hfw_14)
      · skip
        repeat (first | with_reducible exact hba_14 | (with_reducible refine obj_alloc_at ?_; simp; done) | (with_reducible apply obj_put4; omega) | (with_reducible apply obj_put1; omega) | (with_reducible refine obj_setCell_other ?_ _ _ ?_; rotate_left; (dsimp only; omega)) | with_reducible refine obj_alloc ?_ _ | with_reducible refine obj_drew ?_ | exact hba_14)
      · skip
        repeat (first | with_reducible exact hbb_14 | (with_reducible refine obj_alloc_at ?_; simp; done) | (with_reducible apply obj_put4; omega) | (with_reducible apply obj_put1; omega) | (with_reducible refine obj_setCell_other ?_ _ _ ?_; rotate_left; (dsimp only; omega)) | with_reducible refine obj_alloc ?_ _ | with_reducible refine obj_drew ?_ | exact hbb_14)
      · skip
        repeat (first | (with_reducible refine obj_alloc_at ?_; simp; done) | (with_reducible apply obj_put4; omega) | (with_reducible apply obj_put1; omega) | (with_reducible refine obj_setCell_other ?_ _ _ ?_; rotate_left; (dsimp only; omega)) | with_reducible refine obj_alloc ?_ _ | with_reducible refine obj_drew ?_)
      clear hba_14 hbb_14 la lb hl po0 po1 po2 po3 ca_0 ca_1 ca_2 ca_3 za cb_0 cb_1 cb_2 cb_3 zb hfw_14
      rintro w15 ⟨hfw_15, hba_15, hbb_15, hbp_15⟩
      obtain ⟨ca_0, ca_1, ca_2, ca_3⟩ := v_cells (v := intV n) hba_15
      dsimp only [intV] at ca_0 ca_1 ca_2 ca_3
      have za := frozen_of_obj hba_15
      obtain ⟨cb_0, cb_1, cb_2, cb_3⟩ := v_cells (v := intV m) hbb_15
      dsimp only [intV] at cb_0 cb_1 cb_2 cb_3
      have zb := frozen_of_obj hbb_15
      obtain ⟨cp_0, cp_1, cp_2, cp_3⟩ := v_cells (v := P1) hbp_15
      have zp := frozen_of_obj hbp_15
      go_wp2_with fail
      refine (HMUL2.out _).mono ?_
      rintro e w16 ⟨rfl, hf16⟩
      have la := obj_lt hba_15
      have lb := obj_lt hbb_15
      have lp := obj_lt hbp_15
      have hl := hfw_15.size
      have po0 := o0.out
      have po1 := o1.out
      have po2 := o2.out
      have po3 := o3.out
      have hba_16 : w16.heap[w2.heap.size]? = some (.cells #[.int .u8 1, .int .i64 n, .int .i64 0, .string ⟨#[]⟩] 23 (0, 0)) := by
        refine hf16.obj (fun x => x) ?_
        repeat (first | with_reducible exact hba_15 | (with_reducible refine obj_alloc_at ?_; simp; done) | (with_reducible apply obj_put4; omega) | (with_reducible apply obj_put1; omega) | (with_reducible refine obj_setCell_other ?_ _ _ ?_; rotate_left; (dsimp only; omega)) | with_reducible refine obj_alloc ?_ _ | with_reducible refine obj_drew ?_ | exact hba_15)
      have hbb_16 : w16.heap[w2.heap.size + 1]? = some (.cells #[.int .u8 1, .int .i64 m, .int .i64 0, .string ⟨#[]⟩] 23 (0, 0)) := by
        refine hf16.obj (fun x => x) ?_
        repeat (first | with_reducible exact hbb_15 | (with_reducible refine obj_alloc_at ?_; simp; done) | (with_reducible apply obj_put4; omega) | (with_reducible apply obj_put1; omega) | (with_reducible refine obj_setCell_other ?_ _ _ ?_; rotate_left; (dsimp only; omega)) | with_reducible refine obj_alloc ?_ _ | with_reducible refine obj_drew ?_ | exact hbb_15)
      have hbp_16 : w16.heap[w14.heap.size]? = some (.cells #[.int .u8 P1.k, .int .i64 P1.n, .int .i64 P1.hi, .string P1.t] 23 (0, 0)) := by
        refine hf16.obj (fun x => x) ?_
        repeat (first | with_reducible exact hbp_15 | (with_reducible refine obj_alloc_at ?_; simp; done) | (with_reducible apply obj_put4; omega) | (with_reducible apply obj_put1; omega) | (with_reducible refine obj_setCell_other ?_ _ _ ?_; rotate_left; (dsimp only; omega)) | with_reducible refine obj_alloc ?_ _ | with_reducible refine obj_drew ?_ | exact hbp_15)
      have hfw_16 : Fr noB w w16 := by
        refine Fr.transN ?_ hf16
        repeat (first | with_reducible exact hfw_15 | with_reducible refine Fr.alloc ?_ _ | (with_reducible refine Fr.setCell ?_ ?_ _; rotate_left; (intro h; dsimp only at h; omega)) | with_reducible refine Fr.drew ?_ | exact hfw_15)
      clear hba_15 hbb_15 hbp_15 la lb lp hl po0 po1 po2 po3 ca_0 ca_1 ca_2 ca_3 za cb_0 cb_1 cb_2 cb_3 zb cp_0 cp_1 cp_2 cp_3 zp hf16 hfw_15
      obtain ⟨ca_0, ca_1, ca_2, ca_3⟩ := v_cells (v := intV n) hba_16
      dsimp only [intV] at ca_0 ca_1 ca_2 ca_3
      have za := frozen_of_obj hba_16
      obtain ⟨cb_0, cb_1, cb_2, cb_3⟩ := v_cells (v := intV m) hbb_16
      dsimp only [intV] at cb_0 cb_1 cb_2 cb_3
      have zb := frozen_of_obj hbb_16
      obtain ⟨cp_0, cp_1, cp_2, cp_3⟩ := v_cells (v := P1) hbp_16
      have zp := frozen_of_obj hbp_16
      go_upto_region 11 with fail
      have o4 := Lib.hid (obj_lt hbp_16)
      have la := obj_lt hba_16
      have lb := obj_lt hbb_16
      have lp := obj_lt hbp_16
      have hl := hfw_16.size
      have po0 := o0.out
      have po1 := o1.out
      have po2 := o2.out
      have po3 := o3.out
      have po4 := o4.out
      refine wp_world (fun W => Fr noB w W ∧ W.heap[w2.heap.size]? = some (.cells #[.int .u8 1, .int .i64 n, .int .i64 0, .string ⟨#[]⟩] 23 (0, 0)) ∧ W.heap[w2.heap.size + 1]? = some (.cells #[.int .u8 1, .int .i64 m, .int .i64 0, .string ⟨#[]⟩] 23 (0, 0)) ∧ W.heap[w14.heap.size]? = some (.cells #[.int .u8 P1.k, .int .i64 P1.n, .int .i64 P1.hi, .string P1.t] 23 (0, 0)) ∧ W.heap[w16.heap.size]? = some (.cells #[.int .u8 P1.k, .int .i64 P1.n, .int .i64 P1.hi, .string P1.t] 23 (0, 0))) ⟨?_, ?_, ?_, ?_, ?_⟩ ?_
      · skip
        repeat (first | with_reducible exact hfw_16 | with_reducible refine Fr.alloc ?_ _ | (with_reducible refine Fr.setCell ?_ ?_ _; rotate_left; (intro h; dsimp only at h; omega)) | with_reducible refine Fr.drew ?_ | exact hfw_16)
      · skip
        repeat (first | with_reducible exact hba_16 | (with_reducible refine obj_alloc_at ?_; simp; done) | (with_reducible apply obj_put4; omega) | (with_reducible apply obj_put1; omega) | (with_reducible refine obj_setCell_other ?_ _ _ ?_; rotate_left; (dsimp only; omega)) | with_reducible refine obj_alloc ?_ _ | with_reducible refine obj_drew ?_ | exact hba_16)
      · skip
        repeat (first | with_reducible exact hbb_16 | (with_reducible refine obj_alloc_at ?_; simp; done) | (with_reducible apply obj_put4; omega) | (with_reducible apply obj_put1; omega) | (with_reducible refine obj_setCell_other ?_ _ _ ?_; rotate_left; (dsimp only; omega)) | with_reducible refine obj_alloc ?_ _ | with_reducible refine obj_drew ?_ | exact hbb_16)
      · skip
        repeat (first | with_reducible exact hbp_16 | (with_reducible refine obj_alloc_at ?_; simp; done) | (with_reducible apply obj_put4; omega) | (with_reducible apply obj_put1; omega) | (with_reducible refine obj_setCell_other ?_ _ _ ?_; rotate_left; (dsimp only; omega)) | with_reducible refine obj_alloc ?_ _ | with_reducible refine obj_drew ?_ | exact hbp_16)
      · skip
        repeat (first | (with_reducible refine obj_alloc_at ?_; simp; done) | (with_reducible apply obj_put4; omega) | (with_reducible apply obj_put1; omega) | (with_reducible refine obj_setCell_other ?_ _ _ ?_; rotate_left; (dsimp only; omega)) | with_reducible refine obj_alloc ?_ _ | with_reducible refine obj_drew ?_)
      clear hba_16 hbb_16 hbp_16 la lb lp hl po0 po1 po2 po3 po4 ca_0 ca_1 ca_2 ca_3 za cb_0 cb_1 cb_2 cb_3 zb cp_0 cp_1 cp_2 cp_3 zp hfw_16
      rintro w17 ⟨hfw_17, hba_17, hbb_17, hbp_17, hbq_17⟩
      obtain ⟨ca_0, ca_1, ca_2, ca_3⟩ := v_cells (v := intV n) hba_17
      dsimp only [intV] at ca_0 ca_1 ca_2 ca_3
      have za := frozen_of_obj hba_17
      obtain ⟨cb_0, cb_1, cb_2, cb_3⟩ := v_cells (v := intV m) hbb_17
      dsimp only [intV] at cb_0 cb_1 cb_2 cb_3
      have zb := frozen_of_obj hbb_17
      obtain ⟨cp_0, cp_1, cp_2, cp_3⟩ := v_cells (v := P1) hbp_17
      have zp := frozen_of_obj hbp_17
      obtain ⟨cq_0, cq_1, cq_2, cq_3⟩ := v_cells (v := P1) hbq_17
      have zq := frozen_of_obj hbq_17
      go_cut [106, 8, 10] (fun s106 s8 s10 wx => s106 = .bool false ∧ s8 = .bool ok2 ∧ s10 = .bool ok2 ∧ Fr noB w17 wx)
      case first => as_aux_lemma =>
        have q := HQ2.out
        cases hk2 : ok2
        · go_wp2_with fail
          go_meet
          case rel => first | exact ⟨(by rfl), by first | rfl | (rw [hk2]; rfl) | rw [hk2], by first | rfl | (rw [hk2]; rfl) | rw [hk2], Fr.refl _ _⟩ | exact ⟨rfl, by first | rfl | (rw [hk2]; rfl) | rw [hk2], by first | rfl | (rw [hk2]; rfl) | rw [hk2], hG0⟩
        · go_wp2_with fail
          go_meet
          case rel => first | exact ⟨(by rfl), by first | rfl | (rw [hk2]; rfl) | rw [hk2], by first | rfl | (rw [hk2]; rfl) | rw [hk2], Fr.refl _ _⟩ | exact ⟨rfl, by first | rfl | (rw [hk2]; rfl) | rw [hk2], by first | rfl | (rw [hk2]; rfl) | rw [hk2], hG0⟩
      case rest =>
        obtain ⟨rfl, rfl, rfl, hf18⟩ := hcut
        obtain ⟨w18, rfl⟩ : ∃ x, x = wc := ⟨_, rfl⟩
        have hba_18 := hf18.obj (fun x => x) hba_17
        have hbb_18 := hf18.obj (fun x => x) hbb_17
        have hbp_18 := hf18.obj (fun x => x) hbp_17
        have hbq_18 := hf18.obj (fun x => x) hbq_17
        have hfw_18 := hfw_17.transN hf18
        clear hba_17 hbb_17 hbp_17 hbq_17 ca_0 ca_1 ca_2 ca_3 za cb_0 cb_1 cb_2 cb_3 zb cp_0 cp_1 cp_2 cp_3 zp cq_0 cq_1 cq_2 cq_3 zq hf18 hfw_17
        obtain ⟨ca_0, ca_1, ca_2, ca_3⟩ := v_cells (v := intV n) hba_18
        dsimp only [intV] at ca_0 ca_1 ca_2 ca_3
        have za := frozen_of_obj hba_18
        obtain ⟨cb_0, cb_1, cb_2, cb_3⟩ := v_cells (v := intV m) hbb_18
        dsimp only [intV] at cb_0 cb_1 cb_2 cb_3
        have zb := frozen_of_obj hbb_18
        obtain ⟨cp_0, cp_1, cp_2, cp_3⟩ := v_cells (v := P1) hbp_18
        have zp := frozen_of_obj hbp_18
        obtain ⟨cq_0, cq_1, cq_2, cq_3⟩ := v_cells (v := P1) hbq_18
        have zq := frozen_of_obj hbq_18
        go_upto_region 13 with fail
        have la := obj_lt hba_18
        have lb := obj_lt hbb_18
        have lp := obj_lt hbp_18
        have lq := obj_lt hbq_18
        have hl := hfw_18.size
        have po0 := o0.out
        have po1 := o1.out
        have po2 := o2.out
        have po3 := o3.out
        have po4 := o4.out
        refine wp_world (fun W => Fr noB w W ∧ W.heap[w2.heap.size]? = some (.cells #[.int .u8 1, .int .i64 n, .int .i64 0, .string ⟨#[]⟩] 23 (0, 0)) ∧ W.heap[w2.heap.size + 1]? = some (.cells #[.int .u8 1, .int .i64 m, .int .i64 0, .string ⟨#[]⟩] 23 (0, 0)) ∧ W.heap[w14.heap.size]? = some (.cells #[.int .u8 P1.k, .int .i64 P1.n, .int .i64 P1.hi, .string P1.t] 23 (0, 0))) ⟨?_, ?_, ?_, ?_⟩ ?_
        · skip
          repeat (first | with_reducible exact hfw_18 | with_reducible refine Fr.alloc ?_ _ | (with_reducible refine Fr.setCell ?_ ?_ _; rotate_left; (intro h; dsimp only at h; omega)) | with_reducible refine Fr.drew ?_ | exact hfw_18)
        · skip
          repeat (first | with_reducible exact hba_18 | (with_reducible refine obj_alloc_at ?_; simp; done) | (with_reducible apply obj_put4; omega) | (with_reducible apply obj_put1; omega) | (with_reducible refine obj_setCell_other ?_ _ _ ?_; rotate_left; (dsimp only; omega)) | with_reducible refine obj_alloc ?_ _ | with_reducible refine obj_drew ?_ | exact hba_18)
        · skip
          repeat (first | with_reducible exact hbb_18 | (with_reducible refine obj_alloc_at ?_; simp; done) | (with_reducible apply obj_put4; omega) | (with_reducible apply obj_put1; omega) | (with_reducible refine obj_setCell_other ?_ _ _ ?_; rotate_left; (dsimp only; omega)) | with_reducible refine obj_alloc ?_ _ | with_reducible refine obj_drew ?_ | exact hbb_18)
        · skip
          repeat (first | with_reducible exact hbp_18 | (with_reducible refine obj_alloc_at ?_; simp; done) | (with_reducible apply obj_put4; omega) | (with_reducible apply obj_put1; omega) | (with_reducible refine obj_setCell_other ?_ _ _ ?_; rotate_left; (dsimp only; omega)) | with_reducible refine obj_alloc ?_ _ | with_reducible refine obj_drew ?_ | exact hbp_18)
        clear hba_18 hbb_18 hbp_18 hbq_18 la lb lp lq hl po0 po1 po2 po3 po4 ca_0 ca_1 ca_2 ca_3 za cb_0 cb_1 cb_2 cb_3 zb cp_0 cp_1 cp_2 cp_3 zp cq_0 cq_1 cq_2 cq_3 zq hfw_18
        rintro w19 ⟨hfw_19, hba_19, hbb_19, hbp_19⟩
        obtain ⟨ca_0, ca_1, ca_2, ca_3⟩ := v_cells (v := intV n) hba_19
        dsimp only [intV] at ca_0 ca_1 ca_2 ca_3
        have za := frozen_of_obj hba_19
        obtain ⟨cb_0, cb_1, cb_2, cb_3⟩ := v_cells (v := intV m) hbb_19
        dsimp only [intV] at cb_0 cb_1 cb_2 cb_3
        have zb := frozen_of_obj hbb_19
        obtain ⟨cp_0, cp_1, cp_2, cp_3⟩ := v_cells (v := P1) hbp_19
        have zp := frozen_of_obj hbp_19
        go_cut [138, 8, 10] (fun s138 s8 s10 wx => s138 = .bool false ∧ s8 = .bool ok2 ∧ s10 = .bool ok2 ∧ Fr noB w19 wx)
        case first => as_aux_lemma =>
          cases hk2 : ok2
          · obtain ⟨f1, f2⟩ := HF2.out hk2
            go_wp2_with fail
            go_meet
            case rel => first | exact ⟨(by rfl), by first | rfl | (rw [hk2]; rfl) | rw [hk2], by first | rfl | (rw [hk2]; rfl) | rw [hk2], Fr.refl _ _⟩ | exact ⟨rfl, by first | rfl | (rw [hk2]; rfl) | rw [hk2], by first | rfl | (rw [hk2]; rfl) | rw [hk2], hG0⟩
          · by_cases hm0 : m = 0
            · have f3 : (m != 0) = false := by simp [hm0]
              go_wp2_with fail
              go_meet
              case rel => first | exact ⟨(by rfl), by first | rfl | (rw [hk2]; rfl) | rw [hk2], by first | rfl | (rw [hk2]; rfl) | rw [hk2], Fr.refl _ _⟩ | exact ⟨rfl, by first | rfl | (rw [hk2]; rfl) | rw [hk2], by first | rfl | (rw [hk2]; rfl) | rw [hk2], hG0⟩
            · obtain ⟨f1, f2⟩ := HF3.out hk2 hm0
              have f3 : (m != 0) = true := by simpa using hm0
              have f5 : (m == 0) = false := by simpa using hm0
              have f4 := HN.out
              clear HN
              go_wp2_with fail
              go_meet
              case rel => first | exact ⟨(by rfl), by first | rfl | (rw [hk2]; rfl) | rw [hk2], by first | rfl | (rw [hk2]; rfl) | rw [hk2], Fr.refl _ _⟩ | exact ⟨rfl, by first | rfl | (rw [hk2]; rfl) | rw [hk2], by first | rfl | (rw [hk2]; rfl) | rw [hk2], hG0⟩
        case rest =>
          obtain ⟨rfl, rfl, rfl, hf20⟩ := hcut
          obtain ⟨w20, rfl⟩ : ∃ x, x = wc := ⟨_, rfl⟩
          have hba_20 := hf20.obj (fun x => x) hba_19
          have hbb_20 := hf20.obj (fun x => x) hbb_19
          have hbp_20 := hf20.obj (fun x => x) hbp_19
          have hfw_20 := hfw_19.transN hf20
          clear hba_19 hbb_19 hbp_19 ca_0 ca_1 ca_2 ca_3 za cb_0 cb_1 cb_2 cb_3 zb cp_0 cp_1 cp_2 cp_3 zp hf20 hfw_19
          obtain ⟨ca_0, ca_1, ca_2, ca_3⟩ := v_cells (v := intV n) hba_20
          dsimp only [intV] at ca_0 ca_1 ca_2 ca_3
          have za := frozen_of_obj hba_20
          obtain ⟨cb_0, cb_1, cb_2, cb_3⟩ := v_cells (v := intV m) hbb_20
          dsimp only [intV] at cb_0 cb_1 cb_2 cb_3
          have zb := frozen_of_obj hbb_20
          obtain ⟨cp_0, cp_1, cp_2, cp_3⟩ := v_cells (v := P1) hbp_20
          have zp := frozen_of_obj hbp_20
          go_upto_region 15 with fail
          have la := obj_lt hba_20
          have lb := obj_lt hbb_20
          have lp := obj_lt hbp_20
          have hl := hfw_20.size
          have po0 := o0.out
          have po1 := o1.out
          have po2 := o2.out
          have po3 := o3.out
          have po4 := o4.out
          refine wp_world (fun W => Fr noB w W ∧ W.heap[w2.heap.size]? = some (.cells #[.int .u8 1, .int .i64 n, .int .i64 0, .string ⟨#[]⟩] 23 (0, 0)) ∧ W.heap[w2.heap.size + 1]? = some (.cells #[.int .u8 1, .int .i64 m, .int .i64 0, .string ⟨#[]⟩] 23 (0, 0))) ⟨?_, ?_, ?_⟩ ?_
          · skip
            repeat (first | with_reducible exact hfw_20 | with_reducible refine Fr.alloc ?_ _ | (with_reducible refine Fr.setCell ?_ ?_ _; rotate_left; (intro h; dsimp only at h; omega)) | with_reducible refine Fr.drew ?_ | exact hfw_20)
          · skip
            repeat (first | with_reducible exact hba_20 | (with_reducible refine obj_alloc_at ?_; simp; done) | (with_reducible apply obj_put4; omega) | (with_reducible apply obj_put1; omega) | (with_reducible refine obj_setCell_other ?_ _ _ ?_; rotate_left; (dsimp only; omega)) | with_reducible refine obj_alloc ?_ _ | with_reducible refine obj_drew ?_ | exact hba_20)
          · skip
            repeat (first | with_reducible exact hbb_20 | (with_reducible refine obj_alloc_at ?_; simp; done) | (with_reducible apply obj_put4; omega) | (with_reducible apply obj_put1; omega) | (with_reducible refine obj_setCell_other ?_ _ _ ?_; rotate_left; (dsimp only; omega)) | with_reducible refine obj_alloc ?_ _ | with_reducible refine obj_drew ?_ | exact hbb_20)
          clear hba_20 hbb_20 hbp_20 la lb lp hl po0 po1 po2 po3 po4 ca_0 ca_1 ca_2 ca_3 za cb_0 cb_1 cb_2 cb_3 zb cp_0 cp_1 cp_2 cp_3 zp hfw_20
          rintro w21 ⟨hfw_21, hba_21, hbb_21⟩
          obtain ⟨ca_0, ca_1, ca_2, ca_3⟩ := v_cells (v := intV n) hba_21
          dsimp only [intV] at ca_0 ca_1 ca_2 ca_3
          have za := frozen_of_obj hba_21
          obtain ⟨cb_0, cb_1, cb_2, cb_3⟩ := v_cells (v := intV m) hbb_21
          dsimp only [intV] at cb_0 cb_1 cb_2 cb_3
          have zb := frozen_of_obj hbb_21
          go_wp2_with fail
          refine (HSUB2.out _).mono ?_
          rintro e w22 ⟨rfl, hf22⟩
          have la := obj_lt hba_21
          have lb := obj_lt hbb_21
          have hl := hfw_21.size
          have po0 := o0.out
          have po1 := o1.out
          have po2 := o2.out
          have po3 := o3.out
          have po4 := o4.out
          have hba_22 : w22.heap[w2.heap.size]? = some (.cells #[.int .u8 1, .int .i64 n, .int .i64 0, .string ⟨#[]⟩] 23 (0, 0)) := by
            refine hf22.obj (fun x => x) ?_
            repeat (first | with_reducible exact hba_21 | (with_reducible refine obj_alloc_at ?_; simp; done) | (with_reducible apply obj_put4; omega) | (with_reducible apply obj_put1; omega) | (with_reducible refine obj_setCell_other ?_ _ _ ?_; rotate_left; (dsimp only; omega)) | with_reducible refine obj_alloc ?_ _ | with_reducible refine obj_drew ?_ | exact hba_21)
          have hbb_22 : w22.heap[w2.heap.size + 1]? = some (.cells #[.int .u8 1, .int .i64 m, .int .i64 0, .string ⟨#[]⟩] 23 (0, 0)) := by
            refine hf22.obj (fun x => x) ?_
            repeat (first | with_reducible exact hbb_21 | (with_reducible refine obj_alloc_at ?_; simp; done) | (with_reducible apply obj_put4; omega) | (with_reducible apply obj_put1; omega) | (with_reducible refine obj_setCell_other ?_ _ _ ?_; rotate_left; (dsimp only; omega)) | with_reducible refine obj_alloc ?_ _ | with_reducible refine obj_drew ?_ | exact hbb_21)
          have hfw_22 : Fr noB w w22 := by
            refine Fr.transN ?_ hf22
            repeat (first | with_reducible exact hfw_21 | with_reducible refine Fr.alloc ?_ _ | (with_reducible refine Fr.setCell ?_ ?_ _; rotate_left; (intro h; dsimp only at h; omega)) | with_reducible refine Fr.drew ?_ | exact hfw_21)
          clear hba_21 hbb_21 la lb hl po0 po1 po2 po3 po4 ca_0 ca_1 ca_2 ca_3 za cb_0 cb_1 cb_2 cb_3 zb hf22 hfw_21
          obtain ⟨ca_0, ca_1, ca_2, ca_3⟩ := v_cells (v := intV n) hba_22
          dsimp only [intV] at ca_0 ca_1 ca_2 ca_3
          have za := frozen_of_obj hba_22
          obtain ⟨cb_0, cb_1, cb_2, cb_3⟩ := v_cells (v := intV m) hbb_22
          dsimp only [intV] at cb_0 cb_1 cb_2 cb_3
          have zb := frozen_of_obj hbb_22
          go_upto_region 16 with fail
          have o5 := Lib.hid (obj_lt hbb_22)
          have la := obj_lt hba_22
          have lb := obj_lt hbb_22
          have hl := hfw_22.size
          have po0 := o0.out
          have po1 := o1.out
          have po2 := o2.out
          have po3 := o3.out
          have po4 := o4.out
          have po5 := o5.out
          refine wp_world (fun W => Fr noB w W ∧ W.heap[w2.heap.size]? = some (.cells #[.int .u8 1, .int .i64 n, .int .i64 0, .string ⟨#[]⟩] 23 (0, 0)) ∧ W.heap[w2.heap.size + 1]? = some (.cells #[.int .u8 1, .int .i64 m, .int .i64 0, .string ⟨#[]⟩] 23 (0, 0)) ∧ W.heap[w22.heap.size]? = some (.cells #[.int .u8 L1.k, .int .i64 L1.n, .int .i64 L1.hi, .string L1.t] 23 (0, 0))) ⟨?_, ?_, ?_, ?_⟩ ?_
          · skip
            repeat (first | with_reducible exact hfw_22 | with_reducible refine Fr.alloc ?_ _ | (with_reducible refine Fr.setCell ?_ ?_ _; rotate_left; (intro h; dsimp only at h; omega)) | with_reducible refine Fr.drew ?_ | exact hfw_22)
          · skip
            repeat (first | with_reducible exact hba_22 | (with_reducible refine obj_alloc_at ?_; simp; done) | (with_reducible apply obj_put4; omega) | (with_reducible apply obj_put1; omega) | (with_reducible refine obj_setCell_other ?_ _ _ ?_; rotate_left; (dsimp only; omega)) | with_reducible refine obj_alloc ?_ _ | with_reducible refine obj_drew ?_ | exact hba_22)
          · skip
            repeat (first | with_reducible exact hbb_22 | (with_reducible refine obj_alloc_at ?_; simp; done) | (with_reducible apply obj_put4; omega) | (with_reducible apply obj_put1; omega) | (with_reducible refine obj_setCell_other ?_ _ _ ?_; rotate_left; (dsimp only; omega)) | with_reducible refine obj_alloc ?_ _ | with_reducible refine obj_drew ?_ | exact hbb_22)
          · skip
            repeat (first | (with_reducible refine obj_alloc_at ?_; simp; done) | (with_reducible apply obj_put4; omega) | (with_reducible apply obj_put1; omega) | (with_reducible refine obj_setCell_other ?_ _ _ ?_; rotate_left; (dsimp only; omega)) | with_reducible refine obj_alloc ?_ _ | with_reducible refine obj_drew ?_)
          clear hba_22 hbb_22 la lb hl po0 po1 po2 po3 po4 po5 ca_0 ca_1 ca_2 ca_3 za cb_0 cb_1 cb_2 cb_3 zb hfw_22
          rintro w23 ⟨hfw_23, hba_23, hbb_23, hbl_23⟩
          obtain ⟨ca_0, ca_1, ca_2, ca_3⟩ := v_cells (v := intV n) hba_23
          dsimp only [intV] at ca_0 ca_1 ca_2 ca_3
          have za := frozen_of_obj hba_23
          obtain ⟨cb_0, cb_1, cb_2, cb_3⟩ := v_cells (v := intV m) hbb_23
          dsimp only [intV] at cb_0 cb_1 cb_2 cb_3
          have zb := frozen_of_obj hbb_23
          obtain ⟨cl_0, cl_1, cl_2, cl_3⟩ := v_cells (v := L1) hbl_23
          have zl := frozen_of_obj hbl_23
          go_wp2_with fail
          refine (HSUB3.out _).mono ?_
          rintro e w24 ⟨rfl, hf24⟩
          have la := obj_lt hba_23
          have lb := obj_lt hbb_23
          have ll := obj_lt hbl_23
          have hl := hfw_23.size
          have po0 := o0.out
          have po1 := o1.out
          have po2 := o2.out
          have po3 := o3.out
          have po4 := o4.out
          have po5 := o5.out
          have hba_24 : w24.heap[w2.heap.size]? = some (.cells #[.int .u8 1, .int .i64 n, .int .i64 0, .string ⟨#[]⟩] 23 (0, 0)) := by
            refine hf24.obj (fun x => x) ?_
            repeat (first | with_reducible exact hba_23 | (with_reducible refine obj_alloc_at ?_; simp; done) | (with_reducible apply obj_put4; omega) | (with_reducible apply obj_put1; omega) | (with_reducible refine obj_setCell_other ?_ _ _ ?_; rotate_left; (dsimp only; omega)) | with_reducible refine obj_alloc ?_ _ | with_reducible refine obj_drew ?_ | exact hba_23)
          have hbb_24 : w24.heap[w2.heap.size + 1]? = some (.cells #[.int .u8 1, .int .i64 m, .int .i64 0, .string ⟨#[]⟩] 23 (0, 0)) := by
            refine hf24.obj (fun x => x) ?_
            repeat (first | with_reducible exact hbb_23 | (with_reducible refine obj_alloc_at ?_; simp; done) | (with_reducible apply obj_put4; omega) | (with_reducible apply obj_put1; omega) | (with_reducible refine obj_setCell_other ?_ _ _ ?_; rotate_left; (dsimp only; omega)) | with_reducible refine obj_alloc ?_ _ | with_reducible refine obj_drew ?_ | exact hbb_23)
          have hbl_24 : w24.heap[w22.heap.size]? = some (.cells #[.int .u8 L1.k, .int .i64 L1.n, .int .i64 L1.hi, .string L1.t] 23 (0, 0)) := by
            refine hf24.obj (fun x => x) ?_
            repeat (first | with_reducible exact hbl_23 | (with_reducible refine obj_alloc_at ?_; simp; done) | (with_reducible apply obj_put4; omega) | (with_reducible apply obj_put1; omega) | (with_reducible refine obj_setCell_other ?_ _ _ ?_; rotate_left; (dsimp only; omega)) | with_reducible refine obj_alloc ?_ _ | with_reducible refine obj_drew ?_ | exact hbl_23)
          have hfw_24 : Fr noB w w24 := by
            refine Fr.transN ?_ hf24
            repeat (first | with_reducible exact hfw_23 | with_reducible refine Fr.alloc ?_ _ | (with_reducible refine Fr.setCell ?_ ?_ _; rotate_left; (intro h; dsimp only at h; omega)) | with_reducible refine Fr.drew ?_ | exact hfw_23)
          clear hba_23 hbb_23 hbl_23 la lb ll hl po0 po1 po2 po3 po4 po5 ca_0 ca_1 ca_2 ca_3 za cb_0 cb_1 cb_2 cb_3 zb cl_0 cl_1 cl_2 cl_3 zl hf24 hfw_23
          obtain ⟨ca_0, ca_1, ca_2, ca_3⟩ := v_cells (v := intV n) hba_24
          dsimp only [intV] at ca_0 ca_1 ca_2 ca_3
          have za := frozen_of_obj hba_24
          obtain ⟨cb_0, cb_1, cb_2, cb_3⟩ := v_cells (v := intV m) hbb_24
          dsimp only [intV] at cb_0 cb_1 cb_2 cb_3
          have zb := frozen_of_obj hbb_24
          obtain ⟨cl_0, cl_1, cl_2, cl_3⟩ := v_cells (v := L1) hbl_24
          have zl := frozen_of_obj hbl_24
          go_upto_region 17 with fail
          have o6 := Lib.hid (obj_lt hbl_24)
          have la := obj_lt hba_24
          have lb := obj_lt hbb_24
          have ll := obj_lt hbl_24
          have hl := hfw_24.size
          have po0 := o0.out
          have po1 := o1.out
          have po2 := o2.out
          have po3 := o3.out
          have po4 := o4.out
          have po5 := o5.out
          have po6 := o6.out
          refine wp_world (fun W => Fr noB w W ∧ W.heap[w2.heap.size]? = some (.cells #[.int .u8 1, .int .i64 n, .int .i64 0, .string ⟨#[]⟩] 23 (0, 0)) ∧ W.heap[w2.heap.size + 1]? = some (.cells #[.int .u8 1, .int .i64 m, .int .i64 0, .string ⟨#[]⟩] 23 (0, 0)) ∧ W.heap[w22.heap.size]? = some (.cells #[.int .u8 L1.k, .int .i64 L1.n, .int .i64 L1.hi, .string L1.t] 23 (0, 0)) ∧ W.heap[w24.heap.size]? = some (.cells #[.int .u8 M1.k, .int .i64 M1.n, .int .i64 M1.hi, .string M1.t] 23 (0, 0))) ⟨?_, ?_, ?_, ?_, ?_⟩ ?_
          · skip
            repeat (first | with_reducible exact hfw_24 | with_reducible refine Fr.alloc ?_ _ | (with_reducible refine Fr.setCell ?_ ?_ _; rotate_left; (intro h; dsimp only at h; omega)) | with_reducible refine Fr.drew ?_ | exact hfw_24)
          · skip
            repeat (first | with_reducible exact hba_24 | (with_reducible refine obj_alloc_at ?_; simp; done) | (with_reducible apply obj_put4; omega) | (with_reducible apply obj_put1; omega) | (with_reducible refine obj_setCell_other ?_ _ _ ?_; rotate_left; (dsimp only; omega)) | with_reducible refine obj_alloc ?_ _ | with_reducible refine obj_drew ?_ | exact hba_24)
          · skip
            repeat (first | with_reducible exact hbb_24 | (with_reducible refine obj_alloc_at ?_; simp; done) | (with_reducible apply obj_put4; omega) | (with_reducible apply obj_put1; omega) | (with_reducible refine obj_setCell_other ?_ _ _ ?_; rotate_left; (dsimp only; omega)) | with_reducible refine obj_alloc ?_ _ | with_reducible refine obj_drew ?_ | exact hbb_24)
          · skip
            repeat (first | with_reducible exact hbl_24 | (with_reducible refine obj_alloc_at ?_; simp; done) | (with_reducible apply obj_put4; omega) | (with_reducible apply obj_put1; omega) | (with_reducible refine obj_setCell_other ?_ _ _ ?_; rotate_left; (dsimp only; omega)) | with_reducible refine obj_alloc ?_ _ | with_reducible refine obj_drew ?_ | exact hbl_24)
          · skip
            repeat (first | (with_reducible refine obj_alloc_at ?_; simp; done) | (with_reducible apply obj_put4; omega) | (with_reducible apply obj_put1; omega) | (with_reducible refine obj_setCell_other ?_ _ _ ?_; rotate_left; (dsimp only; omega)) | with_reducible refine obj_alloc ?_ _ | with_reducible refine obj_drew ?_)
          clear hba_24 hbb_24 hbl_24 la lb ll hl po0 po1 po2 po3 po4 po5 po6 ca_0 ca_1 ca_2 ca_3 za cb_0 cb_1 cb_2 cb_3 zb cl_0 cl_1 cl_2 cl_3 zl hfw_24
          rintro w25 ⟨hfw_25, hba_25, hbb_25, hbl_25, hbm_25⟩
          obtain ⟨ca_0, ca_1, ca_2, ca_3⟩ := v_cells (v := intV n) hba_25
          dsimp only [intV] at ca_0 ca_1 ca_2 ca_3
          have za := frozen_of_obj hba_25
          obtain ⟨cb_0, cb_1, cb_2, cb_3⟩ := v_cells (v := intV m) hbb_25
          dsimp only [intV] at cb_0 cb_1 cb_2 cb_3
          have zb := frozen_of_obj hbb_25
          obtain ⟨cl_0, cl_1, cl_2, cl_3⟩ := v_cells (v := L1) hbl_25
          have zl := frozen_of_obj hbl_25
          obtain ⟨cm_0, cm_1, cm_2, cm_3⟩ := v_cells (v := M1) hbm_25
          have zm := frozen_of_obj hbm_25
          go_wp2_with fail
          refine (HNEG.out _).mono ?_
          rintro e w26 ⟨rfl, hf26⟩
          have la := obj_lt hba_25
          have lb := obj_lt hbb_25
          have ll := obj_lt hbl_25
          have lm := obj_lt hbm_25
          have hl := hfw_25.size
          have po0 := o0.out
          have po1 := o1.out
          have po2 := o2.out
          have po3 := o3.out
          have po4 := o4.out
          have po5 := o5.out
          have po6 := o6.out
          have hba_26 : w26.heap[w2.heap.size]? = some (.cells #[.int .u8 1, .int .i64 n, .int .i64 0, .string ⟨#[]⟩] 23 (0, 0)) := by
            refine hf26.obj (fun x => x) ?_
            repeat (first | with_reducible exact hba_25 | (with_reducible refine obj_alloc_at ?_; simp; done) | (with_reducible apply obj_put4; omega) | (with_reducible apply obj_put1; omega) | (with_reducible refine obj_setCell_other ?_ _ _ ?_; rotate_left; (dsimp only; omega)) | with_reducible refine obj_alloc ?_ _ | with_reducible refine obj_drew ?_ | exact hba_25)
          have hbb_26 : w26.heap[w2.heap.size + 1]? = some (.cells #[.int .u8 1, .int .i64 m, .int .i64 0, .string ⟨#[]⟩] 23 (0, 0)) := by
            refine hf26.obj (fun x => x) ?_
            repeat (first | with_reducible exact hbb_25 | (with_reducible refine obj_alloc_at ?_; simp; done) | (with_reducible apply obj_put4; omega) | (with_reducible apply obj_put1; omega) | (with_reducible refine obj_setCell_other ?_ _ _ ?_; rotate_left; (dsimp only; omega)) | with_reducible refine obj_alloc ?_ _ | with_reducible refine obj_drew ?_ | exact hbb_25)
          have hbl_26 : w26.heap[w22.heap.size]? = some (.cells #[.int .u8 L1.k, .int .i64 L1.n, .int .i64 L1.hi, .string L1.t] 23 (0, 0)) := by
            refine hf26.obj (fun x => x) ?_
            repeat (first | with_reducible exact hbl_25 | (with_reducible refine obj_alloc_at ?_; simp; done) | (with_reducible apply obj_put4; omega) | (with_reducible apply obj_put1; omega) | (with_reducible refine obj_setCell_other ?_ _ _ ?_; rotate_left; (dsimp only; omega)) | with_reducible refine obj_alloc ?_ _ | with_reducible refine obj_drew ?_ | exact hbl_25)
          have hbm_26 : w26.heap[w24.heap.size]? = some (.cells #[.int .u8 M1.k, .int .i64 M1.n, .int .i64 M1.hi, .string M1.t] 23 (0, 0)) := by
            refine hf26.obj (fun x => x) ?_
            repeat (first | with_reducible exact hbm_25 | (with_reducible refine obj_alloc_at ?_; simp; done) | (with_reducible apply obj_put4; omega) | (with_reducible apply obj_put1; omega) | (with_reducible refine obj_setCell_other ?_ _ _ ?_; rotate_left; (dsimp only; omega)) | with_reducible refine obj_alloc ?_ _ | with_reducible refine obj_drew ?_ | exact hbm_25)
          have hfw_26 : Fr noB w w26 := by
            refine Fr.transN ?_ hf26
            repeat (first | with_reducible exact hfw_25 | with_reducible refine Fr.alloc ?_ _ | (with_reducible refine Fr.setCell ?_ ?_ _; rotate_left; (intro h; dsimp only at h; omega)) | with_reducible refine Fr.drew ?_ | exact hfw_25)
          clear hba_25 hbb_25 hbl_25 hbm_25 la lb ll lm hl po0 po1 po2 po3 po4 po5 po6 ca_0 ca_1 ca_2 ca_3 za cb_0 cb_1 cb_2 cb_3 zb cl_0 cl_1 cl_2 cl_3 zl cm_0 cm_1 cm_2 cm_3 zm hf26 hfw_25
          obtain ⟨ca_0, ca_1, ca_2, ca_3⟩ := v_cells (v := intV n) hba_26
          dsimp only [intV] at ca_0 ca_1 ca_2 ca_3
          have za := frozen_of_obj hba_26
          obtain ⟨cb_0, cb_1, cb_2, cb_3⟩ := v_cells (v := intV m) hbb_26
          dsimp only [intV] at cb_0 cb_1 cb_2 cb_3
          have zb := frozen_of_obj hbb_26
          obtain ⟨cl_0, cl_1, cl_2, cl_3⟩ := v_cells (v := L1) hbl_26
          have zl := frozen_of_obj hbl_26
          obtain ⟨cm_0, cm_1, cm_2, cm_3⟩ := v_cells (v := M1) hbm_26
          have zm := frozen_of_obj hbm_26
          go_upto_region 18 with fail
          have o7 := Lib.hid (obj_lt hbm_26)
          have la := obj_lt hba_26
          have lb := obj_lt hbb_26
          have ll := obj_lt hbl_26
          have lm := obj_lt hbm_26
          have hl := hfw_26.size
          have po0 := o0.out
          have po1 := o1.out
          have po2 := o2.out
          have po3 := o3.out
          have po4 := o4.out
          have po5 := o5.out
          have po6 := o6.out
          have po7 := o7.out
          refine wp_world (fun W => Fr noB w W ∧ W.heap[w2.heap.size]? = some (.cells #[.int .u8 1, .int .i64 n, .int .i64 0, .string ⟨#[]⟩] 23 (0, 0)) ∧ W.heap[w2.heap.size + 1]? = some (.cells #[.int .u8 1, .int .i64 m, .int .i64 0, .string ⟨#[]⟩] 23 (0, 0)) ∧ W.heap[w22.heap.size]? = some (.cells #[.int .u8 L1.k, .int .i64 L1.n, .int .i64 L1.hi, .string L1.t] 23 (0, 0)) ∧ W.heap[w24.heap.size]? = some (.cells #[.int .u8 M1.k, .int .i64 M1.n, .int .i64 M1.hi, .string M1.t] 23 (0, 0)) ∧ W.heap[w26.heap.size]? = some (.cells #[.int .u8 NV.k, .int .i64 NV.n, .int .i64 NV.hi, .string NV.t] 23 (0, 0))) ⟨?_, ?_, ?_, ?_, ?_, ?_⟩ ?_
          · skip
            repeat (first | with_reducible exact hfw_26 | with_reducible refine Fr.alloc ?_ _ | (with_reducible refine Fr.setCell ?_ ?_ _; rotate_left; (intro h; dsimp only at h; omega)) | with_reducible refine Fr.drew ?_ | exact hfw_26)
          · skip
            repeat (first | with_reducible exact hba_26 | (with_reducible refine obj_alloc_at ?_; simp; done) | (with_reducible apply obj_put4; omega) | (with_reducible apply obj_put1; omega) | (with_reducible refine obj_setCell_other ?_ _ _ ?_; rotate_left; (dsimp only; omega)) | with_reducible refine obj_alloc ?_ _ | with_reducible refine obj_drew ?_ | exact hba_26)
          · skip
            repeat (first | with_reducible exact hbb_26 | (with_reducible refine obj_alloc_at ?_; simp; done) | (with_reducible apply obj_put4; omega) | (with_reducible apply obj_put1; omega) | (with_reducible refine obj_setCell_other ?_ _ _ ?_; rotate_left; (dsimp only; omega)) | with_reducible refine obj_alloc ?_ _ | with_reducible refine obj_drew ?_ | exact hbb_26)
          · skip
            repeat (first | with_reducible exact hbl_26 | (with_reducible refine obj_alloc_at ?_; simp; done) | (with_reducible apply obj_put4; omega) | (with_reducible apply obj_put1; omega) | (with_reducible refine obj_setCell_other ?_ _ _ ?_; rotate_left; (dsimp only; omega)) | with_reducible refine obj_alloc ?_ _ | with_reducible refine obj_drew ?_ | exact hbl_26)
          · skip
            repeat (first | with_reducible exact hbm_26 | (with_reducible refine obj_alloc_at ?_; simp; done) | (with_reducible apply obj_put4; omega) | (with_reducible apply obj_put1; omega) | (with_reducible refine obj_setCell_other ?_ _ _ ?_; rotate_left; (dsimp only; omega)) | with_reducible refine obj_alloc ?_ _ | with_reducible refine obj_drew ?_ | exact hbm_26)
          · skip
            repeat (first | (with_reducible refine obj_alloc_at ?_; simp; done) | (with_reducible apply obj_put4; omega) | (with_reducible apply obj_put1; omega) | (with_reducible refine obj_setCell_other ?_ _ _ ?_; rotate_left; (dsimp only; omega)) | with_reducible refine obj_alloc ?_ _ | with_reducible refine obj_drew ?_)
          clear hba_26 hbb_26 hbl_26 hbm_26 la lb ll lm hl po0 po1 po2 po3 po4 po5 po6 po7 ca_0 ca_1 ca_2 ca_3 za cb_0 cb_1 cb_2 cb_3 zb cl_0 cl_1 cl_2 cl_3 zl cm_0 cm_1 cm_2 cm_3 zm hfw_26
          rintro w27 ⟨hfw_27, hba_27, hbb_27, hbl_27, hbm_27, hbv_27⟩
          obtain ⟨ca_0, ca_1, ca_2, ca_3⟩ := v_cells (v := intV n) hba_27
          dsimp only [intV] at ca_0 ca_1 ca_2 ca_3
          have za := frozen_of_obj hba_27
          obtain ⟨cb_0, cb_1, cb_2, cb_3⟩ := v_cells (v := intV m) hbb_27
          dsimp only [intV] at cb_0 cb_1 cb_2 cb_3
          have zb := frozen_of_obj hbb_27
          obtain ⟨cl_0, cl_1, cl_2, cl_3⟩ := v_cells (v := L1) hbl_27
          have zl := frozen_of_obj hbl_27
          obtain ⟨cm_0, cm_1, cm_2, cm_3⟩ := v_cells (v := M1) hbm_27
          have zm := frozen_of_obj hbm_27
          obtain ⟨cv_0, cv_1, cv_2, cv_3⟩ := v_cells (v := NV) hbv_27
          have zv := frozen_of_obj hbv_27
          go_cut [160, 8] (fun s160 s8 wx => s160 = .bool (c && g) ∧ s8 = .bool c ∧ Fr noB w27 wx)
          case first => as_aux_lemma =>
            have f := HF4.out
            cases hk3 : c
            · cases hk4 : g
              · rw [hk4] at f
                go_wp2_with fail
                go_meet
                case rel => first | exact ⟨(by first | rfl | (rw [hk3, hk4]; rfl) | rw [hk3, hk4]), by first | rfl | (rw [hk3]; rfl) | rw [hk3], Fr.refl _ _⟩ | exact ⟨rfl, by first | rfl | (rw [hk3]; rfl) | rw [hk3], hG0⟩
              · rw [hk4] at f
                go_wp2_with fail
                go_meet
                case rel => first | exact ⟨(by first | rfl | (rw [hk3, hk4]; rfl) | rw [hk3, hk4]), by first | rfl | (rw [hk3]; rfl) | rw [hk3], Fr.refl _ _⟩ | exact ⟨rfl, by first | rfl | (rw [hk3]; rfl) | rw [hk3], hG0⟩
            · cases hk4 : g
              · rw [hk4] at f
                go_wp2_with fail
                go_meet
                case rel => first | exact ⟨(by first | rfl | (rw [hk3, hk4]; rfl) | rw [hk3, hk4]), by first | rfl | (rw [hk3]; rfl) | rw [hk3], Fr.refl _ _⟩ | exact ⟨rfl, by first | rfl | (rw [hk3]; rfl) | rw [hk3], hG0⟩
              · rw [hk4] at f
                go_wp2_with fail
                go_meet
                case rel => first | exact ⟨(by first | rfl | (rw [hk3, hk4]; rfl) | rw [hk3, hk4]), by first | rfl | (rw [hk3]; rfl) | rw [hk3], Fr.refl _ _⟩ | exact ⟨rfl, by first | rfl | (rw [hk3]; rfl) | rw [hk3], hG0⟩
          case rest =>
            obtain ⟨rfl, rfl, hf28⟩ := hcut
            obtain ⟨w28, rfl⟩ : ∃ x, x = wc := ⟨_, rfl⟩
            have hba_28 := hf28.obj (fun x => x) hba_27
            have hbb_28 := hf28.obj (fun x => x) hbb_27
            have hbl_28 := hf28.obj (fun x => x) hbl_27
            have hbm_28 := hf28.obj (fun x => x) hbm_27
            have hbv_28 := hf28.obj (fun x => x) hbv_27
            have hfw_28 := hfw_27.transN hf28
            clear hba_27 hbb_27 hbl_27 hbm_27 hbv_27 ca_0 ca_1 ca_2 ca_3 za cb_0 cb_1 cb_2 cb_3 zb cl_0 cl_1 cl_2 cl_3 zl cm_0 cm_1 cm_2 cm_3 zm cv_0 cv_1 cv_2 cv_3 zv hf28 hfw_27
            obtain ⟨ca_0, ca_1, ca_2, ca_3⟩ := v_cells (v := intV n) hba_28
            dsimp only [intV] at ca_0 ca_1 ca_2 ca_3
            have za := frozen_of_obj hba_28
            obtain ⟨cb_0, cb_1, cb_2, cb_3⟩ := v_cells (v := intV m) hbb_28
            dsimp only [intV] at cb_0 cb_1 cb_2 cb_3
            have zb := frozen_of_obj hbb_28
            obtain ⟨cl_0, cl_1, cl_2, cl_3⟩ := v_cells (v := L1) hbl_28
            have zl := frozen_of_obj hbl_28
            obtain ⟨cm_0, cm_1, cm_2, cm_3⟩ := v_cells (v := M1) hbm_28
            have zm := frozen_of_obj hbm_28
            obtain ⟨cv_0, cv_1, cv_2, cv_3⟩ := v_cells (v := NV) hbv_28
            have zv := frozen_of_obj hbv_28
            cases hcg : (c && g)
            · go_upto_region 22 with fail
              have la := obj_lt hba_28
              have lb := obj_lt hbb_28
              have ll := obj_lt hbl_28
              have lm := obj_lt hbm_28
              have lv := obj_lt hbv_28
              have hl := hfw_28.size
              have po0 := o0.out
              have po1 := o1.out
              have po2 := o2.out
              have po3 := o3.out
              have po4 := o4.out
              have po5 := o5.out
              have po6 := o6.out
              have po7 := o7.out
              refine wp_world (fun W => Fr noB w W ∧ W.heap[w2.heap.size]? = some (.cells #[.int .u8 1, .int .i64 n, .int .i64 0, .string ⟨#[]⟩] 23 (0, 0)) ∧ W.heap[w2.heap.size + 1]? = some (.cells #[.int .u8 1, .int .i64 m, .int .i64 0, .string ⟨#[]⟩] 23 (0, 0)) ∧ W.heap[w22.heap.size]? = some (.cells #[.int .u8 L1.k, .int .i64 L1.n, .int .i64 L1.hi, .string L1.t] 23 (0, 0)) ∧ W.heap[w24.heap.size]? = some (.cells #[.int .u8 M1.k, .int .i64 M1.n, .int .i64 M1.hi, .string M1.t] 23 (0, 0))) ⟨?_, ?_, ?_, ?_, ?_⟩ ?_
              · skip
                repeat (first | with_reducible exact hfw_28 | with_reducible refine Fr.alloc ?_ _ | (with_reducible refine Fr.setCell ?_ ?_ _; rotate_left; (intro h; dsimp only at h; omega)) | with_reducible refine Fr.drew ?_ | exact hfw_28)
              · skip
                repeat (first | with_reducible exact hba_28 | (with_reducible refine obj_alloc_at ?_; simp; done) | (with_reducible apply obj_put4; omega) | (with_reducible apply obj_put1; omega) | (with_reducible refine obj_setCell_other ?_ _ _ ?_; rotate_left; (dsimp only; omega)) | with_reducible refine obj_alloc ?_ _ | with_reducible refine obj_drew ?_ | exact hba_28)
              · skip
                repeat (first | with_reducible exact hbb_28 | (with_reducible refine obj_alloc_at ?_; simp; done) | (with_reducible apply obj_put4; omega) | (with_reducible apply obj_put1; omega) | (with_reducible refine obj_setCell_other ?_ _ _ ?_; rotate_left; (dsimp only; omega)) | with_reducible refine obj_alloc ?_ _ | with_reducible refine obj_drew ?_ | exact hbb_28)
              · skip
                repeat (first | with_reducible exact hbl_28 | (with_reducible refine obj_alloc_at ?_; simp; done) | (with_reducible apply obj_put4; omega) | (with_reducible apply obj_put1; omega) | (with_reducible refine obj_setCell_other ?_ _ _ ?_; rotate_left; (dsimp only; omega)) | with_reducible refine obj_alloc ?_ _ | with_reducible refine obj_drew ?_ | exact hbl_28)
              · skip
                repeat (first | with_reducible exact hbm_28 | (with_reducible refine obj_alloc_at ?_; simp; done) | (with_reducible apply obj_put4; omega) | (with_reducible apply obj_put1; omega) | (with_reducible refine obj_setCell_other ?_ _ _ ?_; rotate_left; (dsimp only; omega)) | with_reducible refine obj_alloc ?_ _ | with_reducible refine obj_drew ?_ | exact hbm_28)
              clear hba_28 hbb_28 hbl_28 hbm_28 hbv_28 la lb ll lm lv hl po0 po1 po2 po3 po4 po5 po6 po7 ca_0 ca_1 ca_2 ca_3 za cb_0 cb_1 cb_2 cb_3 zb cl_0 cl_1 cl_2 cl_3 zl cm_0 cm_1 cm_2 cm_3 zm cv_0 cv_1 cv_2 cv_3 zv hfw_28
              rintro w29 ⟨hfw_29, hba_29, hbb_29, hbl_29, hbm_29⟩
              obtain ⟨ca_0, ca_1, ca_2, ca_3⟩ := v_cells (v := intV n) hba_29
              dsimp only [intV] at ca_0 ca_1 ca_2 ca_3
              have za := frozen_of_obj hba_29
              obtain ⟨cb_0, cb_1, cb_2, cb_3⟩ := v_cells (v := intV m) hbb_29
              dsimp only [intV] at cb_0 cb_1 cb_2 cb_3
              have zb := frozen_of_obj hbb_29
              obtain ⟨cl_0, cl_1, cl_2, cl_3⟩ := v_cells (v := L1) hbl_29
              have zl := frozen_of_obj hbl_29
              obtain ⟨cm_0, cm_1, cm_2, cm_3⟩ := v_cells (v := M1) hbm_29
              have zm := frozen_of_obj hbm_29
              go_cut [185, 8, 10] (fun s185 s8 s10 wx => s185 = .bool false ∧ s8 = .bool c ∧ s10 = .bool d ∧ Fr noB w29 wx)
              case first => as_aux_lemma =>
                cases hk3 : c
                · go_wp2_with fail
                  go_meet
                  case rel => first | exact ⟨(by rfl), by first | rfl | (rw [hk3]; rfl) | rw [hk3], by first | rfl | (rw [hk4]; rfl) | rw [hk4], Fr.refl _ _⟩ | exact ⟨rfl, by first | rfl | (rw [hk3]; rfl) | rw [hk3], by first | rfl | (rw [hk4]; rfl) | rw [hk4], hG0⟩
                · cases hk4 : d
                  · go_wp2_with fail
                    go_meet
                    case rel => first | exact ⟨(by rfl), by first | rfl | (rw [hk3]; rfl) | rw [hk3], by first | rfl | (rw [hk4]; rfl) | rw [hk4], Fr.refl _ _⟩ | exact ⟨rfl, by first | rfl | (rw [hk3]; rfl) | rw [hk3], by first | rfl | (rw [hk4]; rfl) | rw [hk4], hG0⟩
                  · obtain ⟨f1, f2, f3⟩ := HF5.out hk3 hk4
                    have f4 : wrap64 (-M1.n) = L1.n := by rw [← f1]; exact wrap_ok (by rw [f1, f2, show -(m - n) = n - m by omega]; exact f3)
                    have f5 : (L1.n != wrap64 (-M1.n)) = false := by rw [f4]; simp
                    clear f1 f2 f3 f4
                    go_wp2_with fail
                    go_meet
                    case rel => first | exact ⟨(by rfl), by first | rfl | (rw [hk3]; rfl) | rw [hk3], by first | rfl | (rw [hk4]; rfl) | rw [hk4], Fr.refl _ _⟩ | exact ⟨rfl, by first | rfl | (rw [hk3]; rfl) | rw [hk3], by first | rfl | (rw [hk4]; rfl) | rw [hk4], hG0⟩
              case rest =>
                obtain ⟨rfl, rfl, rfl, hf30⟩ := hcut
                obtain ⟨w30, rfl⟩ : ∃ x, x = wc := ⟨_, rfl⟩
                have hba_30 := hf30.obj (fun x => x) hba_29
                have hbb_30 := hf30.obj (fun x => x) hbb_29
                have hbl_30 := hf30.obj (fun x => x) hbl_29
                have hbm_30 := hf30.obj (fun x => x) hbm_29
                have hfw_30 := hfw_29.transN hf30
                clear hba_29 hbb_29 hbl_29 hbm_29 ca_0 ca_1 ca_2 ca_3 za cb_0 cb_1 cb_2 cb_3 zb cl_0 cl_1 cl_2 cl_3 zl cm_0 cm_1 cm_2 cm_3 zm hf30 hfw_29
                obtain ⟨ca_0, ca_1, ca_2, ca_3⟩ := v_cells (v := intV n) hba_30
                dsimp only [intV] at ca_0 ca_1 ca_2 ca_3
                have za := frozen_of_obj hba_30
                obtain ⟨cb_0, cb_1, cb_2, cb_3⟩ := v_cells (v := intV m) hbb_30
                dsimp only [intV] at cb_0 cb_1 cb_2 cb_3
                have zb := frozen_of_obj hbb_30
                obtain ⟨cl_0, cl_1, cl_2, cl_3⟩ := v_cells (v := L1) hbl_30
                have zl := frozen_of_obj hbl_30
                obtain ⟨cm_0, cm_1, cm_2, cm_3⟩ := v_cells (v := M1) hbm_30
                have zm := frozen_of_obj hbm_30
                go_upto_region 24 with fail
                have la := obj_lt hba_30
                have lb := obj_lt hbb_30
                have ll := obj_lt hbl_30
                have lm := obj_lt hbm_30
                have hl := hfw_30.size
                have po0 := o0.out
                have po1 := o1.out
                have po2 := o2.out
                have po3 := o3.out
                have po4 := o4.out
                have po5 := o5.out
                have po6 := o6.out
                have po7 := o7.out
                refine wp_world (fun W => Fr noB w W ∧ W.heap[w2.heap.size]? = some (.cells #[.int .u8 1, .int .i64 n, .int .i64 0, .string ⟨#[]⟩] 23 (0, 0)) ∧ W.heap[w2.heap.size + 1]? = some (.cells #[.int .u8 1, .int .i64 m, .int .i64 0, .string ⟨#[]⟩] 23 (0, 0))) ⟨?_, ?_, ?_⟩ ?_
                · skip
                  repeat (first | with_reducible exact hfw_30 | with_reducible refine Fr.alloc ?_ _ | (with_reducible refine Fr.setCell ?_ ?_ _; rotate_left; (intro h; dsimp only at h; omega)) | with_reducible refine Fr.drew ?_ | exact hfw_30)
                · skip
                  repeat (first | with_reducible exact hba_30 | (with_reducible refine obj_alloc_at ?_; simp; done) | (with_reducible apply obj_put4; omega) | (with_reducible apply obj_put1; omega) | (with_reducible refine obj_setCell_other ?_ _ _ ?_; rotate_left; (dsimp only; omega)) | with_reducible refine obj_alloc ?_ _ | with_reducible refine obj_drew ?_ | exact hba_30)
                · skip
                  repeat (first | with_reducible exact hbb_30 | (with_reducible refine obj_alloc_at ?_; simp; done) | (with_reducible apply obj_put4; omega) | (with_reducible apply obj_put1; omega) | (with_reducible refine obj_setCell_other ?_ _ _ ?_; rotate_left; (dsimp only; omega)) | with_reducible refine obj_alloc ?_ _ | with_reducible refine obj_drew ?_ | exact hbb_30)
                clear hba_30 hbb_30 hbl_30 hbm_30 la lb ll lm hl po0 po1 po2 po3 po4 po5 po6 po7 ca_0 ca_1 ca_2 ca_3 za cb_0 cb_1 cb_2 cb_3 zb cl_0 cl_1 cl_2 cl_3 zl cm_0 cm_1 cm_2 cm_3 zm hfw_30
                rintro w31 ⟨hfw_31, hba_31, hbb_31⟩
                obtain ⟨ca_0, ca_1, ca_2, ca_3⟩ := v_cells (v := intV n) hba_31
                dsimp only [intV] at ca_0 ca_1 ca_2 ca_3
                have za := frozen_of_obj hba_31
                obtain ⟨cb_0, cb_1, cb_2, cb_3⟩ := v_cells (v := intV m) hbb_31
                dsimp only [intV] at cb_0 cb_1 cb_2 cb_3
                have zb := frozen_of_obj hbb_31
                go_cut [21, 12] (fun s21 s12 wx => ∃ qo : Nat, s21 = .pointer (some ⟨qo, 0, none⟩) ∧ s12 = .bool true ∧ Fr noB w31 wx ∧ w31.heap.size ≤ qo ∧ wx.heap[qo]? = some (.cells #[.int .u8 1, .int .i64 n, .int .i64 0, .string ⟨#[]⟩] 23 (0, 0)))
                case first => as_aux_lemma =>
                  have hqa := obj_drew hba_31
                  have fz : ∀ (X : World) (o : Nat), (X.alloc (.cells #[.int .u8 0, .int .i64 0, .int .i64 0, .string ⟨#[]⟩] 23 (0, 0))).frozen? ⟨X.heap.size, o, none⟩ = false := fun X o => frozen_of_obj (obj_alloc_new X _) o
                  have fc : ∀ X : World, (X.alloc (.cells #[.int .u8 0, .int .i64 0, .int .i64 0, .string ⟨#[]⟩] 23 (0, 0))).cell? ⟨X.heap.size, 0, none⟩ = some (.int .u8 0) ∧ (X.alloc (.cells #[.int .u8 0, .int .i64 0, .int .i64 0, .string ⟨#[]⟩] 23 (0, 0))).cell? ⟨X.heap.size, 1, none⟩ = some (.int .i64 0) ∧ (X.alloc (.cells #[.int .u8 0, .int .i64 0, .int .i64 0, .string ⟨#[]⟩] 23 (0, 0))).cell? ⟨X.heap.size, 2, none⟩ = some (.int .i64 0) ∧ (X.alloc (.cells #[.int .u8 0, .int .i64 0, .int .i64 0, .string ⟨#[]⟩] 23 (0, 0))).cell? ⟨X.heap.size, 3, none⟩ = some (.string ⟨#[]⟩) := fun X => v_cells (v := zV) (obj_alloc_new X _)
                  have la := obj_lt hba_31
                  have hdq : w31.drew.heap.size = w31.heap.size := rfl
                  have hva : ∀ X : World, X.heap[w2.heap.size]? = some (.cells #[.int .u8 1, .int .i64 n, .int .i64 0, .string ⟨#[]⟩] 23 (0, 0)) → X.cell? ⟨w2.heap.size, 0, none⟩ = some (.int .u8 1) ∧ X.cell? ⟨w2.heap.size, 1, none⟩ = some (.int .i64 n) ∧ X.cell? ⟨w2.heap.size, 2, none⟩ = some (.int .i64 0) ∧ X.cell? ⟨w2.heap.size, 3, none⟩ = some (.string ⟨#[]⟩) := fun X h => v_cells (v := intV n) h
                  go_region_held3 (fun X : World => X.cell? ⟨w2.heap.size, 0, none⟩ = some (.int .u8 1) ∧ X.cell? ⟨w2.heap.size, 1, none⟩ = some (.int .i64 n) ∧ X.cell? ⟨w2.heap.size, 2, none⟩ = some (.int .i64 0) ∧ X.cell? ⟨w2.heap.size, 3, none⟩ = some (.string ⟨#[]⟩)) ((refine (hva _ ?_) <;> repeat (first | with_reducible exact hqa | with_reducible exact hba_31 | with_reducible refine obj_alloc ?_ _ | (with_reducible refine obj_setCell_other ?_ _ _ ?_; rotate_left; (dsimp only; omega)) | with_reducible refine obj_drew ?_))) (first | (go_at_call 19; refine ((HI 1).out _).mono ?_; rintro e x0 ⟨rfl, hG0⟩; have k0 := hG0.size; refine have_of (p := x0.heap[w2.heap.size]? = some (.cells #[.int .u8 1, .int .i64 n, .int .i64 0, .string ⟨#[]⟩] 23 (0, 0))) ?_ (fun hqa => ?_); (focus (refine hG0.obj (noB_not _) ?_; repeat (first | with_reducible exact hqa | with_reducible exact hba_31 | with_reducible refine obj_alloc ?_ _ | with_reducible refine obj_drew ?_))); (first | (have hnn := hG0.obj (fun x => x) hnn) | (with_reducible have hnn := hG0.obj (noB_not _) (obj_alloc_new _ _)) | (with_reducible have hnn := hG0.obj (noB_not _) (obj_drew (obj_alloc_new _ _))) | skip); (first | (have znn := frozen_of_obj hnn; obtain ⟨n0, n1, n2, n3⟩ := v_cells (v := zV) hnn) | skip)) | (go_at_call 20; refine (HMUL4.out _).mono ?_; rintro e x1 ⟨rfl, hG1⟩; have k1 := hG1.size; refine have_of (p := x1.heap[w2.heap.size]? = some (.cells #[.int .u8 1, .int .i64 n, .int .i64 0, .string ⟨#[]⟩] 23 (0, 0))) ?_ (fun hqa => ?_); (focus (refine hG1.obj (noB_not _) ?_; repeat (first | with_reducible exact hqa | with_reducible exact hba_31 | with_reducible refine obj_alloc ?_ _ | with_reducible refine obj_drew ?_))); (first | (have hnn := hG1.obj (fun x => x) hnn) | (with_reducible have hnn := hG1.obj (noB_not _) (obj_alloc_new _ _)) | (with_reducible have hnn := hG1.obj (noB_not _) (obj_drew (obj_alloc_new _ _))) | skip); (first | (have znn := frozen_of_obj hnn; obtain ⟨n0, n1, n2, n3⟩ := v_cells (v := zV) hnn) | skip)))
                  all_goals (go_wp2_with fail; go_meet)
                  all_goals (have hfr0 := Fr.refl noB w31; refine ⟨_, rfl, rfl, ?_, ?_, ?_⟩)
                  all_goals (first | ((repeat (first | with_reducible exact hfr0 | with_reducible refine Fr.transN ?_ hG1 | with_reducible refine Fr.transN ?_ hG0 | with_reducible refine Fr.alloc ?_ _ | (with_reducible refine Fr.setCell ?_ ?_ _; rotate_left; (intro h; dsimp only at h; omega)) | with_reducible refine Fr.drew ?_ | exact hfr0)); done) | ((try simp only [World.size_alloc] at k0); (try simp only [World.size_alloc] at k1); omega) | ((repeat (first | with_reducible exact hnn | (with_reducible refine obj_alloc_at ?_; simp; done) | (with_reducible apply obj_put4; omega) | (with_reducible refine obj_setCell_other ?_ _ _ ?_; rotate_left; (dsimp only; omega)) | with_reducible refine obj_alloc ?_ _ | with_reducible refine obj_drew ?_)); done))
                case rest =>
                  obtain ⟨qo, rfl, rfl, hf32, hgo, hbo_32⟩ := hcut
                  obtain ⟨w32, rfl⟩ : ∃ x, x = wc := ⟨_, rfl⟩
                  have o8 := Lib.hid (obj_lt hbb_31)
                  have o9 := Lib.hid hgo
                  have hba_32 := hf32.obj (fun x => x) hba_31
                  have hbb_32 := hf32.obj (fun x => x) hbb_31
                  have hfw_32 := hfw_31.transN hf32
                  clear hba_31 hbb_31 ca_0 ca_1 ca_2 ca_3 za cb_0 cb_1 cb_2 cb_3 zb hf32 hfw_31 hgo
                  obtain ⟨ca_0, ca_1, ca_2, ca_3⟩ := v_cells (v := intV n) hba_32
                  dsimp only [intV] at ca_0 ca_1 ca_2 ca_3
                  have za := frozen_of_obj hba_32
                  obtain ⟨cb_0, cb_1, cb_2, cb_3⟩ := v_cells (v := intV m) hbb_32
                  dsimp only [intV] at cb_0 cb_1 cb_2 cb_3
                  have zb := frozen_of_obj hbb_32
                  obtain ⟨co_0, co_1, co_2, co_3⟩ := v_cells (v := intV n) hbo_32
                  dsimp only [intV] at co_0 co_1 co_2 co_3
                  have zo := frozen_of_obj hbo_32
                  go_upto_region 25 with fail
                  have la := obj_lt hba_32
                  have lb := obj_lt hbb_32
                  have lo := obj_lt hbo_32
                  have hl := hfw_32.size
                  have po0 := o0.out
                  have po1 := o1.out
                  have po2 := o2.out
                  have po3 := o3.out
                  have po4 := o4.out
                  have po5 := o5.out
                  have po6 := o6.out
                  have po7 := o7.out
                  have po8 := o8.out
                  have po9 := o9.out
                  refine wp_world (fun W => Fr noB w W ∧ W.heap[w2.heap.size]? = some (.cells #[.int .u8 1, .int .i64 n, .int .i64 0, .string ⟨#[]⟩] 23 (0, 0)) ∧ W.heap[w2.heap.size + 1]? = some (.cells #[.int .u8 1, .int .i64 m, .int .i64 0, .string ⟨#[]⟩] 23 (0, 0)) ∧ W.heap[qo]? = some (.cells #[.int .u8 1, .int .i64 n, .int .i64 0, .string ⟨#[]⟩] 23 (0, 0))) ⟨?_, ?_, ?_, ?_⟩ ?_
                  · skip
                    repeat (first | with_reducible exact hfw_32 | with_reducible refine Fr.alloc ?_ _ | (with_reducible refine Fr.setCell ?_ ?_ _; rotate_left; (intro h; dsimp only at h; omega)) | with_reducible refine Fr.drew ?_ | exact hfw_32)
                  · skip
                    repeat (first | with_reducible exact hba_32 | (with_reducible refine obj_alloc_at ?_; simp; done) | (with_reducible apply obj_put4; omega) | (with_reducible apply obj_put1; omega) | (with_reducible refine obj_setCell_other ?_ _ _ ?_; rotate_left; (dsimp only; omega)) | with_reducible refine obj_alloc ?_ _ | with_reducible refine obj_drew ?_ | exact hba_32)
                  · skip
                    repeat (first | with_reducible exact hbb_32 | (with_reducible refine obj_alloc_at ?_; simp; done) | (with_reducible apply obj_put4; omega) | (with_reducible apply obj_put1; omega) | (with_reducible refine obj_setCell_other ?_ _ _ ?_; rotate_left; (dsimp only; omega)) | with_reducible refine obj_alloc ?_ _ | with_reducible refine obj_drew ?_ | exact hbb_32)
                  · skip
                    repeat (first | with_reducible exact hbo_32 | (with_reducible refine obj_alloc_at ?_; simp; done) | (with_reducible apply obj_put4; omega) | (with_reducible apply obj_put1; omega) | (with_reducible refine obj_setCell_other ?_ _ _ ?_; rotate_left; (dsimp only; omega)) | with_reducible refine obj_alloc ?_ _ | with_reducible refine obj_drew ?_ | exact hbo_32)
                  clear hba_32 hbb_32 hbo_32 la lb lo hl po0 po1 po2 po3 po4 po5 po6 po7 po8 po9 ca_0 ca_1 ca_2 ca_3 za cb_0 cb_1 cb_2 cb_3 zb co_0 co_1 co_2 co_3 zo hfw_32
                  rintro w33 ⟨hfw_33, hba_33, hbb_33, hbo_33⟩
                  obtain ⟨ca_0, ca_1, ca_2, ca_3⟩ := v_cells (v := intV n) hba_33
                  dsimp only [intV] at ca_0 ca_1 ca_2 ca_3
                  have za := frozen_of_obj hba_33
                  obtain ⟨cb_0, cb_1, cb_2, cb_3⟩ := v_cells (v := intV m) hbb_33
                  dsimp only [intV] at cb_0 cb_1 cb_2 cb_3
                  have zb := frozen_of_obj hbb_33
                  obtain ⟨co_0, co_1, co_2, co_3⟩ := v_cells (v := intV n) hbo_33
                  dsimp only [intV] at co_0 co_1 co_2 co_3
                  have zo := frozen_of_obj hbo_33
                  go_cut [22, 23] (fun s22 s23 wx => ∃ qz : Nat, s22 = .pointer (some ⟨qz, 0, none⟩) ∧ s23 = .bool true ∧ Fr noB w33 wx ∧ w33.heap.size ≤ qz ∧ wx.heap[qz]? = some (.cells #[.int .u8 1, .int .i64 n, .int .i64 0, .string ⟨#[]⟩] 23 (0, 0)))
                  case first => as_aux_lemma =>
                    have hqa := obj_drew hba_33
                    have fz : ∀ (X : World) (o : Nat), (X.alloc (.cells #[.int .u8 0, .int .i64 0, .int .i64 0, .string ⟨#[]⟩] 23 (0, 0))).frozen? ⟨X.heap.size, o, none⟩ = false := fun X o => frozen_of_obj (obj_alloc_new X _) o
                    have fc : ∀ X : World, (X.alloc (.cells #[.int .u8 0, .int .i64 0, .int .i64 0, .string ⟨#[]⟩] 23 (0, 0))).cell? ⟨X.heap.size, 0, none⟩ = some (.int .u8 0) ∧ (X.alloc (.cells #[.int .u8 0, .int .i64 0, .int .i64 0, .string ⟨#[]⟩] 23 (0, 0))).cell? ⟨X.heap.size, 1, none⟩ = some (.int .i64 0) ∧ (X.alloc (.cells #[.int .u8 0, .int .i64 0, .int .i64 0, .string ⟨#[]⟩] 23 (0, 0))).cell? ⟨X.heap.size, 2, none⟩ = some (.int .i64 0) ∧ (X.alloc (.cells #[.int .u8 0, .int .i64 0, .int .i64 0, .string ⟨#[]⟩] 23 (0, 0))).cell? ⟨X.heap.size, 3, none⟩ = some (.string ⟨#[]⟩) := fun X => v_cells (v := zV) (obj_alloc_new X _)
                    have la := obj_lt hba_33
                    have hdq : w33.drew.heap.size = w33.heap.size := rfl
                    have hva : ∀ X : World, X.heap[w2.heap.size]? = some (.cells #[.int .u8 1, .int .i64 n, .int .i64 0, .string ⟨#[]⟩] 23 (0, 0)) → X.cell? ⟨w2.heap.size, 0, none⟩ = some (.int .u8 1) ∧ X.cell? ⟨w2.heap.size, 1, none⟩ = some (.int .i64 n) ∧ X.cell? ⟨w2.heap.size, 2, none⟩ = some (.int .i64 0) ∧ X.cell? ⟨w2.heap.size, 3, none⟩ = some (.string ⟨#[]⟩) := fun X h => v_cells (v := intV n) h
                    go_region_held3 (fun X : World => X.cell? ⟨w2.heap.size, 0, none⟩ = some (.int .u8 1) ∧ X.cell? ⟨w2.heap.size, 1, none⟩ = some (.int .i64 n) ∧ X.cell? ⟨w2.heap.size, 2, none⟩ = some (.int .i64 0) ∧ X.cell? ⟨w2.heap.size, 3, none⟩ = some (.string ⟨#[]⟩)) ((refine (hva _ ?_) <;> repeat (first | with_reducible exact hqa | with_reducible exact hba_33 | with_reducible refine obj_alloc ?_ _ | (with_reducible refine obj_setCell_other ?_ _ _ ?_; rotate_left; (dsimp only; omega)) | with_reducible refine obj_drew ?_))) (first | (go_at_call 19; refine ((HI 0).out _).mono ?_; rintro e x0 ⟨rfl, hG0⟩; have k0 := hG0.size; refine have_of (p := x0.heap[w2.heap.size]? = some (.cells #[.int .u8 1, .int .i64 n, .int .i64 0, .string ⟨#[]⟩] 23 (0, 0))) ?_ (fun hqa => ?_); (focus (refine hG0.obj (noB_not _) ?_; repeat (first | with_reducible exact hqa | with_reducible exact hba_33 | with_reducible refine obj_alloc ?_ _ | with_reducible refine obj_drew ?_))); (first | (have hnn := hG0.obj (fun x => x) hnn) | (with_reducible have hnn := hG0.obj (noB_not _) (obj_alloc_new _ _)) | (with_reducible have hnn := hG0.obj (noB_not _) (obj_drew (obj_alloc_new _ _))) | skip); (first | (have znn := frozen_of_obj hnn; obtain ⟨n0, n1, n2, n3⟩ := v_cells (v := zV) hnn) | skip)) | (go_at_call 20; refine (HADD4.out _).mono ?_; rintro e x1 ⟨rfl, hG1⟩; have k1 := hG1.size; refine have_of (p := x1.heap[w2.heap.size]? = some (.cells #[.int .u8 1, .int .i64 n, .int .i64 0, .string ⟨#[]⟩] 23 (0, 0))) ?_ (fun hqa => ?_); (focus (refine hG1.obj (noB_not _) ?_; repeat (first | with_reducible exact hqa | with_reducible exact hba_33 | with_reducible refine obj_alloc ?_ _ | with_reducible refine obj_drew ?_))); (first | (have hnn := hG1.obj (fun x => x) hnn) | (with_reducible have hnn := hG1.obj (noB_not _) (obj_alloc_new _ _)) | (with_reducible have hnn := hG1.obj (noB_not _) (obj_drew (obj_alloc_new _ _))) | skip); (first | (have znn := frozen_of_obj hnn; obtain ⟨n0, n1, n2, n3⟩ := v_cells (v := zV) hnn) | skip)))
                    all_goals (go_wp2_with fail; go_meet)
                    all_goals (have hfr0 := Fr.refl noB w33; refine ⟨_, rfl, rfl, ?_, ?_, ?_⟩)
                    all_goals (first | ((repeat (first | with_reducible exact hfr0 | with_reducible refine Fr.transN ?_ hG1 | with_reducible refine Fr.transN ?_ hG0 | with_reducible refine Fr.alloc ?_ _ | (with_reducible refine Fr.setCell ?_ ?_ _; rotate_left; (intro h; dsimp only at h; omega)) | with_reducible refine Fr.drew ?_ | exact hfr0)); done) | ((try simp only [World.size_alloc] at k0); (try simp only [World.size_alloc] at k1); omega) | ((repeat (first | with_reducible exact hnn | (with_reducible refine obj_alloc_at ?_; simp; done) | (with_reducible apply obj_put4; omega) | (with_reducible refine obj_setCell_other ?_ _ _ ?_; rotate_left; (dsimp only; omega)) | with_reducible refine obj_alloc ?_ _ | with_reducible refine obj_drew ?_)); done))
                  case rest =>
                    obtain ⟨qz, rfl, rfl, hf34, hgz, hbz_34⟩ := hcut
                    obtain ⟨w34, rfl⟩ : ∃ x, x = wc := ⟨_, rfl⟩
                    have o10 := Lib.hid (obj_lt hbo_33)
                    have o11 := Lib.hid hgz
                    have hba_34 := hf34.obj (fun x => x) hba_33
                    have hbb_34 := hf34.obj (fun x => x) hbb_33
                    have hbo_34 := hf34.obj (fun x => x) hbo_33
                    have hfw_34 := hfw_33.transN hf34
                    clear hba_33 hbb_33 hbo_33 ca_0 ca_1 ca_2 ca_3 za cb_0 cb_1 cb_2 cb_3 zb co_0 co_1 co_2 co_3 zo hf34 hfw_33 hgz
                    obtain ⟨ca_0, ca_1, ca_2, ca_3⟩ := v_cells (v := intV n) hba_34
                    dsimp only [intV] at ca_0 ca_1 ca_2 ca_3
                    have za := frozen_of_obj hba_34
                    obtain ⟨cb_0, cb_1, cb_2, cb_3⟩ := v_cells (v := intV m) hbb_34
                    dsimp only [intV] at cb_0 cb_1 cb_2 cb_3
                    have zb := frozen_of_obj hbb_34
                    obtain ⟨co_0, co_1, co_2, co_3⟩ := v_cells (v := intV n) hbo_34
                    dsimp only [intV] at co_0 co_1 co_2 co_3
                    have zo := frozen_of_obj hbo_34
                    obtain ⟨cz_0, cz_1, cz_2, cz_3⟩ := v_cells (v := intV n) hbz_34
                    dsimp only [intV] at cz_0 cz_1 cz_2 cz_3
                    have zz := frozen_of_obj hbz_34
                    go_upto_region 26 with fail
                    have la := obj_lt hba_34
                    have lb := obj_lt hbb_34
                    have lo := obj_lt hbo_34
                    have lz := obj_lt hbz_34
                    have hl := hfw_34.size
                    have po0 := o0.out
                    have po1 := o1.out
                    have po2 := o2.out
                    have po3 := o3.out
                    have po4 := o4.out
                    have po5 := o5.out
                    have po6 := o6.out
                    have po7 := o7.out
                    have po8 := o8.out
                    have po9 := o9.out
                    have po10 := o10.out
                    have po11 := o11.out
                    refine wp_world (fun W => Fr noB w W ∧ W.heap[w2.heap.size]? = some (.cells #[.int .u8 1, .int .i64 n, .int .i64 0, .string ⟨#[]⟩] 23 (0, 0)) ∧ W.heap[w2.heap.size + 1]? = some (.cells #[.int .u8 1, .int .i64 m, .int .i64 0, .string ⟨#[]⟩] 23 (0, 0)) ∧ W.heap[qo]? = some (.cells #[.int .u8 1, .int .i64 n, .int .i64 0, .string ⟨#[]⟩] 23 (0, 0)) ∧ W.heap[qz]? = some (.cells #[.int .u8 1, .int .i64 n, .int .i64 0, .string ⟨#[]⟩] 23 (0, 0))) ⟨?_, ?_, ?_, ?_, ?_⟩ ?_
                    · skip
                      repeat (first | with_reducible exact hfw_34 | with_reducible refine Fr.alloc ?_ _ | (with_reducible refine Fr.setCell ?_ ?_ _; rotate_left; (intro h; dsimp only at h; omega)) | with_reducible refine Fr.drew ?_ | exact hfw_34)
                    · skip
                      repeat (first | with_reducible exact hba_34 | (with_reducible refine obj_alloc_at ?_; simp; done) | (with_reducible apply obj_put4; omega) | (with_reducible apply obj_put1; omega) | (with_reducible refine obj_setCell_other ?_ _ _ ?_; rotate_left; (dsimp only; omega)) | with_reducible refine obj_alloc ?_ _ | with_reducible refine obj_drew ?_ | exact hba_34)
                    · skip
                      repeat (first | with_reducible exact hbb_34 | (with_reducible refine obj_alloc_at ?_; simp; done) | (with_reducible apply obj_put4; omega) | (with_reducible apply obj_put1; omega) | (with_reducible refine obj_setCell_other ?_ _ _ ?_; rotate_left; (dsimp only; omega)) | with_reducible refine obj_alloc ?_ _ | with_reducible refine obj_drew ?_ | exact hbb_34)
                    · skip
                      repeat (first | with_reducible exact hbo_34 | (with_reducible refine obj_alloc_at ?_; simp; done) | (with_reducible apply obj_put4; omega) | (with_reducible apply obj_put1; omega) | (with_reducible refine obj_setCell_other ?_ _ _ ?_; rotate_left; (dsimp only; omega)) | with_reducible refine obj_alloc ?_ _ | with_reducible refine obj_drew ?_ | exact hbo_34)
                    · skip
                      repeat (first | with_reducible exact hbz_34 | (with_reducible refine obj_alloc_at ?_; simp; done) | (with_reducible apply obj_put4; omega) | (with_reducible apply obj_put1; omega) | (with_reducible refine obj_setCell_other ?_ _ _ ?_; rotate_left; (dsimp only; omega)) | with_reducible refine obj_alloc ?_ _ | with_reducible refine obj_drew ?_ | exact hbz_34)
                    clear hba_34 hbb_34 hbo_34 hbz_34 la lb lo lz hl po0 po1 po2 po3 po4 po5 po6 po7 po8 po9 po10 po11 ca_0 ca_1 ca_2 ca_3 za cb_0 cb_1 cb_2 cb_3 zb co_0 co_1 co_2 co_3 zo cz_0 cz_1 cz_2 cz_3 zz hfw_34
                    rintro w35 ⟨hfw_35, hba_35, hbb_35, hbo_35, hbz_35⟩
                    obtain ⟨ca_0, ca_1, ca_2, ca_3⟩ := v_cells (v := intV n) hba_35
                    dsimp only [intV] at ca_0 ca_1 ca_2 ca_3
                    have za := frozen_of_obj hba_35
                    obtain ⟨cb_0, cb_1, cb_2, cb_3⟩ := v_cells (v := intV m) hbb_35
                    dsimp only [intV] at cb_0 cb_1 cb_2 cb_3
                    have zb := frozen_of_obj hbb_35
                    obtain ⟨co_0, co_1, co_2, co_3⟩ := v_cells (v := intV n) hbo_35
                    dsimp only [intV] at co_0 co_1 co_2 co_3
                    have zo := frozen_of_obj hbo_35
                    obtain ⟨cz_0, cz_1, cz_2, cz_3⟩ := v_cells (v := intV n) hbz_35
                    dsimp only [intV] at cz_0 cz_1 cz_2 cz_3
                    have zz := frozen_of_obj hbz_35
                    have q1 := HE1.out
                    have q2 := HF4.out
                    have q3 := HF6.out
                    cases hk4 : g
                    · rw [hk4] at q2 q3
                      go_wp2_with fail
                      have la := obj_lt hba_35
                      have lb := obj_lt hbb_35
                      have lo := obj_lt hbo_35
                      have lz := obj_lt hbz_35
                      have hl := hfw_35.size
                      have po0 := o0.out
                      have po1 := o1.out
                      have po2 := o2.out
                      have po3 := o3.out
                      have po4 := o4.out
                      have po5 := o5.out
                      have po6 := o6.out
                      have po7 := o7.out
                      have po8 := o8.out
                      have po9 := o9.out
                      have po10 := o10.out
                      have po11 := o11.out
                      go_ret
                      refine ⟨?_, ?_⟩
                      · rfl
                      · skip
                        repeat (first | with_reducible exact hfw_35 | with_reducible refine Fr.alloc ?_ _ | (with_reducible refine Fr.setCell ?_ ?_ _; rotate_left; (intro h; dsimp only at h; omega)) | with_reducible refine Fr.drew ?_ | exact hfw_35)
                    · rw [hk4] at q2 q3
                      go_wp2_with fail
                      have la := obj_lt hba_35
                      have lb := obj_lt hbb_35
                      have lo := obj_lt hbo_35
                      have lz := obj_lt hbz_35
                      have hl := hfw_35.size
                      have po0 := o0.out
                      have po1 := o1.out
                      have po2 := o2.out
                      have po3 := o3.out
                      have po4 := o4.out
                      have po5 := o5.out
                      have po6 := o6.out
                      have po7 := o7.out
                      have po8 := o8.out
                      have po9 := o9.out
                      have po10 := o10.out
                      have po11 := o11.out
                      go_ret
                      refine ⟨?_, ?_⟩
                      · rfl
                      · skip
                        repeat (first | with_reducible exact hfw_35 | with_reducible refine Fr.alloc ?_ _ | (with_reducible refine Fr.setCell ?_ ?_ _; rotate_left; (intro h; dsimp only at h; omega)) | with_reducible refine Fr.drew ?_ | exact hfw_35)
            · go_wp2_with fail
              refine (HADD3.out hcg _).mono ?_
              rintro e w29 ⟨rfl, hf29⟩
              have la := obj_lt hba_28
              have lb := obj_lt hbb_28
              have ll := obj_lt hbl_28
              have lm := obj_lt hbm_28
              have lv := obj_lt hbv_28
              have hl := hfw_28.size
              have po0 := o0.out
              have po1 := o1.out
              have po2 := o2.out
              have po3 := o3.out
              have po4 := o4.out
              have po5 := o5.out
              have po6 := o6.out
              have po7 := o7.out
              have hba_29 : w29.heap[w2.heap.size]? = some (.cells #[.int .u8 1, .int .i64 n, .int .i64 0, .string ⟨#[]⟩] 23 (0, 0)) := by
                refine hf29.obj (fun x => x) ?_
                repeat (first | with_reducible exact hba_28 | (with_reducible refine obj_alloc_at ?_; simp; done) | (with_reducible apply obj_put4; omega) | (with_reducible apply obj_put1; omega) | (with_reducible refine obj_setCell_other ?_ _ _ ?_; rotate_left; (dsimp only; omega)) | with_reducible refine obj_alloc ?_ _ | with_reducible refine obj_drew ?_ | exact hba_28)
              have hbb_29 : w29.heap[w2.heap.size + 1]? = some (.cells #[.int .u8 1, .int .i64 m, .int .i64 0, .string ⟨#[]⟩] 23 (0, 0)) := by
                refine hf29.obj (fun x => x) ?_
                repeat (first | with_reducible exact hbb_28 | (with_reducible refine obj_alloc_at ?_; simp; done) | (with_reducible apply obj_put4; omega) | (with_reducible apply obj_put1; omega) | (with_reducible refine obj_setCell_other ?_ _ _ ?_; rotate_left; (dsimp only; omega)) | with_reducible refine obj_alloc ?_ _ | with_reducible refine obj_drew ?_ | exact hbb_28)
              have hbl_29 : w29.heap[w22.heap.size]? = some (.cells #[.int .u8 L1.k, .int .i64 L1.n, .int .i64 L1.hi, .string L1.t] 23 (0, 0)) := by
                refine hf29.obj (fun x => x) ?_
                repeat (first | with_reducible exact hbl_28 | (with_reducible refine obj_alloc_at ?_; simp; done) | (with_reducible apply obj_put4; omega) | (with_reducible apply obj_put1; omega) | (with_reducible refine obj_setCell_other ?_ _ _ ?_; rotate_left; (dsimp only; omega)) | with_reducible refine obj_alloc ?_ _ | with_reducible refine obj_drew ?_ | exact hbl_28)
              have hbm_29 : w29.heap[w24.heap.size]? = some (.cells #[.int .u8 M1.k, .int .i64 M1.n, .int .i64 M1.hi, .string M1.t] 23 (0, 0)) := by
                refine hf29.obj (fun x => x) ?_
                repeat (first | with_reducible exact hbm_28 | (with_reducible refine obj_alloc_at ?_; simp; done) | (with_reducible apply obj_put4; omega) | (with_reducible apply obj_put1; omega) | (with_reducible refine obj_setCell_other ?_ _ _ ?_; rotate_left; (dsimp only; omega)) | with_reducible refine obj_alloc ?_ _ | with_reducible refine obj_drew ?_ | exact hbm_28)
              have hbv_29 : w29.heap[w26.heap.size]? = some (.cells #[.int .u8 NV.k, .int .i64 NV.n, .int .i64 NV.hi, .string NV.t] 23 (0, 0)) := by
                refine hf29.obj (fun x => x) ?_
                repeat (first | with_reducible exact hbv_28 | (with_reducible refine obj_alloc_at ?_; simp; done) | (with_reducible apply obj_put4; omega) | (with_reducible apply obj_put1; omega) | (with_reducible refine obj_setCell_other ?_ _ _ ?_; rotate_left; (dsimp only; omega)) | with_reducible refine obj_alloc ?_ _ | with_reducible refine obj_drew ?_ | exact hbv_28)
              have hfw_29 : Fr noB w w29 := by
                refine Fr.transN ?_ hf29
                repeat (first | with_reducible exact hfw_28 | with_reducible refine Fr.alloc ?_ _ | (with_reducible refine Fr.setCell ?_ ?_ _; rotate_left; (intro h; dsimp only at h; omega)) | with_reducible refine Fr.drew ?_ | exact hfw_28)
              clear hba_28 hbb_28 hbl_28 hbm_28 hbv_28 la lb ll lm lv hl po0 po1 po2 po3 po4 po5 po6 po7 ca_0 ca_1 ca_2 ca_3 za cb_0 cb_1 cb_2 cb_3 zb cl_0 cl_1 cl_2 cl_3 zl cm_0 cm_1 cm_2 cm_3 zm cv_0 cv_1 cv_2 cv_3 zv hf29 hfw_28
              obtain ⟨ca_0, ca_1, ca_2, ca_3⟩ := v_cells (v := intV n) hba_29
              dsimp only [intV] at ca_0 ca_1 ca_2 ca_3
              have za := frozen_of_obj hba_29
              obtain ⟨cb_0, cb_1, cb_2, cb_3⟩ := v_cells (v := intV m) hbb_29
              dsimp only [intV] at cb_0 cb_1 cb_2 cb_3
              have zb := frozen_of_obj hbb_29
              obtain ⟨cl_0, cl_1, cl_2, cl_3⟩ := v_cells (v := L1) hbl_29
              have zl := frozen_of_obj hbl_29
              obtain ⟨cm_0, cm_1, cm_2, cm_3⟩ := v_cells (v := M1) hbm_29
              have zm := frozen_of_obj hbm_29
              obtain ⟨cv_0, cv_1, cv_2, cv_3⟩ := v_cells (v := NV) hbv_29
              have zv := frozen_of_obj hbv_29
              go_upto_region 20 with fail
              have o8 := Lib.hid (obj_lt hbv_29)
              have la := obj_lt hba_29
              have lb := obj_lt hbb_29
              have ll := obj_lt hbl_29
              have lm := obj_lt hbm_29
              have lv := obj_lt hbv_29
              have hl := hfw_29.size
              have po0 := o0.out
              have po1 := o1.out
              have po2 := o2.out
              have po3 := o3.out
              have po4 := o4.out
              have po5 := o5.out
              have po6 := o6.out
              have po7 := o7.out
              have po8 := o8.out
              refine wp_world (fun W => Fr noB w W ∧ W.heap[w2.heap.size]? = some (.cells #[.int .u8 1, .int .i64 n, .int .i64 0, .string ⟨#[]⟩] 23 (0, 0)) ∧ W.heap[w2.heap.size + 1]? = some (.cells #[.int .u8 1, .int .i64 m, .int .i64 0, .string ⟨#[]⟩] 23 (0, 0)) ∧ W.heap[w22.heap.size]? = some (.cells #[.int .u8 L1.k, .int .i64 L1.n, .int .i64 L1.hi, .string L1.t] 23 (0, 0)) ∧ W.heap[w24.heap.size]? = some (.cells #[.int .u8 M1.k, .int .i64 M1.n, .int .i64 M1.hi, .string M1.t] 23 (0, 0)) ∧ W.heap[w26.heap.size]? = some (.cells #[.int .u8 NV.k, .int .i64 NV.n, .int .i64 NV.hi, .string NV.t] 23 (0, 0)) ∧ W.heap[w29.heap.size]? = some (.cells #[.int .u8 L1.k, .int .i64 L1.n, .int .i64 L1.hi, .string L1.t] 23 (0, 0))) ⟨?_, ?_, ?_, ?_, ?_, ?_, ?_⟩ ?_
              · skip
                repeat (first | with_reducible exact hfw_29 | with_reducible refine Fr.alloc ?_ _ | (with_reducible refine Fr.setCell ?_ ?_ _; rotate_left; (intro h; dsimp only at h; omega)) | with_reducible refine Fr.drew ?_ | exact hfw_29)
              · skip
                repeat (first | with_reducible exact hba_29 | (with_reducible refine obj_alloc_at ?_; simp; done) | (with_reducible apply obj_put4; omega) | (with_reducible apply obj_put1; omega) | (with_reducible refine obj_setCell_other ?_ _ _ ?_; rotate_left; (dsimp only; omega)) | with_reducible refine obj_alloc ?_ _ | with_reducible refine obj_drew ?_ | exact hba_29)
              · skip
                repeat (first | with_reducible exact hbb_29 | (with_reducible refine obj_alloc_at ?_; simp; done) | (with_reducible apply obj_put4; omega) | (with_reducible apply obj_put1; omega) | (with_reducible refine obj_setCell_other ?_ _ _ ?_; rotate_left; (dsimp only; omega)) | with_reducible refine obj_alloc ?_ _ | with_reducible refine obj_drew ?_ | exact hbb_29)
              · skip
                repeat (first | with_reducible exact hbl_29 | (with_reducible refine obj_alloc_at ?_; simp; done) | (with_reducible apply obj_put4; omega) | (with_reducible apply obj_put1; omega) | (with_reducible refine obj_setCell_other ?_ _ _ ?_; rotate_left; (dsimp only; omega)) | with_reducible refine obj_alloc ?_ _ | with_reducible refine obj_drew ?_ | exact hbl_29)
              · skip
                repeat (first | with_reducible exact hbm_29 | (with_reducible refine obj_alloc_at ?_; simp; done) | (with_reducible apply obj_put4; omega) | (with_reducible apply obj_put1; omega) | (with_reducible refine obj_setCell_other ?_ _ _ ?_; rotate_left; (dsimp only; omega)) | with_reducible refine obj_alloc ?_ _ | with_reducible refine obj_drew ?_ | exact hbm_29)
              · skip
                repeat (first | with_reducible exact hbv_29 | (with_reducible refine obj_alloc_at ?_; simp; done) | (with_reducible apply obj_put4; omega) | (with_reducible apply obj_put1; omega) | (with_reducible refine obj_setCell_other ?_ _ _ ?_; rotate_left; (dsimp only; omega)) | with_reducible refine obj_alloc ?_ _ | with_reducible refine obj_drew ?_ | exact hbv_29)
              · skip
                repeat (first | (with_reducible refine obj_alloc_at ?_; simp; done) | (with_reducible apply obj_put4; omega) | (with_reducible apply obj_put1; omega) | (with_reducible refine obj_setCell_other ?_ _ _ ?_; rotate_left; (dsimp only; omega)) | with_reducible refine obj_alloc ?_ _ | with_reducible refine obj_drew ?_)
              clear hba_29 hbb_29 hbl_29 hbm_29 hbv_29 la lb ll lm lv hl po0 po1 po2 po3 po4 po5 po6 po7 po8 ca_0 ca_1 ca_2 ca_3 za cb_0 cb_1 cb_2 cb_3 zb cl_0 cl_1 cl_2 cl_3 zl cm_0 cm_1 cm_2 cm_3 zm cv_0 cv_1 cv_2 cv_3 zv hfw_29
              rintro w30 ⟨hfw_30, hba_30, hbb_30, hbl_30, hbm_30, hbv_30, hbx_30⟩
              obtain ⟨ca_0, ca_1, ca_2, ca_3⟩ := v_cells (v := intV n) hba_30
              dsimp only [intV] at ca_0 ca_1 ca_2 ca_3
              have za := frozen_of_obj hba_30
              obtain ⟨cb_0, cb_1, cb_2, cb_3⟩ := v_cells (v := intV m) hbb_30
              dsimp only [intV] at cb_0 cb_1 cb_2 cb_3
              have zb := frozen_of_obj hbb_30
              obtain ⟨cl_0, cl_1, cl_2, cl_3⟩ := v_cells (v := L1) hbl_30
              have zl := frozen_of_obj hbl_30
              obtain ⟨cm_0, cm_1, cm_2, cm_3⟩ := v_cells (v := M1) hbm_30
              have zm := frozen_of_obj hbm_30
              obtain ⟨cv_0, cv_1, cv_2, cv_3⟩ := v_cells (v := NV) hbv_30
              have zv := frozen_of_obj hbv_30
              obtain ⟨cx_0, cx_1, cx_2, cx_3⟩ := v_cells (v := L1) hbx_30
              have zx := frozen_of_obj hbx_30
              have q := HQ3.out
              go_upto_region 22 with fail
              have la := obj_lt hba_30
              have lb := obj_lt hbb_30
              have ll := obj_lt hbl_30
              have lm := obj_lt hbm_30
              have lv := obj_lt hbv_30
              have lx := obj_lt hbx_30
              have hl := hfw_30.size
              have po0 := o0.out
              have po1 := o1.out
              have po2 := o2.out
              have po3 := o3.out
              have po4 := o4.out
              have po5 := o5.out
              have po6 := o6.out
              have po7 := o7.out
              have po8 := o8.out
              refine wp_world (fun W => Fr noB w W ∧ W.heap[w2.heap.size]? = some (.cells #[.int .u8 1, .int .i64 n, .int .i64 0, .string ⟨#[]⟩] 23 (0, 0)) ∧ W.heap[w2.heap.size + 1]? = some (.cells #[.int .u8 1, .int .i64 m, .int .i64 0, .string ⟨#[]⟩] 23 (0, 0)) ∧ W.heap[w22.heap.size]? = some (.cells #[.int .u8 L1.k, .int .i64 L1.n, .int .i64 L1.hi, .string L1.t] 23 (0, 0)) ∧ W.heap[w24.heap.size]? = some (.cells #[.int .u8 M1.k, .int .i64 M1.n, .int .i64 M1.hi, .string M1.t] 23 (0, 0))) ⟨?_, ?_, ?_, ?_, ?_⟩ ?_
              · skip
                repeat (first | with_reducible exact hfw_30 | with_reducible refine Fr.alloc ?_ _ | (with_reducible refine Fr.setCell ?_ ?_ _; rotate_left; (intro h; dsimp only at h; omega)) | with_reducible refine Fr.drew ?_ | exact hfw_30)
              · skip
                repeat (first | with_reducible exact hba_30 | (with_reducible refine obj_alloc_at ?_; simp; done) | (with_reducible apply obj_put4; omega) | (with_reducible apply obj_put1; omega) | (with_reducible refine obj_setCell_other ?_ _ _ ?_; rotate_left; (dsimp only; omega)) | with_reducible refine obj_alloc ?_ _ | with_reducible refine obj_drew ?_ | exact hba_30)
              · skip
                repeat (first | with_reducible exact hbb_30 | (with_reducible refine obj_alloc_at ?_; simp; done) | (with_reducible apply obj_put4; omega) | (with_reducible apply obj_put1; omega) | (with_reducible refine obj_setCell_other ?_ _ _ ?_; rotate_left; (dsimp only; omega)) | with_reducible refine obj_alloc ?_ _ | with_reducible refine obj_drew ?_ | exact hbb_30)
              · skip
                repeat (first | with_reducible exact hbl_30 | (with_reducible refine obj_alloc_at ?_; simp; done) | (with_reducible apply obj_put4; omega) | (with_reducible apply obj_put1; omega) | (with_reducible refine obj_setCell_other ?_ _ _ ?_; rotate_left; (dsimp only; omega)) | with_reducible refine obj_alloc ?_ _ | with_reducible refine obj_drew ?_ | exact hbl_30)
              · skip
                repeat (first | with_reducible exact hbm_30 | (with_reducible refine obj_alloc_at ?_; simp; done) | (with_reducible apply obj_put4; omega) | (with_reducible apply obj_put1; omega) | (with_reducible refine obj_setCell_other ?_ _ _ ?_; rotate_left; (dsimp only; omega)) | with_reducible refine obj_alloc ?_ _ | with_reducible refine obj_drew ?_ | exact hbm_30)
              clear hba_30 hbb_30 hbl_30 hbm_30 hbv_30 hbx_30 la lb ll lm lv lx hl po0 po1 po2 po3 po4 po5 po6 po7 po8 ca_0 ca_1 ca_2 ca_3 za cb_0 cb_1 cb_2 cb_3 zb cl_0 cl_1 cl_2 cl_3 zl cm_0 cm_1 cm_2 cm_3 zm cv_0 cv_1 cv_2 cv_3 zv cx_0 cx_1 cx_2 cx_3 zx q hfw_30
              rintro w31 ⟨hfw_31, hba_31, hbb_31, hbl_31, hbm_31⟩
              obtain ⟨ca_0, ca_1, ca_2, ca_3⟩ := v_cells (v := intV n) hba_31
              dsimp only [intV] at ca_0 ca_1 ca_2 ca_3
              have za := frozen_of_obj hba_31
              obtain ⟨cb_0, cb_1, cb_2, cb_3⟩ := v_cells (v := intV m) hbb_31
              dsimp only [intV] at cb_0 cb_1 cb_2 cb_3
              have zb := frozen_of_obj hbb_31
              obtain ⟨cl_0, cl_1, cl_2, cl_3⟩ := v_cells (v := L1) hbl_31
              have zl := frozen_of_obj hbl_31
              obtain ⟨cm_0, cm_1, cm_2, cm_3⟩ := v_cells (v := M1) hbm_31
              have zm := frozen_of_obj hbm_31
              go_cut [185, 8, 10] (fun s185 s8 s10 wx => s185 = .bool false ∧ s8 = .bool c ∧ s10 = .bool d ∧ Fr noB w31 wx)
              case first => as_aux_lemma =>
                cases hk3 : c
                · go_wp2_with fail
                  go_meet
                  case rel => first | exact ⟨(by rfl), by first | rfl | (rw [hk3]; rfl) | rw [hk3], by first | rfl | (rw [hk4]; rfl) | rw [hk4], Fr.refl _ _⟩ | exact ⟨rfl, by first | rfl | (rw [hk3]; rfl) | rw [hk3], by first | rfl | (rw [hk4]; rfl) | rw [hk4], hG0⟩
                · cases hk4 : d
                  · go_wp2_with fail
                    go_meet
                    case rel => first | exact ⟨(by rfl), by first | rfl | (rw [hk3]; rfl) | rw [hk3], by first | rfl | (rw [hk4]; rfl) | rw [hk4], Fr.refl _ _⟩ | exact ⟨rfl, by first | rfl | (rw [hk3]; rfl) | rw [hk3], by first | rfl | (rw [hk4]; rfl) | rw [hk4], hG0⟩
                  · obtain ⟨f1, f2, f3⟩ := HF5.out hk3 hk4
                    have f4 : wrap64 (-M1.n) = L1.n := by rw [← f1]; exact wrap_ok (by rw [f1, f2, show -(m - n) = n - m by omega]; exact f3)
                    have f5 : (L1.n != wrap64 (-M1.n)) = false := by rw [f4]; simp
                    clear f1 f2 f3 f4
                    go_wp2_with fail
                    go_meet
                    case rel => first | exact ⟨(by rfl), by first | rfl | (rw [hk3]; rfl) | rw [hk3], by first | rfl | (rw [hk4]; rfl) | rw [hk4], Fr.refl _ _⟩ | exact ⟨rfl, by first | rfl | (rw [hk3]; rfl) | rw [hk3], by first | rfl | (rw [hk4]; rfl) | rw [hk4], hG0⟩
              case rest =>
                obtain ⟨rfl, rfl, rfl, hf32⟩ := hcut
                obtain ⟨w32, rfl⟩ : ∃ x, x = wc := ⟨_, rfl⟩
                have hba_32 := hf32.obj (fun x => x) hba_31
                have hbb_32 := hf32.obj (fun x => x) hbb_31
                have hbl_32 := hf32.obj (fun x => x) hbl_31
                have hbm_32 := hf32.obj (fun x => x) hbm_31
                have hfw_32 := hfw_31.transN hf32
                clear hba_31 hbb_31 hbl_31 hbm_31 ca_0 ca_1 ca_2 ca_3 za cb_0 cb_1 cb_2 cb_3 zb cl_0 cl_1 cl_2 cl_3 zl cm_0 cm_1 cm_2 cm_3 zm hf32 hfw_31
                obtain ⟨ca_0, ca_1, ca_2, ca_3⟩ := v_cells (v := intV n) hba_32
                dsimp only [intV] at ca_0 ca_1 ca_2 ca_3
                have za := frozen_of_obj hba_32
                obtain ⟨cb_0, cb_1, cb_2, cb_3⟩ := v_cells (v := intV m) hbb_32
                dsimp only [intV] at cb_0 cb_1 cb_2 cb_3
                have zb := frozen_of_obj hbb_32
                obtain ⟨cl_0, cl_1, cl_2, cl_3⟩ := v_cells (v := L1) hbl_32
                have zl := frozen_of_obj hbl_32
                obtain ⟨cm_0, cm_1, cm_2, cm_3⟩ := v_cells (v := M1) hbm_32
                have zm := frozen_of_obj hbm_32
                go_upto_region 24 with fail
                have la := obj_lt hba_32
                have lb := obj_lt hbb_32
                have ll := obj_lt hbl_32
                have lm := obj_lt hbm_32
                have hl := hfw_32.size
                have po0 := o0.out
                have po1 := o1.out
                have po2 := o2.out
                have po3 := o3.out
                have po4 := o4.out
                have po5 := o5.out
                have po6 := o6.out
                have po7 := o7.out
                have po8 := o8.out
                refine wp_world (fun W => Fr noB w W ∧ W.heap[w2.heap.size]? = some (.cells #[.int .u8 1, .int .i64 n, .int .i64 0, .string ⟨#[]⟩] 23 (0, 0)) ∧ W.heap[w2.heap.size + 1]? = some (.cells #[.int .u8 1, .int .i64 m, .int .i64 0, .string ⟨#[]⟩] 23 (0, 0))) ⟨?_, ?_, ?_⟩ ?_
                · skip
                  repeat (first | with_reducible exact hfw_32 | with_reducible refine Fr.alloc ?_ _ | (with_reducible refine Fr.setCell ?_ ?_ _; rotate_left; (intro h; dsimp only at h; omega)) | with_reducible refine Fr.drew ?_ | exact hfw_32)
                · skip
                  repeat (first | with_reducible exact hba_32 | (with_reducible refine obj_alloc_at ?_; simp; done) | (with_reducible apply obj_put4; omega) | (with_reducible apply obj_put1; omega) | (with_reducible refine obj_setCell_other ?_ _ _ ?_; rotate_left; (dsimp only; omega)) | with_reducible refine obj_alloc ?_ _ | with_reducible refine obj_drew ?_ | exact hba_32)
                · skip
                  repeat (first | with_reducible exact hbb_32 | (with_reducible refine obj_alloc_at ?_; simp; done) | (with_reducible apply obj_put4; omega) | (with_reducible apply obj_put1; omega) | (with_reducible refine obj_setCell_other ?_ _ _ ?_; rotate_left; (dsimp only; omega)) | with_reducible refine obj_alloc ?_ _ | with_reducible refine obj_drew ?_ | exact hbb_32)
                clear hba_32 hbb_32 hbl_32 hbm_32 la lb ll lm hl po0 po1 po2 po3 po4 po5 po6 po7 po8 ca_0 ca_1 ca_2 ca_3 za cb_0 cb_1 cb_2 cb_3 zb cl_0 cl_1 cl_2 cl_3 zl cm_0 cm_1 cm_2 cm_3 zm hfw_32
                rintro w33 ⟨hfw_33, hba_33, hbb_33⟩
                obtain ⟨ca_0, ca_1, ca_2, ca_3⟩ := v_cells (v := intV n) hba_33
                dsimp only [intV] at ca_0 ca_1 ca_2 ca_3
                have za := frozen_of_obj hba_33
                obtain ⟨cb_0, cb_1, cb_2, cb_3⟩ := v_cells (v := intV m) hbb_33
                dsimp only [intV] at cb_0 cb_1 cb_2 cb_3
                have zb := frozen_of_obj hbb_33
                go_cut [21, 12] (fun s21 s12 wx => ∃ qo : Nat, s21 = .pointer (some ⟨qo, 0, none⟩) ∧ s12 = .bool true ∧ Fr noB w33 wx ∧ w33.heap.size ≤ qo ∧ wx.heap[qo]? = some (.cells #[.int .u8 1, .int .i64 n, .int .i64 0, .string ⟨#[]⟩] 23 (0, 0)))
                case first => as_aux_lemma =>
                  have hqa := obj_drew hba_33
                  have fz : ∀ (X : World) (o : Nat), (X.alloc (.cells #[.int .u8 0, .int .i64 0, .int .i64 0, .string ⟨#[]⟩] 23 (0, 0))).frozen? ⟨X.heap.size, o, none⟩ = false := fun X o => frozen_of_obj (obj_alloc_new X _) o
                  have fc : ∀ X : World, (X.alloc (.cells #[.int .u8 0, .int .i64 0, .int .i64 0, .string ⟨#[]⟩] 23 (0, 0))).cell? ⟨X.heap.size, 0, none⟩ = some (.int .u8 0) ∧ (X.alloc (.cells #[.int .u8 0, .int .i64 0, .int .i64 0, .string ⟨#[]⟩] 23 (0, 0))).cell? ⟨X.heap.size, 1, none⟩ = some (.int .i64 0) ∧ (X.alloc (.cells #[.int .u8 0, .int .i64 0, .int .i64 0, .string ⟨#[]⟩] 23 (0, 0))).cell? ⟨X.heap.size, 2, none⟩ = some (.int .i64 0) ∧ (X.alloc (.cells #[.int .u8 0, .int .i64 0, .int .i64 0, .string ⟨#[]⟩] 23 (0, 0))).cell? ⟨X.heap.size, 3, none⟩ = some (.string ⟨#[]⟩) := fun X => v_cells (v := zV) (obj_alloc_new X _)
                  have la := obj_lt hba_33
                  have hdq : w33.drew.heap.size = w33.heap.size := rfl
                  have hva : ∀ X : World, X.heap[w2.heap.size]? = some (.cells #[.int .u8 1, .int .i64 n, .int .i64 0, .string ⟨#[]⟩] 23 (0, 0)) → X.cell? ⟨w2.heap.size, 0, none⟩ = some (.int .u8 1) ∧ X.cell? ⟨w2.heap.size, 1, none⟩ = some (.int .i64 n) ∧ X.cell? ⟨w2.heap.size, 2, none⟩ = some (.int .i64 0) ∧ X.cell? ⟨w2.heap.size, 3, none⟩ = some (.string ⟨#[]⟩) := fun X h => v_cells (v := intV n) h
                  go_region_held3 (fun X : World => X.cell? ⟨w2.heap.size, 0, none⟩ = some (.int .u8 1) ∧ X.cell? ⟨w2.heap.size, 1, none⟩ = some (.int .i64 n) ∧ X.cell? ⟨w2.heap.size, 2, none⟩ = some (.int .i64 0) ∧ X.cell? ⟨w2.heap.size, 3, none⟩ = some (.string ⟨#[]⟩)) ((refine (hva _ ?_) <;> repeat (first | with_reducible exact hqa | with_reducible exact hba_33 | with_reducible refine obj_alloc ?_ _ | (with_reducible refine obj_setCell_other ?_ _ _ ?_; rotate_left; (dsimp only; omega)) | with_reducible refine obj_drew ?_))) (first | (go_at_call 19; refine ((HI 1).out _).mono ?_; rintro e x0 ⟨rfl, hG0⟩; have k0 := hG0.size; refine have_of (p := x0.heap[w2.heap.size]? = some (.cells #[.int .u8 1, .int .i64 n, .int .i64 0, .string ⟨#[]⟩] 23 (0, 0))) ?_ (fun hqa => ?_); (focus (refine hG0.obj (noB_not _) ?_; repeat (first | with_reducible exact hqa | with_reducible exact hba_33 | with_reducible refine obj_alloc ?_ _ | with_reducible refine obj_drew ?_))); (first | (have hnn := hG0.obj (fun x => x) hnn) | (with_reducible have hnn := hG0.obj (noB_not _) (obj_alloc_new _ _)) | (with_reducible have hnn := hG0.obj (noB_not _) (obj_drew (obj_alloc_new _ _))) | skip); (first | (have znn := frozen_of_obj hnn; obtain ⟨n0, n1, n2, n3⟩ := v_cells (v := zV) hnn) | skip)) | (go_at_call 20; refine (HMUL4.out _).mono ?_; rintro e x1 ⟨rfl, hG1⟩; have k1 := hG1.size; refine have_of (p := x1.heap[w2.heap.size]? = some (.cells #[.int .u8 1, .int .i64 n, .int .i64 0, .string ⟨#[]⟩] 23 (0, 0))) ?_ (fun hqa => ?_); (focus (refine hG1.obj (noB_not _) ?_; repeat (first | with_reducible exact hqa | with_reducible exact hba_33 | with_reducible refine obj_alloc ?_ _ | with_reducible refine obj_drew ?_))); (first | (have hnn := hG1.obj (fun x => x) hnn) | (with_reducible have hnn := hG1.obj (noB_not _) (obj_alloc_new _ _)) | (with_reducible have hnn := hG1.obj (noB_not _) (obj_drew (obj_alloc_new _ _))) | skip); (first | (have znn := frozen_of_obj hnn; obtain ⟨n0, n1, n2, n3⟩ := v_cells (v := zV) hnn) | skip)))
                  all_goals (go_wp2_with fail; go_meet)
                  all_goals (have hfr0 := Fr.refl noB w33; refine ⟨_, rfl, rfl, ?_, ?_, ?_⟩)
                  all_goals (first | ((repeat (first | with_reducible exact hfr0 | with_reducible refine Fr.transN ?_ hG1 | with_reducible refine Fr.transN ?_ hG0 | with_reducible refine Fr.alloc ?_ _ | (with_reducible refine Fr.setCell ?_ ?_ _; rotate_left; (intro h; dsimp only at h; omega)) | with_reducible refine Fr.drew ?_ | exact hfr0)); done) | ((try simp only [World.size_alloc] at k0); (try simp only [World.size_alloc] at k1); omega) | ((repeat (first | with_reducible exact hnn | (with_reducible refine obj_alloc_at ?_; simp; done) | (with_reducible apply obj_put4; omega) | (with_reducible refine obj_setCell_other ?_ _ _ ?_; rotate_left; (dsimp only; omega)) | with_reducible refine obj_alloc ?_ _ | with_reducible refine obj_drew ?_)); done))
                case rest =>
                  obtain ⟨qo, rfl, rfl, hf34, hgo, hbo_34⟩ := hcut
                  obtain ⟨w34, rfl⟩ : ∃ x, x = wc := ⟨_, rfl⟩
                  have o9 := Lib.hid (obj_lt hbb_33)
                  have o10 := Lib.hid hgo
                  have hba_34 := hf34.obj (fun x => x) hba_33
                  have hbb_34 := hf34.obj (fun x => x) hbb_33
                  have hfw_34 := hfw_33.transN hf34
                  clear hba_33 hbb_33 ca_0 ca_1 ca_2 ca_3 za cb_0 cb_1 cb_2 cb_3 zb hf34 hfw_33 hgo
                  obtain ⟨ca_0, ca_1, ca_2, ca_3⟩ := v_cells (v := intV n) hba_34
                  dsimp only [intV] at ca_0 ca_1 ca_2 ca_3
                  have za := frozen_of_obj hba_34
                  obtain ⟨cb_0, cb_1, cb_2, cb_3⟩ := v_cells (v := intV m) hbb_34
                  dsimp only [intV] at cb_0 cb_1 cb_2 cb_3
                  have zb := frozen_of_obj hbb_34
                  obtain ⟨co_0, co_1, co_2, co_3⟩ := v_cells (v := intV n) hbo_34
                  dsimp only [intV] at co_0 co_1 co_2 co_3
                  have zo := frozen_of_obj hbo_34
                  go_upto_region 25 with fail
                  have la := obj_lt hba_34
                  have lb := obj_lt hbb_34
                  have lo := obj_lt hbo_34
                  have hl := hfw_34.size
                  have po0 := o0.out
                  have po1 := o1.out
                  have po2 := o2.out
                  have po3 := o3.out
                  have po4 := o4.out
                  have po5 := o5.out
                  have po6 := o6.out
                  have po7 := o7.out
                  have po8 := o8.out
                  have po9 := o9.out
                  have po10 := o10.out
                  refine wp_world (fun W => Fr noB w W ∧ W.heap[w2.heap.size]? = some (.cells #[.int .u8 1, .int .i64 n, .int .i64 0, .string ⟨#[]⟩] 23 (0, 0)) ∧ W.heap[w2.heap.size + 1]? = some (.cells #[.int .u8 1, .int .i64 m, .int .i64 0, .string ⟨#[]⟩] 23 (0, 0)) ∧ W.heap[qo]? = some (.cells #[.int .u8 1, .int .i64 n, .int .i64 0, .string ⟨#[]⟩] 23 (0, 0))) ⟨?_, ?_, ?_, ?_⟩ ?_
                  · skip
                    repeat (first | with_reducible exact hfw_34 | with_reducible refine Fr.alloc ?_ _ | (with_reducible refine Fr.setCell ?_ ?_ _; rotate_left; (intro h; dsimp only at h; omega)) | with_reducible refine Fr.drew ?_ | exact hfw_34)
                  · skip
                    repeat (first | with_reducible exact hba_34 | (with_reducible refine obj_alloc_at ?_; simp; done) | (with_reducible apply obj_put4; omega) | (with_reducible apply obj_put1; omega) | (with_reducible refine obj_setCell_other ?_ _ _ ?_; rotate_left; (dsimp only; omega)) | with_reducible refine obj_alloc ?_ _ | with_reducible refine obj_drew ?_ | exact hba_34)
                  · skip
                    repeat (first | with_reducible exact hbb_34 | (with_reducible refine obj_alloc_at ?_; simp; done) | (with_reducible apply obj_put4; omega) | (with_reducible apply obj_put1; omega) | (with_reducible refine obj_setCell_other ?_ _ _ ?_; rotate_left; (dsimp only; omega)) | with_reducible refine obj_alloc ?_ _ | with_reducible refine obj_drew ?_ | exact hbb_34)
                  · skip
                    repeat (first | with_reducible exact hbo_34 | (with_reducible refine obj_alloc_at ?_; simp; done) | (with_reducible apply obj_put4; omega) | (with_reducible apply obj_put1; omega) | (with_reducible refine obj_setCell_other ?_ _ _ ?_; rotate_left; (dsimp only; omega)) | with_reducible refine obj_alloc ?_ _ | with_reducible refine obj_drew ?_ | exact hbo_34)
                  clear hba_34 hbb_34 hbo_34 la lb lo hl po0 po1 po2 po3 po4 po5 po6 po7 po8 po9 po10 ca_0 ca_1 ca_2 ca_3 za cb_0 cb_1 cb_2 cb_3 zb co_0 co_1 co_2 co_3 zo hfw_34
                  rintro w35 ⟨hfw_35, hba_35, hbb_35, hbo_35⟩
                  obtain ⟨ca_0, ca_1, ca_2, ca_3⟩ := v_cells (v := intV n) hba_35
                  dsimp only [intV] at ca_0 ca_1 ca_2 ca_3
                  have za := frozen_of_obj hba_35
                  obtain ⟨cb_0, cb_1, cb_2, cb_3⟩ := v_cells (v := intV m) hbb_35
                  dsimp only [intV] at cb_0 cb_1 cb_2 cb_3
                  have zb := frozen_of_obj hbb_35
                  obtain ⟨co_0, co_1, co_2, co_3⟩ := v_cells (v := intV n) hbo_35
                  dsimp only [intV] at co_0 co_1 co_2 co_3
                  have zo := frozen_of_obj hbo_35
                  go_cut [22, 23] (fun s22 s23 wx => ∃ qz : Nat, s22 = .pointer (some ⟨qz, 0, none⟩) ∧ s23 = .bool true ∧ Fr noB w35 wx ∧ w35.heap.size ≤ qz ∧ wx.heap[qz]? = some (.cells #[.int .u8 1, .int .i64 n, .int .i64 0, .string ⟨#[]⟩] 23 (0, 0)))
                  case first => as_aux_lemma =>
                    have hqa := obj_drew hba_35
                    have fz : ∀ (X : World) (o : Nat), (X.alloc (.cells #[.int .u8 0, .int .i64 0, .int .i64 0, .string ⟨#[]⟩] 23 (0, 0))).frozen? ⟨X.heap.size, o, none⟩ = false := fun X o => frozen_of_obj (obj_alloc_new X _) o
                    have fc : ∀ X : World, (X.alloc (.cells #[.int .u8 0, .int .i64 0, .int .i64 0, .string ⟨#[]⟩] 23 (0, 0))).cell? ⟨X.heap.size, 0, none⟩ = some (.int .u8 0) ∧ (X.alloc (.cells #[.int .u8 0, .int .i64 0, .int .i64 0, .string ⟨#[]⟩] 23 (0, 0))).cell? ⟨X.heap.size, 1, none⟩ = some (.int .i64 0) ∧ (X.alloc (.cells #[.int .u8 0, .int .i64 0, .int .i64 0, .string ⟨#[]⟩] 23 (0, 0))).cell? ⟨X.heap.size, 2, none⟩ = some (.int .i64 0) ∧ (X.alloc (.cells #[.int .u8 0, .int .i64 0, .int .i64 0, .string ⟨#[]⟩] 23 (0, 0))).cell? ⟨X.heap.size, 3, none⟩ = some (.string ⟨#[]⟩) := fun X => v_cells (v := zV) (obj_alloc_new X _)
                    have la := obj_lt hba_35
                    have hdq : w35.drew.heap.size = w35.heap.size := rfl
                    have hva : ∀ X : World, X.heap[w2.heap.size]? = some (.cells #[.int .u8 1, .int .i64 n, .int .i64 0, .string ⟨#[]⟩] 23 (0, 0)) → X.cell? ⟨w2.heap.size, 0, none⟩ = some (.int .u8 1) ∧ X.cell? ⟨w2.heap.size, 1, none⟩ = some (.int .i64 n) ∧ X.cell? ⟨w2.heap.size, 2, none⟩ = some (.int .i64 0) ∧ X.cell? ⟨w2.heap.size, 3, none⟩ = some (.string ⟨#[]⟩) := fun X h => v_cells (v := intV n) h
                    go_region_held3 (fun X : World => X.cell? ⟨w2.heap.size, 0, none⟩ = some (.int .u8 1) ∧ X.cell? ⟨w2.heap.size, 1, none⟩ = some (.int .i64 n) ∧ X.cell? ⟨w2.heap.size, 2, none⟩ = some (.int .i64 0) ∧ X.cell? ⟨w2.heap.size, 3, none⟩ = some (.string ⟨#[]⟩)) ((refine (hva _ ?_) <;> repeat (first | with_reducible exact hqa | with_reducible exact hba_35 | with_reducible refine obj_alloc ?_ _ | (with_reducible refine obj_setCell_other ?_ _ _ ?_; rotate_left; (dsimp only; omega)) | with_reducible refine obj_drew ?_))) (first | (go_at_call 19; refine ((HI 0).out _).mono ?_; rintro e x0 ⟨rfl, hG0⟩; have k0 := hG0.size; refine have_of (p := x0.heap[w2.heap.size]? = some (.cells #[.int .u8 1, .int .i64 n, .int .i64 0, .string ⟨#[]⟩] 23 (0, 0))) ?_ (fun hqa => ?_); (focus (refine hG0.obj (noB_not _) ?_; repeat (first | with_reducible exact hqa | with_reducible exact hba_35 | with_reducible refine obj_alloc ?_ _ | with_reducible refine obj_drew ?_))); (first | (have hnn := hG0.obj (fun x => x) hnn) | (with_reducible have hnn := hG0.obj (noB_not _) (obj_alloc_new _ _)) | (with_reducible have hnn := hG0.obj (noB_not _) (obj_drew (obj_alloc_new _ _))) | skip); (first | (have znn := frozen_of_obj hnn; obtain ⟨n0, n1, n2, n3⟩ := v_cells (v := zV) hnn) | skip)) | (go_at_call 20; refine (HADD4.out _).mono ?_; rintro e x1 ⟨rfl, hG1⟩; have k1 := hG1.size; refine have_of (p := x1.heap[w2.heap.size]? = some (.cells #[.int .u8 1, .int .i64 n, .int .i64 0, .string ⟨#[]⟩] 23 (0, 0))) ?_ (fun hqa => ?_); (focus (refine hG1.obj (noB_not _) ?_; repeat (first | with_reducible exact hqa | with_reducible exact hba_35 | with_reducible refine obj_alloc ?_ _ | with_reducible refine obj_drew ?_))); (first | (have hnn := hG1.obj (fun x => x) hnn) | (with_reducible have hnn := hG1.obj (noB_not _) (obj_alloc_new _ _)) | (with_reducible have hnn := hG1.obj (noB_not _) (obj_drew (obj_alloc_new _ _))) | skip); (first | (have znn := frozen_of_obj hnn; obtain ⟨n0, n1, n2, n3⟩ := v_cells (v := zV) hnn) | skip)))
                    all_goals (go_wp2_with fail; go_meet)
                    all_goals (have hfr0 := Fr.refl noB w35; refine ⟨_, rfl, rfl, ?_, ?_, ?_⟩)
                    all_goals (first | ((repeat (first | with_reducible exact hfr0 | with_reducible refine Fr.transN ?_ hG1 | with_reducible refine Fr.transN ?_ hG0 | with_reducible refine Fr.alloc ?_ _ | (with_reducible refine Fr.setCell ?_ ?_ _; rotate_left; (intro h; dsimp only at h; omega)) | with_reducible refine Fr.drew ?_ | exact hfr0)); done) | ((try simp only [World.size_alloc] at k0); (try simp only [World.size_alloc] at k1); omega) | ((repeat (first | with_reducible exact hnn | (with_reducible refine obj_alloc_at ?_; simp; done) | (with_reducible apply obj_put4; omega) | (with_reducible refine obj_setCell_other ?_ _ _ ?_; rotate_left; (dsimp only; omega)) | with_reducible refine obj_alloc ?_ _ | with_reducible refine obj_drew ?_)); done))
                  case rest =>
                    obtain ⟨qz, rfl, rfl, hf36, hgz, hbz_36⟩ := hcut
                    obtain ⟨w36, rfl⟩ : ∃ x, x = wc := ⟨_, rfl⟩
                    have o11 := Lib.hid (obj_lt hbo_35)
                    have o12 := Lib.hid hgz
                    have hba_36 := hf36.obj (fun x => x) hba_35
                    have hbb_36 := hf36.obj (fun x => x) hbb_35
                    have hbo_36 := hf36.obj (fun x => x) hbo_35
                    have hfw_36 := hfw_35.transN hf36
                    clear hba_35 hbb_35 hbo_35 ca_0 ca_1 ca_2 ca_3 za cb_0 cb_1 cb_2 cb_3 zb co_0 co_1 co_2 co_3 zo hf36 hfw_35 hgz
                    obtain ⟨ca_0, ca_1, ca_2, ca_3⟩ := v_cells (v := intV n) hba_36
                    dsimp only [intV] at ca_0 ca_1 ca_2 ca_3
                    have za := frozen_of_obj hba_36
                    obtain ⟨cb_0, cb_1, cb_2, cb_3⟩ := v_cells (v := intV m) hbb_36
                    dsimp only [intV] at cb_0 cb_1 cb_2 cb_3
                    have zb := frozen_of_obj hbb_36
                    obtain ⟨co_0, co_1, co_2, co_3⟩ := v_cells (v := intV n) hbo_36
                    dsimp only [intV] at co_0 co_1 co_2 co_3
                    have zo := frozen_of_obj hbo_36
                    obtain ⟨cz_0, cz_1, cz_2, cz_3⟩ := v_cells (v := intV n) hbz_36
                    dsimp only [intV] at cz_0 cz_1 cz_2 cz_3
                    have zz := frozen_of_obj hbz_36
                    go_upto_region 26 with fail
                    have la := obj_lt hba_36
                    have lb := obj_lt hbb_36
                    have lo := obj_lt hbo_36
                    have lz := obj_lt hbz_36
                    have hl := hfw_36.size
                    have po0 := o0.out
                    have po1 := o1.out
                    have po2 := o2.out
                    have po3 := o3.out
                    have po4 := o4.out
                    have po5 := o5.out
                    have po6 := o6.out
                    have po7 := o7.out
                    have po8 := o8.out
                    have po9 := o9.out
                    have po10 := o10.out
                    have po11 := o11.out
                    have po12 := o12.out
                    refine wp_world (fun W => Fr noB w W ∧ W.heap[w2.heap.size]? = some (.cells #[.int .u8 1, .int .i64 n, .int .i64 0, .string ⟨#[]⟩] 23 (0, 0)) ∧ W.heap[w2.heap.size + 1]? = some (.cells #[.int .u8 1, .int .i64 m, .int .i64 0, .string ⟨#[]⟩] 23 (0, 0)) ∧ W.heap[qo]? = some (.cells #[.int .u8 1, .int .i64 n, .int .i64 0, .string ⟨#[]⟩] 23 (0, 0)) ∧ W.heap[qz]? = some (.cells #[.int .u8 1, .int .i64 n, .int .i64 0, .string ⟨#[]⟩] 23 (0, 0))) ⟨?_, ?_, ?_, ?_, ?_⟩ ?_
                    · skip
                      repeat (first | with_reducible exact hfw_36 | with_reducible refine Fr.alloc ?_ _ | (with_reducible refine Fr.setCell ?_ ?_ _; rotate_left; (intro h; dsimp only at h; omega)) | with_reducible refine Fr.drew ?_ | exact hfw_36)
                    · skip
                      repeat (first | with_reducible exact hba_36 | (with_reducible refine obj_alloc_at ?_; simp; done) | (with_reducible apply obj_put4; omega) | (with_reducible apply obj_put1; omega) | (with_reducible refine obj_setCell_other ?_ _ _ ?_; rotate_left; (dsimp only; omega)) | with_reducible refine obj_alloc ?_ _ | with_reducible refine obj_drew ?_ | exact hba_36)
                    · skip
                      repeat (first | with_reducible exact hbb_36 | (with_reducible refine obj_alloc_at ?_; simp; done) | (with_reducible apply obj_put4; omega) | (with_reducible apply obj_put1; omega) | (with_reducible refine obj_setCell_other ?_ _ _ ?_; rotate_left; (dsimp only; omega)) | with_reducible refine obj_alloc ?_ _ | with_reducible refine obj_drew ?_ | exact hbb_36)
                    · skip
                      repeat (first | with_reducible exact hbo_36 | (with_reducible refine obj_alloc_at ?_; simp; done) | (with_reducible apply obj_put4; omega) | (with_reducible apply obj_put1; omega) | (with_reducible refine obj_setCell_other ?_ _ _ ?_; rotate_left; (dsimp only; omega)) | with_reducible refine obj_alloc ?_ _ | with_reducible refine obj_drew ?_ | exact hbo_36)
                    · skip
                      repeat (first | with_reducible exact hbz_36 | (with_reducible refine obj_alloc_at ?_; simp; done) | (with_reducible apply obj_put4; omega) | (with_reducible apply obj_put1; omega) | (with_reducible refine obj_setCell_other ?_ _ _ ?_; rotate_left; (dsimp only; omega)) | with_reducible refine obj_alloc ?_ _ | with_reducible refine obj_drew ?_ | exact hbz_36)
                    clear hba_36 hbb_36 hbo_36 hbz_36 la lb lo lz hl po0 po1 po2 po3 po4 po5 po6 po7 po8 po9 po10 po11 po12 ca_0 ca_1 ca_2 ca_3 za cb_0 cb_1 cb_2 cb_3 zb co_0 co_1 co_2 co_3 zo cz_0 cz_1 cz_2 cz_3 zz hfw_36
                    rintro w37 ⟨hfw_37, hba_37, hbb_37, hbo_37, hbz_37⟩
                    obtain ⟨ca_0, ca_1, ca_2, ca_3⟩ := v_cells (v := intV n) hba_37
                    dsimp only [intV] at ca_0 ca_1 ca_2 ca_3
                    have za := frozen_of_obj hba_37
                    obtain ⟨cb_0, cb_1, cb_2, cb_3⟩ := v_cells (v := intV m) hbb_37
                    dsimp only [intV] at cb_0 cb_1 cb_2 cb_3
                    have zb := frozen_of_obj hbb_37
                    obtain ⟨co_0, co_1, co_2, co_3⟩ := v_cells (v := intV n) hbo_37
                    dsimp only [intV] at co_0 co_1 co_2 co_3
                    have zo := frozen_of_obj hbo_37
                    obtain ⟨cz_0, cz_1, cz_2, cz_3⟩ := v_cells (v := intV n) hbz_37
                    dsimp only [intV] at cz_0 cz_1 cz_2 cz_3
                    have zz := frozen_of_obj hbz_37
                    have q1 := HE1.out
                    have q2 := HF4.out
                    have q3 := HF6.out
                    cases hk4 : g
                    · rw [hk4] at q2 q3
                      go_wp2_with fail
                      have la := obj_lt hba_37
                      have lb := obj_lt hbb_37
                      have lo := obj_lt hbo_37
                      have lz := obj_lt hbz_37
                      have hl := hfw_37.size
                      have po0 := o0.out
                      have po1 := o1.out
                      have po2 := o2.out
                      have po3 := o3.out
                      have po4 := o4.out
                      have po5 := o5.out
                      have po6 := o6.out
                      have po7 := o7.out
                      have po8 := o8.out
                      have po9 := o9.out
                      have po10 := o10.out
                      have po11 := o11.out
                      have po12 := o12.out
                      go_ret
                      refine ⟨?_, ?_⟩
                      · rfl
                      · skip
                        repeat (first | with_reducible exact hfw_37 | with_reducible refine Fr.alloc ?_ _ | (with_reducible refine Fr.setCell ?_ ?_ _; rotate_left; (intro h; dsimp only at h; omega)) | with_reducible refine Fr.drew ?_ | exact hfw_37)
                    · rw [hk4] at q2 q3
                      go_wp2_with fail
                      have la := obj_lt hba_37
                      have lb := obj_lt hbb_37
                      have lo := obj_lt hbo_37
                      have lz := obj_lt hbz_37
                      have hl := hfw_37.size
                      have po0 := o0.out
                      have po1 := o1.out
                      have po2 := o2.out
                      have po3 := o3.out
                      have po4 := o4.out
                      have po5 := o5.out
                      have po6 := o6.out
                      have po7 := o7.out
                      have po8 := o8.out
                      have po9 := o9.out
                      have po10 := o10.out
                      have po11 := o11.out
                      have po12 := o12.out
                      go_ret
                      refine ⟨?_, ?_⟩
                      · rfl
                      · skip
                        repeat (first | with_reducible exact hfw_37 | with_reducible refine Fr.alloc ?_ _ | (with_reducible refine Fr.setCell ?_ ?_ _; rotate_left; (intro h; dsimp only at h; omega)) | with_reducible refine Fr.drew ?_ | exact hfw_37)


theorem logicNumbers_walk (n m : Int) (w : World) (hn : (Lit.int .i64 n).wf = true) (hm : (Lit.int .i64 m).wf = true) :
    Calls Try.prog 4 #[.int .i64 n, .int .i64 m] w fun e w' => e = .returned (.bool true) ∧ Fr noB w w' := by
  simp [Lit.wf, IntKind.min, IntKind.max, IntKind.signed, IntKind.bits] at hn hm
  exact numbers_any n m (by omega) (by omega) w

end Go.Proofs.Ytcncjghcnofioaa
