/- The walks of covenantref02's calls of truths. No condition. -/
import Derived.Test.YtcncjghcnofioaaRef2
namespace Go.Proofs.Ytcncjghcnofioaa
open Go.RowKit

theorem kind3 (a : V) (h : areB 2 a = true) : ((a.k == 2) = true ∧ (a.k == 0) = false ∧ yesB a = true) ∨ ((a.k == 2) = true ∧ (a.k == 0) = false ∧ yesB a = false) ∨ ((a.k == 2) = false ∧ (a.k == 0) = true ∧ yesB a = false) := by
  by_cases h2 : a.k = 2
  · cases hy : yesB a
    · exact .inr (.inl ⟨by simp [h2], by simp [h2], rfl⟩)
    · exact .inl ⟨by simp [h2], by simp [h2], rfl⟩
  · have h0 : a.k = 0 := by simpa [areB, h2] using h
    exact .inr (.inr ⟨by simp [h2], by simp [h0], by simp [yesB, h0]⟩)

def alikeV (a b : V) : Bool × Int := if (nullB a || nullB b) = true then ((true, 0) : Bool × Int) else if a.k = b.k then (false, 0) else (false, 60)
set_option maxRecDepth 100000 in
set_option maxHeartbeats 4000000 in
theorem ralike_any (a b : V) (w : World) :
    Calls Try.prog 76 #[vV a, vV b] w fun e w' => e = .returned (.tuple #[.bool (alikeV a b).1, .int .i64 (alikeV a b).2]) ∧ Fr noB w w' := by
  unfold vV
  go_enter Try.func76, Try.ntmps76
  go_upto_region 1 with fail
  have hfw_0 := Fr.refl noB w
  have hl := hfw_0.size
  refine wp_world (fun W => Fr noB w W ∧ W.heap[w.heap.size]? = some (.cells #[.int .u8 a.k, .int .i64 a.n, .int .i64 a.hi, .string a.t] 23 (0, 0)) ∧ W.heap[w.heap.size + 1]? = some (.cells #[.int .u8 b.k, .int .i64 b.n, .int .i64 b.hi, .string b.t] 23 (0, 0))) ⟨?_, ?_, ?_⟩ ?_
  · skip
    repeat (first | with_reducible exact hfw_0 | with_reducible refine Fr.alloc ?_ _ | (with_reducible refine Fr.setCell ?_ ?_ _; rotate_left; (intro h; dsimp only at h; omega)) | with_reducible refine Fr.drew ?_ | exact hfw_0)
  · skip
    repeat (first | (with_reducible refine obj_alloc_at ?_; simp; done) | (with_reducible apply obj_put4; omega) | (with_reducible apply obj_put1; omega) | (with_reducible refine obj_setCell_other ?_ _ _ ?_; rotate_left; (dsimp only; omega)) | with_reducible refine obj_alloc ?_ _ | with_reducible refine obj_drew ?_)
  · skip
    repeat (first | (with_reducible refine obj_alloc_at ?_; simp; done) | (with_reducible apply obj_put4; omega) | (with_reducible apply obj_put1; omega) | (with_reducible refine obj_setCell_other ?_ _ _ ?_; rotate_left; (dsimp only; omega)) | with_reducible refine obj_alloc ?_ _ | with_reducible refine obj_drew ?_)
  clear hl hfw_0
  rintro w1 ⟨hfw_1, hba_1, hbb_1⟩
  obtain ⟨ca_0, ca_1, ca_2, ca_3⟩ := v_cells (v := a) hba_1
  have za := frozen_of_obj hba_1
  obtain ⟨cb_0, cb_1, cb_2, cb_3⟩ := v_cells (v := b) hbb_1
  have zb := frozen_of_obj hbb_1
  cases ha : nullB a
  · cases hb : nullB b
    · by_cases hk : a.k = b.k
      · have HR := Lib.hid (show alikeV a b = (false, 0) by simp [alikeV, ha, hb, hk])
        have b0 : (a.k != b.k) = false := by simp [hk]
        unfold nullB at ha hb
        clear hk
        go_wp2_with fail
        have la := obj_lt hba_1
        have lb := obj_lt hbb_1
        have hl := hfw_1.size
        go_ret2
        refine ⟨?_, ?_⟩
        · rw [HR.out] <;> rfl
        · skip
          repeat (first | with_reducible exact hfw_1 | with_reducible refine Fr.alloc ?_ _ | (with_reducible refine Fr.setCell ?_ ?_ _; rotate_left; (intro h; dsimp only at h; omega)) | with_reducible refine Fr.drew ?_ | exact hfw_1)
      · have HR := Lib.hid (show alikeV a b = (false, 60) by simp [alikeV, ha, hb, hk])
        have b0 : (a.k != b.k) = true := by simp [hk]
        unfold nullB at ha hb
        clear hk
        go_wp2_with fail
        have la := obj_lt hba_1
        have lb := obj_lt hbb_1
        have hl := hfw_1.size
        go_ret2
        refine ⟨?_, ?_⟩
        · rw [HR.out] <;> rfl
        · skip
          repeat (first | with_reducible exact hfw_1 | with_reducible refine Fr.alloc ?_ _ | (with_reducible refine Fr.setCell ?_ ?_ _; rotate_left; (intro h; dsimp only at h; omega)) | with_reducible refine Fr.drew ?_ | exact hfw_1)
    · have HR := Lib.hid (show alikeV a b = (true, 0) by simp [alikeV, ha, hb])
      unfold nullB at ha hb
      go_wp2_with fail
      have la := obj_lt hba_1
      have lb := obj_lt hbb_1
      have hl := hfw_1.size
      go_ret2
      refine ⟨?_, ?_⟩
      · rw [HR.out] <;> rfl
      · skip
        repeat (first | with_reducible exact hfw_1 | with_reducible refine Fr.alloc ?_ _ | (with_reducible refine Fr.setCell ?_ ?_ _; rotate_left; (intro h; dsimp only at h; omega)) | with_reducible refine Fr.drew ?_ | exact hfw_1)
  · have HR := Lib.hid (show alikeV a b = (true, 0) by simp [alikeV, ha])
    unfold nullB at ha
    go_wp2_with fail
    have la := obj_lt hba_1
    have lb := obj_lt hbb_1
    have hl := hfw_1.size
    go_ret2
    refine ⟨?_, ?_⟩
    · rw [HR.out] <;> rfl
    · skip
      repeat (first | with_reducible exact hfw_1 | with_reducible refine Fr.alloc ?_ _ | (with_reducible refine Fr.setCell ?_ ?_ _; rotate_left; (intro h; dsimp only at h; omega)) | with_reducible refine Fr.drew ?_ | exact hfw_1)

def bothV (a b : V) : Bool × Int := if (areB 1 a && areB 1 b) = false then (false, 60) else (nullB a || nullB b, 0)
set_option maxRecDepth 100000 in
set_option maxHeartbeats 4000000 in
theorem rboth_any (a b : V) (w : World) :
    Calls Try.prog 75 #[vV a, vV b] w fun e w' => e = .returned (.tuple #[.bool (bothV a b).1, .int .i64 (bothV a b).2]) ∧ Fr noB w w' := by
  have HNA := Lib.hid (show ∀ W : World, Calls Try.prog 90 #[.agg #[.int .u8 a.k, .int .i64 a.n, .int .i64 a.hi, .string a.t]] W fun e w' => e = .returned (.bool (areB 1 a)) ∧ Fr noB W w' from fun W => rnumber_any a W)
  have HNB := Lib.hid (show ∀ W : World, Calls Try.prog 90 #[.agg #[.int .u8 b.k, .int .i64 b.n, .int .i64 b.hi, .string b.t]] W fun e w' => e = .returned (.bool (areB 1 b)) ∧ Fr noB W w' from fun W => rnumber_any b W)
  unfold vV
  go_enter Try.func75, Try.ntmps75
  go_upto_region 1 with fail
  have hfw_0 := Fr.refl noB w
  have hl := hfw_0.size
  refine wp_world (fun W => Fr noB w W ∧ W.heap[w.heap.size]? = some (.cells #[.int .u8 a.k, .int .i64 a.n, .int .i64 a.hi, .string a.t] 23 (0, 0)) ∧ W.heap[w.heap.size + 1]? = some (.cells #[.int .u8 b.k, .int .i64 b.n, .int .i64 b.hi, .string b.t] 23 (0, 0))) ⟨?_, ?_, ?_⟩ ?_
  · skip
    repeat (first | with_reducible exact hfw_0 | with_reducible refine Fr.alloc ?_ _ | (with_reducible refine Fr.setCell ?_ ?_ _; rotate_left; (intro h; dsimp only at h; omega)) | with_reducible refine Fr.drew ?_ | exact hfw_0)
  · skip
    repeat (first | (with_reducible refine obj_alloc_at ?_; simp; done) | (with_reducible apply obj_put4; omega) | (with_reducible apply obj_put1; omega) | (with_reducible refine obj_setCell_other ?_ _ _ ?_; rotate_left; (dsimp only; omega)) | with_reducible refine obj_alloc ?_ _ | with_reducible refine obj_drew ?_)
  · skip
    repeat (first | (with_reducible refine obj_alloc_at ?_; simp; done) | (with_reducible apply obj_put4; omega) | (with_reducible apply obj_put1; omega) | (with_reducible refine obj_setCell_other ?_ _ _ ?_; rotate_left; (dsimp only; omega)) | with_reducible refine obj_alloc ?_ _ | with_reducible refine obj_drew ?_)
  clear hl hfw_0
  rintro w1 ⟨hfw_1, hba_1, hbb_1⟩
  obtain ⟨ca_0, ca_1, ca_2, ca_3⟩ := v_cells (v := a) hba_1
  have za := frozen_of_obj hba_1
  obtain ⟨cb_0, cb_1, cb_2, cb_3⟩ := v_cells (v := b) hbb_1
  have zb := frozen_of_obj hbb_1
  cases h1 : areB 1 a
  · have HR := Lib.hid (show bothV a b = (false, 60) by simp [bothV, h1])
    rw [h1] at HNA
    clear h1
    go_wp2_with fail
    refine (HNA.out _).mono ?_
    rintro e w2 ⟨rfl, hf2⟩
    have la := obj_lt hba_1
    have lb := obj_lt hbb_1
    have hl := hfw_1.size
    have hba_2 : w2.heap[w.heap.size]? = some (.cells #[.int .u8 a.k, .int .i64 a.n, .int .i64 a.hi, .string a.t] 23 (0, 0)) := by
      refine hf2.obj (fun x => x) ?_
      repeat (first | with_reducible exact hba_1 | (with_reducible refine obj_alloc_at ?_; simp; done) | (with_reducible apply obj_put4; omega) | (with_reducible apply obj_put1; omega) | (with_reducible refine obj_setCell_other ?_ _ _ ?_; rotate_left; (dsimp only; omega)) | with_reducible refine obj_alloc ?_ _ | with_reducible refine obj_drew ?_ | exact hba_1)
    have hbb_2 : w2.heap[w.heap.size + 1]? = some (.cells #[.int .u8 b.k, .int .i64 b.n, .int .i64 b.hi, .string b.t] 23 (0, 0)) := by
      refine hf2.obj (fun x => x) ?_
      repeat (first | with_reducible exact hbb_1 | (with_reducible refine obj_alloc_at ?_; simp; done) | (with_reducible apply obj_put4; omega) | (with_reducible apply obj_put1; omega) | (with_reducible refine obj_setCell_other ?_ _ _ ?_; rotate_left; (dsimp only; omega)) | with_reducible refine obj_alloc ?_ _ | with_reducible refine obj_drew ?_ | exact hbb_1)
    have hfw_2 : Fr noB w w2 := by
      refine Fr.transN ?_ hf2
      repeat (first | with_reducible exact hfw_1 | with_reducible refine Fr.alloc ?_ _ | (with_reducible refine Fr.setCell ?_ ?_ _; rotate_left; (intro h; dsimp only at h; omega)) | with_reducible refine Fr.drew ?_ | exact hfw_1)
    clear hba_1 hbb_1 la lb hl ca_0 ca_1 ca_2 ca_3 za cb_0 cb_1 cb_2 cb_3 zb hf2 hfw_1
    obtain ⟨ca_0, ca_1, ca_2, ca_3⟩ := v_cells (v := a) hba_2
    have za := frozen_of_obj hba_2
    obtain ⟨cb_0, cb_1, cb_2, cb_3⟩ := v_cells (v := b) hbb_2
    have zb := frozen_of_obj hbb_2
    go_wp2_with fail
    have la := obj_lt hba_2
    have lb := obj_lt hbb_2
    have hl := hfw_2.size
    go_ret2
    refine ⟨?_, ?_⟩
    · rw [HR.out] <;> rfl
    · skip
      repeat (first | with_reducible exact hfw_2 | with_reducible refine Fr.alloc ?_ _ | (with_reducible refine Fr.setCell ?_ ?_ _; rotate_left; (intro h; dsimp only at h; omega)) | with_reducible refine Fr.drew ?_ | exact hfw_2)
  · rw [h1] at HNA
    cases h2 : areB 1 b
    · have HR := Lib.hid (show bothV a b = (false, 60) by simp [bothV, h2])
      rw [h2] at HNB
      clear h1 h2
      go_wp2_with fail
      refine (HNA.out _).mono ?_
      rintro e w2 ⟨rfl, hf2⟩
      have la := obj_lt hba_1
      have lb := obj_lt hbb_1
      have hl := hfw_1.size
      have hba_2 : w2.heap[w.heap.size]? = some (.cells #[.int .u8 a.k, .int .i64 a.n, .int .i64 a.hi, .string a.t] 23 (0, 0)) := by
        refine hf2.obj (fun x => x) ?_
        repeat (first | with_reducible exact hba_1 | (with_reducible refine obj_alloc_at ?_; simp; done) | (with_reducible apply obj_put4; omega) | (with_reducible apply obj_put1; omega) | (with_reducible refine obj_setCell_other ?_ _ _ ?_; rotate_left; (dsimp only; omega)) | with_reducible refine obj_alloc ?_ _ | with_reducible refine obj_drew ?_ | exact hba_1)
      have hbb_2 : w2.heap[w.heap.size + 1]? = some (.cells #[.int .u8 b.k, .int .i64 b.n, .int .i64 b.hi, .string b.t] 23 (0, 0)) := by
        refine hf2.obj (fun x => x) ?_
        repeat (first | with_reducible exact hbb_1 | (with_reducible refine obj_alloc_at ?_; simp; done) | (with_reducible apply obj_put4; omega) | (with_reducible apply obj_put1; omega) | (with_reducible refine obj_setCell_other ?_ _ _ ?_; rotate_left; (dsimp only; omega)) | with_reducible refine obj_alloc ?_ _ | with_reducible refine obj_drew ?_ | exact hbb_1)
      have hfw_2 : Fr noB w w2 := by
        refine Fr.transN ?_ hf2
        repeat (first | with_reducible exact hfw_1 | with_reducible refine Fr.alloc ?_ _ | (with_reducible refine Fr.setCell ?_ ?_ _; rotate_left; (intro h; dsimp only at h; omega)) | with_reducible refine Fr.drew ?_ | exact hfw_1)
      clear hba_1 hbb_1 la lb hl ca_0 ca_1 ca_2 ca_3 za cb_0 cb_1 cb_2 cb_3 zb hf2 hfw_1
      obtain ⟨ca_0, ca_1, ca_2, ca_3⟩ := v_cells (v := a) hba_2
      have za := frozen_of_obj hba_2
      obtain ⟨cb_0, cb_1, cb_2, cb_3⟩ := v_cells (v := b) hbb_2
      have zb := frozen_of_obj hbb_2
      go_wp2_with fail
      refine (HNB.out _).mono ?_
      rintro e w3 ⟨rfl, hf3⟩
      have la := obj_lt hba_2
      have lb := obj_lt hbb_2
      have hl := hfw_2.size
      have hba_3 : w3.heap[w.heap.size]? = some (.cells #[.int .u8 a.k, .int .i64 a.n, .int .i64 a.hi, .string a.t] 23 (0, 0)) := by
        refine hf3.obj (fun x => x) ?_
        repeat (first | with_reducible exact hba_2 | (with_reducible refine obj_alloc_at ?_; simp; done) | (with_reducible apply obj_put4; omega) | (with_reducible apply obj_put1; omega) | (with_reducible refine obj_setCell_other ?_ _ _ ?_; rotate_left; (dsimp only; omega)) | with_reducible refine obj_alloc ?_ _ | with_reducible refine obj_drew ?_ | exact hba_2)
      have hbb_3 : w3.heap[w.heap.size + 1]? = some (.cells #[.int .u8 b.k, .int .i64 b.n, .int .i64 b.hi, .string b.t] 23 (0, 0)) := by
        refine hf3.obj (fun x => x) ?_
        repeat (first | with_reducible exact hbb_2 | (with_reducible refine obj_alloc_at ?_; simp; done) | (with_reducible apply obj_put4; omega) | (with_reducible apply obj_put1; omega) | (with_reducible refine obj_setCell_other ?_ _ _ ?_; rotate_left; (dsimp only; omega)) | with_reducible refine obj_alloc ?_ _ | with_reducible refine obj_drew ?_ | exact hbb_2)
      have hfw_3 : Fr noB w w3 := by
        refine Fr.transN ?_ hf3
        repeat (first | with_reducible exact hfw_2 | with_reducible refine Fr.alloc ?_ _ | (with_reducible refine Fr.setCell ?_ ?_ _; rotate_left; (intro h; dsimp only at h; omega)) | with_reducible refine Fr.drew ?_ | exact hfw_2)
      clear hba_2 hbb_2 la lb hl ca_0 ca_1 ca_2 ca_3 za cb_0 cb_1 cb_2 cb_3 zb hf3 hfw_2
      obtain ⟨ca_0, ca_1, ca_2, ca_3⟩ := v_cells (v := a) hba_3
      have za := frozen_of_obj hba_3
      obtain ⟨cb_0, cb_1, cb_2, cb_3⟩ := v_cells (v := b) hbb_3
      have zb := frozen_of_obj hbb_3
      go_wp2_with fail
      have la := obj_lt hba_3
      have lb := obj_lt hbb_3
      have hl := hfw_3.size
      go_ret2
      refine ⟨?_, ?_⟩
      · rw [HR.out] <;> rfl
      · skip
        repeat (first | with_reducible exact hfw_3 | with_reducible refine Fr.alloc ?_ _ | (with_reducible refine Fr.setCell ?_ ?_ _; rotate_left; (intro h; dsimp only at h; omega)) | with_reducible refine Fr.drew ?_ | exact hfw_3)
    · rw [h2] at HNB
      have HR0 : bothV a b = (nullB a || nullB b, 0) := by simp [bothV, h1, h2]
      clear h1 h2
      cases ha : nullB a
      · have HR := Lib.hid (show bothV a b = (nullB b, 0) by rw [HR0, ha]; rfl)
        unfold nullB at ha
        clear HR0
        cases hb : nullB b
        · rw [hb] at HR
          unfold nullB at hb
          go_wp2_with fail
          refine (HNA.out _).mono ?_
          rintro e w2 ⟨rfl, hf2⟩
          have la := obj_lt hba_1
          have lb := obj_lt hbb_1
          have hl := hfw_1.size
          have hba_2 : w2.heap[w.heap.size]? = some (.cells #[.int .u8 a.k, .int .i64 a.n, .int .i64 a.hi, .string a.t] 23 (0, 0)) := by
            refine hf2.obj (fun x => x) ?_
            repeat (first | with_reducible exact hba_1 | (with_reducible refine obj_alloc_at ?_; simp; done) | (with_reducible apply obj_put4; omega) | (with_reducible apply obj_put1; omega) | (with_reducible refine obj_setCell_other ?_ _ _ ?_; rotate_left; (dsimp only; omega)) | with_reducible refine obj_alloc ?_ _ | with_reducible refine obj_drew ?_ | exact hba_1)
          have hbb_2 : w2.heap[w.heap.size + 1]? = some (.cells #[.int .u8 b.k, .int .i64 b.n, .int .i64 b.hi, .string b.t] 23 (0, 0)) := by
            refine hf2.obj (fun x => x) ?_
            repeat (first | with_reducible exact hbb_1 | (with_reducible refine obj_alloc_at ?_; simp; done) | (with_reducible apply obj_put4; omega) | (with_reducible apply obj_put1; omega) | (with_reducible refine obj_setCell_other ?_ _ _ ?_; rotate_left; (dsimp only; omega)) | with_reducible refine obj_alloc ?_ _ | with_reducible refine obj_drew ?_ | exact hbb_1)
          have hfw_2 : Fr noB w w2 := by
            refine Fr.transN ?_ hf2
            repeat (first | with_reducible exact hfw_1 | with_reducible refine Fr.alloc ?_ _ | (with_reducible refine Fr.setCell ?_ ?_ _; rotate_left; (intro h; dsimp only at h; omega)) | with_reducible refine Fr.drew ?_ | exact hfw_1)
          clear hba_1 hbb_1 la lb hl ca_0 ca_1 ca_2 ca_3 za cb_0 cb_1 cb_2 cb_3 zb hf2 hfw_1
          obtain ⟨ca_0, ca_1, ca_2, ca_3⟩ := v_cells (v := a) hba_2
          have za := frozen_of_obj hba_2
          obtain ⟨cb_0, cb_1, cb_2, cb_3⟩ := v_cells (v := b) hbb_2
          have zb := frozen_of_obj hbb_2
          go_wp2_with fail
          refine (HNB.out _).mono ?_
          rintro e w3 ⟨rfl, hf3⟩
          have la := obj_lt hba_2
          have lb := obj_lt hbb_2
          have hl := hfw_2.size
          have hba_3 : w3.heap[w.heap.size]? = some (.cells #[.int .u8 a.k, .int .i64 a.n, .int .i64 a.hi, .string a.t] 23 (0, 0)) := by
            refine hf3.obj (fun x => x) ?_
            repeat (first | with_reducible exact hba_2 | (with_reducible refine obj_alloc_at ?_; simp; done) | (with_reducible apply obj_put4; omega) | (with_reducible apply obj_put1; omega) | (with_reducible refine obj_setCell_other ?_ _ _ ?_; rotate_left; (dsimp only; omega)) | with_reducible refine obj_alloc ?_ _ | with_reducible refine obj_drew ?_ | exact hba_2)
          have hbb_3 : w3.heap[w.heap.size + 1]? = some (.cells #[.int .u8 b.k, .int .i64 b.n, .int .i64 b.hi, .string b.t] 23 (0, 0)) := by
            refine hf3.obj (fun x => x) ?_
            repeat (first | with_reducible exact hbb_2 | (with_reducible refine obj_alloc_at ?_; simp; done) | (with_reducible apply obj_put4; omega) | (with_reducible apply obj_put1; omega) | (with_reducible refine obj_setCell_other ?_ _ _ ?_; rotate_left; (dsimp only; omega)) | with_reducible refine obj_alloc ?_ _ | with_reducible refine obj_drew ?_ | exact hbb_2)
          have hfw_3 : Fr noB w w3 := by
            refine Fr.transN ?_ hf3
            repeat (first | with_reducible exact hfw_2 | with_reducible refine Fr.alloc ?_ _ | (with_reducible refine Fr.setCell ?_ ?_ _; rotate_left; (intro h; dsimp only at h; omega)) | with_reducible refine Fr.drew ?_ | exact hfw_2)
          clear hba_2 hbb_2 la lb hl ca_0 ca_1 ca_2 ca_3 za cb_0 cb_1 cb_2 cb_3 zb hf3 hfw_2
          obtain ⟨ca_0, ca_1, ca_2, ca_3⟩ := v_cells (v := a) hba_3
          have za := frozen_of_obj hba_3
          obtain ⟨cb_0, cb_1, cb_2, cb_3⟩ := v_cells (v := b) hbb_3
          have zb := frozen_of_obj hbb_3
          go_wp2_with fail
          have la := obj_lt hba_3
          have lb := obj_lt hbb_3
          have hl := hfw_3.size
          go_ret2
          refine ⟨?_, ?_⟩
          · rw [HR.out] <;> rfl
          · skip
            repeat (first | with_reducible exact hfw_3 | with_reducible refine Fr.alloc ?_ _ | (with_reducible refine Fr.setCell ?_ ?_ _; rotate_left; (intro h; dsimp only at h; omega)) | with_reducible refine Fr.drew ?_ | exact hfw_3)
        · rw [hb] at HR
          unfold nullB at hb
          go_wp2_with fail
          refine (HNA.out _).mono ?_
          rintro e w2 ⟨rfl, hf2⟩
          have la := obj_lt hba_1
          have lb := obj_lt hbb_1
          have hl := hfw_1.size
          have hba_2 : w2.heap[w.heap.size]? = some (.cells #[.int .u8 a.k, .int .i64 a.n, .int .i64 a.hi, .string a.t] 23 (0, 0)) := by
            refine hf2.obj (fun x => x) ?_
            repeat (first | with_reducible exact hba_1 | (with_reducible refine obj_alloc_at ?_; simp; done) | (with_reducible apply obj_put4; omega) | (with_reducible apply obj_put1; omega) | (with_reducible refine obj_setCell_other ?_ _ _ ?_; rotate_left; (dsimp only; omega)) | with_reducible refine obj_alloc ?_ _ | with_reducible refine obj_drew ?_ | exact hba_1)
          have hbb_2 : w2.heap[w.heap.size + 1]? = some (.cells #[.int .u8 b.k, .int .i64 b.n, .int .i64 b.hi, .string b.t] 23 (0, 0)) := by
            refine hf2.obj (fun x => x) ?_
            repeat (first | with_reducible exact hbb_1 | (with_reducible refine obj_alloc_at ?_; simp; done) | (with_reducible apply obj_put4; omega) | (with_reducible apply obj_put1; omega) | (with_reducible refine obj_setCell_other ?_ _ _ ?_; rotate_left; (dsimp only; omega)) | with_reducible refine obj_alloc ?_ _ | with_reducible refine obj_drew ?_ | exact hbb_1)
          have hfw_2 : Fr noB w w2 := by
            refine Fr.transN ?_ hf2
            repeat (first | with_reducible exact hfw_1 | with_reducible refine Fr.alloc ?_ _ | (with_reducible refine Fr.setCell ?_ ?_ _; rotate_left; (intro h; dsimp only at h; omega)) | with_reducible refine Fr.drew ?_ | exact hfw_1)
          clear hba_1 hbb_1 la lb hl ca_0 ca_1 ca_2 ca_3 za cb_0 cb_1 cb_2 cb_3 zb hf2 hfw_1
          obtain ⟨ca_0, ca_1, ca_2, ca_3⟩ := v_cells (v := a) hba_2
          have za := frozen_of_obj hba_2
          obtain ⟨cb_0, cb_1, cb_2, cb_3⟩ := v_cells (v := b) hbb_2
          have zb := frozen_of_obj hbb_2
          go_wp2_with fail
          refine (HNB.out _).mono ?_
          rintro e w3 ⟨rfl, hf3⟩
          have la := obj_lt hba_2
          have lb := obj_lt hbb_2
          have hl := hfw_2.size
          have hba_3 : w3.heap[w.heap.size]? = some (.cells #[.int .u8 a.k, .int .i64 a.n, .int .i64 a.hi, .string a.t] 23 (0, 0)) := by
            refine hf3.obj (fun x => x) ?_
            repeat (first | with_reducible exact hba_2 | (with_reducible refine obj_alloc_at ?_; simp; done) | (with_reducible apply obj_put4; omega) | (with_reducible apply obj_put1; omega) | (with_reducible refine obj_setCell_other ?_ _ _ ?_; rotate_left; (dsimp only; omega)) | with_reducible refine obj_alloc ?_ _ | with_reducible refine obj_drew ?_ | exact hba_2)
          have hbb_3 : w3.heap[w.heap.size + 1]? = some (.cells #[.int .u8 b.k, .int .i64 b.n, .int .i64 b.hi, .string b.t] 23 (0, 0)) := by
            refine hf3.obj (fun x => x) ?_
            repeat (first | with_reducible exact hbb_2 | (with_reducible refine obj_alloc_at ?_; simp; done) | (with_reducible apply obj_put4; omega) | (with_reducible apply obj_put1; omega) | (with_reducible refine obj_setCell_other ?_ _ _ ?_; rotate_left; (dsimp only; omega)) | with_reducible refine obj_alloc ?_ _ | with_reducible refine obj_drew ?_ | exact hbb_2)
          have hfw_3 : Fr noB w w3 := by
            refine Fr.transN ?_ hf3
            repeat (first | with_reducible exact hfw_2 | with_reducible refine Fr.alloc ?_ _ | (with_reducible refine Fr.setCell ?_ ?_ _; rotate_left; (intro h; dsimp only at h; omega)) | with_reducible refine Fr.drew ?_ | exact hfw_2)
          clear hba_2 hbb_2 la lb hl ca_0 ca_1 ca_2 ca_3 za cb_0 cb_1 cb_2 cb_3 zb hf3 hfw_2
          obtain ⟨ca_0, ca_1, ca_2, ca_3⟩ := v_cells (v := a) hba_3
          have za := frozen_of_obj hba_3
          obtain ⟨cb_0, cb_1, cb_2, cb_3⟩ := v_cells (v := b) hbb_3
          have zb := frozen_of_obj hbb_3
          go_wp2_with fail
          have la := obj_lt hba_3
          have lb := obj_lt hbb_3
          have hl := hfw_3.size
          go_ret2
          refine ⟨?_, ?_⟩
          · rw [HR.out] <;> rfl
          · skip
            repeat (first | with_reducible exact hfw_3 | with_reducible refine Fr.alloc ?_ _ | (with_reducible refine Fr.setCell ?_ ?_ _; rotate_left; (intro h; dsimp only at h; omega)) | with_reducible refine Fr.drew ?_ | exact hfw_3)
      · have HR := Lib.hid (show bothV a b = (true, 0) by rw [HR0, ha]; rfl)
        unfold nullB at ha
        clear HR0
        go_wp2_with fail
        refine (HNA.out _).mono ?_
        rintro e w2 ⟨rfl, hf2⟩
        have la := obj_lt hba_1
        have lb := obj_lt hbb_1
        have hl := hfw_1.size
        have hba_2 : w2.heap[w.heap.size]? = some (.cells #[.int .u8 a.k, .int .i64 a.n, .int .i64 a.hi, .string a.t] 23 (0, 0)) := by
          refine hf2.obj (fun x => x) ?_
          repeat (first | with_reducible exact hba_1 | (with_reducible refine obj_alloc_at ?_; simp; done) | (with_reducible apply obj_put4; omega) | (with_reducible apply obj_put1; omega) | (with_reducible refine obj_setCell_other ?_ _ _ ?_; rotate_left; (dsimp only; omega)) | with_reducible refine obj_alloc ?_ _ | with_reducible refine obj_drew ?_ | exact hba_1)
        have hbb_2 : w2.heap[w.heap.size + 1]? = some (.cells #[.int .u8 b.k, .int .i64 b.n, .int .i64 b.hi, .string b.t] 23 (0, 0)) := by
          refine hf2.obj (fun x => x) ?_
          repeat (first | with_reducible exact hbb_1 | (with_reducible refine obj_alloc_at ?_; simp; done) | (with_reducible apply obj_put4; omega) | (with_reducible apply obj_put1; omega) | (with_reducible refine obj_setCell_other ?_ _ _ ?_; rotate_left; (dsimp only; omega)) | with_reducible refine obj_alloc ?_ _ | with_reducible refine obj_drew ?_ | exact hbb_1)
        have hfw_2 : Fr noB w w2 := by
          refine Fr.transN ?_ hf2
          repeat (first | with_reducible exact hfw_1 | with_reducible refine Fr.alloc ?_ _ | (with_reducible refine Fr.setCell ?_ ?_ _; rotate_left; (intro h; dsimp only at h; omega)) | with_reducible refine Fr.drew ?_ | exact hfw_1)
        clear hba_1 hbb_1 la lb hl ca_0 ca_1 ca_2 ca_3 za cb_0 cb_1 cb_2 cb_3 zb hf2 hfw_1
        obtain ⟨ca_0, ca_1, ca_2, ca_3⟩ := v_cells (v := a) hba_2
        have za := frozen_of_obj hba_2
        obtain ⟨cb_0, cb_1, cb_2, cb_3⟩ := v_cells (v := b) hbb_2
        have zb := frozen_of_obj hbb_2
        go_wp2_with fail
        refine (HNB.out _).mono ?_
        rintro e w3 ⟨rfl, hf3⟩
        have la := obj_lt hba_2
        have lb := obj_lt hbb_2
        have hl := hfw_2.size
        have hba_3 : w3.heap[w.heap.size]? = some (.cells #[.int .u8 a.k, .int .i64 a.n, .int .i64 a.hi, .string a.t] 23 (0, 0)) := by
          refine hf3.obj (fun x => x) ?_
          repeat (first | with_reducible exact hba_2 | (with_reducible refine obj_alloc_at ?_; simp; done) | (with_reducible apply obj_put4; omega) | (with_reducible apply obj_put1; omega) | (with_reducible refine obj_setCell_other ?_ _ _ ?_; rotate_left; (dsimp only; omega)) | with_reducible refine obj_alloc ?_ _ | with_reducible refine obj_drew ?_ | exact hba_2)
        have hbb_3 : w3.heap[w.heap.size + 1]? = some (.cells #[.int .u8 b.k, .int .i64 b.n, .int .i64 b.hi, .string b.t] 23 (0, 0)) := by
          refine hf3.obj (fun x => x) ?_
          repeat (first | with_reducible exact hbb_2 | (with_reducible refine obj_alloc_at ?_; simp; done) | (with_reducible apply obj_put4; omega) | (with_reducible apply obj_put1; omega) | (with_reducible refine obj_setCell_other ?_ _ _ ?_; rotate_left; (dsimp only; omega)) | with_reducible refine obj_alloc ?_ _ | with_reducible refine obj_drew ?_ | exact hbb_2)
        have hfw_3 : Fr noB w w3 := by
          refine Fr.transN ?_ hf3
          repeat (first | with_reducible exact hfw_2 | with_reducible refine Fr.alloc ?_ _ | (with_reducible refine Fr.setCell ?_ ?_ _; rotate_left; (intro h; dsimp only at h; omega)) | with_reducible refine Fr.drew ?_ | exact hfw_2)
        clear hba_2 hbb_2 la lb hl ca_0 ca_1 ca_2 ca_3 za cb_0 cb_1 cb_2 cb_3 zb hf3 hfw_2
        obtain ⟨ca_0, ca_1, ca_2, ca_3⟩ := v_cells (v := a) hba_3
        have za := frozen_of_obj hba_3
        obtain ⟨cb_0, cb_1, cb_2, cb_3⟩ := v_cells (v := b) hbb_3
        have zb := frozen_of_obj hbb_3
        go_wp2_with fail
        have la := obj_lt hba_3
        have lb := obj_lt hbb_3
        have hl := hfw_3.size
        go_ret2
        refine ⟨?_, ?_⟩
        · rw [HR.out] <;> rfl
        · skip
          repeat (first | with_reducible exact hfw_3 | with_reducible refine Fr.alloc ?_ _ | (with_reducible refine Fr.setCell ?_ ?_ _; rotate_left; (intro h; dsimp only at h; omega)) | with_reducible refine Fr.drew ?_ | exact hfw_3)

set_option maxRecDepth 100000 in
set_option maxHeartbeats 4000000 in
theorem rnot_any (a : V) (w : World) :
    Calls Try.prog 37 #[vV a] w fun e w' => e = .returned (.tuple #[vV (notV a).1, .int .i64 (notV a).2]) ∧ Fr noB w w' := by
  have HT := Lib.hid (show ∀ W : World, Calls Try.prog 74 #[.agg #[.int .u8 a.k, .int .i64 a.n, .int .i64 a.hi, .string a.t]] W fun e w' => e = .returned (.bool (areB 2 a)) ∧ Fr noB W w' from fun W => rtruth_any a W)
  have HY := Lib.hid (show ∀ W : World, Calls Try.prog 33 #[.agg #[.int .u8 a.k, .int .i64 a.n, .int .i64 a.hi, .string a.t]] W fun e w' => e = .returned (.bool (yesB a)) ∧ Fr noB W w' from fun W => ryes_any a W)
  have HO := Lib.hid (show ∀ W : World, Calls Try.prog 32 #[.bool (!yesB a)] W fun e w' => e = .returned (.agg #[.int .u8 (ofV (!yesB a)).k, .int .i64 (ofV (!yesB a)).n, .int .i64 (ofV (!yesB a)).hi, .string (ofV (!yesB a)).t]) ∧ Fr noB W w' from fun W => rof_any (!yesB a) W)
  unfold vV
  go_enter Try.func37, Try.ntmps37
  go_upto_region 1 with fail
  have hfw_0 := Fr.refl noB w
  have hl := hfw_0.size
  refine wp_world (fun W => Fr noB w W ∧ W.heap[w.heap.size]? = some (.cells #[.int .u8 a.k, .int .i64 a.n, .int .i64 a.hi, .string a.t] 23 (0, 0)) ∧ W.heap[w.heap.size + 1]? = some (.cells #[.int .u8 0, .int .i64 0, .int .i64 0, .string ⟨#[]⟩] 23 (0, 0))) ⟨?_, ?_, ?_⟩ ?_
  · skip
    repeat (first | with_reducible exact hfw_0 | with_reducible refine Fr.alloc ?_ _ | (with_reducible refine Fr.setCell ?_ ?_ _; rotate_left; (intro h; dsimp only at h; omega)) | with_reducible refine Fr.drew ?_ | exact hfw_0)
  · skip
    repeat (first | (with_reducible refine obj_alloc_at ?_; simp; done) | (with_reducible apply obj_put4; omega) | (with_reducible apply obj_put1; omega) | (with_reducible refine obj_setCell_other ?_ _ _ ?_; rotate_left; (dsimp only; omega)) | with_reducible refine obj_alloc ?_ _ | with_reducible refine obj_drew ?_)
  · skip
    repeat (first | (with_reducible refine obj_alloc_at ?_; simp; done) | (with_reducible apply obj_put4; omega) | (with_reducible apply obj_put1; omega) | (with_reducible refine obj_setCell_other ?_ _ _ ?_; rotate_left; (dsimp only; omega)) | with_reducible refine obj_alloc ?_ _ | with_reducible refine obj_drew ?_)
  clear hl hfw_0
  rintro w1 ⟨hfw_1, hba_1, hbr_1⟩
  obtain ⟨ca_0, ca_1, ca_2, ca_3⟩ := v_cells (v := a) hba_1
  have za := frozen_of_obj hba_1
  obtain ⟨cr_0, cr_1, cr_2, cr_3⟩ := v_cells (v := zV) hbr_1
  dsimp only [zV] at cr_0 cr_1 cr_2 cr_3
  have zr := frozen_of_obj hbr_1
  cases h1 : areB 2 a
  · have HR := Lib.hid (show notV a = (zV, 60) by simp [notV, h1])
    rw [h1] at HT
    clear h1
    go_wp2_with fail
    refine (HT.out _).mono ?_
    rintro e w2 ⟨rfl, hf2⟩
    have la := obj_lt hba_1
    have lr := obj_lt hbr_1
    have hl := hfw_1.size
    have hba_2 : w2.heap[w.heap.size]? = some (.cells #[.int .u8 a.k, .int .i64 a.n, .int .i64 a.hi, .string a.t] 23 (0, 0)) := by
      refine hf2.obj (fun x => x) ?_
      repeat (first | with_reducible exact hba_1 | (with_reducible refine obj_alloc_at ?_; simp; done) | (with_reducible apply obj_put4; omega) | (with_reducible apply obj_put1; omega) | (with_reducible refine obj_setCell_other ?_ _ _ ?_; rotate_left; (dsimp only; omega)) | with_reducible refine obj_alloc ?_ _ | with_reducible refine obj_drew ?_ | exact hba_1)
    have hbr_2 : w2.heap[w.heap.size + 1]? = some (.cells #[.int .u8 0, .int .i64 0, .int .i64 0, .string ⟨#[]⟩] 23 (0, 0)) := by
      refine hf2.obj (fun x => x) ?_
      repeat (first | with_reducible exact hbr_1 | (with_reducible refine obj_alloc_at ?_; simp; done) | (with_reducible apply obj_put4; omega) | (with_reducible apply obj_put1; omega) | (with_reducible refine obj_setCell_other ?_ _ _ ?_; rotate_left; (dsimp only; omega)) | with_reducible refine obj_alloc ?_ _ | with_reducible refine obj_drew ?_ | exact hbr_1)
    have hfw_2 : Fr noB w w2 := by
      refine Fr.transN ?_ hf2
      repeat (first | with_reducible exact hfw_1 | with_reducible refine Fr.alloc ?_ _ | (with_reducible refine Fr.setCell ?_ ?_ _; rotate_left; (intro h; dsimp only at h; omega)) | with_reducible refine Fr.drew ?_ | exact hfw_1)
    clear hba_1 hbr_1 la lr hl ca_0 ca_1 ca_2 ca_3 za cr_0 cr_1 cr_2 cr_3 zr hf2 hfw_1
    obtain ⟨ca_0, ca_1, ca_2, ca_3⟩ := v_cells (v := a) hba_2
    have za := frozen_of_obj hba_2
    obtain ⟨cr_0, cr_1, cr_2, cr_3⟩ := v_cells (v := zV) hbr_2
    dsimp only [zV] at cr_0 cr_1 cr_2 cr_3
    have zr := frozen_of_obj hbr_2
    go_wp2_with fail
    have la := obj_lt hba_2
    have lr := obj_lt hbr_2
    have hl := hfw_2.size
    refine bodyPost_ret (ret_val2 rfl _ _ (w.heap.size + 1) zV _ rfl rfl ?_) rfl ⟨?_, ?_⟩
    · show _ = some (Obj.cells #[.int .u8 0, .int .i64 0, .int .i64 0, .string ⟨#[]⟩] 23 (0, 0))
      repeat (first | with_reducible exact hbr_2 | (with_reducible refine obj_alloc_at ?_; simp; done) | (with_reducible apply obj_put4; omega) | (with_reducible apply obj_put1; omega) | (with_reducible refine obj_setCell_other ?_ _ _ ?_; rotate_left; (dsimp only; omega)) | with_reducible refine obj_alloc ?_ _ | with_reducible refine obj_drew ?_ | exact hbr_2)
    · rw [HR.out] <;> rfl
    · skip
      repeat (first | with_reducible exact hfw_2 | with_reducible refine Fr.alloc ?_ _ | (with_reducible refine Fr.setCell ?_ ?_ _; rotate_left; (intro h; dsimp only at h; omega)) | with_reducible refine Fr.drew ?_ | exact hfw_2)
  · rw [h1] at HT
    cases h2 : nullB a
    · have HR := Lib.hid (show notV a = (ofV (!yesB a), 0) by simp [notV, h1, h2])
      unfold nullB at h2
      clear h1
      go_wp2_with fail
      refine (HT.out _).mono ?_
      rintro e w2 ⟨rfl, hf2⟩
      have la := obj_lt hba_1
      have lr := obj_lt hbr_1
      have hl := hfw_1.size
      have hba_2 : w2.heap[w.heap.size]? = some (.cells #[.int .u8 a.k, .int .i64 a.n, .int .i64 a.hi, .string a.t] 23 (0, 0)) := by
        refine hf2.obj (fun x => x) ?_
        repeat (first | with_reducible exact hba_1 | (with_reducible refine obj_alloc_at ?_; simp; done) | (with_reducible apply obj_put4; omega) | (with_reducible apply obj_put1; omega) | (with_reducible refine obj_setCell_other ?_ _ _ ?_; rotate_left; (dsimp only; omega)) | with_reducible refine obj_alloc ?_ _ | with_reducible refine obj_drew ?_ | exact hba_1)
      have hbr_2 : w2.heap[w.heap.size + 1]? = some (.cells #[.int .u8 0, .int .i64 0, .int .i64 0, .string ⟨#[]⟩] 23 (0, 0)) := by
        refine hf2.obj (fun x => x) ?_
        repeat (first | with_reducible exact hbr_1 | (with_reducible refine obj_alloc_at ?_; simp; done) | (with_reducible apply obj_put4; omega) | (with_reducible apply obj_put1; omega) | (with_reducible refine obj_setCell_other ?_ _ _ ?_; rotate_left; (dsimp only; omega)) | with_reducible refine obj_alloc ?_ _ | with_reducible refine obj_drew ?_ | exact hbr_1)
      have hfw_2 : Fr noB w w2 := by
        refine Fr.transN ?_ hf2
        repeat (first | with_reducible exact hfw_1 | with_reducible refine Fr.alloc ?_ _ | (with_reducible refine Fr.setCell ?_ ?_ _; rotate_left; (intro h; dsimp only at h; omega)) | with_reducible refine Fr.drew ?_ | exact hfw_1)
      clear hba_1 hbr_1 la lr hl ca_0 ca_1 ca_2 ca_3 za cr_0 cr_1 cr_2 cr_3 zr hf2 hfw_1
      obtain ⟨ca_0, ca_1, ca_2, ca_3⟩ := v_cells (v := a) hba_2
      have za := frozen_of_obj hba_2
      obtain ⟨cr_0, cr_1, cr_2, cr_3⟩ := v_cells (v := zV) hbr_2
      dsimp only [zV] at cr_0 cr_1 cr_2 cr_3
      have zr := frozen_of_obj hbr_2
      go_wp2_with fail
      refine (HY.out _).mono ?_
      rintro e w3 ⟨rfl, hf3⟩
      have la := obj_lt hba_2
      have lr := obj_lt hbr_2
      have hl := hfw_2.size
      have hba_3 : w3.heap[w.heap.size]? = some (.cells #[.int .u8 a.k, .int .i64 a.n, .int .i64 a.hi, .string a.t] 23 (0, 0)) := by
        refine hf3.obj (fun x => x) ?_
        repeat (first | with_reducible exact hba_2 | (with_reducible refine obj_alloc_at ?_; simp; done) | (with_reducible apply obj_put4; omega) | (with_reducible apply obj_put1; omega) | (with_reducible refine obj_setCell_other ?_ _ _ ?_; rotate_left; (dsimp only; omega)) | with_reducible refine obj_alloc ?_ _ | with_reducible refine obj_drew ?_ | exact hba_2)
      have hbr_3 : w3.heap[w.heap.size + 1]? = some (.cells #[.int .u8 0, .int .i64 0, .int .i64 0, .string ⟨#[]⟩] 23 (0, 0)) := by
        refine hf3.obj (fun x => x) ?_
        repeat (first | with_reducible exact hbr_2 | (with_reducible refine obj_alloc_at ?_; simp; done) | (with_reducible apply obj_put4; omega) | (with_reducible apply obj_put1; omega) | (with_reducible refine obj_setCell_other ?_ _ _ ?_; rotate_left; (dsimp only; omega)) | with_reducible refine obj_alloc ?_ _ | with_reducible refine obj_drew ?_ | exact hbr_2)
      have hfw_3 : Fr noB w w3 := by
        refine Fr.transN ?_ hf3
        repeat (first | with_reducible exact hfw_2 | with_reducible refine Fr.alloc ?_ _ | (with_reducible refine Fr.setCell ?_ ?_ _; rotate_left; (intro h; dsimp only at h; omega)) | with_reducible refine Fr.drew ?_ | exact hfw_2)
      clear hba_2 hbr_2 la lr hl ca_0 ca_1 ca_2 ca_3 za cr_0 cr_1 cr_2 cr_3 zr hf3 hfw_2
      obtain ⟨ca_0, ca_1, ca_2, ca_3⟩ := v_cells (v := a) hba_3
      have za := frozen_of_obj hba_3
      obtain ⟨cr_0, cr_1, cr_2, cr_3⟩ := v_cells (v := zV) hbr_3
      dsimp only [zV] at cr_0 cr_1 cr_2 cr_3
      have zr := frozen_of_obj hbr_3
      go_wp2_with fail
      refine (HO.out _).mono ?_
      rintro e w4 ⟨rfl, hf4⟩
      have la := obj_lt hba_3
      have lr := obj_lt hbr_3
      have hl := hfw_3.size
      have hba_4 : w4.heap[w.heap.size]? = some (.cells #[.int .u8 a.k, .int .i64 a.n, .int .i64 a.hi, .string a.t] 23 (0, 0)) := by
        refine hf4.obj (fun x => x) ?_
        repeat (first | with_reducible exact hba_3 | (with_reducible refine obj_alloc_at ?_; simp; done) | (with_reducible apply obj_put4; omega) | (with_reducible apply obj_put1; omega) | (with_reducible refine obj_setCell_other ?_ _ _ ?_; rotate_left; (dsimp only; omega)) | with_reducible refine obj_alloc ?_ _ | with_reducible refine obj_drew ?_ | exact hba_3)
      have hbr_4 : w4.heap[w.heap.size + 1]? = some (.cells #[.int .u8 0, .int .i64 0, .int .i64 0, .string ⟨#[]⟩] 23 (0, 0)) := by
        refine hf4.obj (fun x => x) ?_
        repeat (first | with_reducible exact hbr_3 | (with_reducible refine obj_alloc_at ?_; simp; done) | (with_reducible apply obj_put4; omega) | (with_reducible apply obj_put1; omega) | (with_reducible refine obj_setCell_other ?_ _ _ ?_; rotate_left; (dsimp only; omega)) | with_reducible refine obj_alloc ?_ _ | with_reducible refine obj_drew ?_ | exact hbr_3)
      have hfw_4 : Fr noB w w4 := by
        refine Fr.transN ?_ hf4
        repeat (first | with_reducible exact hfw_3 | with_reducible refine Fr.alloc ?_ _ | (with_reducible refine Fr.setCell ?_ ?_ _; rotate_left; (intro h; dsimp only at h; omega)) | with_reducible refine Fr.drew ?_ | exact hfw_3)
      clear hba_3 hbr_3 la lr hl ca_0 ca_1 ca_2 ca_3 za cr_0 cr_1 cr_2 cr_3 zr hf4 hfw_3
      obtain ⟨ca_0, ca_1, ca_2, ca_3⟩ := v_cells (v := a) hba_4
      have za := frozen_of_obj hba_4
      obtain ⟨cr_0, cr_1, cr_2, cr_3⟩ := v_cells (v := zV) hbr_4
      dsimp only [zV] at cr_0 cr_1 cr_2 cr_3
      have zr := frozen_of_obj hbr_4
      go_wp2_with fail
      have la := obj_lt hba_4
      have lr := obj_lt hbr_4
      have hl := hfw_4.size
      refine bodyPost_ret (ret_val2 rfl _ _ (w.heap.size + 1) (ofV (!yesB a)) _ rfl rfl ?_) rfl ⟨?_, ?_⟩
      · show _ = some (Obj.cells #[.int .u8 (ofV (!yesB a)).k, .int .i64 (ofV (!yesB a)).n, .int .i64 (ofV (!yesB a)).hi, .string (ofV (!yesB a)).t] 23 (0, 0))
        repeat (first | with_reducible exact hbr_4 | (with_reducible refine obj_alloc_at ?_; simp; done) | (with_reducible apply obj_put4; omega) | (with_reducible apply obj_put1; omega) | (with_reducible refine obj_setCell_other ?_ _ _ ?_; rotate_left; (dsimp only; omega)) | with_reducible refine obj_alloc ?_ _ | with_reducible refine obj_drew ?_ | exact hbr_4)
      · rw [HR.out] <;> rfl
      · skip
        repeat (first | with_reducible exact hfw_4 | with_reducible refine Fr.alloc ?_ _ | (with_reducible refine Fr.setCell ?_ ?_ _; rotate_left; (intro h; dsimp only at h; omega)) | with_reducible refine Fr.drew ?_ | exact hfw_4)
    · have HR := Lib.hid (show notV a = (zV, 0) by simp [notV, h1, h2])
      unfold nullB at h2
      clear h1
      go_wp2_with fail
      refine (HT.out _).mono ?_
      rintro e w2 ⟨rfl, hf2⟩
      have la := obj_lt hba_1
      have lr := obj_lt hbr_1
      have hl := hfw_1.size
      have hba_2 : w2.heap[w.heap.size]? = some (.cells #[.int .u8 a.k, .int .i64 a.n, .int .i64 a.hi, .string a.t] 23 (0, 0)) := by
        refine hf2.obj (fun x => x) ?_
        repeat (first | with_reducible exact hba_1 | (with_reducible refine obj_alloc_at ?_; simp; done) | (with_reducible apply obj_put4; omega) | (with_reducible apply obj_put1; omega) | (with_reducible refine obj_setCell_other ?_ _ _ ?_; rotate_left; (dsimp only; omega)) | with_reducible refine obj_alloc ?_ _ | with_reducible refine obj_drew ?_ | exact hba_1)
      have hbr_2 : w2.heap[w.heap.size + 1]? = some (.cells #[.int .u8 0, .int .i64 0, .int .i64 0, .string ⟨#[]⟩] 23 (0, 0)) := by
        refine hf2.obj (fun x => x) ?_
        repeat (first | with_reducible exact hbr_1 | (with_reducible refine obj_alloc_at ?_; simp; done) | (with_reducible apply obj_put4; omega) | (with_reducible apply obj_put1; omega) | (with_reducible refine obj_setCell_other ?_ _ _ ?_; rotate_left; (dsimp only; omega)) | with_reducible refine obj_alloc ?_ _ | with_reducible refine obj_drew ?_ | exact hbr_1)
      have hfw_2 : Fr noB w w2 := by
        refine Fr.transN ?_ hf2
        repeat (first | with_reducible exact hfw_1 | with_reducible refine Fr.alloc ?_ _ | (with_reducible refine Fr.setCell ?_ ?_ _; rotate_left; (intro h; dsimp only at h; omega)) | with_reducible refine Fr.drew ?_ | exact hfw_1)
      clear hba_1 hbr_1 la lr hl ca_0 ca_1 ca_2 ca_3 za cr_0 cr_1 cr_2 cr_3 zr hf2 hfw_1
      obtain ⟨ca_0, ca_1, ca_2, ca_3⟩ := v_cells (v := a) hba_2
      have za := frozen_of_obj hba_2
      obtain ⟨cr_0, cr_1, cr_2, cr_3⟩ := v_cells (v := zV) hbr_2
      dsimp only [zV] at cr_0 cr_1 cr_2 cr_3
      have zr := frozen_of_obj hbr_2
      go_wp2_with fail
      have la := obj_lt hba_2
      have lr := obj_lt hbr_2
      have hl := hfw_2.size
      refine bodyPost_ret (ret_val2 rfl _ _ (w.heap.size + 1) zV _ rfl rfl ?_) rfl ⟨?_, ?_⟩
      · show _ = some (Obj.cells #[.int .u8 0, .int .i64 0, .int .i64 0, .string ⟨#[]⟩] 23 (0, 0))
        repeat (first | with_reducible exact hbr_2 | (with_reducible refine obj_alloc_at ?_; simp; done) | (with_reducible apply obj_put4; omega) | (with_reducible apply obj_put1; omega) | (with_reducible refine obj_setCell_other ?_ _ _ ?_; rotate_left; (dsimp only; omega)) | with_reducible refine obj_alloc ?_ _ | with_reducible refine obj_drew ?_ | exact hbr_2)
      · rw [HR.out] <;> rfl
      · skip
        repeat (first | with_reducible exact hfw_2 | with_reducible refine Fr.alloc ?_ _ | (with_reducible refine Fr.setCell ?_ ?_ _; rotate_left; (intro h; dsimp only at h; omega)) | with_reducible refine Fr.drew ?_ | exact hfw_2)

set_option maxRecDepth 100000 in
set_option maxHeartbeats 4000000 in
theorem rand_any (a b : V) (w : World) :
    Calls Try.prog 39 #[vV a, vV b] w fun e w' => e = .returned (.tuple #[vV (joinV a b false).1, .int .i64 (joinV a b false).2]) ∧ Fr noB w w' := by
  have HTa := Lib.hid (show ∀ W : World, Calls Try.prog 74 #[.agg #[.int .u8 a.k, .int .i64 a.n, .int .i64 a.hi, .string a.t]] W fun e w' => e = .returned (.bool (areB 2 a)) ∧ Fr noB W w' from fun W => rtruth_any a W)
  have HYa := Lib.hid (show ∀ W : World, Calls Try.prog 33 #[.agg #[.int .u8 a.k, .int .i64 a.n, .int .i64 a.hi, .string a.t]] W fun e w' => e = .returned (.bool (yesB a)) ∧ Fr noB W w' from fun W => ryes_any a W)
  have HTb := Lib.hid (show ∀ W : World, Calls Try.prog 74 #[.agg #[.int .u8 b.k, .int .i64 b.n, .int .i64 b.hi, .string b.t]] W fun e w' => e = .returned (.bool (areB 2 b)) ∧ Fr noB W w' from fun W => rtruth_any b W)
  have HYb := Lib.hid (show ∀ W : World, Calls Try.prog 33 #[.agg #[.int .u8 b.k, .int .i64 b.n, .int .i64 b.hi, .string b.t]] W fun e w' => e = .returned (.bool (yesB b)) ∧ Fr noB W w' from fun W => ryes_any b W)
  have HO0 := Lib.hid (show ∀ W : World, Calls Try.prog 32 #[.bool false] W fun e w' => e = .returned (.agg #[.int .u8 2, .int .i64 0, .int .i64 0, .string ⟨#[]⟩]) ∧ Fr noB W w' from fun W => rof_false W)
  have HO1 := Lib.hid (show ∀ W : World, Calls Try.prog 32 #[.bool true] W fun e w' => e = .returned (.agg #[.int .u8 2, .int .i64 1, .int .i64 0, .string ⟨#[]⟩]) ∧ Fr noB W w' from fun W => rof_true W)
  unfold vV
  go_enter Try.func39, Try.ntmps39
  go_upto_region 1 with fail
  have hfw_0 := Fr.refl noB w
  have hl := hfw_0.size
  refine wp_world (fun W => Fr noB w W ∧ W.heap[w.heap.size]? = some (.cells #[.int .u8 a.k, .int .i64 a.n, .int .i64 a.hi, .string a.t] 23 (0, 0)) ∧ W.heap[w.heap.size + 1]? = some (.cells #[.int .u8 b.k, .int .i64 b.n, .int .i64 b.hi, .string b.t] 23 (0, 0)) ∧ W.heap[w.heap.size + 2]? = some (.cells #[.int .u8 0, .int .i64 0, .int .i64 0, .string ⟨#[]⟩] 23 (0, 0))) ⟨?_, ?_, ?_, ?_⟩ ?_
  · skip
    repeat (first | with_reducible exact hfw_0 | with_reducible refine Fr.alloc ?_ _ | (with_reducible refine Fr.setCell ?_ ?_ _; rotate_left; (intro h; dsimp only at h; omega)) | with_reducible refine Fr.drew ?_ | exact hfw_0)
  · skip
    repeat (first | (with_reducible refine obj_alloc_at ?_; simp; done) | (with_reducible apply obj_put4; omega) | (with_reducible apply obj_put1; omega) | (with_reducible refine obj_setCell_other ?_ _ _ ?_; rotate_left; (dsimp only; omega)) | with_reducible refine obj_alloc ?_ _ | with_reducible refine obj_drew ?_)
  · skip
    repeat (first | (with_reducible refine obj_alloc_at ?_; simp; done) | (with_reducible apply obj_put4; omega) | (with_reducible apply obj_put1; omega) | (with_reducible refine obj_setCell_other ?_ _ _ ?_; rotate_left; (dsimp only; omega)) | with_reducible refine obj_alloc ?_ _ | with_reducible refine obj_drew ?_)
  · skip
    repeat (first | (with_reducible refine obj_alloc_at ?_; simp; done) | (with_reducible apply obj_put4; omega) | (with_reducible apply obj_put1; omega) | (with_reducible refine obj_setCell_other ?_ _ _ ?_; rotate_left; (dsimp only; omega)) | with_reducible refine obj_alloc ?_ _ | with_reducible refine obj_drew ?_)
  clear hl hfw_0
  rintro w1 ⟨hfw_1, hba_1, hbb_1, hbr_1⟩
  obtain ⟨ca_0, ca_1, ca_2, ca_3⟩ := v_cells (v := a) hba_1
  have za := frozen_of_obj hba_1
  obtain ⟨cb_0, cb_1, cb_2, cb_3⟩ := v_cells (v := b) hbb_1
  have zb := frozen_of_obj hbb_1
  obtain ⟨cr_0, cr_1, cr_2, cr_3⟩ := v_cells (v := zV) hbr_1
  dsimp only [zV] at cr_0 cr_1 cr_2 cr_3
  have zr := frozen_of_obj hbr_1
  cases h1 : areB 2 a
  · have HR := Lib.hid (show joinV a b false = (zV, 60) by simp [joinV, h1])
    rw [h1] at HTa
    clear h1
    go_wp2_with fail
    refine (HTa.out _).mono ?_
    rintro e w2 ⟨rfl, hf2⟩
    have la := obj_lt hba_1
    have lb := obj_lt hbb_1
    have lr := obj_lt hbr_1
    have hl := hfw_1.size
    have hba_2 : w2.heap[w.heap.size]? = some (.cells #[.int .u8 a.k, .int .i64 a.n, .int .i64 a.hi, .string a.t] 23 (0, 0)) := by
      refine hf2.obj (fun x => x) ?_
      repeat (first | with_reducible exact hba_1 | (with_reducible refine obj_alloc_at ?_; simp; done) | (with_reducible apply obj_put4; omega) | (with_reducible apply obj_put1; omega) | (with_reducible refine obj_setCell_other ?_ _ _ ?_; rotate_left; (dsimp only; omega)) | with_reducible refine obj_alloc ?_ _ | with_reducible refine obj_drew ?_ | exact hba_1)
    have hbb_2 : w2.heap[w.heap.size + 1]? = some (.cells #[.int .u8 b.k, .int .i64 b.n, .int .i64 b.hi, .string b.t] 23 (0, 0)) := by
      refine hf2.obj (fun x => x) ?_
      repeat (first | with_reducible exact hbb_1 | (with_reducible refine obj_alloc_at ?_; simp; done) | (with_reducible apply obj_put4; omega) | (with_reducible apply obj_put1; omega) | (with_reducible refine obj_setCell_other ?_ _ _ ?_; rotate_left; (dsimp only; omega)) | with_reducible refine obj_alloc ?_ _ | with_reducible refine obj_drew ?_ | exact hbb_1)
    have hbr_2 : w2.heap[w.heap.size + 2]? = some (.cells #[.int .u8 0, .int .i64 0, .int .i64 0, .string ⟨#[]⟩] 23 (0, 0)) := by
      refine hf2.obj (fun x => x) ?_
      repeat (first | with_reducible exact hbr_1 | (with_reducible refine obj_alloc_at ?_; simp; done) | (with_reducible apply obj_put4; omega) | (with_reducible apply obj_put1; omega) | (with_reducible refine obj_setCell_other ?_ _ _ ?_; rotate_left; (dsimp only; omega)) | with_reducible refine obj_alloc ?_ _ | with_reducible refine obj_drew ?_ | exact hbr_1)
    have hfw_2 : Fr noB w w2 := by
      refine Fr.transN ?_ hf2
      repeat (first | with_reducible exact hfw_1 | with_reducible refine Fr.alloc ?_ _ | (with_reducible refine Fr.setCell ?_ ?_ _; rotate_left; (intro h; dsimp only at h; omega)) | with_reducible refine Fr.drew ?_ | exact hfw_1)
    clear hba_1 hbb_1 hbr_1 la lb lr hl ca_0 ca_1 ca_2 ca_3 za cb_0 cb_1 cb_2 cb_3 zb cr_0 cr_1 cr_2 cr_3 zr hf2 hfw_1
    obtain ⟨ca_0, ca_1, ca_2, ca_3⟩ := v_cells (v := a) hba_2
    have za := frozen_of_obj hba_2
    obtain ⟨cb_0, cb_1, cb_2, cb_3⟩ := v_cells (v := b) hbb_2
    have zb := frozen_of_obj hbb_2
    obtain ⟨cr_0, cr_1, cr_2, cr_3⟩ := v_cells (v := zV) hbr_2
    dsimp only [zV] at cr_0 cr_1 cr_2 cr_3
    have zr := frozen_of_obj hbr_2
    go_wp2_with fail
    have la := obj_lt hba_2
    have lb := obj_lt hbb_2
    have lr := obj_lt hbr_2
    have hl := hfw_2.size
    refine bodyPost_ret (ret_val2 rfl _ _ (w.heap.size + 2) zV _ rfl rfl ?_) rfl ⟨?_, ?_⟩
    · show _ = some (Obj.cells #[.int .u8 0, .int .i64 0, .int .i64 0, .string ⟨#[]⟩] 23 (0, 0))
      repeat (first | with_reducible exact hbr_2 | (with_reducible refine obj_alloc_at ?_; simp; done) | (with_reducible apply obj_put4; omega) | (with_reducible apply obj_put1; omega) | (with_reducible refine obj_setCell_other ?_ _ _ ?_; rotate_left; (dsimp only; omega)) | with_reducible refine obj_alloc ?_ _ | with_reducible refine obj_drew ?_ | exact hbr_2)
    · rw [HR.out] <;> rfl
    · skip
      repeat (first | with_reducible exact hfw_2 | with_reducible refine Fr.alloc ?_ _ | (with_reducible refine Fr.setCell ?_ ?_ _; rotate_left; (intro h; dsimp only at h; omega)) | with_reducible refine Fr.drew ?_ | exact hfw_2)
  · rw [h1] at HTa
    cases h2 : areB 2 b
    · have HR := Lib.hid (show joinV a b false = (zV, 60) by simp [joinV, h2])
      rw [h2] at HTb
      clear h1 h2
      go_wp2_with fail
      refine (HTa.out _).mono ?_
      rintro e w2 ⟨rfl, hf2⟩
      have la := obj_lt hba_1
      have lb := obj_lt hbb_1
      have lr := obj_lt hbr_1
      have hl := hfw_1.size
      have hba_2 : w2.heap[w.heap.size]? = some (.cells #[.int .u8 a.k, .int .i64 a.n, .int .i64 a.hi, .string a.t] 23 (0, 0)) := by
        refine hf2.obj (fun x => x) ?_
        repeat (first | with_reducible exact hba_1 | (with_reducible refine obj_alloc_at ?_; simp; done) | (with_reducible apply obj_put4; omega) | (with_reducible apply obj_put1; omega) | (with_reducible refine obj_setCell_other ?_ _ _ ?_; rotate_left; (dsimp only; omega)) | with_reducible refine obj_alloc ?_ _ | with_reducible refine obj_drew ?_ | exact hba_1)
      have hbb_2 : w2.heap[w.heap.size + 1]? = some (.cells #[.int .u8 b.k, .int .i64 b.n, .int .i64 b.hi, .string b.t] 23 (0, 0)) := by
        refine hf2.obj (fun x => x) ?_
        repeat (first | with_reducible exact hbb_1 | (with_reducible refine obj_alloc_at ?_; simp; done) | (with_reducible apply obj_put4; omega) | (with_reducible apply obj_put1; omega) | (with_reducible refine obj_setCell_other ?_ _ _ ?_; rotate_left; (dsimp only; omega)) | with_reducible refine obj_alloc ?_ _ | with_reducible refine obj_drew ?_ | exact hbb_1)
      have hbr_2 : w2.heap[w.heap.size + 2]? = some (.cells #[.int .u8 0, .int .i64 0, .int .i64 0, .string ⟨#[]⟩] 23 (0, 0)) := by
        refine hf2.obj (fun x => x) ?_
        repeat (first | with_reducible exact hbr_1 | (with_reducible refine obj_alloc_at ?_; simp; done) | (with_reducible apply obj_put4; omega) | (with_reducible apply obj_put1; omega) | (with_reducible refine obj_setCell_other ?_ _ _ ?_; rotate_left; (dsimp only; omega)) | with_reducible refine obj_alloc ?_ _ | with_reducible refine obj_drew ?_ | exact hbr_1)
      have hfw_2 : Fr noB w w2 := by
        refine Fr.transN ?_ hf2
        repeat (first | with_reducible exact hfw_1 | with_reducible refine Fr.alloc ?_ _ | (with_reducible refine Fr.setCell ?_ ?_ _; rotate_left; (intro h; dsimp only at h; omega)) | with_reducible refine Fr.drew ?_ | exact hfw_1)
      clear hba_1 hbb_1 hbr_1 la lb lr hl ca_0 ca_1 ca_2 ca_3 za cb_0 cb_1 cb_2 cb_3 zb cr_0 cr_1 cr_2 cr_3 zr hf2 hfw_1
      obtain ⟨ca_0, ca_1, ca_2, ca_3⟩ := v_cells (v := a) hba_2
      have za := frozen_of_obj hba_2
      obtain ⟨cb_0, cb_1, cb_2, cb_3⟩ := v_cells (v := b) hbb_2
      have zb := frozen_of_obj hbb_2
      obtain ⟨cr_0, cr_1, cr_2, cr_3⟩ := v_cells (v := zV) hbr_2
      dsimp only [zV] at cr_0 cr_1 cr_2 cr_3
      have zr := frozen_of_obj hbr_2
      go_wp2_with fail
      refine (HTb.out _).mono ?_
      rintro e w3 ⟨rfl, hf3⟩
      have la := obj_lt hba_2
      have lb := obj_lt hbb_2
      have lr := obj_lt hbr_2
      have hl := hfw_2.size
      have hba_3 : w3.heap[w.heap.size]? = some (.cells #[.int .u8 a.k, .int .i64 a.n, .int .i64 a.hi, .string a.t] 23 (0, 0)) := by
        refine hf3.obj (fun x => x) ?_
        repeat (first | with_reducible exact hba_2 | (with_reducible refine obj_alloc_at ?_; simp; done) | (with_reducible apply obj_put4; omega) | (with_reducible apply obj_put1; omega) | (with_reducible refine obj_setCell_other ?_ _ _ ?_; rotate_left; (dsimp only; omega)) | with_reducible refine obj_alloc ?_ _ | with_reducible refine obj_drew ?_ | exact hba_2)
      have hbb_3 : w3.heap[w.heap.size + 1]? = some (.cells #[.int .u8 b.k, .int .i64 b.n, .int .i64 b.hi, .string b.t] 23 (0, 0)) := by
        refine hf3.obj (fun x => x) ?_
        repeat (first | with_reducible exact hbb_2 | (with_reducible refine obj_alloc_at ?_; simp; done) | (with_reducible apply obj_put4; omega) | (with_reducible apply obj_put1; omega) | (with_reducible refine obj_setCell_other ?_ _ _ ?_; rotate_left; (dsimp only; omega)) | with_reducible refine obj_alloc ?_ _ | with_reducible refine obj_drew ?_ | exact hbb_2)
      have hbr_3 : w3.heap[w.heap.size + 2]? = some (.cells #[.int .u8 0, .int .i64 0, .int .i64 0, .string ⟨#[]⟩] 23 (0, 0)) := by
        refine hf3.obj (fun x => x) ?_
        repeat (first | with_reducible exact hbr_2 | (with_reducible refine obj_alloc_at ?_; simp; done) | (with_reducible apply obj_put4; omega) | (with_reducible apply obj_put1; omega) | (with_reducible refine obj_setCell_other ?_ _ _ ?_; rotate_left; (dsimp only; omega)) | with_reducible refine obj_alloc ?_ _ | with_reducible refine obj_drew ?_ | exact hbr_2)
      have hfw_3 : Fr noB w w3 := by
        refine Fr.transN ?_ hf3
        repeat (first | with_reducible exact hfw_2 | with_reducible refine Fr.alloc ?_ _ | (with_reducible refine Fr.setCell ?_ ?_ _; rotate_left; (intro h; dsimp only at h; omega)) | with_reducible refine Fr.drew ?_ | exact hfw_2)
      clear hba_2 hbb_2 hbr_2 la lb lr hl ca_0 ca_1 ca_2 ca_3 za cb_0 cb_1 cb_2 cb_3 zb cr_0 cr_1 cr_2 cr_3 zr hf3 hfw_2
      obtain ⟨ca_0, ca_1, ca_2, ca_3⟩ := v_cells (v := a) hba_3
      have za := frozen_of_obj hba_3
      obtain ⟨cb_0, cb_1, cb_2, cb_3⟩ := v_cells (v := b) hbb_3
      have zb := frozen_of_obj hbb_3
      obtain ⟨cr_0, cr_1, cr_2, cr_3⟩ := v_cells (v := zV) hbr_3
      dsimp only [zV] at cr_0 cr_1 cr_2 cr_3
      have zr := frozen_of_obj hbr_3
      go_wp2_with fail
      have la := obj_lt hba_3
      have lb := obj_lt hbb_3
      have lr := obj_lt hbr_3
      have hl := hfw_3.size
      refine bodyPost_ret (ret_val2 rfl _ _ (w.heap.size + 2) zV _ rfl rfl ?_) rfl ⟨?_, ?_⟩
      · show _ = some (Obj.cells #[.int .u8 0, .int .i64 0, .int .i64 0, .string ⟨#[]⟩] 23 (0, 0))
        repeat (first | with_reducible exact hbr_3 | (with_reducible refine obj_alloc_at ?_; simp; done) | (with_reducible apply obj_put4; omega) | (with_reducible apply obj_put1; omega) | (with_reducible refine obj_setCell_other ?_ _ _ ?_; rotate_left; (dsimp only; omega)) | with_reducible refine obj_alloc ?_ _ | with_reducible refine obj_drew ?_ | exact hbr_3)
      · rw [HR.out] <;> rfl
      · skip
        repeat (first | with_reducible exact hfw_3 | with_reducible refine Fr.alloc ?_ _ | (with_reducible refine Fr.setCell ?_ ?_ _; rotate_left; (intro h; dsimp only at h; omega)) | with_reducible refine Fr.drew ?_ | exact hfw_3)
    · rw [h2] at HTb
      rcases kind3 a h1 with ⟨a2, a0, ya⟩ | ⟨a2, a0, ya⟩ | ⟨a2, a0, ya⟩
      · rw [ya] at HYa
        rcases kind3 b h2 with ⟨b2, b0, yb⟩ | ⟨b2, b0, yb⟩ | ⟨b2, b0, yb⟩
        · rw [yb] at HYb
          have HR := Lib.hid (show joinV a b false = (ofV true, 0) by simp [joinV, h1, h2, isB, nullB, a2, a0, ya, b2, b0, yb])
          clear h1 h2 ya yb
          go_wp2_with fail
          refine (HTa.out _).mono ?_
          rintro e w2 ⟨rfl, hf2⟩
          have la := obj_lt hba_1
          have lb := obj_lt hbb_1
          have lr := obj_lt hbr_1
          have hl := hfw_1.size
          have hba_2 : w2.heap[w.heap.size]? = some (.cells #[.int .u8 a.k, .int .i64 a.n, .int .i64 a.hi, .string a.t] 23 (0, 0)) := by
            refine hf2.obj (fun x => x) ?_
            repeat (first | with_reducible exact hba_1 | (with_reducible refine obj_alloc_at ?_; simp; done) | (with_reducible apply obj_put4; omega) | (with_reducible apply obj_put1; omega) | (with_reducible refine obj_setCell_other ?_ _ _ ?_; rotate_left; (dsimp only; omega)) | with_reducible refine obj_alloc ?_ _ | with_reducible refine obj_drew ?_ | exact hba_1)
          have hbb_2 : w2.heap[w.heap.size + 1]? = some (.cells #[.int .u8 b.k, .int .i64 b.n, .int .i64 b.hi, .string b.t] 23 (0, 0)) := by
            refine hf2.obj (fun x => x) ?_
            repeat (first | with_reducible exact hbb_1 | (with_reducible refine obj_alloc_at ?_; simp; done) | (with_reducible apply obj_put4; omega) | (with_reducible apply obj_put1; omega) | (with_reducible refine obj_setCell_other ?_ _ _ ?_; rotate_left; (dsimp only; omega)) | with_reducible refine obj_alloc ?_ _ | with_reducible refine obj_drew ?_ | exact hbb_1)
          have hbr_2 : w2.heap[w.heap.size + 2]? = some (.cells #[.int .u8 0, .int .i64 0, .int .i64 0, .string ⟨#[]⟩] 23 (0, 0)) := by
            refine hf2.obj (fun x => x) ?_
            repeat (first | with_reducible exact hbr_1 | (with_reducible refine obj_alloc_at ?_; simp; done) | (with_reducible apply obj_put4; omega) | (with_reducible apply obj_put1; omega) | (with_reducible refine obj_setCell_other ?_ _ _ ?_; rotate_left; (dsimp only; omega)) | with_reducible refine obj_alloc ?_ _ | with_reducible refine obj_drew ?_ | exact hbr_1)
          have hfw_2 : Fr noB w w2 := by
            refine Fr.transN ?_ hf2
            repeat (first | with_reducible exact hfw_1 | with_reducible refine Fr.alloc ?_ _ | (with_reducible refine Fr.setCell ?_ ?_ _; rotate_left; (intro h; dsimp only at h; omega)) | with_reducible refine Fr.drew ?_ | exact hfw_1)
          clear hba_1 hbb_1 hbr_1 la lb lr hl ca_0 ca_1 ca_2 ca_3 za cb_0 cb_1 cb_2 cb_3 zb cr_0 cr_1 cr_2 cr_3 zr hf2 hfw_1
          obtain ⟨ca_0, ca_1, ca_2, ca_3⟩ := v_cells (v := a) hba_2
          have za := frozen_of_obj hba_2
          obtain ⟨cb_0, cb_1, cb_2, cb_3⟩ := v_cells (v := b) hbb_2
          have zb := frozen_of_obj hbb_2
          obtain ⟨cr_0, cr_1, cr_2, cr_3⟩ := v_cells (v := zV) hbr_2
          dsimp only [zV] at cr_0 cr_1 cr_2 cr_3
          have zr := frozen_of_obj hbr_2
          go_wp2_with fail
          refine (HTb.out _).mono ?_
          rintro e w3 ⟨rfl, hf3⟩
          have la := obj_lt hba_2
          have lb := obj_lt hbb_2
          have lr := obj_lt hbr_2
          have hl := hfw_2.size
          have hba_3 : w3.heap[w.heap.size]? = some (.cells #[.int .u8 a.k, .int .i64 a.n, .int .i64 a.hi, .string a.t] 23 (0, 0)) := by
            refine hf3.obj (fun x => x) ?_
            repeat (first | with_reducible exact hba_2 | (with_reducible refine obj_alloc_at ?_; simp; done) | (with_reducible apply obj_put4; omega) | (with_reducible apply obj_put1; omega) | (with_reducible refine obj_setCell_other ?_ _ _ ?_; rotate_left; (dsimp only; omega)) | with_reducible refine obj_alloc ?_ _ | with_reducible refine obj_drew ?_ | exact hba_2)
          have hbb_3 : w3.heap[w.heap.size + 1]? = some (.cells #[.int .u8 b.k, .int .i64 b.n, .int .i64 b.hi, .string b.t] 23 (0, 0)) := by
            refine hf3.obj (fun x => x) ?_
            repeat (first | with_reducible exact hbb_2 | (with_reducible refine obj_alloc_at ?_; simp; done) | (with_reducible apply obj_put4; omega) | (with_reducible apply obj_put1; omega) | (with_reducible refine obj_setCell_other ?_ _ _ ?_; rotate_left; (dsimp only; omega)) | with_reducible refine obj_alloc ?_ _ | with_reducible refine obj_drew ?_ | exact hbb_2)
          have hbr_3 : w3.heap[w.heap.size + 2]? = some (.cells #[.int .u8 0, .int .i64 0, .int .i64 0, .string ⟨#[]⟩] 23 (0, 0)) := by
            refine hf3.obj (fun x => x) ?_
            repeat (first | with_reducible exact hbr_2 | (with_reducible refine obj_alloc_at ?_; simp; done) | (with_reducible apply obj_put4; omega) | (with_reducible apply obj_put1; omega) | (with_reducible refine obj_setCell_other ?_ _ _ ?_; rotate_left; (dsimp only; omega)) | with_reducible refine obj_alloc ?_ _ | with_reducible refine obj_drew ?_ | exact hbr_2)
          have hfw_3 : Fr noB w w3 := by
            refine Fr.transN ?_ hf3
            repeat (first | with_reducible exact hfw_2 | with_reducible refine Fr.alloc ?_ _ | (with_reducible refine Fr.setCell ?_ ?_ _; rotate_left; (intro h; dsimp only at h; omega)) | with_reducible refine Fr.drew ?_ | exact hfw_2)
          clear hba_2 hbb_2 hbr_2 la lb lr hl ca_0 ca_1 ca_2 ca_3 za cb_0 cb_1 cb_2 cb_3 zb cr_0 cr_1 cr_2 cr_3 zr hf3 hfw_2
          obtain ⟨ca_0, ca_1, ca_2, ca_3⟩ := v_cells (v := a) hba_3
          have za := frozen_of_obj hba_3
          obtain ⟨cb_0, cb_1, cb_2, cb_3⟩ := v_cells (v := b) hbb_3
          have zb := frozen_of_obj hbb_3
          obtain ⟨cr_0, cr_1, cr_2, cr_3⟩ := v_cells (v := zV) hbr_3
          dsimp only [zV] at cr_0 cr_1 cr_2 cr_3
          have zr := frozen_of_obj hbr_3
          go_wp2_with fail
          refine (HYa.out _).mono ?_
          rintro e w4 ⟨rfl, hf4⟩
          have la := obj_lt hba_3
          have lb := obj_lt hbb_3
          have lr := obj_lt hbr_3
          have hl := hfw_3.size
          have hba_4 : w4.heap[w.heap.size]? = some (.cells #[.int .u8 a.k, .int .i64 a.n, .int .i64 a.hi, .string a.t] 23 (0, 0)) := by
            refine hf4.obj (fun x => x) ?_
            repeat (first | with_reducible exact hba_3 | (with_reducible refine obj_alloc_at ?_; simp; done) | (with_reducible apply obj_put4; omega) | (with_reducible apply obj_put1; omega) | (with_reducible refine obj_setCell_other ?_ _ _ ?_; rotate_left; (dsimp only; omega)) | with_reducible refine obj_alloc ?_ _ | with_reducible refine obj_drew ?_ | exact hba_3)
          have hbb_4 : w4.heap[w.heap.size + 1]? = some (.cells #[.int .u8 b.k, .int .i64 b.n, .int .i64 b.hi, .string b.t] 23 (0, 0)) := by
            refine hf4.obj (fun x => x) ?_
            repeat (first | with_reducible exact hbb_3 | (with_reducible refine obj_alloc_at ?_; simp; done) | (with_reducible apply obj_put4; omega) | (with_reducible apply obj_put1; omega) | (with_reducible refine obj_setCell_other ?_ _ _ ?_; rotate_left; (dsimp only; omega)) | with_reducible refine obj_alloc ?_ _ | with_reducible refine obj_drew ?_ | exact hbb_3)
          have hbr_4 : w4.heap[w.heap.size + 2]? = some (.cells #[.int .u8 0, .int .i64 0, .int .i64 0, .string ⟨#[]⟩] 23 (0, 0)) := by
            refine hf4.obj (fun x => x) ?_
            repeat (first | with_reducible exact hbr_3 | (with_reducible refine obj_alloc_at ?_; simp; done) | (with_reducible apply obj_put4; omega) | (with_reducible apply obj_put1; omega) | (with_reducible refine obj_setCell_other ?_ _ _ ?_; rotate_left; (dsimp only; omega)) | with_reducible refine obj_alloc ?_ _ | with_reducible refine obj_drew ?_ | exact hbr_3)
          have hfw_4 : Fr noB w w4 := by
            refine Fr.transN ?_ hf4
            repeat (first | with_reducible exact hfw_3 | with_reducible refine Fr.alloc ?_ _ | (with_reducible refine Fr.setCell ?_ ?_ _; rotate_left; (intro h; dsimp only at h; omega)) | with_reducible refine Fr.drew ?_ | exact hfw_3)
          clear hba_3 hbb_3 hbr_3 la lb lr hl ca_0 ca_1 ca_2 ca_3 za cb_0 cb_1 cb_2 cb_3 zb cr_0 cr_1 cr_2 cr_3 zr hf4 hfw_3
          obtain ⟨ca_0, ca_1, ca_2, ca_3⟩ := v_cells (v := a) hba_4
          have za := frozen_of_obj hba_4
          obtain ⟨cb_0, cb_1, cb_2, cb_3⟩ := v_cells (v := b) hbb_4
          have zb := frozen_of_obj hbb_4
          obtain ⟨cr_0, cr_1, cr_2, cr_3⟩ := v_cells (v := zV) hbr_4
          dsimp only [zV] at cr_0 cr_1 cr_2 cr_3
          have zr := frozen_of_obj hbr_4
          go_wp2_with fail
          refine (HYb.out _).mono ?_
          rintro e w5 ⟨rfl, hf5⟩
          have la := obj_lt hba_4
          have lb := obj_lt hbb_4
          have lr := obj_lt hbr_4
          have hl := hfw_4.size
          have hba_5 : w5.heap[w.heap.size]? = some (.cells #[.int .u8 a.k, .int .i64 a.n, .int .i64 a.hi, .string a.t] 23 (0, 0)) := by
            refine hf5.obj (fun x => x) ?_
            repeat (first | with_reducible exact hba_4 | (with_reducible refine obj_alloc_at ?_; simp; done) | (with_reducible apply obj_put4; omega) | (with_reducible apply obj_put1; omega) | (with_reducible refine obj_setCell_other ?_ _ _ ?_; rotate_left; (dsimp only; omega)) | with_reducible refine obj_alloc ?_ _ | with_reducible refine obj_drew ?_ | exact hba_4)
          have hbb_5 : w5.heap[w.heap.size + 1]? = some (.cells #[.int .u8 b.k, .int .i64 b.n, .int .i64 b.hi, .string b.t] 23 (0, 0)) := by
            refine hf5.obj (fun x => x) ?_
            repeat (first | with_reducible exact hbb_4 | (with_reducible refine obj_alloc_at ?_; simp; done) | (with_reducible apply obj_put4; omega) | (with_reducible apply obj_put1; omega) | (with_reducible refine obj_setCell_other ?_ _ _ ?_; rotate_left; (dsimp only; omega)) | with_reducible refine obj_alloc ?_ _ | with_reducible refine obj_drew ?_ | exact hbb_4)
          have hbr_5 : w5.heap[w.heap.size + 2]? = some (.cells #[.int .u8 0, .int .i64 0, .int .i64 0, .string ⟨#[]⟩] 23 (0, 0)) := by
            refine hf5.obj (fun x => x) ?_
            repeat (first | with_reducible exact hbr_4 | (with_reducible refine obj_alloc_at ?_; simp; done) | (with_reducible apply obj_put4; omega) | (with_reducible apply obj_put1; omega) | (with_reducible refine obj_setCell_other ?_ _ _ ?_; rotate_left; (dsimp only; omega)) | with_reducible refine obj_alloc ?_ _ | with_reducible refine obj_drew ?_ | exact hbr_4)
          have hfw_5 : Fr noB w w5 := by
            refine Fr.transN ?_ hf5
            repeat (first | with_reducible exact hfw_4 | with_reducible refine Fr.alloc ?_ _ | (with_reducible refine Fr.setCell ?_ ?_ _; rotate_left; (intro h; dsimp only at h; omega)) | with_reducible refine Fr.drew ?_ | exact hfw_4)
          clear hba_4 hbb_4 hbr_4 la lb lr hl ca_0 ca_1 ca_2 ca_3 za cb_0 cb_1 cb_2 cb_3 zb cr_0 cr_1 cr_2 cr_3 zr hf5 hfw_4
          obtain ⟨ca_0, ca_1, ca_2, ca_3⟩ := v_cells (v := a) hba_5
          have za := frozen_of_obj hba_5
          obtain ⟨cb_0, cb_1, cb_2, cb_3⟩ := v_cells (v := b) hbb_5
          have zb := frozen_of_obj hbb_5
          obtain ⟨cr_0, cr_1, cr_2, cr_3⟩ := v_cells (v := zV) hbr_5
          dsimp only [zV] at cr_0 cr_1 cr_2 cr_3
          have zr := frozen_of_obj hbr_5
          go_wp2_with fail
          refine (HO1.out _).mono ?_
          rintro e w6 ⟨rfl, hf6⟩
          have la := obj_lt hba_5
          have lb := obj_lt hbb_5
          have lr := obj_lt hbr_5
          have hl := hfw_5.size
          have hba_6 : w6.heap[w.heap.size]? = some (.cells #[.int .u8 a.k, .int .i64 a.n, .int .i64 a.hi, .string a.t] 23 (0, 0)) := by
            refine hf6.obj (fun x => x) ?_
            repeat (first | with_reducible exact hba_5 | (with_reducible refine obj_alloc_at ?_; simp; done) | (with_reducible apply obj_put4; omega) | (with_reducible apply obj_put1; omega) | (with_reducible refine obj_setCell_other ?_ _ _ ?_; rotate_left; (dsimp only; omega)) | with_reducible refine obj_alloc ?_ _ | with_reducible refine obj_drew ?_ | exact hba_5)
          have hbb_6 : w6.heap[w.heap.size + 1]? = some (.cells #[.int .u8 b.k, .int .i64 b.n, .int .i64 b.hi, .string b.t] 23 (0, 0)) := by
            refine hf6.obj (fun x => x) ?_
            repeat (first | with_reducible exact hbb_5 | (with_reducible refine obj_alloc_at ?_; simp; done) | (with_reducible apply obj_put4; omega) | (with_reducible apply obj_put1; omega) | (with_reducible refine obj_setCell_other ?_ _ _ ?_; rotate_left; (dsimp only; omega)) | with_reducible refine obj_alloc ?_ _ | with_reducible refine obj_drew ?_ | exact hbb_5)
          have hbr_6 : w6.heap[w.heap.size + 2]? = some (.cells #[.int .u8 0, .int .i64 0, .int .i64 0, .string ⟨#[]⟩] 23 (0, 0)) := by
            refine hf6.obj (fun x => x) ?_
            repeat (first | with_reducible exact hbr_5 | (with_reducible refine obj_alloc_at ?_; simp; done) | (with_reducible apply obj_put4; omega) | (with_reducible apply obj_put1; omega) | (with_reducible refine obj_setCell_other ?_ _ _ ?_; rotate_left; (dsimp only; omega)) | with_reducible refine obj_alloc ?_ _ | with_reducible refine obj_drew ?_ | exact hbr_5)
          have hfw_6 : Fr noB w w6 := by
            refine Fr.transN ?_ hf6
            repeat (first | with_reducible exact hfw_5 | with_reducible refine Fr.alloc ?_ _ | (with_reducible refine Fr.setCell ?_ ?_ _; rotate_left; (intro h; dsimp only at h; omega)) | with_reducible refine Fr.drew ?_ | exact hfw_5)
          clear hba_5 hbb_5 hbr_5 la lb lr hl ca_0 ca_1 ca_2 ca_3 za cb_0 cb_1 cb_2 cb_3 zb cr_0 cr_1 cr_2 cr_3 zr hf6 hfw_5
          obtain ⟨ca_0, ca_1, ca_2, ca_3⟩ := v_cells (v := a) hba_6
          have za := frozen_of_obj hba_6
          obtain ⟨cb_0, cb_1, cb_2, cb_3⟩ := v_cells (v := b) hbb_6
          have zb := frozen_of_obj hbb_6
          obtain ⟨cr_0, cr_1, cr_2, cr_3⟩ := v_cells (v := zV) hbr_6
          dsimp only [zV] at cr_0 cr_1 cr_2 cr_3
          have zr := frozen_of_obj hbr_6
          go_wp2_with fail
          have la := obj_lt hba_6
          have lb := obj_lt hbb_6
          have lr := obj_lt hbr_6
          have hl := hfw_6.size
          refine bodyPost_ret (ret_val2 rfl _ _ (w.heap.size + 2) yesV _ rfl rfl ?_) rfl ⟨?_, ?_⟩
          · show _ = some (Obj.cells #[.int .u8 2, .int .i64 1, .int .i64 0, .string ⟨#[]⟩] 23 (0, 0))
            repeat (first | with_reducible exact hbr_6 | (with_reducible refine obj_alloc_at ?_; simp; done) | (with_reducible apply obj_put4; omega) | (with_reducible apply obj_put1; omega) | (with_reducible refine obj_setCell_other ?_ _ _ ?_; rotate_left; (dsimp only; omega)) | with_reducible refine obj_alloc ?_ _ | with_reducible refine obj_drew ?_ | exact hbr_6)
          · rw [HR.out] <;> rfl
          · skip
            repeat (first | with_reducible exact hfw_6 | with_reducible refine Fr.alloc ?_ _ | (with_reducible refine Fr.setCell ?_ ?_ _; rotate_left; (intro h; dsimp only at h; omega)) | with_reducible refine Fr.drew ?_ | exact hfw_6)
        · rw [yb] at HYb
          have HR := Lib.hid (show joinV a b false = (ofV false, 0) by simp [joinV, h1, h2, isB, a2, ya, b2, yb])
          clear h1 h2 ya yb
          go_wp2_with fail
          refine (HTa.out _).mono ?_
          rintro e w2 ⟨rfl, hf2⟩
          have la := obj_lt hba_1
          have lb := obj_lt hbb_1
          have lr := obj_lt hbr_1
          have hl := hfw_1.size
          have hba_2 : w2.heap[w.heap.size]? = some (.cells #[.int .u8 a.k, .int .i64 a.n, .int .i64 a.hi, .string a.t] 23 (0, 0)) := by
            refine hf2.obj (fun x => x) ?_
            repeat (first | with_reducible exact hba_1 | (with_reducible refine obj_alloc_at ?_; simp; done) | (with_reducible apply obj_put4; omega) | (with_reducible apply obj_put1; omega) | (with_reducible refine obj_setCell_other ?_ _ _ ?_; rotate_left; (dsimp only; omega)) | with_reducible refine obj_alloc ?_ _ | with_reducible refine obj_drew ?_ | exact hba_1)
          have hbb_2 : w2.heap[w.heap.size + 1]? = some (.cells #[.int .u8 b.k, .int .i64 b.n, .int .i64 b.hi, .string b.t] 23 (0, 0)) := by
            refine hf2.obj (fun x => x) ?_
            repeat (first | with_reducible exact hbb_1 | (with_reducible refine obj_alloc_at ?_; simp; done) | (with_reducible apply obj_put4; omega) | (with_reducible apply obj_put1; omega) | (with_reducible refine obj_setCell_other ?_ _ _ ?_; rotate_left; (dsimp only; omega)) | with_reducible refine obj_alloc ?_ _ | with_reducible refine obj_drew ?_ | exact hbb_1)
          have hbr_2 : w2.heap[w.heap.size + 2]? = some (.cells #[.int .u8 0, .int .i64 0, .int .i64 0, .string ⟨#[]⟩] 23 (0, 0)) := by
            refine hf2.obj (fun x => x) ?_
            repeat (first | with_reducible exact hbr_1 | (with_reducible refine obj_alloc_at ?_; simp; done) | (with_reducible apply obj_put4; omega) | (with_reducible apply obj_put1; omega) | (with_reducible refine obj_setCell_other ?_ _ _ ?_; rotate_left; (dsimp only; omega)) | with_reducible refine obj_alloc ?_ _ | with_reducible refine obj_drew ?_ | exact hbr_1)
          have hfw_2 : Fr noB w w2 := by
            refine Fr.transN ?_ hf2
            repeat (first | with_reducible exact hfw_1 | with_reducible refine Fr.alloc ?_ _ | (with_reducible refine Fr.setCell ?_ ?_ _; rotate_left; (intro h; dsimp only at h; omega)) | with_reducible refine Fr.drew ?_ | exact hfw_1)
          clear hba_1 hbb_1 hbr_1 la lb lr hl ca_0 ca_1 ca_2 ca_3 za cb_0 cb_1 cb_2 cb_3 zb cr_0 cr_1 cr_2 cr_3 zr hf2 hfw_1
          obtain ⟨ca_0, ca_1, ca_2, ca_3⟩ := v_cells (v := a) hba_2
          have za := frozen_of_obj hba_2
          obtain ⟨cb_0, cb_1, cb_2, cb_3⟩ := v_cells (v := b) hbb_2
          have zb := frozen_of_obj hbb_2
          obtain ⟨cr_0, cr_1, cr_2, cr_3⟩ := v_cells (v := zV) hbr_2
          dsimp only [zV] at cr_0 cr_1 cr_2 cr_3
          have zr := frozen_of_obj hbr_2
          go_wp2_with fail
          refine (HTb.out _).mono ?_
          rintro e w3 ⟨rfl, hf3⟩
          have la := obj_lt hba_2
          have lb := obj_lt hbb_2
          have lr := obj_lt hbr_2
          have hl := hfw_2.size
          have hba_3 : w3.heap[w.heap.size]? = some (.cells #[.int .u8 a.k, .int .i64 a.n, .int .i64 a.hi, .string a.t] 23 (0, 0)) := by
            refine hf3.obj (fun x => x) ?_
            repeat (first | with_reducible exact hba_2 | (with_reducible refine obj_alloc_at ?_; simp; done) | (with_reducible apply obj_put4; omega) | (with_reducible apply obj_put1; omega) | (with_reducible refine obj_setCell_other ?_ _ _ ?_; rotate_left; (dsimp only; omega)) | with_reducible refine obj_alloc ?_ _ | with_reducible refine obj_drew ?_ | exact hba_2)
          have hbb_3 : w3.heap[w.heap.size + 1]? = some (.cells #[.int .u8 b.k, .int .i64 b.n, .int .i64 b.hi, .string b.t] 23 (0, 0)) := by
            refine hf3.obj (fun x => x) ?_
            repeat (first | with_reducible exact hbb_2 | (with_reducible refine obj_alloc_at ?_; simp; done) | (with_reducible apply obj_put4; omega) | (with_reducible apply obj_put1; omega) | (with_reducible refine obj_setCell_other ?_ _ _ ?_; rotate_left; (dsimp only; omega)) | with_reducible refine obj_alloc ?_ _ | with_reducible refine obj_drew ?_ | exact hbb_2)
          have hbr_3 : w3.heap[w.heap.size + 2]? = some (.cells #[.int .u8 0, .int .i64 0, .int .i64 0, .string ⟨#[]⟩] 23 (0, 0)) := by
            refine hf3.obj (fun x => x) ?_
            repeat (first | with_reducible exact hbr_2 | (with_reducible refine obj_alloc_at ?_; simp; done) | (with_reducible apply obj_put4; omega) | (with_reducible apply obj_put1; omega) | (with_reducible refine obj_setCell_other ?_ _ _ ?_; rotate_left; (dsimp only; omega)) | with_reducible refine obj_alloc ?_ _ | with_reducible refine obj_drew ?_ | exact hbr_2)
          have hfw_3 : Fr noB w w3 := by
            refine Fr.transN ?_ hf3
            repeat (first | with_reducible exact hfw_2 | with_reducible refine Fr.alloc ?_ _ | (with_reducible refine Fr.setCell ?_ ?_ _; rotate_left; (intro h; dsimp only at h; omega)) | with_reducible refine Fr.drew ?_ | exact hfw_2)
          clear hba_2 hbb_2 hbr_2 la lb lr hl ca_0 ca_1 ca_2 ca_3 za cb_0 cb_1 cb_2 cb_3 zb cr_0 cr_1 cr_2 cr_3 zr hf3 hfw_2
          obtain ⟨ca_0, ca_1, ca_2, ca_3⟩ := v_cells (v := a) hba_3
          have za := frozen_of_obj hba_3
          obtain ⟨cb_0, cb_1, cb_2, cb_3⟩ := v_cells (v := b) hbb_3
          have zb := frozen_of_obj hbb_3
          obtain ⟨cr_0, cr_1, cr_2, cr_3⟩ := v_cells (v := zV) hbr_3
          dsimp only [zV] at cr_0 cr_1 cr_2 cr_3
          have zr := frozen_of_obj hbr_3
          go_wp2_with fail
          refine (HYa.out _).mono ?_
          rintro e w4 ⟨rfl, hf4⟩
          have la := obj_lt hba_3
          have lb := obj_lt hbb_3
          have lr := obj_lt hbr_3
          have hl := hfw_3.size
          have hba_4 : w4.heap[w.heap.size]? = some (.cells #[.int .u8 a.k, .int .i64 a.n, .int .i64 a.hi, .string a.t] 23 (0, 0)) := by
            refine hf4.obj (fun x => x) ?_
            repeat (first | with_reducible exact hba_3 | (with_reducible refine obj_alloc_at ?_; simp; done) | (with_reducible apply obj_put4; omega) | (with_reducible apply obj_put1; omega) | (with_reducible refine obj_setCell_other ?_ _ _ ?_; rotate_left; (dsimp only; omega)) | with_reducible refine obj_alloc ?_ _ | with_reducible refine obj_drew ?_ | exact hba_3)
          have hbb_4 : w4.heap[w.heap.size + 1]? = some (.cells #[.int .u8 b.k, .int .i64 b.n, .int .i64 b.hi, .string b.t] 23 (0, 0)) := by
            refine hf4.obj (fun x => x) ?_
            repeat (first | with_reducible exact hbb_3 | (with_reducible refine obj_alloc_at ?_; simp; done) | (with_reducible apply obj_put4; omega) | (with_reducible apply obj_put1; omega) | (with_reducible refine obj_setCell_other ?_ _ _ ?_; rotate_left; (dsimp only; omega)) | with_reducible refine obj_alloc ?_ _ | with_reducible refine obj_drew ?_ | exact hbb_3)
          have hbr_4 : w4.heap[w.heap.size + 2]? = some (.cells #[.int .u8 0, .int .i64 0, .int .i64 0, .string ⟨#[]⟩] 23 (0, 0)) := by
            refine hf4.obj (fun x => x) ?_
            repeat (first | with_reducible exact hbr_3 | (with_reducible refine obj_alloc_at ?_; simp; done) | (with_reducible apply obj_put4; omega) | (with_reducible apply obj_put1; omega) | (with_reducible refine obj_setCell_other ?_ _ _ ?_; rotate_left; (dsimp only; omega)) | with_reducible refine obj_alloc ?_ _ | with_reducible refine obj_drew ?_ | exact hbr_3)
          have hfw_4 : Fr noB w w4 := by
            refine Fr.transN ?_ hf4
            repeat (first | with_reducible exact hfw_3 | with_reducible refine Fr.alloc ?_ _ | (with_reducible refine Fr.setCell ?_ ?_ _; rotate_left; (intro h; dsimp only at h; omega)) | with_reducible refine Fr.drew ?_ | exact hfw_3)
          clear hba_3 hbb_3 hbr_3 la lb lr hl ca_0 ca_1 ca_2 ca_3 za cb_0 cb_1 cb_2 cb_3 zb cr_0 cr_1 cr_2 cr_3 zr hf4 hfw_3
          obtain ⟨ca_0, ca_1, ca_2, ca_3⟩ := v_cells (v := a) hba_4
          have za := frozen_of_obj hba_4
          obtain ⟨cb_0, cb_1, cb_2, cb_3⟩ := v_cells (v := b) hbb_4
          have zb := frozen_of_obj hbb_4
          obtain ⟨cr_0, cr_1, cr_2, cr_3⟩ := v_cells (v := zV) hbr_4
          dsimp only [zV] at cr_0 cr_1 cr_2 cr_3
          have zr := frozen_of_obj hbr_4
          go_wp2_with fail
          refine (HYb.out _).mono ?_
          rintro e w5 ⟨rfl, hf5⟩
          have la := obj_lt hba_4
          have lb := obj_lt hbb_4
          have lr := obj_lt hbr_4
          have hl := hfw_4.size
          have hba_5 : w5.heap[w.heap.size]? = some (.cells #[.int .u8 a.k, .int .i64 a.n, .int .i64 a.hi, .string a.t] 23 (0, 0)) := by
            refine hf5.obj (fun x => x) ?_
            repeat (first | with_reducible exact hba_4 | (with_reducible refine obj_alloc_at ?_; simp; done) | (with_reducible apply obj_put4; omega) | (with_reducible apply obj_put1; omega) | (with_reducible refine obj_setCell_other ?_ _ _ ?_; rotate_left; (dsimp only; omega)) | with_reducible refine obj_alloc ?_ _ | with_reducible refine obj_drew ?_ | exact hba_4)
          have hbb_5 : w5.heap[w.heap.size + 1]? = some (.cells #[.int .u8 b.k, .int .i64 b.n, .int .i64 b.hi, .string b.t] 23 (0, 0)) := by
            refine hf5.obj (fun x => x) ?_
            repeat (first | with_reducible exact hbb_4 | (with_reducible refine obj_alloc_at ?_; simp; done) | (with_reducible apply obj_put4; omega) | (with_reducible apply obj_put1; omega) | (with_reducible refine obj_setCell_other ?_ _ _ ?_; rotate_left; (dsimp only; omega)) | with_reducible refine obj_alloc ?_ _ | with_reducible refine obj_drew ?_ | exact hbb_4)
          have hbr_5 : w5.heap[w.heap.size + 2]? = some (.cells #[.int .u8 0, .int .i64 0, .int .i64 0, .string ⟨#[]⟩] 23 (0, 0)) := by
            refine hf5.obj (fun x => x) ?_
            repeat (first | with_reducible exact hbr_4 | (with_reducible refine obj_alloc_at ?_; simp; done) | (with_reducible apply obj_put4; omega) | (with_reducible apply obj_put1; omega) | (with_reducible refine obj_setCell_other ?_ _ _ ?_; rotate_left; (dsimp only; omega)) | with_reducible refine obj_alloc ?_ _ | with_reducible refine obj_drew ?_ | exact hbr_4)
          have hfw_5 : Fr noB w w5 := by
            refine Fr.transN ?_ hf5
            repeat (first | with_reducible exact hfw_4 | with_reducible refine Fr.alloc ?_ _ | (with_reducible refine Fr.setCell ?_ ?_ _; rotate_left; (intro h; dsimp only at h; omega)) | with_reducible refine Fr.drew ?_ | exact hfw_4)
          clear hba_4 hbb_4 hbr_4 la lb lr hl ca_0 ca_1 ca_2 ca_3 za cb_0 cb_1 cb_2 cb_3 zb cr_0 cr_1 cr_2 cr_3 zr hf5 hfw_4
          obtain ⟨ca_0, ca_1, ca_2, ca_3⟩ := v_cells (v := a) hba_5
          have za := frozen_of_obj hba_5
          obtain ⟨cb_0, cb_1, cb_2, cb_3⟩ := v_cells (v := b) hbb_5
          have zb := frozen_of_obj hbb_5
          obtain ⟨cr_0, cr_1, cr_2, cr_3⟩ := v_cells (v := zV) hbr_5
          dsimp only [zV] at cr_0 cr_1 cr_2 cr_3
          have zr := frozen_of_obj hbr_5
          go_wp2_with fail
          refine (HO0.out _).mono ?_
          rintro e w6 ⟨rfl, hf6⟩
          have la := obj_lt hba_5
          have lb := obj_lt hbb_5
          have lr := obj_lt hbr_5
          have hl := hfw_5.size
          have hba_6 : w6.heap[w.heap.size]? = some (.cells #[.int .u8 a.k, .int .i64 a.n, .int .i64 a.hi, .string a.t] 23 (0, 0)) := by
            refine hf6.obj (fun x => x) ?_
            repeat (first | with_reducible exact hba_5 | (with_reducible refine obj_alloc_at ?_; simp; done) | (with_reducible apply obj_put4; omega) | (with_reducible apply obj_put1; omega) | (with_reducible refine obj_setCell_other ?_ _ _ ?_; rotate_left; (dsimp only; omega)) | with_reducible refine obj_alloc ?_ _ | with_reducible refine obj_drew ?_ | exact hba_5)
          have hbb_6 : w6.heap[w.heap.size + 1]? = some (.cells #[.int .u8 b.k, .int .i64 b.n, .int .i64 b.hi, .string b.t] 23 (0, 0)) := by
            refine hf6.obj (fun x => x) ?_
            repeat (first | with_reducible exact hbb_5 | (with_reducible refine obj_alloc_at ?_; simp; done) | (with_reducible apply obj_put4; omega) | (with_reducible apply obj_put1; omega) | (with_reducible refine obj_setCell_other ?_ _ _ ?_; rotate_left; (dsimp only; omega)) | with_reducible refine obj_alloc ?_ _ | with_reducible refine obj_drew ?_ | exact hbb_5)
          have hbr_6 : w6.heap[w.heap.size + 2]? = some (.cells #[.int .u8 0, .int .i64 0, .int .i64 0, .string ⟨#[]⟩] 23 (0, 0)) := by
            refine hf6.obj (fun x => x) ?_
            repeat (first | with_reducible exact hbr_5 | (with_reducible refine obj_alloc_at ?_; simp; done) | (with_reducible apply obj_put4; omega) | (with_reducible apply obj_put1; omega) | (with_reducible refine obj_setCell_other ?_ _ _ ?_; rotate_left; (dsimp only; omega)) | with_reducible refine obj_alloc ?_ _ | with_reducible refine obj_drew ?_ | exact hbr_5)
          have hfw_6 : Fr noB w w6 := by
            refine Fr.transN ?_ hf6
            repeat (first | with_reducible exact hfw_5 | with_reducible refine Fr.alloc ?_ _ | (with_reducible refine Fr.setCell ?_ ?_ _; rotate_left; (intro h; dsimp only at h; omega)) | with_reducible refine Fr.drew ?_ | exact hfw_5)
          clear hba_5 hbb_5 hbr_5 la lb lr hl ca_0 ca_1 ca_2 ca_3 za cb_0 cb_1 cb_2 cb_3 zb cr_0 cr_1 cr_2 cr_3 zr hf6 hfw_5
          obtain ⟨ca_0, ca_1, ca_2, ca_3⟩ := v_cells (v := a) hba_6
          have za := frozen_of_obj hba_6
          obtain ⟨cb_0, cb_1, cb_2, cb_3⟩ := v_cells (v := b) hbb_6
          have zb := frozen_of_obj hbb_6
          obtain ⟨cr_0, cr_1, cr_2, cr_3⟩ := v_cells (v := zV) hbr_6
          dsimp only [zV] at cr_0 cr_1 cr_2 cr_3
          have zr := frozen_of_obj hbr_6
          go_wp2_with fail
          have la := obj_lt hba_6
          have lb := obj_lt hbb_6
          have lr := obj_lt hbr_6
          have hl := hfw_6.size
          refine bodyPost_ret (ret_val2 rfl _ _ (w.heap.size + 2) noV _ rfl rfl ?_) rfl ⟨?_, ?_⟩
          · show _ = some (Obj.cells #[.int .u8 2, .int .i64 0, .int .i64 0, .string ⟨#[]⟩] 23 (0, 0))
            repeat (first | with_reducible exact hbr_6 | (with_reducible refine obj_alloc_at ?_; simp; done) | (with_reducible apply obj_put4; omega) | (with_reducible apply obj_put1; omega) | (with_reducible refine obj_setCell_other ?_ _ _ ?_; rotate_left; (dsimp only; omega)) | with_reducible refine obj_alloc ?_ _ | with_reducible refine obj_drew ?_ | exact hbr_6)
          · rw [HR.out] <;> rfl
          · skip
            repeat (first | with_reducible exact hfw_6 | with_reducible refine Fr.alloc ?_ _ | (with_reducible refine Fr.setCell ?_ ?_ _; rotate_left; (intro h; dsimp only at h; omega)) | with_reducible refine Fr.drew ?_ | exact hfw_6)
        · rw [yb] at HYb
          have HR := Lib.hid (show joinV a b false = (zV, 0) by simp [joinV, h1, h2, isB, nullB, a2, a0, ya, b2, b0, yb])
          clear h1 h2 ya yb
          go_wp2_with fail
          refine (HTa.out _).mono ?_
          rintro e w2 ⟨rfl, hf2⟩
          have la := obj_lt hba_1
          have lb := obj_lt hbb_1
          have lr := obj_lt hbr_1
          have hl := hfw_1.size
          have hba_2 : w2.heap[w.heap.size]? = some (.cells #[.int .u8 a.k, .int .i64 a.n, .int .i64 a.hi, .string a.t] 23 (0, 0)) := by
            refine hf2.obj (fun x => x) ?_
            repeat (first | with_reducible exact hba_1 | (with_reducible refine obj_alloc_at ?_; simp; done) | (with_reducible apply obj_put4; omega) | (with_reducible apply obj_put1; omega) | (with_reducible refine obj_setCell_other ?_ _ _ ?_; rotate_left; (dsimp only; omega)) | with_reducible refine obj_alloc ?_ _ | with_reducible refine obj_drew ?_ | exact hba_1)
          have hbb_2 : w2.heap[w.heap.size + 1]? = some (.cells #[.int .u8 b.k, .int .i64 b.n, .int .i64 b.hi, .string b.t] 23 (0, 0)) := by
            refine hf2.obj (fun x => x) ?_
            repeat (first | with_reducible exact hbb_1 | (with_reducible refine obj_alloc_at ?_; simp; done) | (with_reducible apply obj_put4; omega) | (with_reducible apply obj_put1; omega) | (with_reducible refine obj_setCell_other ?_ _ _ ?_; rotate_left; (dsimp only; omega)) | with_reducible refine obj_alloc ?_ _ | with_reducible refine obj_drew ?_ | exact hbb_1)
          have hbr_2 : w2.heap[w.heap.size + 2]? = some (.cells #[.int .u8 0, .int .i64 0, .int .i64 0, .string ⟨#[]⟩] 23 (0, 0)) := by
            refine hf2.obj (fun x => x) ?_
            repeat (first | with_reducible exact hbr_1 | (with_reducible refine obj_alloc_at ?_; simp; done) | (with_reducible apply obj_put4; omega) | (with_reducible apply obj_put1; omega) | (with_reducible refine obj_setCell_other ?_ _ _ ?_; rotate_left; (dsimp only; omega)) | with_reducible refine obj_alloc ?_ _ | with_reducible refine obj_drew ?_ | exact hbr_1)
          have hfw_2 : Fr noB w w2 := by
            refine Fr.transN ?_ hf2
            repeat (first | with_reducible exact hfw_1 | with_reducible refine Fr.alloc ?_ _ | (with_reducible refine Fr.setCell ?_ ?_ _; rotate_left; (intro h; dsimp only at h; omega)) | with_reducible refine Fr.drew ?_ | exact hfw_1)
          clear hba_1 hbb_1 hbr_1 la lb lr hl ca_0 ca_1 ca_2 ca_3 za cb_0 cb_1 cb_2 cb_3 zb cr_0 cr_1 cr_2 cr_3 zr hf2 hfw_1
          obtain ⟨ca_0, ca_1, ca_2, ca_3⟩ := v_cells (v := a) hba_2
          have za := frozen_of_obj hba_2
          obtain ⟨cb_0, cb_1, cb_2, cb_3⟩ := v_cells (v := b) hbb_2
          have zb := frozen_of_obj hbb_2
          obtain ⟨cr_0, cr_1, cr_2, cr_3⟩ := v_cells (v := zV) hbr_2
          dsimp only [zV] at cr_0 cr_1 cr_2 cr_3
          have zr := frozen_of_obj hbr_2
          go_wp2_with fail
          refine (HTb.out _).mono ?_
          rintro e w3 ⟨rfl, hf3⟩
          have la := obj_lt hba_2
          have lb := obj_lt hbb_2
          have lr := obj_lt hbr_2
          have hl := hfw_2.size
          have hba_3 : w3.heap[w.heap.size]? = some (.cells #[.int .u8 a.k, .int .i64 a.n, .int .i64 a.hi, .string a.t] 23 (0, 0)) := by
            refine hf3.obj (fun x => x) ?_
            repeat (first | with_reducible exact hba_2 | (with_reducible refine obj_alloc_at ?_; simp; done) | (with_reducible apply obj_put4; omega) | (with_reducible apply obj_put1; omega) | (with_reducible refine obj_setCell_other ?_ _ _ ?_; rotate_left; (dsimp only; omega)) | with_reducible refine obj_alloc ?_ _ | with_reducible refine obj_drew ?_ | exact hba_2)
          have hbb_3 : w3.heap[w.heap.size + 1]? = some (.cells #[.int .u8 b.k, .int .i64 b.n, .int .i64 b.hi, .string b.t] 23 (0, 0)) := by
            refine hf3.obj (fun x => x) ?_
            repeat (first | with_reducible exact hbb_2 | (with_reducible refine obj_alloc_at ?_; simp; done) | (with_reducible apply obj_put4; omega) | (with_reducible apply obj_put1; omega) | (with_reducible refine obj_setCell_other ?_ _ _ ?_; rotate_left; (dsimp only; omega)) | with_reducible refine obj_alloc ?_ _ | with_reducible refine obj_drew ?_ | exact hbb_2)
          have hbr_3 : w3.heap[w.heap.size + 2]? = some (.cells #[.int .u8 0, .int .i64 0, .int .i64 0, .string ⟨#[]⟩] 23 (0, 0)) := by
            refine hf3.obj (fun x => x) ?_
            repeat (first | with_reducible exact hbr_2 | (with_reducible refine obj_alloc_at ?_; simp; done) | (with_reducible apply obj_put4; omega) | (with_reducible apply obj_put1; omega) | (with_reducible refine obj_setCell_other ?_ _ _ ?_; rotate_left; (dsimp only; omega)) | with_reducible refine obj_alloc ?_ _ | with_reducible refine obj_drew ?_ | exact hbr_2)
          have hfw_3 : Fr noB w w3 := by
            refine Fr.transN ?_ hf3
            repeat (first | with_reducible exact hfw_2 | with_reducible refine Fr.alloc ?_ _ | (with_reducible refine Fr.setCell ?_ ?_ _; rotate_left; (intro h; dsimp only at h; omega)) | with_reducible refine Fr.drew ?_ | exact hfw_2)
          clear hba_2 hbb_2 hbr_2 la lb lr hl ca_0 ca_1 ca_2 ca_3 za cb_0 cb_1 cb_2 cb_3 zb cr_0 cr_1 cr_2 cr_3 zr hf3 hfw_2
          obtain ⟨ca_0, ca_1, ca_2, ca_3⟩ := v_cells (v := a) hba_3
          have za := frozen_of_obj hba_3
          obtain ⟨cb_0, cb_1, cb_2, cb_3⟩ := v_cells (v := b) hbb_3
          have zb := frozen_of_obj hbb_3
          obtain ⟨cr_0, cr_1, cr_2, cr_3⟩ := v_cells (v := zV) hbr_3
          dsimp only [zV] at cr_0 cr_1 cr_2 cr_3
          have zr := frozen_of_obj hbr_3
          go_wp2_with fail
          refine (HYa.out _).mono ?_
          rintro e w4 ⟨rfl, hf4⟩
          have la := obj_lt hba_3
          have lb := obj_lt hbb_3
          have lr := obj_lt hbr_3
          have hl := hfw_3.size
          have hba_4 : w4.heap[w.heap.size]? = some (.cells #[.int .u8 a.k, .int .i64 a.n, .int .i64 a.hi, .string a.t] 23 (0, 0)) := by
            refine hf4.obj (fun x => x) ?_
            repeat (first | with_reducible exact hba_3 | (with_reducible refine obj_alloc_at ?_; simp; done) | (with_reducible apply obj_put4; omega) | (with_reducible apply obj_put1; omega) | (with_reducible refine obj_setCell_other ?_ _ _ ?_; rotate_left; (dsimp only; omega)) | with_reducible refine obj_alloc ?_ _ | with_reducible refine obj_drew ?_ | exact hba_3)
          have hbb_4 : w4.heap[w.heap.size + 1]? = some (.cells #[.int .u8 b.k, .int .i64 b.n, .int .i64 b.hi, .string b.t] 23 (0, 0)) := by
            refine hf4.obj (fun x => x) ?_
            repeat (first | with_reducible exact hbb_3 | (with_reducible refine obj_alloc_at ?_; simp; done) | (with_reducible apply obj_put4; omega) | (with_reducible apply obj_put1; omega) | (with_reducible refine obj_setCell_other ?_ _ _ ?_; rotate_left; (dsimp only; omega)) | with_reducible refine obj_alloc ?_ _ | with_reducible refine obj_drew ?_ | exact hbb_3)
          have hbr_4 : w4.heap[w.heap.size + 2]? = some (.cells #[.int .u8 0, .int .i64 0, .int .i64 0, .string ⟨#[]⟩] 23 (0, 0)) := by
            refine hf4.obj (fun x => x) ?_
            repeat (first | with_reducible exact hbr_3 | (with_reducible refine obj_alloc_at ?_; simp; done) | (with_reducible apply obj_put4; omega) | (with_reducible apply obj_put1; omega) | (with_reducible refine obj_setCell_other ?_ _ _ ?_; rotate_left; (dsimp only; omega)) | with_reducible refine obj_alloc ?_ _ | with_reducible refine obj_drew ?_ | exact hbr_3)
          have hfw_4 : Fr noB w w4 := by
            refine Fr.transN ?_ hf4
            repeat (first | with_reducible exact hfw_3 | with_reducible refine Fr.alloc ?_ _ | (with_reducible refine Fr.setCell ?_ ?_ _; rotate_left; (intro h; dsimp only at h; omega)) | with_reducible refine Fr.drew ?_ | exact hfw_3)
          clear hba_3 hbb_3 hbr_3 la lb lr hl ca_0 ca_1 ca_2 ca_3 za cb_0 cb_1 cb_2 cb_3 zb cr_0 cr_1 cr_2 cr_3 zr hf4 hfw_3
          obtain ⟨ca_0, ca_1, ca_2, ca_3⟩ := v_cells (v := a) hba_4
          have za := frozen_of_obj hba_4
          obtain ⟨cb_0, cb_1, cb_2, cb_3⟩ := v_cells (v := b) hbb_4
          have zb := frozen_of_obj hbb_4
          obtain ⟨cr_0, cr_1, cr_2, cr_3⟩ := v_cells (v := zV) hbr_4
          dsimp only [zV] at cr_0 cr_1 cr_2 cr_3
          have zr := frozen_of_obj hbr_4
          go_wp2_with fail
          have la := obj_lt hba_4
          have lb := obj_lt hbb_4
          have lr := obj_lt hbr_4
          have hl := hfw_4.size
          refine bodyPost_ret (ret_val2 rfl _ _ (w.heap.size + 2) zV _ rfl rfl ?_) rfl ⟨?_, ?_⟩
          · show _ = some (Obj.cells #[.int .u8 0, .int .i64 0, .int .i64 0, .string ⟨#[]⟩] 23 (0, 0))
            repeat (first | with_reducible exact hbr_4 | (with_reducible refine obj_alloc_at ?_; simp; done) | (with_reducible apply obj_put4; omega) | (with_reducible apply obj_put1; omega) | (with_reducible refine obj_setCell_other ?_ _ _ ?_; rotate_left; (dsimp only; omega)) | with_reducible refine obj_alloc ?_ _ | with_reducible refine obj_drew ?_ | exact hbr_4)
          · rw [HR.out] <;> rfl
          · skip
            repeat (first | with_reducible exact hfw_4 | with_reducible refine Fr.alloc ?_ _ | (with_reducible refine Fr.setCell ?_ ?_ _; rotate_left; (intro h; dsimp only at h; omega)) | with_reducible refine Fr.drew ?_ | exact hfw_4)
      · rw [ya] at HYa
        rcases kind3 b h2 with ⟨b2, b0, yb⟩ | ⟨b2, b0, yb⟩ | ⟨b2, b0, yb⟩
        · rw [yb] at HYb
          have HR := Lib.hid (show joinV a b false = (ofV false, 0) by simp [joinV, h1, h2, isB, a2, ya, b2, yb])
          clear h1 h2 ya yb
          go_wp2_with fail
          refine (HTa.out _).mono ?_
          rintro e w2 ⟨rfl, hf2⟩
          have la := obj_lt hba_1
          have lb := obj_lt hbb_1
          have lr := obj_lt hbr_1
          have hl := hfw_1.size
          have hba_2 : w2.heap[w.heap.size]? = some (.cells #[.int .u8 a.k, .int .i64 a.n, .int .i64 a.hi, .string a.t] 23 (0, 0)) := by
            refine hf2.obj (fun x => x) ?_
            repeat (first | with_reducible exact hba_1 | (with_reducible refine obj_alloc_at ?_; simp; done) | (with_reducible apply obj_put4; omega) | (with_reducible apply obj_put1; omega) | (with_reducible refine obj_setCell_other ?_ _ _ ?_; rotate_left; (dsimp only; omega)) | with_reducible refine obj_alloc ?_ _ | with_reducible refine obj_drew ?_ | exact hba_1)
          have hbb_2 : w2.heap[w.heap.size + 1]? = some (.cells #[.int .u8 b.k, .int .i64 b.n, .int .i64 b.hi, .string b.t] 23 (0, 0)) := by
            refine hf2.obj (fun x => x) ?_
            repeat (first | with_reducible exact hbb_1 | (with_reducible refine obj_alloc_at ?_; simp; done) | (with_reducible apply obj_put4; omega) | (with_reducible apply obj_put1; omega) | (with_reducible refine obj_setCell_other ?_ _ _ ?_; rotate_left; (dsimp only; omega)) | with_reducible refine obj_alloc ?_ _ | with_reducible refine obj_drew ?_ | exact hbb_1)
          have hbr_2 : w2.heap[w.heap.size + 2]? = some (.cells #[.int .u8 0, .int .i64 0, .int .i64 0, .string ⟨#[]⟩] 23 (0, 0)) := by
            refine hf2.obj (fun x => x) ?_
            repeat (first | with_reducible exact hbr_1 | (with_reducible refine obj_alloc_at ?_; simp; done) | (with_reducible apply obj_put4; omega) | (with_reducible apply obj_put1; omega) | (with_reducible refine obj_setCell_other ?_ _ _ ?_; rotate_left; (dsimp only; omega)) | with_reducible refine obj_alloc ?_ _ | with_reducible refine obj_drew ?_ | exact hbr_1)
          have hfw_2 : Fr noB w w2 := by
            refine Fr.transN ?_ hf2
            repeat (first | with_reducible exact hfw_1 | with_reducible refine Fr.alloc ?_ _ | (with_reducible refine Fr.setCell ?_ ?_ _; rotate_left; (intro h; dsimp only at h; omega)) | with_reducible refine Fr.drew ?_ | exact hfw_1)
          clear hba_1 hbb_1 hbr_1 la lb lr hl ca_0 ca_1 ca_2 ca_3 za cb_0 cb_1 cb_2 cb_3 zb cr_0 cr_1 cr_2 cr_3 zr hf2 hfw_1
          obtain ⟨ca_0, ca_1, ca_2, ca_3⟩ := v_cells (v := a) hba_2
          have za := frozen_of_obj hba_2
          obtain ⟨cb_0, cb_1, cb_2, cb_3⟩ := v_cells (v := b) hbb_2
          have zb := frozen_of_obj hbb_2
          obtain ⟨cr_0, cr_1, cr_2, cr_3⟩ := v_cells (v := zV) hbr_2
          dsimp only [zV] at cr_0 cr_1 cr_2 cr_3
          have zr := frozen_of_obj hbr_2
          go_wp2_with fail
          refine (HTb.out _).mono ?_
          rintro e w3 ⟨rfl, hf3⟩
          have la := obj_lt hba_2
          have lb := obj_lt hbb_2
          have lr := obj_lt hbr_2
          have hl := hfw_2.size
          have hba_3 : w3.heap[w.heap.size]? = some (.cells #[.int .u8 a.k, .int .i64 a.n, .int .i64 a.hi, .string a.t] 23 (0, 0)) := by
            refine hf3.obj (fun x => x) ?_
            repeat (first | with_reducible exact hba_2 | (with_reducible refine obj_alloc_at ?_; simp; done) | (with_reducible apply obj_put4; omega) | (with_reducible apply obj_put1; omega) | (with_reducible refine obj_setCell_other ?_ _ _ ?_; rotate_left; (dsimp only; omega)) | with_reducible refine obj_alloc ?_ _ | with_reducible refine obj_drew ?_ | exact hba_2)
          have hbb_3 : w3.heap[w.heap.size + 1]? = some (.cells #[.int .u8 b.k, .int .i64 b.n, .int .i64 b.hi, .string b.t] 23 (0, 0)) := by
            refine hf3.obj (fun x => x) ?_
            repeat (first | with_reducible exact hbb_2 | (with_reducible refine obj_alloc_at ?_; simp; done) | (with_reducible apply obj_put4; omega) | (with_reducible apply obj_put1; omega) | (with_reducible refine obj_setCell_other ?_ _ _ ?_; rotate_left; (dsimp only; omega)) | with_reducible refine obj_alloc ?_ _ | with_reducible refine obj_drew ?_ | exact hbb_2)
          have hbr_3 : w3.heap[w.heap.size + 2]? = some (.cells #[.int .u8 0, .int .i64 0, .int .i64 0, .string ⟨#[]⟩] 23 (0, 0)) := by
            refine hf3.obj (fun x => x) ?_
            repeat (first | with_reducible exact hbr_2 | (with_reducible refine obj_alloc_at ?_; simp; done) | (with_reducible apply obj_put4; omega) | (with_reducible apply obj_put1; omega) | (with_reducible refine obj_setCell_other ?_ _ _ ?_; rotate_left; (dsimp only; omega)) | with_reducible refine obj_alloc ?_ _ | with_reducible refine obj_drew ?_ | exact hbr_2)
          have hfw_3 : Fr noB w w3 := by
            refine Fr.transN ?_ hf3
            repeat (first | with_reducible exact hfw_2 | with_reducible refine Fr.alloc ?_ _ | (with_reducible refine Fr.setCell ?_ ?_ _; rotate_left; (intro h; dsimp only at h; omega)) | with_reducible refine Fr.drew ?_ | exact hfw_2)
          clear hba_2 hbb_2 hbr_2 la lb lr hl ca_0 ca_1 ca_2 ca_3 za cb_0 cb_1 cb_2 cb_3 zb cr_0 cr_1 cr_2 cr_3 zr hf3 hfw_2
          obtain ⟨ca_0, ca_1, ca_2, ca_3⟩ := v_cells (v := a) hba_3
          have za := frozen_of_obj hba_3
          obtain ⟨cb_0, cb_1, cb_2, cb_3⟩ := v_cells (v := b) hbb_3
          have zb := frozen_of_obj hbb_3
          obtain ⟨cr_0, cr_1, cr_2, cr_3⟩ := v_cells (v := zV) hbr_3
          dsimp only [zV] at cr_0 cr_1 cr_2 cr_3
          have zr := frozen_of_obj hbr_3
          go_wp2_with fail
          refine (HYa.out _).mono ?_
          rintro e w4 ⟨rfl, hf4⟩
          have la := obj_lt hba_3
          have lb := obj_lt hbb_3
          have lr := obj_lt hbr_3
          have hl := hfw_3.size
          have hba_4 : w4.heap[w.heap.size]? = some (.cells #[.int .u8 a.k, .int .i64 a.n, .int .i64 a.hi, .string a.t] 23 (0, 0)) := by
            refine hf4.obj (fun x => x) ?_
            repeat (first | with_reducible exact hba_3 | (with_reducible refine obj_alloc_at ?_; simp; done) | (with_reducible apply obj_put4; omega) | (with_reducible apply obj_put1; omega) | (with_reducible refine obj_setCell_other ?_ _ _ ?_; rotate_left; (dsimp only; omega)) | with_reducible refine obj_alloc ?_ _ | with_reducible refine obj_drew ?_ | exact hba_3)
          have hbb_4 : w4.heap[w.heap.size + 1]? = some (.cells #[.int .u8 b.k, .int .i64 b.n, .int .i64 b.hi, .string b.t] 23 (0, 0)) := by
            refine hf4.obj (fun x => x) ?_
            repeat (first | with_reducible exact hbb_3 | (with_reducible refine obj_alloc_at ?_; simp; done) | (with_reducible apply obj_put4; omega) | (with_reducible apply obj_put1; omega) | (with_reducible refine obj_setCell_other ?_ _ _ ?_; rotate_left; (dsimp only; omega)) | with_reducible refine obj_alloc ?_ _ | with_reducible refine obj_drew ?_ | exact hbb_3)
          have hbr_4 : w4.heap[w.heap.size + 2]? = some (.cells #[.int .u8 0, .int .i64 0, .int .i64 0, .string ⟨#[]⟩] 23 (0, 0)) := by
            refine hf4.obj (fun x => x) ?_
            repeat (first | with_reducible exact hbr_3 | (with_reducible refine obj_alloc_at ?_; simp; done) | (with_reducible apply obj_put4; omega) | (with_reducible apply obj_put1; omega) | (with_reducible refine obj_setCell_other ?_ _ _ ?_; rotate_left; (dsimp only; omega)) | with_reducible refine obj_alloc ?_ _ | with_reducible refine obj_drew ?_ | exact hbr_3)
          have hfw_4 : Fr noB w w4 := by
            refine Fr.transN ?_ hf4
            repeat (first | with_reducible exact hfw_3 | with_reducible refine Fr.alloc ?_ _ | (with_reducible refine Fr.setCell ?_ ?_ _; rotate_left; (intro h; dsimp only at h; omega)) | with_reducible refine Fr.drew ?_ | exact hfw_3)
          clear hba_3 hbb_3 hbr_3 la lb lr hl ca_0 ca_1 ca_2 ca_3 za cb_0 cb_1 cb_2 cb_3 zb cr_0 cr_1 cr_2 cr_3 zr hf4 hfw_3
          obtain ⟨ca_0, ca_1, ca_2, ca_3⟩ := v_cells (v := a) hba_4
          have za := frozen_of_obj hba_4
          obtain ⟨cb_0, cb_1, cb_2, cb_3⟩ := v_cells (v := b) hbb_4
          have zb := frozen_of_obj hbb_4
          obtain ⟨cr_0, cr_1, cr_2, cr_3⟩ := v_cells (v := zV) hbr_4
          dsimp only [zV] at cr_0 cr_1 cr_2 cr_3
          have zr := frozen_of_obj hbr_4
          go_wp2_with fail
          refine (HO0.out _).mono ?_
          rintro e w5 ⟨rfl, hf5⟩
          have la := obj_lt hba_4
          have lb := obj_lt hbb_4
          have lr := obj_lt hbr_4
          have hl := hfw_4.size
          have hba_5 : w5.heap[w.heap.size]? = some (.cells #[.int .u8 a.k, .int .i64 a.n, .int .i64 a.hi, .string a.t] 23 (0, 0)) := by
            refine hf5.obj (fun x => x) ?_
            repeat (first | with_reducible exact hba_4 | (with_reducible refine obj_alloc_at ?_; simp; done) | (with_reducible apply obj_put4; omega) | (with_reducible apply obj_put1; omega) | (with_reducible refine obj_setCell_other ?_ _ _ ?_; rotate_left; (dsimp only; omega)) | with_reducible refine obj_alloc ?_ _ | with_reducible refine obj_drew ?_ | exact hba_4)
          have hbb_5 : w5.heap[w.heap.size + 1]? = some (.cells #[.int .u8 b.k, .int .i64 b.n, .int .i64 b.hi, .string b.t] 23 (0, 0)) := by
            refine hf5.obj (fun x => x) ?_
            repeat (first | with_reducible exact hbb_4 | (with_reducible refine obj_alloc_at ?_; simp; done) | (with_reducible apply obj_put4; omega) | (with_reducible apply obj_put1; omega) | (with_reducible refine obj_setCell_other ?_ _ _ ?_; rotate_left; (dsimp only; omega)) | with_reducible refine obj_alloc ?_ _ | with_reducible refine obj_drew ?_ | exact hbb_4)
          have hbr_5 : w5.heap[w.heap.size + 2]? = some (.cells #[.int .u8 0, .int .i64 0, .int .i64 0, .string ⟨#[]⟩] 23 (0, 0)) := by
            refine hf5.obj (fun x => x) ?_
            repeat (first | with_reducible exact hbr_4 | (with_reducible refine obj_alloc_at ?_; simp; done) | (with_reducible apply obj_put4; omega) | (with_reducible apply obj_put1; omega) | (with_reducible refine obj_setCell_other ?_ _ _ ?_; rotate_left; (dsimp only; omega)) | with_reducible refine obj_alloc ?_ _ | with_reducible refine obj_drew ?_ | exact hbr_4)
          have hfw_5 : Fr noB w w5 := by
            refine Fr.transN ?_ hf5
            repeat (first | with_reducible exact hfw_4 | with_reducible refine Fr.alloc ?_ _ | (with_reducible refine Fr.setCell ?_ ?_ _; rotate_left; (intro h; dsimp only at h; omega)) | with_reducible refine Fr.drew ?_ | exact hfw_4)
          clear hba_4 hbb_4 hbr_4 la lb lr hl ca_0 ca_1 ca_2 ca_3 za cb_0 cb_1 cb_2 cb_3 zb cr_0 cr_1 cr_2 cr_3 zr hf5 hfw_4
          obtain ⟨ca_0, ca_1, ca_2, ca_3⟩ := v_cells (v := a) hba_5
          have za := frozen_of_obj hba_5
          obtain ⟨cb_0, cb_1, cb_2, cb_3⟩ := v_cells (v := b) hbb_5
          have zb := frozen_of_obj hbb_5
          obtain ⟨cr_0, cr_1, cr_2, cr_3⟩ := v_cells (v := zV) hbr_5
          dsimp only [zV] at cr_0 cr_1 cr_2 cr_3
          have zr := frozen_of_obj hbr_5
          go_wp2_with fail
          have la := obj_lt hba_5
          have lb := obj_lt hbb_5
          have lr := obj_lt hbr_5
          have hl := hfw_5.size
          refine bodyPost_ret (ret_val2 rfl _ _ (w.heap.size + 2) noV _ rfl rfl ?_) rfl ⟨?_, ?_⟩
          · show _ = some (Obj.cells #[.int .u8 2, .int .i64 0, .int .i64 0, .string ⟨#[]⟩] 23 (0, 0))
            repeat (first | with_reducible exact hbr_5 | (with_reducible refine obj_alloc_at ?_; simp; done) | (with_reducible apply obj_put4; omega) | (with_reducible apply obj_put1; omega) | (with_reducible refine obj_setCell_other ?_ _ _ ?_; rotate_left; (dsimp only; omega)) | with_reducible refine obj_alloc ?_ _ | with_reducible refine obj_drew ?_ | exact hbr_5)
          · rw [HR.out] <;> rfl
          · skip
            repeat (first | with_reducible exact hfw_5 | with_reducible refine Fr.alloc ?_ _ | (with_reducible refine Fr.setCell ?_ ?_ _; rotate_left; (intro h; dsimp only at h; omega)) | with_reducible refine Fr.drew ?_ | exact hfw_5)
        · rw [yb] at HYb
          have HR := Lib.hid (show joinV a b false = (ofV false, 0) by simp [joinV, h1, h2, isB, a2, ya, b2, yb])
          clear h1 h2 ya yb
          go_wp2_with fail
          refine (HTa.out _).mono ?_
          rintro e w2 ⟨rfl, hf2⟩
          have la := obj_lt hba_1
          have lb := obj_lt hbb_1
          have lr := obj_lt hbr_1
          have hl := hfw_1.size
          have hba_2 : w2.heap[w.heap.size]? = some (.cells #[.int .u8 a.k, .int .i64 a.n, .int .i64 a.hi, .string a.t] 23 (0, 0)) := by
            refine hf2.obj (fun x => x) ?_
            repeat (first | with_reducible exact hba_1 | (with_reducible refine obj_alloc_at ?_; simp; done) | (with_reducible apply obj_put4; omega) | (with_reducible apply obj_put1; omega) | (with_reducible refine obj_setCell_other ?_ _ _ ?_; rotate_left; (dsimp only; omega)) | with_reducible refine obj_alloc ?_ _ | with_reducible refine obj_drew ?_ | exact hba_1)
          have hbb_2 : w2.heap[w.heap.size + 1]? = some (.cells #[.int .u8 b.k, .int .i64 b.n, .int .i64 b.hi, .string b.t] 23 (0, 0)) := by
            refine hf2.obj (fun x => x) ?_
            repeat (first | with_reducible exact hbb_1 | (with_reducible refine obj_alloc_at ?_; simp; done) | (with_reducible apply obj_put4; omega) | (with_reducible apply obj_put1; omega) | (with_reducible refine obj_setCell_other ?_ _ _ ?_; rotate_left; (dsimp only; omega)) | with_reducible refine obj_alloc ?_ _ | with_reducible refine obj_drew ?_ | exact hbb_1)
          have hbr_2 : w2.heap[w.heap.size + 2]? = some (.cells #[.int .u8 0, .int .i64 0, .int .i64 0, .string ⟨#[]⟩] 23 (0, 0)) := by
            refine hf2.obj (fun x => x) ?_
            repeat (first | with_reducible exact hbr_1 | (with_reducible refine obj_alloc_at ?_; simp; done) | (with_reducible apply obj_put4; omega) | (with_reducible apply obj_put1; omega) | (with_reducible refine obj_setCell_other ?_ _ _ ?_; rotate_left; (dsimp only; omega)) | with_reducible refine obj_alloc ?_ _ | with_reducible refine obj_drew ?_ | exact hbr_1)
          have hfw_2 : Fr noB w w2 := by
            refine Fr.transN ?_ hf2
            repeat (first | with_reducible exact hfw_1 | with_reducible refine Fr.alloc ?_ _ | (with_reducible refine Fr.setCell ?_ ?_ _; rotate_left; (intro h; dsimp only at h; omega)) | with_reducible refine Fr.drew ?_ | exact hfw_1)
          clear hba_1 hbb_1 hbr_1 la lb lr hl ca_0 ca_1 ca_2 ca_3 za cb_0 cb_1 cb_2 cb_3 zb cr_0 cr_1 cr_2 cr_3 zr hf2 hfw_1
          obtain ⟨ca_0, ca_1, ca_2, ca_3⟩ := v_cells (v := a) hba_2
          have za := frozen_of_obj hba_2
          obtain ⟨cb_0, cb_1, cb_2, cb_3⟩ := v_cells (v := b) hbb_2
          have zb := frozen_of_obj hbb_2
          obtain ⟨cr_0, cr_1, cr_2, cr_3⟩ := v_cells (v := zV) hbr_2
          dsimp only [zV] at cr_0 cr_1 cr_2 cr_3
          have zr := frozen_of_obj hbr_2
          go_wp2_with fail
          refine (HTb.out _).mono ?_
          rintro e w3 ⟨rfl, hf3⟩
          have la := obj_lt hba_2
          have lb := obj_lt hbb_2
          have lr := obj_lt hbr_2
          have hl := hfw_2.size
          have hba_3 : w3.heap[w.heap.size]? = some (.cells #[.int .u8 a.k, .int .i64 a.n, .int .i64 a.hi, .string a.t] 23 (0, 0)) := by
            refine hf3.obj (fun x => x) ?_
            repeat (first | with_reducible exact hba_2 | (with_reducible refine obj_alloc_at ?_; simp; done) | (with_reducible apply obj_put4; omega) | (with_reducible apply obj_put1; omega) | (with_reducible refine obj_setCell_other ?_ _ _ ?_; rotate_left; (dsimp only; omega)) | with_reducible refine obj_alloc ?_ _ | with_reducible refine obj_drew ?_ | exact hba_2)
          have hbb_3 : w3.heap[w.heap.size + 1]? = some (.cells #[.int .u8 b.k, .int .i64 b.n, .int .i64 b.hi, .string b.t] 23 (0, 0)) := by
            refine hf3.obj (fun x => x) ?_
            repeat (first | with_reducible exact hbb_2 | (with_reducible refine obj_alloc_at ?_; simp; done) | (with_reducible apply obj_put4; omega) | (with_reducible apply obj_put1; omega) | (with_reducible refine obj_setCell_other ?_ _ _ ?_; rotate_left; (dsimp only; omega)) | with_reducible refine obj_alloc ?_ _ | with_reducible refine obj_drew ?_ | exact hbb_2)
          have hbr_3 : w3.heap[w.heap.size + 2]? = some (.cells #[.int .u8 0, .int .i64 0, .int .i64 0, .string ⟨#[]⟩] 23 (0, 0)) := by
            refine hf3.obj (fun x => x) ?_
            repeat (first | with_reducible exact hbr_2 | (with_reducible refine obj_alloc_at ?_; simp; done) | (with_reducible apply obj_put4; omega) | (with_reducible apply obj_put1; omega) | (with_reducible refine obj_setCell_other ?_ _ _ ?_; rotate_left; (dsimp only; omega)) | with_reducible refine obj_alloc ?_ _ | with_reducible refine obj_drew ?_ | exact hbr_2)
          have hfw_3 : Fr noB w w3 := by
            refine Fr.transN ?_ hf3
            repeat (first | with_reducible exact hfw_2 | with_reducible refine Fr.alloc ?_ _ | (with_reducible refine Fr.setCell ?_ ?_ _; rotate_left; (intro h; dsimp only at h; omega)) | with_reducible refine Fr.drew ?_ | exact hfw_2)
          clear hba_2 hbb_2 hbr_2 la lb lr hl ca_0 ca_1 ca_2 ca_3 za cb_0 cb_1 cb_2 cb_3 zb cr_0 cr_1 cr_2 cr_3 zr hf3 hfw_2
          obtain ⟨ca_0, ca_1, ca_2, ca_3⟩ := v_cells (v := a) hba_3
          have za := frozen_of_obj hba_3
          obtain ⟨cb_0, cb_1, cb_2, cb_3⟩ := v_cells (v := b) hbb_3
          have zb := frozen_of_obj hbb_3
          obtain ⟨cr_0, cr_1, cr_2, cr_3⟩ := v_cells (v := zV) hbr_3
          dsimp only [zV] at cr_0 cr_1 cr_2 cr_3
          have zr := frozen_of_obj hbr_3
          go_wp2_with fail
          refine (HYa.out _).mono ?_
          rintro e w4 ⟨rfl, hf4⟩
          have la := obj_lt hba_3
          have lb := obj_lt hbb_3
          have lr := obj_lt hbr_3
          have hl := hfw_3.size
          have hba_4 : w4.heap[w.heap.size]? = some (.cells #[.int .u8 a.k, .int .i64 a.n, .int .i64 a.hi, .string a.t] 23 (0, 0)) := by
            refine hf4.obj (fun x => x) ?_
            repeat (first | with_reducible exact hba_3 | (with_reducible refine obj_alloc_at ?_; simp; done) | (with_reducible apply obj_put4; omega) | (with_reducible apply obj_put1; omega) | (with_reducible refine obj_setCell_other ?_ _ _ ?_; rotate_left; (dsimp only; omega)) | with_reducible refine obj_alloc ?_ _ | with_reducible refine obj_drew ?_ | exact hba_3)
          have hbb_4 : w4.heap[w.heap.size + 1]? = some (.cells #[.int .u8 b.k, .int .i64 b.n, .int .i64 b.hi, .string b.t] 23 (0, 0)) := by
            refine hf4.obj (fun x => x) ?_
            repeat (first | with_reducible exact hbb_3 | (with_reducible refine obj_alloc_at ?_; simp; done) | (with_reducible apply obj_put4; omega) | (with_reducible apply obj_put1; omega) | (with_reducible refine obj_setCell_other ?_ _ _ ?_; rotate_left; (dsimp only; omega)) | with_reducible refine obj_alloc ?_ _ | with_reducible refine obj_drew ?_ | exact hbb_3)
          have hbr_4 : w4.heap[w.heap.size + 2]? = some (.cells #[.int .u8 0, .int .i64 0, .int .i64 0, .string ⟨#[]⟩] 23 (0, 0)) := by
            refine hf4.obj (fun x => x) ?_
            repeat (first | with_reducible exact hbr_3 | (with_reducible refine obj_alloc_at ?_; simp; done) | (with_reducible apply obj_put4; omega) | (with_reducible apply obj_put1; omega) | (with_reducible refine obj_setCell_other ?_ _ _ ?_; rotate_left; (dsimp only; omega)) | with_reducible refine obj_alloc ?_ _ | with_reducible refine obj_drew ?_ | exact hbr_3)
          have hfw_4 : Fr noB w w4 := by
            refine Fr.transN ?_ hf4
            repeat (first | with_reducible exact hfw_3 | with_reducible refine Fr.alloc ?_ _ | (with_reducible refine Fr.setCell ?_ ?_ _; rotate_left; (intro h; dsimp only at h; omega)) | with_reducible refine Fr.drew ?_ | exact hfw_3)
          clear hba_3 hbb_3 hbr_3 la lb lr hl ca_0 ca_1 ca_2 ca_3 za cb_0 cb_1 cb_2 cb_3 zb cr_0 cr_1 cr_2 cr_3 zr hf4 hfw_3
          obtain ⟨ca_0, ca_1, ca_2, ca_3⟩ := v_cells (v := a) hba_4
          have za := frozen_of_obj hba_4
          obtain ⟨cb_0, cb_1, cb_2, cb_3⟩ := v_cells (v := b) hbb_4
          have zb := frozen_of_obj hbb_4
          obtain ⟨cr_0, cr_1, cr_2, cr_3⟩ := v_cells (v := zV) hbr_4
          dsimp only [zV] at cr_0 cr_1 cr_2 cr_3
          have zr := frozen_of_obj hbr_4
          go_wp2_with fail
          refine (HO0.out _).mono ?_
          rintro e w5 ⟨rfl, hf5⟩
          have la := obj_lt hba_4
          have lb := obj_lt hbb_4
          have lr := obj_lt hbr_4
          have hl := hfw_4.size
          have hba_5 : w5.heap[w.heap.size]? = some (.cells #[.int .u8 a.k, .int .i64 a.n, .int .i64 a.hi, .string a.t] 23 (0, 0)) := by
            refine hf5.obj (fun x => x) ?_
            repeat (first | with_reducible exact hba_4 | (with_reducible refine obj_alloc_at ?_; simp; done) | (with_reducible apply obj_put4; omega) | (with_reducible apply obj_put1; omega) | (with_reducible refine obj_setCell_other ?_ _ _ ?_; rotate_left; (dsimp only; omega)) | with_reducible refine obj_alloc ?_ _ | with_reducible refine obj_drew ?_ | exact hba_4)
          have hbb_5 : w5.heap[w.heap.size + 1]? = some (.cells #[.int .u8 b.k, .int .i64 b.n, .int .i64 b.hi, .string b.t] 23 (0, 0)) := by
            refine hf5.obj (fun x => x) ?_
            repeat (first | with_reducible exact hbb_4 | (with_reducible refine obj_alloc_at ?_; simp; done) | (with_reducible apply obj_put4; omega) | (with_reducible apply obj_put1; omega) | (with_reducible refine obj_setCell_other ?_ _ _ ?_; rotate_left; (dsimp only; omega)) | with_reducible refine obj_alloc ?_ _ | with_reducible refine obj_drew ?_ | exact hbb_4)
          have hbr_5 : w5.heap[w.heap.size + 2]? = some (.cells #[.int .u8 0, .int .i64 0, .int .i64 0, .string ⟨#[]⟩] 23 (0, 0)) := by
            refine hf5.obj (fun x => x) ?_
            repeat (first | with_reducible exact hbr_4 | (with_reducible refine obj_alloc_at ?_; simp; done) | (with_reducible apply obj_put4; omega) | (with_reducible apply obj_put1; omega) | (with_reducible refine obj_setCell_other ?_ _ _ ?_; rotate_left; (dsimp only; omega)) | with_reducible refine obj_alloc ?_ _ | with_reducible refine obj_drew ?_ | exact hbr_4)
          have hfw_5 : Fr noB w w5 := by
            refine Fr.transN ?_ hf5
            repeat (first | with_reducible exact hfw_4 | with_reducible refine Fr.alloc ?_ _ | (with_reducible refine Fr.setCell ?_ ?_ _; rotate_left; (intro h; dsimp only at h; omega)) | with_reducible refine Fr.drew ?_ | exact hfw_4)
          clear hba_4 hbb_4 hbr_4 la lb lr hl ca_0 ca_1 ca_2 ca_3 za cb_0 cb_1 cb_2 cb_3 zb cr_0 cr_1 cr_2 cr_3 zr hf5 hfw_4
          obtain ⟨ca_0, ca_1, ca_2, ca_3⟩ := v_cells (v := a) hba_5
          have za := frozen_of_obj hba_5
          obtain ⟨cb_0, cb_1, cb_2, cb_3⟩ := v_cells (v := b) hbb_5
          have zb := frozen_of_obj hbb_5
          obtain ⟨cr_0, cr_1, cr_2, cr_3⟩ := v_cells (v := zV) hbr_5
          dsimp only [zV] at cr_0 cr_1 cr_2 cr_3
          have zr := frozen_of_obj hbr_5
          go_wp2_with fail
          have la := obj_lt hba_5
          have lb := obj_lt hbb_5
          have lr := obj_lt hbr_5
          have hl := hfw_5.size
          refine bodyPost_ret (ret_val2 rfl _ _ (w.heap.size + 2) noV _ rfl rfl ?_) rfl ⟨?_, ?_⟩
          · show _ = some (Obj.cells #[.int .u8 2, .int .i64 0, .int .i64 0, .string ⟨#[]⟩] 23 (0, 0))
            repeat (first | with_reducible exact hbr_5 | (with_reducible refine obj_alloc_at ?_; simp; done) | (with_reducible apply obj_put4; omega) | (with_reducible apply obj_put1; omega) | (with_reducible refine obj_setCell_other ?_ _ _ ?_; rotate_left; (dsimp only; omega)) | with_reducible refine obj_alloc ?_ _ | with_reducible refine obj_drew ?_ | exact hbr_5)
          · rw [HR.out] <;> rfl
          · skip
            repeat (first | with_reducible exact hfw_5 | with_reducible refine Fr.alloc ?_ _ | (with_reducible refine Fr.setCell ?_ ?_ _; rotate_left; (intro h; dsimp only at h; omega)) | with_reducible refine Fr.drew ?_ | exact hfw_5)
        · rw [yb] at HYb
          have HR := Lib.hid (show joinV a b false = (ofV false, 0) by simp [joinV, h1, h2, isB, a2, ya, b2, yb])
          clear h1 h2 ya yb
          go_wp2_with fail
          refine (HTa.out _).mono ?_
          rintro e w2 ⟨rfl, hf2⟩
          have la := obj_lt hba_1
          have lb := obj_lt hbb_1
          have lr := obj_lt hbr_1
          have hl := hfw_1.size
          have hba_2 : w2.heap[w.heap.size]? = some (.cells #[.int .u8 a.k, .int .i64 a.n, .int .i64 a.hi, .string a.t] 23 (0, 0)) := by
            refine hf2.obj (fun x => x) ?_
            repeat (first | with_reducible exact hba_1 | (with_reducible refine obj_alloc_at ?_; simp; done) | (with_reducible apply obj_put4; omega) | (with_reducible apply obj_put1; omega) | (with_reducible refine obj_setCell_other ?_ _ _ ?_; rotate_left; (dsimp only; omega)) | with_reducible refine obj_alloc ?_ _ | with_reducible refine obj_drew ?_ | exact hba_1)
          have hbb_2 : w2.heap[w.heap.size + 1]? = some (.cells #[.int .u8 b.k, .int .i64 b.n, .int .i64 b.hi, .string b.t] 23 (0, 0)) := by
            refine hf2.obj (fun x => x) ?_
            repeat (first | with_reducible exact hbb_1 | (with_reducible refine obj_alloc_at ?_; simp; done) | (with_reducible apply obj_put4; omega) | (with_reducible apply obj_put1; omega) | (with_reducible refine obj_setCell_other ?_ _ _ ?_; rotate_left; (dsimp only; omega)) | with_reducible refine obj_alloc ?_ _ | with_reducible refine obj_drew ?_ | exact hbb_1)
          have hbr_2 : w2.heap[w.heap.size + 2]? = some (.cells #[.int .u8 0, .int .i64 0, .int .i64 0, .string ⟨#[]⟩] 23 (0, 0)) := by
            refine hf2.obj (fun x => x) ?_
            repeat (first | with_reducible exact hbr_1 | (with_reducible refine obj_alloc_at ?_; simp; done) | (with_reducible apply obj_put4; omega) | (with_reducible apply obj_put1; omega) | (with_reducible refine obj_setCell_other ?_ _ _ ?_; rotate_left; (dsimp only; omega)) | with_reducible refine obj_alloc ?_ _ | with_reducible refine obj_drew ?_ | exact hbr_1)
          have hfw_2 : Fr noB w w2 := by
            refine Fr.transN ?_ hf2
            repeat (first | with_reducible exact hfw_1 | with_reducible refine Fr.alloc ?_ _ | (with_reducible refine Fr.setCell ?_ ?_ _; rotate_left; (intro h; dsimp only at h; omega)) | with_reducible refine Fr.drew ?_ | exact hfw_1)
          clear hba_1 hbb_1 hbr_1 la lb lr hl ca_0 ca_1 ca_2 ca_3 za cb_0 cb_1 cb_2 cb_3 zb cr_0 cr_1 cr_2 cr_3 zr hf2 hfw_1
          obtain ⟨ca_0, ca_1, ca_2, ca_3⟩ := v_cells (v := a) hba_2
          have za := frozen_of_obj hba_2
          obtain ⟨cb_0, cb_1, cb_2, cb_3⟩ := v_cells (v := b) hbb_2
          have zb := frozen_of_obj hbb_2
          obtain ⟨cr_0, cr_1, cr_2, cr_3⟩ := v_cells (v := zV) hbr_2
          dsimp only [zV] at cr_0 cr_1 cr_2 cr_3
          have zr := frozen_of_obj hbr_2
          go_wp2_with fail
          refine (HTb.out _).mono ?_
          rintro e w3 ⟨rfl, hf3⟩
          have la := obj_lt hba_2
          have lb := obj_lt hbb_2
          have lr := obj_lt hbr_2
          have hl := hfw_2.size
          have hba_3 : w3.heap[w.heap.size]? = some (.cells #[.int .u8 a.k, .int .i64 a.n, .int .i64 a.hi, .string a.t] 23 (0, 0)) := by
            refine hf3.obj (fun x => x) ?_
            repeat (first | with_reducible exact hba_2 | (with_reducible refine obj_alloc_at ?_; simp; done) | (with_reducible apply obj_put4; omega) | (with_reducible apply obj_put1; omega) | (with_reducible refine obj_setCell_other ?_ _ _ ?_; rotate_left; (dsimp only; omega)) | with_reducible refine obj_alloc ?_ _ | with_reducible refine obj_drew ?_ | exact hba_2)
          have hbb_3 : w3.heap[w.heap.size + 1]? = some (.cells #[.int .u8 b.k, .int .i64 b.n, .int .i64 b.hi, .string b.t] 23 (0, 0)) := by
            refine hf3.obj (fun x => x) ?_
            repeat (first | with_reducible exact hbb_2 | (with_reducible refine obj_alloc_at ?_; simp; done) | (with_reducible apply obj_put4; omega) | (with_reducible apply obj_put1; omega) | (with_reducible refine obj_setCell_other ?_ _ _ ?_; rotate_left; (dsimp only; omega)) | with_reducible refine obj_alloc ?_ _ | with_reducible refine obj_drew ?_ | exact hbb_2)
          have hbr_3 : w3.heap[w.heap.size + 2]? = some (.cells #[.int .u8 0, .int .i64 0, .int .i64 0, .string ⟨#[]⟩] 23 (0, 0)) := by
            refine hf3.obj (fun x => x) ?_
            repeat (first | with_reducible exact hbr_2 | (with_reducible refine obj_alloc_at ?_; simp; done) | (with_reducible apply obj_put4; omega) | (with_reducible apply obj_put1; omega) | (with_reducible refine obj_setCell_other ?_ _ _ ?_; rotate_left; (dsimp only; omega)) | with_reducible refine obj_alloc ?_ _ | with_reducible refine obj_drew ?_ | exact hbr_2)
          have hfw_3 : Fr noB w w3 := by
            refine Fr.transN ?_ hf3
            repeat (first | with_reducible exact hfw_2 | with_reducible refine Fr.alloc ?_ _ | (with_reducible refine Fr.setCell ?_ ?_ _; rotate_left; (intro h; dsimp only at h; omega)) | with_reducible refine Fr.drew ?_ | exact hfw_2)
          clear hba_2 hbb_2 hbr_2 la lb lr hl ca_0 ca_1 ca_2 ca_3 za cb_0 cb_1 cb_2 cb_3 zb cr_0 cr_1 cr_2 cr_3 zr hf3 hfw_2
          obtain ⟨ca_0, ca_1, ca_2, ca_3⟩ := v_cells (v := a) hba_3
          have za := frozen_of_obj hba_3
          obtain ⟨cb_0, cb_1, cb_2, cb_3⟩ := v_cells (v := b) hbb_3
          have zb := frozen_of_obj hbb_3
          obtain ⟨cr_0, cr_1, cr_2, cr_3⟩ := v_cells (v := zV) hbr_3
          dsimp only [zV] at cr_0 cr_1 cr_2 cr_3
          have zr := frozen_of_obj hbr_3
          go_wp2_with fail
          refine (HYa.out _).mono ?_
          rintro e w4 ⟨rfl, hf4⟩
          have la := obj_lt hba_3
          have lb := obj_lt hbb_3
          have lr := obj_lt hbr_3
          have hl := hfw_3.size
          have hba_4 : w4.heap[w.heap.size]? = some (.cells #[.int .u8 a.k, .int .i64 a.n, .int .i64 a.hi, .string a.t] 23 (0, 0)) := by
            refine hf4.obj (fun x => x) ?_
            repeat (first | with_reducible exact hba_3 | (with_reducible refine obj_alloc_at ?_; simp; done) | (with_reducible apply obj_put4; omega) | (with_reducible apply obj_put1; omega) | (with_reducible refine obj_setCell_other ?_ _ _ ?_; rotate_left; (dsimp only; omega)) | with_reducible refine obj_alloc ?_ _ | with_reducible refine obj_drew ?_ | exact hba_3)
          have hbb_4 : w4.heap[w.heap.size + 1]? = some (.cells #[.int .u8 b.k, .int .i64 b.n, .int .i64 b.hi, .string b.t] 23 (0, 0)) := by
            refine hf4.obj (fun x => x) ?_
            repeat (first | with_reducible exact hbb_3 | (with_reducible refine obj_alloc_at ?_; simp; done) | (with_reducible apply obj_put4; omega) | (with_reducible apply obj_put1; omega) | (with_reducible refine obj_setCell_other ?_ _ _ ?_; rotate_left; (dsimp only; omega)) | with_reducible refine obj_alloc ?_ _ | with_reducible refine obj_drew ?_ | exact hbb_3)
          have hbr_4 : w4.heap[w.heap.size + 2]? = some (.cells #[.int .u8 0, .int .i64 0, .int .i64 0, .string ⟨#[]⟩] 23 (0, 0)) := by
            refine hf4.obj (fun x => x) ?_
            repeat (first | with_reducible exact hbr_3 | (with_reducible refine obj_alloc_at ?_; simp; done) | (with_reducible apply obj_put4; omega) | (with_reducible apply obj_put1; omega) | (with_reducible refine obj_setCell_other ?_ _ _ ?_; rotate_left; (dsimp only; omega)) | with_reducible refine obj_alloc ?_ _ | with_reducible refine obj_drew ?_ | exact hbr_3)
          have hfw_4 : Fr noB w w4 := by
            refine Fr.transN ?_ hf4
            repeat (first | with_reducible exact hfw_3 | with_reducible refine Fr.alloc ?_ _ | (with_reducible refine Fr.setCell ?_ ?_ _; rotate_left; (intro h; dsimp only at h; omega)) | with_reducible refine Fr.drew ?_ | exact hfw_3)
          clear hba_3 hbb_3 hbr_3 la lb lr hl ca_0 ca_1 ca_2 ca_3 za cb_0 cb_1 cb_2 cb_3 zb cr_0 cr_1 cr_2 cr_3 zr hf4 hfw_3
          obtain ⟨ca_0, ca_1, ca_2, ca_3⟩ := v_cells (v := a) hba_4
          have za := frozen_of_obj hba_4
          obtain ⟨cb_0, cb_1, cb_2, cb_3⟩ := v_cells (v := b) hbb_4
          have zb := frozen_of_obj hbb_4
          obtain ⟨cr_0, cr_1, cr_2, cr_3⟩ := v_cells (v := zV) hbr_4
          dsimp only [zV] at cr_0 cr_1 cr_2 cr_3
          have zr := frozen_of_obj hbr_4
          go_wp2_with fail
          refine (HO0.out _).mono ?_
          rintro e w5 ⟨rfl, hf5⟩
          have la := obj_lt hba_4
          have lb := obj_lt hbb_4
          have lr := obj_lt hbr_4
          have hl := hfw_4.size
          have hba_5 : w5.heap[w.heap.size]? = some (.cells #[.int .u8 a.k, .int .i64 a.n, .int .i64 a.hi, .string a.t] 23 (0, 0)) := by
            refine hf5.obj (fun x => x) ?_
            repeat (first | with_reducible exact hba_4 | (with_reducible refine obj_alloc_at ?_; simp; done) | (with_reducible apply obj_put4; omega) | (with_reducible apply obj_put1; omega) | (with_reducible refine obj_setCell_other ?_ _ _ ?_; rotate_left; (dsimp only; omega)) | with_reducible refine obj_alloc ?_ _ | with_reducible refine obj_drew ?_ | exact hba_4)
          have hbb_5 : w5.heap[w.heap.size + 1]? = some (.cells #[.int .u8 b.k, .int .i64 b.n, .int .i64 b.hi, .string b.t] 23 (0, 0)) := by
            refine hf5.obj (fun x => x) ?_
            repeat (first | with_reducible exact hbb_4 | (with_reducible refine obj_alloc_at ?_; simp; done) | (with_reducible apply obj_put4; omega) | (with_reducible apply obj_put1; omega) | (with_reducible refine obj_setCell_other ?_ _ _ ?_; rotate_left; (dsimp only; omega)) | with_reducible refine obj_alloc ?_ _ | with_reducible refine obj_drew ?_ | exact hbb_4)
          have hbr_5 : w5.heap[w.heap.size + 2]? = some (.cells #[.int .u8 0, .int .i64 0, .int .i64 0, .string ⟨#[]⟩] 23 (0, 0)) := by
            refine hf5.obj (fun x => x) ?_
            repeat (first | with_reducible exact hbr_4 | (with_reducible refine obj_alloc_at ?_; simp; done) | (with_reducible apply obj_put4; omega) | (with_reducible apply obj_put1; omega) | (with_reducible refine obj_setCell_other ?_ _ _ ?_; rotate_left; (dsimp only; omega)) | with_reducible refine obj_alloc ?_ _ | with_reducible refine obj_drew ?_ | exact hbr_4)
          have hfw_5 : Fr noB w w5 := by
            refine Fr.transN ?_ hf5
            repeat (first | with_reducible exact hfw_4 | with_reducible refine Fr.alloc ?_ _ | (with_reducible refine Fr.setCell ?_ ?_ _; rotate_left; (intro h; dsimp only at h; omega)) | with_reducible refine Fr.drew ?_ | exact hfw_4)
          clear hba_4 hbb_4 hbr_4 la lb lr hl ca_0 ca_1 ca_2 ca_3 za cb_0 cb_1 cb_2 cb_3 zb cr_0 cr_1 cr_2 cr_3 zr hf5 hfw_4
          obtain ⟨ca_0, ca_1, ca_2, ca_3⟩ := v_cells (v := a) hba_5
          have za := frozen_of_obj hba_5
          obtain ⟨cb_0, cb_1, cb_2, cb_3⟩ := v_cells (v := b) hbb_5
          have zb := frozen_of_obj hbb_5
          obtain ⟨cr_0, cr_1, cr_2, cr_3⟩ := v_cells (v := zV) hbr_5
          dsimp only [zV] at cr_0 cr_1 cr_2 cr_3
          have zr := frozen_of_obj hbr_5
          go_wp2_with fail
          have la := obj_lt hba_5
          have lb := obj_lt hbb_5
          have lr := obj_lt hbr_5
          have hl := hfw_5.size
          refine bodyPost_ret (ret_val2 rfl _ _ (w.heap.size + 2) noV _ rfl rfl ?_) rfl ⟨?_, ?_⟩
          · show _ = some (Obj.cells #[.int .u8 2, .int .i64 0, .int .i64 0, .string ⟨#[]⟩] 23 (0, 0))
            repeat (first | with_reducible exact hbr_5 | (with_reducible refine obj_alloc_at ?_; simp; done) | (with_reducible apply obj_put4; omega) | (with_reducible apply obj_put1; omega) | (with_reducible refine obj_setCell_other ?_ _ _ ?_; rotate_left; (dsimp only; omega)) | with_reducible refine obj_alloc ?_ _ | with_reducible refine obj_drew ?_ | exact hbr_5)
          · rw [HR.out] <;> rfl
          · skip
            repeat (first | with_reducible exact hfw_5 | with_reducible refine Fr.alloc ?_ _ | (with_reducible refine Fr.setCell ?_ ?_ _; rotate_left; (intro h; dsimp only at h; omega)) | with_reducible refine Fr.drew ?_ | exact hfw_5)
      · rw [ya] at HYa
        rcases kind3 b h2 with ⟨b2, b0, yb⟩ | ⟨b2, b0, yb⟩ | ⟨b2, b0, yb⟩
        · rw [yb] at HYb
          have HR := Lib.hid (show joinV a b false = (zV, 0) by simp [joinV, h1, h2, isB, nullB, a2, a0, ya, b2, b0, yb])
          clear h1 h2 ya yb
          go_wp2_with fail
          refine (HTa.out _).mono ?_
          rintro e w2 ⟨rfl, hf2⟩
          have la := obj_lt hba_1
          have lb := obj_lt hbb_1
          have lr := obj_lt hbr_1
          have hl := hfw_1.size
          have hba_2 : w2.heap[w.heap.size]? = some (.cells #[.int .u8 a.k, .int .i64 a.n, .int .i64 a.hi, .string a.t] 23 (0, 0)) := by
            refine hf2.obj (fun x => x) ?_
            repeat (first | with_reducible exact hba_1 | (with_reducible refine obj_alloc_at ?_; simp; done) | (with_reducible apply obj_put4; omega) | (with_reducible apply obj_put1; omega) | (with_reducible refine obj_setCell_other ?_ _ _ ?_; rotate_left; (dsimp only; omega)) | with_reducible refine obj_alloc ?_ _ | with_reducible refine obj_drew ?_ | exact hba_1)
          have hbb_2 : w2.heap[w.heap.size + 1]? = some (.cells #[.int .u8 b.k, .int .i64 b.n, .int .i64 b.hi, .string b.t] 23 (0, 0)) := by
            refine hf2.obj (fun x => x) ?_
            repeat (first | with_reducible exact hbb_1 | (with_reducible refine obj_alloc_at ?_; simp; done) | (with_reducible apply obj_put4; omega) | (with_reducible apply obj_put1; omega) | (with_reducible refine obj_setCell_other ?_ _ _ ?_; rotate_left; (dsimp only; omega)) | with_reducible refine obj_alloc ?_ _ | with_reducible refine obj_drew ?_ | exact hbb_1)
          have hbr_2 : w2.heap[w.heap.size + 2]? = some (.cells #[.int .u8 0, .int .i64 0, .int .i64 0, .string ⟨#[]⟩] 23 (0, 0)) := by
            refine hf2.obj (fun x => x) ?_
            repeat (first | with_reducible exact hbr_1 | (with_reducible refine obj_alloc_at ?_; simp; done) | (with_reducible apply obj_put4; omega) | (with_reducible apply obj_put1; omega) | (with_reducible refine obj_setCell_other ?_ _ _ ?_; rotate_left; (dsimp only; omega)) | with_reducible refine obj_alloc ?_ _ | with_reducible refine obj_drew ?_ | exact hbr_1)
          have hfw_2 : Fr noB w w2 := by
            refine Fr.transN ?_ hf2
            repeat (first | with_reducible exact hfw_1 | with_reducible refine Fr.alloc ?_ _ | (with_reducible refine Fr.setCell ?_ ?_ _; rotate_left; (intro h; dsimp only at h; omega)) | with_reducible refine Fr.drew ?_ | exact hfw_1)
          clear hba_1 hbb_1 hbr_1 la lb lr hl ca_0 ca_1 ca_2 ca_3 za cb_0 cb_1 cb_2 cb_3 zb cr_0 cr_1 cr_2 cr_3 zr hf2 hfw_1
          obtain ⟨ca_0, ca_1, ca_2, ca_3⟩ := v_cells (v := a) hba_2
          have za := frozen_of_obj hba_2
          obtain ⟨cb_0, cb_1, cb_2, cb_3⟩ := v_cells (v := b) hbb_2
          have zb := frozen_of_obj hbb_2
          obtain ⟨cr_0, cr_1, cr_2, cr_3⟩ := v_cells (v := zV) hbr_2
          dsimp only [zV] at cr_0 cr_1 cr_2 cr_3
          have zr := frozen_of_obj hbr_2
          go_wp2_with fail
          refine (HTb.out _).mono ?_
          rintro e w3 ⟨rfl, hf3⟩
          have la := obj_lt hba_2
          have lb := obj_lt hbb_2
          have lr := obj_lt hbr_2
          have hl := hfw_2.size
          have hba_3 : w3.heap[w.heap.size]? = some (.cells #[.int .u8 a.k, .int .i64 a.n, .int .i64 a.hi, .string a.t] 23 (0, 0)) := by
            refine hf3.obj (fun x => x) ?_
            repeat (first | with_reducible exact hba_2 | (with_reducible refine obj_alloc_at ?_; simp; done) | (with_reducible apply obj_put4; omega) | (with_reducible apply obj_put1; omega) | (with_reducible refine obj_setCell_other ?_ _ _ ?_; rotate_left; (dsimp only; omega)) | with_reducible refine obj_alloc ?_ _ | with_reducible refine obj_drew ?_ | exact hba_2)
          have hbb_3 : w3.heap[w.heap.size + 1]? = some (.cells #[.int .u8 b.k, .int .i64 b.n, .int .i64 b.hi, .string b.t] 23 (0, 0)) := by
            refine hf3.obj (fun x => x) ?_
            repeat (first | with_reducible exact hbb_2 | (with_reducible refine obj_alloc_at ?_; simp; done) | (with_reducible apply obj_put4; omega) | (with_reducible apply obj_put1; omega) | (with_reducible refine obj_setCell_other ?_ _ _ ?_; rotate_left; (dsimp only; omega)) | with_reducible refine obj_alloc ?_ _ | with_reducible refine obj_drew ?_ | exact hbb_2)
          have hbr_3 : w3.heap[w.heap.size + 2]? = some (.cells #[.int .u8 0, .int .i64 0, .int .i64 0, .string ⟨#[]⟩] 23 (0, 0)) := by
            refine hf3.obj (fun x => x) ?_
            repeat (first | with_reducible exact hbr_2 | (with_reducible refine obj_alloc_at ?_; simp; done) | (with_reducible apply obj_put4; omega) | (with_reducible apply obj_put1; omega) | (with_reducible refine obj_setCell_other ?_ _ _ ?_; rotate_left; (dsimp only; omega)) | with_reducible refine obj_alloc ?_ _ | with_reducible refine obj_drew ?_ | exact hbr_2)
          have hfw_3 : Fr noB w w3 := by
            refine Fr.transN ?_ hf3
            repeat (first | with_reducible exact hfw_2 | with_reducible refine Fr.alloc ?_ _ | (with_reducible refine Fr.setCell ?_ ?_ _; rotate_left; (intro h; dsimp only at h; omega)) | with_reducible refine Fr.drew ?_ | exact hfw_2)
          clear hba_2 hbb_2 hbr_2 la lb lr hl ca_0 ca_1 ca_2 ca_3 za cb_0 cb_1 cb_2 cb_3 zb cr_0 cr_1 cr_2 cr_3 zr hf3 hfw_2
          obtain ⟨ca_0, ca_1, ca_2, ca_3⟩ := v_cells (v := a) hba_3
          have za := frozen_of_obj hba_3
          obtain ⟨cb_0, cb_1, cb_2, cb_3⟩ := v_cells (v := b) hbb_3
          have zb := frozen_of_obj hbb_3
          obtain ⟨cr_0, cr_1, cr_2, cr_3⟩ := v_cells (v := zV) hbr_3
          dsimp only [zV] at cr_0 cr_1 cr_2 cr_3
          have zr := frozen_of_obj hbr_3
          go_wp2_with fail
          refine (HYb.out _).mono ?_
          rintro e w4 ⟨rfl, hf4⟩
          have la := obj_lt hba_3
          have lb := obj_lt hbb_3
          have lr := obj_lt hbr_3
          have hl := hfw_3.size
          have hba_4 : w4.heap[w.heap.size]? = some (.cells #[.int .u8 a.k, .int .i64 a.n, .int .i64 a.hi, .string a.t] 23 (0, 0)) := by
            refine hf4.obj (fun x => x) ?_
            repeat (first | with_reducible exact hba_3 | (with_reducible refine obj_alloc_at ?_; simp; done) | (with_reducible apply obj_put4; omega) | (with_reducible apply obj_put1; omega) | (with_reducible refine obj_setCell_other ?_ _ _ ?_; rotate_left; (dsimp only; omega)) | with_reducible refine obj_alloc ?_ _ | with_reducible refine obj_drew ?_ | exact hba_3)
          have hbb_4 : w4.heap[w.heap.size + 1]? = some (.cells #[.int .u8 b.k, .int .i64 b.n, .int .i64 b.hi, .string b.t] 23 (0, 0)) := by
            refine hf4.obj (fun x => x) ?_
            repeat (first | with_reducible exact hbb_3 | (with_reducible refine obj_alloc_at ?_; simp; done) | (with_reducible apply obj_put4; omega) | (with_reducible apply obj_put1; omega) | (with_reducible refine obj_setCell_other ?_ _ _ ?_; rotate_left; (dsimp only; omega)) | with_reducible refine obj_alloc ?_ _ | with_reducible refine obj_drew ?_ | exact hbb_3)
          have hbr_4 : w4.heap[w.heap.size + 2]? = some (.cells #[.int .u8 0, .int .i64 0, .int .i64 0, .string ⟨#[]⟩] 23 (0, 0)) := by
            refine hf4.obj (fun x => x) ?_
            repeat (first | with_reducible exact hbr_3 | (with_reducible refine obj_alloc_at ?_; simp; done) | (with_reducible apply obj_put4; omega) | (with_reducible apply obj_put1; omega) | (with_reducible refine obj_setCell_other ?_ _ _ ?_; rotate_left; (dsimp only; omega)) | with_reducible refine obj_alloc ?_ _ | with_reducible refine obj_drew ?_ | exact hbr_3)
          have hfw_4 : Fr noB w w4 := by
            refine Fr.transN ?_ hf4
            repeat (first | with_reducible exact hfw_3 | with_reducible refine Fr.alloc ?_ _ | (with_reducible refine Fr.setCell ?_ ?_ _; rotate_left; (intro h; dsimp only at h; omega)) | with_reducible refine Fr.drew ?_ | exact hfw_3)
          clear hba_3 hbb_3 hbr_3 la lb lr hl ca_0 ca_1 ca_2 ca_3 za cb_0 cb_1 cb_2 cb_3 zb cr_0 cr_1 cr_2 cr_3 zr hf4 hfw_3
          obtain ⟨ca_0, ca_1, ca_2, ca_3⟩ := v_cells (v := a) hba_4
          have za := frozen_of_obj hba_4
          obtain ⟨cb_0, cb_1, cb_2, cb_3⟩ := v_cells (v := b) hbb_4
          have zb := frozen_of_obj hbb_4
          obtain ⟨cr_0, cr_1, cr_2, cr_3⟩ := v_cells (v := zV) hbr_4
          dsimp only [zV] at cr_0 cr_1 cr_2 cr_3
          have zr := frozen_of_obj hbr_4
          go_wp2_with fail
          have la := obj_lt hba_4
          have lb := obj_lt hbb_4
          have lr := obj_lt hbr_4
          have hl := hfw_4.size
          refine bodyPost_ret (ret_val2 rfl _ _ (w.heap.size + 2) zV _ rfl rfl ?_) rfl ⟨?_, ?_⟩
          · show _ = some (Obj.cells #[.int .u8 0, .int .i64 0, .int .i64 0, .string ⟨#[]⟩] 23 (0, 0))
            repeat (first | with_reducible exact hbr_4 | (with_reducible refine obj_alloc_at ?_; simp; done) | (with_reducible apply obj_put4; omega) | (with_reducible apply obj_put1; omega) | (with_reducible refine obj_setCell_other ?_ _ _ ?_; rotate_left; (dsimp only; omega)) | with_reducible refine obj_alloc ?_ _ | with_reducible refine obj_drew ?_ | exact hbr_4)
          · rw [HR.out] <;> rfl
          · skip
            repeat (first | with_reducible exact hfw_4 | with_reducible refine Fr.alloc ?_ _ | (with_reducible refine Fr.setCell ?_ ?_ _; rotate_left; (intro h; dsimp only at h; omega)) | with_reducible refine Fr.drew ?_ | exact hfw_4)
        · rw [yb] at HYb
          have HR := Lib.hid (show joinV a b false = (ofV false, 0) by simp [joinV, h1, h2, isB, a2, ya, b2, yb])
          clear h1 h2 ya yb
          go_wp2_with fail
          refine (HTa.out _).mono ?_
          rintro e w2 ⟨rfl, hf2⟩
          have la := obj_lt hba_1
          have lb := obj_lt hbb_1
          have lr := obj_lt hbr_1
          have hl := hfw_1.size
          have hba_2 : w2.heap[w.heap.size]? = some (.cells #[.int .u8 a.k, .int .i64 a.n, .int .i64 a.hi, .string a.t] 23 (0, 0)) := by
            refine hf2.obj (fun x => x) ?_
            repeat (first | with_reducible exact hba_1 | (with_reducible refine obj_alloc_at ?_; simp; done) | (with_reducible apply obj_put4; omega) | (with_reducible apply obj_put1; omega) | (with_reducible refine obj_setCell_other ?_ _ _ ?_; rotate_left; (dsimp only; omega)) | with_reducible refine obj_alloc ?_ _ | with_reducible refine obj_drew ?_ | exact hba_1)
          have hbb_2 : w2.heap[w.heap.size + 1]? = some (.cells #[.int .u8 b.k, .int .i64 b.n, .int .i64 b.hi, .string b.t] 23 (0, 0)) := by
            refine hf2.obj (fun x => x) ?_
            repeat (first | with_reducible exact hbb_1 | (with_reducible refine obj_alloc_at ?_; simp; done) | (with_reducible apply obj_put4; omega) | (with_reducible apply obj_put1; omega) | (with_reducible refine obj_setCell_other ?_ _ _ ?_; rotate_left; (dsimp only; omega)) | with_reducible refine obj_alloc ?_ _ | with_reducible refine obj_drew ?_ | exact hbb_1)
          have hbr_2 : w2.heap[w.heap.size + 2]? = some (.cells #[.int .u8 0, .int .i64 0, .int .i64 0, .string ⟨#[]⟩] 23 (0, 0)) := by
            refine hf2.obj (fun x => x) ?_
            repeat (first | with_reducible exact hbr_1 | (with_reducible refine obj_alloc_at ?_; simp; done) | (with_reducible apply obj_put4; omega) | (with_reducible apply obj_put1; omega) | (with_reducible refine obj_setCell_other ?_ _ _ ?_; rotate_left; (dsimp only; omega)) | with_reducible refine obj_alloc ?_ _ | with_reducible refine obj_drew ?_ | exact hbr_1)
          have hfw_2 : Fr noB w w2 := by
            refine Fr.transN ?_ hf2
            repeat (first | with_reducible exact hfw_1 | with_reducible refine Fr.alloc ?_ _ | (with_reducible refine Fr.setCell ?_ ?_ _; rotate_left; (intro h; dsimp only at h; omega)) | with_reducible refine Fr.drew ?_ | exact hfw_1)
          clear hba_1 hbb_1 hbr_1 la lb lr hl ca_0 ca_1 ca_2 ca_3 za cb_0 cb_1 cb_2 cb_3 zb cr_0 cr_1 cr_2 cr_3 zr hf2 hfw_1
          obtain ⟨ca_0, ca_1, ca_2, ca_3⟩ := v_cells (v := a) hba_2
          have za := frozen_of_obj hba_2
          obtain ⟨cb_0, cb_1, cb_2, cb_3⟩ := v_cells (v := b) hbb_2
          have zb := frozen_of_obj hbb_2
          obtain ⟨cr_0, cr_1, cr_2, cr_3⟩ := v_cells (v := zV) hbr_2
          dsimp only [zV] at cr_0 cr_1 cr_2 cr_3
          have zr := frozen_of_obj hbr_2
          go_wp2_with fail
          refine (HTb.out _).mono ?_
          rintro e w3 ⟨rfl, hf3⟩
          have la := obj_lt hba_2
          have lb := obj_lt hbb_2
          have lr := obj_lt hbr_2
          have hl := hfw_2.size
          have hba_3 : w3.heap[w.heap.size]? = some (.cells #[.int .u8 a.k, .int .i64 a.n, .int .i64 a.hi, .string a.t] 23 (0, 0)) := by
            refine hf3.obj (fun x => x) ?_
            repeat (first | with_reducible exact hba_2 | (with_reducible refine obj_alloc_at ?_; simp; done) | (with_reducible apply obj_put4; omega) | (with_reducible apply obj_put1; omega) | (with_reducible refine obj_setCell_other ?_ _ _ ?_; rotate_left; (dsimp only; omega)) | with_reducible refine obj_alloc ?_ _ | with_reducible refine obj_drew ?_ | exact hba_2)
          have hbb_3 : w3.heap[w.heap.size + 1]? = some (.cells #[.int .u8 b.k, .int .i64 b.n, .int .i64 b.hi, .string b.t] 23 (0, 0)) := by
            refine hf3.obj (fun x => x) ?_
            repeat (first | with_reducible exact hbb_2 | (with_reducible refine obj_alloc_at ?_; simp; done) | (with_reducible apply obj_put4; omega) | (with_reducible apply obj_put1; omega) | (with_reducible refine obj_setCell_other ?_ _ _ ?_; rotate_left; (dsimp only; omega)) | with_reducible refine obj_alloc ?_ _ | with_reducible refine obj_drew ?_ | exact hbb_2)
          have hbr_3 : w3.heap[w.heap.size + 2]? = some (.cells #[.int .u8 0, .int .i64 0, .int .i64 0, .string ⟨#[]⟩] 23 (0, 0)) := by
            refine hf3.obj (fun x => x) ?_
            repeat (first | with_reducible exact hbr_2 | (with_reducible refine obj_alloc_at ?_; simp; done) | (with_reducible apply obj_put4; omega) | (with_reducible apply obj_put1; omega) | (with_reducible refine obj_setCell_other ?_ _ _ ?_; rotate_left; (dsimp only; omega)) | with_reducible refine obj_alloc ?_ _ | with_reducible refine obj_drew ?_ | exact hbr_2)
          have hfw_3 : Fr noB w w3 := by
            refine Fr.transN ?_ hf3
            repeat (first | with_reducible exact hfw_2 | with_reducible refine Fr.alloc ?_ _ | (with_reducible refine Fr.setCell ?_ ?_ _; rotate_left; (intro h; dsimp only at h; omega)) | with_reducible refine Fr.drew ?_ | exact hfw_2)
          clear hba_2 hbb_2 hbr_2 la lb lr hl ca_0 ca_1 ca_2 ca_3 za cb_0 cb_1 cb_2 cb_3 zb cr_0 cr_1 cr_2 cr_3 zr hf3 hfw_2
          obtain ⟨ca_0, ca_1, ca_2, ca_3⟩ := v_cells (v := a) hba_3
          have za := frozen_of_obj hba_3
          obtain ⟨cb_0, cb_1, cb_2, cb_3⟩ := v_cells (v := b) hbb_3
          have zb := frozen_of_obj hbb_3
          obtain ⟨cr_0, cr_1, cr_2, cr_3⟩ := v_cells (v := zV) hbr_3
          dsimp only [zV] at cr_0 cr_1 cr_2 cr_3
          have zr := frozen_of_obj hbr_3
          go_wp2_with fail
          refine (HYb.out _).mono ?_
          rintro e w4 ⟨rfl, hf4⟩
          have la := obj_lt hba_3
          have lb := obj_lt hbb_3
          have lr := obj_lt hbr_3
          have hl := hfw_3.size
          have hba_4 : w4.heap[w.heap.size]? = some (.cells #[.int .u8 a.k, .int .i64 a.n, .int .i64 a.hi, .string a.t] 23 (0, 0)) := by
            refine hf4.obj (fun x => x) ?_
            repeat (first | with_reducible exact hba_3 | (with_reducible refine obj_alloc_at ?_; simp; done) | (with_reducible apply obj_put4; omega) | (with_reducible apply obj_put1; omega) | (with_reducible refine obj_setCell_other ?_ _ _ ?_; rotate_left; (dsimp only; omega)) | with_reducible refine obj_alloc ?_ _ | with_reducible refine obj_drew ?_ | exact hba_3)
          have hbb_4 : w4.heap[w.heap.size + 1]? = some (.cells #[.int .u8 b.k, .int .i64 b.n, .int .i64 b.hi, .string b.t] 23 (0, 0)) := by
            refine hf4.obj (fun x => x) ?_
            repeat (first | with_reducible exact hbb_3 | (with_reducible refine obj_alloc_at ?_; simp; done) | (with_reducible apply obj_put4; omega) | (with_reducible apply obj_put1; omega) | (with_reducible refine obj_setCell_other ?_ _ _ ?_; rotate_left; (dsimp only; omega)) | with_reducible refine obj_alloc ?_ _ | with_reducible refine obj_drew ?_ | exact hbb_3)
          have hbr_4 : w4.heap[w.heap.size + 2]? = some (.cells #[.int .u8 0, .int .i64 0, .int .i64 0, .string ⟨#[]⟩] 23 (0, 0)) := by
            refine hf4.obj (fun x => x) ?_
            repeat (first | with_reducible exact hbr_3 | (with_reducible refine obj_alloc_at ?_; simp; done) | (with_reducible apply obj_put4; omega) | (with_reducible apply obj_put1; omega) | (with_reducible refine obj_setCell_other ?_ _ _ ?_; rotate_left; (dsimp only; omega)) | with_reducible refine obj_alloc ?_ _ | with_reducible refine obj_drew ?_ | exact hbr_3)
          have hfw_4 : Fr noB w w4 := by
            refine Fr.transN ?_ hf4
            repeat (first | with_reducible exact hfw_3 | with_reducible refine Fr.alloc ?_ _ | (with_reducible refine Fr.setCell ?_ ?_ _; rotate_left; (intro h; dsimp only at h; omega)) | with_reducible refine Fr.drew ?_ | exact hfw_3)
          clear hba_3 hbb_3 hbr_3 la lb lr hl ca_0 ca_1 ca_2 ca_3 za cb_0 cb_1 cb_2 cb_3 zb cr_0 cr_1 cr_2 cr_3 zr hf4 hfw_3
          obtain ⟨ca_0, ca_1, ca_2, ca_3⟩ := v_cells (v := a) hba_4
          have za := frozen_of_obj hba_4
          obtain ⟨cb_0, cb_1, cb_2, cb_3⟩ := v_cells (v := b) hbb_4
          have zb := frozen_of_obj hbb_4
          obtain ⟨cr_0, cr_1, cr_2, cr_3⟩ := v_cells (v := zV) hbr_4
          dsimp only [zV] at cr_0 cr_1 cr_2 cr_3
          have zr := frozen_of_obj hbr_4
          go_wp2_with fail
          refine (HO0.out _).mono ?_
          rintro e w5 ⟨rfl, hf5⟩
          have la := obj_lt hba_4
          have lb := obj_lt hbb_4
          have lr := obj_lt hbr_4
          have hl := hfw_4.size
          have hba_5 : w5.heap[w.heap.size]? = some (.cells #[.int .u8 a.k, .int .i64 a.n, .int .i64 a.hi, .string a.t] 23 (0, 0)) := by
            refine hf5.obj (fun x => x) ?_
            repeat (first | with_reducible exact hba_4 | (with_reducible refine obj_alloc_at ?_; simp; done) | (with_reducible apply obj_put4; omega) | (with_reducible apply obj_put1; omega) | (with_reducible refine obj_setCell_other ?_ _ _ ?_; rotate_left; (dsimp only; omega)) | with_reducible refine obj_alloc ?_ _ | with_reducible refine obj_drew ?_ | exact hba_4)
          have hbb_5 : w5.heap[w.heap.size + 1]? = some (.cells #[.int .u8 b.k, .int .i64 b.n, .int .i64 b.hi, .string b.t] 23 (0, 0)) := by
            refine hf5.obj (fun x => x) ?_
            repeat (first | with_reducible exact hbb_4 | (with_reducible refine obj_alloc_at ?_; simp; done) | (with_reducible apply obj_put4; omega) | (with_reducible apply obj_put1; omega) | (with_reducible refine obj_setCell_other ?_ _ _ ?_; rotate_left; (dsimp only; omega)) | with_reducible refine obj_alloc ?_ _ | with_reducible refine obj_drew ?_ | exact hbb_4)
          have hbr_5 : w5.heap[w.heap.size + 2]? = some (.cells #[.int .u8 0, .int .i64 0, .int .i64 0, .string ⟨#[]⟩] 23 (0, 0)) := by
            refine hf5.obj (fun x => x) ?_
            repeat (first | with_reducible exact hbr_4 | (with_reducible refine obj_alloc_at ?_; simp; done) | (with_reducible apply obj_put4; omega) | (with_reducible apply obj_put1; omega) | (with_reducible refine obj_setCell_other ?_ _ _ ?_; rotate_left; (dsimp only; omega)) | with_reducible refine obj_alloc ?_ _ | with_reducible refine obj_drew ?_ | exact hbr_4)
          have hfw_5 : Fr noB w w5 := by
            refine Fr.transN ?_ hf5
            repeat (first | with_reducible exact hfw_4 | with_reducible refine Fr.alloc ?_ _ | (with_reducible refine Fr.setCell ?_ ?_ _; rotate_left; (intro h; dsimp only at h; omega)) | with_reducible refine Fr.drew ?_ | exact hfw_4)
          clear hba_4 hbb_4 hbr_4 la lb lr hl ca_0 ca_1 ca_2 ca_3 za cb_0 cb_1 cb_2 cb_3 zb cr_0 cr_1 cr_2 cr_3 zr hf5 hfw_4
          obtain ⟨ca_0, ca_1, ca_2, ca_3⟩ := v_cells (v := a) hba_5
          have za := frozen_of_obj hba_5
          obtain ⟨cb_0, cb_1, cb_2, cb_3⟩ := v_cells (v := b) hbb_5
          have zb := frozen_of_obj hbb_5
          obtain ⟨cr_0, cr_1, cr_2, cr_3⟩ := v_cells (v := zV) hbr_5
          dsimp only [zV] at cr_0 cr_1 cr_2 cr_3
          have zr := frozen_of_obj hbr_5
          go_wp2_with fail
          have la := obj_lt hba_5
          have lb := obj_lt hbb_5
          have lr := obj_lt hbr_5
          have hl := hfw_5.size
          refine bodyPost_ret (ret_val2 rfl _ _ (w.heap.size + 2) noV _ rfl rfl ?_) rfl ⟨?_, ?_⟩
          · show _ = some (Obj.cells #[.int .u8 2, .int .i64 0, .int .i64 0, .string ⟨#[]⟩] 23 (0, 0))
            repeat (first | with_reducible exact hbr_5 | (with_reducible refine obj_alloc_at ?_; simp; done) | (with_reducible apply obj_put4; omega) | (with_reducible apply obj_put1; omega) | (with_reducible refine obj_setCell_other ?_ _ _ ?_; rotate_left; (dsimp only; omega)) | with_reducible refine obj_alloc ?_ _ | with_reducible refine obj_drew ?_ | exact hbr_5)
          · rw [HR.out] <;> rfl
          · skip
            repeat (first | with_reducible exact hfw_5 | with_reducible refine Fr.alloc ?_ _ | (with_reducible refine Fr.setCell ?_ ?_ _; rotate_left; (intro h; dsimp only at h; omega)) | with_reducible refine Fr.drew ?_ | exact hfw_5)
        · rw [yb] at HYb
          have HR := Lib.hid (show joinV a b false = (zV, 0) by simp [joinV, h1, h2, isB, nullB, a2, a0, ya, b2, b0, yb])
          clear h1 h2 ya yb
          go_wp2_with fail
          refine (HTa.out _).mono ?_
          rintro e w2 ⟨rfl, hf2⟩
          have la := obj_lt hba_1
          have lb := obj_lt hbb_1
          have lr := obj_lt hbr_1
          have hl := hfw_1.size
          have hba_2 : w2.heap[w.heap.size]? = some (.cells #[.int .u8 a.k, .int .i64 a.n, .int .i64 a.hi, .string a.t] 23 (0, 0)) := by
            refine hf2.obj (fun x => x) ?_
            repeat (first | with_reducible exact hba_1 | (with_reducible refine obj_alloc_at ?_; simp; done) | (with_reducible apply obj_put4; omega) | (with_reducible apply obj_put1; omega) | (with_reducible refine obj_setCell_other ?_ _ _ ?_; rotate_left; (dsimp only; omega)) | with_reducible refine obj_alloc ?_ _ | with_reducible refine obj_drew ?_ | exact hba_1)
          have hbb_2 : w2.heap[w.heap.size + 1]? = some (.cells #[.int .u8 b.k, .int .i64 b.n, .int .i64 b.hi, .string b.t] 23 (0, 0)) := by
            refine hf2.obj (fun x => x) ?_
            repeat (first | with_reducible exact hbb_1 | (with_reducible refine obj_alloc_at ?_; simp; done) | (with_reducible apply obj_put4; omega) | (with_reducible apply obj_put1; omega) | (with_reducible refine obj_setCell_other ?_ _ _ ?_; rotate_left; (dsimp only; omega)) | with_reducible refine obj_alloc ?_ _ | with_reducible refine obj_drew ?_ | exact hbb_1)
          have hbr_2 : w2.heap[w.heap.size + 2]? = some (.cells #[.int .u8 0, .int .i64 0, .int .i64 0, .string ⟨#[]⟩] 23 (0, 0)) := by
            refine hf2.obj (fun x => x) ?_
            repeat (first | with_reducible exact hbr_1 | (with_reducible refine obj_alloc_at ?_; simp; done) | (with_reducible apply obj_put4; omega) | (with_reducible apply obj_put1; omega) | (with_reducible refine obj_setCell_other ?_ _ _ ?_; rotate_left; (dsimp only; omega)) | with_reducible refine obj_alloc ?_ _ | with_reducible refine obj_drew ?_ | exact hbr_1)
          have hfw_2 : Fr noB w w2 := by
            refine Fr.transN ?_ hf2
            repeat (first | with_reducible exact hfw_1 | with_reducible refine Fr.alloc ?_ _ | (with_reducible refine Fr.setCell ?_ ?_ _; rotate_left; (intro h; dsimp only at h; omega)) | with_reducible refine Fr.drew ?_ | exact hfw_1)
          clear hba_1 hbb_1 hbr_1 la lb lr hl ca_0 ca_1 ca_2 ca_3 za cb_0 cb_1 cb_2 cb_3 zb cr_0 cr_1 cr_2 cr_3 zr hf2 hfw_1
          obtain ⟨ca_0, ca_1, ca_2, ca_3⟩ := v_cells (v := a) hba_2
          have za := frozen_of_obj hba_2
          obtain ⟨cb_0, cb_1, cb_2, cb_3⟩ := v_cells (v := b) hbb_2
          have zb := frozen_of_obj hbb_2
          obtain ⟨cr_0, cr_1, cr_2, cr_3⟩ := v_cells (v := zV) hbr_2
          dsimp only [zV] at cr_0 cr_1 cr_2 cr_3
          have zr := frozen_of_obj hbr_2
          go_wp2_with fail
          refine (HTb.out _).mono ?_
          rintro e w3 ⟨rfl, hf3⟩
          have la := obj_lt hba_2
          have lb := obj_lt hbb_2
          have lr := obj_lt hbr_2
          have hl := hfw_2.size
          have hba_3 : w3.heap[w.heap.size]? = some (.cells #[.int .u8 a.k, .int .i64 a.n, .int .i64 a.hi, .string a.t] 23 (0, 0)) := by
            refine hf3.obj (fun x => x) ?_
            repeat (first | with_reducible exact hba_2 | (with_reducible refine obj_alloc_at ?_; simp; done) | (with_reducible apply obj_put4; omega) | (with_reducible apply obj_put1; omega) | (with_reducible refine obj_setCell_other ?_ _ _ ?_; rotate_left; (dsimp only; omega)) | with_reducible refine obj_alloc ?_ _ | with_reducible refine obj_drew ?_ | exact hba_2)
          have hbb_3 : w3.heap[w.heap.size + 1]? = some (.cells #[.int .u8 b.k, .int .i64 b.n, .int .i64 b.hi, .string b.t] 23 (0, 0)) := by
            refine hf3.obj (fun x => x) ?_
            repeat (first | with_reducible exact hbb_2 | (with_reducible refine obj_alloc_at ?_; simp; done) | (with_reducible apply obj_put4; omega) | (with_reducible apply obj_put1; omega) | (with_reducible refine obj_setCell_other ?_ _ _ ?_; rotate_left; (dsimp only; omega)) | with_reducible refine obj_alloc ?_ _ | with_reducible refine obj_drew ?_ | exact hbb_2)
          have hbr_3 : w3.heap[w.heap.size + 2]? = some (.cells #[.int .u8 0, .int .i64 0, .int .i64 0, .string ⟨#[]⟩] 23 (0, 0)) := by
            refine hf3.obj (fun x => x) ?_
            repeat (first | with_reducible exact hbr_2 | (with_reducible refine obj_alloc_at ?_; simp; done) | (with_reducible apply obj_put4; omega) | (with_reducible apply obj_put1; omega) | (with_reducible refine obj_setCell_other ?_ _ _ ?_; rotate_left; (dsimp only; omega)) | with_reducible refine obj_alloc ?_ _ | with_reducible refine obj_drew ?_ | exact hbr_2)
          have hfw_3 : Fr noB w w3 := by
            refine Fr.transN ?_ hf3
            repeat (first | with_reducible exact hfw_2 | with_reducible refine Fr.alloc ?_ _ | (with_reducible refine Fr.setCell ?_ ?_ _; rotate_left; (intro h; dsimp only at h; omega)) | with_reducible refine Fr.drew ?_ | exact hfw_2)
          clear hba_2 hbb_2 hbr_2 la lb lr hl ca_0 ca_1 ca_2 ca_3 za cb_0 cb_1 cb_2 cb_3 zb cr_0 cr_1 cr_2 cr_3 zr hf3 hfw_2
          obtain ⟨ca_0, ca_1, ca_2, ca_3⟩ := v_cells (v := a) hba_3
          have za := frozen_of_obj hba_3
          obtain ⟨cb_0, cb_1, cb_2, cb_3⟩ := v_cells (v := b) hbb_3
          have zb := frozen_of_obj hbb_3
          obtain ⟨cr_0, cr_1, cr_2, cr_3⟩ := v_cells (v := zV) hbr_3
          dsimp only [zV] at cr_0 cr_1 cr_2 cr_3
          have zr := frozen_of_obj hbr_3
          go_wp2_with fail
          have la := obj_lt hba_3
          have lb := obj_lt hbb_3
          have lr := obj_lt hbr_3
          have hl := hfw_3.size
          refine bodyPost_ret (ret_val2 rfl _ _ (w.heap.size + 2) zV _ rfl rfl ?_) rfl ⟨?_, ?_⟩
          · show _ = some (Obj.cells #[.int .u8 0, .int .i64 0, .int .i64 0, .string ⟨#[]⟩] 23 (0, 0))
            repeat (first | with_reducible exact hbr_3 | (with_reducible refine obj_alloc_at ?_; simp; done) | (with_reducible apply obj_put4; omega) | (with_reducible apply obj_put1; omega) | (with_reducible refine obj_setCell_other ?_ _ _ ?_; rotate_left; (dsimp only; omega)) | with_reducible refine obj_alloc ?_ _ | with_reducible refine obj_drew ?_ | exact hbr_3)
          · rw [HR.out] <;> rfl
          · skip
            repeat (first | with_reducible exact hfw_3 | with_reducible refine Fr.alloc ?_ _ | (with_reducible refine Fr.setCell ?_ ?_ _; rotate_left; (intro h; dsimp only at h; omega)) | with_reducible refine Fr.drew ?_ | exact hfw_3)

set_option maxRecDepth 100000 in
set_option maxHeartbeats 4000000 in
theorem ror_any (a b : V) (w : World) :
    Calls Try.prog 40 #[vV a, vV b] w fun e w' => e = .returned (.tuple #[vV (joinV a b true).1, .int .i64 (joinV a b true).2]) ∧ Fr noB w w' := by
  have HTa := Lib.hid (show ∀ W : World, Calls Try.prog 74 #[.agg #[.int .u8 a.k, .int .i64 a.n, .int .i64 a.hi, .string a.t]] W fun e w' => e = .returned (.bool (areB 2 a)) ∧ Fr noB W w' from fun W => rtruth_any a W)
  have HYa := Lib.hid (show ∀ W : World, Calls Try.prog 33 #[.agg #[.int .u8 a.k, .int .i64 a.n, .int .i64 a.hi, .string a.t]] W fun e w' => e = .returned (.bool (yesB a)) ∧ Fr noB W w' from fun W => ryes_any a W)
  have HTb := Lib.hid (show ∀ W : World, Calls Try.prog 74 #[.agg #[.int .u8 b.k, .int .i64 b.n, .int .i64 b.hi, .string b.t]] W fun e w' => e = .returned (.bool (areB 2 b)) ∧ Fr noB W w' from fun W => rtruth_any b W)
  have HYb := Lib.hid (show ∀ W : World, Calls Try.prog 33 #[.agg #[.int .u8 b.k, .int .i64 b.n, .int .i64 b.hi, .string b.t]] W fun e w' => e = .returned (.bool (yesB b)) ∧ Fr noB W w' from fun W => ryes_any b W)
  have HO0 := Lib.hid (show ∀ W : World, Calls Try.prog 32 #[.bool false] W fun e w' => e = .returned (.agg #[.int .u8 2, .int .i64 0, .int .i64 0, .string ⟨#[]⟩]) ∧ Fr noB W w' from fun W => rof_false W)
  have HO1 := Lib.hid (show ∀ W : World, Calls Try.prog 32 #[.bool true] W fun e w' => e = .returned (.agg #[.int .u8 2, .int .i64 1, .int .i64 0, .string ⟨#[]⟩]) ∧ Fr noB W w' from fun W => rof_true W)
  unfold vV
  go_enter Try.func40, Try.ntmps40
  go_upto_region 1 with fail
  have hfw_0 := Fr.refl noB w
  have hl := hfw_0.size
  refine wp_world (fun W => Fr noB w W ∧ W.heap[w.heap.size]? = some (.cells #[.int .u8 a.k, .int .i64 a.n, .int .i64 a.hi, .string a.t] 23 (0, 0)) ∧ W.heap[w.heap.size + 1]? = some (.cells #[.int .u8 b.k, .int .i64 b.n, .int .i64 b.hi, .string b.t] 23 (0, 0)) ∧ W.heap[w.heap.size + 2]? = some (.cells #[.int .u8 0, .int .i64 0, .int .i64 0, .string ⟨#[]⟩] 23 (0, 0))) ⟨?_, ?_, ?_, ?_⟩ ?_
  · skip
    repeat (first | with_reducible exact hfw_0 | with_reducible refine Fr.alloc ?_ _ | (with_reducible refine Fr.setCell ?_ ?_ _; rotate_left; (intro h; dsimp only at h; omega)) | with_reducible refine Fr.drew ?_ | exact hfw_0)
  · skip
    repeat (first | (with_reducible refine obj_alloc_at ?_; simp; done) | (with_reducible apply obj_put4; omega) | (with_reducible apply obj_put1; omega) | (with_reducible refine obj_setCell_other ?_ _ _ ?_; rotate_left; (dsimp only; omega)) | with_reducible refine obj_alloc ?_ _ | with_reducible refine obj_drew ?_)
  · skip
    repeat (first | (with_reducible refine obj_alloc_at ?_; simp; done) | (with_reducible apply obj_put4; omega) | (with_reducible apply obj_put1; omega) | (with_reducible refine obj_setCell_other ?_ _ _ ?_; rotate_left; (dsimp only; omega)) | with_reducible refine obj_alloc ?_ _ | with_reducible refine obj_drew ?_)
  · skip
    repeat (first | (with_reducible refine obj_alloc_at ?_; simp; done) | (with_reducible apply obj_put4; omega) | (with_reducible apply obj_put1; omega) | (with_reducible refine obj_setCell_other ?_ _ _ ?_; rotate_left; (dsimp only; omega)) | with_reducible refine obj_alloc ?_ _ | with_reducible refine obj_drew ?_)
  clear hl hfw_0
  rintro w1 ⟨hfw_1, hba_1, hbb_1, hbr_1⟩
  obtain ⟨ca_0, ca_1, ca_2, ca_3⟩ := v_cells (v := a) hba_1
  have za := frozen_of_obj hba_1
  obtain ⟨cb_0, cb_1, cb_2, cb_3⟩ := v_cells (v := b) hbb_1
  have zb := frozen_of_obj hbb_1
  obtain ⟨cr_0, cr_1, cr_2, cr_3⟩ := v_cells (v := zV) hbr_1
  dsimp only [zV] at cr_0 cr_1 cr_2 cr_3
  have zr := frozen_of_obj hbr_1
  cases h1 : areB 2 a
  · have HR := Lib.hid (show joinV a b true = (zV, 60) by simp [joinV, h1])
    rw [h1] at HTa
    clear h1
    go_wp2_with fail
    refine (HTa.out _).mono ?_
    rintro e w2 ⟨rfl, hf2⟩
    have la := obj_lt hba_1
    have lb := obj_lt hbb_1
    have lr := obj_lt hbr_1
    have hl := hfw_1.size
    have hba_2 : w2.heap[w.heap.size]? = some (.cells #[.int .u8 a.k, .int .i64 a.n, .int .i64 a.hi, .string a.t] 23 (0, 0)) := by
      refine hf2.obj (fun x => x) ?_
      repeat (first | with_reducible exact hba_1 | (with_reducible refine obj_alloc_at ?_; simp; done) | (with_reducible apply obj_put4; omega) | (with_reducible apply obj_put1; omega) | (with_reducible refine obj_setCell_other ?_ _ _ ?_; rotate_left; (dsimp only; omega)) | with_reducible refine obj_alloc ?_ _ | with_reducible refine obj_drew ?_ | exact hba_1)
    have hbb_2 : w2.heap[w.heap.size + 1]? = some (.cells #[.int .u8 b.k, .int .i64 b.n, .int .i64 b.hi, .string b.t] 23 (0, 0)) := by
      refine hf2.obj (fun x => x) ?_
      repeat (first | with_reducible exact hbb_1 | (with_reducible refine obj_alloc_at ?_; simp; done) | (with_reducible apply obj_put4; omega) | (with_reducible apply obj_put1; omega) | (with_reducible refine obj_setCell_other ?_ _ _ ?_; rotate_left; (dsimp only; omega)) | with_reducible refine obj_alloc ?_ _ | with_reducible refine obj_drew ?_ | exact hbb_1)
    have hbr_2 : w2.heap[w.heap.size + 2]? = some (.cells #[.int .u8 0, .int .i64 0, .int .i64 0, .string ⟨#[]⟩] 23 (0, 0)) := by
      refine hf2.obj (fun x => x) ?_
      repeat (first | with_reducible exact hbr_1 | (with_reducible refine obj_alloc_at ?_; simp; done) | (with_reducible apply obj_put4; omega) | (with_reducible apply obj_put1; omega) | (with_reducible refine obj_setCell_other ?_ _ _ ?_; rotate_left; (dsimp only; omega)) | with_reducible refine obj_alloc ?_ _ | with_reducible refine obj_drew ?_ | exact hbr_1)
    have hfw_2 : Fr noB w w2 := by
      refine Fr.transN ?_ hf2
      repeat (first | with_reducible exact hfw_1 | with_reducible refine Fr.alloc ?_ _ | (with_reducible refine Fr.setCell ?_ ?_ _; rotate_left; (intro h; dsimp only at h; omega)) | with_reducible refine Fr.drew ?_ | exact hfw_1)
    clear hba_1 hbb_1 hbr_1 la lb lr hl ca_0 ca_1 ca_2 ca_3 za cb_0 cb_1 cb_2 cb_3 zb cr_0 cr_1 cr_2 cr_3 zr hf2 hfw_1
    obtain ⟨ca_0, ca_1, ca_2, ca_3⟩ := v_cells (v := a) hba_2
    have za := frozen_of_obj hba_2
    obtain ⟨cb_0, cb_1, cb_2, cb_3⟩ := v_cells (v := b) hbb_2
    have zb := frozen_of_obj hbb_2
    obtain ⟨cr_0, cr_1, cr_2, cr_3⟩ := v_cells (v := zV) hbr_2
    dsimp only [zV] at cr_0 cr_1 cr_2 cr_3
    have zr := frozen_of_obj hbr_2
    go_wp2_with fail
    have la := obj_lt hba_2
    have lb := obj_lt hbb_2
    have lr := obj_lt hbr_2
    have hl := hfw_2.size
    refine bodyPost_ret (ret_val2 rfl _ _ (w.heap.size + 2) zV _ rfl rfl ?_) rfl ⟨?_, ?_⟩
    · show _ = some (Obj.cells #[.int .u8 0, .int .i64 0, .int .i64 0, .string ⟨#[]⟩] 23 (0, 0))
      repeat (first | with_reducible exact hbr_2 | (with_reducible refine obj_alloc_at ?_; simp; done) | (with_reducible apply obj_put4; omega) | (with_reducible apply obj_put1; omega) | (with_reducible refine obj_setCell_other ?_ _ _ ?_; rotate_left; (dsimp only; omega)) | with_reducible refine obj_alloc ?_ _ | with_reducible refine obj_drew ?_ | exact hbr_2)
    · rw [HR.out] <;> rfl
    · skip
      repeat (first | with_reducible exact hfw_2 | with_reducible refine Fr.alloc ?_ _ | (with_reducible refine Fr.setCell ?_ ?_ _; rotate_left; (intro h; dsimp only at h; omega)) | with_reducible refine Fr.drew ?_ | exact hfw_2)
  · rw [h1] at HTa
    cases h2 : areB 2 b
    · have HR := Lib.hid (show joinV a b true = (zV, 60) by simp [joinV, h2])
      rw [h2] at HTb
      clear h1 h2
      go_wp2_with fail
      refine (HTa.out _).mono ?_
      rintro e w2 ⟨rfl, hf2⟩
      have la := obj_lt hba_1
      have lb := obj_lt hbb_1
      have lr := obj_lt hbr_1
      have hl := hfw_1.size
      have hba_2 : w2.heap[w.heap.size]? = some (.cells #[.int .u8 a.k, .int .i64 a.n, .int .i64 a.hi, .string a.t] 23 (0, 0)) := by
        refine hf2.obj (fun x => x) ?_
        repeat (first | with_reducible exact hba_1 | (with_reducible refine obj_alloc_at ?_; simp; done) | (with_reducible apply obj_put4; omega) | (with_reducible apply obj_put1; omega) | (with_reducible refine obj_setCell_other ?_ _ _ ?_; rotate_left; (dsimp only; omega)) | with_reducible refine obj_alloc ?_ _ | with_reducible refine obj_drew ?_ | exact hba_1)
      have hbb_2 : w2.heap[w.heap.size + 1]? = some (.cells #[.int .u8 b.k, .int .i64 b.n, .int .i64 b.hi, .string b.t] 23 (0, 0)) := by
        refine hf2.obj (fun x => x) ?_
        repeat (first | with_reducible exact hbb_1 | (with_reducible refine obj_alloc_at ?_; simp; done) | (with_reducible apply obj_put4; omega) | (with_reducible apply obj_put1; omega) | (with_reducible refine obj_setCell_other ?_ _ _ ?_; rotate_left; (dsimp only; omega)) | with_reducible refine obj_alloc ?_ _ | with_reducible refine obj_drew ?_ | exact hbb_1)
      have hbr_2 : w2.heap[w.heap.size + 2]? = some (.cells #[.int .u8 0, .int .i64 0, .int .i64 0, .string ⟨#[]⟩] 23 (0, 0)) := by
        refine hf2.obj (fun x => x) ?_
        repeat (first | with_reducible exact hbr_1 | (with_reducible refine obj_alloc_at ?_; simp; done) | (with_reducible apply obj_put4; omega) | (with_reducible apply obj_put1; omega) | (with_reducible refine obj_setCell_other ?_ _ _ ?_; rotate_left; (dsimp only; omega)) | with_reducible refine obj_alloc ?_ _ | with_reducible refine obj_drew ?_ | exact hbr_1)
      have hfw_2 : Fr noB w w2 := by
        refine Fr.transN ?_ hf2
        repeat (first | with_reducible exact hfw_1 | with_reducible refine Fr.alloc ?_ _ | (with_reducible refine Fr.setCell ?_ ?_ _; rotate_left; (intro h; dsimp only at h; omega)) | with_reducible refine Fr.drew ?_ | exact hfw_1)
      clear hba_1 hbb_1 hbr_1 la lb lr hl ca_0 ca_1 ca_2 ca_3 za cb_0 cb_1 cb_2 cb_3 zb cr_0 cr_1 cr_2 cr_3 zr hf2 hfw_1
      obtain ⟨ca_0, ca_1, ca_2, ca_3⟩ := v_cells (v := a) hba_2
      have za := frozen_of_obj hba_2
      obtain ⟨cb_0, cb_1, cb_2, cb_3⟩ := v_cells (v := b) hbb_2
      have zb := frozen_of_obj hbb_2
      obtain ⟨cr_0, cr_1, cr_2, cr_3⟩ := v_cells (v := zV) hbr_2
      dsimp only [zV] at cr_0 cr_1 cr_2 cr_3
      have zr := frozen_of_obj hbr_2
      go_wp2_with fail
      refine (HTb.out _).mono ?_
      rintro e w3 ⟨rfl, hf3⟩
      have la := obj_lt hba_2
      have lb := obj_lt hbb_2
      have lr := obj_lt hbr_2
      have hl := hfw_2.size
      have hba_3 : w3.heap[w.heap.size]? = some (.cells #[.int .u8 a.k, .int .i64 a.n, .int .i64 a.hi, .string a.t] 23 (0, 0)) := by
        refine hf3.obj (fun x => x) ?_
        repeat (first | with_reducible exact hba_2 | (with_reducible refine obj_alloc_at ?_; simp; done) | (with_reducible apply obj_put4; omega) | (with_reducible apply obj_put1; omega) | (with_reducible refine obj_setCell_other ?_ _ _ ?_; rotate_left; (dsimp only; omega)) | with_reducible refine obj_alloc ?_ _ | with_reducible refine obj_drew ?_ | exact hba_2)
      have hbb_3 : w3.heap[w.heap.size + 1]? = some (.cells #[.int .u8 b.k, .int .i64 b.n, .int .i64 b.hi, .string b.t] 23 (0, 0)) := by
        refine hf3.obj (fun x => x) ?_
        repeat (first | with_reducible exact hbb_2 | (with_reducible refine obj_alloc_at ?_; simp; done) | (with_reducible apply obj_put4; omega) | (with_reducible apply obj_put1; omega) | (with_reducible refine obj_setCell_other ?_ _ _ ?_; rotate_left; (dsimp only; omega)) | with_reducible refine obj_alloc ?_ _ | with_reducible refine obj_drew ?_ | exact hbb_2)
      have hbr_3 : w3.heap[w.heap.size + 2]? = some (.cells #[.int .u8 0, .int .i64 0, .int .i64 0, .string ⟨#[]⟩] 23 (0, 0)) := by
        refine hf3.obj (fun x => x) ?_
        repeat (first | with_reducible exact hbr_2 | (with_reducible refine obj_alloc_at ?_; simp; done) | (with_reducible apply obj_put4; omega) | (with_reducible apply obj_put1; omega) | (with_reducible refine obj_setCell_other ?_ _ _ ?_; rotate_left; (dsimp only; omega)) | with_reducible refine obj_alloc ?_ _ | with_reducible refine obj_drew ?_ | exact hbr_2)
      have hfw_3 : Fr noB w w3 := by
        refine Fr.transN ?_ hf3
        repeat (first | with_reducible exact hfw_2 | with_reducible refine Fr.alloc ?_ _ | (with_reducible refine Fr.setCell ?_ ?_ _; rotate_left; (intro h; dsimp only at h; omega)) | with_reducible refine Fr.drew ?_ | exact hfw_2)
      clear hba_2 hbb_2 hbr_2 la lb lr hl ca_0 ca_1 ca_2 ca_3 za cb_0 cb_1 cb_2 cb_3 zb cr_0 cr_1 cr_2 cr_3 zr hf3 hfw_2
      obtain ⟨ca_0, ca_1, ca_2, ca_3⟩ := v_cells (v := a) hba_3
      have za := frozen_of_obj hba_3
      obtain ⟨cb_0, cb_1, cb_2, cb_3⟩ := v_cells (v := b) hbb_3
      have zb := frozen_of_obj hbb_3
      obtain ⟨cr_0, cr_1, cr_2, cr_3⟩ := v_cells (v := zV) hbr_3
      dsimp only [zV] at cr_0 cr_1 cr_2 cr_3
      have zr := frozen_of_obj hbr_3
      go_wp2_with fail
      have la := obj_lt hba_3
      have lb := obj_lt hbb_3
      have lr := obj_lt hbr_3
      have hl := hfw_3.size
      refine bodyPost_ret (ret_val2 rfl _ _ (w.heap.size + 2) zV _ rfl rfl ?_) rfl ⟨?_, ?_⟩
      · show _ = some (Obj.cells #[.int .u8 0, .int .i64 0, .int .i64 0, .string ⟨#[]⟩] 23 (0, 0))
        repeat (first | with_reducible exact hbr_3 | (with_reducible refine obj_alloc_at ?_; simp; done) | (with_reducible apply obj_put4; omega) | (with_reducible apply obj_put1; omega) | (with_reducible refine obj_setCell_other ?_ _ _ ?_; rotate_left; (dsimp only; omega)) | with_reducible refine obj_alloc ?_ _ | with_reducible refine obj_drew ?_ | exact hbr_3)
      · rw [HR.out] <;> rfl
      · skip
        repeat (first | with_reducible exact hfw_3 | with_reducible refine Fr.alloc ?_ _ | (with_reducible refine Fr.setCell ?_ ?_ _; rotate_left; (intro h; dsimp only at h; omega)) | with_reducible refine Fr.drew ?_ | exact hfw_3)
    · rw [h2] at HTb
      rcases kind3 a h1 with ⟨a2, a0, ya⟩ | ⟨a2, a0, ya⟩ | ⟨a2, a0, ya⟩
      · rw [ya] at HYa
        rcases kind3 b h2 with ⟨b2, b0, yb⟩ | ⟨b2, b0, yb⟩ | ⟨b2, b0, yb⟩
        · rw [yb] at HYb
          have HR := Lib.hid (show joinV a b true = (ofV true, 0) by simp [joinV, h1, h2, isB, a2, ya, b2, yb])
          clear h1 h2 ya yb
          go_wp2_with fail
          refine (HTa.out _).mono ?_
          rintro e w2 ⟨rfl, hf2⟩
          have la := obj_lt hba_1
          have lb := obj_lt hbb_1
          have lr := obj_lt hbr_1
          have hl := hfw_1.size
          have hba_2 : w2.heap[w.heap.size]? = some (.cells #[.int .u8 a.k, .int .i64 a.n, .int .i64 a.hi, .string a.t] 23 (0, 0)) := by
            refine hf2.obj (fun x => x) ?_
            repeat (first | with_reducible exact hba_1 | (with_reducible refine obj_alloc_at ?_; simp; done) | (with_reducible apply obj_put4; omega) | (with_reducible apply obj_put1; omega) | (with_reducible refine obj_setCell_other ?_ _ _ ?_; rotate_left; (dsimp only; omega)) | with_reducible refine obj_alloc ?_ _ | with_reducible refine obj_drew ?_ | exact hba_1)
          have hbb_2 : w2.heap[w.heap.size + 1]? = some (.cells #[.int .u8 b.k, .int .i64 b.n, .int .i64 b.hi, .string b.t] 23 (0, 0)) := by
            refine hf2.obj (fun x => x) ?_
            repeat (first | with_reducible exact hbb_1 | (with_reducible refine obj_alloc_at ?_; simp; done) | (with_reducible apply obj_put4; omega) | (with_reducible apply obj_put1; omega) | (with_reducible refine obj_setCell_other ?_ _ _ ?_; rotate_left; (dsimp only; omega)) | with_reducible refine obj_alloc ?_ _ | with_reducible refine obj_drew ?_ | exact hbb_1)
          have hbr_2 : w2.heap[w.heap.size + 2]? = some (.cells #[.int .u8 0, .int .i64 0, .int .i64 0, .string ⟨#[]⟩] 23 (0, 0)) := by
            refine hf2.obj (fun x => x) ?_
            repeat (first | with_reducible exact hbr_1 | (with_reducible refine obj_alloc_at ?_; simp; done) | (with_reducible apply obj_put4; omega) | (with_reducible apply obj_put1; omega) | (with_reducible refine obj_setCell_other ?_ _ _ ?_; rotate_left; (dsimp only; omega)) | with_reducible refine obj_alloc ?_ _ | with_reducible refine obj_drew ?_ | exact hbr_1)
          have hfw_2 : Fr noB w w2 := by
            refine Fr.transN ?_ hf2
            repeat (first | with_reducible exact hfw_1 | with_reducible refine Fr.alloc ?_ _ | (with_reducible refine Fr.setCell ?_ ?_ _; rotate_left; (intro h; dsimp only at h; omega)) | with_reducible refine Fr.drew ?_ | exact hfw_1)
          clear hba_1 hbb_1 hbr_1 la lb lr hl ca_0 ca_1 ca_2 ca_3 za cb_0 cb_1 cb_2 cb_3 zb cr_0 cr_1 cr_2 cr_3 zr hf2 hfw_1
          obtain ⟨ca_0, ca_1, ca_2, ca_3⟩ := v_cells (v := a) hba_2
          have za := frozen_of_obj hba_2
          obtain ⟨cb_0, cb_1, cb_2, cb_3⟩ := v_cells (v := b) hbb_2
          have zb := frozen_of_obj hbb_2
          obtain ⟨cr_0, cr_1, cr_2, cr_3⟩ := v_cells (v := zV) hbr_2
          dsimp only [zV] at cr_0 cr_1 cr_2 cr_3
          have zr := frozen_of_obj hbr_2
          go_wp2_with fail
          refine (HTb.out _).mono ?_
          rintro e w3 ⟨rfl, hf3⟩
          have la := obj_lt hba_2
          have lb := obj_lt hbb_2
          have lr := obj_lt hbr_2
          have hl := hfw_2.size
          have hba_3 : w3.heap[w.heap.size]? = some (.cells #[.int .u8 a.k, .int .i64 a.n, .int .i64 a.hi, .string a.t] 23 (0, 0)) := by
            refine hf3.obj (fun x => x) ?_
            repeat (first | with_reducible exact hba_2 | (with_reducible refine obj_alloc_at ?_; simp; done) | (with_reducible apply obj_put4; omega) | (with_reducible apply obj_put1; omega) | (with_reducible refine obj_setCell_other ?_ _ _ ?_; rotate_left; (dsimp only; omega)) | with_reducible refine obj_alloc ?_ _ | with_reducible refine obj_drew ?_ | exact hba_2)
          have hbb_3 : w3.heap[w.heap.size + 1]? = some (.cells #[.int .u8 b.k, .int .i64 b.n, .int .i64 b.hi, .string b.t] 23 (0, 0)) := by
            refine hf3.obj (fun x => x) ?_
            repeat (first | with_reducible exact hbb_2 | (with_reducible refine obj_alloc_at ?_; simp; done) | (with_reducible apply obj_put4; omega) | (with_reducible apply obj_put1; omega) | (with_reducible refine obj_setCell_other ?_ _ _ ?_; rotate_left; (dsimp only; omega)) | with_reducible refine obj_alloc ?_ _ | with_reducible refine obj_drew ?_ | exact hbb_2)
          have hbr_3 : w3.heap[w.heap.size + 2]? = some (.cells #[.int .u8 0, .int .i64 0, .int .i64 0, .string ⟨#[]⟩] 23 (0, 0)) := by
            refine hf3.obj (fun x => x) ?_
            repeat (first | with_reducible exact hbr_2 | (with_reducible refine obj_alloc_at ?_; simp; done) | (with_reducible apply obj_put4; omega) | (with_reducible apply obj_put1; omega) | (with_reducible refine obj_setCell_other ?_ _ _ ?_; rotate_left; (dsimp only; omega)) | with_reducible refine obj_alloc ?_ _ | with_reducible refine obj_drew ?_ | exact hbr_2)
          have hfw_3 : Fr noB w w3 := by
            refine Fr.transN ?_ hf3
            repeat (first | with_reducible exact hfw_2 | with_reducible refine Fr.alloc ?_ _ | (with_reducible refine Fr.setCell ?_ ?_ _; rotate_left; (intro h; dsimp only at h; omega)) | with_reducible refine Fr.drew ?_ | exact hfw_2)
          clear hba_2 hbb_2 hbr_2 la lb lr hl ca_0 ca_1 ca_2 ca_3 za cb_0 cb_1 cb_2 cb_3 zb cr_0 cr_1 cr_2 cr_3 zr hf3 hfw_2
          obtain ⟨ca_0, ca_1, ca_2, ca_3⟩ := v_cells (v := a) hba_3
          have za := frozen_of_obj hba_3
          obtain ⟨cb_0, cb_1, cb_2, cb_3⟩ := v_cells (v := b) hbb_3
          have zb := frozen_of_obj hbb_3
          obtain ⟨cr_0, cr_1, cr_2, cr_3⟩ := v_cells (v := zV) hbr_3
          dsimp only [zV] at cr_0 cr_1 cr_2 cr_3
          have zr := frozen_of_obj hbr_3
          go_wp2_with fail
          refine (HYa.out _).mono ?_
          rintro e w4 ⟨rfl, hf4⟩
          have la := obj_lt hba_3
          have lb := obj_lt hbb_3
          have lr := obj_lt hbr_3
          have hl := hfw_3.size
          have hba_4 : w4.heap[w.heap.size]? = some (.cells #[.int .u8 a.k, .int .i64 a.n, .int .i64 a.hi, .string a.t] 23 (0, 0)) := by
            refine hf4.obj (fun x => x) ?_
            repeat (first | with_reducible exact hba_3 | (with_reducible refine obj_alloc_at ?_; simp; done) | (with_reducible apply obj_put4; omega) | (with_reducible apply obj_put1; omega) | (with_reducible refine obj_setCell_other ?_ _ _ ?_; rotate_left; (dsimp only; omega)) | with_reducible refine obj_alloc ?_ _ | with_reducible refine obj_drew ?_ | exact hba_3)
          have hbb_4 : w4.heap[w.heap.size + 1]? = some (.cells #[.int .u8 b.k, .int .i64 b.n, .int .i64 b.hi, .string b.t] 23 (0, 0)) := by
            refine hf4.obj (fun x => x) ?_
            repeat (first | with_reducible exact hbb_3 | (with_reducible refine obj_alloc_at ?_; simp; done) | (with_reducible apply obj_put4; omega) | (with_reducible apply obj_put1; omega) | (with_reducible refine obj_setCell_other ?_ _ _ ?_; rotate_left; (dsimp only; omega)) | with_reducible refine obj_alloc ?_ _ | with_reducible refine obj_drew ?_ | exact hbb_3)
          have hbr_4 : w4.heap[w.heap.size + 2]? = some (.cells #[.int .u8 0, .int .i64 0, .int .i64 0, .string ⟨#[]⟩] 23 (0, 0)) := by
            refine hf4.obj (fun x => x) ?_
            repeat (first | with_reducible exact hbr_3 | (with_reducible refine obj_alloc_at ?_; simp; done) | (with_reducible apply obj_put4; omega) | (with_reducible apply obj_put1; omega) | (with_reducible refine obj_setCell_other ?_ _ _ ?_; rotate_left; (dsimp only; omega)) | with_reducible refine obj_alloc ?_ _ | with_reducible refine obj_drew ?_ | exact hbr_3)
          have hfw_4 : Fr noB w w4 := by
            refine Fr.transN ?_ hf4
            repeat (first | with_reducible exact hfw_3 | with_reducible refine Fr.alloc ?_ _ | (with_reducible refine Fr.setCell ?_ ?_ _; rotate_left; (intro h; dsimp only at h; omega)) | with_reducible refine Fr.drew ?_ | exact hfw_3)
          clear hba_3 hbb_3 hbr_3 la lb lr hl ca_0 ca_1 ca_2 ca_3 za cb_0 cb_1 cb_2 cb_3 zb cr_0 cr_1 cr_2 cr_3 zr hf4 hfw_3
          obtain ⟨ca_0, ca_1, ca_2, ca_3⟩ := v_cells (v := a) hba_4
          have za := frozen_of_obj hba_4
          obtain ⟨cb_0, cb_1, cb_2, cb_3⟩ := v_cells (v := b) hbb_4
          have zb := frozen_of_obj hbb_4
          obtain ⟨cr_0, cr_1, cr_2, cr_3⟩ := v_cells (v := zV) hbr_4
          dsimp only [zV] at cr_0 cr_1 cr_2 cr_3
          have zr := frozen_of_obj hbr_4
          go_wp2_with fail
          refine (HO1.out _).mono ?_
          rintro e w5 ⟨rfl, hf5⟩
          have la := obj_lt hba_4
          have lb := obj_lt hbb_4
          have lr := obj_lt hbr_4
          have hl := hfw_4.size
          have hba_5 : w5.heap[w.heap.size]? = some (.cells #[.int .u8 a.k, .int .i64 a.n, .int .i64 a.hi, .string a.t] 23 (0, 0)) := by
            refine hf5.obj (fun x => x) ?_
            repeat (first | with_reducible exact hba_4 | (with_reducible refine obj_alloc_at ?_; simp; done) | (with_reducible apply obj_put4; omega) | (with_reducible apply obj_put1; omega) | (with_reducible refine obj_setCell_other ?_ _ _ ?_; rotate_left; (dsimp only; omega)) | with_reducible refine obj_alloc ?_ _ | with_reducible refine obj_drew ?_ | exact hba_4)
          have hbb_5 : w5.heap[w.heap.size + 1]? = some (.cells #[.int .u8 b.k, .int .i64 b.n, .int .i64 b.hi, .string b.t] 23 (0, 0)) := by
            refine hf5.obj (fun x => x) ?_
            repeat (first | with_reducible exact hbb_4 | (with_reducible refine obj_alloc_at ?_; simp; done) | (with_reducible apply obj_put4; omega) | (with_reducible apply obj_put1; omega) | (with_reducible refine obj_setCell_other ?_ _ _ ?_; rotate_left; (dsimp only; omega)) | with_reducible refine obj_alloc ?_ _ | with_reducible refine obj_drew ?_ | exact hbb_4)
          have hbr_5 : w5.heap[w.heap.size + 2]? = some (.cells #[.int .u8 0, .int .i64 0, .int .i64 0, .string ⟨#[]⟩] 23 (0, 0)) := by
            refine hf5.obj (fun x => x) ?_
            repeat (first | with_reducible exact hbr_4 | (with_reducible refine obj_alloc_at ?_; simp; done) | (with_reducible apply obj_put4; omega) | (with_reducible apply obj_put1; omega) | (with_reducible refine obj_setCell_other ?_ _ _ ?_; rotate_left; (dsimp only; omega)) | with_reducible refine obj_alloc ?_ _ | with_reducible refine obj_drew ?_ | exact hbr_4)
          have hfw_5 : Fr noB w w5 := by
            refine Fr.transN ?_ hf5
            repeat (first | with_reducible exact hfw_4 | with_reducible refine Fr.alloc ?_ _ | (with_reducible refine Fr.setCell ?_ ?_ _; rotate_left; (intro h; dsimp only at h; omega)) | with_reducible refine Fr.drew ?_ | exact hfw_4)
          clear hba_4 hbb_4 hbr_4 la lb lr hl ca_0 ca_1 ca_2 ca_3 za cb_0 cb_1 cb_2 cb_3 zb cr_0 cr_1 cr_2 cr_3 zr hf5 hfw_4
          obtain ⟨ca_0, ca_1, ca_2, ca_3⟩ := v_cells (v := a) hba_5
          have za := frozen_of_obj hba_5
          obtain ⟨cb_0, cb_1, cb_2, cb_3⟩ := v_cells (v := b) hbb_5
          have zb := frozen_of_obj hbb_5
          obtain ⟨cr_0, cr_1, cr_2, cr_3⟩ := v_cells (v := zV) hbr_5
          dsimp only [zV] at cr_0 cr_1 cr_2 cr_3
          have zr := frozen_of_obj hbr_5
          go_wp2_with fail
          have la := obj_lt hba_5
          have lb := obj_lt hbb_5
          have lr := obj_lt hbr_5
          have hl := hfw_5.size
          refine bodyPost_ret (ret_val2 rfl _ _ (w.heap.size + 2) yesV _ rfl rfl ?_) rfl ⟨?_, ?_⟩
          · show _ = some (Obj.cells #[.int .u8 2, .int .i64 1, .int .i64 0, .string ⟨#[]⟩] 23 (0, 0))
            repeat (first | with_reducible exact hbr_5 | (with_reducible refine obj_alloc_at ?_; simp; done) | (with_reducible apply obj_put4; omega) | (with_reducible apply obj_put1; omega) | (with_reducible refine obj_setCell_other ?_ _ _ ?_; rotate_left; (dsimp only; omega)) | with_reducible refine obj_alloc ?_ _ | with_reducible refine obj_drew ?_ | exact hbr_5)
          · rw [HR.out] <;> rfl
          · skip
            repeat (first | with_reducible exact hfw_5 | with_reducible refine Fr.alloc ?_ _ | (with_reducible refine Fr.setCell ?_ ?_ _; rotate_left; (intro h; dsimp only at h; omega)) | with_reducible refine Fr.drew ?_ | exact hfw_5)
        · rw [yb] at HYb
          have HR := Lib.hid (show joinV a b true = (ofV true, 0) by simp [joinV, h1, h2, isB, a2, ya, b2, yb])
          clear h1 h2 ya yb
          go_wp2_with fail
          refine (HTa.out _).mono ?_
          rintro e w2 ⟨rfl, hf2⟩
          have la := obj_lt hba_1
          have lb := obj_lt hbb_1
          have lr := obj_lt hbr_1
          have hl := hfw_1.size
          have hba_2 : w2.heap[w.heap.size]? = some (.cells #[.int .u8 a.k, .int .i64 a.n, .int .i64 a.hi, .string a.t] 23 (0, 0)) := by
            refine hf2.obj (fun x => x) ?_
            repeat (first | with_reducible exact hba_1 | (with_reducible refine obj_alloc_at ?_; simp; done) | (with_reducible apply obj_put4; omega) | (with_reducible apply obj_put1; omega) | (with_reducible refine obj_setCell_other ?_ _ _ ?_; rotate_left; (dsimp only; omega)) | with_reducible refine obj_alloc ?_ _ | with_reducible refine obj_drew ?_ | exact hba_1)
          have hbb_2 : w2.heap[w.heap.size + 1]? = some (.cells #[.int .u8 b.k, .int .i64 b.n, .int .i64 b.hi, .string b.t] 23 (0, 0)) := by
            refine hf2.obj (fun x => x) ?_
            repeat (first | with_reducible exact hbb_1 | (with_reducible refine obj_alloc_at ?_; simp; done) | (with_reducible apply obj_put4; omega) | (with_reducible apply obj_put1; omega) | (with_reducible refine obj_setCell_other ?_ _ _ ?_; rotate_left; (dsimp only; omega)) | with_reducible refine obj_alloc ?_ _ | with_reducible refine obj_drew ?_ | exact hbb_1)
          have hbr_2 : w2.heap[w.heap.size + 2]? = some (.cells #[.int .u8 0, .int .i64 0, .int .i64 0, .string ⟨#[]⟩] 23 (0, 0)) := by
            refine hf2.obj (fun x => x) ?_
            repeat (first | with_reducible exact hbr_1 | (with_reducible refine obj_alloc_at ?_; simp; done) | (with_reducible apply obj_put4; omega) | (with_reducible apply obj_put1; omega) | (with_reducible refine obj_setCell_other ?_ _ _ ?_; rotate_left; (dsimp only; omega)) | with_reducible refine obj_alloc ?_ _ | with_reducible refine obj_drew ?_ | exact hbr_1)
          have hfw_2 : Fr noB w w2 := by
            refine Fr.transN ?_ hf2
            repeat (first | with_reducible exact hfw_1 | with_reducible refine Fr.alloc ?_ _ | (with_reducible refine Fr.setCell ?_ ?_ _; rotate_left; (intro h; dsimp only at h; omega)) | with_reducible refine Fr.drew ?_ | exact hfw_1)
          clear hba_1 hbb_1 hbr_1 la lb lr hl ca_0 ca_1 ca_2 ca_3 za cb_0 cb_1 cb_2 cb_3 zb cr_0 cr_1 cr_2 cr_3 zr hf2 hfw_1
          obtain ⟨ca_0, ca_1, ca_2, ca_3⟩ := v_cells (v := a) hba_2
          have za := frozen_of_obj hba_2
          obtain ⟨cb_0, cb_1, cb_2, cb_3⟩ := v_cells (v := b) hbb_2
          have zb := frozen_of_obj hbb_2
          obtain ⟨cr_0, cr_1, cr_2, cr_3⟩ := v_cells (v := zV) hbr_2
          dsimp only [zV] at cr_0 cr_1 cr_2 cr_3
          have zr := frozen_of_obj hbr_2
          go_wp2_with fail
          refine (HTb.out _).mono ?_
          rintro e w3 ⟨rfl, hf3⟩
          have la := obj_lt hba_2
          have lb := obj_lt hbb_2
          have lr := obj_lt hbr_2
          have hl := hfw_2.size
          have hba_3 : w3.heap[w.heap.size]? = some (.cells #[.int .u8 a.k, .int .i64 a.n, .int .i64 a.hi, .string a.t] 23 (0, 0)) := by
            refine hf3.obj (fun x => x) ?_
            repeat (first | with_reducible exact hba_2 | (with_reducible refine obj_alloc_at ?_; simp; done) | (with_reducible apply obj_put4; omega) | (with_reducible apply obj_put1; omega) | (with_reducible refine obj_setCell_other ?_ _ _ ?_; rotate_left; (dsimp only; omega)) | with_reducible refine obj_alloc ?_ _ | with_reducible refine obj_drew ?_ | exact hba_2)
          have hbb_3 : w3.heap[w.heap.size + 1]? = some (.cells #[.int .u8 b.k, .int .i64 b.n, .int .i64 b.hi, .string b.t] 23 (0, 0)) := by
            refine hf3.obj (fun x => x) ?_
            repeat (first | with_reducible exact hbb_2 | (with_reducible refine obj_alloc_at ?_; simp; done) | (with_reducible apply obj_put4; omega) | (with_reducible apply obj_put1; omega) | (with_reducible refine obj_setCell_other ?_ _ _ ?_; rotate_left; (dsimp only; omega)) | with_reducible refine obj_alloc ?_ _ | with_reducible refine obj_drew ?_ | exact hbb_2)
          have hbr_3 : w3.heap[w.heap.size + 2]? = some (.cells #[.int .u8 0, .int .i64 0, .int .i64 0, .string ⟨#[]⟩] 23 (0, 0)) := by
            refine hf3.obj (fun x => x) ?_
            repeat (first | with_reducible exact hbr_2 | (with_reducible refine obj_alloc_at ?_; simp; done) | (with_reducible apply obj_put4; omega) | (with_reducible apply obj_put1; omega) | (with_reducible refine obj_setCell_other ?_ _ _ ?_; rotate_left; (dsimp only; omega)) | with_reducible refine obj_alloc ?_ _ | with_reducible refine obj_drew ?_ | exact hbr_2)
          have hfw_3 : Fr noB w w3 := by
            refine Fr.transN ?_ hf3
            repeat (first | with_reducible exact hfw_2 | with_reducible refine Fr.alloc ?_ _ | (with_reducible refine Fr.setCell ?_ ?_ _; rotate_left; (intro h; dsimp only at h; omega)) | with_reducible refine Fr.drew ?_ | exact hfw_2)
          clear hba_2 hbb_2 hbr_2 la lb lr hl ca_0 ca_1 ca_2 ca_3 za cb_0 cb_1 cb_2 cb_3 zb cr_0 cr_1 cr_2 cr_3 zr hf3 hfw_2
          obtain ⟨ca_0, ca_1, ca_2, ca_3⟩ := v_cells (v := a) hba_3
          have za := frozen_of_obj hba_3
          obtain ⟨cb_0, cb_1, cb_2, cb_3⟩ := v_cells (v := b) hbb_3
          have zb := frozen_of_obj hbb_3
          obtain ⟨cr_0, cr_1, cr_2, cr_3⟩ := v_cells (v := zV) hbr_3
          dsimp only [zV] at cr_0 cr_1 cr_2 cr_3
          have zr := frozen_of_obj hbr_3
          go_wp2_with fail
          refine (HYa.out _).mono ?_
          rintro e w4 ⟨rfl, hf4⟩
          have la := obj_lt hba_3
          have lb := obj_lt hbb_3
          have lr := obj_lt hbr_3
          have hl := hfw_3.size
          have hba_4 : w4.heap[w.heap.size]? = some (.cells #[.int .u8 a.k, .int .i64 a.n, .int .i64 a.hi, .string a.t] 23 (0, 0)) := by
            refine hf4.obj (fun x => x) ?_
            repeat (first | with_reducible exact hba_3 | (with_reducible refine obj_alloc_at ?_; simp; done) | (with_reducible apply obj_put4; omega) | (with_reducible apply obj_put1; omega) | (with_reducible refine obj_setCell_other ?_ _ _ ?_; rotate_left; (dsimp only; omega)) | with_reducible refine obj_alloc ?_ _ | with_reducible refine obj_drew ?_ | exact hba_3)
          have hbb_4 : w4.heap[w.heap.size + 1]? = some (.cells #[.int .u8 b.k, .int .i64 b.n, .int .i64 b.hi, .string b.t] 23 (0, 0)) := by
            refine hf4.obj (fun x => x) ?_
            repeat (first | with_reducible exact hbb_3 | (with_reducible refine obj_alloc_at ?_; simp; done) | (with_reducible apply obj_put4; omega) | (with_reducible apply obj_put1; omega) | (with_reducible refine obj_setCell_other ?_ _ _ ?_; rotate_left; (dsimp only; omega)) | with_reducible refine obj_alloc ?_ _ | with_reducible refine obj_drew ?_ | exact hbb_3)
          have hbr_4 : w4.heap[w.heap.size + 2]? = some (.cells #[.int .u8 0, .int .i64 0, .int .i64 0, .string ⟨#[]⟩] 23 (0, 0)) := by
            refine hf4.obj (fun x => x) ?_
            repeat (first | with_reducible exact hbr_3 | (with_reducible refine obj_alloc_at ?_; simp; done) | (with_reducible apply obj_put4; omega) | (with_reducible apply obj_put1; omega) | (with_reducible refine obj_setCell_other ?_ _ _ ?_; rotate_left; (dsimp only; omega)) | with_reducible refine obj_alloc ?_ _ | with_reducible refine obj_drew ?_ | exact hbr_3)
          have hfw_4 : Fr noB w w4 := by
            refine Fr.transN ?_ hf4
            repeat (first | with_reducible exact hfw_3 | with_reducible refine Fr.alloc ?_ _ | (with_reducible refine Fr.setCell ?_ ?_ _; rotate_left; (intro h; dsimp only at h; omega)) | with_reducible refine Fr.drew ?_ | exact hfw_3)
          clear hba_3 hbb_3 hbr_3 la lb lr hl ca_0 ca_1 ca_2 ca_3 za cb_0 cb_1 cb_2 cb_3 zb cr_0 cr_1 cr_2 cr_3 zr hf4 hfw_3
          obtain ⟨ca_0, ca_1, ca_2, ca_3⟩ := v_cells (v := a) hba_4
          have za := frozen_of_obj hba_4
          obtain ⟨cb_0, cb_1, cb_2, cb_3⟩ := v_cells (v := b) hbb_4
          have zb := frozen_of_obj hbb_4
          obtain ⟨cr_0, cr_1, cr_2, cr_3⟩ := v_cells (v := zV) hbr_4
          dsimp only [zV] at cr_0 cr_1 cr_2 cr_3
          have zr := frozen_of_obj hbr_4
          go_wp2_with fail
          refine (HO1.out _).mono ?_
          rintro e w5 ⟨rfl, hf5⟩
          have la := obj_lt hba_4
          have lb := obj_lt hbb_4
          have lr := obj_lt hbr_4
          have hl := hfw_4.size
          have hba_5 : w5.heap[w.heap.size]? = some (.cells #[.int .u8 a.k, .int .i64 a.n, .int .i64 a.hi, .string a.t] 23 (0, 0)) := by
            refine hf5.obj (fun x => x) ?_
            repeat (first | with_reducible exact hba_4 | (with_reducible refine obj_alloc_at ?_; simp; done) | (with_reducible apply obj_put4; omega) | (with_reducible apply obj_put1; omega) | (with_reducible refine obj_setCell_other ?_ _ _ ?_; rotate_left; (dsimp only; omega)) | with_reducible refine obj_alloc ?_ _ | with_reducible refine obj_drew ?_ | exact hba_4)
          have hbb_5 : w5.heap[w.heap.size + 1]? = some (.cells #[.int .u8 b.k, .int .i64 b.n, .int .i64 b.hi, .string b.t] 23 (0, 0)) := by
            refine hf5.obj (fun x => x) ?_
            repeat (first | with_reducible exact hbb_4 | (with_reducible refine obj_alloc_at ?_; simp; done) | (with_reducible apply obj_put4; omega) | (with_reducible apply obj_put1; omega) | (with_reducible refine obj_setCell_other ?_ _ _ ?_; rotate_left; (dsimp only; omega)) | with_reducible refine obj_alloc ?_ _ | with_reducible refine obj_drew ?_ | exact hbb_4)
          have hbr_5 : w5.heap[w.heap.size + 2]? = some (.cells #[.int .u8 0, .int .i64 0, .int .i64 0, .string ⟨#[]⟩] 23 (0, 0)) := by
            refine hf5.obj (fun x => x) ?_
            repeat (first | with_reducible exact hbr_4 | (with_reducible refine obj_alloc_at ?_; simp; done) | (with_reducible apply obj_put4; omega) | (with_reducible apply obj_put1; omega) | (with_reducible refine obj_setCell_other ?_ _ _ ?_; rotate_left; (dsimp only; omega)) | with_reducible refine obj_alloc ?_ _ | with_reducible refine obj_drew ?_ | exact hbr_4)
          have hfw_5 : Fr noB w w5 := by
            refine Fr.transN ?_ hf5
            repeat (first | with_reducible exact hfw_4 | with_reducible refine Fr.alloc ?_ _ | (with_reducible refine Fr.setCell ?_ ?_ _; rotate_left; (intro h; dsimp only at h; omega)) | with_reducible refine Fr.drew ?_ | exact hfw_4)
          clear hba_4 hbb_4 hbr_4 la lb lr hl ca_0 ca_1 ca_2 ca_3 za cb_0 cb_1 cb_2 cb_3 zb cr_0 cr_1 cr_2 cr_3 zr hf5 hfw_4
          obtain ⟨ca_0, ca_1, ca_2, ca_3⟩ := v_cells (v := a) hba_5
          have za := frozen_of_obj hba_5
          obtain ⟨cb_0, cb_1, cb_2, cb_3⟩ := v_cells (v := b) hbb_5
          have zb := frozen_of_obj hbb_5
          obtain ⟨cr_0, cr_1, cr_2, cr_3⟩ := v_cells (v := zV) hbr_5
          dsimp only [zV] at cr_0 cr_1 cr_2 cr_3
          have zr := frozen_of_obj hbr_5
          go_wp2_with fail
          have la := obj_lt hba_5
          have lb := obj_lt hbb_5
          have lr := obj_lt hbr_5
          have hl := hfw_5.size
          refine bodyPost_ret (ret_val2 rfl _ _ (w.heap.size + 2) yesV _ rfl rfl ?_) rfl ⟨?_, ?_⟩
          · show _ = some (Obj.cells #[.int .u8 2, .int .i64 1, .int .i64 0, .string ⟨#[]⟩] 23 (0, 0))
            repeat (first | with_reducible exact hbr_5 | (with_reducible refine obj_alloc_at ?_; simp; done) | (with_reducible apply obj_put4; omega) | (with_reducible apply obj_put1; omega) | (with_reducible refine obj_setCell_other ?_ _ _ ?_; rotate_left; (dsimp only; omega)) | with_reducible refine obj_alloc ?_ _ | with_reducible refine obj_drew ?_ | exact hbr_5)
          · rw [HR.out] <;> rfl
          · skip
            repeat (first | with_reducible exact hfw_5 | with_reducible refine Fr.alloc ?_ _ | (with_reducible refine Fr.setCell ?_ ?_ _; rotate_left; (intro h; dsimp only at h; omega)) | with_reducible refine Fr.drew ?_ | exact hfw_5)
        · rw [yb] at HYb
          have HR := Lib.hid (show joinV a b true = (ofV true, 0) by simp [joinV, h1, h2, isB, a2, ya, b2, yb])
          clear h1 h2 ya yb
          go_wp2_with fail
          refine (HTa.out _).mono ?_
          rintro e w2 ⟨rfl, hf2⟩
          have la := obj_lt hba_1
          have lb := obj_lt hbb_1
          have lr := obj_lt hbr_1
          have hl := hfw_1.size
          have hba_2 : w2.heap[w.heap.size]? = some (.cells #[.int .u8 a.k, .int .i64 a.n, .int .i64 a.hi, .string a.t] 23 (0, 0)) := by
            refine hf2.obj (fun x => x) ?_
            repeat (first | with_reducible exact hba_1 | (with_reducible refine obj_alloc_at ?_; simp; done) | (with_reducible apply obj_put4; omega) | (with_reducible apply obj_put1; omega) | (with_reducible refine obj_setCell_other ?_ _ _ ?_; rotate_left; (dsimp only; omega)) | with_reducible refine obj_alloc ?_ _ | with_reducible refine obj_drew ?_ | exact hba_1)
          have hbb_2 : w2.heap[w.heap.size + 1]? = some (.cells #[.int .u8 b.k, .int .i64 b.n, .int .i64 b.hi, .string b.t] 23 (0, 0)) := by
            refine hf2.obj (fun x => x) ?_
            repeat (first | with_reducible exact hbb_1 | (with_reducible refine obj_alloc_at ?_; simp; done) | (with_reducible apply obj_put4; omega) | (with_reducible apply obj_put1; omega) | (with_reducible refine obj_setCell_other ?_ _ _ ?_; rotate_left; (dsimp only; omega)) | with_reducible refine obj_alloc ?_ _ | with_reducible refine obj_drew ?_ | exact hbb_1)
          have hbr_2 : w2.heap[w.heap.size + 2]? = some (.cells #[.int .u8 0, .int .i64 0, .int .i64 0, .string ⟨#[]⟩] 23 (0, 0)) := by
            refine hf2.obj (fun x => x) ?_
            repeat (first | with_reducible exact hbr_1 | (with_reducible refine obj_alloc_at ?_; simp; done) | (with_reducible apply obj_put4; omega) | (with_reducible apply obj_put1; omega) | (with_reducible refine obj_setCell_other ?_ _ _ ?_; rotate_left; (dsimp only; omega)) | with_reducible refine obj_alloc ?_ _ | with_reducible refine obj_drew ?_ | exact hbr_1)
          have hfw_2 : Fr noB w w2 := by
            refine Fr.transN ?_ hf2
            repeat (first | with_reducible exact hfw_1 | with_reducible refine Fr.alloc ?_ _ | (with_reducible refine Fr.setCell ?_ ?_ _; rotate_left; (intro h; dsimp only at h; omega)) | with_reducible refine Fr.drew ?_ | exact hfw_1)
          clear hba_1 hbb_1 hbr_1 la lb lr hl ca_0 ca_1 ca_2 ca_3 za cb_0 cb_1 cb_2 cb_3 zb cr_0 cr_1 cr_2 cr_3 zr hf2 hfw_1
          obtain ⟨ca_0, ca_1, ca_2, ca_3⟩ := v_cells (v := a) hba_2
          have za := frozen_of_obj hba_2
          obtain ⟨cb_0, cb_1, cb_2, cb_3⟩ := v_cells (v := b) hbb_2
          have zb := frozen_of_obj hbb_2
          obtain ⟨cr_0, cr_1, cr_2, cr_3⟩ := v_cells (v := zV) hbr_2
          dsimp only [zV] at cr_0 cr_1 cr_2 cr_3
          have zr := frozen_of_obj hbr_2
          go_wp2_with fail
          refine (HTb.out _).mono ?_
          rintro e w3 ⟨rfl, hf3⟩
          have la := obj_lt hba_2
          have lb := obj_lt hbb_2
          have lr := obj_lt hbr_2
          have hl := hfw_2.size
          have hba_3 : w3.heap[w.heap.size]? = some (.cells #[.int .u8 a.k, .int .i64 a.n, .int .i64 a.hi, .string a.t] 23 (0, 0)) := by
            refine hf3.obj (fun x => x) ?_
            repeat (first | with_reducible exact hba_2 | (with_reducible refine obj_alloc_at ?_; simp; done) | (with_reducible apply obj_put4; omega) | (with_reducible apply obj_put1; omega) | (with_reducible refine obj_setCell_other ?_ _ _ ?_; rotate_left; (dsimp only; omega)) | with_reducible refine obj_alloc ?_ _ | with_reducible refine obj_drew ?_ | exact hba_2)
          have hbb_3 : w3.heap[w.heap.size + 1]? = some (.cells #[.int .u8 b.k, .int .i64 b.n, .int .i64 b.hi, .string b.t] 23 (0, 0)) := by
            refine hf3.obj (fun x => x) ?_
            repeat (first | with_reducible exact hbb_2 | (with_reducible refine obj_alloc_at ?_; simp; done) | (with_reducible apply obj_put4; omega) | (with_reducible apply obj_put1; omega) | (with_reducible refine obj_setCell_other ?_ _ _ ?_; rotate_left; (dsimp only; omega)) | with_reducible refine obj_alloc ?_ _ | with_reducible refine obj_drew ?_ | exact hbb_2)
          have hbr_3 : w3.heap[w.heap.size + 2]? = some (.cells #[.int .u8 0, .int .i64 0, .int .i64 0, .string ⟨#[]⟩] 23 (0, 0)) := by
            refine hf3.obj (fun x => x) ?_
            repeat (first | with_reducible exact hbr_2 | (with_reducible refine obj_alloc_at ?_; simp; done) | (with_reducible apply obj_put4; omega) | (with_reducible apply obj_put1; omega) | (with_reducible refine obj_setCell_other ?_ _ _ ?_; rotate_left; (dsimp only; omega)) | with_reducible refine obj_alloc ?_ _ | with_reducible refine obj_drew ?_ | exact hbr_2)
          have hfw_3 : Fr noB w w3 := by
            refine Fr.transN ?_ hf3
            repeat (first | with_reducible exact hfw_2 | with_reducible refine Fr.alloc ?_ _ | (with_reducible refine Fr.setCell ?_ ?_ _; rotate_left; (intro h; dsimp only at h; omega)) | with_reducible refine Fr.drew ?_ | exact hfw_2)
          clear hba_2 hbb_2 hbr_2 la lb lr hl ca_0 ca_1 ca_2 ca_3 za cb_0 cb_1 cb_2 cb_3 zb cr_0 cr_1 cr_2 cr_3 zr hf3 hfw_2
          obtain ⟨ca_0, ca_1, ca_2, ca_3⟩ := v_cells (v := a) hba_3
          have za := frozen_of_obj hba_3
          obtain ⟨cb_0, cb_1, cb_2, cb_3⟩ := v_cells (v := b) hbb_3
          have zb := frozen_of_obj hbb_3
          obtain ⟨cr_0, cr_1, cr_2, cr_3⟩ := v_cells (v := zV) hbr_3
          dsimp only [zV] at cr_0 cr_1 cr_2 cr_3
          have zr := frozen_of_obj hbr_3
          go_wp2_with fail
          refine (HYa.out _).mono ?_
          rintro e w4 ⟨rfl, hf4⟩
          have la := obj_lt hba_3
          have lb := obj_lt hbb_3
          have lr := obj_lt hbr_3
          have hl := hfw_3.size
          have hba_4 : w4.heap[w.heap.size]? = some (.cells #[.int .u8 a.k, .int .i64 a.n, .int .i64 a.hi, .string a.t] 23 (0, 0)) := by
            refine hf4.obj (fun x => x) ?_
            repeat (first | with_reducible exact hba_3 | (with_reducible refine obj_alloc_at ?_; simp; done) | (with_reducible apply obj_put4; omega) | (with_reducible apply obj_put1; omega) | (with_reducible refine obj_setCell_other ?_ _ _ ?_; rotate_left; (dsimp only; omega)) | with_reducible refine obj_alloc ?_ _ | with_reducible refine obj_drew ?_ | exact hba_3)
          have hbb_4 : w4.heap[w.heap.size + 1]? = some (.cells #[.int .u8 b.k, .int .i64 b.n, .int .i64 b.hi, .string b.t] 23 (0, 0)) := by
            refine hf4.obj (fun x => x) ?_
            repeat (first | with_reducible exact hbb_3 | (with_reducible refine obj_alloc_at ?_; simp; done) | (with_reducible apply obj_put4; omega) | (with_reducible apply obj_put1; omega) | (with_reducible refine obj_setCell_other ?_ _ _ ?_; rotate_left; (dsimp only; omega)) | with_reducible refine obj_alloc ?_ _ | with_reducible refine obj_drew ?_ | exact hbb_3)
          have hbr_4 : w4.heap[w.heap.size + 2]? = some (.cells #[.int .u8 0, .int .i64 0, .int .i64 0, .string ⟨#[]⟩] 23 (0, 0)) := by
            refine hf4.obj (fun x => x) ?_
            repeat (first | with_reducible exact hbr_3 | (with_reducible refine obj_alloc_at ?_; simp; done) | (with_reducible apply obj_put4; omega) | (with_reducible apply obj_put1; omega) | (with_reducible refine obj_setCell_other ?_ _ _ ?_; rotate_left; (dsimp only; omega)) | with_reducible refine obj_alloc ?_ _ | with_reducible refine obj_drew ?_ | exact hbr_3)
          have hfw_4 : Fr noB w w4 := by
            refine Fr.transN ?_ hf4
            repeat (first | with_reducible exact hfw_3 | with_reducible refine Fr.alloc ?_ _ | (with_reducible refine Fr.setCell ?_ ?_ _; rotate_left; (intro h; dsimp only at h; omega)) | with_reducible refine Fr.drew ?_ | exact hfw_3)
          clear hba_3 hbb_3 hbr_3 la lb lr hl ca_0 ca_1 ca_2 ca_3 za cb_0 cb_1 cb_2 cb_3 zb cr_0 cr_1 cr_2 cr_3 zr hf4 hfw_3
          obtain ⟨ca_0, ca_1, ca_2, ca_3⟩ := v_cells (v := a) hba_4
          have za := frozen_of_obj hba_4
          obtain ⟨cb_0, cb_1, cb_2, cb_3⟩ := v_cells (v := b) hbb_4
          have zb := frozen_of_obj hbb_4
          obtain ⟨cr_0, cr_1, cr_2, cr_3⟩ := v_cells (v := zV) hbr_4
          dsimp only [zV] at cr_0 cr_1 cr_2 cr_3
          have zr := frozen_of_obj hbr_4
          go_wp2_with fail
          refine (HO1.out _).mono ?_
          rintro e w5 ⟨rfl, hf5⟩
          have la := obj_lt hba_4
          have lb := obj_lt hbb_4
          have lr := obj_lt hbr_4
          have hl := hfw_4.size
          have hba_5 : w5.heap[w.heap.size]? = some (.cells #[.int .u8 a.k, .int .i64 a.n, .int .i64 a.hi, .string a.t] 23 (0, 0)) := by
            refine hf5.obj (fun x => x) ?_
            repeat (first | with_reducible exact hba_4 | (with_reducible refine obj_alloc_at ?_; simp; done) | (with_reducible apply obj_put4; omega) | (with_reducible apply obj_put1; omega) | (with_reducible refine obj_setCell_other ?_ _ _ ?_; rotate_left; (dsimp only; omega)) | with_reducible refine obj_alloc ?_ _ | with_reducible refine obj_drew ?_ | exact hba_4)
          have hbb_5 : w5.heap[w.heap.size + 1]? = some (.cells #[.int .u8 b.k, .int .i64 b.n, .int .i64 b.hi, .string b.t] 23 (0, 0)) := by
            refine hf5.obj (fun x => x) ?_
            repeat (first | with_reducible exact hbb_4 | (with_reducible refine obj_alloc_at ?_; simp; done) | (with_reducible apply obj_put4; omega) | (with_reducible apply obj_put1; omega) | (with_reducible refine obj_setCell_other ?_ _ _ ?_; rotate_left; (dsimp only; omega)) | with_reducible refine obj_alloc ?_ _ | with_reducible refine obj_drew ?_ | exact hbb_4)
          have hbr_5 : w5.heap[w.heap.size + 2]? = some (.cells #[.int .u8 0, .int .i64 0, .int .i64 0, .string ⟨#[]⟩] 23 (0, 0)) := by
            refine hf5.obj (fun x => x) ?_
            repeat (first | with_reducible exact hbr_4 | (with_reducible refine obj_alloc_at ?_; simp; done) | (with_reducible apply obj_put4; omega) | (with_reducible apply obj_put1; omega) | (with_reducible refine obj_setCell_other ?_ _ _ ?_; rotate_left; (dsimp only; omega)) | with_reducible refine obj_alloc ?_ _ | with_reducible refine obj_drew ?_ | exact hbr_4)
          have hfw_5 : Fr noB w w5 := by
            refine Fr.transN ?_ hf5
            repeat (first | with_reducible exact hfw_4 | with_reducible refine Fr.alloc ?_ _ | (with_reducible refine Fr.setCell ?_ ?_ _; rotate_left; (intro h; dsimp only at h; omega)) | with_reducible refine Fr.drew ?_ | exact hfw_4)
          clear hba_4 hbb_4 hbr_4 la lb lr hl ca_0 ca_1 ca_2 ca_3 za cb_0 cb_1 cb_2 cb_3 zb cr_0 cr_1 cr_2 cr_3 zr hf5 hfw_4
          obtain ⟨ca_0, ca_1, ca_2, ca_3⟩ := v_cells (v := a) hba_5
          have za := frozen_of_obj hba_5
          obtain ⟨cb_0, cb_1, cb_2, cb_3⟩ := v_cells (v := b) hbb_5
          have zb := frozen_of_obj hbb_5
          obtain ⟨cr_0, cr_1, cr_2, cr_3⟩ := v_cells (v := zV) hbr_5
          dsimp only [zV] at cr_0 cr_1 cr_2 cr_3
          have zr := frozen_of_obj hbr_5
          go_wp2_with fail
          have la := obj_lt hba_5
          have lb := obj_lt hbb_5
          have lr := obj_lt hbr_5
          have hl := hfw_5.size
          refine bodyPost_ret (ret_val2 rfl _ _ (w.heap.size + 2) yesV _ rfl rfl ?_) rfl ⟨?_, ?_⟩
          · show _ = some (Obj.cells #[.int .u8 2, .int .i64 1, .int .i64 0, .string ⟨#[]⟩] 23 (0, 0))
            repeat (first | with_reducible exact hbr_5 | (with_reducible refine obj_alloc_at ?_; simp; done) | (with_reducible apply obj_put4; omega) | (with_reducible apply obj_put1; omega) | (with_reducible refine obj_setCell_other ?_ _ _ ?_; rotate_left; (dsimp only; omega)) | with_reducible refine obj_alloc ?_ _ | with_reducible refine obj_drew ?_ | exact hbr_5)
          · rw [HR.out] <;> rfl
          · skip
            repeat (first | with_reducible exact hfw_5 | with_reducible refine Fr.alloc ?_ _ | (with_reducible refine Fr.setCell ?_ ?_ _; rotate_left; (intro h; dsimp only at h; omega)) | with_reducible refine Fr.drew ?_ | exact hfw_5)
      · rw [ya] at HYa
        rcases kind3 b h2 with ⟨b2, b0, yb⟩ | ⟨b2, b0, yb⟩ | ⟨b2, b0, yb⟩
        · rw [yb] at HYb
          have HR := Lib.hid (show joinV a b true = (ofV true, 0) by simp [joinV, h1, h2, isB, a2, ya, b2, yb])
          clear h1 h2 ya yb
          go_wp2_with fail
          refine (HTa.out _).mono ?_
          rintro e w2 ⟨rfl, hf2⟩
          have la := obj_lt hba_1
          have lb := obj_lt hbb_1
          have lr := obj_lt hbr_1
          have hl := hfw_1.size
          have hba_2 : w2.heap[w.heap.size]? = some (.cells #[.int .u8 a.k, .int .i64 a.n, .int .i64 a.hi, .string a.t] 23 (0, 0)) := by
            refine hf2.obj (fun x => x) ?_
            repeat (first | with_reducible exact hba_1 | (with_reducible refine obj_alloc_at ?_; simp; done) | (with_reducible apply obj_put4; omega) | (with_reducible apply obj_put1; omega) | (with_reducible refine obj_setCell_other ?_ _ _ ?_; rotate_left; (dsimp only; omega)) | with_reducible refine obj_alloc ?_ _ | with_reducible refine obj_drew ?_ | exact hba_1)
          have hbb_2 : w2.heap[w.heap.size + 1]? = some (.cells #[.int .u8 b.k, .int .i64 b.n, .int .i64 b.hi, .string b.t] 23 (0, 0)) := by
            refine hf2.obj (fun x => x) ?_
            repeat (first | with_reducible exact hbb_1 | (with_reducible refine obj_alloc_at ?_; simp; done) | (with_reducible apply obj_put4; omega) | (with_reducible apply obj_put1; omega) | (with_reducible refine obj_setCell_other ?_ _ _ ?_; rotate_left; (dsimp only; omega)) | with_reducible refine obj_alloc ?_ _ | with_reducible refine obj_drew ?_ | exact hbb_1)
          have hbr_2 : w2.heap[w.heap.size + 2]? = some (.cells #[.int .u8 0, .int .i64 0, .int .i64 0, .string ⟨#[]⟩] 23 (0, 0)) := by
            refine hf2.obj (fun x => x) ?_
            repeat (first | with_reducible exact hbr_1 | (with_reducible refine obj_alloc_at ?_; simp; done) | (with_reducible apply obj_put4; omega) | (with_reducible apply obj_put1; omega) | (with_reducible refine obj_setCell_other ?_ _ _ ?_; rotate_left; (dsimp only; omega)) | with_reducible refine obj_alloc ?_ _ | with_reducible refine obj_drew ?_ | exact hbr_1)
          have hfw_2 : Fr noB w w2 := by
            refine Fr.transN ?_ hf2
            repeat (first | with_reducible exact hfw_1 | with_reducible refine Fr.alloc ?_ _ | (with_reducible refine Fr.setCell ?_ ?_ _; rotate_left; (intro h; dsimp only at h; omega)) | with_reducible refine Fr.drew ?_ | exact hfw_1)
          clear hba_1 hbb_1 hbr_1 la lb lr hl ca_0 ca_1 ca_2 ca_3 za cb_0 cb_1 cb_2 cb_3 zb cr_0 cr_1 cr_2 cr_3 zr hf2 hfw_1
          obtain ⟨ca_0, ca_1, ca_2, ca_3⟩ := v_cells (v := a) hba_2
          have za := frozen_of_obj hba_2
          obtain ⟨cb_0, cb_1, cb_2, cb_3⟩ := v_cells (v := b) hbb_2
          have zb := frozen_of_obj hbb_2
          obtain ⟨cr_0, cr_1, cr_2, cr_3⟩ := v_cells (v := zV) hbr_2
          dsimp only [zV] at cr_0 cr_1 cr_2 cr_3
          have zr := frozen_of_obj hbr_2
          go_wp2_with fail
          refine (HTb.out _).mono ?_
          rintro e w3 ⟨rfl, hf3⟩
          have la := obj_lt hba_2
          have lb := obj_lt hbb_2
          have lr := obj_lt hbr_2
          have hl := hfw_2.size
          have hba_3 : w3.heap[w.heap.size]? = some (.cells #[.int .u8 a.k, .int .i64 a.n, .int .i64 a.hi, .string a.t] 23 (0, 0)) := by
            refine hf3.obj (fun x => x) ?_
            repeat (first | with_reducible exact hba_2 | (with_reducible refine obj_alloc_at ?_; simp; done) | (with_reducible apply obj_put4; omega) | (with_reducible apply obj_put1; omega) | (with_reducible refine obj_setCell_other ?_ _ _ ?_; rotate_left; (dsimp only; omega)) | with_reducible refine obj_alloc ?_ _ | with_reducible refine obj_drew ?_ | exact hba_2)
          have hbb_3 : w3.heap[w.heap.size + 1]? = some (.cells #[.int .u8 b.k, .int .i64 b.n, .int .i64 b.hi, .string b.t] 23 (0, 0)) := by
            refine hf3.obj (fun x => x) ?_
            repeat (first | with_reducible exact hbb_2 | (with_reducible refine obj_alloc_at ?_; simp; done) | (with_reducible apply obj_put4; omega) | (with_reducible apply obj_put1; omega) | (with_reducible refine obj_setCell_other ?_ _ _ ?_; rotate_left; (dsimp only; omega)) | with_reducible refine obj_alloc ?_ _ | with_reducible refine obj_drew ?_ | exact hbb_2)
          have hbr_3 : w3.heap[w.heap.size + 2]? = some (.cells #[.int .u8 0, .int .i64 0, .int .i64 0, .string ⟨#[]⟩] 23 (0, 0)) := by
            refine hf3.obj (fun x => x) ?_
            repeat (first | with_reducible exact hbr_2 | (with_reducible refine obj_alloc_at ?_; simp; done) | (with_reducible apply obj_put4; omega) | (with_reducible apply obj_put1; omega) | (with_reducible refine obj_setCell_other ?_ _ _ ?_; rotate_left; (dsimp only; omega)) | with_reducible refine obj_alloc ?_ _ | with_reducible refine obj_drew ?_ | exact hbr_2)
          have hfw_3 : Fr noB w w3 := by
            refine Fr.transN ?_ hf3
            repeat (first | with_reducible exact hfw_2 | with_reducible refine Fr.alloc ?_ _ | (with_reducible refine Fr.setCell ?_ ?_ _; rotate_left; (intro h; dsimp only at h; omega)) | with_reducible refine Fr.drew ?_ | exact hfw_2)
          clear hba_2 hbb_2 hbr_2 la lb lr hl ca_0 ca_1 ca_2 ca_3 za cb_0 cb_1 cb_2 cb_3 zb cr_0 cr_1 cr_2 cr_3 zr hf3 hfw_2
          obtain ⟨ca_0, ca_1, ca_2, ca_3⟩ := v_cells (v := a) hba_3
          have za := frozen_of_obj hba_3
          obtain ⟨cb_0, cb_1, cb_2, cb_3⟩ := v_cells (v := b) hbb_3
          have zb := frozen_of_obj hbb_3
          obtain ⟨cr_0, cr_1, cr_2, cr_3⟩ := v_cells (v := zV) hbr_3
          dsimp only [zV] at cr_0 cr_1 cr_2 cr_3
          have zr := frozen_of_obj hbr_3
          go_wp2_with fail
          refine (HYa.out _).mono ?_
          rintro e w4 ⟨rfl, hf4⟩
          have la := obj_lt hba_3
          have lb := obj_lt hbb_3
          have lr := obj_lt hbr_3
          have hl := hfw_3.size
          have hba_4 : w4.heap[w.heap.size]? = some (.cells #[.int .u8 a.k, .int .i64 a.n, .int .i64 a.hi, .string a.t] 23 (0, 0)) := by
            refine hf4.obj (fun x => x) ?_
            repeat (first | with_reducible exact hba_3 | (with_reducible refine obj_alloc_at ?_; simp; done) | (with_reducible apply obj_put4; omega) | (with_reducible apply obj_put1; omega) | (with_reducible refine obj_setCell_other ?_ _ _ ?_; rotate_left; (dsimp only; omega)) | with_reducible refine obj_alloc ?_ _ | with_reducible refine obj_drew ?_ | exact hba_3)
          have hbb_4 : w4.heap[w.heap.size + 1]? = some (.cells #[.int .u8 b.k, .int .i64 b.n, .int .i64 b.hi, .string b.t] 23 (0, 0)) := by
            refine hf4.obj (fun x => x) ?_
            repeat (first | with_reducible exact hbb_3 | (with_reducible refine obj_alloc_at ?_; simp; done) | (with_reducible apply obj_put4; omega) | (with_reducible apply obj_put1; omega) | (with_reducible refine obj_setCell_other ?_ _ _ ?_; rotate_left; (dsimp only; omega)) | with_reducible refine obj_alloc ?_ _ | with_reducible refine obj_drew ?_ | exact hbb_3)
          have hbr_4 : w4.heap[w.heap.size + 2]? = some (.cells #[.int .u8 0, .int .i64 0, .int .i64 0, .string ⟨#[]⟩] 23 (0, 0)) := by
            refine hf4.obj (fun x => x) ?_
            repeat (first | with_reducible exact hbr_3 | (with_reducible refine obj_alloc_at ?_; simp; done) | (with_reducible apply obj_put4; omega) | (with_reducible apply obj_put1; omega) | (with_reducible refine obj_setCell_other ?_ _ _ ?_; rotate_left; (dsimp only; omega)) | with_reducible refine obj_alloc ?_ _ | with_reducible refine obj_drew ?_ | exact hbr_3)
          have hfw_4 : Fr noB w w4 := by
            refine Fr.transN ?_ hf4
            repeat (first | with_reducible exact hfw_3 | with_reducible refine Fr.alloc ?_ _ | (with_reducible refine Fr.setCell ?_ ?_ _; rotate_left; (intro h; dsimp only at h; omega)) | with_reducible refine Fr.drew ?_ | exact hfw_3)
          clear hba_3 hbb_3 hbr_3 la lb lr hl ca_0 ca_1 ca_2 ca_3 za cb_0 cb_1 cb_2 cb_3 zb cr_0 cr_1 cr_2 cr_3 zr hf4 hfw_3
          obtain ⟨ca_0, ca_1, ca_2, ca_3⟩ := v_cells (v := a) hba_4
          have za := frozen_of_obj hba_4
          obtain ⟨cb_0, cb_1, cb_2, cb_3⟩ := v_cells (v := b) hbb_4
          have zb := frozen_of_obj hbb_4
          obtain ⟨cr_0, cr_1, cr_2, cr_3⟩ := v_cells (v := zV) hbr_4
          dsimp only [zV] at cr_0 cr_1 cr_2 cr_3
          have zr := frozen_of_obj hbr_4
          go_wp2_with fail
          refine (HYb.out _).mono ?_
          rintro e w5 ⟨rfl, hf5⟩
          have la := obj_lt hba_4
          have lb := obj_lt hbb_4
          have lr := obj_lt hbr_4
          have hl := hfw_4.size
          have hba_5 : w5.heap[w.heap.size]? = some (.cells #[.int .u8 a.k, .int .i64 a.n, .int .i64 a.hi, .string a.t] 23 (0, 0)) := by
            refine hf5.obj (fun x => x) ?_
            repeat (first | with_reducible exact hba_4 | (with_reducible refine obj_alloc_at ?_; simp; done) | (with_reducible apply obj_put4; omega) | (with_reducible apply obj_put1; omega) | (with_reducible refine obj_setCell_other ?_ _ _ ?_; rotate_left; (dsimp only; omega)) | with_reducible refine obj_alloc ?_ _ | with_reducible refine obj_drew ?_ | exact hba_4)
          have hbb_5 : w5.heap[w.heap.size + 1]? = some (.cells #[.int .u8 b.k, .int .i64 b.n, .int .i64 b.hi, .string b.t] 23 (0, 0)) := by
            refine hf5.obj (fun x => x) ?_
            repeat (first | with_reducible exact hbb_4 | (with_reducible refine obj_alloc_at ?_; simp; done) | (with_reducible apply obj_put4; omega) | (with_reducible apply obj_put1; omega) | (with_reducible refine obj_setCell_other ?_ _ _ ?_; rotate_left; (dsimp only; omega)) | with_reducible refine obj_alloc ?_ _ | with_reducible refine obj_drew ?_ | exact hbb_4)
          have hbr_5 : w5.heap[w.heap.size + 2]? = some (.cells #[.int .u8 0, .int .i64 0, .int .i64 0, .string ⟨#[]⟩] 23 (0, 0)) := by
            refine hf5.obj (fun x => x) ?_
            repeat (first | with_reducible exact hbr_4 | (with_reducible refine obj_alloc_at ?_; simp; done) | (with_reducible apply obj_put4; omega) | (with_reducible apply obj_put1; omega) | (with_reducible refine obj_setCell_other ?_ _ _ ?_; rotate_left; (dsimp only; omega)) | with_reducible refine obj_alloc ?_ _ | with_reducible refine obj_drew ?_ | exact hbr_4)
          have hfw_5 : Fr noB w w5 := by
            refine Fr.transN ?_ hf5
            repeat (first | with_reducible exact hfw_4 | with_reducible refine Fr.alloc ?_ _ | (with_reducible refine Fr.setCell ?_ ?_ _; rotate_left; (intro h; dsimp only at h; omega)) | with_reducible refine Fr.drew ?_ | exact hfw_4)
          clear hba_4 hbb_4 hbr_4 la lb lr hl ca_0 ca_1 ca_2 ca_3 za cb_0 cb_1 cb_2 cb_3 zb cr_0 cr_1 cr_2 cr_3 zr hf5 hfw_4
          obtain ⟨ca_0, ca_1, ca_2, ca_3⟩ := v_cells (v := a) hba_5
          have za := frozen_of_obj hba_5
          obtain ⟨cb_0, cb_1, cb_2, cb_3⟩ := v_cells (v := b) hbb_5
          have zb := frozen_of_obj hbb_5
          obtain ⟨cr_0, cr_1, cr_2, cr_3⟩ := v_cells (v := zV) hbr_5
          dsimp only [zV] at cr_0 cr_1 cr_2 cr_3
          have zr := frozen_of_obj hbr_5
          go_wp2_with fail
          refine (HO1.out _).mono ?_
          rintro e w6 ⟨rfl, hf6⟩
          have la := obj_lt hba_5
          have lb := obj_lt hbb_5
          have lr := obj_lt hbr_5
          have hl := hfw_5.size
          have hba_6 : w6.heap[w.heap.size]? = some (.cells #[.int .u8 a.k, .int .i64 a.n, .int .i64 a.hi, .string a.t] 23 (0, 0)) := by
            refine hf6.obj (fun x => x) ?_
            repeat (first | with_reducible exact hba_5 | (with_reducible refine obj_alloc_at ?_; simp; done) | (with_reducible apply obj_put4; omega) | (with_reducible apply obj_put1; omega) | (with_reducible refine obj_setCell_other ?_ _ _ ?_; rotate_left; (dsimp only; omega)) | with_reducible refine obj_alloc ?_ _ | with_reducible refine obj_drew ?_ | exact hba_5)
          have hbb_6 : w6.heap[w.heap.size + 1]? = some (.cells #[.int .u8 b.k, .int .i64 b.n, .int .i64 b.hi, .string b.t] 23 (0, 0)) := by
            refine hf6.obj (fun x => x) ?_
            repeat (first | with_reducible exact hbb_5 | (with_reducible refine obj_alloc_at ?_; simp; done) | (with_reducible apply obj_put4; omega) | (with_reducible apply obj_put1; omega) | (with_reducible refine obj_setCell_other ?_ _ _ ?_; rotate_left; (dsimp only; omega)) | with_reducible refine obj_alloc ?_ _ | with_reducible refine obj_drew ?_ | exact hbb_5)
          have hbr_6 : w6.heap[w.heap.size + 2]? = some (.cells #[.int .u8 0, .int .i64 0, .int .i64 0, .string ⟨#[]⟩] 23 (0, 0)) := by
            refine hf6.obj (fun x => x) ?_
            repeat (first | with_reducible exact hbr_5 | (with_reducible refine obj_alloc_at ?_; simp; done) | (with_reducible apply obj_put4; omega) | (with_reducible apply obj_put1; omega) | (with_reducible refine obj_setCell_other ?_ _ _ ?_; rotate_left; (dsimp only; omega)) | with_reducible refine obj_alloc ?_ _ | with_reducible refine obj_drew ?_ | exact hbr_5)
          have hfw_6 : Fr noB w w6 := by
            refine Fr.transN ?_ hf6
            repeat (first | with_reducible exact hfw_5 | with_reducible refine Fr.alloc ?_ _ | (with_reducible refine Fr.setCell ?_ ?_ _; rotate_left; (intro h; dsimp only at h; omega)) | with_reducible refine Fr.drew ?_ | exact hfw_5)
          clear hba_5 hbb_5 hbr_5 la lb lr hl ca_0 ca_1 ca_2 ca_3 za cb_0 cb_1 cb_2 cb_3 zb cr_0 cr_1 cr_2 cr_3 zr hf6 hfw_5
          obtain ⟨ca_0, ca_1, ca_2, ca_3⟩ := v_cells (v := a) hba_6
          have za := frozen_of_obj hba_6
          obtain ⟨cb_0, cb_1, cb_2, cb_3⟩ := v_cells (v := b) hbb_6
          have zb := frozen_of_obj hbb_6
          obtain ⟨cr_0, cr_1, cr_2, cr_3⟩ := v_cells (v := zV) hbr_6
          dsimp only [zV] at cr_0 cr_1 cr_2 cr_3
          have zr := frozen_of_obj hbr_6
          go_wp2_with fail
          have la := obj_lt hba_6
          have lb := obj_lt hbb_6
          have lr := obj_lt hbr_6
          have hl := hfw_6.size
          refine bodyPost_ret (ret_val2 rfl _ _ (w.heap.size + 2) yesV _ rfl rfl ?_) rfl ⟨?_, ?_⟩
          · show _ = some (Obj.cells #[.int .u8 2, .int .i64 1, .int .i64 0, .string ⟨#[]⟩] 23 (0, 0))
            repeat (first | with_reducible exact hbr_6 | (with_reducible refine obj_alloc_at ?_; simp; done) | (with_reducible apply obj_put4; omega) | (with_reducible apply obj_put1; omega) | (with_reducible refine obj_setCell_other ?_ _ _ ?_; rotate_left; (dsimp only; omega)) | with_reducible refine obj_alloc ?_ _ | with_reducible refine obj_drew ?_ | exact hbr_6)
          · rw [HR.out] <;> rfl
          · skip
            repeat (first | with_reducible exact hfw_6 | with_reducible refine Fr.alloc ?_ _ | (with_reducible refine Fr.setCell ?_ ?_ _; rotate_left; (intro h; dsimp only at h; omega)) | with_reducible refine Fr.drew ?_ | exact hfw_6)
        · rw [yb] at HYb
          have HR := Lib.hid (show joinV a b true = (ofV false, 0) by simp [joinV, h1, h2, isB, nullB, a2, a0, ya, b2, b0, yb])
          clear h1 h2 ya yb
          go_wp2_with fail
          refine (HTa.out _).mono ?_
          rintro e w2 ⟨rfl, hf2⟩
          have la := obj_lt hba_1
          have lb := obj_lt hbb_1
          have lr := obj_lt hbr_1
          have hl := hfw_1.size
          have hba_2 : w2.heap[w.heap.size]? = some (.cells #[.int .u8 a.k, .int .i64 a.n, .int .i64 a.hi, .string a.t] 23 (0, 0)) := by
            refine hf2.obj (fun x => x) ?_
            repeat (first | with_reducible exact hba_1 | (with_reducible refine obj_alloc_at ?_; simp; done) | (with_reducible apply obj_put4; omega) | (with_reducible apply obj_put1; omega) | (with_reducible refine obj_setCell_other ?_ _ _ ?_; rotate_left; (dsimp only; omega)) | with_reducible refine obj_alloc ?_ _ | with_reducible refine obj_drew ?_ | exact hba_1)
          have hbb_2 : w2.heap[w.heap.size + 1]? = some (.cells #[.int .u8 b.k, .int .i64 b.n, .int .i64 b.hi, .string b.t] 23 (0, 0)) := by
            refine hf2.obj (fun x => x) ?_
            repeat (first | with_reducible exact hbb_1 | (with_reducible refine obj_alloc_at ?_; simp; done) | (with_reducible apply obj_put4; omega) | (with_reducible apply obj_put1; omega) | (with_reducible refine obj_setCell_other ?_ _ _ ?_; rotate_left; (dsimp only; omega)) | with_reducible refine obj_alloc ?_ _ | with_reducible refine obj_drew ?_ | exact hbb_1)
          have hbr_2 : w2.heap[w.heap.size + 2]? = some (.cells #[.int .u8 0, .int .i64 0, .int .i64 0, .string ⟨#[]⟩] 23 (0, 0)) := by
            refine hf2.obj (fun x => x) ?_
            repeat (first | with_reducible exact hbr_1 | (with_reducible refine obj_alloc_at ?_; simp; done) | (with_reducible apply obj_put4; omega) | (with_reducible apply obj_put1; omega) | (with_reducible refine obj_setCell_other ?_ _ _ ?_; rotate_left; (dsimp only; omega)) | with_reducible refine obj_alloc ?_ _ | with_reducible refine obj_drew ?_ | exact hbr_1)
          have hfw_2 : Fr noB w w2 := by
            refine Fr.transN ?_ hf2
            repeat (first | with_reducible exact hfw_1 | with_reducible refine Fr.alloc ?_ _ | (with_reducible refine Fr.setCell ?_ ?_ _; rotate_left; (intro h; dsimp only at h; omega)) | with_reducible refine Fr.drew ?_ | exact hfw_1)
          clear hba_1 hbb_1 hbr_1 la lb lr hl ca_0 ca_1 ca_2 ca_3 za cb_0 cb_1 cb_2 cb_3 zb cr_0 cr_1 cr_2 cr_3 zr hf2 hfw_1
          obtain ⟨ca_0, ca_1, ca_2, ca_3⟩ := v_cells (v := a) hba_2
          have za := frozen_of_obj hba_2
          obtain ⟨cb_0, cb_1, cb_2, cb_3⟩ := v_cells (v := b) hbb_2
          have zb := frozen_of_obj hbb_2
          obtain ⟨cr_0, cr_1, cr_2, cr_3⟩ := v_cells (v := zV) hbr_2
          dsimp only [zV] at cr_0 cr_1 cr_2 cr_3
          have zr := frozen_of_obj hbr_2
          go_wp2_with fail
          refine (HTb.out _).mono ?_
          rintro e w3 ⟨rfl, hf3⟩
          have la := obj_lt hba_2
          have lb := obj_lt hbb_2
          have lr := obj_lt hbr_2
          have hl := hfw_2.size
          have hba_3 : w3.heap[w.heap.size]? = some (.cells #[.int .u8 a.k, .int .i64 a.n, .int .i64 a.hi, .string a.t] 23 (0, 0)) := by
            refine hf3.obj (fun x => x) ?_
            repeat (first | with_reducible exact hba_2 | (with_reducible refine obj_alloc_at ?_; simp; done) | (with_reducible apply obj_put4; omega) | (with_reducible apply obj_put1; omega) | (with_reducible refine obj_setCell_other ?_ _ _ ?_; rotate_left; (dsimp only; omega)) | with_reducible refine obj_alloc ?_ _ | with_reducible refine obj_drew ?_ | exact hba_2)
          have hbb_3 : w3.heap[w.heap.size + 1]? = some (.cells #[.int .u8 b.k, .int .i64 b.n, .int .i64 b.hi, .string b.t] 23 (0, 0)) := by
            refine hf3.obj (fun x => x) ?_
            repeat (first | with_reducible exact hbb_2 | (with_reducible refine obj_alloc_at ?_; simp; done) | (with_reducible apply obj_put4; omega) | (with_reducible apply obj_put1; omega) | (with_reducible refine obj_setCell_other ?_ _ _ ?_; rotate_left; (dsimp only; omega)) | with_reducible refine obj_alloc ?_ _ | with_reducible refine obj_drew ?_ | exact hbb_2)
          have hbr_3 : w3.heap[w.heap.size + 2]? = some (.cells #[.int .u8 0, .int .i64 0, .int .i64 0, .string ⟨#[]⟩] 23 (0, 0)) := by
            refine hf3.obj (fun x => x) ?_
            repeat (first | with_reducible exact hbr_2 | (with_reducible refine obj_alloc_at ?_; simp; done) | (with_reducible apply obj_put4; omega) | (with_reducible apply obj_put1; omega) | (with_reducible refine obj_setCell_other ?_ _ _ ?_; rotate_left; (dsimp only; omega)) | with_reducible refine obj_alloc ?_ _ | with_reducible refine obj_drew ?_ | exact hbr_2)
          have hfw_3 : Fr noB w w3 := by
            refine Fr.transN ?_ hf3
            repeat (first | with_reducible exact hfw_2 | with_reducible refine Fr.alloc ?_ _ | (with_reducible refine Fr.setCell ?_ ?_ _; rotate_left; (intro h; dsimp only at h; omega)) | with_reducible refine Fr.drew ?_ | exact hfw_2)
          clear hba_2 hbb_2 hbr_2 la lb lr hl ca_0 ca_1 ca_2 ca_3 za cb_0 cb_1 cb_2 cb_3 zb cr_0 cr_1 cr_2 cr_3 zr hf3 hfw_2
          obtain ⟨ca_0, ca_1, ca_2, ca_3⟩ := v_cells (v := a) hba_3
          have za := frozen_of_obj hba_3
          obtain ⟨cb_0, cb_1, cb_2, cb_3⟩ := v_cells (v := b) hbb_3
          have zb := frozen_of_obj hbb_3
          obtain ⟨cr_0, cr_1, cr_2, cr_3⟩ := v_cells (v := zV) hbr_3
          dsimp only [zV] at cr_0 cr_1 cr_2 cr_3
          have zr := frozen_of_obj hbr_3
          go_wp2_with fail
          refine (HYa.out _).mono ?_
          rintro e w4 ⟨rfl, hf4⟩
          have la := obj_lt hba_3
          have lb := obj_lt hbb_3
          have lr := obj_lt hbr_3
          have hl := hfw_3.size
          have hba_4 : w4.heap[w.heap.size]? = some (.cells #[.int .u8 a.k, .int .i64 a.n, .int .i64 a.hi, .string a.t] 23 (0, 0)) := by
            refine hf4.obj (fun x => x) ?_
            repeat (first | with_reducible exact hba_3 | (with_reducible refine obj_alloc_at ?_; simp; done) | (with_reducible apply obj_put4; omega) | (with_reducible apply obj_put1; omega) | (with_reducible refine obj_setCell_other ?_ _ _ ?_; rotate_left; (dsimp only; omega)) | with_reducible refine obj_alloc ?_ _ | with_reducible refine obj_drew ?_ | exact hba_3)
          have hbb_4 : w4.heap[w.heap.size + 1]? = some (.cells #[.int .u8 b.k, .int .i64 b.n, .int .i64 b.hi, .string b.t] 23 (0, 0)) := by
            refine hf4.obj (fun x => x) ?_
            repeat (first | with_reducible exact hbb_3 | (with_reducible refine obj_alloc_at ?_; simp; done) | (with_reducible apply obj_put4; omega) | (with_reducible apply obj_put1; omega) | (with_reducible refine obj_setCell_other ?_ _ _ ?_; rotate_left; (dsimp only; omega)) | with_reducible refine obj_alloc ?_ _ | with_reducible refine obj_drew ?_ | exact hbb_3)
          have hbr_4 : w4.heap[w.heap.size + 2]? = some (.cells #[.int .u8 0, .int .i64 0, .int .i64 0, .string ⟨#[]⟩] 23 (0, 0)) := by
            refine hf4.obj (fun x => x) ?_
            repeat (first | with_reducible exact hbr_3 | (with_reducible refine obj_alloc_at ?_; simp; done) | (with_reducible apply obj_put4; omega) | (with_reducible apply obj_put1; omega) | (with_reducible refine obj_setCell_other ?_ _ _ ?_; rotate_left; (dsimp only; omega)) | with_reducible refine obj_alloc ?_ _ | with_reducible refine obj_drew ?_ | exact hbr_3)
          have hfw_4 : Fr noB w w4 := by
            refine Fr.transN ?_ hf4
            repeat (first | with_reducible exact hfw_3 | with_reducible refine Fr.alloc ?_ _ | (with_reducible refine Fr.setCell ?_ ?_ _; rotate_left; (intro h; dsimp only at h; omega)) | with_reducible refine Fr.drew ?_ | exact hfw_3)
          clear hba_3 hbb_3 hbr_3 la lb lr hl ca_0 ca_1 ca_2 ca_3 za cb_0 cb_1 cb_2 cb_3 zb cr_0 cr_1 cr_2 cr_3 zr hf4 hfw_3
          obtain ⟨ca_0, ca_1, ca_2, ca_3⟩ := v_cells (v := a) hba_4
          have za := frozen_of_obj hba_4
          obtain ⟨cb_0, cb_1, cb_2, cb_3⟩ := v_cells (v := b) hbb_4
          have zb := frozen_of_obj hbb_4
          obtain ⟨cr_0, cr_1, cr_2, cr_3⟩ := v_cells (v := zV) hbr_4
          dsimp only [zV] at cr_0 cr_1 cr_2 cr_3
          have zr := frozen_of_obj hbr_4
          go_wp2_with fail
          refine (HYb.out _).mono ?_
          rintro e w5 ⟨rfl, hf5⟩
          have la := obj_lt hba_4
          have lb := obj_lt hbb_4
          have lr := obj_lt hbr_4
          have hl := hfw_4.size
          have hba_5 : w5.heap[w.heap.size]? = some (.cells #[.int .u8 a.k, .int .i64 a.n, .int .i64 a.hi, .string a.t] 23 (0, 0)) := by
            refine hf5.obj (fun x => x) ?_
            repeat (first | with_reducible exact hba_4 | (with_reducible refine obj_alloc_at ?_; simp; done) | (with_reducible apply obj_put4; omega) | (with_reducible apply obj_put1; omega) | (with_reducible refine obj_setCell_other ?_ _ _ ?_; rotate_left; (dsimp only; omega)) | with_reducible refine obj_alloc ?_ _ | with_reducible refine obj_drew ?_ | exact hba_4)
          have hbb_5 : w5.heap[w.heap.size + 1]? = some (.cells #[.int .u8 b.k, .int .i64 b.n, .int .i64 b.hi, .string b.t] 23 (0, 0)) := by
            refine hf5.obj (fun x => x) ?_
            repeat (first | with_reducible exact hbb_4 | (with_reducible refine obj_alloc_at ?_; simp; done) | (with_reducible apply obj_put4; omega) | (with_reducible apply obj_put1; omega) | (with_reducible refine obj_setCell_other ?_ _ _ ?_; rotate_left; (dsimp only; omega)) | with_reducible refine obj_alloc ?_ _ | with_reducible refine obj_drew ?_ | exact hbb_4)
          have hbr_5 : w5.heap[w.heap.size + 2]? = some (.cells #[.int .u8 0, .int .i64 0, .int .i64 0, .string ⟨#[]⟩] 23 (0, 0)) := by
            refine hf5.obj (fun x => x) ?_
            repeat (first | with_reducible exact hbr_4 | (with_reducible refine obj_alloc_at ?_; simp; done) | (with_reducible apply obj_put4; omega) | (with_reducible apply obj_put1; omega) | (with_reducible refine obj_setCell_other ?_ _ _ ?_; rotate_left; (dsimp only; omega)) | with_reducible refine obj_alloc ?_ _ | with_reducible refine obj_drew ?_ | exact hbr_4)
          have hfw_5 : Fr noB w w5 := by
            refine Fr.transN ?_ hf5
            repeat (first | with_reducible exact hfw_4 | with_reducible refine Fr.alloc ?_ _ | (with_reducible refine Fr.setCell ?_ ?_ _; rotate_left; (intro h; dsimp only at h; omega)) | with_reducible refine Fr.drew ?_ | exact hfw_4)
          clear hba_4 hbb_4 hbr_4 la lb lr hl ca_0 ca_1 ca_2 ca_3 za cb_0 cb_1 cb_2 cb_3 zb cr_0 cr_1 cr_2 cr_3 zr hf5 hfw_4
          obtain ⟨ca_0, ca_1, ca_2, ca_3⟩ := v_cells (v := a) hba_5
          have za := frozen_of_obj hba_5
          obtain ⟨cb_0, cb_1, cb_2, cb_3⟩ := v_cells (v := b) hbb_5
          have zb := frozen_of_obj hbb_5
          obtain ⟨cr_0, cr_1, cr_2, cr_3⟩ := v_cells (v := zV) hbr_5
          dsimp only [zV] at cr_0 cr_1 cr_2 cr_3
          have zr := frozen_of_obj hbr_5
          go_wp2_with fail
          refine (HO0.out _).mono ?_
          rintro e w6 ⟨rfl, hf6⟩
          have la := obj_lt hba_5
          have lb := obj_lt hbb_5
          have lr := obj_lt hbr_5
          have hl := hfw_5.size
          have hba_6 : w6.heap[w.heap.size]? = some (.cells #[.int .u8 a.k, .int .i64 a.n, .int .i64 a.hi, .string a.t] 23 (0, 0)) := by
            refine hf6.obj (fun x => x) ?_
            repeat (first | with_reducible exact hba_5 | (with_reducible refine obj_alloc_at ?_; simp; done) | (with_reducible apply obj_put4; omega) | (with_reducible apply obj_put1; omega) | (with_reducible refine obj_setCell_other ?_ _ _ ?_; rotate_left; (dsimp only; omega)) | with_reducible refine obj_alloc ?_ _ | with_reducible refine obj_drew ?_ | exact hba_5)
          have hbb_6 : w6.heap[w.heap.size + 1]? = some (.cells #[.int .u8 b.k, .int .i64 b.n, .int .i64 b.hi, .string b.t] 23 (0, 0)) := by
            refine hf6.obj (fun x => x) ?_
            repeat (first | with_reducible exact hbb_5 | (with_reducible refine obj_alloc_at ?_; simp; done) | (with_reducible apply obj_put4; omega) | (with_reducible apply obj_put1; omega) | (with_reducible refine obj_setCell_other ?_ _ _ ?_; rotate_left; (dsimp only; omega)) | with_reducible refine obj_alloc ?_ _ | with_reducible refine obj_drew ?_ | exact hbb_5)
          have hbr_6 : w6.heap[w.heap.size + 2]? = some (.cells #[.int .u8 0, .int .i64 0, .int .i64 0, .string ⟨#[]⟩] 23 (0, 0)) := by
            refine hf6.obj (fun x => x) ?_
            repeat (first | with_reducible exact hbr_5 | (with_reducible refine obj_alloc_at ?_; simp; done) | (with_reducible apply obj_put4; omega) | (with_reducible apply obj_put1; omega) | (with_reducible refine obj_setCell_other ?_ _ _ ?_; rotate_left; (dsimp only; omega)) | with_reducible refine obj_alloc ?_ _ | with_reducible refine obj_drew ?_ | exact hbr_5)
          have hfw_6 : Fr noB w w6 := by
            refine Fr.transN ?_ hf6
            repeat (first | with_reducible exact hfw_5 | with_reducible refine Fr.alloc ?_ _ | (with_reducible refine Fr.setCell ?_ ?_ _; rotate_left; (intro h; dsimp only at h; omega)) | with_reducible refine Fr.drew ?_ | exact hfw_5)
          clear hba_5 hbb_5 hbr_5 la lb lr hl ca_0 ca_1 ca_2 ca_3 za cb_0 cb_1 cb_2 cb_3 zb cr_0 cr_1 cr_2 cr_3 zr hf6 hfw_5
          obtain ⟨ca_0, ca_1, ca_2, ca_3⟩ := v_cells (v := a) hba_6
          have za := frozen_of_obj hba_6
          obtain ⟨cb_0, cb_1, cb_2, cb_3⟩ := v_cells (v := b) hbb_6
          have zb := frozen_of_obj hbb_6
          obtain ⟨cr_0, cr_1, cr_2, cr_3⟩ := v_cells (v := zV) hbr_6
          dsimp only [zV] at cr_0 cr_1 cr_2 cr_3
          have zr := frozen_of_obj hbr_6
          go_wp2_with fail
          have la := obj_lt hba_6
          have lb := obj_lt hbb_6
          have lr := obj_lt hbr_6
          have hl := hfw_6.size
          refine bodyPost_ret (ret_val2 rfl _ _ (w.heap.size + 2) noV _ rfl rfl ?_) rfl ⟨?_, ?_⟩
          · show _ = some (Obj.cells #[.int .u8 2, .int .i64 0, .int .i64 0, .string ⟨#[]⟩] 23 (0, 0))
            repeat (first | with_reducible exact hbr_6 | (with_reducible refine obj_alloc_at ?_; simp; done) | (with_reducible apply obj_put4; omega) | (with_reducible apply obj_put1; omega) | (with_reducible refine obj_setCell_other ?_ _ _ ?_; rotate_left; (dsimp only; omega)) | with_reducible refine obj_alloc ?_ _ | with_reducible refine obj_drew ?_ | exact hbr_6)
          · rw [HR.out] <;> rfl
          · skip
            repeat (first | with_reducible exact hfw_6 | with_reducible refine Fr.alloc ?_ _ | (with_reducible refine Fr.setCell ?_ ?_ _; rotate_left; (intro h; dsimp only at h; omega)) | with_reducible refine Fr.drew ?_ | exact hfw_6)
        · rw [yb] at HYb
          have HR := Lib.hid (show joinV a b true = (zV, 0) by simp [joinV, h1, h2, isB, nullB, a2, a0, ya, b2, b0, yb])
          clear h1 h2 ya yb
          go_wp2_with fail
          refine (HTa.out _).mono ?_
          rintro e w2 ⟨rfl, hf2⟩
          have la := obj_lt hba_1
          have lb := obj_lt hbb_1
          have lr := obj_lt hbr_1
          have hl := hfw_1.size
          have hba_2 : w2.heap[w.heap.size]? = some (.cells #[.int .u8 a.k, .int .i64 a.n, .int .i64 a.hi, .string a.t] 23 (0, 0)) := by
            refine hf2.obj (fun x => x) ?_
            repeat (first | with_reducible exact hba_1 | (with_reducible refine obj_alloc_at ?_; simp; done) | (with_reducible apply obj_put4; omega) | (with_reducible apply obj_put1; omega) | (with_reducible refine obj_setCell_other ?_ _ _ ?_; rotate_left; (dsimp only; omega)) | with_reducible refine obj_alloc ?_ _ | with_reducible refine obj_drew ?_ | exact hba_1)
          have hbb_2 : w2.heap[w.heap.size + 1]? = some (.cells #[.int .u8 b.k, .int .i64 b.n, .int .i64 b.hi, .string b.t] 23 (0, 0)) := by
            refine hf2.obj (fun x => x) ?_
            repeat (first | with_reducible exact hbb_1 | (with_reducible refine obj_alloc_at ?_; simp; done) | (with_reducible apply obj_put4; omega) | (with_reducible apply obj_put1; omega) | (with_reducible refine obj_setCell_other ?_ _ _ ?_; rotate_left; (dsimp only; omega)) | with_reducible refine obj_alloc ?_ _ | with_reducible refine obj_drew ?_ | exact hbb_1)
          have hbr_2 : w2.heap[w.heap.size + 2]? = some (.cells #[.int .u8 0, .int .i64 0, .int .i64 0, .string ⟨#[]⟩] 23 (0, 0)) := by
            refine hf2.obj (fun x => x) ?_
            repeat (first | with_reducible exact hbr_1 | (with_reducible refine obj_alloc_at ?_; simp; done) | (with_reducible apply obj_put4; omega) | (with_reducible apply obj_put1; omega) | (with_reducible refine obj_setCell_other ?_ _ _ ?_; rotate_left; (dsimp only; omega)) | with_reducible refine obj_alloc ?_ _ | with_reducible refine obj_drew ?_ | exact hbr_1)
          have hfw_2 : Fr noB w w2 := by
            refine Fr.transN ?_ hf2
            repeat (first | with_reducible exact hfw_1 | with_reducible refine Fr.alloc ?_ _ | (with_reducible refine Fr.setCell ?_ ?_ _; rotate_left; (intro h; dsimp only at h; omega)) | with_reducible refine Fr.drew ?_ | exact hfw_1)
          clear hba_1 hbb_1 hbr_1 la lb lr hl ca_0 ca_1 ca_2 ca_3 za cb_0 cb_1 cb_2 cb_3 zb cr_0 cr_1 cr_2 cr_3 zr hf2 hfw_1
          obtain ⟨ca_0, ca_1, ca_2, ca_3⟩ := v_cells (v := a) hba_2
          have za := frozen_of_obj hba_2
          obtain ⟨cb_0, cb_1, cb_2, cb_3⟩ := v_cells (v := b) hbb_2
          have zb := frozen_of_obj hbb_2
          obtain ⟨cr_0, cr_1, cr_2, cr_3⟩ := v_cells (v := zV) hbr_2
          dsimp only [zV] at cr_0 cr_1 cr_2 cr_3
          have zr := frozen_of_obj hbr_2
          go_wp2_with fail
          refine (HTb.out _).mono ?_
          rintro e w3 ⟨rfl, hf3⟩
          have la := obj_lt hba_2
          have lb := obj_lt hbb_2
          have lr := obj_lt hbr_2
          have hl := hfw_2.size
          have hba_3 : w3.heap[w.heap.size]? = some (.cells #[.int .u8 a.k, .int .i64 a.n, .int .i64 a.hi, .string a.t] 23 (0, 0)) := by
            refine hf3.obj (fun x => x) ?_
            repeat (first | with_reducible exact hba_2 | (with_reducible refine obj_alloc_at ?_; simp; done) | (with_reducible apply obj_put4; omega) | (with_reducible apply obj_put1; omega) | (with_reducible refine obj_setCell_other ?_ _ _ ?_; rotate_left; (dsimp only; omega)) | with_reducible refine obj_alloc ?_ _ | with_reducible refine obj_drew ?_ | exact hba_2)
          have hbb_3 : w3.heap[w.heap.size + 1]? = some (.cells #[.int .u8 b.k, .int .i64 b.n, .int .i64 b.hi, .string b.t] 23 (0, 0)) := by
            refine hf3.obj (fun x => x) ?_
            repeat (first | with_reducible exact hbb_2 | (with_reducible refine obj_alloc_at ?_; simp; done) | (with_reducible apply obj_put4; omega) | (with_reducible apply obj_put1; omega) | (with_reducible refine obj_setCell_other ?_ _ _ ?_; rotate_left; (dsimp only; omega)) | with_reducible refine obj_alloc ?_ _ | with_reducible refine obj_drew ?_ | exact hbb_2)
          have hbr_3 : w3.heap[w.heap.size + 2]? = some (.cells #[.int .u8 0, .int .i64 0, .int .i64 0, .string ⟨#[]⟩] 23 (0, 0)) := by
            refine hf3.obj (fun x => x) ?_
            repeat (first | with_reducible exact hbr_2 | (with_reducible refine obj_alloc_at ?_; simp; done) | (with_reducible apply obj_put4; omega) | (with_reducible apply obj_put1; omega) | (with_reducible refine obj_setCell_other ?_ _ _ ?_; rotate_left; (dsimp only; omega)) | with_reducible refine obj_alloc ?_ _ | with_reducible refine obj_drew ?_ | exact hbr_2)
          have hfw_3 : Fr noB w w3 := by
            refine Fr.transN ?_ hf3
            repeat (first | with_reducible exact hfw_2 | with_reducible refine Fr.alloc ?_ _ | (with_reducible refine Fr.setCell ?_ ?_ _; rotate_left; (intro h; dsimp only at h; omega)) | with_reducible refine Fr.drew ?_ | exact hfw_2)
          clear hba_2 hbb_2 hbr_2 la lb lr hl ca_0 ca_1 ca_2 ca_3 za cb_0 cb_1 cb_2 cb_3 zb cr_0 cr_1 cr_2 cr_3 zr hf3 hfw_2
          obtain ⟨ca_0, ca_1, ca_2, ca_3⟩ := v_cells (v := a) hba_3
          have za := frozen_of_obj hba_3
          obtain ⟨cb_0, cb_1, cb_2, cb_3⟩ := v_cells (v := b) hbb_3
          have zb := frozen_of_obj hbb_3
          obtain ⟨cr_0, cr_1, cr_2, cr_3⟩ := v_cells (v := zV) hbr_3
          dsimp only [zV] at cr_0 cr_1 cr_2 cr_3
          have zr := frozen_of_obj hbr_3
          go_wp2_with fail
          refine (HYa.out _).mono ?_
          rintro e w4 ⟨rfl, hf4⟩
          have la := obj_lt hba_3
          have lb := obj_lt hbb_3
          have lr := obj_lt hbr_3
          have hl := hfw_3.size
          have hba_4 : w4.heap[w.heap.size]? = some (.cells #[.int .u8 a.k, .int .i64 a.n, .int .i64 a.hi, .string a.t] 23 (0, 0)) := by
            refine hf4.obj (fun x => x) ?_
            repeat (first | with_reducible exact hba_3 | (with_reducible refine obj_alloc_at ?_; simp; done) | (with_reducible apply obj_put4; omega) | (with_reducible apply obj_put1; omega) | (with_reducible refine obj_setCell_other ?_ _ _ ?_; rotate_left; (dsimp only; omega)) | with_reducible refine obj_alloc ?_ _ | with_reducible refine obj_drew ?_ | exact hba_3)
          have hbb_4 : w4.heap[w.heap.size + 1]? = some (.cells #[.int .u8 b.k, .int .i64 b.n, .int .i64 b.hi, .string b.t] 23 (0, 0)) := by
            refine hf4.obj (fun x => x) ?_
            repeat (first | with_reducible exact hbb_3 | (with_reducible refine obj_alloc_at ?_; simp; done) | (with_reducible apply obj_put4; omega) | (with_reducible apply obj_put1; omega) | (with_reducible refine obj_setCell_other ?_ _ _ ?_; rotate_left; (dsimp only; omega)) | with_reducible refine obj_alloc ?_ _ | with_reducible refine obj_drew ?_ | exact hbb_3)
          have hbr_4 : w4.heap[w.heap.size + 2]? = some (.cells #[.int .u8 0, .int .i64 0, .int .i64 0, .string ⟨#[]⟩] 23 (0, 0)) := by
            refine hf4.obj (fun x => x) ?_
            repeat (first | with_reducible exact hbr_3 | (with_reducible refine obj_alloc_at ?_; simp; done) | (with_reducible apply obj_put4; omega) | (with_reducible apply obj_put1; omega) | (with_reducible refine obj_setCell_other ?_ _ _ ?_; rotate_left; (dsimp only; omega)) | with_reducible refine obj_alloc ?_ _ | with_reducible refine obj_drew ?_ | exact hbr_3)
          have hfw_4 : Fr noB w w4 := by
            refine Fr.transN ?_ hf4
            repeat (first | with_reducible exact hfw_3 | with_reducible refine Fr.alloc ?_ _ | (with_reducible refine Fr.setCell ?_ ?_ _; rotate_left; (intro h; dsimp only at h; omega)) | with_reducible refine Fr.drew ?_ | exact hfw_3)
          clear hba_3 hbb_3 hbr_3 la lb lr hl ca_0 ca_1 ca_2 ca_3 za cb_0 cb_1 cb_2 cb_3 zb cr_0 cr_1 cr_2 cr_3 zr hf4 hfw_3
          obtain ⟨ca_0, ca_1, ca_2, ca_3⟩ := v_cells (v := a) hba_4
          have za := frozen_of_obj hba_4
          obtain ⟨cb_0, cb_1, cb_2, cb_3⟩ := v_cells (v := b) hbb_4
          have zb := frozen_of_obj hbb_4
          obtain ⟨cr_0, cr_1, cr_2, cr_3⟩ := v_cells (v := zV) hbr_4
          dsimp only [zV] at cr_0 cr_1 cr_2 cr_3
          have zr := frozen_of_obj hbr_4
          go_wp2_with fail
          refine (HYb.out _).mono ?_
          rintro e w5 ⟨rfl, hf5⟩
          have la := obj_lt hba_4
          have lb := obj_lt hbb_4
          have lr := obj_lt hbr_4
          have hl := hfw_4.size
          have hba_5 : w5.heap[w.heap.size]? = some (.cells #[.int .u8 a.k, .int .i64 a.n, .int .i64 a.hi, .string a.t] 23 (0, 0)) := by
            refine hf5.obj (fun x => x) ?_
            repeat (first | with_reducible exact hba_4 | (with_reducible refine obj_alloc_at ?_; simp; done) | (with_reducible apply obj_put4; omega) | (with_reducible apply obj_put1; omega) | (with_reducible refine obj_setCell_other ?_ _ _ ?_; rotate_left; (dsimp only; omega)) | with_reducible refine obj_alloc ?_ _ | with_reducible refine obj_drew ?_ | exact hba_4)
          have hbb_5 : w5.heap[w.heap.size + 1]? = some (.cells #[.int .u8 b.k, .int .i64 b.n, .int .i64 b.hi, .string b.t] 23 (0, 0)) := by
            refine hf5.obj (fun x => x) ?_
            repeat (first | with_reducible exact hbb_4 | (with_reducible refine obj_alloc_at ?_; simp; done) | (with_reducible apply obj_put4; omega) | (with_reducible apply obj_put1; omega) | (with_reducible refine obj_setCell_other ?_ _ _ ?_; rotate_left; (dsimp only; omega)) | with_reducible refine obj_alloc ?_ _ | with_reducible refine obj_drew ?_ | exact hbb_4)
          have hbr_5 : w5.heap[w.heap.size + 2]? = some (.cells #[.int .u8 0, .int .i64 0, .int .i64 0, .string ⟨#[]⟩] 23 (0, 0)) := by
            refine hf5.obj (fun x => x) ?_
            repeat (first | with_reducible exact hbr_4 | (with_reducible refine obj_alloc_at ?_; simp; done) | (with_reducible apply obj_put4; omega) | (with_reducible apply obj_put1; omega) | (with_reducible refine obj_setCell_other ?_ _ _ ?_; rotate_left; (dsimp only; omega)) | with_reducible refine obj_alloc ?_ _ | with_reducible refine obj_drew ?_ | exact hbr_4)
          have hfw_5 : Fr noB w w5 := by
            refine Fr.transN ?_ hf5
            repeat (first | with_reducible exact hfw_4 | with_reducible refine Fr.alloc ?_ _ | (with_reducible refine Fr.setCell ?_ ?_ _; rotate_left; (intro h; dsimp only at h; omega)) | with_reducible refine Fr.drew ?_ | exact hfw_4)
          clear hba_4 hbb_4 hbr_4 la lb lr hl ca_0 ca_1 ca_2 ca_3 za cb_0 cb_1 cb_2 cb_3 zb cr_0 cr_1 cr_2 cr_3 zr hf5 hfw_4
          obtain ⟨ca_0, ca_1, ca_2, ca_3⟩ := v_cells (v := a) hba_5
          have za := frozen_of_obj hba_5
          obtain ⟨cb_0, cb_1, cb_2, cb_3⟩ := v_cells (v := b) hbb_5
          have zb := frozen_of_obj hbb_5
          obtain ⟨cr_0, cr_1, cr_2, cr_3⟩ := v_cells (v := zV) hbr_5
          dsimp only [zV] at cr_0 cr_1 cr_2 cr_3
          have zr := frozen_of_obj hbr_5
          go_wp2_with fail
          have la := obj_lt hba_5
          have lb := obj_lt hbb_5
          have lr := obj_lt hbr_5
          have hl := hfw_5.size
          refine bodyPost_ret (ret_val2 rfl _ _ (w.heap.size + 2) zV _ rfl rfl ?_) rfl ⟨?_, ?_⟩
          · show _ = some (Obj.cells #[.int .u8 0, .int .i64 0, .int .i64 0, .string ⟨#[]⟩] 23 (0, 0))
            repeat (first | with_reducible exact hbr_5 | (with_reducible refine obj_alloc_at ?_; simp; done) | (with_reducible apply obj_put4; omega) | (with_reducible apply obj_put1; omega) | (with_reducible refine obj_setCell_other ?_ _ _ ?_; rotate_left; (dsimp only; omega)) | with_reducible refine obj_alloc ?_ _ | with_reducible refine obj_drew ?_ | exact hbr_5)
          · rw [HR.out] <;> rfl
          · skip
            repeat (first | with_reducible exact hfw_5 | with_reducible refine Fr.alloc ?_ _ | (with_reducible refine Fr.setCell ?_ ?_ _; rotate_left; (intro h; dsimp only at h; omega)) | with_reducible refine Fr.drew ?_ | exact hfw_5)
      · rw [ya] at HYa
        rcases kind3 b h2 with ⟨b2, b0, yb⟩ | ⟨b2, b0, yb⟩ | ⟨b2, b0, yb⟩
        · rw [yb] at HYb
          have HR := Lib.hid (show joinV a b true = (ofV true, 0) by simp [joinV, h1, h2, isB, a2, ya, b2, yb])
          clear h1 h2 ya yb
          go_wp2_with fail
          refine (HTa.out _).mono ?_
          rintro e w2 ⟨rfl, hf2⟩
          have la := obj_lt hba_1
          have lb := obj_lt hbb_1
          have lr := obj_lt hbr_1
          have hl := hfw_1.size
          have hba_2 : w2.heap[w.heap.size]? = some (.cells #[.int .u8 a.k, .int .i64 a.n, .int .i64 a.hi, .string a.t] 23 (0, 0)) := by
            refine hf2.obj (fun x => x) ?_
            repeat (first | with_reducible exact hba_1 | (with_reducible refine obj_alloc_at ?_; simp; done) | (with_reducible apply obj_put4; omega) | (with_reducible apply obj_put1; omega) | (with_reducible refine obj_setCell_other ?_ _ _ ?_; rotate_left; (dsimp only; omega)) | with_reducible refine obj_alloc ?_ _ | with_reducible refine obj_drew ?_ | exact hba_1)
          have hbb_2 : w2.heap[w.heap.size + 1]? = some (.cells #[.int .u8 b.k, .int .i64 b.n, .int .i64 b.hi, .string b.t] 23 (0, 0)) := by
            refine hf2.obj (fun x => x) ?_
            repeat (first | with_reducible exact hbb_1 | (with_reducible refine obj_alloc_at ?_; simp; done) | (with_reducible apply obj_put4; omega) | (with_reducible apply obj_put1; omega) | (with_reducible refine obj_setCell_other ?_ _ _ ?_; rotate_left; (dsimp only; omega)) | with_reducible refine obj_alloc ?_ _ | with_reducible refine obj_drew ?_ | exact hbb_1)
          have hbr_2 : w2.heap[w.heap.size + 2]? = some (.cells #[.int .u8 0, .int .i64 0, .int .i64 0, .string ⟨#[]⟩] 23 (0, 0)) := by
            refine hf2.obj (fun x => x) ?_
            repeat (first | with_reducible exact hbr_1 | (with_reducible refine obj_alloc_at ?_; simp; done) | (with_reducible apply obj_put4; omega) | (with_reducible apply obj_put1; omega) | (with_reducible refine obj_setCell_other ?_ _ _ ?_; rotate_left; (dsimp only; omega)) | with_reducible refine obj_alloc ?_ _ | with_reducible refine obj_drew ?_ | exact hbr_1)
          have hfw_2 : Fr noB w w2 := by
            refine Fr.transN ?_ hf2
            repeat (first | with_reducible exact hfw_1 | with_reducible refine Fr.alloc ?_ _ | (with_reducible refine Fr.setCell ?_ ?_ _; rotate_left; (intro h; dsimp only at h; omega)) | with_reducible refine Fr.drew ?_ | exact hfw_1)
          clear hba_1 hbb_1 hbr_1 la lb lr hl ca_0 ca_1 ca_2 ca_3 za cb_0 cb_1 cb_2 cb_3 zb cr_0 cr_1 cr_2 cr_3 zr hf2 hfw_1
          obtain ⟨ca_0, ca_1, ca_2, ca_3⟩ := v_cells (v := a) hba_2
          have za := frozen_of_obj hba_2
          obtain ⟨cb_0, cb_1, cb_2, cb_3⟩ := v_cells (v := b) hbb_2
          have zb := frozen_of_obj hbb_2
          obtain ⟨cr_0, cr_1, cr_2, cr_3⟩ := v_cells (v := zV) hbr_2
          dsimp only [zV] at cr_0 cr_1 cr_2 cr_3
          have zr := frozen_of_obj hbr_2
          go_wp2_with fail
          refine (HTb.out _).mono ?_
          rintro e w3 ⟨rfl, hf3⟩
          have la := obj_lt hba_2
          have lb := obj_lt hbb_2
          have lr := obj_lt hbr_2
          have hl := hfw_2.size
          have hba_3 : w3.heap[w.heap.size]? = some (.cells #[.int .u8 a.k, .int .i64 a.n, .int .i64 a.hi, .string a.t] 23 (0, 0)) := by
            refine hf3.obj (fun x => x) ?_
            repeat (first | with_reducible exact hba_2 | (with_reducible refine obj_alloc_at ?_; simp; done) | (with_reducible apply obj_put4; omega) | (with_reducible apply obj_put1; omega) | (with_reducible refine obj_setCell_other ?_ _ _ ?_; rotate_left; (dsimp only; omega)) | with_reducible refine obj_alloc ?_ _ | with_reducible refine obj_drew ?_ | exact hba_2)
          have hbb_3 : w3.heap[w.heap.size + 1]? = some (.cells #[.int .u8 b.k, .int .i64 b.n, .int .i64 b.hi, .string b.t] 23 (0, 0)) := by
            refine hf3.obj (fun x => x) ?_
            repeat (first | with_reducible exact hbb_2 | (with_reducible refine obj_alloc_at ?_; simp; done) | (with_reducible apply obj_put4; omega) | (with_reducible apply obj_put1; omega) | (with_reducible refine obj_setCell_other ?_ _ _ ?_; rotate_left; (dsimp only; omega)) | with_reducible refine obj_alloc ?_ _ | with_reducible refine obj_drew ?_ | exact hbb_2)
          have hbr_3 : w3.heap[w.heap.size + 2]? = some (.cells #[.int .u8 0, .int .i64 0, .int .i64 0, .string ⟨#[]⟩] 23 (0, 0)) := by
            refine hf3.obj (fun x => x) ?_
            repeat (first | with_reducible exact hbr_2 | (with_reducible refine obj_alloc_at ?_; simp; done) | (with_reducible apply obj_put4; omega) | (with_reducible apply obj_put1; omega) | (with_reducible refine obj_setCell_other ?_ _ _ ?_; rotate_left; (dsimp only; omega)) | with_reducible refine obj_alloc ?_ _ | with_reducible refine obj_drew ?_ | exact hbr_2)
          have hfw_3 : Fr noB w w3 := by
            refine Fr.transN ?_ hf3
            repeat (first | with_reducible exact hfw_2 | with_reducible refine Fr.alloc ?_ _ | (with_reducible refine Fr.setCell ?_ ?_ _; rotate_left; (intro h; dsimp only at h; omega)) | with_reducible refine Fr.drew ?_ | exact hfw_2)
          clear hba_2 hbb_2 hbr_2 la lb lr hl ca_0 ca_1 ca_2 ca_3 za cb_0 cb_1 cb_2 cb_3 zb cr_0 cr_1 cr_2 cr_3 zr hf3 hfw_2
          obtain ⟨ca_0, ca_1, ca_2, ca_3⟩ := v_cells (v := a) hba_3
          have za := frozen_of_obj hba_3
          obtain ⟨cb_0, cb_1, cb_2, cb_3⟩ := v_cells (v := b) hbb_3
          have zb := frozen_of_obj hbb_3
          obtain ⟨cr_0, cr_1, cr_2, cr_3⟩ := v_cells (v := zV) hbr_3
          dsimp only [zV] at cr_0 cr_1 cr_2 cr_3
          have zr := frozen_of_obj hbr_3
          go_wp2_with fail
          refine (HYa.out _).mono ?_
          rintro e w4 ⟨rfl, hf4⟩
          have la := obj_lt hba_3
          have lb := obj_lt hbb_3
          have lr := obj_lt hbr_3
          have hl := hfw_3.size
          have hba_4 : w4.heap[w.heap.size]? = some (.cells #[.int .u8 a.k, .int .i64 a.n, .int .i64 a.hi, .string a.t] 23 (0, 0)) := by
            refine hf4.obj (fun x => x) ?_
            repeat (first | with_reducible exact hba_3 | (with_reducible refine obj_alloc_at ?_; simp; done) | (with_reducible apply obj_put4; omega) | (with_reducible apply obj_put1; omega) | (with_reducible refine obj_setCell_other ?_ _ _ ?_; rotate_left; (dsimp only; omega)) | with_reducible refine obj_alloc ?_ _ | with_reducible refine obj_drew ?_ | exact hba_3)
          have hbb_4 : w4.heap[w.heap.size + 1]? = some (.cells #[.int .u8 b.k, .int .i64 b.n, .int .i64 b.hi, .string b.t] 23 (0, 0)) := by
            refine hf4.obj (fun x => x) ?_
            repeat (first | with_reducible exact hbb_3 | (with_reducible refine obj_alloc_at ?_; simp; done) | (with_reducible apply obj_put4; omega) | (with_reducible apply obj_put1; omega) | (with_reducible refine obj_setCell_other ?_ _ _ ?_; rotate_left; (dsimp only; omega)) | with_reducible refine obj_alloc ?_ _ | with_reducible refine obj_drew ?_ | exact hbb_3)
          have hbr_4 : w4.heap[w.heap.size + 2]? = some (.cells #[.int .u8 0, .int .i64 0, .int .i64 0, .string ⟨#[]⟩] 23 (0, 0)) := by
            refine hf4.obj (fun x => x) ?_
            repeat (first | with_reducible exact hbr_3 | (with_reducible refine obj_alloc_at ?_; simp; done) | (with_reducible apply obj_put4; omega) | (with_reducible apply obj_put1; omega) | (with_reducible refine obj_setCell_other ?_ _ _ ?_; rotate_left; (dsimp only; omega)) | with_reducible refine obj_alloc ?_ _ | with_reducible refine obj_drew ?_ | exact hbr_3)
          have hfw_4 : Fr noB w w4 := by
            refine Fr.transN ?_ hf4
            repeat (first | with_reducible exact hfw_3 | with_reducible refine Fr.alloc ?_ _ | (with_reducible refine Fr.setCell ?_ ?_ _; rotate_left; (intro h; dsimp only at h; omega)) | with_reducible refine Fr.drew ?_ | exact hfw_3)
          clear hba_3 hbb_3 hbr_3 la lb lr hl ca_0 ca_1 ca_2 ca_3 za cb_0 cb_1 cb_2 cb_3 zb cr_0 cr_1 cr_2 cr_3 zr hf4 hfw_3
          obtain ⟨ca_0, ca_1, ca_2, ca_3⟩ := v_cells (v := a) hba_4
          have za := frozen_of_obj hba_4
          obtain ⟨cb_0, cb_1, cb_2, cb_3⟩ := v_cells (v := b) hbb_4
          have zb := frozen_of_obj hbb_4
          obtain ⟨cr_0, cr_1, cr_2, cr_3⟩ := v_cells (v := zV) hbr_4
          dsimp only [zV] at cr_0 cr_1 cr_2 cr_3
          have zr := frozen_of_obj hbr_4
          go_wp2_with fail
          refine (HYb.out _).mono ?_
          rintro e w5 ⟨rfl, hf5⟩
          have la := obj_lt hba_4
          have lb := obj_lt hbb_4
          have lr := obj_lt hbr_4
          have hl := hfw_4.size
          have hba_5 : w5.heap[w.heap.size]? = some (.cells #[.int .u8 a.k, .int .i64 a.n, .int .i64 a.hi, .string a.t] 23 (0, 0)) := by
            refine hf5.obj (fun x => x) ?_
            repeat (first | with_reducible exact hba_4 | (with_reducible refine obj_alloc_at ?_; simp; done) | (with_reducible apply obj_put4; omega) | (with_reducible apply obj_put1; omega) | (with_reducible refine obj_setCell_other ?_ _ _ ?_; rotate_left; (dsimp only; omega)) | with_reducible refine obj_alloc ?_ _ | with_reducible refine obj_drew ?_ | exact hba_4)
          have hbb_5 : w5.heap[w.heap.size + 1]? = some (.cells #[.int .u8 b.k, .int .i64 b.n, .int .i64 b.hi, .string b.t] 23 (0, 0)) := by
            refine hf5.obj (fun x => x) ?_
            repeat (first | with_reducible exact hbb_4 | (with_reducible refine obj_alloc_at ?_; simp; done) | (with_reducible apply obj_put4; omega) | (with_reducible apply obj_put1; omega) | (with_reducible refine obj_setCell_other ?_ _ _ ?_; rotate_left; (dsimp only; omega)) | with_reducible refine obj_alloc ?_ _ | with_reducible refine obj_drew ?_ | exact hbb_4)
          have hbr_5 : w5.heap[w.heap.size + 2]? = some (.cells #[.int .u8 0, .int .i64 0, .int .i64 0, .string ⟨#[]⟩] 23 (0, 0)) := by
            refine hf5.obj (fun x => x) ?_
            repeat (first | with_reducible exact hbr_4 | (with_reducible refine obj_alloc_at ?_; simp; done) | (with_reducible apply obj_put4; omega) | (with_reducible apply obj_put1; omega) | (with_reducible refine obj_setCell_other ?_ _ _ ?_; rotate_left; (dsimp only; omega)) | with_reducible refine obj_alloc ?_ _ | with_reducible refine obj_drew ?_ | exact hbr_4)
          have hfw_5 : Fr noB w w5 := by
            refine Fr.transN ?_ hf5
            repeat (first | with_reducible exact hfw_4 | with_reducible refine Fr.alloc ?_ _ | (with_reducible refine Fr.setCell ?_ ?_ _; rotate_left; (intro h; dsimp only at h; omega)) | with_reducible refine Fr.drew ?_ | exact hfw_4)
          clear hba_4 hbb_4 hbr_4 la lb lr hl ca_0 ca_1 ca_2 ca_3 za cb_0 cb_1 cb_2 cb_3 zb cr_0 cr_1 cr_2 cr_3 zr hf5 hfw_4
          obtain ⟨ca_0, ca_1, ca_2, ca_3⟩ := v_cells (v := a) hba_5
          have za := frozen_of_obj hba_5
          obtain ⟨cb_0, cb_1, cb_2, cb_3⟩ := v_cells (v := b) hbb_5
          have zb := frozen_of_obj hbb_5
          obtain ⟨cr_0, cr_1, cr_2, cr_3⟩ := v_cells (v := zV) hbr_5
          dsimp only [zV] at cr_0 cr_1 cr_2 cr_3
          have zr := frozen_of_obj hbr_5
          go_wp2_with fail
          refine (HO1.out _).mono ?_
          rintro e w6 ⟨rfl, hf6⟩
          have la := obj_lt hba_5
          have lb := obj_lt hbb_5
          have lr := obj_lt hbr_5
          have hl := hfw_5.size
          have hba_6 : w6.heap[w.heap.size]? = some (.cells #[.int .u8 a.k, .int .i64 a.n, .int .i64 a.hi, .string a.t] 23 (0, 0)) := by
            refine hf6.obj (fun x => x) ?_
            repeat (first | with_reducible exact hba_5 | (with_reducible refine obj_alloc_at ?_; simp; done) | (with_reducible apply obj_put4; omega) | (with_reducible apply obj_put1; omega) | (with_reducible refine obj_setCell_other ?_ _ _ ?_; rotate_left; (dsimp only; omega)) | with_reducible refine obj_alloc ?_ _ | with_reducible refine obj_drew ?_ | exact hba_5)
          have hbb_6 : w6.heap[w.heap.size + 1]? = some (.cells #[.int .u8 b.k, .int .i64 b.n, .int .i64 b.hi, .string b.t] 23 (0, 0)) := by
            refine hf6.obj (fun x => x) ?_
            repeat (first | with_reducible exact hbb_5 | (with_reducible refine obj_alloc_at ?_; simp; done) | (with_reducible apply obj_put4; omega) | (with_reducible apply obj_put1; omega) | (with_reducible refine obj_setCell_other ?_ _ _ ?_; rotate_left; (dsimp only; omega)) | with_reducible refine obj_alloc ?_ _ | with_reducible refine obj_drew ?_ | exact hbb_5)
          have hbr_6 : w6.heap[w.heap.size + 2]? = some (.cells #[.int .u8 0, .int .i64 0, .int .i64 0, .string ⟨#[]⟩] 23 (0, 0)) := by
            refine hf6.obj (fun x => x) ?_
            repeat (first | with_reducible exact hbr_5 | (with_reducible refine obj_alloc_at ?_; simp; done) | (with_reducible apply obj_put4; omega) | (with_reducible apply obj_put1; omega) | (with_reducible refine obj_setCell_other ?_ _ _ ?_; rotate_left; (dsimp only; omega)) | with_reducible refine obj_alloc ?_ _ | with_reducible refine obj_drew ?_ | exact hbr_5)
          have hfw_6 : Fr noB w w6 := by
            refine Fr.transN ?_ hf6
            repeat (first | with_reducible exact hfw_5 | with_reducible refine Fr.alloc ?_ _ | (with_reducible refine Fr.setCell ?_ ?_ _; rotate_left; (intro h; dsimp only at h; omega)) | with_reducible refine Fr.drew ?_ | exact hfw_5)
          clear hba_5 hbb_5 hbr_5 la lb lr hl ca_0 ca_1 ca_2 ca_3 za cb_0 cb_1 cb_2 cb_3 zb cr_0 cr_1 cr_2 cr_3 zr hf6 hfw_5
          obtain ⟨ca_0, ca_1, ca_2, ca_3⟩ := v_cells (v := a) hba_6
          have za := frozen_of_obj hba_6
          obtain ⟨cb_0, cb_1, cb_2, cb_3⟩ := v_cells (v := b) hbb_6
          have zb := frozen_of_obj hbb_6
          obtain ⟨cr_0, cr_1, cr_2, cr_3⟩ := v_cells (v := zV) hbr_6
          dsimp only [zV] at cr_0 cr_1 cr_2 cr_3
          have zr := frozen_of_obj hbr_6
          go_wp2_with fail
          have la := obj_lt hba_6
          have lb := obj_lt hbb_6
          have lr := obj_lt hbr_6
          have hl := hfw_6.size
          refine bodyPost_ret (ret_val2 rfl _ _ (w.heap.size + 2) yesV _ rfl rfl ?_) rfl ⟨?_, ?_⟩
          · show _ = some (Obj.cells #[.int .u8 2, .int .i64 1, .int .i64 0, .string ⟨#[]⟩] 23 (0, 0))
            repeat (first | with_reducible exact hbr_6 | (with_reducible refine obj_alloc_at ?_; simp; done) | (with_reducible apply obj_put4; omega) | (with_reducible apply obj_put1; omega) | (with_reducible refine obj_setCell_other ?_ _ _ ?_; rotate_left; (dsimp only; omega)) | with_reducible refine obj_alloc ?_ _ | with_reducible refine obj_drew ?_ | exact hbr_6)
          · rw [HR.out] <;> rfl
          · skip
            repeat (first | with_reducible exact hfw_6 | with_reducible refine Fr.alloc ?_ _ | (with_reducible refine Fr.setCell ?_ ?_ _; rotate_left; (intro h; dsimp only at h; omega)) | with_reducible refine Fr.drew ?_ | exact hfw_6)
        · rw [yb] at HYb
          have HR := Lib.hid (show joinV a b true = (zV, 0) by simp [joinV, h1, h2, isB, nullB, a2, a0, ya, b2, b0, yb])
          clear h1 h2 ya yb
          go_wp2_with fail
          refine (HTa.out _).mono ?_
          rintro e w2 ⟨rfl, hf2⟩
          have la := obj_lt hba_1
          have lb := obj_lt hbb_1
          have lr := obj_lt hbr_1
          have hl := hfw_1.size
          have hba_2 : w2.heap[w.heap.size]? = some (.cells #[.int .u8 a.k, .int .i64 a.n, .int .i64 a.hi, .string a.t] 23 (0, 0)) := by
            refine hf2.obj (fun x => x) ?_
            repeat (first | with_reducible exact hba_1 | (with_reducible refine obj_alloc_at ?_; simp; done) | (with_reducible apply obj_put4; omega) | (with_reducible apply obj_put1; omega) | (with_reducible refine obj_setCell_other ?_ _ _ ?_; rotate_left; (dsimp only; omega)) | with_reducible refine obj_alloc ?_ _ | with_reducible refine obj_drew ?_ | exact hba_1)
          have hbb_2 : w2.heap[w.heap.size + 1]? = some (.cells #[.int .u8 b.k, .int .i64 b.n, .int .i64 b.hi, .string b.t] 23 (0, 0)) := by
            refine hf2.obj (fun x => x) ?_
            repeat (first | with_reducible exact hbb_1 | (with_reducible refine obj_alloc_at ?_; simp; done) | (with_reducible apply obj_put4; omega) | (with_reducible apply obj_put1; omega) | (with_reducible refine obj_setCell_other ?_ _ _ ?_; rotate_left; (dsimp only; omega)) | with_reducible refine obj_alloc ?_ _ | with_reducible refine obj_drew ?_ | exact hbb_1)
          have hbr_2 : w2.heap[w.heap.size + 2]? = some (.cells #[.int .u8 0, .int .i64 0, .int .i64 0, .string ⟨#[]⟩] 23 (0, 0)) := by
            refine hf2.obj (fun x => x) ?_
            repeat (first | with_reducible exact hbr_1 | (with_reducible refine obj_alloc_at ?_; simp; done) | (with_reducible apply obj_put4; omega) | (with_reducible apply obj_put1; omega) | (with_reducible refine obj_setCell_other ?_ _ _ ?_; rotate_left; (dsimp only; omega)) | with_reducible refine obj_alloc ?_ _ | with_reducible refine obj_drew ?_ | exact hbr_1)
          have hfw_2 : Fr noB w w2 := by
            refine Fr.transN ?_ hf2
            repeat (first | with_reducible exact hfw_1 | with_reducible refine Fr.alloc ?_ _ | (with_reducible refine Fr.setCell ?_ ?_ _; rotate_left; (intro h; dsimp only at h; omega)) | with_reducible refine Fr.drew ?_ | exact hfw_1)
          clear hba_1 hbb_1 hbr_1 la lb lr hl ca_0 ca_1 ca_2 ca_3 za cb_0 cb_1 cb_2 cb_3 zb cr_0 cr_1 cr_2 cr_3 zr hf2 hfw_1
          obtain ⟨ca_0, ca_1, ca_2, ca_3⟩ := v_cells (v := a) hba_2
          have za := frozen_of_obj hba_2
          obtain ⟨cb_0, cb_1, cb_2, cb_3⟩ := v_cells (v := b) hbb_2
          have zb := frozen_of_obj hbb_2
          obtain ⟨cr_0, cr_1, cr_2, cr_3⟩ := v_cells (v := zV) hbr_2
          dsimp only [zV] at cr_0 cr_1 cr_2 cr_3
          have zr := frozen_of_obj hbr_2
          go_wp2_with fail
          refine (HTb.out _).mono ?_
          rintro e w3 ⟨rfl, hf3⟩
          have la := obj_lt hba_2
          have lb := obj_lt hbb_2
          have lr := obj_lt hbr_2
          have hl := hfw_2.size
          have hba_3 : w3.heap[w.heap.size]? = some (.cells #[.int .u8 a.k, .int .i64 a.n, .int .i64 a.hi, .string a.t] 23 (0, 0)) := by
            refine hf3.obj (fun x => x) ?_
            repeat (first | with_reducible exact hba_2 | (with_reducible refine obj_alloc_at ?_; simp; done) | (with_reducible apply obj_put4; omega) | (with_reducible apply obj_put1; omega) | (with_reducible refine obj_setCell_other ?_ _ _ ?_; rotate_left; (dsimp only; omega)) | with_reducible refine obj_alloc ?_ _ | with_reducible refine obj_drew ?_ | exact hba_2)
          have hbb_3 : w3.heap[w.heap.size + 1]? = some (.cells #[.int .u8 b.k, .int .i64 b.n, .int .i64 b.hi, .string b.t] 23 (0, 0)) := by
            refine hf3.obj (fun x => x) ?_
            repeat (first | with_reducible exact hbb_2 | (with_reducible refine obj_alloc_at ?_; simp; done) | (with_reducible apply obj_put4; omega) | (with_reducible apply obj_put1; omega) | (with_reducible refine obj_setCell_other ?_ _ _ ?_; rotate_left; (dsimp only; omega)) | with_reducible refine obj_alloc ?_ _ | with_reducible refine obj_drew ?_ | exact hbb_2)
          have hbr_3 : w3.heap[w.heap.size + 2]? = some (.cells #[.int .u8 0, .int .i64 0, .int .i64 0, .string ⟨#[]⟩] 23 (0, 0)) := by
            refine hf3.obj (fun x => x) ?_
            repeat (first | with_reducible exact hbr_2 | (with_reducible refine obj_alloc_at ?_; simp; done) | (with_reducible apply obj_put4; omega) | (with_reducible apply obj_put1; omega) | (with_reducible refine obj_setCell_other ?_ _ _ ?_; rotate_left; (dsimp only; omega)) | with_reducible refine obj_alloc ?_ _ | with_reducible refine obj_drew ?_ | exact hbr_2)
          have hfw_3 : Fr noB w w3 := by
            refine Fr.transN ?_ hf3
            repeat (first | with_reducible exact hfw_2 | with_reducible refine Fr.alloc ?_ _ | (with_reducible refine Fr.setCell ?_ ?_ _; rotate_left; (intro h; dsimp only at h; omega)) | with_reducible refine Fr.drew ?_ | exact hfw_2)
          clear hba_2 hbb_2 hbr_2 la lb lr hl ca_0 ca_1 ca_2 ca_3 za cb_0 cb_1 cb_2 cb_3 zb cr_0 cr_1 cr_2 cr_3 zr hf3 hfw_2
          obtain ⟨ca_0, ca_1, ca_2, ca_3⟩ := v_cells (v := a) hba_3
          have za := frozen_of_obj hba_3
          obtain ⟨cb_0, cb_1, cb_2, cb_3⟩ := v_cells (v := b) hbb_3
          have zb := frozen_of_obj hbb_3
          obtain ⟨cr_0, cr_1, cr_2, cr_3⟩ := v_cells (v := zV) hbr_3
          dsimp only [zV] at cr_0 cr_1 cr_2 cr_3
          have zr := frozen_of_obj hbr_3
          go_wp2_with fail
          refine (HYa.out _).mono ?_
          rintro e w4 ⟨rfl, hf4⟩
          have la := obj_lt hba_3
          have lb := obj_lt hbb_3
          have lr := obj_lt hbr_3
          have hl := hfw_3.size
          have hba_4 : w4.heap[w.heap.size]? = some (.cells #[.int .u8 a.k, .int .i64 a.n, .int .i64 a.hi, .string a.t] 23 (0, 0)) := by
            refine hf4.obj (fun x => x) ?_
            repeat (first | with_reducible exact hba_3 | (with_reducible refine obj_alloc_at ?_; simp; done) | (with_reducible apply obj_put4; omega) | (with_reducible apply obj_put1; omega) | (with_reducible refine obj_setCell_other ?_ _ _ ?_; rotate_left; (dsimp only; omega)) | with_reducible refine obj_alloc ?_ _ | with_reducible refine obj_drew ?_ | exact hba_3)
          have hbb_4 : w4.heap[w.heap.size + 1]? = some (.cells #[.int .u8 b.k, .int .i64 b.n, .int .i64 b.hi, .string b.t] 23 (0, 0)) := by
            refine hf4.obj (fun x => x) ?_
            repeat (first | with_reducible exact hbb_3 | (with_reducible refine obj_alloc_at ?_; simp; done) | (with_reducible apply obj_put4; omega) | (with_reducible apply obj_put1; omega) | (with_reducible refine obj_setCell_other ?_ _ _ ?_; rotate_left; (dsimp only; omega)) | with_reducible refine obj_alloc ?_ _ | with_reducible refine obj_drew ?_ | exact hbb_3)
          have hbr_4 : w4.heap[w.heap.size + 2]? = some (.cells #[.int .u8 0, .int .i64 0, .int .i64 0, .string ⟨#[]⟩] 23 (0, 0)) := by
            refine hf4.obj (fun x => x) ?_
            repeat (first | with_reducible exact hbr_3 | (with_reducible refine obj_alloc_at ?_; simp; done) | (with_reducible apply obj_put4; omega) | (with_reducible apply obj_put1; omega) | (with_reducible refine obj_setCell_other ?_ _ _ ?_; rotate_left; (dsimp only; omega)) | with_reducible refine obj_alloc ?_ _ | with_reducible refine obj_drew ?_ | exact hbr_3)
          have hfw_4 : Fr noB w w4 := by
            refine Fr.transN ?_ hf4
            repeat (first | with_reducible exact hfw_3 | with_reducible refine Fr.alloc ?_ _ | (with_reducible refine Fr.setCell ?_ ?_ _; rotate_left; (intro h; dsimp only at h; omega)) | with_reducible refine Fr.drew ?_ | exact hfw_3)
          clear hba_3 hbb_3 hbr_3 la lb lr hl ca_0 ca_1 ca_2 ca_3 za cb_0 cb_1 cb_2 cb_3 zb cr_0 cr_1 cr_2 cr_3 zr hf4 hfw_3
          obtain ⟨ca_0, ca_1, ca_2, ca_3⟩ := v_cells (v := a) hba_4
          have za := frozen_of_obj hba_4
          obtain ⟨cb_0, cb_1, cb_2, cb_3⟩ := v_cells (v := b) hbb_4
          have zb := frozen_of_obj hbb_4
          obtain ⟨cr_0, cr_1, cr_2, cr_3⟩ := v_cells (v := zV) hbr_4
          dsimp only [zV] at cr_0 cr_1 cr_2 cr_3
          have zr := frozen_of_obj hbr_4
          go_wp2_with fail
          refine (HYb.out _).mono ?_
          rintro e w5 ⟨rfl, hf5⟩
          have la := obj_lt hba_4
          have lb := obj_lt hbb_4
          have lr := obj_lt hbr_4
          have hl := hfw_4.size
          have hba_5 : w5.heap[w.heap.size]? = some (.cells #[.int .u8 a.k, .int .i64 a.n, .int .i64 a.hi, .string a.t] 23 (0, 0)) := by
            refine hf5.obj (fun x => x) ?_
            repeat (first | with_reducible exact hba_4 | (with_reducible refine obj_alloc_at ?_; simp; done) | (with_reducible apply obj_put4; omega) | (with_reducible apply obj_put1; omega) | (with_reducible refine obj_setCell_other ?_ _ _ ?_; rotate_left; (dsimp only; omega)) | with_reducible refine obj_alloc ?_ _ | with_reducible refine obj_drew ?_ | exact hba_4)
          have hbb_5 : w5.heap[w.heap.size + 1]? = some (.cells #[.int .u8 b.k, .int .i64 b.n, .int .i64 b.hi, .string b.t] 23 (0, 0)) := by
            refine hf5.obj (fun x => x) ?_
            repeat (first | with_reducible exact hbb_4 | (with_reducible refine obj_alloc_at ?_; simp; done) | (with_reducible apply obj_put4; omega) | (with_reducible apply obj_put1; omega) | (with_reducible refine obj_setCell_other ?_ _ _ ?_; rotate_left; (dsimp only; omega)) | with_reducible refine obj_alloc ?_ _ | with_reducible refine obj_drew ?_ | exact hbb_4)
          have hbr_5 : w5.heap[w.heap.size + 2]? = some (.cells #[.int .u8 0, .int .i64 0, .int .i64 0, .string ⟨#[]⟩] 23 (0, 0)) := by
            refine hf5.obj (fun x => x) ?_
            repeat (first | with_reducible exact hbr_4 | (with_reducible refine obj_alloc_at ?_; simp; done) | (with_reducible apply obj_put4; omega) | (with_reducible apply obj_put1; omega) | (with_reducible refine obj_setCell_other ?_ _ _ ?_; rotate_left; (dsimp only; omega)) | with_reducible refine obj_alloc ?_ _ | with_reducible refine obj_drew ?_ | exact hbr_4)
          have hfw_5 : Fr noB w w5 := by
            refine Fr.transN ?_ hf5
            repeat (first | with_reducible exact hfw_4 | with_reducible refine Fr.alloc ?_ _ | (with_reducible refine Fr.setCell ?_ ?_ _; rotate_left; (intro h; dsimp only at h; omega)) | with_reducible refine Fr.drew ?_ | exact hfw_4)
          clear hba_4 hbb_4 hbr_4 la lb lr hl ca_0 ca_1 ca_2 ca_3 za cb_0 cb_1 cb_2 cb_3 zb cr_0 cr_1 cr_2 cr_3 zr hf5 hfw_4
          obtain ⟨ca_0, ca_1, ca_2, ca_3⟩ := v_cells (v := a) hba_5
          have za := frozen_of_obj hba_5
          obtain ⟨cb_0, cb_1, cb_2, cb_3⟩ := v_cells (v := b) hbb_5
          have zb := frozen_of_obj hbb_5
          obtain ⟨cr_0, cr_1, cr_2, cr_3⟩ := v_cells (v := zV) hbr_5
          dsimp only [zV] at cr_0 cr_1 cr_2 cr_3
          have zr := frozen_of_obj hbr_5
          go_wp2_with fail
          have la := obj_lt hba_5
          have lb := obj_lt hbb_5
          have lr := obj_lt hbr_5
          have hl := hfw_5.size
          refine bodyPost_ret (ret_val2 rfl _ _ (w.heap.size + 2) zV _ rfl rfl ?_) rfl ⟨?_, ?_⟩
          · show _ = some (Obj.cells #[.int .u8 0, .int .i64 0, .int .i64 0, .string ⟨#[]⟩] 23 (0, 0))
            repeat (first | with_reducible exact hbr_5 | (with_reducible refine obj_alloc_at ?_; simp; done) | (with_reducible apply obj_put4; omega) | (with_reducible apply obj_put1; omega) | (with_reducible refine obj_setCell_other ?_ _ _ ?_; rotate_left; (dsimp only; omega)) | with_reducible refine obj_alloc ?_ _ | with_reducible refine obj_drew ?_ | exact hbr_5)
          · rw [HR.out] <;> rfl
          · skip
            repeat (first | with_reducible exact hfw_5 | with_reducible refine Fr.alloc ?_ _ | (with_reducible refine Fr.setCell ?_ ?_ _; rotate_left; (intro h; dsimp only at h; omega)) | with_reducible refine Fr.drew ?_ | exact hfw_5)
        · rw [yb] at HYb
          have HR := Lib.hid (show joinV a b true = (zV, 0) by simp [joinV, h1, h2, isB, nullB, a2, a0, ya, b2, b0, yb])
          clear h1 h2 ya yb
          go_wp2_with fail
          refine (HTa.out _).mono ?_
          rintro e w2 ⟨rfl, hf2⟩
          have la := obj_lt hba_1
          have lb := obj_lt hbb_1
          have lr := obj_lt hbr_1
          have hl := hfw_1.size
          have hba_2 : w2.heap[w.heap.size]? = some (.cells #[.int .u8 a.k, .int .i64 a.n, .int .i64 a.hi, .string a.t] 23 (0, 0)) := by
            refine hf2.obj (fun x => x) ?_
            repeat (first | with_reducible exact hba_1 | (with_reducible refine obj_alloc_at ?_; simp; done) | (with_reducible apply obj_put4; omega) | (with_reducible apply obj_put1; omega) | (with_reducible refine obj_setCell_other ?_ _ _ ?_; rotate_left; (dsimp only; omega)) | with_reducible refine obj_alloc ?_ _ | with_reducible refine obj_drew ?_ | exact hba_1)
          have hbb_2 : w2.heap[w.heap.size + 1]? = some (.cells #[.int .u8 b.k, .int .i64 b.n, .int .i64 b.hi, .string b.t] 23 (0, 0)) := by
            refine hf2.obj (fun x => x) ?_
            repeat (first | with_reducible exact hbb_1 | (with_reducible refine obj_alloc_at ?_; simp; done) | (with_reducible apply obj_put4; omega) | (with_reducible apply obj_put1; omega) | (with_reducible refine obj_setCell_other ?_ _ _ ?_; rotate_left; (dsimp only; omega)) | with_reducible refine obj_alloc ?_ _ | with_reducible refine obj_drew ?_ | exact hbb_1)
          have hbr_2 : w2.heap[w.heap.size + 2]? = some (.cells #[.int .u8 0, .int .i64 0, .int .i64 0, .string ⟨#[]⟩] 23 (0, 0)) := by
            refine hf2.obj (fun x => x) ?_
            repeat (first | with_reducible exact hbr_1 | (with_reducible refine obj_alloc_at ?_; simp; done) | (with_reducible apply obj_put4; omega) | (with_reducible apply obj_put1; omega) | (with_reducible refine obj_setCell_other ?_ _ _ ?_; rotate_left; (dsimp only; omega)) | with_reducible refine obj_alloc ?_ _ | with_reducible refine obj_drew ?_ | exact hbr_1)
          have hfw_2 : Fr noB w w2 := by
            refine Fr.transN ?_ hf2
            repeat (first | with_reducible exact hfw_1 | with_reducible refine Fr.alloc ?_ _ | (with_reducible refine Fr.setCell ?_ ?_ _; rotate_left; (intro h; dsimp only at h; omega)) | with_reducible refine Fr.drew ?_ | exact hfw_1)
          clear hba_1 hbb_1 hbr_1 la lb lr hl ca_0 ca_1 ca_2 ca_3 za cb_0 cb_1 cb_2 cb_3 zb cr_0 cr_1 cr_2 cr_3 zr hf2 hfw_1
          obtain ⟨ca_0, ca_1, ca_2, ca_3⟩ := v_cells (v := a) hba_2
          have za := frozen_of_obj hba_2
          obtain ⟨cb_0, cb_1, cb_2, cb_3⟩ := v_cells (v := b) hbb_2
          have zb := frozen_of_obj hbb_2
          obtain ⟨cr_0, cr_1, cr_2, cr_3⟩ := v_cells (v := zV) hbr_2
          dsimp only [zV] at cr_0 cr_1 cr_2 cr_3
          have zr := frozen_of_obj hbr_2
          go_wp2_with fail
          refine (HTb.out _).mono ?_
          rintro e w3 ⟨rfl, hf3⟩
          have la := obj_lt hba_2
          have lb := obj_lt hbb_2
          have lr := obj_lt hbr_2
          have hl := hfw_2.size
          have hba_3 : w3.heap[w.heap.size]? = some (.cells #[.int .u8 a.k, .int .i64 a.n, .int .i64 a.hi, .string a.t] 23 (0, 0)) := by
            refine hf3.obj (fun x => x) ?_
            repeat (first | with_reducible exact hba_2 | (with_reducible refine obj_alloc_at ?_; simp; done) | (with_reducible apply obj_put4; omega) | (with_reducible apply obj_put1; omega) | (with_reducible refine obj_setCell_other ?_ _ _ ?_; rotate_left; (dsimp only; omega)) | with_reducible refine obj_alloc ?_ _ | with_reducible refine obj_drew ?_ | exact hba_2)
          have hbb_3 : w3.heap[w.heap.size + 1]? = some (.cells #[.int .u8 b.k, .int .i64 b.n, .int .i64 b.hi, .string b.t] 23 (0, 0)) := by
            refine hf3.obj (fun x => x) ?_
            repeat (first | with_reducible exact hbb_2 | (with_reducible refine obj_alloc_at ?_; simp; done) | (with_reducible apply obj_put4; omega) | (with_reducible apply obj_put1; omega) | (with_reducible refine obj_setCell_other ?_ _ _ ?_; rotate_left; (dsimp only; omega)) | with_reducible refine obj_alloc ?_ _ | with_reducible refine obj_drew ?_ | exact hbb_2)
          have hbr_3 : w3.heap[w.heap.size + 2]? = some (.cells #[.int .u8 0, .int .i64 0, .int .i64 0, .string ⟨#[]⟩] 23 (0, 0)) := by
            refine hf3.obj (fun x => x) ?_
            repeat (first | with_reducible exact hbr_2 | (with_reducible refine obj_alloc_at ?_; simp; done) | (with_reducible apply obj_put4; omega) | (with_reducible apply obj_put1; omega) | (with_reducible refine obj_setCell_other ?_ _ _ ?_; rotate_left; (dsimp only; omega)) | with_reducible refine obj_alloc ?_ _ | with_reducible refine obj_drew ?_ | exact hbr_2)
          have hfw_3 : Fr noB w w3 := by
            refine Fr.transN ?_ hf3
            repeat (first | with_reducible exact hfw_2 | with_reducible refine Fr.alloc ?_ _ | (with_reducible refine Fr.setCell ?_ ?_ _; rotate_left; (intro h; dsimp only at h; omega)) | with_reducible refine Fr.drew ?_ | exact hfw_2)
          clear hba_2 hbb_2 hbr_2 la lb lr hl ca_0 ca_1 ca_2 ca_3 za cb_0 cb_1 cb_2 cb_3 zb cr_0 cr_1 cr_2 cr_3 zr hf3 hfw_2
          obtain ⟨ca_0, ca_1, ca_2, ca_3⟩ := v_cells (v := a) hba_3
          have za := frozen_of_obj hba_3
          obtain ⟨cb_0, cb_1, cb_2, cb_3⟩ := v_cells (v := b) hbb_3
          have zb := frozen_of_obj hbb_3
          obtain ⟨cr_0, cr_1, cr_2, cr_3⟩ := v_cells (v := zV) hbr_3
          dsimp only [zV] at cr_0 cr_1 cr_2 cr_3
          have zr := frozen_of_obj hbr_3
          go_wp2_with fail
          refine (HYa.out _).mono ?_
          rintro e w4 ⟨rfl, hf4⟩
          have la := obj_lt hba_3
          have lb := obj_lt hbb_3
          have lr := obj_lt hbr_3
          have hl := hfw_3.size
          have hba_4 : w4.heap[w.heap.size]? = some (.cells #[.int .u8 a.k, .int .i64 a.n, .int .i64 a.hi, .string a.t] 23 (0, 0)) := by
            refine hf4.obj (fun x => x) ?_
            repeat (first | with_reducible exact hba_3 | (with_reducible refine obj_alloc_at ?_; simp; done) | (with_reducible apply obj_put4; omega) | (with_reducible apply obj_put1; omega) | (with_reducible refine obj_setCell_other ?_ _ _ ?_; rotate_left; (dsimp only; omega)) | with_reducible refine obj_alloc ?_ _ | with_reducible refine obj_drew ?_ | exact hba_3)
          have hbb_4 : w4.heap[w.heap.size + 1]? = some (.cells #[.int .u8 b.k, .int .i64 b.n, .int .i64 b.hi, .string b.t] 23 (0, 0)) := by
            refine hf4.obj (fun x => x) ?_
            repeat (first | with_reducible exact hbb_3 | (with_reducible refine obj_alloc_at ?_; simp; done) | (with_reducible apply obj_put4; omega) | (with_reducible apply obj_put1; omega) | (with_reducible refine obj_setCell_other ?_ _ _ ?_; rotate_left; (dsimp only; omega)) | with_reducible refine obj_alloc ?_ _ | with_reducible refine obj_drew ?_ | exact hbb_3)
          have hbr_4 : w4.heap[w.heap.size + 2]? = some (.cells #[.int .u8 0, .int .i64 0, .int .i64 0, .string ⟨#[]⟩] 23 (0, 0)) := by
            refine hf4.obj (fun x => x) ?_
            repeat (first | with_reducible exact hbr_3 | (with_reducible refine obj_alloc_at ?_; simp; done) | (with_reducible apply obj_put4; omega) | (with_reducible apply obj_put1; omega) | (with_reducible refine obj_setCell_other ?_ _ _ ?_; rotate_left; (dsimp only; omega)) | with_reducible refine obj_alloc ?_ _ | with_reducible refine obj_drew ?_ | exact hbr_3)
          have hfw_4 : Fr noB w w4 := by
            refine Fr.transN ?_ hf4
            repeat (first | with_reducible exact hfw_3 | with_reducible refine Fr.alloc ?_ _ | (with_reducible refine Fr.setCell ?_ ?_ _; rotate_left; (intro h; dsimp only at h; omega)) | with_reducible refine Fr.drew ?_ | exact hfw_3)
          clear hba_3 hbb_3 hbr_3 la lb lr hl ca_0 ca_1 ca_2 ca_3 za cb_0 cb_1 cb_2 cb_3 zb cr_0 cr_1 cr_2 cr_3 zr hf4 hfw_3
          obtain ⟨ca_0, ca_1, ca_2, ca_3⟩ := v_cells (v := a) hba_4
          have za := frozen_of_obj hba_4
          obtain ⟨cb_0, cb_1, cb_2, cb_3⟩ := v_cells (v := b) hbb_4
          have zb := frozen_of_obj hbb_4
          obtain ⟨cr_0, cr_1, cr_2, cr_3⟩ := v_cells (v := zV) hbr_4
          dsimp only [zV] at cr_0 cr_1 cr_2 cr_3
          have zr := frozen_of_obj hbr_4
          go_wp2_with fail
          refine (HYb.out _).mono ?_
          rintro e w5 ⟨rfl, hf5⟩
          have la := obj_lt hba_4
          have lb := obj_lt hbb_4
          have lr := obj_lt hbr_4
          have hl := hfw_4.size
          have hba_5 : w5.heap[w.heap.size]? = some (.cells #[.int .u8 a.k, .int .i64 a.n, .int .i64 a.hi, .string a.t] 23 (0, 0)) := by
            refine hf5.obj (fun x => x) ?_
            repeat (first | with_reducible exact hba_4 | (with_reducible refine obj_alloc_at ?_; simp; done) | (with_reducible apply obj_put4; omega) | (with_reducible apply obj_put1; omega) | (with_reducible refine obj_setCell_other ?_ _ _ ?_; rotate_left; (dsimp only; omega)) | with_reducible refine obj_alloc ?_ _ | with_reducible refine obj_drew ?_ | exact hba_4)
          have hbb_5 : w5.heap[w.heap.size + 1]? = some (.cells #[.int .u8 b.k, .int .i64 b.n, .int .i64 b.hi, .string b.t] 23 (0, 0)) := by
            refine hf5.obj (fun x => x) ?_
            repeat (first | with_reducible exact hbb_4 | (with_reducible refine obj_alloc_at ?_; simp; done) | (with_reducible apply obj_put4; omega) | (with_reducible apply obj_put1; omega) | (with_reducible refine obj_setCell_other ?_ _ _ ?_; rotate_left; (dsimp only; omega)) | with_reducible refine obj_alloc ?_ _ | with_reducible refine obj_drew ?_ | exact hbb_4)
          have hbr_5 : w5.heap[w.heap.size + 2]? = some (.cells #[.int .u8 0, .int .i64 0, .int .i64 0, .string ⟨#[]⟩] 23 (0, 0)) := by
            refine hf5.obj (fun x => x) ?_
            repeat (first | with_reducible exact hbr_4 | (with_reducible refine obj_alloc_at ?_; simp; done) | (with_reducible apply obj_put4; omega) | (with_reducible apply obj_put1; omega) | (with_reducible refine obj_setCell_other ?_ _ _ ?_; rotate_left; (dsimp only; omega)) | with_reducible refine obj_alloc ?_ _ | with_reducible refine obj_drew ?_ | exact hbr_4)
          have hfw_5 : Fr noB w w5 := by
            refine Fr.transN ?_ hf5
            repeat (first | with_reducible exact hfw_4 | with_reducible refine Fr.alloc ?_ _ | (with_reducible refine Fr.setCell ?_ ?_ _; rotate_left; (intro h; dsimp only at h; omega)) | with_reducible refine Fr.drew ?_ | exact hfw_4)
          clear hba_4 hbb_4 hbr_4 la lb lr hl ca_0 ca_1 ca_2 ca_3 za cb_0 cb_1 cb_2 cb_3 zb cr_0 cr_1 cr_2 cr_3 zr hf5 hfw_4
          obtain ⟨ca_0, ca_1, ca_2, ca_3⟩ := v_cells (v := a) hba_5
          have za := frozen_of_obj hba_5
          obtain ⟨cb_0, cb_1, cb_2, cb_3⟩ := v_cells (v := b) hbb_5
          have zb := frozen_of_obj hbb_5
          obtain ⟨cr_0, cr_1, cr_2, cr_3⟩ := v_cells (v := zV) hbr_5
          dsimp only [zV] at cr_0 cr_1 cr_2 cr_3
          have zr := frozen_of_obj hbr_5
          go_wp2_with fail
          have la := obj_lt hba_5
          have lb := obj_lt hbb_5
          have lr := obj_lt hbr_5
          have hl := hfw_5.size
          refine bodyPost_ret (ret_val2 rfl _ _ (w.heap.size + 2) zV _ rfl rfl ?_) rfl ⟨?_, ?_⟩
          · show _ = some (Obj.cells #[.int .u8 0, .int .i64 0, .int .i64 0, .string ⟨#[]⟩] 23 (0, 0))
            repeat (first | with_reducible exact hbr_5 | (with_reducible refine obj_alloc_at ?_; simp; done) | (with_reducible apply obj_put4; omega) | (with_reducible apply obj_put1; omega) | (with_reducible refine obj_setCell_other ?_ _ _ ?_; rotate_left; (dsimp only; omega)) | with_reducible refine obj_alloc ?_ _ | with_reducible refine obj_drew ?_ | exact hbr_5)
          · rw [HR.out] <;> rfl
          · skip
            repeat (first | with_reducible exact hfw_5 | with_reducible refine Fr.alloc ?_ _ | (with_reducible refine Fr.setCell ?_ ?_ _; rotate_left; (intro h; dsimp only at h; omega)) | with_reducible refine Fr.drew ?_ | exact hfw_5)

set_option maxRecDepth 100000 in
set_option maxHeartbeats 4000000 in
theorem risnull_any (a : V) (w : World) :
    Calls Try.prog 36 #[vV a] w fun e w' => e = .returned (vV (ofV (nullB a))) ∧ Fr noB w w' := by
  have HO := Lib.hid (show ∀ W : World, Calls Try.prog 32 #[.bool (a.k == 0)] W fun e w' => e = .returned (.agg #[.int .u8 (ofV (nullB a)).k, .int .i64 (ofV (nullB a)).n, .int .i64 (ofV (nullB a)).hi, .string (ofV (nullB a)).t]) ∧ Fr noB W w' from fun W => rof_any (nullB a) W)
  unfold vV
  go_enter Try.func36, Try.ntmps36
  go_upto_region 1 with fail
  have hfw_0 := Fr.refl noB w
  have hl := hfw_0.size
  refine wp_world (fun W => Fr noB w W ∧ W.heap[w.heap.size]? = some (.cells #[.int .u8 a.k, .int .i64 a.n, .int .i64 a.hi, .string a.t] 23 (0, 0)) ∧ W.heap[w.heap.size + 1]? = some (.cells #[.int .u8 0, .int .i64 0, .int .i64 0, .string ⟨#[]⟩] 23 (0, 0))) ⟨?_, ?_, ?_⟩ ?_
  · skip
    repeat (first | with_reducible exact hfw_0 | with_reducible refine Fr.alloc ?_ _ | (with_reducible refine Fr.setCell ?_ ?_ _; rotate_left; (intro h; dsimp only at h; omega)) | with_reducible refine Fr.drew ?_ | exact hfw_0)
  · skip
    repeat (first | (with_reducible refine obj_alloc_at ?_; simp; done) | (with_reducible apply obj_put4; omega) | (with_reducible apply obj_put1; omega) | (with_reducible refine obj_setCell_other ?_ _ _ ?_; rotate_left; (dsimp only; omega)) | with_reducible refine obj_alloc ?_ _ | with_reducible refine obj_drew ?_)
  · skip
    repeat (first | (with_reducible refine obj_alloc_at ?_; simp; done) | (with_reducible apply obj_put4; omega) | (with_reducible apply obj_put1; omega) | (with_reducible refine obj_setCell_other ?_ _ _ ?_; rotate_left; (dsimp only; omega)) | with_reducible refine obj_alloc ?_ _ | with_reducible refine obj_drew ?_)
  clear hl hfw_0
  rintro w1 ⟨hfw_1, hba_1, hbr_1⟩
  obtain ⟨ca_0, ca_1, ca_2, ca_3⟩ := v_cells (v := a) hba_1
  have za := frozen_of_obj hba_1
  obtain ⟨cr_0, cr_1, cr_2, cr_3⟩ := v_cells (v := zV) hbr_1
  dsimp only [zV] at cr_0 cr_1 cr_2 cr_3
  have zr := frozen_of_obj hbr_1
  go_wp2_with fail
  refine (HO.out _).mono ?_
  rintro e w2 ⟨rfl, hf2⟩
  have la := obj_lt hba_1
  have lr := obj_lt hbr_1
  have hl := hfw_1.size
  have hba_2 : w2.heap[w.heap.size]? = some (.cells #[.int .u8 a.k, .int .i64 a.n, .int .i64 a.hi, .string a.t] 23 (0, 0)) := by
    refine hf2.obj (fun x => x) ?_
    repeat (first | with_reducible exact hba_1 | (with_reducible refine obj_alloc_at ?_; simp; done) | (with_reducible apply obj_put4; omega) | (with_reducible apply obj_put1; omega) | (with_reducible refine obj_setCell_other ?_ _ _ ?_; rotate_left; (dsimp only; omega)) | with_reducible refine obj_alloc ?_ _ | with_reducible refine obj_drew ?_ | exact hba_1)
  have hbr_2 : w2.heap[w.heap.size + 1]? = some (.cells #[.int .u8 0, .int .i64 0, .int .i64 0, .string ⟨#[]⟩] 23 (0, 0)) := by
    refine hf2.obj (fun x => x) ?_
    repeat (first | with_reducible exact hbr_1 | (with_reducible refine obj_alloc_at ?_; simp; done) | (with_reducible apply obj_put4; omega) | (with_reducible apply obj_put1; omega) | (with_reducible refine obj_setCell_other ?_ _ _ ?_; rotate_left; (dsimp only; omega)) | with_reducible refine obj_alloc ?_ _ | with_reducible refine obj_drew ?_ | exact hbr_1)
  have hfw_2 : Fr noB w w2 := by
    refine Fr.transN ?_ hf2
    repeat (first | with_reducible exact hfw_1 | with_reducible refine Fr.alloc ?_ _ | (with_reducible refine Fr.setCell ?_ ?_ _; rotate_left; (intro h; dsimp only at h; omega)) | with_reducible refine Fr.drew ?_ | exact hfw_1)
  clear hba_1 hbr_1 la lr hl ca_0 ca_1 ca_2 ca_3 za cr_0 cr_1 cr_2 cr_3 zr hf2 hfw_1
  obtain ⟨ca_0, ca_1, ca_2, ca_3⟩ := v_cells (v := a) hba_2
  have za := frozen_of_obj hba_2
  obtain ⟨cr_0, cr_1, cr_2, cr_3⟩ := v_cells (v := zV) hbr_2
  dsimp only [zV] at cr_0 cr_1 cr_2 cr_3
  have zr := frozen_of_obj hbr_2
  go_wp2_with fail
  have la := obj_lt hba_2
  have lr := obj_lt hbr_2
  have hl := hfw_2.size
  refine bodyPost_ret (ret_val rfl _ _ (w.heap.size + 1) (ofV (nullB a)) rfl ?_) rfl ⟨?_, ?_⟩
  · show _ = some (Obj.cells #[.int .u8 (ofV (nullB a)).k, .int .i64 (ofV (nullB a)).n, .int .i64 (ofV (nullB a)).hi, .string (ofV (nullB a)).t] 23 (0, 0))
    repeat (first | with_reducible exact hbr_2 | (with_reducible refine obj_alloc_at ?_; simp; done) | (with_reducible apply obj_put4; omega) | (with_reducible apply obj_put1; omega) | (with_reducible refine obj_setCell_other ?_ _ _ ?_; rotate_left; (dsimp only; omega)) | with_reducible refine obj_alloc ?_ _ | with_reducible refine obj_drew ?_ | exact hbr_2)
  · rfl
  · skip
    repeat (first | with_reducible exact hfw_2 | with_reducible refine Fr.alloc ?_ _ | (with_reducible refine Fr.setCell ?_ ?_ _; rotate_left; (intro h; dsimp only at h; omega)) | with_reducible refine Fr.drew ?_ | exact hfw_2)


end Go.Proofs.Ytcncjghcnofioaa
