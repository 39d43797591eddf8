/- The walks of covenantref02's Add, Sub. The condition: numbers are of 64 bits. -/
import Derived.Test.YtcncjghcnofioaaRef4
namespace Go.Proofs.Ytcncjghcnofioaa
open Go.RowKit

theorem numV_ok {a b : V} (r : Int) (c : Bool) (h : (areB 1 a && areB 1 b) = true) (hn : (nullB a || nullB b) = false) : numV a b r c = if c = false then (zV, 61) else (intV r, 0) := by
  unfold numV; rw [h, hn, if_neg (by decide), if_neg (by decide)]
theorem okI_not {z : Int} (h : z < -9223372036854775808 ∨ 9223372036854775807 < z) : okI z = false := by
  unfold okI; rw [← Bool.decide_and]; apply decide_eq_false; omega
theorem okI_yes {z : Int} (h1 : -9223372036854775808 ≤ z) (h2 : z ≤ 9223372036854775807) : okI z = true := by
  unfold okI; rw [decide_eq_true h1, decide_eq_true h2]; rfl

set_option maxRecDepth 100000 in
set_option maxHeartbeats 4000000 in
theorem radd_any (a b : V) (ha : -9223372036854775808 ≤ a.n ∧ a.n ≤ 9223372036854775807) (hb : -9223372036854775808 ≤ b.n ∧ b.n ≤ 9223372036854775807) (w : World) :
    Calls Try.prog 41 #[vV a, vV b] w fun e w' => e = .returned (.tuple #[vV (numV a b (wrap64 (a.n + b.n)) (okI (a.n + b.n))).1, .int .i64 (numV a b (wrap64 (a.n + b.n)) (okI (a.n + b.n))).2]) ∧ Fr noB w w' := by
  have HB := Lib.hid (show ∀ W : World, Calls Try.prog 75 #[.agg #[.int .u8 a.k, .int .i64 a.n, .int .i64 a.hi, .string a.t], .agg #[.int .u8 b.k, .int .i64 b.n, .int .i64 b.hi, .string b.t]] W fun e w' => e = .returned (.tuple #[.bool (bothV a b).1, .int .i64 (bothV a b).2]) ∧ Fr noB W w' from fun W => rboth_any a b W)
  have HI := Lib.hid (show ∀ W : World, Calls Try.prog 34 #[.int .i64 (wrap64 (a.n + b.n))] W fun e w' => e = .returned (.agg #[.int .u8 1, .int .i64 (wrap64 (a.n + b.n)), .int .i64 0, .string ⟨#[]⟩]) ∧ Fr noB W w' from fun W => rint_any _ W)
  unfold vV
  go_enter Try.func41, Try.ntmps41
  go_upto_region 1 with fail
  have hfw_0 := Fr.refl noB w
  have hl := hfw_0.size
  refine wp_world (fun W => Fr noB w W ∧ Bx W w.heap.size a ∧ Bx W (w.heap.size + 1) b ∧ Bl W (w.heap.size + 2) 0 0 0) ?_ ?_
  · refine ⟨?_, ?_, ?_, ?_⟩ <;> ((first | unfold Bx | unfold Bl | skip); repeat (first | with_reducible exact hfw_0 | with_reducible refine Fr.alloc ?_ _ | (with_reducible refine Fr.setCell ?_ ?_ _; rotate_left; (intro h; dsimp only at h; omega)) | with_reducible refine Fr.drew ?_ | (with_reducible refine obj_alloc_at ?_; simp; done) | (with_reducible apply obj_put4; omega) | (with_reducible apply obj_put1; omega) | (with_reducible refine obj_setCell_other ?_ _ _ ?_; rotate_left; (dsimp only; omega)) | with_reducible refine obj_alloc ?_ _ | with_reducible refine obj_drew ?_ | exact hfw_0))
  clear hl hfw_0
  rintro w1 ⟨hfw_1, hba_1, hbb_1, hbr_1⟩
  obtain ⟨ca_0, ca_1, ca_2, ca_3, za⟩ := hba_1.cs
  obtain ⟨cb_0, cb_1, cb_2, cb_3, zb⟩ := hbb_1.cs
  obtain ⟨cr_0, cr_1, cr_2, cr_3, zr⟩ := hbr_1.cs
  cases h1 : (areB 1 a && areB 1 b)
  · have bl : bothV a b = (false, 60) := by unfold bothV; rw [if_pos h1]
    rw [bl] at HB
    dsimp only at HB
    have HR := Lib.hid (show numV a b (wrap64 (a.n + b.n)) (okI (a.n + b.n)) = (zV, 60) by unfold numV; rw [if_pos h1])
    clear h1 bl ha hb
    go_wp2_with fail
    refine (HB.out _).mono ?_
    rintro e w2 ⟨rfl, hf2⟩
    have la := hba_1.lt
    have lb := hbb_1.lt
    have lr := hbr_1.lt
    have hl := hfw_1.size
    have hB : Bx w2 w.heap.size a ∧ Bx w2 (w.heap.size + 1) b ∧ Bl w2 (w.heap.size + 2) 0 0 0 := by
      refine ⟨?_, ?_, ?_⟩ <;> ((first | unfold Bx | unfold Bl | skip); refine hf2.obj (noB_not _) ?_; repeat (first | with_reducible exact hba_1.raw | with_reducible exact hbb_1.raw | with_reducible exact hbr_1.raw | (with_reducible refine obj_alloc_at ?_; simp; done) | (with_reducible apply obj_put4; omega) | (with_reducible apply obj_put1; omega) | (with_reducible refine obj_setCell_other ?_ _ _ ?_; rotate_left; (dsimp only; omega)) | with_reducible refine obj_alloc ?_ _ | with_reducible refine obj_drew ?_))
    obtain ⟨hba_2, hbb_2, hbr_2⟩ := hB
    have hfw_2 : Fr noB w w2 := by
      refine Fr.transN ?_ hf2
      repeat (first | with_reducible exact hfw_1 | with_reducible refine Fr.alloc ?_ _ | (with_reducible refine Fr.setCell ?_ ?_ _; rotate_left; (intro h; dsimp only at h; omega)) | with_reducible refine Fr.drew ?_ | exact hfw_1)
    clear hba_1 hbb_1 hbr_1 la lb lr hl ca_0 ca_1 ca_2 ca_3 za cb_0 cb_1 cb_2 cb_3 zb cr_0 cr_1 cr_2 cr_3 zr hf2 hfw_1
    obtain ⟨ca_0, ca_1, ca_2, ca_3, za⟩ := hba_2.cs
    obtain ⟨cb_0, cb_1, cb_2, cb_3, zb⟩ := hbb_2.cs
    obtain ⟨cr_0, cr_1, cr_2, cr_3, zr⟩ := hbr_2.cs
    go_wp2_with fail
    have la := hba_2.lt
    have lb := hbb_2.lt
    have lr := hbr_2.lt
    have hl := hfw_2.size
    refine bodyPost_ret (ret_val2 rfl _ _ (w.heap.size + 2) zV _ rfl rfl ?_) rfl ⟨?_, ?_⟩
    · show _ = some (Obj.cells #[.int .u8 0, .int .i64 0, .int .i64 0, .string ⟨#[]⟩] 23 (0, 0))
      repeat (first | with_reducible exact hbr_2.raw | (with_reducible refine obj_alloc_at ?_; simp; done) | (with_reducible apply obj_put4; omega) | (with_reducible apply obj_put1; omega) | (with_reducible refine obj_setCell_other ?_ _ _ ?_; rotate_left; (dsimp only; omega)) | with_reducible refine obj_alloc ?_ _ | with_reducible refine obj_drew ?_ | exact hbr_2.raw)
    · rw [HR.out] <;> rfl
    · skip
      repeat (first | with_reducible exact hfw_2 | with_reducible refine Fr.alloc ?_ _ | (with_reducible refine Fr.setCell ?_ ?_ _; rotate_left; (intro h; dsimp only at h; omega)) | with_reducible refine Fr.drew ?_ | exact hfw_2)
  · cases hn : (nullB a || nullB b)
    · have bl : bothV a b = (false, 0) := by unfold bothV; rw [if_neg (by rw [h1]; decide), hn]
      rw [bl] at HB
      dsimp only at HB
      have HR0 := numV_ok (wrap64 (a.n + b.n)) (okI (a.n + b.n)) h1 hn
      clear h1 hn bl
      have hw1 : 0 < b.n → wrap64 (9223372036854775807 - b.n) = 9223372036854775807 - b.n := fun h => by unfold wrap64; omega
      have hw2 : b.n < 0 → wrap64 (-9223372036854775808 - b.n) = -9223372036854775808 - b.n := fun h => by unfold wrap64; omega
      by_cases p1 : 0 < b.n
      · have hw := hw1 p1
        have p3 : ¬ (b.n < 0) := by omega
        clear hw1 hw2
        by_cases q : wrap64 (9223372036854775807 - b.n) < a.n
        · have q0 := q; rw [hw] at q0
          have HR := Lib.hid (show numV a b (wrap64 (a.n + b.n)) (okI (a.n + b.n)) = (zV, 61) by rw [HR0, okI_not (by omega)]; rfl)
          clear HR0 ha hb q0 hw
          go_wp2_with fail
          refine (HB.out _).mono ?_
          rintro e w2 ⟨rfl, hf2⟩
          have la := hba_1.lt
          have lb := hbb_1.lt
          have lr := hbr_1.lt
          have hl := hfw_1.size
          have hB : Bx w2 w.heap.size a ∧ Bx w2 (w.heap.size + 1) b ∧ Bl w2 (w.heap.size + 2) 0 0 0 := by
            refine ⟨?_, ?_, ?_⟩ <;> ((first | unfold Bx | unfold Bl | skip); refine hf2.obj (noB_not _) ?_; repeat (first | with_reducible exact hba_1.raw | with_reducible exact hbb_1.raw | with_reducible exact hbr_1.raw | (with_reducible refine obj_alloc_at ?_; simp; done) | (with_reducible apply obj_put4; omega) | (with_reducible apply obj_put1; omega) | (with_reducible refine obj_setCell_other ?_ _ _ ?_; rotate_left; (dsimp only; omega)) | with_reducible refine obj_alloc ?_ _ | with_reducible refine obj_drew ?_))
          obtain ⟨hba_2, hbb_2, hbr_2⟩ := hB
          have hfw_2 : Fr noB w w2 := by
            refine Fr.transN ?_ hf2
            repeat (first | with_reducible exact hfw_1 | with_reducible refine Fr.alloc ?_ _ | (with_reducible refine Fr.setCell ?_ ?_ _; rotate_left; (intro h; dsimp only at h; omega)) | with_reducible refine Fr.drew ?_ | exact hfw_1)
          clear hba_1 hbb_1 hbr_1 la lb lr hl ca_0 ca_1 ca_2 ca_3 za cb_0 cb_1 cb_2 cb_3 zb cr_0 cr_1 cr_2 cr_3 zr hf2 hfw_1
          obtain ⟨ca_0, ca_1, ca_2, ca_3, za⟩ := hba_2.cs
          obtain ⟨cb_0, cb_1, cb_2, cb_3, zb⟩ := hbb_2.cs
          obtain ⟨cr_0, cr_1, cr_2, cr_3, zr⟩ := hbr_2.cs
          go_wp2_with fail
          have la := hba_2.lt
          have lb := hbb_2.lt
          have lr := hbr_2.lt
          have hl := hfw_2.size
          refine bodyPost_ret (ret_val2 rfl _ _ (w.heap.size + 2) zV _ rfl rfl ?_) rfl ⟨?_, ?_⟩
          · show _ = some (Obj.cells #[.int .u8 0, .int .i64 0, .int .i64 0, .string ⟨#[]⟩] 23 (0, 0))
            repeat (first | with_reducible exact hbr_2.raw | (with_reducible refine obj_alloc_at ?_; simp; done) | (with_reducible apply obj_put4; omega) | (with_reducible apply obj_put1; omega) | (with_reducible refine obj_setCell_other ?_ _ _ ?_; rotate_left; (dsimp only; omega)) | with_reducible refine obj_alloc ?_ _ | with_reducible refine obj_drew ?_ | exact hbr_2.raw)
          · rw [HR.out] <;> rfl
          · skip
            repeat (first | with_reducible exact hfw_2 | with_reducible refine Fr.alloc ?_ _ | (with_reducible refine Fr.setCell ?_ ?_ _; rotate_left; (intro h; dsimp only at h; omega)) | with_reducible refine Fr.drew ?_ | exact hfw_2)
        · have q0 := q; rw [hw] at q0
          have HR := Lib.hid (show numV a b (wrap64 (a.n + b.n)) (okI (a.n + b.n)) = (intV (wrap64 (a.n + b.n)), 0) by rw [HR0, okI_yes (by omega) (by omega)]; rfl)
          clear HR0 ha hb q0 hw
          go_wp2_with fail
          refine (HB.out _).mono ?_
          rintro e w2 ⟨rfl, hf2⟩
          have la := hba_1.lt
          have lb := hbb_1.lt
          have lr := hbr_1.lt
          have hl := hfw_1.size
          have hB : Bx w2 w.heap.size a ∧ Bx w2 (w.heap.size + 1) b ∧ Bl w2 (w.heap.size + 2) 0 0 0 := by
            refine ⟨?_, ?_, ?_⟩ <;> ((first | unfold Bx | unfold Bl | skip); refine hf2.obj (noB_not _) ?_; repeat (first | with_reducible exact hba_1.raw | with_reducible exact hbb_1.raw | with_reducible exact hbr_1.raw | (with_reducible refine obj_alloc_at ?_; simp; done) | (with_reducible apply obj_put4; omega) | (with_reducible apply obj_put1; omega) | (with_reducible refine obj_setCell_other ?_ _ _ ?_; rotate_left; (dsimp only; omega)) | with_reducible refine obj_alloc ?_ _ | with_reducible refine obj_drew ?_))
          obtain ⟨hba_2, hbb_2, hbr_2⟩ := hB
          have hfw_2 : Fr noB w w2 := by
            refine Fr.transN ?_ hf2
            repeat (first | with_reducible exact hfw_1 | with_reducible refine Fr.alloc ?_ _ | (with_reducible refine Fr.setCell ?_ ?_ _; rotate_left; (intro h; dsimp only at h; omega)) | with_reducible refine Fr.drew ?_ | exact hfw_1)
          clear hba_1 hbb_1 hbr_1 la lb lr hl ca_0 ca_1 ca_2 ca_3 za cb_0 cb_1 cb_2 cb_3 zb cr_0 cr_1 cr_2 cr_3 zr hf2 hfw_1
          obtain ⟨ca_0, ca_1, ca_2, ca_3, za⟩ := hba_2.cs
          obtain ⟨cb_0, cb_1, cb_2, cb_3, zb⟩ := hbb_2.cs
          obtain ⟨cr_0, cr_1, cr_2, cr_3, zr⟩ := hbr_2.cs
          go_wp2_with fail
          refine (HI.out _).mono ?_
          rintro e w3 ⟨rfl, hf3⟩
          have la := hba_2.lt
          have lb := hbb_2.lt
          have lr := hbr_2.lt
          have hl := hfw_2.size
          have hB : Bx w3 w.heap.size a ∧ Bx w3 (w.heap.size + 1) b ∧ Bl w3 (w.heap.size + 2) 0 0 0 := by
            refine ⟨?_, ?_, ?_⟩ <;> ((first | unfold Bx | unfold Bl | skip); refine hf3.obj (noB_not _) ?_; repeat (first | with_reducible exact hba_2.raw | with_reducible exact hbb_2.raw | with_reducible exact hbr_2.raw | (with_reducible refine obj_alloc_at ?_; simp; done) | (with_reducible apply obj_put4; omega) | (with_reducible apply obj_put1; omega) | (with_reducible refine obj_setCell_other ?_ _ _ ?_; rotate_left; (dsimp only; omega)) | with_reducible refine obj_alloc ?_ _ | with_reducible refine obj_drew ?_))
          obtain ⟨hba_3, hbb_3, hbr_3⟩ := hB
          have hfw_3 : Fr noB w w3 := by
            refine Fr.transN ?_ hf3
            repeat (first | with_reducible exact hfw_2 | with_reducible refine Fr.alloc ?_ _ | (with_reducible refine Fr.setCell ?_ ?_ _; rotate_left; (intro h; dsimp only at h; omega)) | with_reducible refine Fr.drew ?_ | exact hfw_2)
          clear hba_2 hbb_2 hbr_2 la lb lr hl ca_0 ca_1 ca_2 ca_3 za cb_0 cb_1 cb_2 cb_3 zb cr_0 cr_1 cr_2 cr_3 zr hf3 hfw_2
          obtain ⟨ca_0, ca_1, ca_2, ca_3, za⟩ := hba_3.cs
          obtain ⟨cb_0, cb_1, cb_2, cb_3, zb⟩ := hbb_3.cs
          obtain ⟨cr_0, cr_1, cr_2, cr_3, zr⟩ := hbr_3.cs
          go_wp2_with fail
          have la := hba_3.lt
          have lb := hbb_3.lt
          have lr := hbr_3.lt
          have hl := hfw_3.size
          refine bodyPost_ret (ret_val2 rfl _ _ (w.heap.size + 2) (intV (wrap64 (a.n + b.n))) _ rfl rfl ?_) rfl ⟨?_, ?_⟩
          · show _ = some (Obj.cells #[.int .u8 1, .int .i64 (wrap64 (a.n + b.n)), .int .i64 0, .string ⟨#[]⟩] 23 (0, 0))
            repeat (first | with_reducible exact hbr_3.raw | (with_reducible refine obj_alloc_at ?_; simp; done) | (with_reducible apply obj_put4; omega) | (with_reducible apply obj_put1; omega) | (with_reducible refine obj_setCell_other ?_ _ _ ?_; rotate_left; (dsimp only; omega)) | with_reducible refine obj_alloc ?_ _ | with_reducible refine obj_drew ?_ | exact hbr_3.raw)
          · rw [HR.out] <;> rfl
          · skip
            repeat (first | with_reducible exact hfw_3 | with_reducible refine Fr.alloc ?_ _ | (with_reducible refine Fr.setCell ?_ ?_ _; rotate_left; (intro h; dsimp only at h; omega)) | with_reducible refine Fr.drew ?_ | exact hfw_3)
      · by_cases p2 : b.n < 0
        · have hw := hw2 p2
          clear hw1 hw2
          by_cases q : a.n < wrap64 (-9223372036854775808 - b.n)
          · have q0 := q; rw [hw] at q0
            have HR := Lib.hid (show numV a b (wrap64 (a.n + b.n)) (okI (a.n + b.n)) = (zV, 61) by rw [HR0, okI_not (by omega)]; rfl)
            clear HR0 ha hb q0 hw
            go_wp2_with fail
            refine (HB.out _).mono ?_
            rintro e w2 ⟨rfl, hf2⟩
            have la := hba_1.lt
            have lb := hbb_1.lt
            have lr := hbr_1.lt
            have hl := hfw_1.size
            have hB : Bx w2 w.heap.size a ∧ Bx w2 (w.heap.size + 1) b ∧ Bl w2 (w.heap.size + 2) 0 0 0 := by
              refine ⟨?_, ?_, ?_⟩ <;> ((first | unfold Bx | unfold Bl | skip); refine hf2.obj (noB_not _) ?_; repeat (first | with_reducible exact hba_1.raw | with_reducible exact hbb_1.raw | with_reducible exact hbr_1.raw | (with_reducible refine obj_alloc_at ?_; simp; done) | (with_reducible apply obj_put4; omega) | (with_reducible apply obj_put1; omega) | (with_reducible refine obj_setCell_other ?_ _ _ ?_; rotate_left; (dsimp only; omega)) | with_reducible refine obj_alloc ?_ _ | with_reducible refine obj_drew ?_))
            obtain ⟨hba_2, hbb_2, hbr_2⟩ := hB
            have hfw_2 : Fr noB w w2 := by
              refine Fr.transN ?_ hf2
              repeat (first | with_reducible exact hfw_1 | with_reducible refine Fr.alloc ?_ _ | (with_reducible refine Fr.setCell ?_ ?_ _; rotate_left; (intro h; dsimp only at h; omega)) | with_reducible refine Fr.drew ?_ | exact hfw_1)
            clear hba_1 hbb_1 hbr_1 la lb lr hl ca_0 ca_1 ca_2 ca_3 za cb_0 cb_1 cb_2 cb_3 zb cr_0 cr_1 cr_2 cr_3 zr hf2 hfw_1
            obtain ⟨ca_0, ca_1, ca_2, ca_3, za⟩ := hba_2.cs
            obtain ⟨cb_0, cb_1, cb_2, cb_3, zb⟩ := hbb_2.cs
            obtain ⟨cr_0, cr_1, cr_2, cr_3, zr⟩ := hbr_2.cs
            go_wp2_with fail
            have la := hba_2.lt
            have lb := hbb_2.lt
            have lr := hbr_2.lt
            have hl := hfw_2.size
            refine bodyPost_ret (ret_val2 rfl _ _ (w.heap.size + 2) zV _ rfl rfl ?_) rfl ⟨?_, ?_⟩
            · show _ = some (Obj.cells #[.int .u8 0, .int .i64 0, .int .i64 0, .string ⟨#[]⟩] 23 (0, 0))
              repeat (first | with_reducible exact hbr_2.raw | (with_reducible refine obj_alloc_at ?_; simp; done) | (with_reducible apply obj_put4; omega) | (with_reducible apply obj_put1; omega) | (with_reducible refine obj_setCell_other ?_ _ _ ?_; rotate_left; (dsimp only; omega)) | with_reducible refine obj_alloc ?_ _ | with_reducible refine obj_drew ?_ | exact hbr_2.raw)
            · rw [HR.out] <;> rfl
            · skip
              repeat (first | with_reducible exact hfw_2 | with_reducible refine Fr.alloc ?_ _ | (with_reducible refine Fr.setCell ?_ ?_ _; rotate_left; (intro h; dsimp only at h; omega)) | with_reducible refine Fr.drew ?_ | exact hfw_2)
          · have q0 := q; rw [hw] at q0
            have HR := Lib.hid (show numV a b (wrap64 (a.n + b.n)) (okI (a.n + b.n)) = (intV (wrap64 (a.n + b.n)), 0) by rw [HR0, okI_yes (by omega) (by omega)]; rfl)
            clear HR0 ha hb q0 hw
            go_wp2_with fail
            refine (HB.out _).mono ?_
            rintro e w2 ⟨rfl, hf2⟩
            have la := hba_1.lt
            have lb := hbb_1.lt
            have lr := hbr_1.lt
            have hl := hfw_1.size
            have hB : Bx w2 w.heap.size a ∧ Bx w2 (w.heap.size + 1) b ∧ Bl w2 (w.heap.size + 2) 0 0 0 := by
              refine ⟨?_, ?_, ?_⟩ <;> ((first | unfold Bx | unfold Bl | skip); refine hf2.obj (noB_not _) ?_; repeat (first | with_reducible exact hba_1.raw | with_reducible exact hbb_1.raw | with_reducible exact hbr_1.raw | (with_reducible refine obj_alloc_at ?_; simp; done) | (with_reducible apply obj_put4; omega) | (with_reducible apply obj_put1; omega) | (with_reducible refine obj_setCell_other ?_ _ _ ?_; rotate_left; (dsimp only; omega)) | with_reducible refine obj_alloc ?_ _ | with_reducible refine obj_drew ?_))
            obtain ⟨hba_2, hbb_2, hbr_2⟩ := hB
            have hfw_2 : Fr noB w w2 := by
              refine Fr.transN ?_ hf2
              repeat (first | with_reducible exact hfw_1 | with_reducible refine Fr.alloc ?_ _ | (with_reducible refine Fr.setCell ?_ ?_ _; rotate_left; (intro h; dsimp only at h; omega)) | with_reducible refine Fr.drew ?_ | exact hfw_1)
            clear hba_1 hbb_1 hbr_1 la lb lr hl ca_0 ca_1 ca_2 ca_3 za cb_0 cb_1 cb_2 cb_3 zb cr_0 cr_1 cr_2 cr_3 zr hf2 hfw_1
            obtain ⟨ca_0, ca_1, ca_2, ca_3, za⟩ := hba_2.cs
            obtain ⟨cb_0, cb_1, cb_2, cb_3, zb⟩ := hbb_2.cs
            obtain ⟨cr_0, cr_1, cr_2, cr_3, zr⟩ := hbr_2.cs
            go_wp2_with fail
            refine (HI.out _).mono ?_
            rintro e w3 ⟨rfl, hf3⟩
            have la := hba_2.lt
            have lb := hbb_2.lt
            have lr := hbr_2.lt
            have hl := hfw_2.size
            have hB : Bx w3 w.heap.size a ∧ Bx w3 (w.heap.size + 1) b ∧ Bl w3 (w.heap.size + 2) 0 0 0 := by
              refine ⟨?_, ?_, ?_⟩ <;> ((first | unfold Bx | unfold Bl | skip); refine hf3.obj (noB_not _) ?_; repeat (first | with_reducible exact hba_2.raw | with_reducible exact hbb_2.raw | with_reducible exact hbr_2.raw | (with_reducible refine obj_alloc_at ?_; simp; done) | (with_reducible apply obj_put4; omega) | (with_reducible apply obj_put1; omega) | (with_reducible refine obj_setCell_other ?_ _ _ ?_; rotate_left; (dsimp only; omega)) | with_reducible refine obj_alloc ?_ _ | with_reducible refine obj_drew ?_))
            obtain ⟨hba_3, hbb_3, hbr_3⟩ := hB
            have hfw_3 : Fr noB w w3 := by
              refine Fr.transN ?_ hf3
              repeat (first | with_reducible exact hfw_2 | with_reducible refine Fr.alloc ?_ _ | (with_reducible refine Fr.setCell ?_ ?_ _; rotate_left; (intro h; dsimp only at h; omega)) | with_reducible refine Fr.drew ?_ | exact hfw_2)
            clear hba_2 hbb_2 hbr_2 la lb lr hl ca_0 ca_1 ca_2 ca_3 za cb_0 cb_1 cb_2 cb_3 zb cr_0 cr_1 cr_2 cr_3 zr hf3 hfw_2
            obtain ⟨ca_0, ca_1, ca_2, ca_3, za⟩ := hba_3.cs
            obtain ⟨cb_0, cb_1, cb_2, cb_3, zb⟩ := hbb_3.cs
            obtain ⟨cr_0, cr_1, cr_2, cr_3, zr⟩ := hbr_3.cs
            go_wp2_with fail
            have la := hba_3.lt
            have lb := hbb_3.lt
            have lr := hbr_3.lt
            have hl := hfw_3.size
            refine bodyPost_ret (ret_val2 rfl _ _ (w.heap.size + 2) (intV (wrap64 (a.n + b.n))) _ rfl rfl ?_) rfl ⟨?_, ?_⟩
            · show _ = some (Obj.cells #[.int .u8 1, .int .i64 (wrap64 (a.n + b.n)), .int .i64 0, .string ⟨#[]⟩] 23 (0, 0))
              repeat (first | with_reducible exact hbr_3.raw | (with_reducible refine obj_alloc_at ?_; simp; done) | (with_reducible apply obj_put4; omega) | (with_reducible apply obj_put1; omega) | (with_reducible refine obj_setCell_other ?_ _ _ ?_; rotate_left; (dsimp only; omega)) | with_reducible refine obj_alloc ?_ _ | with_reducible refine obj_drew ?_ | exact hbr_3.raw)
            · rw [HR.out] <;> rfl
            · skip
              repeat (first | with_reducible exact hfw_3 | with_reducible refine Fr.alloc ?_ _ | (with_reducible refine Fr.setCell ?_ ?_ _; rotate_left; (intro h; dsimp only at h; omega)) | with_reducible refine Fr.drew ?_ | exact hfw_3)
        · have HR := Lib.hid (show numV a b (wrap64 (a.n + b.n)) (okI (a.n + b.n)) = (intV (wrap64 (a.n + b.n)), 0) by rw [HR0, okI_yes (by omega) (by omega)]; rfl)
          clear HR0 ha hb hw1 hw2
          go_wp2_with fail
          refine (HB.out _).mono ?_
          rintro e w2 ⟨rfl, hf2⟩
          have la := hba_1.lt
          have lb := hbb_1.lt
          have lr := hbr_1.lt
          have hl := hfw_1.size
          have hB : Bx w2 w.heap.size a ∧ Bx w2 (w.heap.size + 1) b ∧ Bl w2 (w.heap.size + 2) 0 0 0 := by
            refine ⟨?_, ?_, ?_⟩ <;> ((first | unfold Bx | unfold Bl | skip); refine hf2.obj (noB_not _) ?_; repeat (first | with_reducible exact hba_1.raw | with_reducible exact hbb_1.raw | with_reducible exact hbr_1.raw | (with_reducible refine obj_alloc_at ?_; simp; done) | (with_reducible apply obj_put4; omega) | (with_reducible apply obj_put1; omega) | (with_reducible refine obj_setCell_other ?_ _ _ ?_; rotate_left; (dsimp only; omega)) | with_reducible refine obj_alloc ?_ _ | with_reducible refine obj_drew ?_))
          obtain ⟨hba_2, hbb_2, hbr_2⟩ := hB
          have hfw_2 : Fr noB w w2 := by
            refine Fr.transN ?_ hf2
            repeat (first | with_reducible exact hfw_1 | with_reducible refine Fr.alloc ?_ _ | (with_reducible refine Fr.setCell ?_ ?_ _; rotate_left; (intro h; dsimp only at h; omega)) | with_reducible refine Fr.drew ?_ | exact hfw_1)
          clear hba_1 hbb_1 hbr_1 la lb lr hl ca_0 ca_1 ca_2 ca_3 za cb_0 cb_1 cb_2 cb_3 zb cr_0 cr_1 cr_2 cr_3 zr hf2 hfw_1
          obtain ⟨ca_0, ca_1, ca_2, ca_3, za⟩ := hba_2.cs
          obtain ⟨cb_0, cb_1, cb_2, cb_3, zb⟩ := hbb_2.cs
          obtain ⟨cr_0, cr_1, cr_2, cr_3, zr⟩ := hbr_2.cs
          go_wp2_with fail
          refine (HI.out _).mono ?_
          rintro e w3 ⟨rfl, hf3⟩
          have la := hba_2.lt
          have lb := hbb_2.lt
          have lr := hbr_2.lt
          have hl := hfw_2.size
          have hB : Bx w3 w.heap.size a ∧ Bx w3 (w.heap.size + 1) b ∧ Bl w3 (w.heap.size + 2) 0 0 0 := by
            refine ⟨?_, ?_, ?_⟩ <;> ((first | unfold Bx | unfold Bl | skip); refine hf3.obj (noB_not _) ?_; repeat (first | with_reducible exact hba_2.raw | with_reducible exact hbb_2.raw | with_reducible exact hbr_2.raw | (with_reducible refine obj_alloc_at ?_; simp; done) | (with_reducible apply obj_put4; omega) | (with_reducible apply obj_put1; omega) | (with_reducible refine obj_setCell_other ?_ _ _ ?_; rotate_left; (dsimp only; omega)) | with_reducible refine obj_alloc ?_ _ | with_reducible refine obj_drew ?_))
          obtain ⟨hba_3, hbb_3, hbr_3⟩ := hB
          have hfw_3 : Fr noB w w3 := by
            refine Fr.transN ?_ hf3
            repeat (first | with_reducible exact hfw_2 | with_reducible refine Fr.alloc ?_ _ | (with_reducible refine Fr.setCell ?_ ?_ _; rotate_left; (intro h; dsimp only at h; omega)) | with_reducible refine Fr.drew ?_ | exact hfw_2)
          clear hba_2 hbb_2 hbr_2 la lb lr hl ca_0 ca_1 ca_2 ca_3 za cb_0 cb_1 cb_2 cb_3 zb cr_0 cr_1 cr_2 cr_3 zr hf3 hfw_2
          obtain ⟨ca_0, ca_1, ca_2, ca_3, za⟩ := hba_3.cs
          obtain ⟨cb_0, cb_1, cb_2, cb_3, zb⟩ := hbb_3.cs
          obtain ⟨cr_0, cr_1, cr_2, cr_3, zr⟩ := hbr_3.cs
          go_wp2_with fail
          have la := hba_3.lt
          have lb := hbb_3.lt
          have lr := hbr_3.lt
          have hl := hfw_3.size
          refine bodyPost_ret (ret_val2 rfl _ _ (w.heap.size + 2) (intV (wrap64 (a.n + b.n))) _ rfl rfl ?_) rfl ⟨?_, ?_⟩
          · show _ = some (Obj.cells #[.int .u8 1, .int .i64 (wrap64 (a.n + b.n)), .int .i64 0, .string ⟨#[]⟩] 23 (0, 0))
            repeat (first | with_reducible exact hbr_3.raw | (with_reducible refine obj_alloc_at ?_; simp; done) | (with_reducible apply obj_put4; omega) | (with_reducible apply obj_put1; omega) | (with_reducible refine obj_setCell_other ?_ _ _ ?_; rotate_left; (dsimp only; omega)) | with_reducible refine obj_alloc ?_ _ | with_reducible refine obj_drew ?_ | exact hbr_3.raw)
          · rw [HR.out] <;> rfl
          · skip
            repeat (first | with_reducible exact hfw_3 | with_reducible refine Fr.alloc ?_ _ | (with_reducible refine Fr.setCell ?_ ?_ _; rotate_left; (intro h; dsimp only at h; omega)) | with_reducible refine Fr.drew ?_ | exact hfw_3)
    · have bl : bothV a b = (true, 0) := by unfold bothV; rw [if_neg (by rw [h1]; decide), hn]
      rw [bl] at HB
      dsimp only at HB
      have HR := Lib.hid (show numV a b (wrap64 (a.n + b.n)) (okI (a.n + b.n)) = (zV, 0) by unfold numV; rw [if_neg (by rw [h1]; decide), if_pos hn])
      clear h1 hn bl ha hb
      go_wp2_with fail
      refine (HB.out _).mono ?_
      rintro e w2 ⟨rfl, hf2⟩
      have la := hba_1.lt
      have lb := hbb_1.lt
      have lr := hbr_1.lt
      have hl := hfw_1.size
      have hB : Bx w2 w.heap.size a ∧ Bx w2 (w.heap.size + 1) b ∧ Bl w2 (w.heap.size + 2) 0 0 0 := by
        refine ⟨?_, ?_, ?_⟩ <;> ((first | unfold Bx | unfold Bl | skip); refine hf2.obj (noB_not _) ?_; repeat (first | with_reducible exact hba_1.raw | with_reducible exact hbb_1.raw | with_reducible exact hbr_1.raw | (with_reducible refine obj_alloc_at ?_; simp; done) | (with_reducible apply obj_put4; omega) | (with_reducible apply obj_put1; omega) | (with_reducible refine obj_setCell_other ?_ _ _ ?_; rotate_left; (dsimp only; omega)) | with_reducible refine obj_alloc ?_ _ | with_reducible refine obj_drew ?_))
      obtain ⟨hba_2, hbb_2, hbr_2⟩ := hB
      have hfw_2 : Fr noB w w2 := by
        refine Fr.transN ?_ hf2
        repeat (first | with_reducible exact hfw_1 | with_reducible refine Fr.alloc ?_ _ | (with_reducible refine Fr.setCell ?_ ?_ _; rotate_left; (intro h; dsimp only at h; omega)) | with_reducible refine Fr.drew ?_ | exact hfw_1)
      clear hba_1 hbb_1 hbr_1 la lb lr hl ca_0 ca_1 ca_2 ca_3 za cb_0 cb_1 cb_2 cb_3 zb cr_0 cr_1 cr_2 cr_3 zr hf2 hfw_1
      obtain ⟨ca_0, ca_1, ca_2, ca_3, za⟩ := hba_2.cs
      obtain ⟨cb_0, cb_1, cb_2, cb_3, zb⟩ := hbb_2.cs
      obtain ⟨cr_0, cr_1, cr_2, cr_3, zr⟩ := hbr_2.cs
      go_wp2_with fail
      have la := hba_2.lt
      have lb := hbb_2.lt
      have lr := hbr_2.lt
      have hl := hfw_2.size
      refine bodyPost_ret (ret_val2 rfl _ _ (w.heap.size + 2) zV _ rfl rfl ?_) rfl ⟨?_, ?_⟩
      · show _ = some (Obj.cells #[.int .u8 0, .int .i64 0, .int .i64 0, .string ⟨#[]⟩] 23 (0, 0))
        repeat (first | with_reducible exact hbr_2.raw | (with_reducible refine obj_alloc_at ?_; simp; done) | (with_reducible apply obj_put4; omega) | (with_reducible apply obj_put1; omega) | (with_reducible refine obj_setCell_other ?_ _ _ ?_; rotate_left; (dsimp only; omega)) | with_reducible refine obj_alloc ?_ _ | with_reducible refine obj_drew ?_ | exact hbr_2.raw)
      · rw [HR.out] <;> rfl
      · skip
        repeat (first | with_reducible exact hfw_2 | with_reducible refine Fr.alloc ?_ _ | (with_reducible refine Fr.setCell ?_ ?_ _; rotate_left; (intro h; dsimp only at h; omega)) | with_reducible refine Fr.drew ?_ | exact hfw_2)

set_option maxRecDepth 100000 in
set_option maxHeartbeats 4000000 in
theorem rsub_any (a b : V) (ha : -9223372036854775808 ≤ a.n ∧ a.n ≤ 9223372036854775807) (hb : -9223372036854775808 ≤ b.n ∧ b.n ≤ 9223372036854775807) (w : World) :
    Calls Try.prog 42 #[vV a, vV b] w fun e w' => e = .returned (.tuple #[vV (numV a b (wrap64 (a.n - b.n)) (okI (a.n - b.n))).1, .int .i64 (numV a b (wrap64 (a.n - b.n)) (okI (a.n - b.n))).2]) ∧ Fr noB w w' := by
  have HB := Lib.hid (show ∀ W : World, Calls Try.prog 75 #[.agg #[.int .u8 a.k, .int .i64 a.n, .int .i64 a.hi, .string a.t], .agg #[.int .u8 b.k, .int .i64 b.n, .int .i64 b.hi, .string b.t]] W fun e w' => e = .returned (.tuple #[.bool (bothV a b).1, .int .i64 (bothV a b).2]) ∧ Fr noB W w' from fun W => rboth_any a b W)
  have HI := Lib.hid (show ∀ W : World, Calls Try.prog 34 #[.int .i64 (wrap64 (a.n - b.n))] W fun e w' => e = .returned (.agg #[.int .u8 1, .int .i64 (wrap64 (a.n - b.n)), .int .i64 0, .string ⟨#[]⟩]) ∧ Fr noB W w' from fun W => rint_any _ W)
  unfold vV
  go_enter Try.func42, Try.ntmps42
  go_upto_region 1 with fail
  have hfw_0 := Fr.refl noB w
  have hl := hfw_0.size
  refine wp_world (fun W => Fr noB w W ∧ Bx W w.heap.size a ∧ Bx W (w.heap.size + 1) b ∧ Bl W (w.heap.size + 2) 0 0 0) ?_ ?_
  · refine ⟨?_, ?_, ?_, ?_⟩ <;> ((first | unfold Bx | unfold Bl | skip); repeat (first | with_reducible exact hfw_0 | with_reducible refine Fr.alloc ?_ _ | (with_reducible refine Fr.setCell ?_ ?_ _; rotate_left; (intro h; dsimp only at h; omega)) | with_reducible refine Fr.drew ?_ | (with_reducible refine obj_alloc_at ?_; simp; done) | (with_reducible apply obj_put4; omega) | (with_reducible apply obj_put1; omega) | (with_reducible refine obj_setCell_other ?_ _ _ ?_; rotate_left; (dsimp only; omega)) | with_reducible refine obj_alloc ?_ _ | with_reducible refine obj_drew ?_ | exact hfw_0))
  clear hl hfw_0
  rintro w1 ⟨hfw_1, hba_1, hbb_1, hbr_1⟩
  obtain ⟨ca_0, ca_1, ca_2, ca_3, za⟩ := hba_1.cs
  obtain ⟨cb_0, cb_1, cb_2, cb_3, zb⟩ := hbb_1.cs
  obtain ⟨cr_0, cr_1, cr_2, cr_3, zr⟩ := hbr_1.cs
  cases h1 : (areB 1 a && areB 1 b)
  · have bl : bothV a b = (false, 60) := by unfold bothV; rw [if_pos h1]
    rw [bl] at HB
    dsimp only at HB
    have HR := Lib.hid (show numV a b (wrap64 (a.n - b.n)) (okI (a.n - b.n)) = (zV, 60) by unfold numV; rw [if_pos h1])
    clear h1 bl ha hb
    go_wp2_with fail
    refine (HB.out _).mono ?_
    rintro e w2 ⟨rfl, hf2⟩
    have la := hba_1.lt
    have lb := hbb_1.lt
    have lr := hbr_1.lt
    have hl := hfw_1.size
    have hB : Bx w2 w.heap.size a ∧ Bx w2 (w.heap.size + 1) b ∧ Bl w2 (w.heap.size + 2) 0 0 0 := by
      refine ⟨?_, ?_, ?_⟩ <;> ((first | unfold Bx | unfold Bl | skip); refine hf2.obj (noB_not _) ?_; repeat (first | with_reducible exact hba_1.raw | with_reducible exact hbb_1.raw | with_reducible exact hbr_1.raw | (with_reducible refine obj_alloc_at ?_; simp; done) | (with_reducible apply obj_put4; omega) | (with_reducible apply obj_put1; omega) | (with_reducible refine obj_setCell_other ?_ _ _ ?_; rotate_left; (dsimp only; omega)) | with_reducible refine obj_alloc ?_ _ | with_reducible refine obj_drew ?_))
    obtain ⟨hba_2, hbb_2, hbr_2⟩ := hB
    have hfw_2 : Fr noB w w2 := by
      refine Fr.transN ?_ hf2
      repeat (first | with_reducible exact hfw_1 | with_reducible refine Fr.alloc ?_ _ | (with_reducible refine Fr.setCell ?_ ?_ _; rotate_left; (intro h; dsimp only at h; omega)) | with_reducible refine Fr.drew ?_ | exact hfw_1)
    clear hba_1 hbb_1 hbr_1 la lb lr hl ca_0 ca_1 ca_2 ca_3 za cb_0 cb_1 cb_2 cb_3 zb cr_0 cr_1 cr_2 cr_3 zr hf2 hfw_1
    obtain ⟨ca_0, ca_1, ca_2, ca_3, za⟩ := hba_2.cs
    obtain ⟨cb_0, cb_1, cb_2, cb_3, zb⟩ := hbb_2.cs
    obtain ⟨cr_0, cr_1, cr_2, cr_3, zr⟩ := hbr_2.cs
    go_wp2_with fail
    have la := hba_2.lt
    have lb := hbb_2.lt
    have lr := hbr_2.lt
    have hl := hfw_2.size
    refine bodyPost_ret (ret_val2 rfl _ _ (w.heap.size + 2) zV _ rfl rfl ?_) rfl ⟨?_, ?_⟩
    · show _ = some (Obj.cells #[.int .u8 0, .int .i64 0, .int .i64 0, .string ⟨#[]⟩] 23 (0, 0))
      repeat (first | with_reducible exact hbr_2.raw | (with_reducible refine obj_alloc_at ?_; simp; done) | (with_reducible apply obj_put4; omega) | (with_reducible apply obj_put1; omega) | (with_reducible refine obj_setCell_other ?_ _ _ ?_; rotate_left; (dsimp only; omega)) | with_reducible refine obj_alloc ?_ _ | with_reducible refine obj_drew ?_ | exact hbr_2.raw)
    · rw [HR.out] <;> rfl
    · skip
      repeat (first | with_reducible exact hfw_2 | with_reducible refine Fr.alloc ?_ _ | (with_reducible refine Fr.setCell ?_ ?_ _; rotate_left; (intro h; dsimp only at h; omega)) | with_reducible refine Fr.drew ?_ | exact hfw_2)
  · cases hn : (nullB a || nullB b)
    · have bl : bothV a b = (false, 0) := by unfold bothV; rw [if_neg (by rw [h1]; decide), hn]
      rw [bl] at HB
      dsimp only at HB
      have HR0 := numV_ok (wrap64 (a.n - b.n)) (okI (a.n - b.n)) h1 hn
      clear h1 hn bl
      have hw1 : b.n < 0 → wrap64 (9223372036854775807 + b.n) = 9223372036854775807 + b.n := fun h => by unfold wrap64; omega
      have hw2 : 0 < b.n → wrap64 (-9223372036854775808 + b.n) = -9223372036854775808 + b.n := fun h => by unfold wrap64; omega
      by_cases p1 : b.n < 0
      · have hw := hw1 p1
        have p3 : ¬ (0 < b.n) := by omega
        clear hw1 hw2
        by_cases q : wrap64 (9223372036854775807 + b.n) < a.n
        · have q0 := q; rw [hw] at q0
          have HR := Lib.hid (show numV a b (wrap64 (a.n - b.n)) (okI (a.n - b.n)) = (zV, 61) by rw [HR0, okI_not (by omega)]; rfl)
          clear HR0 ha hb q0 hw
          go_wp2_with fail
          refine (HB.out _).mono ?_
          rintro e w2 ⟨rfl, hf2⟩
          have la := hba_1.lt
          have lb := hbb_1.lt
          have lr := hbr_1.lt
          have hl := hfw_1.size
          have hB : Bx w2 w.heap.size a ∧ Bx w2 (w.heap.size + 1) b ∧ Bl w2 (w.heap.size + 2) 0 0 0 := by
            refine ⟨?_, ?_, ?_⟩ <;> ((first | unfold Bx | unfold Bl | skip); refine hf2.obj (noB_not _) ?_; repeat (first | with_reducible exact hba_1.raw | with_reducible exact hbb_1.raw | with_reducible exact hbr_1.raw | (with_reducible refine obj_alloc_at ?_; simp; done) | (with_reducible apply obj_put4; omega) | (with_reducible apply obj_put1; omega) | (with_reducible refine obj_setCell_other ?_ _ _ ?_; rotate_left; (dsimp only; omega)) | with_reducible refine obj_alloc ?_ _ | with_reducible refine obj_drew ?_))
          obtain ⟨hba_2, hbb_2, hbr_2⟩ := hB
          have hfw_2 : Fr noB w w2 := by
            refine Fr.transN ?_ hf2
            repeat (first | with_reducible exact hfw_1 | with_reducible refine Fr.alloc ?_ _ | (with_reducible refine Fr.setCell ?_ ?_ _; rotate_left; (intro h; dsimp only at h; omega)) | with_reducible refine Fr.drew ?_ | exact hfw_1)
          clear hba_1 hbb_1 hbr_1 la lb lr hl ca_0 ca_1 ca_2 ca_3 za cb_0 cb_1 cb_2 cb_3 zb cr_0 cr_1 cr_2 cr_3 zr hf2 hfw_1
          obtain ⟨ca_0, ca_1, ca_2, ca_3, za⟩ := hba_2.cs
          obtain ⟨cb_0, cb_1, cb_2, cb_3, zb⟩ := hbb_2.cs
          obtain ⟨cr_0, cr_1, cr_2, cr_3, zr⟩ := hbr_2.cs
          go_wp2_with fail
          have la := hba_2.lt
          have lb := hbb_2.lt
          have lr := hbr_2.lt
          have hl := hfw_2.size
          refine bodyPost_ret (ret_val2 rfl _ _ (w.heap.size + 2) zV _ rfl rfl ?_) rfl ⟨?_, ?_⟩
          · show _ = some (Obj.cells #[.int .u8 0, .int .i64 0, .int .i64 0, .string ⟨#[]⟩] 23 (0, 0))
            repeat (first | with_reducible exact hbr_2.raw | (with_reducible refine obj_alloc_at ?_; simp; done) | (with_reducible apply obj_put4; omega) | (with_reducible apply obj_put1; omega) | (with_reducible refine obj_setCell_other ?_ _ _ ?_; rotate_left; (dsimp only; omega)) | with_reducible refine obj_alloc ?_ _ | with_reducible refine obj_drew ?_ | exact hbr_2.raw)
          · rw [HR.out] <;> rfl
          · skip
            repeat (first | with_reducible exact hfw_2 | with_reducible refine Fr.alloc ?_ _ | (with_reducible refine Fr.setCell ?_ ?_ _; rotate_left; (intro h; dsimp only at h; omega)) | with_reducible refine Fr.drew ?_ | exact hfw_2)
        · have q0 := q; rw [hw] at q0
          have HR := Lib.hid (show numV a b (wrap64 (a.n - b.n)) (okI (a.n - b.n)) = (intV (wrap64 (a.n - b.n)), 0) by rw [HR0, okI_yes (by omega) (by omega)]; rfl)
          clear HR0 ha hb q0 hw
          go_wp2_with fail
          refine (HB.out _).mono ?_
          rintro e w2 ⟨rfl, hf2⟩
          have la := hba_1.lt
          have lb := hbb_1.lt
          have lr := hbr_1.lt
          have hl := hfw_1.size
          have hB : Bx w2 w.heap.size a ∧ Bx w2 (w.heap.size + 1) b ∧ Bl w2 (w.heap.size + 2) 0 0 0 := by
            refine ⟨?_, ?_, ?_⟩ <;> ((first | unfold Bx | unfold Bl | skip); refine hf2.obj (noB_not _) ?_; repeat (first | with_reducible exact hba_1.raw | with_reducible exact hbb_1.raw | with_reducible exact hbr_1.raw | (with_reducible refine obj_alloc_at ?_; simp; done) | (with_reducible apply obj_put4; omega) | (with_reducible apply obj_put1; omega) | (with_reducible refine obj_setCell_other ?_ _ _ ?_; rotate_left; (dsimp only; omega)) | with_reducible refine obj_alloc ?_ _ | with_reducible refine obj_drew ?_))
          obtain ⟨hba_2, hbb_2, hbr_2⟩ := hB
          have hfw_2 : Fr noB w w2 := by
            refine Fr.transN ?_ hf2
            repeat (first | with_reducible exact hfw_1 | with_reducible refine Fr.alloc ?_ _ | (with_reducible refine Fr.setCell ?_ ?_ _; rotate_left; (intro h; dsimp only at h; omega)) | with_reducible refine Fr.drew ?_ | exact hfw_1)
          clear hba_1 hbb_1 hbr_1 la lb lr hl ca_0 ca_1 ca_2 ca_3 za cb_0 cb_1 cb_2 cb_3 zb cr_0 cr_1 cr_2 cr_3 zr hf2 hfw_1
          obtain ⟨ca_0, ca_1, ca_2, ca_3, za⟩ := hba_2.cs
          obtain ⟨cb_0, cb_1, cb_2, cb_3, zb⟩ := hbb_2.cs
          obtain ⟨cr_0, cr_1, cr_2, cr_3, zr⟩ := hbr_2.cs
          go_wp2_with fail
          refine (HI.out _).mono ?_
          rintro e w3 ⟨rfl, hf3⟩
          have la := hba_2.lt
          have lb := hbb_2.lt
          have lr := hbr_2.lt
          have hl := hfw_2.size
          have hB : Bx w3 w.heap.size a ∧ Bx w3 (w.heap.size + 1) b ∧ Bl w3 (w.heap.size + 2) 0 0 0 := by
            refine ⟨?_, ?_, ?_⟩ <;> ((first | unfold Bx | unfold Bl | skip); refine hf3.obj (noB_not _) ?_; repeat (first | with_reducible exact hba_2.raw | with_reducible exact hbb_2.raw | with_reducible exact hbr_2.raw | (with_reducible refine obj_alloc_at ?_; simp; done) | (with_reducible apply obj_put4; omega) | (with_reducible apply obj_put1; omega) | (with_reducible refine obj_setCell_other ?_ _ _ ?_; rotate_left; (dsimp only; omega)) | with_reducible refine obj_alloc ?_ _ | with_reducible refine obj_drew ?_))
          obtain ⟨hba_3, hbb_3, hbr_3⟩ := hB
          have hfw_3 : Fr noB w w3 := by
            refine Fr.transN ?_ hf3
            repeat (first | with_reducible exact hfw_2 | with_reducible refine Fr.alloc ?_ _ | (with_reducible refine Fr.setCell ?_ ?_ _; rotate_left; (intro h; dsimp only at h; omega)) | with_reducible refine Fr.drew ?_ | exact hfw_2)
          clear hba_2 hbb_2 hbr_2 la lb lr hl ca_0 ca_1 ca_2 ca_3 za cb_0 cb_1 cb_2 cb_3 zb cr_0 cr_1 cr_2 cr_3 zr hf3 hfw_2
          obtain ⟨ca_0, ca_1, ca_2, ca_3, za⟩ := hba_3.cs
          obtain ⟨cb_0, cb_1, cb_2, cb_3, zb⟩ := hbb_3.cs
          obtain ⟨cr_0, cr_1, cr_2, cr_3, zr⟩ := hbr_3.cs
          go_wp2_with fail
          have la := hba_3.lt
          have lb := hbb_3.lt
          have lr := hbr_3.lt
          have hl := hfw_3.size
          refine bodyPost_ret (ret_val2 rfl _ _ (w.heap.size + 2) (intV (wrap64 (a.n - b.n))) _ rfl rfl ?_) rfl ⟨?_, ?_⟩
          · show _ = some (Obj.cells #[.int .u8 1, .int .i64 (wrap64 (a.n - b.n)), .int .i64 0, .string ⟨#[]⟩] 23 (0, 0))
            repeat (first | with_reducible exact hbr_3.raw | (with_reducible refine obj_alloc_at ?_; simp; done) | (with_reducible apply obj_put4; omega) | (with_reducible apply obj_put1; omega) | (with_reducible refine obj_setCell_other ?_ _ _ ?_; rotate_left; (dsimp only; omega)) | with_reducible refine obj_alloc ?_ _ | with_reducible refine obj_drew ?_ | exact hbr_3.raw)
          · rw [HR.out] <;> rfl
          · skip
            repeat (first | with_reducible exact hfw_3 | with_reducible refine Fr.alloc ?_ _ | (with_reducible refine Fr.setCell ?_ ?_ _; rotate_left; (intro h; dsimp only at h; omega)) | with_reducible refine Fr.drew ?_ | exact hfw_3)
      · by_cases p2 : 0 < b.n
        · have hw := hw2 p2
          clear hw1 hw2
          by_cases q : a.n < wrap64 (-9223372036854775808 + b.n)
          · have q0 := q; rw [hw] at q0
            have HR := Lib.hid (show numV a b (wrap64 (a.n - b.n)) (okI (a.n - b.n)) = (zV, 61) by rw [HR0, okI_not (by omega)]; rfl)
            clear HR0 ha hb q0 hw
            go_wp2_with fail
            refine (HB.out _).mono ?_
            rintro e w2 ⟨rfl, hf2⟩
            have la := hba_1.lt
            have lb := hbb_1.lt
            have lr := hbr_1.lt
            have hl := hfw_1.size
            have hB : Bx w2 w.heap.size a ∧ Bx w2 (w.heap.size + 1) b ∧ Bl w2 (w.heap.size + 2) 0 0 0 := by
              refine ⟨?_, ?_, ?_⟩ <;> ((first | unfold Bx | unfold Bl | skip); refine hf2.obj (noB_not _) ?_; repeat (first | with_reducible exact hba_1.raw | with_reducible exact hbb_1.raw | with_reducible exact hbr_1.raw | (with_reducible refine obj_alloc_at ?_; simp; done) | (with_reducible apply obj_put4; omega) | (with_reducible apply obj_put1; omega) | (with_reducible refine obj_setCell_other ?_ _ _ ?_; rotate_left; (dsimp only; omega)) | with_reducible refine obj_alloc ?_ _ | with_reducible refine obj_drew ?_))
            obtain ⟨hba_2, hbb_2, hbr_2⟩ := hB
            have hfw_2 : Fr noB w w2 := by
              refine Fr.transN ?_ hf2
              repeat (first | with_reducible exact hfw_1 | with_reducible refine Fr.alloc ?_ _ | (with_reducible refine Fr.setCell ?_ ?_ _; rotate_left; (intro h; dsimp only at h; omega)) | with_reducible refine Fr.drew ?_ | exact hfw_1)
            clear hba_1 hbb_1 hbr_1 la lb lr hl ca_0 ca_1 ca_2 ca_3 za cb_0 cb_1 cb_2 cb_3 zb cr_0 cr_1 cr_2 cr_3 zr hf2 hfw_1
            obtain ⟨ca_0, ca_1, ca_2, ca_3, za⟩ := hba_2.cs
            obtain ⟨cb_0, cb_1, cb_2, cb_3, zb⟩ := hbb_2.cs
            obtain ⟨cr_0, cr_1, cr_2, cr_3, zr⟩ := hbr_2.cs
            go_wp2_with fail
            have la := hba_2.lt
            have lb := hbb_2.lt
            have lr := hbr_2.lt
            have hl := hfw_2.size
            refine bodyPost_ret (ret_val2 rfl _ _ (w.heap.size + 2) zV _ rfl rfl ?_) rfl ⟨?_, ?_⟩
            · show _ = some (Obj.cells #[.int .u8 0, .int .i64 0, .int .i64 0, .string ⟨#[]⟩] 23 (0, 0))
              repeat (first | with_reducible exact hbr_2.raw | (with_reducible refine obj_alloc_at ?_; simp; done) | (with_reducible apply obj_put4; omega) | (with_reducible apply obj_put1; omega) | (with_reducible refine obj_setCell_other ?_ _ _ ?_; rotate_left; (dsimp only; omega)) | with_reducible refine obj_alloc ?_ _ | with_reducible refine obj_drew ?_ | exact hbr_2.raw)
            · rw [HR.out] <;> rfl
            · skip
              repeat (first | with_reducible exact hfw_2 | with_reducible refine Fr.alloc ?_ _ | (with_reducible refine Fr.setCell ?_ ?_ _; rotate_left; (intro h; dsimp only at h; omega)) | with_reducible refine Fr.drew ?_ | exact hfw_2)
          · have q0 := q; rw [hw] at q0
            have HR := Lib.hid (show numV a b (wrap64 (a.n - b.n)) (okI (a.n - b.n)) = (intV (wrap64 (a.n - b.n)), 0) by rw [HR0, okI_yes (by omega) (by omega)]; rfl)
            clear HR0 ha hb q0 hw
            go_wp2_with fail
            refine (HB.out _).mono ?_
            rintro e w2 ⟨rfl, hf2⟩
            have la := hba_1.lt
            have lb := hbb_1.lt
            have lr := hbr_1.lt
            have hl := hfw_1.size
            have hB : Bx w2 w.heap.size a ∧ Bx w2 (w.heap.size + 1) b ∧ Bl w2 (w.heap.size + 2) 0 0 0 := by
              refine ⟨?_, ?_, ?_⟩ <;> ((first | unfold Bx | unfold Bl | skip); refine hf2.obj (noB_not _) ?_; repeat (first | with_reducible exact hba_1.raw | with_reducible exact hbb_1.raw | with_reducible exact hbr_1.raw | (with_reducible refine obj_alloc_at ?_; simp; done) | (with_reducible apply obj_put4; omega) | (with_reducible apply obj_put1; omega) | (with_reducible refine obj_setCell_other ?_ _ _ ?_; rotate_left; (dsimp only; omega)) | with_reducible refine obj_alloc ?_ _ | with_reducible refine obj_drew ?_))
            obtain ⟨hba_2, hbb_2, hbr_2⟩ := hB
            have hfw_2 : Fr noB w w2 := by
              refine Fr.transN ?_ hf2
              repeat (first | with_reducible exact hfw_1 | with_reducible refine Fr.alloc ?_ _ | (with_reducible refine Fr.setCell ?_ ?_ _; rotate_left; (intro h; dsimp only at h; omega)) | with_reducible refine Fr.drew ?_ | exact hfw_1)
            clear hba_1 hbb_1 hbr_1 la lb lr hl ca_0 ca_1 ca_2 ca_3 za cb_0 cb_1 cb_2 cb_3 zb cr_0 cr_1 cr_2 cr_3 zr hf2 hfw_1
            obtain ⟨ca_0, ca_1, ca_2, ca_3, za⟩ := hba_2.cs
            obtain ⟨cb_0, cb_1, cb_2, cb_3, zb⟩ := hbb_2.cs
            obtain ⟨cr_0, cr_1, cr_2, cr_3, zr⟩ := hbr_2.cs
            go_wp2_with fail
            refine (HI.out _).mono ?_
            rintro e w3 ⟨rfl, hf3⟩
            have la := hba_2.lt
            have lb := hbb_2.lt
            have lr := hbr_2.lt
            have hl := hfw_2.size
            have hB : Bx w3 w.heap.size a ∧ Bx w3 (w.heap.size + 1) b ∧ Bl w3 (w.heap.size + 2) 0 0 0 := by
              refine ⟨?_, ?_, ?_⟩ <;> ((first | unfold Bx | unfold Bl | skip); refine hf3.obj (noB_not _) ?_; repeat (first | with_reducible exact hba_2.raw | with_reducible exact hbb_2.raw | with_reducible exact hbr_2.raw | (with_reducible refine obj_alloc_at ?_; simp; done) | (with_reducible apply obj_put4; omega) | (with_reducible apply obj_put1; omega) | (with_reducible refine obj_setCell_other ?_ _ _ ?_; rotate_left; (dsimp only; omega)) | with_reducible refine obj_alloc ?_ _ | with_reducible refine obj_drew ?_))
            obtain ⟨hba_3, hbb_3, hbr_3⟩ := hB
            have hfw_3 : Fr noB w w3 := by
              refine Fr.transN ?_ hf3
              repeat (first | with_reducible exact hfw_2 | with_reducible refine Fr.alloc ?_ _ | (with_reducible refine Fr.setCell ?_ ?_ _; rotate_left; (intro h; dsimp only at h; omega)) | with_reducible refine Fr.drew ?_ | exact hfw_2)
            clear hba_2 hbb_2 hbr_2 la lb lr hl ca_0 ca_1 ca_2 ca_3 za cb_0 cb_1 cb_2 cb_3 zb cr_0 cr_1 cr_2 cr_3 zr hf3 hfw_2
            obtain ⟨ca_0, ca_1, ca_2, ca_3, za⟩ := hba_3.cs
            obtain ⟨cb_0, cb_1, cb_2, cb_3, zb⟩ := hbb_3.cs
            obtain ⟨cr_0, cr_1, cr_2, cr_3, zr⟩ := hbr_3.cs
            go_wp2_with fail
            have la := hba_3.lt
            have lb := hbb_3.lt
            have lr := hbr_3.lt
            have hl := hfw_3.size
            refine bodyPost_ret (ret_val2 rfl _ _ (w.heap.size + 2) (intV (wrap64 (a.n - b.n))) _ rfl rfl ?_) rfl ⟨?_, ?_⟩
            · show _ = some (Obj.cells #[.int .u8 1, .int .i64 (wrap64 (a.n - b.n)), .int .i64 0, .string ⟨#[]⟩] 23 (0, 0))
              repeat (first | with_reducible exact hbr_3.raw | (with_reducible refine obj_alloc_at ?_; simp; done) | (with_reducible apply obj_put4; omega) | (with_reducible apply obj_put1; omega) | (with_reducible refine obj_setCell_other ?_ _ _ ?_; rotate_left; (dsimp only; omega)) | with_reducible refine obj_alloc ?_ _ | with_reducible refine obj_drew ?_ | exact hbr_3.raw)
            · rw [HR.out] <;> rfl
            · skip
              repeat (first | with_reducible exact hfw_3 | with_reducible refine Fr.alloc ?_ _ | (with_reducible refine Fr.setCell ?_ ?_ _; rotate_left; (intro h; dsimp only at h; omega)) | with_reducible refine Fr.drew ?_ | exact hfw_3)
        · have HR := Lib.hid (show numV a b (wrap64 (a.n - b.n)) (okI (a.n - b.n)) = (intV (wrap64 (a.n - b.n)), 0) by rw [HR0, okI_yes (by omega) (by omega)]; rfl)
          clear HR0 ha hb hw1 hw2
          go_wp2_with fail
          refine (HB.out _).mono ?_
          rintro e w2 ⟨rfl, hf2⟩
          have la := hba_1.lt
          have lb := hbb_1.lt
          have lr := hbr_1.lt
          have hl := hfw_1.size
          have hB : Bx w2 w.heap.size a ∧ Bx w2 (w.heap.size + 1) b ∧ Bl w2 (w.heap.size + 2) 0 0 0 := by
            refine ⟨?_, ?_, ?_⟩ <;> ((first | unfold Bx | unfold Bl | skip); refine hf2.obj (noB_not _) ?_; repeat (first | with_reducible exact hba_1.raw | with_reducible exact hbb_1.raw | with_reducible exact hbr_1.raw | (with_reducible refine obj_alloc_at ?_; simp; done) | (with_reducible apply obj_put4; omega) | (with_reducible apply obj_put1; omega) | (with_reducible refine obj_setCell_other ?_ _ _ ?_; rotate_left; (dsimp only; omega)) | with_reducible refine obj_alloc ?_ _ | with_reducible refine obj_drew ?_))
          obtain ⟨hba_2, hbb_2, hbr_2⟩ := hB
          have hfw_2 : Fr noB w w2 := by
            refine Fr.transN ?_ hf2
            repeat (first | with_reducible exact hfw_1 | with_reducible refine Fr.alloc ?_ _ | (with_reducible refine Fr.setCell ?_ ?_ _; rotate_left; (intro h; dsimp only at h; omega)) | with_reducible refine Fr.drew ?_ | exact hfw_1)
          clear hba_1 hbb_1 hbr_1 la lb lr hl ca_0 ca_1 ca_2 ca_3 za cb_0 cb_1 cb_2 cb_3 zb cr_0 cr_1 cr_2 cr_3 zr hf2 hfw_1
          obtain ⟨ca_0, ca_1, ca_2, ca_3, za⟩ := hba_2.cs
          obtain ⟨cb_0, cb_1, cb_2, cb_3, zb⟩ := hbb_2.cs
          obtain ⟨cr_0, cr_1, cr_2, cr_3, zr⟩ := hbr_2.cs
          go_wp2_with fail
          refine (HI.out _).mono ?_
          rintro e w3 ⟨rfl, hf3⟩
          have la := hba_2.lt
          have lb := hbb_2.lt
          have lr := hbr_2.lt
          have hl := hfw_2.size
          have hB : Bx w3 w.heap.size a ∧ Bx w3 (w.heap.size + 1) b ∧ Bl w3 (w.heap.size + 2) 0 0 0 := by
            refine ⟨?_, ?_, ?_⟩ <;> ((first | unfold Bx | unfold Bl | skip); refine hf3.obj (noB_not _) ?_; repeat (first | with_reducible exact hba_2.raw | with_reducible exact hbb_2.raw | with_reducible exact hbr_2.raw | (with_reducible refine obj_alloc_at ?_; simp; done) | (with_reducible apply obj_put4; omega) | (with_reducible apply obj_put1; omega) | (with_reducible refine obj_setCell_other ?_ _ _ ?_; rotate_left; (dsimp only; omega)) | with_reducible refine obj_alloc ?_ _ | with_reducible refine obj_drew ?_))
          obtain ⟨hba_3, hbb_3, hbr_3⟩ := hB
          have hfw_3 : Fr noB w w3 := by
            refine Fr.transN ?_ hf3
            repeat (first | with_reducible exact hfw_2 | with_reducible refine Fr.alloc ?_ _ | (with_reducible refine Fr.setCell ?_ ?_ _; rotate_left; (intro h; dsimp only at h; omega)) | with_reducible refine Fr.drew ?_ | exact hfw_2)
          clear hba_2 hbb_2 hbr_2 la lb lr hl ca_0 ca_1 ca_2 ca_3 za cb_0 cb_1 cb_2 cb_3 zb cr_0 cr_1 cr_2 cr_3 zr hf3 hfw_2
          obtain ⟨ca_0, ca_1, ca_2, ca_3, za⟩ := hba_3.cs
          obtain ⟨cb_0, cb_1, cb_2, cb_3, zb⟩ := hbb_3.cs
          obtain ⟨cr_0, cr_1, cr_2, cr_3, zr⟩ := hbr_3.cs
          go_wp2_with fail
          have la := hba_3.lt
          have lb := hbb_3.lt
          have lr := hbr_3.lt
          have hl := hfw_3.size
          refine bodyPost_ret (ret_val2 rfl _ _ (w.heap.size + 2) (intV (wrap64 (a.n - b.n))) _ rfl rfl ?_) rfl ⟨?_, ?_⟩
          · show _ = some (Obj.cells #[.int .u8 1, .int .i64 (wrap64 (a.n - b.n)), .int .i64 0, .string ⟨#[]⟩] 23 (0, 0))
            repeat (first | with_reducible exact hbr_3.raw | (with_reducible refine obj_alloc_at ?_; simp; done) | (with_reducible apply obj_put4; omega) | (with_reducible apply obj_put1; omega) | (with_reducible refine obj_setCell_other ?_ _ _ ?_; rotate_left; (dsimp only; omega)) | with_reducible refine obj_alloc ?_ _ | with_reducible refine obj_drew ?_ | exact hbr_3.raw)
          · rw [HR.out] <;> rfl
          · skip
            repeat (first | with_reducible exact hfw_3 | with_reducible refine Fr.alloc ?_ _ | (with_reducible refine Fr.setCell ?_ ?_ _; rotate_left; (intro h; dsimp only at h; omega)) | with_reducible refine Fr.drew ?_ | exact hfw_3)
    · have bl : bothV a b = (true, 0) := by unfold bothV; rw [if_neg (by rw [h1]; decide), hn]
      rw [bl] at HB
      dsimp only at HB
      have HR := Lib.hid (show numV a b (wrap64 (a.n - b.n)) (okI (a.n - b.n)) = (zV, 0) by unfold numV; rw [if_neg (by rw [h1]; decide), if_pos hn])
      clear h1 hn bl ha hb
      go_wp2_with fail
      refine (HB.out _).mono ?_
      rintro e w2 ⟨rfl, hf2⟩
      have la := hba_1.lt
      have lb := hbb_1.lt
      have lr := hbr_1.lt
      have hl := hfw_1.size
      have hB : Bx w2 w.heap.size a ∧ Bx w2 (w.heap.size + 1) b ∧ Bl w2 (w.heap.size + 2) 0 0 0 := by
        refine ⟨?_, ?_, ?_⟩ <;> ((first | unfold Bx | unfold Bl | skip); refine hf2.obj (noB_not _) ?_; repeat (first | with_reducible exact hba_1.raw | with_reducible exact hbb_1.raw | with_reducible exact hbr_1.raw | (with_reducible refine obj_alloc_at ?_; simp; done) | (with_reducible apply obj_put4; omega) | (with_reducible apply obj_put1; omega) | (with_reducible refine obj_setCell_other ?_ _ _ ?_; rotate_left; (dsimp only; omega)) | with_reducible refine obj_alloc ?_ _ | with_reducible refine obj_drew ?_))
      obtain ⟨hba_2, hbb_2, hbr_2⟩ := hB
      have hfw_2 : Fr noB w w2 := by
        refine Fr.transN ?_ hf2
        repeat (first | with_reducible exact hfw_1 | with_reducible refine Fr.alloc ?_ _ | (with_reducible refine Fr.setCell ?_ ?_ _; rotate_left; (intro h; dsimp only at h; omega)) | with_reducible refine Fr.drew ?_ | exact hfw_1)
      clear hba_1 hbb_1 hbr_1 la lb lr hl ca_0 ca_1 ca_2 ca_3 za cb_0 cb_1 cb_2 cb_3 zb cr_0 cr_1 cr_2 cr_3 zr hf2 hfw_1
      obtain ⟨ca_0, ca_1, ca_2, ca_3, za⟩ := hba_2.cs
      obtain ⟨cb_0, cb_1, cb_2, cb_3, zb⟩ := hbb_2.cs
      obtain ⟨cr_0, cr_1, cr_2, cr_3, zr⟩ := hbr_2.cs
      go_wp2_with fail
      have la := hba_2.lt
      have lb := hbb_2.lt
      have lr := hbr_2.lt
      have hl := hfw_2.size
      refine bodyPost_ret (ret_val2 rfl _ _ (w.heap.size + 2) zV _ rfl rfl ?_) rfl ⟨?_, ?_⟩
      · show _ = some (Obj.cells #[.int .u8 0, .int .i64 0, .int .i64 0, .string ⟨#[]⟩] 23 (0, 0))
        repeat (first | with_reducible exact hbr_2.raw | (with_reducible refine obj_alloc_at ?_; simp; done) | (with_reducible apply obj_put4; omega) | (with_reducible apply obj_put1; omega) | (with_reducible refine obj_setCell_other ?_ _ _ ?_; rotate_left; (dsimp only; omega)) | with_reducible refine obj_alloc ?_ _ | with_reducible refine obj_drew ?_ | exact hbr_2.raw)
      · rw [HR.out] <;> rfl
      · skip
        repeat (first | with_reducible exact hfw_2 | with_reducible refine Fr.alloc ?_ _ | (with_reducible refine Fr.setCell ?_ ?_ _; rotate_left; (intro h; dsimp only at h; omega)) | with_reducible refine Fr.drew ?_ | exact hfw_2)


end Go.Proofs.Ytcncjghcnofioaa
