/- The walk of LogicOrder. No condition. -/
import Derived.Test.YtcncjghcnofioaaBx
import Derived.Test.YtcncjghcnofioaaOrdP
import Derived.Test.YtcncjghcnofioaaAwake
import Derived.Test.YtcncjghcnofioaaReadV
namespace Go.Proofs.Ytcncjghcnofioaa
open Go.RowKit

theorem ordV_null {a b : V} (r : Bool) (h : (nullB a || nullB b) = true) : ordV a b r = (zV, 0) := by unfold ordV; rw [if_pos h]
theorem ordV_type {a b : V} (r : Bool) (h : (nullB a || nullB b) = false) (k : a.k ≠ b.k) : ordV a b r = (zV, 60) := by unfold ordV; rw [if_neg (by rw [h]; decide), if_neg k]
theorem ordV_same {a b : V} (r : Bool) (h : (nullB a || nullB b) = false) (k : a.k = b.k) : ordV a b r = (ofV r, 0) := by unfold ordV; rw [if_neg (by rw [h]; decide), if_pos k]
theorem less_trans (a b c : V) (h : (nullB a || nullB b) = false) (k : a.k = b.k) (ho : orderV a b < 0) (h0 : (ordV b c (decide (orderV b c < 0))).2 = 0) (hy : yesB (ordV b c (decide (orderV b c < 0))).1 = true) :
    (ordV a c (decide (orderV a c < 0))).2 = 0 ∧ yesB (ordV a c (decide (orderV a c < 0))).1 = true := by
  cases hn : nullB b || nullB c
  · by_cases hk : b.k = c.k
    · rw [ordV_same _ hn hk] at hy
      have hb : orderV b c < 0 := by
        by_cases hb : orderV b c < 0
        · exact hb
        · rw [decide_eq_false hb] at hy; exact absurd hy (by decide)
      simp only [Bool.or_eq_false_iff] at h hn
      rw [ordV_same (a := a) (b := c) _ (by rw [h.1, hn.2]; rfl) (k.trans hk), decide_eq_true (order_trans a b c k hk ho hb)]
      exact ⟨rfl, rfl⟩
    · rw [ordV_type _ hn hk] at h0; exact absurd h0 (by decide)
  · rw [ordV_null _ hn] at hy; exact absurd hy (by decide)

set_option maxRecDepth 100000 in
set_option maxHeartbeats 4000000 in
theorem order_law (a b c : V) (ha : -9223372036854775808 ≤ a.n ∧ a.n ≤ 9223372036854775807) (hb : -9223372036854775808 ≤ b.n ∧ b.n ≤ 9223372036854775807) (hc : -9223372036854775808 ≤ c.n ∧ c.n ≤ 9223372036854775807) (w : World) :
    Calls Try.prog 3 #[vV a, vV b, vV c] w fun e w' => e = .returned (.bool true) ∧ Fr noB w w' := by
  have HAw := Lib.hid (fun W : World => awake_any W)
  obtain ⟨X, hX⟩ : ∃ z, z = ordV a b (decide (orderV a b < 0)) := ⟨_, rfl⟩
  obtain ⟨Y, hY⟩ : ∃ z, z = ordV b a (decide (orderV b a < 0)) := ⟨_, rfl⟩
  obtain ⟨Z, hZ⟩ : ∃ z, z = ordV a b (orderV a b == 0) := ⟨_, rfl⟩
  obtain ⟨U, hU⟩ : ∃ z, z = ordV b c (decide (orderV b c < 0)) := ⟨_, rfl⟩
  obtain ⟨T, hT⟩ : ∃ z, z = ordV a c (decide (orderV a c < 0)) := ⟨_, rfl⟩
  have HX := Lib.hid (show ∀ W : World, Calls Try.prog 16 #[.agg #[.int .u8 a.k, .int .i64 a.n, .int .i64 a.hi, .string a.t], .agg #[.int .u8 b.k, .int .i64 b.n, .int .i64 b.hi, .string b.t]] W fun e w' => e = .returned (.tuple #[.agg #[.int .u8 X.1.k, .int .i64 X.1.n, .int .i64 X.1.hi, .string X.1.t], .int .i64 X.2]) ∧ Fr noB W w' from fun W => by rw [hX]; exact less_any a b ha hb W)
  have HYY := Lib.hid (show ∀ W : World, Calls Try.prog 16 #[.agg #[.int .u8 b.k, .int .i64 b.n, .int .i64 b.hi, .string b.t], .agg #[.int .u8 a.k, .int .i64 a.n, .int .i64 a.hi, .string a.t]] W fun e w' => e = .returned (.tuple #[.agg #[.int .u8 Y.1.k, .int .i64 Y.1.n, .int .i64 Y.1.hi, .string Y.1.t], .int .i64 Y.2]) ∧ Fr noB W w' from fun W => by rw [hY]; exact less_any b a hb ha W)
  have HZ := Lib.hid (show ∀ W : World, Calls Try.prog 17 #[.agg #[.int .u8 a.k, .int .i64 a.n, .int .i64 a.hi, .string a.t], .agg #[.int .u8 b.k, .int .i64 b.n, .int .i64 b.hi, .string b.t]] W fun e w' => e = .returned (.tuple #[.agg #[.int .u8 Z.1.k, .int .i64 Z.1.n, .int .i64 Z.1.hi, .string Z.1.t], .int .i64 Z.2]) ∧ Fr noB W w' from fun W => by rw [hZ]; exact equal_any a b ha hb W)
  have HU := Lib.hid (show ∀ W : World, Calls Try.prog 16 #[.agg #[.int .u8 b.k, .int .i64 b.n, .int .i64 b.hi, .string b.t], .agg #[.int .u8 c.k, .int .i64 c.n, .int .i64 c.hi, .string c.t]] W fun e w' => e = .returned (.tuple #[.agg #[.int .u8 U.1.k, .int .i64 U.1.n, .int .i64 U.1.hi, .string U.1.t], .int .i64 U.2]) ∧ Fr noB W w' from fun W => by rw [hU]; exact less_any b c hb hc W)
  have HTT := Lib.hid (show ∀ W : World, Calls Try.prog 16 #[.agg #[.int .u8 a.k, .int .i64 a.n, .int .i64 a.hi, .string a.t], .agg #[.int .u8 c.k, .int .i64 c.n, .int .i64 c.hi, .string c.t]] W fun e w' => e = .returned (.tuple #[.agg #[.int .u8 T.1.k, .int .i64 T.1.n, .int .i64 T.1.hi, .string T.1.t], .int .i64 T.2]) ∧ Fr noB W w' from fun W => by rw [hT]; exact less_any a c ha hc W)
  have HY1 := Lib.hid (show ∀ W : World, Calls Try.prog 18 #[.agg #[.int .u8 2, .int .i64 1, .int .i64 0, .string ⟨#[]⟩]] W fun e w' => e = .returned (.bool true) ∧ Fr noB W w' from fun W => yes_any yesV W)
  have HY0 := Lib.hid (show ∀ W : World, Calls Try.prog 18 #[.agg #[.int .u8 2, .int .i64 0, .int .i64 0, .string ⟨#[]⟩]] W fun e w' => e = .returned (.bool false) ∧ Fr noB W w' from fun W => yes_any noV W)
  have HYU := Lib.hid (show ∀ W : World, Calls Try.prog 18 #[.agg #[.int .u8 U.1.k, .int .i64 U.1.n, .int .i64 U.1.hi, .string U.1.t]] W fun e w' => e = .returned (.bool (yesB U.1)) ∧ Fr noB W w' from fun W => yes_any U.1 W)
  have HYT := Lib.hid (show ∀ W : World, Calls Try.prog 18 #[.agg #[.int .u8 T.1.k, .int .i64 T.1.n, .int .i64 T.1.hi, .string T.1.t]] W fun e w' => e = .returned (.bool (yesB T.1)) ∧ Fr noB W w' from fun W => yes_any T.1 W)
  have HTR := Lib.hid (show (nullB a || nullB b) = false → a.k = b.k → orderV a b < 0 → U.2 = 0 → yesB U.1 = true → T.2 = 0 ∧ yesB T.1 = true from fun h k ho h0 hy => by rw [hT]; rw [hU] at h0 hy; exact less_trans a b c h k ho h0 hy)
  have HXX := Lib.hid hX; have HYY2 := Lib.hid hY; have HZZ := Lib.hid hZ
  clear hX hY hZ hU hT ha hb hc
  unfold vV
  go_enter Try.func3, Try.ntmps3
  go_upto_region 1 with fail
  have hfw_0 := Fr.refl noB w
  have hl := hfw_0.size
  refine wp_world (fun W => Fr noB w W ∧ Bx W w.heap.size a ∧ Bx W (w.heap.size + 1) b ∧ Bx W (w.heap.size + 2) c) ?_ ?_
  · refine ⟨?_, ?_, ?_, ?_⟩ <;> ((first | unfold Bx | unfold Bl | skip); repeat (first | with_reducible exact hfw_0 | with_reducible refine Fr.alloc ?_ _ | (with_reducible refine Fr.setCell ?_ ?_ _; rotate_left; (intro h; dsimp only at h; omega)) | with_reducible refine Fr.drew ?_ | (with_reducible refine obj_alloc_at ?_; simp; done) | (with_reducible apply obj_put4; omega) | (with_reducible apply obj_put1; omega) | (with_reducible refine obj_setCell_other ?_ _ _ ?_; rotate_left; (dsimp only; omega)) | with_reducible refine obj_alloc ?_ _ | with_reducible refine obj_drew ?_ | exact hfw_0))
  clear hl hfw_0
  rintro w1 ⟨hfw_1, hba_1, hbb_1, hbc_1⟩
  obtain ⟨ca_0, ca_1, ca_2, ca_3, za⟩ := hba_1.cs
  obtain ⟨cb_0, cb_1, cb_2, cb_3, zb⟩ := hbb_1.cs
  obtain ⟨cc_0, cc_1, cc_2, cc_3, zc⟩ := hbc_1.cs
  by_cases p1 : (2000 : Int) < (a.t.size : Int)
  · have HAw2 := HAw
    go_wp2_with fail
    refine (HAw.out _).mono ?_
    rintro e w2 ⟨rfl, hf2⟩
    have la := hba_1.lt
    have lb := hbb_1.lt
    have lc := hbc_1.lt
    have hl := hfw_1.size
    have hB : Bx w2 w.heap.size a ∧ Bx w2 (w.heap.size + 1) b ∧ Bx w2 (w.heap.size + 2) c := by
      refine ⟨?_, ?_, ?_⟩ <;> ((first | unfold Bx | unfold Bl | skip); refine hf2.obj (noB_not _) ?_; repeat (first | with_reducible exact hba_1.raw | with_reducible exact hbb_1.raw | with_reducible exact hbc_1.raw | (with_reducible refine obj_alloc_at ?_; simp; done) | (with_reducible apply obj_put4; omega) | (with_reducible apply obj_put1; omega) | (with_reducible refine obj_setCell_other ?_ _ _ ?_; rotate_left; (dsimp only; omega)) | with_reducible refine obj_alloc ?_ _ | with_reducible refine obj_drew ?_))
    obtain ⟨hba_2, hbb_2, hbc_2⟩ := hB
    have hfw_2 : Fr noB w w2 := by
      refine Fr.transN ?_ hf2
      repeat (first | with_reducible exact hfw_1 | with_reducible refine Fr.alloc ?_ _ | (with_reducible refine Fr.setCell ?_ ?_ _; rotate_left; (intro h; dsimp only at h; omega)) | with_reducible refine Fr.drew ?_ | exact hfw_1)
    clear hba_1 hbb_1 hbc_1 la lb lc hl ca_0 ca_1 ca_2 ca_3 za cb_0 cb_1 cb_2 cb_3 zb cc_0 cc_1 cc_2 cc_3 zc hf2 hfw_1
    obtain ⟨ca_0, ca_1, ca_2, ca_3, za⟩ := hba_2.cs
    obtain ⟨cb_0, cb_1, cb_2, cb_3, zb⟩ := hbb_2.cs
    obtain ⟨cc_0, cc_1, cc_2, cc_3, zc⟩ := hbc_2.cs
    go_wp2_with fail
    have la := hba_2.lt
    have lb := hbb_2.lt
    have lc := hbc_2.lt
    have hl := hfw_2.size
    go_ret
    refine ⟨?_, ?_⟩
    · rfl
    · skip
      repeat (first | with_reducible exact hfw_2 | with_reducible refine Fr.alloc ?_ _ | (with_reducible refine Fr.setCell ?_ ?_ _; rotate_left; (intro h; dsimp only at h; omega)) | with_reducible refine Fr.drew ?_ | exact hfw_2)
  · by_cases p2 : (2000 : Int) < (b.t.size : Int)
    · have HAw2 := HAw
      go_wp2_with fail
      refine (HAw.out _).mono ?_
      rintro e w2 ⟨rfl, hf2⟩
      have la := hba_1.lt
      have lb := hbb_1.lt
      have lc := hbc_1.lt
      have hl := hfw_1.size
      have hB : Bx w2 w.heap.size a ∧ Bx w2 (w.heap.size + 1) b ∧ Bx w2 (w.heap.size + 2) c := by
        refine ⟨?_, ?_, ?_⟩ <;> ((first | unfold Bx | unfold Bl | skip); refine hf2.obj (noB_not _) ?_; repeat (first | with_reducible exact hba_1.raw | with_reducible exact hbb_1.raw | with_reducible exact hbc_1.raw | (with_reducible refine obj_alloc_at ?_; simp; done) | (with_reducible apply obj_put4; omega) | (with_reducible apply obj_put1; omega) | (with_reducible refine obj_setCell_other ?_ _ _ ?_; rotate_left; (dsimp only; omega)) | with_reducible refine obj_alloc ?_ _ | with_reducible refine obj_drew ?_))
      obtain ⟨hba_2, hbb_2, hbc_2⟩ := hB
      have hfw_2 : Fr noB w w2 := by
        refine Fr.transN ?_ hf2
        repeat (first | with_reducible exact hfw_1 | with_reducible refine Fr.alloc ?_ _ | (with_reducible refine Fr.setCell ?_ ?_ _; rotate_left; (intro h; dsimp only at h; omega)) | with_reducible refine Fr.drew ?_ | exact hfw_1)
      clear hba_1 hbb_1 hbc_1 la lb lc hl ca_0 ca_1 ca_2 ca_3 za cb_0 cb_1 cb_2 cb_3 zb cc_0 cc_1 cc_2 cc_3 zc hf2 hfw_1
      obtain ⟨ca_0, ca_1, ca_2, ca_3, za⟩ := hba_2.cs
      obtain ⟨cb_0, cb_1, cb_2, cb_3, zb⟩ := hbb_2.cs
      obtain ⟨cc_0, cc_1, cc_2, cc_3, zc⟩ := hbc_2.cs
      go_wp2_with fail
      have la := hba_2.lt
      have lb := hbb_2.lt
      have lc := hbc_2.lt
      have hl := hfw_2.size
      go_ret
      refine ⟨?_, ?_⟩
      · rfl
      · skip
        repeat (first | with_reducible exact hfw_2 | with_reducible refine Fr.alloc ?_ _ | (with_reducible refine Fr.setCell ?_ ?_ _; rotate_left; (intro h; dsimp only at h; omega)) | with_reducible refine Fr.drew ?_ | exact hfw_2)
    · by_cases p3 : (2000 : Int) < (c.t.size : Int)
      · have HAw2 := HAw
        go_wp2_with fail
        refine (HAw.out _).mono ?_
        rintro e w2 ⟨rfl, hf2⟩
        have la := hba_1.lt
        have lb := hbb_1.lt
        have lc := hbc_1.lt
        have hl := hfw_1.size
        have hB : Bx w2 w.heap.size a ∧ Bx w2 (w.heap.size + 1) b ∧ Bx w2 (w.heap.size + 2) c := by
          refine ⟨?_, ?_, ?_⟩ <;> ((first | unfold Bx | unfold Bl | skip); refine hf2.obj (noB_not _) ?_; repeat (first | with_reducible exact hba_1.raw | with_reducible exact hbb_1.raw | with_reducible exact hbc_1.raw | (with_reducible refine obj_alloc_at ?_; simp; done) | (with_reducible apply obj_put4; omega) | (with_reducible apply obj_put1; omega) | (with_reducible refine obj_setCell_other ?_ _ _ ?_; rotate_left; (dsimp only; omega)) | with_reducible refine obj_alloc ?_ _ | with_reducible refine obj_drew ?_))
        obtain ⟨hba_2, hbb_2, hbc_2⟩ := hB
        have hfw_2 : Fr noB w w2 := by
          refine Fr.transN ?_ hf2
          repeat (first | with_reducible exact hfw_1 | with_reducible refine Fr.alloc ?_ _ | (with_reducible refine Fr.setCell ?_ ?_ _; rotate_left; (intro h; dsimp only at h; omega)) | with_reducible refine Fr.drew ?_ | exact hfw_1)
        clear hba_1 hbb_1 hbc_1 la lb lc hl ca_0 ca_1 ca_2 ca_3 za cb_0 cb_1 cb_2 cb_3 zb cc_0 cc_1 cc_2 cc_3 zc hf2 hfw_1
        obtain ⟨ca_0, ca_1, ca_2, ca_3, za⟩ := hba_2.cs
        obtain ⟨cb_0, cb_1, cb_2, cb_3, zb⟩ := hbb_2.cs
        obtain ⟨cc_0, cc_1, cc_2, cc_3, zc⟩ := hbc_2.cs
        go_wp2_with fail
        have la := hba_2.lt
        have lb := hbb_2.lt
        have lc := hbc_2.lt
        have hl := hfw_2.size
        go_ret
        refine ⟨?_, ?_⟩
        · rfl
        · skip
          repeat (first | with_reducible exact hfw_2 | with_reducible refine Fr.alloc ?_ _ | (with_reducible refine Fr.setCell ?_ ?_ _; rotate_left; (intro h; dsimp only at h; omega)) | with_reducible refine Fr.drew ?_ | exact hfw_2)
      · go_wp2_with fail
        refine (HAw.out _).mono ?_
        rintro e w2 ⟨rfl, hf2⟩
        have la := hba_1.lt
        have lb := hbb_1.lt
        have lc := hbc_1.lt
        have hl := hfw_1.size
        have hB : Bx w2 w.heap.size a ∧ Bx w2 (w.heap.size + 1) b ∧ Bx w2 (w.heap.size + 2) c := by
          refine ⟨?_, ?_, ?_⟩ <;> ((first | unfold Bx | unfold Bl | skip); refine hf2.obj (noB_not _) ?_; repeat (first | with_reducible exact hba_1.raw | with_reducible exact hbb_1.raw | with_reducible exact hbc_1.raw | (with_reducible refine obj_alloc_at ?_; simp; done) | (with_reducible apply obj_put4; omega) | (with_reducible apply obj_put1; omega) | (with_reducible refine obj_setCell_other ?_ _ _ ?_; rotate_left; (dsimp only; omega)) | with_reducible refine obj_alloc ?_ _ | with_reducible refine obj_drew ?_))
        obtain ⟨hba_2, hbb_2, hbc_2⟩ := hB
        have hfw_2 : Fr noB w w2 := by
          refine Fr.transN ?_ hf2
          repeat (first | with_reducible exact hfw_1 | with_reducible refine Fr.alloc ?_ _ | (with_reducible refine Fr.setCell ?_ ?_ _; rotate_left; (intro h; dsimp only at h; omega)) | with_reducible refine Fr.drew ?_ | exact hfw_1)
        clear hba_1 hbb_1 hbc_1 la lb lc hl ca_0 ca_1 ca_2 ca_3 za cb_0 cb_1 cb_2 cb_3 zb cc_0 cc_1 cc_2 cc_3 zc hf2 hfw_1
        obtain ⟨ca_0, ca_1, ca_2, ca_3, za⟩ := hba_2.cs
        obtain ⟨cb_0, cb_1, cb_2, cb_3, zb⟩ := hbb_2.cs
        obtain ⟨cc_0, cc_1, cc_2, cc_3, zc⟩ := hbc_2.cs
        cases hn : nullB a || nullB b
        · by_cases hk : a.k = b.k
          · have hn2 : (nullB b || nullB a) = false := by rw [Bool.or_comm]; exact hn
            have hfl := order_flip a b hk
            have ho : orderV a b < 0 ∨ orderV a b = 0 ∨ 0 < orderV a b := by omega
            rcases ho with ho | ho | ho
            · have e1 : decide (orderV a b < 0) = true := by simp; omega
              have e2 : decide (orderV b a < 0) = false := by rw [hfl]; simp; omega
              have e3 : (orderV a b == 0) = false := by simp; omega
              have hx := HXX.out; rw [e1] at hx
              rw [ordV_same _ hn hk] at hx
              have hy := HYY2.out; rw [e2] at hy
              rw [ordV_same _ hn2 hk.symm] at hy
              have hz := HZZ.out; rw [e3] at hz
              rw [ordV_same _ hn hk] at hz
              have f0 := Lib.hid (show (a.k != b.k) = false by simp [hk])
              have HT3 := Lib.hid (HTR.out hn hk ho)
              have hX : X = (yesV, 0) := hx
              rw [hX] at HX
              dsimp only [yesV] at HX
              have hY : Y = (noV, 0) := hy
              rw [hY] at HYY
              dsimp only [noV] at HYY
              have hZ : Z = (noV, 0) := hz
              rw [hZ] at HZ
              dsimp only [noV] at HZ
              clear hX hY hZ HXX HYY2 HZZ
              clear hx hy hz e1 e2 e3 hfl hn2 ho hk
              go_wp2_with fail
              refine (HX.out _).mono ?_
              rintro e w3 ⟨rfl, hf3⟩
              have la := hba_2.lt
              have lb := hbb_2.lt
              have lc := hbc_2.lt
              have hl := hfw_2.size
              have hB : Bx w3 w.heap.size a ∧ Bx w3 (w.heap.size + 1) b ∧ Bx w3 (w.heap.size + 2) c := by
                refine ⟨?_, ?_, ?_⟩ <;> ((first | unfold Bx | unfold Bl | skip); refine hf3.obj (noB_not _) ?_; repeat (first | with_reducible exact hba_2.raw | with_reducible exact hbb_2.raw | with_reducible exact hbc_2.raw | (with_reducible refine obj_alloc_at ?_; simp; done) | (with_reducible apply obj_put4; omega) | (with_reducible apply obj_put1; omega) | (with_reducible refine obj_setCell_other ?_ _ _ ?_; rotate_left; (dsimp only; omega)) | with_reducible refine obj_alloc ?_ _ | with_reducible refine obj_drew ?_))
              obtain ⟨hba_3, hbb_3, hbc_3⟩ := hB
              have hfw_3 : Fr noB w w3 := by
                refine Fr.transN ?_ hf3
                repeat (first | with_reducible exact hfw_2 | with_reducible refine Fr.alloc ?_ _ | (with_reducible refine Fr.setCell ?_ ?_ _; rotate_left; (intro h; dsimp only at h; omega)) | with_reducible refine Fr.drew ?_ | exact hfw_2)
              clear hba_2 hbb_2 hbc_2 la lb lc hl ca_0 ca_1 ca_2 ca_3 za cb_0 cb_1 cb_2 cb_3 zb cc_0 cc_1 cc_2 cc_3 zc hf3 hfw_2
              obtain ⟨ca_0, ca_1, ca_2, ca_3, za⟩ := hba_3.cs
              obtain ⟨cb_0, cb_1, cb_2, cb_3, zb⟩ := hbb_3.cs
              obtain ⟨cc_0, cc_1, cc_2, cc_3, zc⟩ := hbc_3.cs
              go_upto_region 4 with fail
              have o0 := Lib.hid (hbc_3.lt)
              have la := hba_3.lt
              have lb := hbb_3.lt
              have lc := hbc_3.lt
              have hl := hfw_3.size
              have po0 := o0.out
              refine wp_world (fun W => Fr noB w W ∧ Bx W w.heap.size a ∧ Bx W (w.heap.size + 1) b ∧ Bx W (w.heap.size + 2) c ∧ Bl W w3.heap.size 2 1 0) ?_ ?_
              · refine ⟨?_, ?_, ?_, ?_, ?_⟩ <;> ((first | unfold Bx | unfold Bl | skip); repeat (first | with_reducible exact hfw_3 | with_reducible refine Fr.alloc ?_ _ | (with_reducible refine Fr.setCell ?_ ?_ _; rotate_left; (intro h; dsimp only at h; omega)) | with_reducible refine Fr.drew ?_ | with_reducible exact hba_3.raw | with_reducible exact hbb_3.raw | with_reducible exact hbc_3.raw | (with_reducible refine obj_alloc_at ?_; simp; done) | (with_reducible apply obj_put4; omega) | (with_reducible apply obj_put1; omega) | (with_reducible refine obj_setCell_other ?_ _ _ ?_; rotate_left; (dsimp only; omega)) | with_reducible refine obj_alloc ?_ _ | with_reducible refine obj_drew ?_ | exact hfw_3))
              clear hba_3 hbb_3 hbc_3 la lb lc hl po0 ca_0 ca_1 ca_2 ca_3 za cb_0 cb_1 cb_2 cb_3 zb cc_0 cc_1 cc_2 cc_3 zc hfw_3
              rintro w4 ⟨hfw_4, hba_4, hbb_4, hbc_4, hbx_4⟩
              obtain ⟨ca_0, ca_1, ca_2, ca_3, za⟩ := hba_4.cs
              obtain ⟨cb_0, cb_1, cb_2, cb_3, zb⟩ := hbb_4.cs
              obtain ⟨cc_0, cc_1, cc_2, cc_3, zc⟩ := hbc_4.cs
              obtain ⟨cx_0, cx_1, cx_2, cx_3, zx⟩ := hbx_4.cs
              go_wp2_with fail
              refine (HYY.out _).mono ?_
              rintro e w5 ⟨rfl, hf5⟩
              have la := hba_4.lt
              have lb := hbb_4.lt
              have lc := hbc_4.lt
              have lx := hbx_4.lt
              have hl := hfw_4.size
              have po0 := o0.out
              have hB : Bx w5 w.heap.size a ∧ Bx w5 (w.heap.size + 1) b ∧ Bx w5 (w.heap.size + 2) c ∧ Bl w5 w3.heap.size 2 1 0 := by
                refine ⟨?_, ?_, ?_, ?_⟩ <;> ((first | unfold Bx | unfold Bl | skip); refine hf5.obj (noB_not _) ?_; repeat (first | with_reducible exact hba_4.raw | with_reducible exact hbb_4.raw | with_reducible exact hbc_4.raw | with_reducible exact hbx_4.raw | (with_reducible refine obj_alloc_at ?_; simp; done) | (with_reducible apply obj_put4; omega) | (with_reducible apply obj_put1; omega) | (with_reducible refine obj_setCell_other ?_ _ _ ?_; rotate_left; (dsimp only; omega)) | with_reducible refine obj_alloc ?_ _ | with_reducible refine obj_drew ?_))
              obtain ⟨hba_5, hbb_5, hbc_5, hbx_5⟩ := hB
              have hfw_5 : Fr noB w w5 := by
                refine Fr.transN ?_ hf5
                repeat (first | with_reducible exact hfw_4 | with_reducible refine Fr.alloc ?_ _ | (with_reducible refine Fr.setCell ?_ ?_ _; rotate_left; (intro h; dsimp only at h; omega)) | with_reducible refine Fr.drew ?_ | exact hfw_4)
              clear hba_4 hbb_4 hbc_4 hbx_4 la lb lc lx hl po0 ca_0 ca_1 ca_2 ca_3 za cb_0 cb_1 cb_2 cb_3 zb cc_0 cc_1 cc_2 cc_3 zc cx_0 cx_1 cx_2 cx_3 zx hf5 hfw_4
              obtain ⟨ca_0, ca_1, ca_2, ca_3, za⟩ := hba_5.cs
              obtain ⟨cb_0, cb_1, cb_2, cb_3, zb⟩ := hbb_5.cs
              obtain ⟨cc_0, cc_1, cc_2, cc_3, zc⟩ := hbc_5.cs
              obtain ⟨cx_0, cx_1, cx_2, cx_3, zx⟩ := hbx_5.cs
              go_upto_region 5 with fail
              have o1 := Lib.hid (hbx_5.lt)
              have la := hba_5.lt
              have lb := hbb_5.lt
              have lc := hbc_5.lt
              have lx := hbx_5.lt
              have hl := hfw_5.size
              have po0 := o0.out
              have po1 := o1.out
              refine wp_world (fun W => Fr noB w W ∧ Bx W w.heap.size a ∧ Bx W (w.heap.size + 1) b ∧ Bx W (w.heap.size + 2) c ∧ Bl W w3.heap.size 2 1 0 ∧ Bl W w5.heap.size 2 0 0) ?_ ?_
              · refine ⟨?_, ?_, ?_, ?_, ?_, ?_⟩ <;> ((first | unfold Bx | unfold Bl | skip); repeat (first | with_reducible exact hfw_5 | with_reducible refine Fr.alloc ?_ _ | (with_reducible refine Fr.setCell ?_ ?_ _; rotate_left; (intro h; dsimp only at h; omega)) | with_reducible refine Fr.drew ?_ | with_reducible exact hba_5.raw | with_reducible exact hbb_5.raw | with_reducible exact hbc_5.raw | with_reducible exact hbx_5.raw | (with_reducible refine obj_alloc_at ?_; simp; done) | (with_reducible apply obj_put4; omega) | (with_reducible apply obj_put1; omega) | (with_reducible refine obj_setCell_other ?_ _ _ ?_; rotate_left; (dsimp only; omega)) | with_reducible refine obj_alloc ?_ _ | with_reducible refine obj_drew ?_ | exact hfw_5))
              clear hba_5 hbb_5 hbc_5 hbx_5 la lb lc lx hl po0 po1 ca_0 ca_1 ca_2 ca_3 za cb_0 cb_1 cb_2 cb_3 zb cc_0 cc_1 cc_2 cc_3 zc cx_0 cx_1 cx_2 cx_3 zx hfw_5
              rintro w6 ⟨hfw_6, hba_6, hbb_6, hbc_6, hbx_6, hby_6⟩
              obtain ⟨ca_0, ca_1, ca_2, ca_3, za⟩ := hba_6.cs
              obtain ⟨cb_0, cb_1, cb_2, cb_3, zb⟩ := hbb_6.cs
              obtain ⟨cc_0, cc_1, cc_2, cc_3, zc⟩ := hbc_6.cs
              obtain ⟨cx_0, cx_1, cx_2, cx_3, zx⟩ := hbx_6.cs
              obtain ⟨cy_0, cy_1, cy_2, cy_3, zy⟩ := hby_6.cs
              go_wp2_with fail
              refine (HZ.out _).mono ?_
              rintro e w7 ⟨rfl, hf7⟩
              have la := hba_6.lt
              have lb := hbb_6.lt
              have lc := hbc_6.lt
              have lx := hbx_6.lt
              have ly := hby_6.lt
              have hl := hfw_6.size
              have po0 := o0.out
              have po1 := o1.out
              have hB : Bx w7 w.heap.size a ∧ Bx w7 (w.heap.size + 1) b ∧ Bx w7 (w.heap.size + 2) c ∧ Bl w7 w3.heap.size 2 1 0 ∧ Bl w7 w5.heap.size 2 0 0 := by
                refine ⟨?_, ?_, ?_, ?_, ?_⟩ <;> ((first | unfold Bx | unfold Bl | skip); refine hf7.obj (noB_not _) ?_; repeat (first | with_reducible exact hba_6.raw | with_reducible exact hbb_6.raw | with_reducible exact hbc_6.raw | with_reducible exact hbx_6.raw | with_reducible exact hby_6.raw | (with_reducible refine obj_alloc_at ?_; simp; done) | (with_reducible apply obj_put4; omega) | (with_reducible apply obj_put1; omega) | (with_reducible refine obj_setCell_other ?_ _ _ ?_; rotate_left; (dsimp only; omega)) | with_reducible refine obj_alloc ?_ _ | with_reducible refine obj_drew ?_))
              obtain ⟨hba_7, hbb_7, hbc_7, hbx_7, hby_7⟩ := hB
              have hfw_7 : Fr noB w w7 := by
                refine Fr.transN ?_ hf7
                repeat (first | with_reducible exact hfw_6 | with_reducible refine Fr.alloc ?_ _ | (with_reducible refine Fr.setCell ?_ ?_ _; rotate_left; (intro h; dsimp only at h; omega)) | with_reducible refine Fr.drew ?_ | exact hfw_6)
              clear hba_6 hbb_6 hbc_6 hbx_6 hby_6 la lb lc lx ly hl po0 po1 ca_0 ca_1 ca_2 ca_3 za cb_0 cb_1 cb_2 cb_3 zb cc_0 cc_1 cc_2 cc_3 zc cx_0 cx_1 cx_2 cx_3 zx cy_0 cy_1 cy_2 cy_3 zy hf7 hfw_6
              obtain ⟨ca_0, ca_1, ca_2, ca_3, za⟩ := hba_7.cs
              obtain ⟨cb_0, cb_1, cb_2, cb_3, zb⟩ := hbb_7.cs
              obtain ⟨cc_0, cc_1, cc_2, cc_3, zc⟩ := hbc_7.cs
              obtain ⟨cx_0, cx_1, cx_2, cx_3, zx⟩ := hbx_7.cs
              obtain ⟨cy_0, cy_1, cy_2, cy_3, zy⟩ := hby_7.cs
              go_upto_region 6 with fail
              have o2 := Lib.hid (hby_7.lt)
              have la := hba_7.lt
              have lb := hbb_7.lt
              have lc := hbc_7.lt
              have lx := hbx_7.lt
              have ly := hby_7.lt
              have hl := hfw_7.size
              have po0 := o0.out
              have po1 := o1.out
              have po2 := o2.out
              refine wp_world (fun W => Fr noB w W ∧ Bx W w.heap.size a ∧ Bx W (w.heap.size + 1) b ∧ Bx W (w.heap.size + 2) c ∧ Bl W w3.heap.size 2 1 0 ∧ Bl W w5.heap.size 2 0 0 ∧ Bl W w7.heap.size 2 0 0) ?_ ?_
              · refine ⟨?_, ?_, ?_, ?_, ?_, ?_, ?_⟩ <;> ((first | unfold Bx | unfold Bl | skip); repeat (first | with_reducible exact hfw_7 | with_reducible refine Fr.alloc ?_ _ | (with_reducible refine Fr.setCell ?_ ?_ _; rotate_left; (intro h; dsimp only at h; omega)) | with_reducible refine Fr.drew ?_ | with_reducible exact hba_7.raw | with_reducible exact hbb_7.raw | with_reducible exact hbc_7.raw | with_reducible exact hbx_7.raw | with_reducible exact hby_7.raw | (with_reducible refine obj_alloc_at ?_; simp; done) | (with_reducible apply obj_put4; omega) | (with_reducible apply obj_put1; omega) | (with_reducible refine obj_setCell_other ?_ _ _ ?_; rotate_left; (dsimp only; omega)) | with_reducible refine obj_alloc ?_ _ | with_reducible refine obj_drew ?_ | exact hfw_7))
              clear hba_7 hbb_7 hbc_7 hbx_7 hby_7 la lb lc lx ly hl po0 po1 po2 ca_0 ca_1 ca_2 ca_3 za cb_0 cb_1 cb_2 cb_3 zb cc_0 cc_1 cc_2 cc_3 zc cx_0 cx_1 cx_2 cx_3 zx cy_0 cy_1 cy_2 cy_3 zy hfw_7
              rintro w8 ⟨hfw_8, hba_8, hbb_8, hbc_8, hbx_8, hby_8, hbz_8⟩
              obtain ⟨ca_0, ca_1, ca_2, ca_3, za⟩ := hba_8.cs
              obtain ⟨cb_0, cb_1, cb_2, cb_3, zb⟩ := hbb_8.cs
              obtain ⟨cc_0, cc_1, cc_2, cc_3, zc⟩ := hbc_8.cs
              obtain ⟨cx_0, cx_1, cx_2, cx_3, zx⟩ := hbx_8.cs
              obtain ⟨cy_0, cy_1, cy_2, cy_3, zy⟩ := hby_8.cs
              obtain ⟨cz_0, cz_1, cz_2, cz_3, zz⟩ := hbz_8.cs
              have f0 := f0.out
              simp only [Bool.or_eq_false_iff] at hn
              obtain ⟨n1, n2⟩ := hn
              unfold nullB at n1 n2
              go_upto_region 11 with fail
              have la := hba_8.lt
              have lb := hbb_8.lt
              have lc := hbc_8.lt
              have lx := hbx_8.lt
              have ly := hby_8.lt
              have lz := hbz_8.lt
              have hl := hfw_8.size
              have po0 := o0.out
              have po1 := o1.out
              have po2 := o2.out
              refine wp_world (fun W => Fr noB w W ∧ Bx W w.heap.size a ∧ Bx W (w.heap.size + 1) b ∧ Bx W (w.heap.size + 2) c ∧ Bl W w3.heap.size 2 1 0 ∧ Bl W w5.heap.size 2 0 0 ∧ Bl W w7.heap.size 2 0 0) ?_ ?_
              · refine ⟨?_, ?_, ?_, ?_, ?_, ?_, ?_⟩ <;> ((first | unfold Bx | unfold Bl | skip); repeat (first | with_reducible exact hfw_8 | with_reducible refine Fr.alloc ?_ _ | (with_reducible refine Fr.setCell ?_ ?_ _; rotate_left; (intro h; dsimp only at h; omega)) | with_reducible refine Fr.drew ?_ | with_reducible exact hba_8.raw | with_reducible exact hbb_8.raw | with_reducible exact hbc_8.raw | with_reducible exact hbx_8.raw | with_reducible exact hby_8.raw | with_reducible exact hbz_8.raw | (with_reducible refine obj_alloc_at ?_; simp; done) | (with_reducible apply obj_put4; omega) | (with_reducible apply obj_put1; omega) | (with_reducible refine obj_setCell_other ?_ _ _ ?_; rotate_left; (dsimp only; omega)) | with_reducible refine obj_alloc ?_ _ | with_reducible refine obj_drew ?_ | exact hfw_8))
              clear hba_8 hbb_8 hbc_8 hbx_8 hby_8 hbz_8 la lb lc lx ly lz hl po0 po1 po2 ca_0 ca_1 ca_2 ca_3 za cb_0 cb_1 cb_2 cb_3 zb cc_0 cc_1 cc_2 cc_3 zc cx_0 cx_1 cx_2 cx_3 zx cy_0 cy_1 cy_2 cy_3 zy cz_0 cz_1 cz_2 cz_3 zz hfw_8
              rintro w9 ⟨hfw_9, hba_9, hbb_9, hbc_9, hbx_9, hby_9, hbz_9⟩
              obtain ⟨ca_0, ca_1, ca_2, ca_3, za⟩ := hba_9.cs
              obtain ⟨cb_0, cb_1, cb_2, cb_3, zb⟩ := hbb_9.cs
              obtain ⟨cc_0, cc_1, cc_2, cc_3, zc⟩ := hbc_9.cs
              obtain ⟨cx_0, cx_1, cx_2, cx_3, zx⟩ := hbx_9.cs
              obtain ⟨cy_0, cy_1, cy_2, cy_3, zy⟩ := hby_9.cs
              obtain ⟨cz_0, cz_1, cz_2, cz_3, zz⟩ := hbz_9.cs
              go_wp2_with fail
              have o3 := Lib.hid (hbz_9.lt)
              have la := hba_9.lt
              have lb := hbb_9.lt
              have lc := hbc_9.lt
              have lx := hbx_9.lt
              have ly := hby_9.lt
              have lz := hbz_9.lt
              have hl := hfw_9.size
              have po0 := o0.out
              have po1 := o1.out
              have po2 := o2.out
              have po3 := o3.out
              refine wp_world (fun W => Fr noB w W ∧ Bx W w.heap.size a ∧ Bx W (w.heap.size + 1) b ∧ Bx W (w.heap.size + 2) c ∧ Bl W w3.heap.size 2 1 0 ∧ Bl W w5.heap.size 2 0 0 ∧ Bl W w7.heap.size 2 0 0 ∧ W.heap[w9.heap.size]? = some (.cells #[.int .u8 2, .int .i64 1, .int .i64 0, .string ⟨#[]⟩, .int .u8 2, .int .i64 0, .int .i64 0, .string ⟨#[]⟩, .int .u8 2, .int .i64 0, .int .i64 0, .string ⟨#[]⟩] 23 (0, 0))) ?_ ?_
              · refine ⟨?_, ?_, ?_, ?_, ?_, ?_, ?_, ?_⟩ <;> ((first | unfold Bx | unfold Bl | skip); repeat (first | with_reducible exact hfw_9 | with_reducible refine Fr.alloc ?_ _ | (with_reducible refine Fr.setCell ?_ ?_ _; rotate_left; (intro h; dsimp only at h; omega)) | with_reducible refine Fr.drew ?_ | with_reducible exact hba_9.raw | with_reducible exact hbb_9.raw | with_reducible exact hbc_9.raw | with_reducible exact hbx_9.raw | with_reducible exact hby_9.raw | with_reducible exact hbz_9.raw | (with_reducible refine obj_alloc_at ?_; simp; done) | (with_reducible apply obj_put4; omega) | (with_reducible apply obj_put1; omega) | (with_reducible refine obj_setCell_other ?_ _ _ ?_; rotate_left; (dsimp only; omega)) | with_reducible refine obj_alloc ?_ _ | with_reducible refine obj_drew ?_ | exact hfw_9))
              clear hba_9 hbb_9 hbc_9 hbx_9 hby_9 hbz_9 la lb lc lx ly lz hl po0 po1 po2 po3 ca_0 ca_1 ca_2 ca_3 za cb_0 cb_1 cb_2 cb_3 zb cc_0 cc_1 cc_2 cc_3 zc cx_0 cx_1 cx_2 cx_3 zx cy_0 cy_1 cy_2 cy_3 zy cz_0 cz_1 cz_2 cz_3 zz hfw_9
              rintro w10 ⟨hfw_10, hba_10, hbb_10, hbc_10, hbx_10, hby_10, hbz_10, hbs_10⟩
              obtain ⟨ca_0, ca_1, ca_2, ca_3, za⟩ := hba_10.cs
              obtain ⟨cb_0, cb_1, cb_2, cb_3, zb⟩ := hbb_10.cs
              obtain ⟨cc_0, cc_1, cc_2, cc_3, zc⟩ := hbc_10.cs
              obtain ⟨cx_0, cx_1, cx_2, cx_3, zx⟩ := hbx_10.cs
              obtain ⟨cy_0, cy_1, cy_2, cy_3, zy⟩ := hby_10.cs
              obtain ⟨cz_0, cz_1, cz_2, cz_3, zz⟩ := hbz_10.cs
              have cs_0 : w10.cell? ⟨w9.heap.size, 0, none⟩ = some (.int .u8 2) := by rw [cell_of_obj hbs_10]; rfl
              have cs_1 : w10.cell? ⟨w9.heap.size, 1, none⟩ = some (.int .i64 1) := by rw [cell_of_obj hbs_10]; rfl
              have cs_2 : w10.cell? ⟨w9.heap.size, 2, none⟩ = some (.int .i64 0) := by rw [cell_of_obj hbs_10]; rfl
              have cs_3 : w10.cell? ⟨w9.heap.size, 3, none⟩ = some (.string ⟨#[]⟩) := by rw [cell_of_obj hbs_10]; rfl
              have cs_4 : w10.cell? ⟨w9.heap.size, 4, none⟩ = some (.int .u8 2) := by rw [cell_of_obj hbs_10]; rfl
              have cs_5 : w10.cell? ⟨w9.heap.size, 5, none⟩ = some (.int .i64 0) := by rw [cell_of_obj hbs_10]; rfl
              have cs_6 : w10.cell? ⟨w9.heap.size, 6, none⟩ = some (.int .i64 0) := by rw [cell_of_obj hbs_10]; rfl
              have cs_7 : w10.cell? ⟨w9.heap.size, 7, none⟩ = some (.string ⟨#[]⟩) := by rw [cell_of_obj hbs_10]; rfl
              have cs_8 : w10.cell? ⟨w9.heap.size, 8, none⟩ = some (.int .u8 2) := by rw [cell_of_obj hbs_10]; rfl
              have cs_9 : w10.cell? ⟨w9.heap.size, 9, none⟩ = some (.int .i64 0) := by rw [cell_of_obj hbs_10]; rfl
              have cs_10 : w10.cell? ⟨w9.heap.size, 10, none⟩ = some (.int .i64 0) := by rw [cell_of_obj hbs_10]; rfl
              have cs_11 : w10.cell? ⟨w9.heap.size, 11, none⟩ = some (.string ⟨#[]⟩) := by rw [cell_of_obj hbs_10]; rfl
              have zs := frozen_of_obj hbs_10
              go_loopg [112, 13] 3 (fun gh iv nv wr => ∃ i : Nat, i ≤ 3 ∧ gh = 3 - i ∧ iv = .int .i64 i ∧ ((i = 0 ∧ nv = .int .i64 0) ∨ (i = 1 ∧ nv = .int .i64 1) ∨ (i = 2 ∧ nv = .int .i64 1) ∨ (i = 3 ∧ nv = .int .i64 1)) ∧ Fr noB w10 wr)
              case atStart => exact ⟨0, by omega, by omega, rfl, .inl ⟨rfl, rfl⟩, Fr.refl _ _⟩
              case round =>
                obtain ⟨i, hi, rfl, rfl, hnv, hf⟩ := hrel
                rcases hnv with ⟨rfl, rfl⟩ | ⟨rfl, rfl⟩ | ⟨rfl, rfl⟩ | ⟨rfl, rfl⟩
                · have hs := hf.obj (fun x => x) hbs_10
                  clear hba_10 hbb_10 hbc_10 hbx_10 hby_10 hbz_10 hbs_10 ca_0 ca_1 ca_2 ca_3 za cb_0 cb_1 cb_2 cb_3 zb cc_0 cc_1 cc_2 cc_3 zc cx_0 cx_1 cx_2 cx_3 zx cy_0 cy_1 cy_2 cy_3 zy cz_0 cz_1 cz_2 cz_3 zz cs_0 cs_1 cs_2 cs_3 cs_4 cs_5 cs_6 cs_7 cs_8 cs_9 cs_10 cs_11 zs hi
                  have d0 : wr.cell? ⟨w9.heap.size, 0, none⟩ = some (.int .u8 2) := by rw [cell_of_obj hs]; rfl
                  have d1 : wr.cell? ⟨w9.heap.size, 1, none⟩ = some (.int .i64 1) := by rw [cell_of_obj hs]; rfl
                  have d2 : wr.cell? ⟨w9.heap.size, 2, none⟩ = some (.int .i64 0) := by rw [cell_of_obj hs]; rfl
                  have d3 : wr.cell? ⟨w9.heap.size, 3, none⟩ = some (.string ⟨#[]⟩) := by rw [cell_of_obj hs]; rfl
                  go_wp2_with fail
                  refine (HY1.out _).mono ?_
                  rintro e x1 ⟨rfl, hf2⟩
                  go_wp2_with fail
                  go_roundg 2
                  case measure => omega
                  case rel => exact ⟨1, by omega, by omega, by go_num, .inr (.inl ⟨rfl, by go_num⟩), (hf.alloc _).trans hf2⟩
                · have hs := hf.obj (fun x => x) hbs_10
                  clear hba_10 hbb_10 hbc_10 hbx_10 hby_10 hbz_10 hbs_10 ca_0 ca_1 ca_2 ca_3 za cb_0 cb_1 cb_2 cb_3 zb cc_0 cc_1 cc_2 cc_3 zc cx_0 cx_1 cx_2 cx_3 zx cy_0 cy_1 cy_2 cy_3 zy cz_0 cz_1 cz_2 cz_3 zz cs_0 cs_1 cs_2 cs_3 cs_4 cs_5 cs_6 cs_7 cs_8 cs_9 cs_10 cs_11 zs hi
                  have d0 : wr.cell? ⟨w9.heap.size, 4, none⟩ = some (.int .u8 2) := by rw [cell_of_obj hs]; rfl
                  have d1 : wr.cell? ⟨w9.heap.size, 5, none⟩ = some (.int .i64 0) := by rw [cell_of_obj hs]; rfl
                  have d2 : wr.cell? ⟨w9.heap.size, 6, none⟩ = some (.int .i64 0) := by rw [cell_of_obj hs]; rfl
                  have d3 : wr.cell? ⟨w9.heap.size, 7, none⟩ = some (.string ⟨#[]⟩) := by rw [cell_of_obj hs]; rfl
                  go_wp2_with fail
                  refine (HY0.out _).mono ?_
                  rintro e x1 ⟨rfl, hf2⟩
                  go_wp2_with fail
                  go_roundg 1
                  case measure => omega
                  case rel => exact ⟨2, by omega, by omega, by go_num, .inr (.inr (.inl ⟨rfl, by go_num⟩)), (hf.alloc _).trans hf2⟩
                · have hs := hf.obj (fun x => x) hbs_10
                  clear hba_10 hbb_10 hbc_10 hbx_10 hby_10 hbz_10 hbs_10 ca_0 ca_1 ca_2 ca_3 za cb_0 cb_1 cb_2 cb_3 zb cc_0 cc_1 cc_2 cc_3 zc cx_0 cx_1 cx_2 cx_3 zx cy_0 cy_1 cy_2 cy_3 zy cz_0 cz_1 cz_2 cz_3 zz cs_0 cs_1 cs_2 cs_3 cs_4 cs_5 cs_6 cs_7 cs_8 cs_9 cs_10 cs_11 zs hi
                  have d0 : wr.cell? ⟨w9.heap.size, 8, none⟩ = some (.int .u8 2) := by rw [cell_of_obj hs]; rfl
                  have d1 : wr.cell? ⟨w9.heap.size, 9, none⟩ = some (.int .i64 0) := by rw [cell_of_obj hs]; rfl
                  have d2 : wr.cell? ⟨w9.heap.size, 10, none⟩ = some (.int .i64 0) := by rw [cell_of_obj hs]; rfl
                  have d3 : wr.cell? ⟨w9.heap.size, 11, none⟩ = some (.string ⟨#[]⟩) := by rw [cell_of_obj hs]; rfl
                  go_wp2_with fail
                  refine (HY0.out _).mono ?_
                  rintro e x1 ⟨rfl, hf2⟩
                  go_wp2_with fail
                  go_roundg 0
                  case measure => omega
                  case rel => exact ⟨3, by omega, by omega, by go_num, .inr (.inr (.inr ⟨rfl, by go_num⟩)), (hf.alloc _).trans hf2⟩
                · clear hi
                  have hba_11 := hba_10.mv hf
                  have hbb_11 := hbb_10.mv hf
                  have hbc_11 := hbc_10.mv hf
                  have hbx_11 := hbx_10.mv hf
                  have hby_11 := hby_10.mv hf
                  have hbz_11 := hbz_10.mv hf
                  have hbs_11 := raw_mv hbs_10 hf
                  have hfw_11 := hfw_10.transN hf
                  clear hba_10 hbb_10 hbc_10 hbx_10 hby_10 hbz_10 hbs_10 ca_0 ca_1 ca_2 ca_3 za cb_0 cb_1 cb_2 cb_3 zb cc_0 cc_1 cc_2 cc_3 zc cx_0 cx_1 cx_2 cx_3 zx cy_0 cy_1 cy_2 cy_3 zy cz_0 cz_1 cz_2 cz_3 zz cs_0 cs_1 cs_2 cs_3 cs_4 cs_5 cs_6 cs_7 cs_8 cs_9 cs_10 cs_11 zs hf hfw_10
                  obtain ⟨ca_0, ca_1, ca_2, ca_3, za⟩ := hba_11.cs
                  obtain ⟨cb_0, cb_1, cb_2, cb_3, zb⟩ := hbb_11.cs
                  obtain ⟨cc_0, cc_1, cc_2, cc_3, zc⟩ := hbc_11.cs
                  obtain ⟨cx_0, cx_1, cx_2, cx_3, zx⟩ := hbx_11.cs
                  obtain ⟨cy_0, cy_1, cy_2, cy_3, zy⟩ := hby_11.cs
                  obtain ⟨cz_0, cz_1, cz_2, cz_3, zz⟩ := hbz_11.cs
                  have cs_0 : wr.cell? ⟨w9.heap.size, 0, none⟩ = some (.int .u8 2) := by rw [cell_of_obj hbs_11]; rfl
                  have cs_1 : wr.cell? ⟨w9.heap.size, 1, none⟩ = some (.int .i64 1) := by rw [cell_of_obj hbs_11]; rfl
                  have cs_2 : wr.cell? ⟨w9.heap.size, 2, none⟩ = some (.int .i64 0) := by rw [cell_of_obj hbs_11]; rfl
                  have cs_3 : wr.cell? ⟨w9.heap.size, 3, none⟩ = some (.string ⟨#[]⟩) := by rw [cell_of_obj hbs_11]; rfl
                  have cs_4 : wr.cell? ⟨w9.heap.size, 4, none⟩ = some (.int .u8 2) := by rw [cell_of_obj hbs_11]; rfl
                  have cs_5 : wr.cell? ⟨w9.heap.size, 5, none⟩ = some (.int .i64 0) := by rw [cell_of_obj hbs_11]; rfl
                  have cs_6 : wr.cell? ⟨w9.heap.size, 6, none⟩ = some (.int .i64 0) := by rw [cell_of_obj hbs_11]; rfl
                  have cs_7 : wr.cell? ⟨w9.heap.size, 7, none⟩ = some (.string ⟨#[]⟩) := by rw [cell_of_obj hbs_11]; rfl
                  have cs_8 : wr.cell? ⟨w9.heap.size, 8, none⟩ = some (.int .u8 2) := by rw [cell_of_obj hbs_11]; rfl
                  have cs_9 : wr.cell? ⟨w9.heap.size, 9, none⟩ = some (.int .i64 0) := by rw [cell_of_obj hbs_11]; rfl
                  have cs_10 : wr.cell? ⟨w9.heap.size, 10, none⟩ = some (.int .i64 0) := by rw [cell_of_obj hbs_11]; rfl
                  have cs_11 : wr.cell? ⟨w9.heap.size, 11, none⟩ = some (.string ⟨#[]⟩) := by rw [cell_of_obj hbs_11]; rfl
                  have zs := frozen_of_obj hbs_11
                  go_wp2_with fail
                  refine (HU.out _).mono ?_
                  rintro e w12 ⟨rfl, hf12⟩
                  have la := hba_11.lt
                  have lb := hbb_11.lt
                  have lc := hbc_11.lt
                  have lx := hbx_11.lt
                  have ly := hby_11.lt
                  have lz := hbz_11.lt
                  have ls := obj_lt hbs_11
                  have hl := hfw_11.size
                  have po0 := o0.out
                  have po1 := o1.out
                  have po2 := o2.out
                  have po3 := o3.out
                  have hB : Bx w12 w.heap.size a ∧ Bx w12 (w.heap.size + 1) b ∧ Bx w12 (w.heap.size + 2) c ∧ Bl w12 w3.heap.size 2 1 0 ∧ Bl w12 w5.heap.size 2 0 0 ∧ Bl w12 w7.heap.size 2 0 0 ∧ w12.heap[w9.heap.size]? = some (.cells #[.int .u8 2, .int .i64 1, .int .i64 0, .string ⟨#[]⟩, .int .u8 2, .int .i64 0, .int .i64 0, .string ⟨#[]⟩, .int .u8 2, .int .i64 0, .int .i64 0, .string ⟨#[]⟩] 23 (0, 0)) := by
                    refine ⟨?_, ?_, ?_, ?_, ?_, ?_, ?_⟩ <;> ((first | unfold Bx | unfold Bl | skip); refine hf12.obj (noB_not _) ?_; repeat (first | with_reducible exact hba_11.raw | with_reducible exact hbb_11.raw | with_reducible exact hbc_11.raw | with_reducible exact hbx_11.raw | with_reducible exact hby_11.raw | with_reducible exact hbz_11.raw | with_reducible exact hbs_11 | (with_reducible refine obj_alloc_at ?_; simp; done) | (with_reducible apply obj_put4; omega) | (with_reducible apply obj_put1; omega) | (with_reducible refine obj_setCell_other ?_ _ _ ?_; rotate_left; (dsimp only; omega)) | with_reducible refine obj_alloc ?_ _ | with_reducible refine obj_drew ?_))
                  obtain ⟨hba_12, hbb_12, hbc_12, hbx_12, hby_12, hbz_12, hbs_12⟩ := hB
                  have hfw_12 : Fr noB w w12 := by
                    refine Fr.transN ?_ hf12
                    repeat (first | with_reducible exact hfw_11 | with_reducible refine Fr.alloc ?_ _ | (with_reducible refine Fr.setCell ?_ ?_ _; rotate_left; (intro h; dsimp only at h; omega)) | with_reducible refine Fr.drew ?_ | exact hfw_11)
                  clear hba_11 hbb_11 hbc_11 hbx_11 hby_11 hbz_11 hbs_11 la lb lc lx ly lz ls hl po0 po1 po2 po3 ca_0 ca_1 ca_2 ca_3 za cb_0 cb_1 cb_2 cb_3 zb cc_0 cc_1 cc_2 cc_3 zc cx_0 cx_1 cx_2 cx_3 zx cy_0 cy_1 cy_2 cy_3 zy cz_0 cz_1 cz_2 cz_3 zz cs_0 cs_1 cs_2 cs_3 cs_4 cs_5 cs_6 cs_7 cs_8 cs_9 cs_10 cs_11 zs hf12 hfw_11
                  obtain ⟨ca_0, ca_1, ca_2, ca_3, za⟩ := hba_12.cs
                  obtain ⟨cb_0, cb_1, cb_2, cb_3, zb⟩ := hbb_12.cs
                  obtain ⟨cc_0, cc_1, cc_2, cc_3, zc⟩ := hbc_12.cs
                  obtain ⟨cx_0, cx_1, cx_2, cx_3, zx⟩ := hbx_12.cs
                  obtain ⟨cy_0, cy_1, cy_2, cy_3, zy⟩ := hby_12.cs
                  obtain ⟨cz_0, cz_1, cz_2, cz_3, zz⟩ := hbz_12.cs
                  have cs_0 : w12.cell? ⟨w9.heap.size, 0, none⟩ = some (.int .u8 2) := by rw [cell_of_obj hbs_12]; rfl
                  have cs_1 : w12.cell? ⟨w9.heap.size, 1, none⟩ = some (.int .i64 1) := by rw [cell_of_obj hbs_12]; rfl
                  have cs_2 : w12.cell? ⟨w9.heap.size, 2, none⟩ = some (.int .i64 0) := by rw [cell_of_obj hbs_12]; rfl
                  have cs_3 : w12.cell? ⟨w9.heap.size, 3, none⟩ = some (.string ⟨#[]⟩) := by rw [cell_of_obj hbs_12]; rfl
                  have cs_4 : w12.cell? ⟨w9.heap.size, 4, none⟩ = some (.int .u8 2) := by rw [cell_of_obj hbs_12]; rfl
                  have cs_5 : w12.cell? ⟨w9.heap.size, 5, none⟩ = some (.int .i64 0) := by rw [cell_of_obj hbs_12]; rfl
                  have cs_6 : w12.cell? ⟨w9.heap.size, 6, none⟩ = some (.int .i64 0) := by rw [cell_of_obj hbs_12]; rfl
                  have cs_7 : w12.cell? ⟨w9.heap.size, 7, none⟩ = some (.string ⟨#[]⟩) := by rw [cell_of_obj hbs_12]; rfl
                  have cs_8 : w12.cell? ⟨w9.heap.size, 8, none⟩ = some (.int .u8 2) := by rw [cell_of_obj hbs_12]; rfl
                  have cs_9 : w12.cell? ⟨w9.heap.size, 9, none⟩ = some (.int .i64 0) := by rw [cell_of_obj hbs_12]; rfl
                  have cs_10 : w12.cell? ⟨w9.heap.size, 10, none⟩ = some (.int .i64 0) := by rw [cell_of_obj hbs_12]; rfl
                  have cs_11 : w12.cell? ⟨w9.heap.size, 11, none⟩ = some (.string ⟨#[]⟩) := by rw [cell_of_obj hbs_12]; rfl
                  have zs := frozen_of_obj hbs_12
                  go_upto_region 20 with fail
                  have o4 := Lib.hid (obj_lt hbs_12)
                  have la := hba_12.lt
                  have lb := hbb_12.lt
                  have lc := hbc_12.lt
                  have lx := hbx_12.lt
                  have ly := hby_12.lt
                  have lz := hbz_12.lt
                  have ls := obj_lt hbs_12
                  have hl := hfw_12.size
                  have po0 := o0.out
                  have po1 := o1.out
                  have po2 := o2.out
                  have po3 := o3.out
                  have po4 := o4.out
                  refine wp_world (fun W => Fr noB w W ∧ Bx W w.heap.size a ∧ Bx W (w.heap.size + 1) b ∧ Bx W (w.heap.size + 2) c ∧ Bl W w3.heap.size 2 1 0 ∧ Bl W w5.heap.size 2 0 0 ∧ Bl W w7.heap.size 2 0 0 ∧ W.heap[w9.heap.size]? = some (.cells #[.int .u8 2, .int .i64 1, .int .i64 0, .string ⟨#[]⟩, .int .u8 2, .int .i64 0, .int .i64 0, .string ⟨#[]⟩, .int .u8 2, .int .i64 0, .int .i64 0, .string ⟨#[]⟩] 23 (0, 0)) ∧ Bx W w12.heap.size U.1) ?_ ?_
                  · refine ⟨?_, ?_, ?_, ?_, ?_, ?_, ?_, ?_, ?_⟩ <;> ((first | unfold Bx | unfold Bl | skip); repeat (first | with_reducible exact hfw_12 | with_reducible refine Fr.alloc ?_ _ | (with_reducible refine Fr.setCell ?_ ?_ _; rotate_left; (intro h; dsimp only at h; omega)) | with_reducible refine Fr.drew ?_ | with_reducible exact hba_12.raw | with_reducible exact hbb_12.raw | with_reducible exact hbc_12.raw | with_reducible exact hbx_12.raw | with_reducible exact hby_12.raw | with_reducible exact hbz_12.raw | with_reducible exact hbs_12 | (with_reducible refine obj_alloc_at ?_; simp; done) | (with_reducible apply obj_put4; omega) | (with_reducible apply obj_put1; omega) | (with_reducible refine obj_setCell_other ?_ _ _ ?_; rotate_left; (dsimp only; omega)) | with_reducible refine obj_alloc ?_ _ | with_reducible refine obj_drew ?_ | exact hfw_12))
                  clear hba_12 hbb_12 hbc_12 hbx_12 hby_12 hbz_12 hbs_12 la lb lc lx ly lz ls hl po0 po1 po2 po3 po4 ca_0 ca_1 ca_2 ca_3 za cb_0 cb_1 cb_2 cb_3 zb cc_0 cc_1 cc_2 cc_3 zc cx_0 cx_1 cx_2 cx_3 zx cy_0 cy_1 cy_2 cy_3 zy cz_0 cz_1 cz_2 cz_3 zz cs_0 cs_1 cs_2 cs_3 cs_4 cs_5 cs_6 cs_7 cs_8 cs_9 cs_10 cs_11 zs hfw_12
                  rintro w13 ⟨hfw_13, hba_13, hbb_13, hbc_13, hbx_13, hby_13, hbz_13, hbs_13, hbu_13⟩
                  obtain ⟨ca_0, ca_1, ca_2, ca_3, za⟩ := hba_13.cs
                  obtain ⟨cb_0, cb_1, cb_2, cb_3, zb⟩ := hbb_13.cs
                  obtain ⟨cc_0, cc_1, cc_2, cc_3, zc⟩ := hbc_13.cs
                  obtain ⟨cx_0, cx_1, cx_2, cx_3, zx⟩ := hbx_13.cs
                  obtain ⟨cy_0, cy_1, cy_2, cy_3, zy⟩ := hby_13.cs
                  obtain ⟨cz_0, cz_1, cz_2, cz_3, zz⟩ := hbz_13.cs
                  have cs_0 : w13.cell? ⟨w9.heap.size, 0, none⟩ = some (.int .u8 2) := by rw [cell_of_obj hbs_13]; rfl
                  have cs_1 : w13.cell? ⟨w9.heap.size, 1, none⟩ = some (.int .i64 1) := by rw [cell_of_obj hbs_13]; rfl
                  have cs_2 : w13.cell? ⟨w9.heap.size, 2, none⟩ = some (.int .i64 0) := by rw [cell_of_obj hbs_13]; rfl
                  have cs_3 : w13.cell? ⟨w9.heap.size, 3, none⟩ = some (.string ⟨#[]⟩) := by rw [cell_of_obj hbs_13]; rfl
                  have cs_4 : w13.cell? ⟨w9.heap.size, 4, none⟩ = some (.int .u8 2) := by rw [cell_of_obj hbs_13]; rfl
                  have cs_5 : w13.cell? ⟨w9.heap.size, 5, none⟩ = some (.int .i64 0) := by rw [cell_of_obj hbs_13]; rfl
                  have cs_6 : w13.cell? ⟨w9.heap.size, 6, none⟩ = some (.int .i64 0) := by rw [cell_of_obj hbs_13]; rfl
                  have cs_7 : w13.cell? ⟨w9.heap.size, 7, none⟩ = some (.string ⟨#[]⟩) := by rw [cell_of_obj hbs_13]; rfl
                  have cs_8 : w13.cell? ⟨w9.heap.size, 8, none⟩ = some (.int .u8 2) := by rw [cell_of_obj hbs_13]; rfl
                  have cs_9 : w13.cell? ⟨w9.heap.size, 9, none⟩ = some (.int .i64 0) := by rw [cell_of_obj hbs_13]; rfl
                  have cs_10 : w13.cell? ⟨w9.heap.size, 10, none⟩ = some (.int .i64 0) := by rw [cell_of_obj hbs_13]; rfl
                  have cs_11 : w13.cell? ⟨w9.heap.size, 11, none⟩ = some (.string ⟨#[]⟩) := by rw [cell_of_obj hbs_13]; rfl
                  have zs := frozen_of_obj hbs_13
                  obtain ⟨cu_0, cu_1, cu_2, cu_3, zu⟩ := hbu_13.cs
                  go_wp2_with fail
                  refine (HTT.out _).mono ?_
                  rintro e w14 ⟨rfl, hf14⟩
                  have la := hba_13.lt
                  have lb := hbb_13.lt
                  have lc := hbc_13.lt
                  have lx := hbx_13.lt
                  have ly := hby_13.lt
                  have lz := hbz_13.lt
                  have ls := obj_lt hbs_13
                  have lu := hbu_13.lt
                  have hl := hfw_13.size
                  have po0 := o0.out
                  have po1 := o1.out
                  have po2 := o2.out
                  have po3 := o3.out
                  have po4 := o4.out
                  have hB : Bx w14 w.heap.size a ∧ Bx w14 (w.heap.size + 1) b ∧ Bx w14 (w.heap.size + 2) c ∧ Bl w14 w3.heap.size 2 1 0 ∧ Bl w14 w5.heap.size 2 0 0 ∧ Bl w14 w7.heap.size 2 0 0 ∧ w14.heap[w9.heap.size]? = some (.cells #[.int .u8 2, .int .i64 1, .int .i64 0, .string ⟨#[]⟩, .int .u8 2, .int .i64 0, .int .i64 0, .string ⟨#[]⟩, .int .u8 2, .int .i64 0, .int .i64 0, .string ⟨#[]⟩] 23 (0, 0)) ∧ Bx w14 w12.heap.size U.1 := by
                    refine ⟨?_, ?_, ?_, ?_, ?_, ?_, ?_, ?_⟩ <;> ((first | unfold Bx | unfold Bl | skip); refine hf14.obj (noB_not _) ?_; repeat (first | with_reducible exact hba_13.raw | with_reducible exact hbb_13.raw | with_reducible exact hbc_13.raw | with_reducible exact hbx_13.raw | with_reducible exact hby_13.raw | with_reducible exact hbz_13.raw | with_reducible exact hbs_13 | with_reducible exact hbu_13.raw | (with_reducible refine obj_alloc_at ?_; simp; done) | (with_reducible apply obj_put4; omega) | (with_reducible apply obj_put1; omega) | (with_reducible refine obj_setCell_other ?_ _ _ ?_; rotate_left; (dsimp only; omega)) | with_reducible refine obj_alloc ?_ _ | with_reducible refine obj_drew ?_))
                  obtain ⟨hba_14, hbb_14, hbc_14, hbx_14, hby_14, hbz_14, hbs_14, hbu_14⟩ := hB
                  have hfw_14 : Fr noB w w14 := by
                    refine Fr.transN ?_ hf14
                    repeat (first | with_reducible exact hfw_13 | with_reducible refine Fr.alloc ?_ _ | (with_reducible refine Fr.setCell ?_ ?_ _; rotate_left; (intro h; dsimp only at h; omega)) | with_reducible refine Fr.drew ?_ | exact hfw_13)
                  clear hba_13 hbb_13 hbc_13 hbx_13 hby_13 hbz_13 hbs_13 hbu_13 la lb lc lx ly lz ls lu hl po0 po1 po2 po3 po4 ca_0 ca_1 ca_2 ca_3 za cb_0 cb_1 cb_2 cb_3 zb cc_0 cc_1 cc_2 cc_3 zc cx_0 cx_1 cx_2 cx_3 zx cy_0 cy_1 cy_2 cy_3 zy cz_0 cz_1 cz_2 cz_3 zz cs_0 cs_1 cs_2 cs_3 cs_4 cs_5 cs_6 cs_7 cs_8 cs_9 cs_10 cs_11 zs cu_0 cu_1 cu_2 cu_3 zu hf14 hfw_13
                  obtain ⟨ca_0, ca_1, ca_2, ca_3, za⟩ := hba_14.cs
                  obtain ⟨cb_0, cb_1, cb_2, cb_3, zb⟩ := hbb_14.cs
                  obtain ⟨cc_0, cc_1, cc_2, cc_3, zc⟩ := hbc_14.cs
                  obtain ⟨cx_0, cx_1, cx_2, cx_3, zx⟩ := hbx_14.cs
                  obtain ⟨cy_0, cy_1, cy_2, cy_3, zy⟩ := hby_14.cs
                  obtain ⟨cz_0, cz_1, cz_2, cz_3, zz⟩ := hbz_14.cs
                  have cs_0 : w14.cell? ⟨w9.heap.size, 0, none⟩ = some (.int .u8 2) := by rw [cell_of_obj hbs_14]; rfl
                  have cs_1 : w14.cell? ⟨w9.heap.size, 1, none⟩ = some (.int .i64 1) := by rw [cell_of_obj hbs_14]; rfl
                  have cs_2 : w14.cell? ⟨w9.heap.size, 2, none⟩ = some (.int .i64 0) := by rw [cell_of_obj hbs_14]; rfl
                  have cs_3 : w14.cell? ⟨w9.heap.size, 3, none⟩ = some (.string ⟨#[]⟩) := by rw [cell_of_obj hbs_14]; rfl
                  have cs_4 : w14.cell? ⟨w9.heap.size, 4, none⟩ = some (.int .u8 2) := by rw [cell_of_obj hbs_14]; rfl
                  have cs_5 : w14.cell? ⟨w9.heap.size, 5, none⟩ = some (.int .i64 0) := by rw [cell_of_obj hbs_14]; rfl
                  have cs_6 : w14.cell? ⟨w9.heap.size, 6, none⟩ = some (.int .i64 0) := by rw [cell_of_obj hbs_14]; rfl
                  have cs_7 : w14.cell? ⟨w9.heap.size, 7, none⟩ = some (.string ⟨#[]⟩) := by rw [cell_of_obj hbs_14]; rfl
                  have cs_8 : w14.cell? ⟨w9.heap.size, 8, none⟩ = some (.int .u8 2) := by rw [cell_of_obj hbs_14]; rfl
                  have cs_9 : w14.cell? ⟨w9.heap.size, 9, none⟩ = some (.int .i64 0) := by rw [cell_of_obj hbs_14]; rfl
                  have cs_10 : w14.cell? ⟨w9.heap.size, 10, none⟩ = some (.int .i64 0) := by rw [cell_of_obj hbs_14]; rfl
                  have cs_11 : w14.cell? ⟨w9.heap.size, 11, none⟩ = some (.string ⟨#[]⟩) := by rw [cell_of_obj hbs_14]; rfl
                  have zs := frozen_of_obj hbs_14
                  obtain ⟨cu_0, cu_1, cu_2, cu_3, zu⟩ := hbu_14.cs
                  go_upto_region 21 with fail
                  have o5 := Lib.hid (hbu_14.lt)
                  have la := hba_14.lt
                  have lb := hbb_14.lt
                  have lc := hbc_14.lt
                  have lx := hbx_14.lt
                  have ly := hby_14.lt
                  have lz := hbz_14.lt
                  have ls := obj_lt hbs_14
                  have lu := hbu_14.lt
                  have hl := hfw_14.size
                  have po0 := o0.out
                  have po1 := o1.out
                  have po2 := o2.out
                  have po3 := o3.out
                  have po4 := o4.out
                  have po5 := o5.out
                  refine wp_world (fun W => Fr noB w W ∧ Bx W w.heap.size a ∧ Bx W (w.heap.size + 1) b ∧ Bx W (w.heap.size + 2) c ∧ Bl W w3.heap.size 2 1 0 ∧ Bl W w5.heap.size 2 0 0 ∧ Bl W w7.heap.size 2 0 0 ∧ W.heap[w9.heap.size]? = some (.cells #[.int .u8 2, .int .i64 1, .int .i64 0, .string ⟨#[]⟩, .int .u8 2, .int .i64 0, .int .i64 0, .string ⟨#[]⟩, .int .u8 2, .int .i64 0, .int .i64 0, .string ⟨#[]⟩] 23 (0, 0)) ∧ Bx W w12.heap.size U.1 ∧ Bx W w14.heap.size T.1) ?_ ?_
                  · refine ⟨?_, ?_, ?_, ?_, ?_, ?_, ?_, ?_, ?_, ?_⟩ <;> ((first | unfold Bx | unfold Bl | skip); repeat (first | with_reducible exact hfw_14 | with_reducible refine Fr.alloc ?_ _ | (with_reducible refine Fr.setCell ?_ ?_ _; rotate_left; (intro h; dsimp only at h; omega)) | with_reducible refine Fr.drew ?_ | with_reducible exact hba_14.raw | with_reducible exact hbb_14.raw | with_reducible exact hbc_14.raw | with_reducible exact hbx_14.raw | with_reducible exact hby_14.raw | with_reducible exact hbz_14.raw | with_reducible exact hbs_14 | with_reducible exact hbu_14.raw | (with_reducible refine obj_alloc_at ?_; simp; done) | (with_reducible apply obj_put4; omega) | (with_reducible apply obj_put1; omega) | (with_reducible refine obj_setCell_other ?_ _ _ ?_; rotate_left; (dsimp only; omega)) | with_reducible refine obj_alloc ?_ _ | with_reducible refine obj_drew ?_ | exact hfw_14))
                  clear hba_14 hbb_14 hbc_14 hbx_14 hby_14 hbz_14 hbs_14 hbu_14 la lb lc lx ly lz ls lu hl po0 po1 po2 po3 po4 po5 ca_0 ca_1 ca_2 ca_3 za cb_0 cb_1 cb_2 cb_3 zb cc_0 cc_1 cc_2 cc_3 zc cx_0 cx_1 cx_2 cx_3 zx cy_0 cy_1 cy_2 cy_3 zy cz_0 cz_1 cz_2 cz_3 zz cs_0 cs_1 cs_2 cs_3 cs_4 cs_5 cs_6 cs_7 cs_8 cs_9 cs_10 cs_11 zs cu_0 cu_1 cu_2 cu_3 zu hfw_14
                  rintro w15 ⟨hfw_15, hba_15, hbb_15, hbc_15, hbx_15, hby_15, hbz_15, hbs_15, hbu_15, hbt_15⟩
                  obtain ⟨ca_0, ca_1, ca_2, ca_3, za⟩ := hba_15.cs
                  obtain ⟨cb_0, cb_1, cb_2, cb_3, zb⟩ := hbb_15.cs
                  obtain ⟨cc_0, cc_1, cc_2, cc_3, zc⟩ := hbc_15.cs
                  obtain ⟨cx_0, cx_1, cx_2, cx_3, zx⟩ := hbx_15.cs
                  obtain ⟨cy_0, cy_1, cy_2, cy_3, zy⟩ := hby_15.cs
                  obtain ⟨cz_0, cz_1, cz_2, cz_3, zz⟩ := hbz_15.cs
                  have cs_0 : w15.cell? ⟨w9.heap.size, 0, none⟩ = some (.int .u8 2) := by rw [cell_of_obj hbs_15]; rfl
                  have cs_1 : w15.cell? ⟨w9.heap.size, 1, none⟩ = some (.int .i64 1) := by rw [cell_of_obj hbs_15]; rfl
                  have cs_2 : w15.cell? ⟨w9.heap.size, 2, none⟩ = some (.int .i64 0) := by rw [cell_of_obj hbs_15]; rfl
                  have cs_3 : w15.cell? ⟨w9.heap.size, 3, none⟩ = some (.string ⟨#[]⟩) := by rw [cell_of_obj hbs_15]; rfl
                  have cs_4 : w15.cell? ⟨w9.heap.size, 4, none⟩ = some (.int .u8 2) := by rw [cell_of_obj hbs_15]; rfl
                  have cs_5 : w15.cell? ⟨w9.heap.size, 5, none⟩ = some (.int .i64 0) := by rw [cell_of_obj hbs_15]; rfl
                  have cs_6 : w15.cell? ⟨w9.heap.size, 6, none⟩ = some (.int .i64 0) := by rw [cell_of_obj hbs_15]; rfl
                  have cs_7 : w15.cell? ⟨w9.heap.size, 7, none⟩ = some (.string ⟨#[]⟩) := by rw [cell_of_obj hbs_15]; rfl
                  have cs_8 : w15.cell? ⟨w9.heap.size, 8, none⟩ = some (.int .u8 2) := by rw [cell_of_obj hbs_15]; rfl
                  have cs_9 : w15.cell? ⟨w9.heap.size, 9, none⟩ = some (.int .i64 0) := by rw [cell_of_obj hbs_15]; rfl
                  have cs_10 : w15.cell? ⟨w9.heap.size, 10, none⟩ = some (.int .i64 0) := by rw [cell_of_obj hbs_15]; rfl
                  have cs_11 : w15.cell? ⟨w9.heap.size, 11, none⟩ = some (.string ⟨#[]⟩) := by rw [cell_of_obj hbs_15]; rfl
                  have zs := frozen_of_obj hbs_15
                  obtain ⟨cu_0, cu_1, cu_2, cu_3, zu⟩ := hbu_15.cs
                  obtain ⟨ct_0, ct_1, ct_2, ct_3, zt⟩ := hbt_15.cs
                  cases hu : (U.2 != 0)
                  · go_wp2_with fail
                    refine (HY1.out _).mono ?_
                    rintro e w16 ⟨rfl, hf16⟩
                    have la := hba_15.lt
                    have lb := hbb_15.lt
                    have lc := hbc_15.lt
                    have lx := hbx_15.lt
                    have ly := hby_15.lt
                    have lz := hbz_15.lt
                    have ls := obj_lt hbs_15
                    have lu := hbu_15.lt
                    have lt := hbt_15.lt
                    have hl := hfw_15.size
                    have po0 := o0.out
                    have po1 := o1.out
                    have po2 := o2.out
                    have po3 := o3.out
                    have po4 := o4.out
                    have po5 := o5.out
                    have hB : Bx w16 w.heap.size a ∧ Bx w16 (w.heap.size + 1) b ∧ Bx w16 (w.heap.size + 2) c ∧ Bl w16 w3.heap.size 2 1 0 ∧ Bl w16 w5.heap.size 2 0 0 ∧ Bl w16 w7.heap.size 2 0 0 ∧ w16.heap[w9.heap.size]? = some (.cells #[.int .u8 2, .int .i64 1, .int .i64 0, .string ⟨#[]⟩, .int .u8 2, .int .i64 0, .int .i64 0, .string ⟨#[]⟩, .int .u8 2, .int .i64 0, .int .i64 0, .string ⟨#[]⟩] 23 (0, 0)) ∧ Bx w16 w12.heap.size U.1 ∧ Bx w16 w14.heap.size T.1 := by
                      refine ⟨?_, ?_, ?_, ?_, ?_, ?_, ?_, ?_, ?_⟩ <;> ((first | unfold Bx | unfold Bl | skip); refine hf16.obj (noB_not _) ?_; repeat (first | with_reducible exact hba_15.raw | with_reducible exact hbb_15.raw | with_reducible exact hbc_15.raw | with_reducible exact hbx_15.raw | with_reducible exact hby_15.raw | with_reducible exact hbz_15.raw | with_reducible exact hbs_15 | with_reducible exact hbu_15.raw | with_reducible exact hbt_15.raw | (with_reducible refine obj_alloc_at ?_; simp; done) | (with_reducible apply obj_put4; omega) | (with_reducible apply obj_put1; omega) | (with_reducible refine obj_setCell_other ?_ _ _ ?_; rotate_left; (dsimp only; omega)) | with_reducible refine obj_alloc ?_ _ | with_reducible refine obj_drew ?_))
                    obtain ⟨hba_16, hbb_16, hbc_16, hbx_16, hby_16, hbz_16, hbs_16, hbu_16, hbt_16⟩ := hB
                    have hfw_16 : Fr noB w w16 := by
                      refine Fr.transN ?_ hf16
                      repeat (first | with_reducible exact hfw_15 | with_reducible refine Fr.alloc ?_ _ | (with_reducible refine Fr.setCell ?_ ?_ _; rotate_left; (intro h; dsimp only at h; omega)) | with_reducible refine Fr.drew ?_ | exact hfw_15)
                    clear hba_15 hbb_15 hbc_15 hbx_15 hby_15 hbz_15 hbs_15 hbu_15 hbt_15 la lb lc lx ly lz ls lu lt hl po0 po1 po2 po3 po4 po5 ca_0 ca_1 ca_2 ca_3 za cb_0 cb_1 cb_2 cb_3 zb cc_0 cc_1 cc_2 cc_3 zc cx_0 cx_1 cx_2 cx_3 zx cy_0 cy_1 cy_2 cy_3 zy cz_0 cz_1 cz_2 cz_3 zz cs_0 cs_1 cs_2 cs_3 cs_4 cs_5 cs_6 cs_7 cs_8 cs_9 cs_10 cs_11 zs cu_0 cu_1 cu_2 cu_3 zu ct_0 ct_1 ct_2 ct_3 zt hf16 hfw_15
                    obtain ⟨ca_0, ca_1, ca_2, ca_3, za⟩ := hba_16.cs
                    obtain ⟨cb_0, cb_1, cb_2, cb_3, zb⟩ := hbb_16.cs
                    obtain ⟨cc_0, cc_1, cc_2, cc_3, zc⟩ := hbc_16.cs
                    obtain ⟨cx_0, cx_1, cx_2, cx_3, zx⟩ := hbx_16.cs
                    obtain ⟨cy_0, cy_1, cy_2, cy_3, zy⟩ := hby_16.cs
                    obtain ⟨cz_0, cz_1, cz_2, cz_3, zz⟩ := hbz_16.cs
                    have cs_0 : w16.cell? ⟨w9.heap.size, 0, none⟩ = some (.int .u8 2) := by rw [cell_of_obj hbs_16]; rfl
                    have cs_1 : w16.cell? ⟨w9.heap.size, 1, none⟩ = some (.int .i64 1) := by rw [cell_of_obj hbs_16]; rfl
                    have cs_2 : w16.cell? ⟨w9.heap.size, 2, none⟩ = some (.int .i64 0) := by rw [cell_of_obj hbs_16]; rfl
                    have cs_3 : w16.cell? ⟨w9.heap.size, 3, none⟩ = some (.string ⟨#[]⟩) := by rw [cell_of_obj hbs_16]; rfl
                    have cs_4 : w16.cell? ⟨w9.heap.size, 4, none⟩ = some (.int .u8 2) := by rw [cell_of_obj hbs_16]; rfl
                    have cs_5 : w16.cell? ⟨w9.heap.size, 5, none⟩ = some (.int .i64 0) := by rw [cell_of_obj hbs_16]; rfl
                    have cs_6 : w16.cell? ⟨w9.heap.size, 6, none⟩ = some (.int .i64 0) := by rw [cell_of_obj hbs_16]; rfl
                    have cs_7 : w16.cell? ⟨w9.heap.size, 7, none⟩ = some (.string ⟨#[]⟩) := by rw [cell_of_obj hbs_16]; rfl
                    have cs_8 : w16.cell? ⟨w9.heap.size, 8, none⟩ = some (.int .u8 2) := by rw [cell_of_obj hbs_16]; rfl
                    have cs_9 : w16.cell? ⟨w9.heap.size, 9, none⟩ = some (.int .i64 0) := by rw [cell_of_obj hbs_16]; rfl
                    have cs_10 : w16.cell? ⟨w9.heap.size, 10, none⟩ = some (.int .i64 0) := by rw [cell_of_obj hbs_16]; rfl
                    have cs_11 : w16.cell? ⟨w9.heap.size, 11, none⟩ = some (.string ⟨#[]⟩) := by rw [cell_of_obj hbs_16]; rfl
                    have zs := frozen_of_obj hbs_16
                    obtain ⟨cu_0, cu_1, cu_2, cu_3, zu⟩ := hbu_16.cs
                    obtain ⟨ct_0, ct_1, ct_2, ct_3, zt⟩ := hbt_16.cs
                    cases hy : yesB U.1
                    · rw [hy] at HYU
                      go_wp2_with fail
                      refine (HYU.out _).mono ?_
                      rintro e w17 ⟨rfl, hf17⟩
                      have la := hba_16.lt
                      have lb := hbb_16.lt
                      have lc := hbc_16.lt
                      have lx := hbx_16.lt
                      have ly := hby_16.lt
                      have lz := hbz_16.lt
                      have ls := obj_lt hbs_16
                      have lu := hbu_16.lt
                      have lt := hbt_16.lt
                      have hl := hfw_16.size
                      have po0 := o0.out
                      have po1 := o1.out
                      have po2 := o2.out
                      have po3 := o3.out
                      have po4 := o4.out
                      have po5 := o5.out
                      have hB : Bx w17 w.heap.size a ∧ Bx w17 (w.heap.size + 1) b ∧ Bx w17 (w.heap.size + 2) c ∧ Bl w17 w3.heap.size 2 1 0 ∧ Bl w17 w5.heap.size 2 0 0 ∧ Bl w17 w7.heap.size 2 0 0 ∧ w17.heap[w9.heap.size]? = some (.cells #[.int .u8 2, .int .i64 1, .int .i64 0, .string ⟨#[]⟩, .int .u8 2, .int .i64 0, .int .i64 0, .string ⟨#[]⟩, .int .u8 2, .int .i64 0, .int .i64 0, .string ⟨#[]⟩] 23 (0, 0)) ∧ Bx w17 w12.heap.size U.1 ∧ Bx w17 w14.heap.size T.1 := by
                        refine ⟨?_, ?_, ?_, ?_, ?_, ?_, ?_, ?_, ?_⟩ <;> ((first | unfold Bx | unfold Bl | skip); refine hf17.obj (noB_not _) ?_; repeat (first | with_reducible exact hba_16.raw | with_reducible exact hbb_16.raw | with_reducible exact hbc_16.raw | with_reducible exact hbx_16.raw | with_reducible exact hby_16.raw | with_reducible exact hbz_16.raw | with_reducible exact hbs_16 | with_reducible exact hbu_16.raw | with_reducible exact hbt_16.raw | (with_reducible refine obj_alloc_at ?_; simp; done) | (with_reducible apply obj_put4; omega) | (with_reducible apply obj_put1; omega) | (with_reducible refine obj_setCell_other ?_ _ _ ?_; rotate_left; (dsimp only; omega)) | with_reducible refine obj_alloc ?_ _ | with_reducible refine obj_drew ?_))
                      obtain ⟨hba_17, hbb_17, hbc_17, hbx_17, hby_17, hbz_17, hbs_17, hbu_17, hbt_17⟩ := hB
                      have hfw_17 : Fr noB w w17 := by
                        refine Fr.transN ?_ hf17
                        repeat (first | with_reducible exact hfw_16 | with_reducible refine Fr.alloc ?_ _ | (with_reducible refine Fr.setCell ?_ ?_ _; rotate_left; (intro h; dsimp only at h; omega)) | with_reducible refine Fr.drew ?_ | exact hfw_16)
                      clear hba_16 hbb_16 hbc_16 hbx_16 hby_16 hbz_16 hbs_16 hbu_16 hbt_16 la lb lc lx ly lz ls lu lt hl po0 po1 po2 po3 po4 po5 ca_0 ca_1 ca_2 ca_3 za cb_0 cb_1 cb_2 cb_3 zb cc_0 cc_1 cc_2 cc_3 zc cx_0 cx_1 cx_2 cx_3 zx cy_0 cy_1 cy_2 cy_3 zy cz_0 cz_1 cz_2 cz_3 zz cs_0 cs_1 cs_2 cs_3 cs_4 cs_5 cs_6 cs_7 cs_8 cs_9 cs_10 cs_11 zs cu_0 cu_1 cu_2 cu_3 zu ct_0 ct_1 ct_2 ct_3 zt hf17 hfw_16
                      obtain ⟨ca_0, ca_1, ca_2, ca_3, za⟩ := hba_17.cs
                      obtain ⟨cb_0, cb_1, cb_2, cb_3, zb⟩ := hbb_17.cs
                      obtain ⟨cc_0, cc_1, cc_2, cc_3, zc⟩ := hbc_17.cs
                      obtain ⟨cx_0, cx_1, cx_2, cx_3, zx⟩ := hbx_17.cs
                      obtain ⟨cy_0, cy_1, cy_2, cy_3, zy⟩ := hby_17.cs
                      obtain ⟨cz_0, cz_1, cz_2, cz_3, zz⟩ := hbz_17.cs
                      have cs_0 : w17.cell? ⟨w9.heap.size, 0, none⟩ = some (.int .u8 2) := by rw [cell_of_obj hbs_17]; rfl
                      have cs_1 : w17.cell? ⟨w9.heap.size, 1, none⟩ = some (.int .i64 1) := by rw [cell_of_obj hbs_17]; rfl
                      have cs_2 : w17.cell? ⟨w9.heap.size, 2, none⟩ = some (.int .i64 0) := by rw [cell_of_obj hbs_17]; rfl
                      have cs_3 : w17.cell? ⟨w9.heap.size, 3, none⟩ = some (.string ⟨#[]⟩) := by rw [cell_of_obj hbs_17]; rfl
                      have cs_4 : w17.cell? ⟨w9.heap.size, 4, none⟩ = some (.int .u8 2) := by rw [cell_of_obj hbs_17]; rfl
                      have cs_5 : w17.cell? ⟨w9.heap.size, 5, none⟩ = some (.int .i64 0) := by rw [cell_of_obj hbs_17]; rfl
                      have cs_6 : w17.cell? ⟨w9.heap.size, 6, none⟩ = some (.int .i64 0) := by rw [cell_of_obj hbs_17]; rfl
                      have cs_7 : w17.cell? ⟨w9.heap.size, 7, none⟩ = some (.string ⟨#[]⟩) := by rw [cell_of_obj hbs_17]; rfl
                      have cs_8 : w17.cell? ⟨w9.heap.size, 8, none⟩ = some (.int .u8 2) := by rw [cell_of_obj hbs_17]; rfl
                      have cs_9 : w17.cell? ⟨w9.heap.size, 9, none⟩ = some (.int .i64 0) := by rw [cell_of_obj hbs_17]; rfl
                      have cs_10 : w17.cell? ⟨w9.heap.size, 10, none⟩ = some (.int .i64 0) := by rw [cell_of_obj hbs_17]; rfl
                      have cs_11 : w17.cell? ⟨w9.heap.size, 11, none⟩ = some (.string ⟨#[]⟩) := by rw [cell_of_obj hbs_17]; rfl
                      have zs := frozen_of_obj hbs_17
                      obtain ⟨cu_0, cu_1, cu_2, cu_3, zu⟩ := hbu_17.cs
                      obtain ⟨ct_0, ct_1, ct_2, ct_3, zt⟩ := hbt_17.cs
                      go_wp2_with fail
                      have la := hba_17.lt
                      have lb := hbb_17.lt
                      have lc := hbc_17.lt
                      have lx := hbx_17.lt
                      have ly := hby_17.lt
                      have lz := hbz_17.lt
                      have ls := obj_lt hbs_17
                      have lu := hbu_17.lt
                      have lt := hbt_17.lt
                      have hl := hfw_17.size
                      have po0 := o0.out
                      have po1 := o1.out
                      have po2 := o2.out
                      have po3 := o3.out
                      have po4 := o4.out
                      have po5 := o5.out
                      go_ret
                      refine ⟨?_, ?_⟩
                      · rfl
                      · skip
                        repeat (first | with_reducible exact hfw_17 | with_reducible refine Fr.alloc ?_ _ | (with_reducible refine Fr.setCell ?_ ?_ _; rotate_left; (intro h; dsimp only at h; omega)) | with_reducible refine Fr.drew ?_ | exact hfw_17)
                    · obtain ⟨t0, ty⟩ := HT3.out (by simpa using hu) hy
                      have t1 : (T.2 == 0) = true := by rw [t0]; rfl
                      rw [hy] at HYU
                      rw [ty] at HYT
                      clear t0 ty hy
                      go_wp2_with fail
                      refine (HYU.out _).mono ?_
                      rintro e w17 ⟨rfl, hf17⟩
                      have la := hba_16.lt
                      have lb := hbb_16.lt
                      have lc := hbc_16.lt
                      have lx := hbx_16.lt
                      have ly := hby_16.lt
                      have lz := hbz_16.lt
                      have ls := obj_lt hbs_16
                      have lu := hbu_16.lt
                      have lt := hbt_16.lt
                      have hl := hfw_16.size
                      have po0 := o0.out
                      have po1 := o1.out
                      have po2 := o2.out
                      have po3 := o3.out
                      have po4 := o4.out
                      have po5 := o5.out
                      have hB : Bx w17 w.heap.size a ∧ Bx w17 (w.heap.size + 1) b ∧ Bx w17 (w.heap.size + 2) c ∧ Bl w17 w3.heap.size 2 1 0 ∧ Bl w17 w5.heap.size 2 0 0 ∧ Bl w17 w7.heap.size 2 0 0 ∧ w17.heap[w9.heap.size]? = some (.cells #[.int .u8 2, .int .i64 1, .int .i64 0, .string ⟨#[]⟩, .int .u8 2, .int .i64 0, .int .i64 0, .string ⟨#[]⟩, .int .u8 2, .int .i64 0, .int .i64 0, .string ⟨#[]⟩] 23 (0, 0)) ∧ Bx w17 w12.heap.size U.1 ∧ Bx w17 w14.heap.size T.1 := by
                        refine ⟨?_, ?_, ?_, ?_, ?_, ?_, ?_, ?_, ?_⟩ <;> ((first | unfold Bx | unfold Bl | skip); refine hf17.obj (noB_not _) ?_; repeat (first | with_reducible exact hba_16.raw | with_reducible exact hbb_16.raw | with_reducible exact hbc_16.raw | with_reducible exact hbx_16.raw | with_reducible exact hby_16.raw | with_reducible exact hbz_16.raw | with_reducible exact hbs_16 | with_reducible exact hbu_16.raw | with_reducible exact hbt_16.raw | (with_reducible refine obj_alloc_at ?_; simp; done) | (with_reducible apply obj_put4; omega) | (with_reducible apply obj_put1; omega) | (with_reducible refine obj_setCell_other ?_ _ _ ?_; rotate_left; (dsimp only; omega)) | with_reducible refine obj_alloc ?_ _ | with_reducible refine obj_drew ?_))
                      obtain ⟨hba_17, hbb_17, hbc_17, hbx_17, hby_17, hbz_17, hbs_17, hbu_17, hbt_17⟩ := hB
                      have hfw_17 : Fr noB w w17 := by
                        refine Fr.transN ?_ hf17
                        repeat (first | with_reducible exact hfw_16 | with_reducible refine Fr.alloc ?_ _ | (with_reducible refine Fr.setCell ?_ ?_ _; rotate_left; (intro h; dsimp only at h; omega)) | with_reducible refine Fr.drew ?_ | exact hfw_16)
                      clear hba_16 hbb_16 hbc_16 hbx_16 hby_16 hbz_16 hbs_16 hbu_16 hbt_16 la lb lc lx ly lz ls lu lt hl po0 po1 po2 po3 po4 po5 ca_0 ca_1 ca_2 ca_3 za cb_0 cb_1 cb_2 cb_3 zb cc_0 cc_1 cc_2 cc_3 zc cx_0 cx_1 cx_2 cx_3 zx cy_0 cy_1 cy_2 cy_3 zy cz_0 cz_1 cz_2 cz_3 zz cs_0 cs_1 cs_2 cs_3 cs_4 cs_5 cs_6 cs_7 cs_8 cs_9 cs_10 cs_11 zs cu_0 cu_1 cu_2 cu_3 zu ct_0 ct_1 ct_2 ct_3 zt hf17 hfw_16
                      obtain ⟨ca_0, ca_1, ca_2, ca_3, za⟩ := hba_17.cs
                      obtain ⟨cb_0, cb_1, cb_2, cb_3, zb⟩ := hbb_17.cs
                      obtain ⟨cc_0, cc_1, cc_2, cc_3, zc⟩ := hbc_17.cs
                      obtain ⟨cx_0, cx_1, cx_2, cx_3, zx⟩ := hbx_17.cs
                      obtain ⟨cy_0, cy_1, cy_2, cy_3, zy⟩ := hby_17.cs
                      obtain ⟨cz_0, cz_1, cz_2, cz_3, zz⟩ := hbz_17.cs
                      have cs_0 : w17.cell? ⟨w9.heap.size, 0, none⟩ = some (.int .u8 2) := by rw [cell_of_obj hbs_17]; rfl
                      have cs_1 : w17.cell? ⟨w9.heap.size, 1, none⟩ = some (.int .i64 1) := by rw [cell_of_obj hbs_17]; rfl
                      have cs_2 : w17.cell? ⟨w9.heap.size, 2, none⟩ = some (.int .i64 0) := by rw [cell_of_obj hbs_17]; rfl
                      have cs_3 : w17.cell? ⟨w9.heap.size, 3, none⟩ = some (.string ⟨#[]⟩) := by rw [cell_of_obj hbs_17]; rfl
                      have cs_4 : w17.cell? ⟨w9.heap.size, 4, none⟩ = some (.int .u8 2) := by rw [cell_of_obj hbs_17]; rfl
                      have cs_5 : w17.cell? ⟨w9.heap.size, 5, none⟩ = some (.int .i64 0) := by rw [cell_of_obj hbs_17]; rfl
                      have cs_6 : w17.cell? ⟨w9.heap.size, 6, none⟩ = some (.int .i64 0) := by rw [cell_of_obj hbs_17]; rfl
                      have cs_7 : w17.cell? ⟨w9.heap.size, 7, none⟩ = some (.string ⟨#[]⟩) := by rw [cell_of_obj hbs_17]; rfl
                      have cs_8 : w17.cell? ⟨w9.heap.size, 8, none⟩ = some (.int .u8 2) := by rw [cell_of_obj hbs_17]; rfl
                      have cs_9 : w17.cell? ⟨w9.heap.size, 9, none⟩ = some (.int .i64 0) := by rw [cell_of_obj hbs_17]; rfl
                      have cs_10 : w17.cell? ⟨w9.heap.size, 10, none⟩ = some (.int .i64 0) := by rw [cell_of_obj hbs_17]; rfl
                      have cs_11 : w17.cell? ⟨w9.heap.size, 11, none⟩ = some (.string ⟨#[]⟩) := by rw [cell_of_obj hbs_17]; rfl
                      have zs := frozen_of_obj hbs_17
                      obtain ⟨cu_0, cu_1, cu_2, cu_3, zu⟩ := hbu_17.cs
                      obtain ⟨ct_0, ct_1, ct_2, ct_3, zt⟩ := hbt_17.cs
                      go_wp2_with fail
                      refine (HYT.out _).mono ?_
                      rintro e w18 ⟨rfl, hf18⟩
                      have la := hba_17.lt
                      have lb := hbb_17.lt
                      have lc := hbc_17.lt
                      have lx := hbx_17.lt
                      have ly := hby_17.lt
                      have lz := hbz_17.lt
                      have ls := obj_lt hbs_17
                      have lu := hbu_17.lt
                      have lt := hbt_17.lt
                      have hl := hfw_17.size
                      have po0 := o0.out
                      have po1 := o1.out
                      have po2 := o2.out
                      have po3 := o3.out
                      have po4 := o4.out
                      have po5 := o5.out
                      have hB : Bx w18 w.heap.size a ∧ Bx w18 (w.heap.size + 1) b ∧ Bx w18 (w.heap.size + 2) c ∧ Bl w18 w3.heap.size 2 1 0 ∧ Bl w18 w5.heap.size 2 0 0 ∧ Bl w18 w7.heap.size 2 0 0 ∧ w18.heap[w9.heap.size]? = some (.cells #[.int .u8 2, .int .i64 1, .int .i64 0, .string ⟨#[]⟩, .int .u8 2, .int .i64 0, .int .i64 0, .string ⟨#[]⟩, .int .u8 2, .int .i64 0, .int .i64 0, .string ⟨#[]⟩] 23 (0, 0)) ∧ Bx w18 w12.heap.size U.1 ∧ Bx w18 w14.heap.size T.1 := by
                        refine ⟨?_, ?_, ?_, ?_, ?_, ?_, ?_, ?_, ?_⟩ <;> ((first | unfold Bx | unfold Bl | skip); refine hf18.obj (noB_not _) ?_; repeat (first | with_reducible exact hba_17.raw | with_reducible exact hbb_17.raw | with_reducible exact hbc_17.raw | with_reducible exact hbx_17.raw | with_reducible exact hby_17.raw | with_reducible exact hbz_17.raw | with_reducible exact hbs_17 | with_reducible exact hbu_17.raw | with_reducible exact hbt_17.raw | (with_reducible refine obj_alloc_at ?_; simp; done) | (with_reducible apply obj_put4; omega) | (with_reducible apply obj_put1; omega) | (with_reducible refine obj_setCell_other ?_ _ _ ?_; rotate_left; (dsimp only; omega)) | with_reducible refine obj_alloc ?_ _ | with_reducible refine obj_drew ?_))
                      obtain ⟨hba_18, hbb_18, hbc_18, hbx_18, hby_18, hbz_18, hbs_18, hbu_18, hbt_18⟩ := hB
                      have hfw_18 : Fr noB w w18 := by
                        refine Fr.transN ?_ hf18
                        repeat (first | with_reducible exact hfw_17 | with_reducible refine Fr.alloc ?_ _ | (with_reducible refine Fr.setCell ?_ ?_ _; rotate_left; (intro h; dsimp only at h; omega)) | with_reducible refine Fr.drew ?_ | exact hfw_17)
                      clear hba_17 hbb_17 hbc_17 hbx_17 hby_17 hbz_17 hbs_17 hbu_17 hbt_17 la lb lc lx ly lz ls lu lt hl po0 po1 po2 po3 po4 po5 ca_0 ca_1 ca_2 ca_3 za cb_0 cb_1 cb_2 cb_3 zb cc_0 cc_1 cc_2 cc_3 zc cx_0 cx_1 cx_2 cx_3 zx cy_0 cy_1 cy_2 cy_3 zy cz_0 cz_1 cz_2 cz_3 zz cs_0 cs_1 cs_2 cs_3 cs_4 cs_5 cs_6 cs_7 cs_8 cs_9 cs_10 cs_11 zs cu_0 cu_1 cu_2 cu_3 zu ct_0 ct_1 ct_2 ct_3 zt hf18 hfw_17
                      obtain ⟨ca_0, ca_1, ca_2, ca_3, za⟩ := hba_18.cs
                      obtain ⟨cb_0, cb_1, cb_2, cb_3, zb⟩ := hbb_18.cs
                      obtain ⟨cc_0, cc_1, cc_2, cc_3, zc⟩ := hbc_18.cs
                      obtain ⟨cx_0, cx_1, cx_2, cx_3, zx⟩ := hbx_18.cs
                      obtain ⟨cy_0, cy_1, cy_2, cy_3, zy⟩ := hby_18.cs
                      obtain ⟨cz_0, cz_1, cz_2, cz_3, zz⟩ := hbz_18.cs
                      have cs_0 : w18.cell? ⟨w9.heap.size, 0, none⟩ = some (.int .u8 2) := by rw [cell_of_obj hbs_18]; rfl
                      have cs_1 : w18.cell? ⟨w9.heap.size, 1, none⟩ = some (.int .i64 1) := by rw [cell_of_obj hbs_18]; rfl
                      have cs_2 : w18.cell? ⟨w9.heap.size, 2, none⟩ = some (.int .i64 0) := by rw [cell_of_obj hbs_18]; rfl
                      have cs_3 : w18.cell? ⟨w9.heap.size, 3, none⟩ = some (.string ⟨#[]⟩) := by rw [cell_of_obj hbs_18]; rfl
                      have cs_4 : w18.cell? ⟨w9.heap.size, 4, none⟩ = some (.int .u8 2) := by rw [cell_of_obj hbs_18]; rfl
                      have cs_5 : w18.cell? ⟨w9.heap.size, 5, none⟩ = some (.int .i64 0) := by rw [cell_of_obj hbs_18]; rfl
                      have cs_6 : w18.cell? ⟨w9.heap.size, 6, none⟩ = some (.int .i64 0) := by rw [cell_of_obj hbs_18]; rfl
                      have cs_7 : w18.cell? ⟨w9.heap.size, 7, none⟩ = some (.string ⟨#[]⟩) := by rw [cell_of_obj hbs_18]; rfl
                      have cs_8 : w18.cell? ⟨w9.heap.size, 8, none⟩ = some (.int .u8 2) := by rw [cell_of_obj hbs_18]; rfl
                      have cs_9 : w18.cell? ⟨w9.heap.size, 9, none⟩ = some (.int .i64 0) := by rw [cell_of_obj hbs_18]; rfl
                      have cs_10 : w18.cell? ⟨w9.heap.size, 10, none⟩ = some (.int .i64 0) := by rw [cell_of_obj hbs_18]; rfl
                      have cs_11 : w18.cell? ⟨w9.heap.size, 11, none⟩ = some (.string ⟨#[]⟩) := by rw [cell_of_obj hbs_18]; rfl
                      have zs := frozen_of_obj hbs_18
                      obtain ⟨cu_0, cu_1, cu_2, cu_3, zu⟩ := hbu_18.cs
                      obtain ⟨ct_0, ct_1, ct_2, ct_3, zt⟩ := hbt_18.cs
                      go_wp2_with fail
                      have la := hba_18.lt
                      have lb := hbb_18.lt
                      have lc := hbc_18.lt
                      have lx := hbx_18.lt
                      have ly := hby_18.lt
                      have lz := hbz_18.lt
                      have ls := obj_lt hbs_18
                      have lu := hbu_18.lt
                      have lt := hbt_18.lt
                      have hl := hfw_18.size
                      have po0 := o0.out
                      have po1 := o1.out
                      have po2 := o2.out
                      have po3 := o3.out
                      have po4 := o4.out
                      have po5 := o5.out
                      go_ret
                      refine ⟨?_, ?_⟩
                      · rfl
                      · skip
                        repeat (first | with_reducible exact hfw_18 | with_reducible refine Fr.alloc ?_ _ | (with_reducible refine Fr.setCell ?_ ?_ _; rotate_left; (intro h; dsimp only at h; omega)) | with_reducible refine Fr.drew ?_ | exact hfw_18)
                  · go_wp2_with fail
                    have la := hba_15.lt
                    have lb := hbb_15.lt
                    have lc := hbc_15.lt
                    have lx := hbx_15.lt
                    have ly := hby_15.lt
                    have lz := hbz_15.lt
                    have ls := obj_lt hbs_15
                    have lu := hbu_15.lt
                    have lt := hbt_15.lt
                    have hl := hfw_15.size
                    have po0 := o0.out
                    have po1 := o1.out
                    have po2 := o2.out
                    have po3 := o3.out
                    have po4 := o4.out
                    have po5 := o5.out
                    go_ret
                    refine ⟨?_, ?_⟩
                    · rfl
                    · skip
                      repeat (first | with_reducible exact hfw_15 | with_reducible refine Fr.alloc ?_ _ | (with_reducible refine Fr.setCell ?_ ?_ _; rotate_left; (intro h; dsimp only at h; omega)) | with_reducible refine Fr.drew ?_ | exact hfw_15)
            · have e1 : decide (orderV a b < 0) = false := by simp; omega
              have e2 : decide (orderV b a < 0) = false := by rw [hfl]; simp; omega
              have e3 : (orderV a b == 0) = true := by simp; omega
              have hx := HXX.out; rw [e1] at hx
              rw [ordV_same _ hn hk] at hx
              have hy := HYY2.out; rw [e2] at hy
              rw [ordV_same _ hn2 hk.symm] at hy
              have hz := HZZ.out; rw [e3] at hz
              rw [ordV_same _ hn hk] at hz
              have f0 := Lib.hid (show (a.k != b.k) = false by simp [hk])
              have hX : X = (noV, 0) := hx
              rw [hX] at HX
              dsimp only [noV] at HX
              have hY : Y = (noV, 0) := hy
              rw [hY] at HYY
              dsimp only [noV] at HYY
              have hZ : Z = (yesV, 0) := hz
              rw [hZ] at HZ
              dsimp only [yesV] at HZ
              clear hX hY hZ HXX HYY2 HZZ
              clear hx hy hz e1 e2 e3 hfl hn2 ho hk
              go_wp2_with fail
              refine (HX.out _).mono ?_
              rintro e w3 ⟨rfl, hf3⟩
              have la := hba_2.lt
              have lb := hbb_2.lt
              have lc := hbc_2.lt
              have hl := hfw_2.size
              have hB : Bx w3 w.heap.size a ∧ Bx w3 (w.heap.size + 1) b ∧ Bx w3 (w.heap.size + 2) c := by
                refine ⟨?_, ?_, ?_⟩ <;> ((first | unfold Bx | unfold Bl | skip); refine hf3.obj (noB_not _) ?_; repeat (first | with_reducible exact hba_2.raw | with_reducible exact hbb_2.raw | with_reducible exact hbc_2.raw | (with_reducible refine obj_alloc_at ?_; simp; done) | (with_reducible apply obj_put4; omega) | (with_reducible apply obj_put1; omega) | (with_reducible refine obj_setCell_other ?_ _ _ ?_; rotate_left; (dsimp only; omega)) | with_reducible refine obj_alloc ?_ _ | with_reducible refine obj_drew ?_))
              obtain ⟨hba_3, hbb_3, hbc_3⟩ := hB
              have hfw_3 : Fr noB w w3 := by
                refine Fr.transN ?_ hf3
                repeat (first | with_reducible exact hfw_2 | with_reducible refine Fr.alloc ?_ _ | (with_reducible refine Fr.setCell ?_ ?_ _; rotate_left; (intro h; dsimp only at h; omega)) | with_reducible refine Fr.drew ?_ | exact hfw_2)
              clear hba_2 hbb_2 hbc_2 la lb lc hl ca_0 ca_1 ca_2 ca_3 za cb_0 cb_1 cb_2 cb_3 zb cc_0 cc_1 cc_2 cc_3 zc hf3 hfw_2
              obtain ⟨ca_0, ca_1, ca_2, ca_3, za⟩ := hba_3.cs
              obtain ⟨cb_0, cb_1, cb_2, cb_3, zb⟩ := hbb_3.cs
              obtain ⟨cc_0, cc_1, cc_2, cc_3, zc⟩ := hbc_3.cs
              go_upto_region 4 with fail
              have o0 := Lib.hid (hbc_3.lt)
              have la := hba_3.lt
              have lb := hbb_3.lt
              have lc := hbc_3.lt
              have hl := hfw_3.size
              have po0 := o0.out
              refine wp_world (fun W => Fr noB w W ∧ Bx W w.heap.size a ∧ Bx W (w.heap.size + 1) b ∧ Bx W (w.heap.size + 2) c ∧ Bl W w3.heap.size 2 0 0) ?_ ?_
              · refine ⟨?_, ?_, ?_, ?_, ?_⟩ <;> ((first | unfold Bx | unfold Bl | skip); repeat (first | with_reducible exact hfw_3 | with_reducible refine Fr.alloc ?_ _ | (with_reducible refine Fr.setCell ?_ ?_ _; rotate_left; (intro h; dsimp only at h; omega)) | with_reducible refine Fr.drew ?_ | with_reducible exact hba_3.raw | with_reducible exact hbb_3.raw | with_reducible exact hbc_3.raw | (with_reducible refine obj_alloc_at ?_; simp; done) | (with_reducible apply obj_put4; omega) | (with_reducible apply obj_put1; omega) | (with_reducible refine obj_setCell_other ?_ _ _ ?_; rotate_left; (dsimp only; omega)) | with_reducible refine obj_alloc ?_ _ | with_reducible refine obj_drew ?_ | exact hfw_3))
              clear hba_3 hbb_3 hbc_3 la lb lc hl po0 ca_0 ca_1 ca_2 ca_3 za cb_0 cb_1 cb_2 cb_3 zb cc_0 cc_1 cc_2 cc_3 zc hfw_3
              rintro w4 ⟨hfw_4, hba_4, hbb_4, hbc_4, hbx_4⟩
              obtain ⟨ca_0, ca_1, ca_2, ca_3, za⟩ := hba_4.cs
              obtain ⟨cb_0, cb_1, cb_2, cb_3, zb⟩ := hbb_4.cs
              obtain ⟨cc_0, cc_1, cc_2, cc_3, zc⟩ := hbc_4.cs
              obtain ⟨cx_0, cx_1, cx_2, cx_3, zx⟩ := hbx_4.cs
              go_wp2_with fail
              refine (HYY.out _).mono ?_
              rintro e w5 ⟨rfl, hf5⟩
              have la := hba_4.lt
              have lb := hbb_4.lt
              have lc := hbc_4.lt
              have lx := hbx_4.lt
              have hl := hfw_4.size
              have po0 := o0.out
              have hB : Bx w5 w.heap.size a ∧ Bx w5 (w.heap.size + 1) b ∧ Bx w5 (w.heap.size + 2) c ∧ Bl w5 w3.heap.size 2 0 0 := by
                refine ⟨?_, ?_, ?_, ?_⟩ <;> ((first | unfold Bx | unfold Bl | skip); refine hf5.obj (noB_not _) ?_; repeat (first | with_reducible exact hba_4.raw | with_reducible exact hbb_4.raw | with_reducible exact hbc_4.raw | with_reducible exact hbx_4.raw | (with_reducible refine obj_alloc_at ?_; simp; done) | (with_reducible apply obj_put4; omega) | (with_reducible apply obj_put1; omega) | (with_reducible refine obj_setCell_other ?_ _ _ ?_; rotate_left; (dsimp only; omega)) | with_reducible refine obj_alloc ?_ _ | with_reducible refine obj_drew ?_))
              obtain ⟨hba_5, hbb_5, hbc_5, hbx_5⟩ := hB
              have hfw_5 : Fr noB w w5 := by
                refine Fr.transN ?_ hf5
                repeat (first | with_reducible exact hfw_4 | with_reducible refine Fr.alloc ?_ _ | (with_reducible refine Fr.setCell ?_ ?_ _; rotate_left; (intro h; dsimp only at h; omega)) | with_reducible refine Fr.drew ?_ | exact hfw_4)
              clear hba_4 hbb_4 hbc_4 hbx_4 la lb lc lx hl po0 ca_0 ca_1 ca_2 ca_3 za cb_0 cb_1 cb_2 cb_3 zb cc_0 cc_1 cc_2 cc_3 zc cx_0 cx_1 cx_2 cx_3 zx hf5 hfw_4
              obtain ⟨ca_0, ca_1, ca_2, ca_3, za⟩ := hba_5.cs
              obtain ⟨cb_0, cb_1, cb_2, cb_3, zb⟩ := hbb_5.cs
              obtain ⟨cc_0, cc_1, cc_2, cc_3, zc⟩ := hbc_5.cs
              obtain ⟨cx_0, cx_1, cx_2, cx_3, zx⟩ := hbx_5.cs
              go_upto_region 5 with fail
              have o1 := Lib.hid (hbx_5.lt)
              have la := hba_5.lt
              have lb := hbb_5.lt
              have lc := hbc_5.lt
              have lx := hbx_5.lt
              have hl := hfw_5.size
              have po0 := o0.out
              have po1 := o1.out
              refine wp_world (fun W => Fr noB w W ∧ Bx W w.heap.size a ∧ Bx W (w.heap.size + 1) b ∧ Bx W (w.heap.size + 2) c ∧ Bl W w3.heap.size 2 0 0 ∧ Bl W w5.heap.size 2 0 0) ?_ ?_
              · refine ⟨?_, ?_, ?_, ?_, ?_, ?_⟩ <;> ((first | unfold Bx | unfold Bl | skip); repeat (first | with_reducible exact hfw_5 | with_reducible refine Fr.alloc ?_ _ | (with_reducible refine Fr.setCell ?_ ?_ _; rotate_left; (intro h; dsimp only at h; omega)) | with_reducible refine Fr.drew ?_ | with_reducible exact hba_5.raw | with_reducible exact hbb_5.raw | with_reducible exact hbc_5.raw | with_reducible exact hbx_5.raw | (with_reducible refine obj_alloc_at ?_; simp; done) | (with_reducible apply obj_put4; omega) | (with_reducible apply obj_put1; omega) | (with_reducible refine obj_setCell_other ?_ _ _ ?_; rotate_left; (dsimp only; omega)) | with_reducible refine obj_alloc ?_ _ | with_reducible refine obj_drew ?_ | exact hfw_5))
              clear hba_5 hbb_5 hbc_5 hbx_5 la lb lc lx hl po0 po1 ca_0 ca_1 ca_2 ca_3 za cb_0 cb_1 cb_2 cb_3 zb cc_0 cc_1 cc_2 cc_3 zc cx_0 cx_1 cx_2 cx_3 zx hfw_5
              rintro w6 ⟨hfw_6, hba_6, hbb_6, hbc_6, hbx_6, hby_6⟩
              obtain ⟨ca_0, ca_1, ca_2, ca_3, za⟩ := hba_6.cs
              obtain ⟨cb_0, cb_1, cb_2, cb_3, zb⟩ := hbb_6.cs
              obtain ⟨cc_0, cc_1, cc_2, cc_3, zc⟩ := hbc_6.cs
              obtain ⟨cx_0, cx_1, cx_2, cx_3, zx⟩ := hbx_6.cs
              obtain ⟨cy_0, cy_1, cy_2, cy_3, zy⟩ := hby_6.cs
              go_wp2_with fail
              refine (HZ.out _).mono ?_
              rintro e w7 ⟨rfl, hf7⟩
              have la := hba_6.lt
              have lb := hbb_6.lt
              have lc := hbc_6.lt
              have lx := hbx_6.lt
              have ly := hby_6.lt
              have hl := hfw_6.size
              have po0 := o0.out
              have po1 := o1.out
              have hB : Bx w7 w.heap.size a ∧ Bx w7 (w.heap.size + 1) b ∧ Bx w7 (w.heap.size + 2) c ∧ Bl w7 w3.heap.size 2 0 0 ∧ Bl w7 w5.heap.size 2 0 0 := by
                refine ⟨?_, ?_, ?_, ?_, ?_⟩ <;> ((first | unfold Bx | unfold Bl | skip); refine hf7.obj (noB_not _) ?_; repeat (first | with_reducible exact hba_6.raw | with_reducible exact hbb_6.raw | with_reducible exact hbc_6.raw | with_reducible exact hbx_6.raw | with_reducible exact hby_6.raw | (with_reducible refine obj_alloc_at ?_; simp; done) | (with_reducible apply obj_put4; omega) | (with_reducible apply obj_put1; omega) | (with_reducible refine obj_setCell_other ?_ _ _ ?_; rotate_left; (dsimp only; omega)) | with_reducible refine obj_alloc ?_ _ | with_reducible refine obj_drew ?_))
              obtain ⟨hba_7, hbb_7, hbc_7, hbx_7, hby_7⟩ := hB
              have hfw_7 : Fr noB w w7 := by
                refine Fr.transN ?_ hf7
                repeat (first | with_reducible exact hfw_6 | with_reducible refine Fr.alloc ?_ _ | (with_reducible refine Fr.setCell ?_ ?_ _; rotate_left; (intro h; dsimp only at h; omega)) | with_reducible refine Fr.drew ?_ | exact hfw_6)
              clear hba_6 hbb_6 hbc_6 hbx_6 hby_6 la lb lc lx ly hl po0 po1 ca_0 ca_1 ca_2 ca_3 za cb_0 cb_1 cb_2 cb_3 zb cc_0 cc_1 cc_2 cc_3 zc cx_0 cx_1 cx_2 cx_3 zx cy_0 cy_1 cy_2 cy_3 zy hf7 hfw_6
              obtain ⟨ca_0, ca_1, ca_2, ca_3, za⟩ := hba_7.cs
              obtain ⟨cb_0, cb_1, cb_2, cb_3, zb⟩ := hbb_7.cs
              obtain ⟨cc_0, cc_1, cc_2, cc_3, zc⟩ := hbc_7.cs
              obtain ⟨cx_0, cx_1, cx_2, cx_3, zx⟩ := hbx_7.cs
              obtain ⟨cy_0, cy_1, cy_2, cy_3, zy⟩ := hby_7.cs
              go_upto_region 6 with fail
              have o2 := Lib.hid (hby_7.lt)
              have la := hba_7.lt
              have lb := hbb_7.lt
              have lc := hbc_7.lt
              have lx := hbx_7.lt
              have ly := hby_7.lt
              have hl := hfw_7.size
              have po0 := o0.out
              have po1 := o1.out
              have po2 := o2.out
              refine wp_world (fun W => Fr noB w W ∧ Bx W w.heap.size a ∧ Bx W (w.heap.size + 1) b ∧ Bx W (w.heap.size + 2) c ∧ Bl W w3.heap.size 2 0 0 ∧ Bl W w5.heap.size 2 0 0 ∧ Bl W w7.heap.size 2 1 0) ?_ ?_
              · refine ⟨?_, ?_, ?_, ?_, ?_, ?_, ?_⟩ <;> ((first | unfold Bx | unfold Bl | skip); repeat (first | with_reducible exact hfw_7 | with_reducible refine Fr.alloc ?_ _ | (with_reducible refine Fr.setCell ?_ ?_ _; rotate_left; (intro h; dsimp only at h; omega)) | with_reducible refine Fr.drew ?_ | with_reducible exact hba_7.raw | with_reducible exact hbb_7.raw | with_reducible exact hbc_7.raw | with_reducible exact hbx_7.raw | with_reducible exact hby_7.raw | (with_reducible refine obj_alloc_at ?_; simp; done) | (with_reducible apply obj_put4; omega) | (with_reducible apply obj_put1; omega) | (with_reducible refine obj_setCell_other ?_ _ _ ?_; rotate_left; (dsimp only; omega)) | with_reducible refine obj_alloc ?_ _ | with_reducible refine obj_drew ?_ | exact hfw_7))
              clear hba_7 hbb_7 hbc_7 hbx_7 hby_7 la lb lc lx ly hl po0 po1 po2 ca_0 ca_1 ca_2 ca_3 za cb_0 cb_1 cb_2 cb_3 zb cc_0 cc_1 cc_2 cc_3 zc cx_0 cx_1 cx_2 cx_3 zx cy_0 cy_1 cy_2 cy_3 zy hfw_7
              rintro w8 ⟨hfw_8, hba_8, hbb_8, hbc_8, hbx_8, hby_8, hbz_8⟩
              obtain ⟨ca_0, ca_1, ca_2, ca_3, za⟩ := hba_8.cs
              obtain ⟨cb_0, cb_1, cb_2, cb_3, zb⟩ := hbb_8.cs
              obtain ⟨cc_0, cc_1, cc_2, cc_3, zc⟩ := hbc_8.cs
              obtain ⟨cx_0, cx_1, cx_2, cx_3, zx⟩ := hbx_8.cs
              obtain ⟨cy_0, cy_1, cy_2, cy_3, zy⟩ := hby_8.cs
              obtain ⟨cz_0, cz_1, cz_2, cz_3, zz⟩ := hbz_8.cs
              have f0 := f0.out
              simp only [Bool.or_eq_false_iff] at hn
              obtain ⟨n1, n2⟩ := hn
              unfold nullB at n1 n2
              go_upto_region 11 with fail
              have la := hba_8.lt
              have lb := hbb_8.lt
              have lc := hbc_8.lt
              have lx := hbx_8.lt
              have ly := hby_8.lt
              have lz := hbz_8.lt
              have hl := hfw_8.size
              have po0 := o0.out
              have po1 := o1.out
              have po2 := o2.out
              refine wp_world (fun W => Fr noB w W ∧ Bx W w.heap.size a ∧ Bx W (w.heap.size + 1) b ∧ Bx W (w.heap.size + 2) c ∧ Bl W w3.heap.size 2 0 0 ∧ Bl W w5.heap.size 2 0 0 ∧ Bl W w7.heap.size 2 1 0) ?_ ?_
              · refine ⟨?_, ?_, ?_, ?_, ?_, ?_, ?_⟩ <;> ((first | unfold Bx | unfold Bl | skip); repeat (first | with_reducible exact hfw_8 | with_reducible refine Fr.alloc ?_ _ | (with_reducible refine Fr.setCell ?_ ?_ _; rotate_left; (intro h; dsimp only at h; omega)) | with_reducible refine Fr.drew ?_ | with_reducible exact hba_8.raw | with_reducible exact hbb_8.raw | with_reducible exact hbc_8.raw | with_reducible exact hbx_8.raw | with_reducible exact hby_8.raw | with_reducible exact hbz_8.raw | (with_reducible refine obj_alloc_at ?_; simp; done) | (with_reducible apply obj_put4; omega) | (with_reducible apply obj_put1; omega) | (with_reducible refine obj_setCell_other ?_ _ _ ?_; rotate_left; (dsimp only; omega)) | with_reducible refine obj_alloc ?_ _ | with_reducible refine obj_drew ?_ | exact hfw_8))
              clear hba_8 hbb_8 hbc_8 hbx_8 hby_8 hbz_8 la lb lc lx ly lz hl po0 po1 po2 ca_0 ca_1 ca_2 ca_3 za cb_0 cb_1 cb_2 cb_3 zb cc_0 cc_1 cc_2 cc_3 zc cx_0 cx_1 cx_2 cx_3 zx cy_0 cy_1 cy_2 cy_3 zy cz_0 cz_1 cz_2 cz_3 zz hfw_8
              rintro w9 ⟨hfw_9, hba_9, hbb_9, hbc_9, hbx_9, hby_9, hbz_9⟩
              obtain ⟨ca_0, ca_1, ca_2, ca_3, za⟩ := hba_9.cs
              obtain ⟨cb_0, cb_1, cb_2, cb_3, zb⟩ := hbb_9.cs
              obtain ⟨cc_0, cc_1, cc_2, cc_3, zc⟩ := hbc_9.cs
              obtain ⟨cx_0, cx_1, cx_2, cx_3, zx⟩ := hbx_9.cs
              obtain ⟨cy_0, cy_1, cy_2, cy_3, zy⟩ := hby_9.cs
              obtain ⟨cz_0, cz_1, cz_2, cz_3, zz⟩ := hbz_9.cs
              go_wp2_with fail
              have o3 := Lib.hid (hbz_9.lt)
              have la := hba_9.lt
              have lb := hbb_9.lt
              have lc := hbc_9.lt
              have lx := hbx_9.lt
              have ly := hby_9.lt
              have lz := hbz_9.lt
              have hl := hfw_9.size
              have po0 := o0.out
              have po1 := o1.out
              have po2 := o2.out
              have po3 := o3.out
              refine wp_world (fun W => Fr noB w W ∧ Bx W w.heap.size a ∧ Bx W (w.heap.size + 1) b ∧ Bx W (w.heap.size + 2) c ∧ Bl W w3.heap.size 2 0 0 ∧ Bl W w5.heap.size 2 0 0 ∧ Bl W w7.heap.size 2 1 0 ∧ W.heap[w9.heap.size]? = some (.cells #[.int .u8 2, .int .i64 0, .int .i64 0, .string ⟨#[]⟩, .int .u8 2, .int .i64 0, .int .i64 0, .string ⟨#[]⟩, .int .u8 2, .int .i64 1, .int .i64 0, .string ⟨#[]⟩] 23 (0, 0))) ?_ ?_
              · refine ⟨?_, ?_, ?_, ?_, ?_, ?_, ?_, ?_⟩ <;> ((first | unfold Bx | unfold Bl | skip); repeat (first | with_reducible exact hfw_9 | with_reducible refine Fr.alloc ?_ _ | (with_reducible refine Fr.setCell ?_ ?_ _; rotate_left; (intro h; dsimp only at h; omega)) | with_reducible refine Fr.drew ?_ | with_reducible exact hba_9.raw | with_reducible exact hbb_9.raw | with_reducible exact hbc_9.raw | with_reducible exact hbx_9.raw | with_reducible exact hby_9.raw | with_reducible exact hbz_9.raw | (with_reducible refine obj_alloc_at ?_; simp; done) | (with_reducible apply obj_put4; omega) | (with_reducible apply obj_put1; omega) | (with_reducible refine obj_setCell_other ?_ _ _ ?_; rotate_left; (dsimp only; omega)) | with_reducible refine obj_alloc ?_ _ | with_reducible refine obj_drew ?_ | exact hfw_9))
              clear hba_9 hbb_9 hbc_9 hbx_9 hby_9 hbz_9 la lb lc lx ly lz hl po0 po1 po2 po3 ca_0 ca_1 ca_2 ca_3 za cb_0 cb_1 cb_2 cb_3 zb cc_0 cc_1 cc_2 cc_3 zc cx_0 cx_1 cx_2 cx_3 zx cy_0 cy_1 cy_2 cy_3 zy cz_0 cz_1 cz_2 cz_3 zz hfw_9
              rintro w10 ⟨hfw_10, hba_10, hbb_10, hbc_10, hbx_10, hby_10, hbz_10, hbs_10⟩
              obtain ⟨ca_0, ca_1, ca_2, ca_3, za⟩ := hba_10.cs
              obtain ⟨cb_0, cb_1, cb_2, cb_3, zb⟩ := hbb_10.cs
              obtain ⟨cc_0, cc_1, cc_2, cc_3, zc⟩ := hbc_10.cs
              obtain ⟨cx_0, cx_1, cx_2, cx_3, zx⟩ := hbx_10.cs
              obtain ⟨cy_0, cy_1, cy_2, cy_3, zy⟩ := hby_10.cs
              obtain ⟨cz_0, cz_1, cz_2, cz_3, zz⟩ := hbz_10.cs
              have cs_0 : w10.cell? ⟨w9.heap.size, 0, none⟩ = some (.int .u8 2) := by rw [cell_of_obj hbs_10]; rfl
              have cs_1 : w10.cell? ⟨w9.heap.size, 1, none⟩ = some (.int .i64 0) := by rw [cell_of_obj hbs_10]; rfl
              have cs_2 : w10.cell? ⟨w9.heap.size, 2, none⟩ = some (.int .i64 0) := by rw [cell_of_obj hbs_10]; rfl
              have cs_3 : w10.cell? ⟨w9.heap.size, 3, none⟩ = some (.string ⟨#[]⟩) := by rw [cell_of_obj hbs_10]; rfl
              have cs_4 : w10.cell? ⟨w9.heap.size, 4, none⟩ = some (.int .u8 2) := by rw [cell_of_obj hbs_10]; rfl
              have cs_5 : w10.cell? ⟨w9.heap.size, 5, none⟩ = some (.int .i64 0) := by rw [cell_of_obj hbs_10]; rfl
              have cs_6 : w10.cell? ⟨w9.heap.size, 6, none⟩ = some (.int .i64 0) := by rw [cell_of_obj hbs_10]; rfl
              have cs_7 : w10.cell? ⟨w9.heap.size, 7, none⟩ = some (.string ⟨#[]⟩) := by rw [cell_of_obj hbs_10]; rfl
              have cs_8 : w10.cell? ⟨w9.heap.size, 8, none⟩ = some (.int .u8 2) := by rw [cell_of_obj hbs_10]; rfl
              have cs_9 : w10.cell? ⟨w9.heap.size, 9, none⟩ = some (.int .i64 1) := by rw [cell_of_obj hbs_10]; rfl
              have cs_10 : w10.cell? ⟨w9.heap.size, 10, none⟩ = some (.int .i64 0) := by rw [cell_of_obj hbs_10]; rfl
              have cs_11 : w10.cell? ⟨w9.heap.size, 11, none⟩ = some (.string ⟨#[]⟩) := by rw [cell_of_obj hbs_10]; rfl
              have zs := frozen_of_obj hbs_10
              go_loopg [112, 13] 3 (fun gh iv nv wr => ∃ i : Nat, i ≤ 3 ∧ gh = 3 - i ∧ iv = .int .i64 i ∧ ((i = 0 ∧ nv = .int .i64 0) ∨ (i = 1 ∧ nv = .int .i64 0) ∨ (i = 2 ∧ nv = .int .i64 0) ∨ (i = 3 ∧ nv = .int .i64 1)) ∧ Fr noB w10 wr)
              case atStart => exact ⟨0, by omega, by omega, rfl, .inl ⟨rfl, rfl⟩, Fr.refl _ _⟩
              case round =>
                obtain ⟨i, hi, rfl, rfl, hnv, hf⟩ := hrel
                rcases hnv with ⟨rfl, rfl⟩ | ⟨rfl, rfl⟩ | ⟨rfl, rfl⟩ | ⟨rfl, rfl⟩
                · have hs := hf.obj (fun x => x) hbs_10
                  clear hba_10 hbb_10 hbc_10 hbx_10 hby_10 hbz_10 hbs_10 ca_0 ca_1 ca_2 ca_3 za cb_0 cb_1 cb_2 cb_3 zb cc_0 cc_1 cc_2 cc_3 zc cx_0 cx_1 cx_2 cx_3 zx cy_0 cy_1 cy_2 cy_3 zy cz_0 cz_1 cz_2 cz_3 zz cs_0 cs_1 cs_2 cs_3 cs_4 cs_5 cs_6 cs_7 cs_8 cs_9 cs_10 cs_11 zs hi
                  have d0 : wr.cell? ⟨w9.heap.size, 0, none⟩ = some (.int .u8 2) := by rw [cell_of_obj hs]; rfl
                  have d1 : wr.cell? ⟨w9.heap.size, 1, none⟩ = some (.int .i64 0) := by rw [cell_of_obj hs]; rfl
                  have d2 : wr.cell? ⟨w9.heap.size, 2, none⟩ = some (.int .i64 0) := by rw [cell_of_obj hs]; rfl
                  have d3 : wr.cell? ⟨w9.heap.size, 3, none⟩ = some (.string ⟨#[]⟩) := by rw [cell_of_obj hs]; rfl
                  go_wp2_with fail
                  refine (HY0.out _).mono ?_
                  rintro e x1 ⟨rfl, hf2⟩
                  go_wp2_with fail
                  go_roundg 2
                  case measure => omega
                  case rel => exact ⟨1, by omega, by omega, by go_num, .inr (.inl ⟨rfl, by go_num⟩), (hf.alloc _).trans hf2⟩
                · have hs := hf.obj (fun x => x) hbs_10
                  clear hba_10 hbb_10 hbc_10 hbx_10 hby_10 hbz_10 hbs_10 ca_0 ca_1 ca_2 ca_3 za cb_0 cb_1 cb_2 cb_3 zb cc_0 cc_1 cc_2 cc_3 zc cx_0 cx_1 cx_2 cx_3 zx cy_0 cy_1 cy_2 cy_3 zy cz_0 cz_1 cz_2 cz_3 zz cs_0 cs_1 cs_2 cs_3 cs_4 cs_5 cs_6 cs_7 cs_8 cs_9 cs_10 cs_11 zs hi
                  have d0 : wr.cell? ⟨w9.heap.size, 4, none⟩ = some (.int .u8 2) := by rw [cell_of_obj hs]; rfl
                  have d1 : wr.cell? ⟨w9.heap.size, 5, none⟩ = some (.int .i64 0) := by rw [cell_of_obj hs]; rfl
                  have d2 : wr.cell? ⟨w9.heap.size, 6, none⟩ = some (.int .i64 0) := by rw [cell_of_obj hs]; rfl
                  have d3 : wr.cell? ⟨w9.heap.size, 7, none⟩ = some (.string ⟨#[]⟩) := by rw [cell_of_obj hs]; rfl
                  go_wp2_with fail
                  refine (HY0.out _).mono ?_
                  rintro e x1 ⟨rfl, hf2⟩
                  go_wp2_with fail
                  go_roundg 1
                  case measure => omega
                  case rel => exact ⟨2, by omega, by omega, by go_num, .inr (.inr (.inl ⟨rfl, by go_num⟩)), (hf.alloc _).trans hf2⟩
                · have hs := hf.obj (fun x => x) hbs_10
                  clear hba_10 hbb_10 hbc_10 hbx_10 hby_10 hbz_10 hbs_10 ca_0 ca_1 ca_2 ca_3 za cb_0 cb_1 cb_2 cb_3 zb cc_0 cc_1 cc_2 cc_3 zc cx_0 cx_1 cx_2 cx_3 zx cy_0 cy_1 cy_2 cy_3 zy cz_0 cz_1 cz_2 cz_3 zz cs_0 cs_1 cs_2 cs_3 cs_4 cs_5 cs_6 cs_7 cs_8 cs_9 cs_10 cs_11 zs hi
                  have d0 : wr.cell? ⟨w9.heap.size, 8, none⟩ = some (.int .u8 2) := by rw [cell_of_obj hs]; rfl
                  have d1 : wr.cell? ⟨w9.heap.size, 9, none⟩ = some (.int .i64 1) := by rw [cell_of_obj hs]; rfl
                  have d2 : wr.cell? ⟨w9.heap.size, 10, none⟩ = some (.int .i64 0) := by rw [cell_of_obj hs]; rfl
                  have d3 : wr.cell? ⟨w9.heap.size, 11, none⟩ = some (.string ⟨#[]⟩) := by rw [cell_of_obj hs]; rfl
                  go_wp2_with fail
                  refine (HY1.out _).mono ?_
                  rintro e x1 ⟨rfl, hf2⟩
                  go_wp2_with fail
                  go_roundg 0
                  case measure => omega
                  case rel => exact ⟨3, by omega, by omega, by go_num, .inr (.inr (.inr ⟨rfl, by go_num⟩)), (hf.alloc _).trans hf2⟩
                · clear hi
                  have hba_11 := hba_10.mv hf
                  have hbb_11 := hbb_10.mv hf
                  have hbc_11 := hbc_10.mv hf
                  have hbx_11 := hbx_10.mv hf
                  have hby_11 := hby_10.mv hf
                  have hbz_11 := hbz_10.mv hf
                  have hbs_11 := raw_mv hbs_10 hf
                  have hfw_11 := hfw_10.transN hf
                  clear hba_10 hbb_10 hbc_10 hbx_10 hby_10 hbz_10 hbs_10 ca_0 ca_1 ca_2 ca_3 za cb_0 cb_1 cb_2 cb_3 zb cc_0 cc_1 cc_2 cc_3 zc cx_0 cx_1 cx_2 cx_3 zx cy_0 cy_1 cy_2 cy_3 zy cz_0 cz_1 cz_2 cz_3 zz cs_0 cs_1 cs_2 cs_3 cs_4 cs_5 cs_6 cs_7 cs_8 cs_9 cs_10 cs_11 zs hf hfw_10
                  obtain ⟨ca_0, ca_1, ca_2, ca_3, za⟩ := hba_11.cs
                  obtain ⟨cb_0, cb_1, cb_2, cb_3, zb⟩ := hbb_11.cs
                  obtain ⟨cc_0, cc_1, cc_2, cc_3, zc⟩ := hbc_11.cs
                  obtain ⟨cx_0, cx_1, cx_2, cx_3, zx⟩ := hbx_11.cs
                  obtain ⟨cy_0, cy_1, cy_2, cy_3, zy⟩ := hby_11.cs
                  obtain ⟨cz_0, cz_1, cz_2, cz_3, zz⟩ := hbz_11.cs
                  have cs_0 : wr.cell? ⟨w9.heap.size, 0, none⟩ = some (.int .u8 2) := by rw [cell_of_obj hbs_11]; rfl
                  have cs_1 : wr.cell? ⟨w9.heap.size, 1, none⟩ = some (.int .i64 0) := by rw [cell_of_obj hbs_11]; rfl
                  have cs_2 : wr.cell? ⟨w9.heap.size, 2, none⟩ = some (.int .i64 0) := by rw [cell_of_obj hbs_11]; rfl
                  have cs_3 : wr.cell? ⟨w9.heap.size, 3, none⟩ = some (.string ⟨#[]⟩) := by rw [cell_of_obj hbs_11]; rfl
                  have cs_4 : wr.cell? ⟨w9.heap.size, 4, none⟩ = some (.int .u8 2) := by rw [cell_of_obj hbs_11]; rfl
                  have cs_5 : wr.cell? ⟨w9.heap.size, 5, none⟩ = some (.int .i64 0) := by rw [cell_of_obj hbs_11]; rfl
                  have cs_6 : wr.cell? ⟨w9.heap.size, 6, none⟩ = some (.int .i64 0) := by rw [cell_of_obj hbs_11]; rfl
                  have cs_7 : wr.cell? ⟨w9.heap.size, 7, none⟩ = some (.string ⟨#[]⟩) := by rw [cell_of_obj hbs_11]; rfl
                  have cs_8 : wr.cell? ⟨w9.heap.size, 8, none⟩ = some (.int .u8 2) := by rw [cell_of_obj hbs_11]; rfl
                  have cs_9 : wr.cell? ⟨w9.heap.size, 9, none⟩ = some (.int .i64 1) := by rw [cell_of_obj hbs_11]; rfl
                  have cs_10 : wr.cell? ⟨w9.heap.size, 10, none⟩ = some (.int .i64 0) := by rw [cell_of_obj hbs_11]; rfl
                  have cs_11 : wr.cell? ⟨w9.heap.size, 11, none⟩ = some (.string ⟨#[]⟩) := by rw [cell_of_obj hbs_11]; rfl
                  have zs := frozen_of_obj hbs_11
                  go_wp2_with fail
                  refine (HU.out _).mono ?_
                  rintro e w12 ⟨rfl, hf12⟩
                  have la := hba_11.lt
                  have lb := hbb_11.lt
                  have lc := hbc_11.lt
                  have lx := hbx_11.lt
                  have ly := hby_11.lt
                  have lz := hbz_11.lt
                  have ls := obj_lt hbs_11
                  have hl := hfw_11.size
                  have po0 := o0.out
                  have po1 := o1.out
                  have po2 := o2.out
                  have po3 := o3.out
                  have hB : Bx w12 w.heap.size a ∧ Bx w12 (w.heap.size + 1) b ∧ Bx w12 (w.heap.size + 2) c ∧ Bl w12 w3.heap.size 2 0 0 ∧ Bl w12 w5.heap.size 2 0 0 ∧ Bl w12 w7.heap.size 2 1 0 ∧ w12.heap[w9.heap.size]? = some (.cells #[.int .u8 2, .int .i64 0, .int .i64 0, .string ⟨#[]⟩, .int .u8 2, .int .i64 0, .int .i64 0, .string ⟨#[]⟩, .int .u8 2, .int .i64 1, .int .i64 0, .string ⟨#[]⟩] 23 (0, 0)) := by
                    refine ⟨?_, ?_, ?_, ?_, ?_, ?_, ?_⟩ <;> ((first | unfold Bx | unfold Bl | skip); refine hf12.obj (noB_not _) ?_; repeat (first | with_reducible exact hba_11.raw | with_reducible exact hbb_11.raw | with_reducible exact hbc_11.raw | with_reducible exact hbx_11.raw | with_reducible exact hby_11.raw | with_reducible exact hbz_11.raw | with_reducible exact hbs_11 | (with_reducible refine obj_alloc_at ?_; simp; done) | (with_reducible apply obj_put4; omega) | (with_reducible apply obj_put1; omega) | (with_reducible refine obj_setCell_other ?_ _ _ ?_; rotate_left; (dsimp only; omega)) | with_reducible refine obj_alloc ?_ _ | with_reducible refine obj_drew ?_))
                  obtain ⟨hba_12, hbb_12, hbc_12, hbx_12, hby_12, hbz_12, hbs_12⟩ := hB
                  have hfw_12 : Fr noB w w12 := by
                    refine Fr.transN ?_ hf12
                    repeat (first | with_reducible exact hfw_11 | with_reducible refine Fr.alloc ?_ _ | (with_reducible refine Fr.setCell ?_ ?_ _; rotate_left; (intro h; dsimp only at h; omega)) | with_reducible refine Fr.drew ?_ | exact hfw_11)
                  clear hba_11 hbb_11 hbc_11 hbx_11 hby_11 hbz_11 hbs_11 la lb lc lx ly lz ls hl po0 po1 po2 po3 ca_0 ca_1 ca_2 ca_3 za cb_0 cb_1 cb_2 cb_3 zb cc_0 cc_1 cc_2 cc_3 zc cx_0 cx_1 cx_2 cx_3 zx cy_0 cy_1 cy_2 cy_3 zy cz_0 cz_1 cz_2 cz_3 zz cs_0 cs_1 cs_2 cs_3 cs_4 cs_5 cs_6 cs_7 cs_8 cs_9 cs_10 cs_11 zs hf12 hfw_11
                  obtain ⟨ca_0, ca_1, ca_2, ca_3, za⟩ := hba_12.cs
                  obtain ⟨cb_0, cb_1, cb_2, cb_3, zb⟩ := hbb_12.cs
                  obtain ⟨cc_0, cc_1, cc_2, cc_3, zc⟩ := hbc_12.cs
                  obtain ⟨cx_0, cx_1, cx_2, cx_3, zx⟩ := hbx_12.cs
                  obtain ⟨cy_0, cy_1, cy_2, cy_3, zy⟩ := hby_12.cs
                  obtain ⟨cz_0, cz_1, cz_2, cz_3, zz⟩ := hbz_12.cs
                  have cs_0 : w12.cell? ⟨w9.heap.size, 0, none⟩ = some (.int .u8 2) := by rw [cell_of_obj hbs_12]; rfl
                  have cs_1 : w12.cell? ⟨w9.heap.size, 1, none⟩ = some (.int .i64 0) := by rw [cell_of_obj hbs_12]; rfl
                  have cs_2 : w12.cell? ⟨w9.heap.size, 2, none⟩ = some (.int .i64 0) := by rw [cell_of_obj hbs_12]; rfl
                  have cs_3 : w12.cell? ⟨w9.heap.size, 3, none⟩ = some (.string ⟨#[]⟩) := by rw [cell_of_obj hbs_12]; rfl
                  have cs_4 : w12.cell? ⟨w9.heap.size, 4, none⟩ = some (.int .u8 2) := by rw [cell_of_obj hbs_12]; rfl
                  have cs_5 : w12.cell? ⟨w9.heap.size, 5, none⟩ = some (.int .i64 0) := by rw [cell_of_obj hbs_12]; rfl
                  have cs_6 : w12.cell? ⟨w9.heap.size, 6, none⟩ = some (.int .i64 0) := by rw [cell_of_obj hbs_12]; rfl
                  have cs_7 : w12.cell? ⟨w9.heap.size, 7, none⟩ = some (.string ⟨#[]⟩) := by rw [cell_of_obj hbs_12]; rfl
                  have cs_8 : w12.cell? ⟨w9.heap.size, 8, none⟩ = some (.int .u8 2) := by rw [cell_of_obj hbs_12]; rfl
                  have cs_9 : w12.cell? ⟨w9.heap.size, 9, none⟩ = some (.int .i64 1) := by rw [cell_of_obj hbs_12]; rfl
                  have cs_10 : w12.cell? ⟨w9.heap.size, 10, none⟩ = some (.int .i64 0) := by rw [cell_of_obj hbs_12]; rfl
                  have cs_11 : w12.cell? ⟨w9.heap.size, 11, none⟩ = some (.string ⟨#[]⟩) := by rw [cell_of_obj hbs_12]; rfl
                  have zs := frozen_of_obj hbs_12
                  go_upto_region 20 with fail
                  have o4 := Lib.hid (obj_lt hbs_12)
                  have la := hba_12.lt
                  have lb := hbb_12.lt
                  have lc := hbc_12.lt
                  have lx := hbx_12.lt
                  have ly := hby_12.lt
                  have lz := hbz_12.lt
                  have ls := obj_lt hbs_12
                  have hl := hfw_12.size
                  have po0 := o0.out
                  have po1 := o1.out
                  have po2 := o2.out
                  have po3 := o3.out
                  have po4 := o4.out
                  refine wp_world (fun W => Fr noB w W ∧ Bx W w.heap.size a ∧ Bx W (w.heap.size + 1) b ∧ Bx W (w.heap.size + 2) c ∧ Bl W w3.heap.size 2 0 0 ∧ Bl W w5.heap.size 2 0 0 ∧ Bl W w7.heap.size 2 1 0 ∧ W.heap[w9.heap.size]? = some (.cells #[.int .u8 2, .int .i64 0, .int .i64 0, .string ⟨#[]⟩, .int .u8 2, .int .i64 0, .int .i64 0, .string ⟨#[]⟩, .int .u8 2, .int .i64 1, .int .i64 0, .string ⟨#[]⟩] 23 (0, 0)) ∧ Bx W w12.heap.size U.1) ?_ ?_
                  · refine ⟨?_, ?_, ?_, ?_, ?_, ?_, ?_, ?_, ?_⟩ <;> ((first | unfold Bx | unfold Bl | skip); repeat (first | with_reducible exact hfw_12 | with_reducible refine Fr.alloc ?_ _ | (with_reducible refine Fr.setCell ?_ ?_ _; rotate_left; (intro h; dsimp only at h; omega)) | with_reducible refine Fr.drew ?_ | with_reducible exact hba_12.raw | with_reducible exact hbb_12.raw | with_reducible exact hbc_12.raw | with_reducible exact hbx_12.raw | with_reducible exact hby_12.raw | with_reducible exact hbz_12.raw | with_reducible exact hbs_12 | (with_reducible refine obj_alloc_at ?_; simp; done) | (with_reducible apply obj_put4; omega) | (with_reducible apply obj_put1; omega) | (with_reducible refine obj_setCell_other ?_ _ _ ?_; rotate_left; (dsimp only; omega)) | with_reducible refine obj_alloc ?_ _ | with_reducible refine obj_drew ?_ | exact hfw_12))
                  clear hba_12 hbb_12 hbc_12 hbx_12 hby_12 hbz_12 hbs_12 la lb lc lx ly lz ls hl po0 po1 po2 po3 po4 ca_0 ca_1 ca_2 ca_3 za cb_0 cb_1 cb_2 cb_3 zb cc_0 cc_1 cc_2 cc_3 zc cx_0 cx_1 cx_2 cx_3 zx cy_0 cy_1 cy_2 cy_3 zy cz_0 cz_1 cz_2 cz_3 zz cs_0 cs_1 cs_2 cs_3 cs_4 cs_5 cs_6 cs_7 cs_8 cs_9 cs_10 cs_11 zs hfw_12
                  rintro w13 ⟨hfw_13, hba_13, hbb_13, hbc_13, hbx_13, hby_13, hbz_13, hbs_13, hbu_13⟩
                  obtain ⟨ca_0, ca_1, ca_2, ca_3, za⟩ := hba_13.cs
                  obtain ⟨cb_0, cb_1, cb_2, cb_3, zb⟩ := hbb_13.cs
                  obtain ⟨cc_0, cc_1, cc_2, cc_3, zc⟩ := hbc_13.cs
                  obtain ⟨cx_0, cx_1, cx_2, cx_3, zx⟩ := hbx_13.cs
                  obtain ⟨cy_0, cy_1, cy_2, cy_3, zy⟩ := hby_13.cs
                  obtain ⟨cz_0, cz_1, cz_2, cz_3, zz⟩ := hbz_13.cs
                  have cs_0 : w13.cell? ⟨w9.heap.size, 0, none⟩ = some (.int .u8 2) := by rw [cell_of_obj hbs_13]; rfl
                  have cs_1 : w13.cell? ⟨w9.heap.size, 1, none⟩ = some (.int .i64 0) := by rw [cell_of_obj hbs_13]; rfl
                  have cs_2 : w13.cell? ⟨w9.heap.size, 2, none⟩ = some (.int .i64 0) := by rw [cell_of_obj hbs_13]; rfl
                  have cs_3 : w13.cell? ⟨w9.heap.size, 3, none⟩ = some (.string ⟨#[]⟩) := by rw [cell_of_obj hbs_13]; rfl
                  have cs_4 : w13.cell? ⟨w9.heap.size, 4, none⟩ = some (.int .u8 2) := by rw [cell_of_obj hbs_13]; rfl
                  have cs_5 : w13.cell? ⟨w9.heap.size, 5, none⟩ = some (.int .i64 0) := by rw [cell_of_obj hbs_13]; rfl
                  have cs_6 : w13.cell? ⟨w9.heap.size, 6, none⟩ = some (.int .i64 0) := by rw [cell_of_obj hbs_13]; rfl
                  have cs_7 : w13.cell? ⟨w9.heap.size, 7, none⟩ = some (.string ⟨#[]⟩) := by rw [cell_of_obj hbs_13]; rfl
                  have cs_8 : w13.cell? ⟨w9.heap.size, 8, none⟩ = some (.int .u8 2) := by rw [cell_of_obj hbs_13]; rfl
                  have cs_9 : w13.cell? ⟨w9.heap.size, 9, none⟩ = some (.int .i64 1) := by rw [cell_of_obj hbs_13]; rfl
                  have cs_10 : w13.cell? ⟨w9.heap.size, 10, none⟩ = some (.int .i64 0) := by rw [cell_of_obj hbs_13]; rfl
                  have cs_11 : w13.cell? ⟨w9.heap.size, 11, none⟩ = some (.string ⟨#[]⟩) := by rw [cell_of_obj hbs_13]; rfl
                  have zs := frozen_of_obj hbs_13
                  obtain ⟨cu_0, cu_1, cu_2, cu_3, zu⟩ := hbu_13.cs
                  go_wp2_with fail
                  refine (HTT.out _).mono ?_
                  rintro e w14 ⟨rfl, hf14⟩
                  have la := hba_13.lt
                  have lb := hbb_13.lt
                  have lc := hbc_13.lt
                  have lx := hbx_13.lt
                  have ly := hby_13.lt
                  have lz := hbz_13.lt
                  have ls := obj_lt hbs_13
                  have lu := hbu_13.lt
                  have hl := hfw_13.size
                  have po0 := o0.out
                  have po1 := o1.out
                  have po2 := o2.out
                  have po3 := o3.out
                  have po4 := o4.out
                  have hB : Bx w14 w.heap.size a ∧ Bx w14 (w.heap.size + 1) b ∧ Bx w14 (w.heap.size + 2) c ∧ Bl w14 w3.heap.size 2 0 0 ∧ Bl w14 w5.heap.size 2 0 0 ∧ Bl w14 w7.heap.size 2 1 0 ∧ w14.heap[w9.heap.size]? = some (.cells #[.int .u8 2, .int .i64 0, .int .i64 0, .string ⟨#[]⟩, .int .u8 2, .int .i64 0, .int .i64 0, .string ⟨#[]⟩, .int .u8 2, .int .i64 1, .int .i64 0, .string ⟨#[]⟩] 23 (0, 0)) ∧ Bx w14 w12.heap.size U.1 := by
                    refine ⟨?_, ?_, ?_, ?_, ?_, ?_, ?_, ?_⟩ <;> ((first | unfold Bx | unfold Bl | skip); refine hf14.obj (noB_not _) ?_; repeat (first | with_reducible exact hba_13.raw | with_reducible exact hbb_13.raw | with_reducible exact hbc_13.raw | with_reducible exact hbx_13.raw | with_reducible exact hby_13.raw | with_reducible exact hbz_13.raw | with_reducible exact hbs_13 | with_reducible exact hbu_13.raw | (with_reducible refine obj_alloc_at ?_; simp; done) | (with_reducible apply obj_put4; omega) | (with_reducible apply obj_put1; omega) | (with_reducible refine obj_setCell_other ?_ _ _ ?_; rotate_left; (dsimp only; omega)) | with_reducible refine obj_alloc ?_ _ | with_reducible refine obj_drew ?_))
                  obtain ⟨hba_14, hbb_14, hbc_14, hbx_14, hby_14, hbz_14, hbs_14, hbu_14⟩ := hB
                  have hfw_14 : Fr noB w w14 := by
                    refine Fr.transN ?_ hf14
                    repeat (first | with_reducible exact hfw_13 | with_reducible refine Fr.alloc ?_ _ | (with_reducible refine Fr.setCell ?_ ?_ _; rotate_left; (intro h; dsimp only at h; omega)) | with_reducible refine Fr.drew ?_ | exact hfw_13)
                  clear hba_13 hbb_13 hbc_13 hbx_13 hby_13 hbz_13 hbs_13 hbu_13 la lb lc lx ly lz ls lu hl po0 po1 po2 po3 po4 ca_0 ca_1 ca_2 ca_3 za cb_0 cb_1 cb_2 cb_3 zb cc_0 cc_1 cc_2 cc_3 zc cx_0 cx_1 cx_2 cx_3 zx cy_0 cy_1 cy_2 cy_3 zy cz_0 cz_1 cz_2 cz_3 zz cs_0 cs_1 cs_2 cs_3 cs_4 cs_5 cs_6 cs_7 cs_8 cs_9 cs_10 cs_11 zs cu_0 cu_1 cu_2 cu_3 zu hf14 hfw_13
                  obtain ⟨ca_0, ca_1, ca_2, ca_3, za⟩ := hba_14.cs
                  obtain ⟨cb_0, cb_1, cb_2, cb_3, zb⟩ := hbb_14.cs
                  obtain ⟨cc_0, cc_1, cc_2, cc_3, zc⟩ := hbc_14.cs
                  obtain ⟨cx_0, cx_1, cx_2, cx_3, zx⟩ := hbx_14.cs
                  obtain ⟨cy_0, cy_1, cy_2, cy_3, zy⟩ := hby_14.cs
                  obtain ⟨cz_0, cz_1, cz_2, cz_3, zz⟩ := hbz_14.cs
                  have cs_0 : w14.cell? ⟨w9.heap.size, 0, none⟩ = some (.int .u8 2) := by rw [cell_of_obj hbs_14]; rfl
                  have cs_1 : w14.cell? ⟨w9.heap.size, 1, none⟩ = some (.int .i64 0) := by rw [cell_of_obj hbs_14]; rfl
                  have cs_2 : w14.cell? ⟨w9.heap.size, 2, none⟩ = some (.int .i64 0) := by rw [cell_of_obj hbs_14]; rfl
                  have cs_3 : w14.cell? ⟨w9.heap.size, 3, none⟩ = some (.string ⟨#[]⟩) := by rw [cell_of_obj hbs_14]; rfl
                  have cs_4 : w14.cell? ⟨w9.heap.size, 4, none⟩ = some (.int .u8 2) := by rw [cell_of_obj hbs_14]; rfl
                  have cs_5 : w14.cell? ⟨w9.heap.size, 5, none⟩ = some (.int .i64 0) := by rw [cell_of_obj hbs_14]; rfl
                  have cs_6 : w14.cell? ⟨w9.heap.size, 6, none⟩ = some (.int .i64 0) := by rw [cell_of_obj hbs_14]; rfl
                  have cs_7 : w14.cell? ⟨w9.heap.size, 7, none⟩ = some (.string ⟨#[]⟩) := by rw [cell_of_obj hbs_14]; rfl
                  have cs_8 : w14.cell? ⟨w9.heap.size, 8, none⟩ = some (.int .u8 2) := by rw [cell_of_obj hbs_14]; rfl
                  have cs_9 : w14.cell? ⟨w9.heap.size, 9, none⟩ = some (.int .i64 1) := by rw [cell_of_obj hbs_14]; rfl
                  have cs_10 : w14.cell? ⟨w9.heap.size, 10, none⟩ = some (.int .i64 0) := by rw [cell_of_obj hbs_14]; rfl
                  have cs_11 : w14.cell? ⟨w9.heap.size, 11, none⟩ = some (.string ⟨#[]⟩) := by rw [cell_of_obj hbs_14]; rfl
                  have zs := frozen_of_obj hbs_14
                  obtain ⟨cu_0, cu_1, cu_2, cu_3, zu⟩ := hbu_14.cs
                  go_upto_region 21 with fail
                  have o5 := Lib.hid (hbu_14.lt)
                  have la := hba_14.lt
                  have lb := hbb_14.lt
                  have lc := hbc_14.lt
                  have lx := hbx_14.lt
                  have ly := hby_14.lt
                  have lz := hbz_14.lt
                  have ls := obj_lt hbs_14
                  have lu := hbu_14.lt
                  have hl := hfw_14.size
                  have po0 := o0.out
                  have po1 := o1.out
                  have po2 := o2.out
                  have po3 := o3.out
                  have po4 := o4.out
                  have po5 := o5.out
                  refine wp_world (fun W => Fr noB w W ∧ Bx W w.heap.size a ∧ Bx W (w.heap.size + 1) b ∧ Bx W (w.heap.size + 2) c ∧ Bl W w3.heap.size 2 0 0 ∧ Bl W w5.heap.size 2 0 0 ∧ Bl W w7.heap.size 2 1 0 ∧ W.heap[w9.heap.size]? = some (.cells #[.int .u8 2, .int .i64 0, .int .i64 0, .string ⟨#[]⟩, .int .u8 2, .int .i64 0, .int .i64 0, .string ⟨#[]⟩, .int .u8 2, .int .i64 1, .int .i64 0, .string ⟨#[]⟩] 23 (0, 0)) ∧ Bx W w12.heap.size U.1 ∧ Bx W w14.heap.size T.1) ?_ ?_
                  · refine ⟨?_, ?_, ?_, ?_, ?_, ?_, ?_, ?_, ?_, ?_⟩ <;> ((first | unfold Bx | unfold Bl | skip); repeat (first | with_reducible exact hfw_14 | with_reducible refine Fr.alloc ?_ _ | (with_reducible refine Fr.setCell ?_ ?_ _; rotate_left; (intro h; dsimp only at h; omega)) | with_reducible refine Fr.drew ?_ | with_reducible exact hba_14.raw | with_reducible exact hbb_14.raw | with_reducible exact hbc_14.raw | with_reducible exact hbx_14.raw | with_reducible exact hby_14.raw | with_reducible exact hbz_14.raw | with_reducible exact hbs_14 | with_reducible exact hbu_14.raw | (with_reducible refine obj_alloc_at ?_; simp; done) | (with_reducible apply obj_put4; omega) | (with_reducible apply obj_put1; omega) | (with_reducible refine obj_setCell_other ?_ _ _ ?_; rotate_left; (dsimp only; omega)) | with_reducible refine obj_alloc ?_ _ | with_reducible refine obj_drew ?_ | exact hfw_14))
                  clear hba_14 hbb_14 hbc_14 hbx_14 hby_14 hbz_14 hbs_14 hbu_14 la lb lc lx ly lz ls lu hl po0 po1 po2 po3 po4 po5 ca_0 ca_1 ca_2 ca_3 za cb_0 cb_1 cb_2 cb_3 zb cc_0 cc_1 cc_2 cc_3 zc cx_0 cx_1 cx_2 cx_3 zx cy_0 cy_1 cy_2 cy_3 zy cz_0 cz_1 cz_2 cz_3 zz cs_0 cs_1 cs_2 cs_3 cs_4 cs_5 cs_6 cs_7 cs_8 cs_9 cs_10 cs_11 zs cu_0 cu_1 cu_2 cu_3 zu hfw_14
                  rintro w15 ⟨hfw_15, hba_15, hbb_15, hbc_15, hbx_15, hby_15, hbz_15, hbs_15, hbu_15, hbt_15⟩
                  obtain ⟨ca_0, ca_1, ca_2, ca_3, za⟩ := hba_15.cs
                  obtain ⟨cb_0, cb_1, cb_2, cb_3, zb⟩ := hbb_15.cs
                  obtain ⟨cc_0, cc_1, cc_2, cc_3, zc⟩ := hbc_15.cs
                  obtain ⟨cx_0, cx_1, cx_2, cx_3, zx⟩ := hbx_15.cs
                  obtain ⟨cy_0, cy_1, cy_2, cy_3, zy⟩ := hby_15.cs
                  obtain ⟨cz_0, cz_1, cz_2, cz_3, zz⟩ := hbz_15.cs
                  have cs_0 : w15.cell? ⟨w9.heap.size, 0, none⟩ = some (.int .u8 2) := by rw [cell_of_obj hbs_15]; rfl
                  have cs_1 : w15.cell? ⟨w9.heap.size, 1, none⟩ = some (.int .i64 0) := by rw [cell_of_obj hbs_15]; rfl
                  have cs_2 : w15.cell? ⟨w9.heap.size, 2, none⟩ = some (.int .i64 0) := by rw [cell_of_obj hbs_15]; rfl
                  have cs_3 : w15.cell? ⟨w9.heap.size, 3, none⟩ = some (.string ⟨#[]⟩) := by rw [cell_of_obj hbs_15]; rfl
                  have cs_4 : w15.cell? ⟨w9.heap.size, 4, none⟩ = some (.int .u8 2) := by rw [cell_of_obj hbs_15]; rfl
                  have cs_5 : w15.cell? ⟨w9.heap.size, 5, none⟩ = some (.int .i64 0) := by rw [cell_of_obj hbs_15]; rfl
                  have cs_6 : w15.cell? ⟨w9.heap.size, 6, none⟩ = some (.int .i64 0) := by rw [cell_of_obj hbs_15]; rfl
                  have cs_7 : w15.cell? ⟨w9.heap.size, 7, none⟩ = some (.string ⟨#[]⟩) := by rw [cell_of_obj hbs_15]; rfl
                  have cs_8 : w15.cell? ⟨w9.heap.size, 8, none⟩ = some (.int .u8 2) := by rw [cell_of_obj hbs_15]; rfl
                  have cs_9 : w15.cell? ⟨w9.heap.size, 9, none⟩ = some (.int .i64 1) := by rw [cell_of_obj hbs_15]; rfl
                  have cs_10 : w15.cell? ⟨w9.heap.size, 10, none⟩ = some (.int .i64 0) := by rw [cell_of_obj hbs_15]; rfl
                  have cs_11 : w15.cell? ⟨w9.heap.size, 11, none⟩ = some (.string ⟨#[]⟩) := by rw [cell_of_obj hbs_15]; rfl
                  have zs := frozen_of_obj hbs_15
                  obtain ⟨cu_0, cu_1, cu_2, cu_3, zu⟩ := hbu_15.cs
                  obtain ⟨ct_0, ct_1, ct_2, ct_3, zt⟩ := hbt_15.cs
                  cases hu : (U.2 != 0)
                  · go_wp2_with fail
                    refine (HY0.out _).mono ?_
                    rintro e w16 ⟨rfl, hf16⟩
                    have la := hba_15.lt
                    have lb := hbb_15.lt
                    have lc := hbc_15.lt
                    have lx := hbx_15.lt
                    have ly := hby_15.lt
                    have lz := hbz_15.lt
                    have ls := obj_lt hbs_15
                    have lu := hbu_15.lt
                    have lt := hbt_15.lt
                    have hl := hfw_15.size
                    have po0 := o0.out
                    have po1 := o1.out
                    have po2 := o2.out
                    have po3 := o3.out
                    have po4 := o4.out
                    have po5 := o5.out
                    have hB : Bx w16 w.heap.size a ∧ Bx w16 (w.heap.size + 1) b ∧ Bx w16 (w.heap.size + 2) c ∧ Bl w16 w3.heap.size 2 0 0 ∧ Bl w16 w5.heap.size 2 0 0 ∧ Bl w16 w7.heap.size 2 1 0 ∧ w16.heap[w9.heap.size]? = some (.cells #[.int .u8 2, .int .i64 0, .int .i64 0, .string ⟨#[]⟩, .int .u8 2, .int .i64 0, .int .i64 0, .string ⟨#[]⟩, .int .u8 2, .int .i64 1, .int .i64 0, .string ⟨#[]⟩] 23 (0, 0)) ∧ Bx w16 w12.heap.size U.1 ∧ Bx w16 w14.heap.size T.1 := by
                      refine ⟨?_, ?_, ?_, ?_, ?_, ?_, ?_, ?_, ?_⟩ <;> ((first | unfold Bx | unfold Bl | skip); refine hf16.obj (noB_not _) ?_; repeat (first | with_reducible exact hba_15.raw | with_reducible exact hbb_15.raw | with_reducible exact hbc_15.raw | with_reducible exact hbx_15.raw | with_reducible exact hby_15.raw | with_reducible exact hbz_15.raw | with_reducible exact hbs_15 | with_reducible exact hbu_15.raw | with_reducible exact hbt_15.raw | (with_reducible refine obj_alloc_at ?_; simp; done) | (with_reducible apply obj_put4; omega) | (with_reducible apply obj_put1; omega) | (with_reducible refine obj_setCell_other ?_ _ _ ?_; rotate_left; (dsimp only; omega)) | with_reducible refine obj_alloc ?_ _ | with_reducible refine obj_drew ?_))
                    obtain ⟨hba_16, hbb_16, hbc_16, hbx_16, hby_16, hbz_16, hbs_16, hbu_16, hbt_16⟩ := hB
                    have hfw_16 : Fr noB w w16 := by
                      refine Fr.transN ?_ hf16
                      repeat (first | with_reducible exact hfw_15 | with_reducible refine Fr.alloc ?_ _ | (with_reducible refine Fr.setCell ?_ ?_ _; rotate_left; (intro h; dsimp only at h; omega)) | with_reducible refine Fr.drew ?_ | exact hfw_15)
                    clear hba_15 hbb_15 hbc_15 hbx_15 hby_15 hbz_15 hbs_15 hbu_15 hbt_15 la lb lc lx ly lz ls lu lt hl po0 po1 po2 po3 po4 po5 ca_0 ca_1 ca_2 ca_3 za cb_0 cb_1 cb_2 cb_3 zb cc_0 cc_1 cc_2 cc_3 zc cx_0 cx_1 cx_2 cx_3 zx cy_0 cy_1 cy_2 cy_3 zy cz_0 cz_1 cz_2 cz_3 zz cs_0 cs_1 cs_2 cs_3 cs_4 cs_5 cs_6 cs_7 cs_8 cs_9 cs_10 cs_11 zs cu_0 cu_1 cu_2 cu_3 zu ct_0 ct_1 ct_2 ct_3 zt hf16 hfw_15
                    obtain ⟨ca_0, ca_1, ca_2, ca_3, za⟩ := hba_16.cs
                    obtain ⟨cb_0, cb_1, cb_2, cb_3, zb⟩ := hbb_16.cs
                    obtain ⟨cc_0, cc_1, cc_2, cc_3, zc⟩ := hbc_16.cs
                    obtain ⟨cx_0, cx_1, cx_2, cx_3, zx⟩ := hbx_16.cs
                    obtain ⟨cy_0, cy_1, cy_2, cy_3, zy⟩ := hby_16.cs
                    obtain ⟨cz_0, cz_1, cz_2, cz_3, zz⟩ := hbz_16.cs
                    have cs_0 : w16.cell? ⟨w9.heap.size, 0, none⟩ = some (.int .u8 2) := by rw [cell_of_obj hbs_16]; rfl
                    have cs_1 : w16.cell? ⟨w9.heap.size, 1, none⟩ = some (.int .i64 0) := by rw [cell_of_obj hbs_16]; rfl
                    have cs_2 : w16.cell? ⟨w9.heap.size, 2, none⟩ = some (.int .i64 0) := by rw [cell_of_obj hbs_16]; rfl
                    have cs_3 : w16.cell? ⟨w9.heap.size, 3, none⟩ = some (.string ⟨#[]⟩) := by rw [cell_of_obj hbs_16]; rfl
                    have cs_4 : w16.cell? ⟨w9.heap.size, 4, none⟩ = some (.int .u8 2) := by rw [cell_of_obj hbs_16]; rfl
                    have cs_5 : w16.cell? ⟨w9.heap.size, 5, none⟩ = some (.int .i64 0) := by rw [cell_of_obj hbs_16]; rfl
                    have cs_6 : w16.cell? ⟨w9.heap.size, 6, none⟩ = some (.int .i64 0) := by rw [cell_of_obj hbs_16]; rfl
                    have cs_7 : w16.cell? ⟨w9.heap.size, 7, none⟩ = some (.string ⟨#[]⟩) := by rw [cell_of_obj hbs_16]; rfl
                    have cs_8 : w16.cell? ⟨w9.heap.size, 8, none⟩ = some (.int .u8 2) := by rw [cell_of_obj hbs_16]; rfl
                    have cs_9 : w16.cell? ⟨w9.heap.size, 9, none⟩ = some (.int .i64 1) := by rw [cell_of_obj hbs_16]; rfl
                    have cs_10 : w16.cell? ⟨w9.heap.size, 10, none⟩ = some (.int .i64 0) := by rw [cell_of_obj hbs_16]; rfl
                    have cs_11 : w16.cell? ⟨w9.heap.size, 11, none⟩ = some (.string ⟨#[]⟩) := by rw [cell_of_obj hbs_16]; rfl
                    have zs := frozen_of_obj hbs_16
                    obtain ⟨cu_0, cu_1, cu_2, cu_3, zu⟩ := hbu_16.cs
                    obtain ⟨ct_0, ct_1, ct_2, ct_3, zt⟩ := hbt_16.cs
                    go_wp2_with fail
                    have la := hba_16.lt
                    have lb := hbb_16.lt
                    have lc := hbc_16.lt
                    have lx := hbx_16.lt
                    have ly := hby_16.lt
                    have lz := hbz_16.lt
                    have ls := obj_lt hbs_16
                    have lu := hbu_16.lt
                    have lt := hbt_16.lt
                    have hl := hfw_16.size
                    have po0 := o0.out
                    have po1 := o1.out
                    have po2 := o2.out
                    have po3 := o3.out
                    have po4 := o4.out
                    have po5 := o5.out
                    go_ret
                    refine ⟨?_, ?_⟩
                    · rfl
                    · skip
                      repeat (first | with_reducible exact hfw_16 | with_reducible refine Fr.alloc ?_ _ | (with_reducible refine Fr.setCell ?_ ?_ _; rotate_left; (intro h; dsimp only at h; omega)) | with_reducible refine Fr.drew ?_ | exact hfw_16)
                  · go_wp2_with fail
                    have la := hba_15.lt
                    have lb := hbb_15.lt
                    have lc := hbc_15.lt
                    have lx := hbx_15.lt
                    have ly := hby_15.lt
                    have lz := hbz_15.lt
                    have ls := obj_lt hbs_15
                    have lu := hbu_15.lt
                    have lt := hbt_15.lt
                    have hl := hfw_15.size
                    have po0 := o0.out
                    have po1 := o1.out
                    have po2 := o2.out
                    have po3 := o3.out
                    have po4 := o4.out
                    have po5 := o5.out
                    go_ret
                    refine ⟨?_, ?_⟩
                    · rfl
                    · skip
                      repeat (first | with_reducible exact hfw_15 | with_reducible refine Fr.alloc ?_ _ | (with_reducible refine Fr.setCell ?_ ?_ _; rotate_left; (intro h; dsimp only at h; omega)) | with_reducible refine Fr.drew ?_ | exact hfw_15)
            · have e1 : decide (orderV a b < 0) = false := by simp; omega
              have e2 : decide (orderV b a < 0) = true := by rw [hfl]; simp; omega
              have e3 : (orderV a b == 0) = false := by simp; omega
              have hx := HXX.out; rw [e1] at hx
              rw [ordV_same _ hn hk] at hx
              have hy := HYY2.out; rw [e2] at hy
              rw [ordV_same _ hn2 hk.symm] at hy
              have hz := HZZ.out; rw [e3] at hz
              rw [ordV_same _ hn hk] at hz
              have f0 := Lib.hid (show (a.k != b.k) = false by simp [hk])
              have hX : X = (noV, 0) := hx
              rw [hX] at HX
              dsimp only [noV] at HX
              have hY : Y = (yesV, 0) := hy
              rw [hY] at HYY
              dsimp only [yesV] at HYY
              have hZ : Z = (noV, 0) := hz
              rw [hZ] at HZ
              dsimp only [noV] at HZ
              clear hX hY hZ HXX HYY2 HZZ
              clear hx hy hz e1 e2 e3 hfl hn2 ho hk
              go_wp2_with fail
              refine (HX.out _).mono ?_
              rintro e w3 ⟨rfl, hf3⟩
              have la := hba_2.lt
              have lb := hbb_2.lt
              have lc := hbc_2.lt
              have hl := hfw_2.size
              have hB : Bx w3 w.heap.size a ∧ Bx w3 (w.heap.size + 1) b ∧ Bx w3 (w.heap.size + 2) c := by
                refine ⟨?_, ?_, ?_⟩ <;> ((first | unfold Bx | unfold Bl | skip); refine hf3.obj (noB_not _) ?_; repeat (first | with_reducible exact hba_2.raw | with_reducible exact hbb_2.raw | with_reducible exact hbc_2.raw | (with_reducible refine obj_alloc_at ?_; simp; done) | (with_reducible apply obj_put4; omega) | (with_reducible apply obj_put1; omega) | (with_reducible refine obj_setCell_other ?_ _ _ ?_; rotate_left; (dsimp only; omega)) | with_reducible refine obj_alloc ?_ _ | with_reducible refine obj_drew ?_))
              obtain ⟨hba_3, hbb_3, hbc_3⟩ := hB
              have hfw_3 : Fr noB w w3 := by
                refine Fr.transN ?_ hf3
                repeat (first | with_reducible exact hfw_2 | with_reducible refine Fr.alloc ?_ _ | (with_reducible refine Fr.setCell ?_ ?_ _; rotate_left; (intro h; dsimp only at h; omega)) | with_reducible refine Fr.drew ?_ | exact hfw_2)
              clear hba_2 hbb_2 hbc_2 la lb lc hl ca_0 ca_1 ca_2 ca_3 za cb_0 cb_1 cb_2 cb_3 zb cc_0 cc_1 cc_2 cc_3 zc hf3 hfw_2
              obtain ⟨ca_0, ca_1, ca_2, ca_3, za⟩ := hba_3.cs
              obtain ⟨cb_0, cb_1, cb_2, cb_3, zb⟩ := hbb_3.cs
              obtain ⟨cc_0, cc_1, cc_2, cc_3, zc⟩ := hbc_3.cs
              go_upto_region 4 with fail
              have o0 := Lib.hid (hbc_3.lt)
              have la := hba_3.lt
              have lb := hbb_3.lt
              have lc := hbc_3.lt
              have hl := hfw_3.size
              have po0 := o0.out
              refine wp_world (fun W => Fr noB w W ∧ Bx W w.heap.size a ∧ Bx W (w.heap.size + 1) b ∧ Bx W (w.heap.size + 2) c ∧ Bl W w3.heap.size 2 0 0) ?_ ?_
              · refine ⟨?_, ?_, ?_, ?_, ?_⟩ <;> ((first | unfold Bx | unfold Bl | skip); repeat (first | with_reducible exact hfw_3 | with_reducible refine Fr.alloc ?_ _ | (with_reducible refine Fr.setCell ?_ ?_ _; rotate_left; (intro h; dsimp only at h; omega)) | with_reducible refine Fr.drew ?_ | with_reducible exact hba_3.raw | with_reducible exact hbb_3.raw | with_reducible exact hbc_3.raw | (with_reducible refine obj_alloc_at ?_; simp; done) | (with_reducible apply obj_put4; omega) | (with_reducible apply obj_put1; omega) | (with_reducible refine obj_setCell_other ?_ _ _ ?_; rotate_left; (dsimp only; omega)) | with_reducible refine obj_alloc ?_ _ | with_reducible refine obj_drew ?_ | exact hfw_3))
              clear hba_3 hbb_3 hbc_3 la lb lc hl po0 ca_0 ca_1 ca_2 ca_3 za cb_0 cb_1 cb_2 cb_3 zb cc_0 cc_1 cc_2 cc_3 zc hfw_3
              rintro w4 ⟨hfw_4, hba_4, hbb_4, hbc_4, hbx_4⟩
              obtain ⟨ca_0, ca_1, ca_2, ca_3, za⟩ := hba_4.cs
              obtain ⟨cb_0, cb_1, cb_2, cb_3, zb⟩ := hbb_4.cs
              obtain ⟨cc_0, cc_1, cc_2, cc_3, zc⟩ := hbc_4.cs
              obtain ⟨cx_0, cx_1, cx_2, cx_3, zx⟩ := hbx_4.cs
              go_wp2_with fail
              refine (HYY.out _).mono ?_
              rintro e w5 ⟨rfl, hf5⟩
              have la := hba_4.lt
              have lb := hbb_4.lt
              have lc := hbc_4.lt
              have lx := hbx_4.lt
              have hl := hfw_4.size
              have po0 := o0.out
              have hB : Bx w5 w.heap.size a ∧ Bx w5 (w.heap.size + 1) b ∧ Bx w5 (w.heap.size + 2) c ∧ Bl w5 w3.heap.size 2 0 0 := by
                refine ⟨?_, ?_, ?_, ?_⟩ <;> ((first | unfold Bx | unfold Bl | skip); refine hf5.obj (noB_not _) ?_; repeat (first | with_reducible exact hba_4.raw | with_reducible exact hbb_4.raw | with_reducible exact hbc_4.raw | with_reducible exact hbx_4.raw | (with_reducible refine obj_alloc_at ?_; simp; done) | (with_reducible apply obj_put4; omega) | (with_reducible apply obj_put1; omega) | (with_reducible refine obj_setCell_other ?_ _ _ ?_; rotate_left; (dsimp only; omega)) | with_reducible refine obj_alloc ?_ _ | with_reducible refine obj_drew ?_))
              obtain ⟨hba_5, hbb_5, hbc_5, hbx_5⟩ := hB
              have hfw_5 : Fr noB w w5 := by
                refine Fr.transN ?_ hf5
                repeat (first | with_reducible exact hfw_4 | with_reducible refine Fr.alloc ?_ _ | (with_reducible refine Fr.setCell ?_ ?_ _; rotate_left; (intro h; dsimp only at h; omega)) | with_reducible refine Fr.drew ?_ | exact hfw_4)
              clear hba_4 hbb_4 hbc_4 hbx_4 la lb lc lx hl po0 ca_0 ca_1 ca_2 ca_3 za cb_0 cb_1 cb_2 cb_3 zb cc_0 cc_1 cc_2 cc_3 zc cx_0 cx_1 cx_2 cx_3 zx hf5 hfw_4
              obtain ⟨ca_0, ca_1, ca_2, ca_3, za⟩ := hba_5.cs
              obtain ⟨cb_0, cb_1, cb_2, cb_3, zb⟩ := hbb_5.cs
              obtain ⟨cc_0, cc_1, cc_2, cc_3, zc⟩ := hbc_5.cs
              obtain ⟨cx_0, cx_1, cx_2, cx_3, zx⟩ := hbx_5.cs
              go_upto_region 5 with fail
              have o1 := Lib.hid (hbx_5.lt)
              have la := hba_5.lt
              have lb := hbb_5.lt
              have lc := hbc_5.lt
              have lx := hbx_5.lt
              have hl := hfw_5.size
              have po0 := o0.out
              have po1 := o1.out
              refine wp_world (fun W => Fr noB w W ∧ Bx W w.heap.size a ∧ Bx W (w.heap.size + 1) b ∧ Bx W (w.heap.size + 2) c ∧ Bl W w3.heap.size 2 0 0 ∧ Bl W w5.heap.size 2 1 0) ?_ ?_
              · refine ⟨?_, ?_, ?_, ?_, ?_, ?_⟩ <;> ((first | unfold Bx | unfold Bl | skip); repeat (first | with_reducible exact hfw_5 | with_reducible refine Fr.alloc ?_ _ | (with_reducible refine Fr.setCell ?_ ?_ _; rotate_left; (intro h; dsimp only at h; omega)) | with_reducible refine Fr.drew ?_ | with_reducible exact hba_5.raw | with_reducible exact hbb_5.raw | with_reducible exact hbc_5.raw | with_reducible exact hbx_5.raw | (with_reducible refine obj_alloc_at ?_; simp; done) | (with_reducible apply obj_put4; omega) | (with_reducible apply obj_put1; omega) | (with_reducible refine obj_setCell_other ?_ _ _ ?_; rotate_left; (dsimp only; omega)) | with_reducible refine obj_alloc ?_ _ | with_reducible refine obj_drew ?_ | exact hfw_5))
              clear hba_5 hbb_5 hbc_5 hbx_5 la lb lc lx hl po0 po1 ca_0 ca_1 ca_2 ca_3 za cb_0 cb_1 cb_2 cb_3 zb cc_0 cc_1 cc_2 cc_3 zc cx_0 cx_1 cx_2 cx_3 zx hfw_5
              rintro w6 ⟨hfw_6, hba_6, hbb_6, hbc_6, hbx_6, hby_6⟩
              obtain ⟨ca_0, ca_1, ca_2, ca_3, za⟩ := hba_6.cs
              obtain ⟨cb_0, cb_1, cb_2, cb_3, zb⟩ := hbb_6.cs
              obtain ⟨cc_0, cc_1, cc_2, cc_3, zc⟩ := hbc_6.cs
              obtain ⟨cx_0, cx_1, cx_2, cx_3, zx⟩ := hbx_6.cs
              obtain ⟨cy_0, cy_1, cy_2, cy_3, zy⟩ := hby_6.cs
              go_wp2_with fail
              refine (HZ.out _).mono ?_
              rintro e w7 ⟨rfl, hf7⟩
              have la := hba_6.lt
              have lb := hbb_6.lt
              have lc := hbc_6.lt
              have lx := hbx_6.lt
              have ly := hby_6.lt
              have hl := hfw_6.size
              have po0 := o0.out
              have po1 := o1.out
              have hB : Bx w7 w.heap.size a ∧ Bx w7 (w.heap.size + 1) b ∧ Bx w7 (w.heap.size + 2) c ∧ Bl w7 w3.heap.size 2 0 0 ∧ Bl w7 w5.heap.size 2 1 0 := by
                refine ⟨?_, ?_, ?_, ?_, ?_⟩ <;> ((first | unfold Bx | unfold Bl | skip); refine hf7.obj (noB_not _) ?_; repeat (first | with_reducible exact hba_6.raw | with_reducible exact hbb_6.raw | with_reducible exact hbc_6.raw | with_reducible exact hbx_6.raw | with_reducible exact hby_6.raw | (with_reducible refine obj_alloc_at ?_; simp; done) | (with_reducible apply obj_put4; omega) | (with_reducible apply obj_put1; omega) | (with_reducible refine obj_setCell_other ?_ _ _ ?_; rotate_left; (dsimp only; omega)) | with_reducible refine obj_alloc ?_ _ | with_reducible refine obj_drew ?_))
              obtain ⟨hba_7, hbb_7, hbc_7, hbx_7, hby_7⟩ := hB
              have hfw_7 : Fr noB w w7 := by
                refine Fr.transN ?_ hf7
                repeat (first | with_reducible exact hfw_6 | with_reducible refine Fr.alloc ?_ _ | (with_reducible refine Fr.setCell ?_ ?_ _; rotate_left; (intro h; dsimp only at h; omega)) | with_reducible refine Fr.drew ?_ | exact hfw_6)
              clear hba_6 hbb_6 hbc_6 hbx_6 hby_6 la lb lc lx ly hl po0 po1 ca_0 ca_1 ca_2 ca_3 za cb_0 cb_1 cb_2 cb_3 zb cc_0 cc_1 cc_2 cc_3 zc cx_0 cx_1 cx_2 cx_3 zx cy_0 cy_1 cy_2 cy_3 zy hf7 hfw_6
              obtain ⟨ca_0, ca_1, ca_2, ca_3, za⟩ := hba_7.cs
              obtain ⟨cb_0, cb_1, cb_2, cb_3, zb⟩ := hbb_7.cs
              obtain ⟨cc_0, cc_1, cc_2, cc_3, zc⟩ := hbc_7.cs
              obtain ⟨cx_0, cx_1, cx_2, cx_3, zx⟩ := hbx_7.cs
              obtain ⟨cy_0, cy_1, cy_2, cy_3, zy⟩ := hby_7.cs
              go_upto_region 6 with fail
              have o2 := Lib.hid (hby_7.lt)
              have la := hba_7.lt
              have lb := hbb_7.lt
              have lc := hbc_7.lt
              have lx := hbx_7.lt
              have ly := hby_7.lt
              have hl := hfw_7.size
              have po0 := o0.out
              have po1 := o1.out
              have po2 := o2.out
              refine wp_world (fun W => Fr noB w W ∧ Bx W w.heap.size a ∧ Bx W (w.heap.size + 1) b ∧ Bx W (w.heap.size + 2) c ∧ Bl W w3.heap.size 2 0 0 ∧ Bl W w5.heap.size 2 1 0 ∧ Bl W w7.heap.size 2 0 0) ?_ ?_
              · refine ⟨?_, ?_, ?_, ?_, ?_, ?_, ?_⟩ <;> ((first | unfold Bx | unfold Bl | skip); repeat (first | with_reducible exact hfw_7 | with_reducible refine Fr.alloc ?_ _ | (with_reducible refine Fr.setCell ?_ ?_ _; rotate_left; (intro h; dsimp only at h; omega)) | with_reducible refine Fr.drew ?_ | with_reducible exact hba_7.raw | with_reducible exact hbb_7.raw | with_reducible exact hbc_7.raw | with_reducible exact hbx_7.raw | with_reducible exact hby_7.raw | (with_reducible refine obj_alloc_at ?_; simp; done) | (with_reducible apply obj_put4; omega) | (with_reducible apply obj_put1; omega) | (with_reducible refine obj_setCell_other ?_ _ _ ?_; rotate_left; (dsimp only; omega)) | with_reducible refine obj_alloc ?_ _ | with_reducible refine obj_drew ?_ | exact hfw_7))
              clear hba_7 hbb_7 hbc_7 hbx_7 hby_7 la lb lc lx ly hl po0 po1 po2 ca_0 ca_1 ca_2 ca_3 za cb_0 cb_1 cb_2 cb_3 zb cc_0 cc_1 cc_2 cc_3 zc cx_0 cx_1 cx_2 cx_3 zx cy_0 cy_1 cy_2 cy_3 zy hfw_7
              rintro w8 ⟨hfw_8, hba_8, hbb_8, hbc_8, hbx_8, hby_8, hbz_8⟩
              obtain ⟨ca_0, ca_1, ca_2, ca_3, za⟩ := hba_8.cs
              obtain ⟨cb_0, cb_1, cb_2, cb_3, zb⟩ := hbb_8.cs
              obtain ⟨cc_0, cc_1, cc_2, cc_3, zc⟩ := hbc_8.cs
              obtain ⟨cx_0, cx_1, cx_2, cx_3, zx⟩ := hbx_8.cs
              obtain ⟨cy_0, cy_1, cy_2, cy_3, zy⟩ := hby_8.cs
              obtain ⟨cz_0, cz_1, cz_2, cz_3, zz⟩ := hbz_8.cs
              have f0 := f0.out
              simp only [Bool.or_eq_false_iff] at hn
              obtain ⟨n1, n2⟩ := hn
              unfold nullB at n1 n2
              go_upto_region 11 with fail
              have la := hba_8.lt
              have lb := hbb_8.lt
              have lc := hbc_8.lt
              have lx := hbx_8.lt
              have ly := hby_8.lt
              have lz := hbz_8.lt
              have hl := hfw_8.size
              have po0 := o0.out
              have po1 := o1.out
              have po2 := o2.out
              refine wp_world (fun W => Fr noB w W ∧ Bx W w.heap.size a ∧ Bx W (w.heap.size + 1) b ∧ Bx W (w.heap.size + 2) c ∧ Bl W w3.heap.size 2 0 0 ∧ Bl W w5.heap.size 2 1 0 ∧ Bl W w7.heap.size 2 0 0) ?_ ?_
              · refine ⟨?_, ?_, ?_, ?_, ?_, ?_, ?_⟩ <;> ((first | unfold Bx | unfold Bl | skip); repeat (first | with_reducible exact hfw_8 | with_reducible refine Fr.alloc ?_ _ | (with_reducible refine Fr.setCell ?_ ?_ _; rotate_left; (intro h; dsimp only at h; omega)) | with_reducible refine Fr.drew ?_ | with_reducible exact hba_8.raw | with_reducible exact hbb_8.raw | with_reducible exact hbc_8.raw | with_reducible exact hbx_8.raw | with_reducible exact hby_8.raw | with_reducible exact hbz_8.raw | (with_reducible refine obj_alloc_at ?_; simp; done) | (with_reducible apply obj_put4; omega) | (with_reducible apply obj_put1; omega) | (with_reducible refine obj_setCell_other ?_ _ _ ?_; rotate_left; (dsimp only; omega)) | with_reducible refine obj_alloc ?_ _ | with_reducible refine obj_drew ?_ | exact hfw_8))
              clear hba_8 hbb_8 hbc_8 hbx_8 hby_8 hbz_8 la lb lc lx ly lz hl po0 po1 po2 ca_0 ca_1 ca_2 ca_3 za cb_0 cb_1 cb_2 cb_3 zb cc_0 cc_1 cc_2 cc_3 zc cx_0 cx_1 cx_2 cx_3 zx cy_0 cy_1 cy_2 cy_3 zy cz_0 cz_1 cz_2 cz_3 zz hfw_8
              rintro w9 ⟨hfw_9, hba_9, hbb_9, hbc_9, hbx_9, hby_9, hbz_9⟩
              obtain ⟨ca_0, ca_1, ca_2, ca_3, za⟩ := hba_9.cs
              obtain ⟨cb_0, cb_1, cb_2, cb_3, zb⟩ := hbb_9.cs
              obtain ⟨cc_0, cc_1, cc_2, cc_3, zc⟩ := hbc_9.cs
              obtain ⟨cx_0, cx_1, cx_2, cx_3, zx⟩ := hbx_9.cs
              obtain ⟨cy_0, cy_1, cy_2, cy_3, zy⟩ := hby_9.cs
              obtain ⟨cz_0, cz_1, cz_2, cz_3, zz⟩ := hbz_9.cs
              go_wp2_with fail
              have o3 := Lib.hid (hbz_9.lt)
              have la := hba_9.lt
              have lb := hbb_9.lt
              have lc := hbc_9.lt
              have lx := hbx_9.lt
              have ly := hby_9.lt
              have lz := hbz_9.lt
              have hl := hfw_9.size
              have po0 := o0.out
              have po1 := o1.out
              have po2 := o2.out
              have po3 := o3.out
              refine wp_world (fun W => Fr noB w W ∧ Bx W w.heap.size a ∧ Bx W (w.heap.size + 1) b ∧ Bx W (w.heap.size + 2) c ∧ Bl W w3.heap.size 2 0 0 ∧ Bl W w5.heap.size 2 1 0 ∧ Bl W w7.heap.size 2 0 0 ∧ W.heap[w9.heap.size]? = some (.cells #[.int .u8 2, .int .i64 0, .int .i64 0, .string ⟨#[]⟩, .int .u8 2, .int .i64 1, .int .i64 0, .string ⟨#[]⟩, .int .u8 2, .int .i64 0, .int .i64 0, .string ⟨#[]⟩] 23 (0, 0))) ?_ ?_
              · refine ⟨?_, ?_, ?_, ?_, ?_, ?_, ?_, ?_⟩ <;> ((first | unfold Bx | unfold Bl | skip); repeat (first | with_reducible exact hfw_9 | with_reducible refine Fr.alloc ?_ _ | (with_reducible refine Fr.setCell ?_ ?_ _; rotate_left; (intro h; dsimp only at h; omega)) | with_reducible refine Fr.drew ?_ | with_reducible exact hba_9.raw | with_reducible exact hbb_9.raw | with_reducible exact hbc_9.raw | with_reducible exact hbx_9.raw | with_reducible exact hby_9.raw | with_reducible exact hbz_9.raw | (with_reducible refine obj_alloc_at ?_; simp; done) | (with_reducible apply obj_put4; omega) | (with_reducible apply obj_put1; omega) | (with_reducible refine obj_setCell_other ?_ _ _ ?_; rotate_left; (dsimp only; omega)) | with_reducible refine obj_alloc ?_ _ | with_reducible refine obj_drew ?_ | exact hfw_9))
              clear hba_9 hbb_9 hbc_9 hbx_9 hby_9 hbz_9 la lb lc lx ly lz hl po0 po1 po2 po3 ca_0 ca_1 ca_2 ca_3 za cb_0 cb_1 cb_2 cb_3 zb cc_0 cc_1 cc_2 cc_3 zc cx_0 cx_1 cx_2 cx_3 zx cy_0 cy_1 cy_2 cy_3 zy cz_0 cz_1 cz_2 cz_3 zz hfw_9
              rintro w10 ⟨hfw_10, hba_10, hbb_10, hbc_10, hbx_10, hby_10, hbz_10, hbs_10⟩
              obtain ⟨ca_0, ca_1, ca_2, ca_3, za⟩ := hba_10.cs
              obtain ⟨cb_0, cb_1, cb_2, cb_3, zb⟩ := hbb_10.cs
              obtain ⟨cc_0, cc_1, cc_2, cc_3, zc⟩ := hbc_10.cs
              obtain ⟨cx_0, cx_1, cx_2, cx_3, zx⟩ := hbx_10.cs
              obtain ⟨cy_0, cy_1, cy_2, cy_3, zy⟩ := hby_10.cs
              obtain ⟨cz_0, cz_1, cz_2, cz_3, zz⟩ := hbz_10.cs
              have cs_0 : w10.cell? ⟨w9.heap.size, 0, none⟩ = some (.int .u8 2) := by rw [cell_of_obj hbs_10]; rfl
              have cs_1 : w10.cell? ⟨w9.heap.size, 1, none⟩ = some (.int .i64 0) := by rw [cell_of_obj hbs_10]; rfl
              have cs_2 : w10.cell? ⟨w9.heap.size, 2, none⟩ = some (.int .i64 0) := by rw [cell_of_obj hbs_10]; rfl
              have cs_3 : w10.cell? ⟨w9.heap.size, 3, none⟩ = some (.string ⟨#[]⟩) := by rw [cell_of_obj hbs_10]; rfl
              have cs_4 : w10.cell? ⟨w9.heap.size, 4, none⟩ = some (.int .u8 2) := by rw [cell_of_obj hbs_10]; rfl
              have cs_5 : w10.cell? ⟨w9.heap.size, 5, none⟩ = some (.int .i64 1) := by rw [cell_of_obj hbs_10]; rfl
              have cs_6 : w10.cell? ⟨w9.heap.size, 6, none⟩ = some (.int .i64 0) := by rw [cell_of_obj hbs_10]; rfl
              have cs_7 : w10.cell? ⟨w9.heap.size, 7, none⟩ = some (.string ⟨#[]⟩) := by rw [cell_of_obj hbs_10]; rfl
              have cs_8 : w10.cell? ⟨w9.heap.size, 8, none⟩ = some (.int .u8 2) := by rw [cell_of_obj hbs_10]; rfl
              have cs_9 : w10.cell? ⟨w9.heap.size, 9, none⟩ = some (.int .i64 0) := by rw [cell_of_obj hbs_10]; rfl
              have cs_10 : w10.cell? ⟨w9.heap.size, 10, none⟩ = some (.int .i64 0) := by rw [cell_of_obj hbs_10]; rfl
              have cs_11 : w10.cell? ⟨w9.heap.size, 11, none⟩ = some (.string ⟨#[]⟩) := by rw [cell_of_obj hbs_10]; rfl
              have zs := frozen_of_obj hbs_10
              go_loopg [112, 13] 3 (fun gh iv nv wr => ∃ i : Nat, i ≤ 3 ∧ gh = 3 - i ∧ iv = .int .i64 i ∧ ((i = 0 ∧ nv = .int .i64 0) ∨ (i = 1 ∧ nv = .int .i64 0) ∨ (i = 2 ∧ nv = .int .i64 1) ∨ (i = 3 ∧ nv = .int .i64 1)) ∧ Fr noB w10 wr)
              case atStart => exact ⟨0, by omega, by omega, rfl, .inl ⟨rfl, rfl⟩, Fr.refl _ _⟩
              case round =>
                obtain ⟨i, hi, rfl, rfl, hnv, hf⟩ := hrel
                rcases hnv with ⟨rfl, rfl⟩ | ⟨rfl, rfl⟩ | ⟨rfl, rfl⟩ | ⟨rfl, rfl⟩
                · have hs := hf.obj (fun x => x) hbs_10
                  clear hba_10 hbb_10 hbc_10 hbx_10 hby_10 hbz_10 hbs_10 ca_0 ca_1 ca_2 ca_3 za cb_0 cb_1 cb_2 cb_3 zb cc_0 cc_1 cc_2 cc_3 zc cx_0 cx_1 cx_2 cx_3 zx cy_0 cy_1 cy_2 cy_3 zy cz_0 cz_1 cz_2 cz_3 zz cs_0 cs_1 cs_2 cs_3 cs_4 cs_5 cs_6 cs_7 cs_8 cs_9 cs_10 cs_11 zs hi
                  have d0 : wr.cell? ⟨w9.heap.size, 0, none⟩ = some (.int .u8 2) := by rw [cell_of_obj hs]; rfl
                  have d1 : wr.cell? ⟨w9.heap.size, 1, none⟩ = some (.int .i64 0) := by rw [cell_of_obj hs]; rfl
                  have d2 : wr.cell? ⟨w9.heap.size, 2, none⟩ = some (.int .i64 0) := by rw [cell_of_obj hs]; rfl
                  have d3 : wr.cell? ⟨w9.heap.size, 3, none⟩ = some (.string ⟨#[]⟩) := by rw [cell_of_obj hs]; rfl
                  go_wp2_with fail
                  refine (HY0.out _).mono ?_
                  rintro e x1 ⟨rfl, hf2⟩
                  go_wp2_with fail
                  go_roundg 2
                  case measure => omega
                  case rel => exact ⟨1, by omega, by omega, by go_num, .inr (.inl ⟨rfl, by go_num⟩), (hf.alloc _).trans hf2⟩
                · have hs := hf.obj (fun x => x) hbs_10
                  clear hba_10 hbb_10 hbc_10 hbx_10 hby_10 hbz_10 hbs_10 ca_0 ca_1 ca_2 ca_3 za cb_0 cb_1 cb_2 cb_3 zb cc_0 cc_1 cc_2 cc_3 zc cx_0 cx_1 cx_2 cx_3 zx cy_0 cy_1 cy_2 cy_3 zy cz_0 cz_1 cz_2 cz_3 zz cs_0 cs_1 cs_2 cs_3 cs_4 cs_5 cs_6 cs_7 cs_8 cs_9 cs_10 cs_11 zs hi
                  have d0 : wr.cell? ⟨w9.heap.size, 4, none⟩ = some (.int .u8 2) := by rw [cell_of_obj hs]; rfl
                  have d1 : wr.cell? ⟨w9.heap.size, 5, none⟩ = some (.int .i64 1) := by rw [cell_of_obj hs]; rfl
                  have d2 : wr.cell? ⟨w9.heap.size, 6, none⟩ = some (.int .i64 0) := by rw [cell_of_obj hs]; rfl
                  have d3 : wr.cell? ⟨w9.heap.size, 7, none⟩ = some (.string ⟨#[]⟩) := by rw [cell_of_obj hs]; rfl
                  go_wp2_with fail
                  refine (HY1.out _).mono ?_
                  rintro e x1 ⟨rfl, hf2⟩
                  go_wp2_with fail
                  go_roundg 1
                  case measure => omega
                  case rel => exact ⟨2, by omega, by omega, by go_num, .inr (.inr (.inl ⟨rfl, by go_num⟩)), (hf.alloc _).trans hf2⟩
                · have hs := hf.obj (fun x => x) hbs_10
                  clear hba_10 hbb_10 hbc_10 hbx_10 hby_10 hbz_10 hbs_10 ca_0 ca_1 ca_2 ca_3 za cb_0 cb_1 cb_2 cb_3 zb cc_0 cc_1 cc_2 cc_3 zc cx_0 cx_1 cx_2 cx_3 zx cy_0 cy_1 cy_2 cy_3 zy cz_0 cz_1 cz_2 cz_3 zz cs_0 cs_1 cs_2 cs_3 cs_4 cs_5 cs_6 cs_7 cs_8 cs_9 cs_10 cs_11 zs hi
                  have d0 : wr.cell? ⟨w9.heap.size, 8, none⟩ = some (.int .u8 2) := by rw [cell_of_obj hs]; rfl
                  have d1 : wr.cell? ⟨w9.heap.size, 9, none⟩ = some (.int .i64 0) := by rw [cell_of_obj hs]; rfl
                  have d2 : wr.cell? ⟨w9.heap.size, 10, none⟩ = some (.int .i64 0) := by rw [cell_of_obj hs]; rfl
                  have d3 : wr.cell? ⟨w9.heap.size, 11, none⟩ = some (.string ⟨#[]⟩) := by rw [cell_of_obj hs]; rfl
                  go_wp2_with fail
                  refine (HY0.out _).mono ?_
                  rintro e x1 ⟨rfl, hf2⟩
                  go_wp2_with fail
                  go_roundg 0
                  case measure => omega
                  case rel => exact ⟨3, by omega, by omega, by go_num, .inr (.inr (.inr ⟨rfl, by go_num⟩)), (hf.alloc _).trans hf2⟩
                · clear hi
                  have hba_11 := hba_10.mv hf
                  have hbb_11 := hbb_10.mv hf
                  have hbc_11 := hbc_10.mv hf
                  have hbx_11 := hbx_10.mv hf
                  have hby_11 := hby_10.mv hf
                  have hbz_11 := hbz_10.mv hf
                  have hbs_11 := raw_mv hbs_10 hf
                  have hfw_11 := hfw_10.transN hf
                  clear hba_10 hbb_10 hbc_10 hbx_10 hby_10 hbz_10 hbs_10 ca_0 ca_1 ca_2 ca_3 za cb_0 cb_1 cb_2 cb_3 zb cc_0 cc_1 cc_2 cc_3 zc cx_0 cx_1 cx_2 cx_3 zx cy_0 cy_1 cy_2 cy_3 zy cz_0 cz_1 cz_2 cz_3 zz cs_0 cs_1 cs_2 cs_3 cs_4 cs_5 cs_6 cs_7 cs_8 cs_9 cs_10 cs_11 zs hf hfw_10
                  obtain ⟨ca_0, ca_1, ca_2, ca_3, za⟩ := hba_11.cs
                  obtain ⟨cb_0, cb_1, cb_2, cb_3, zb⟩ := hbb_11.cs
                  obtain ⟨cc_0, cc_1, cc_2, cc_3, zc⟩ := hbc_11.cs
                  obtain ⟨cx_0, cx_1, cx_2, cx_3, zx⟩ := hbx_11.cs
                  obtain ⟨cy_0, cy_1, cy_2, cy_3, zy⟩ := hby_11.cs
                  obtain ⟨cz_0, cz_1, cz_2, cz_3, zz⟩ := hbz_11.cs
                  have cs_0 : wr.cell? ⟨w9.heap.size, 0, none⟩ = some (.int .u8 2) := by rw [cell_of_obj hbs_11]; rfl
                  have cs_1 : wr.cell? ⟨w9.heap.size, 1, none⟩ = some (.int .i64 0) := by rw [cell_of_obj hbs_11]; rfl
                  have cs_2 : wr.cell? ⟨w9.heap.size, 2, none⟩ = some (.int .i64 0) := by rw [cell_of_obj hbs_11]; rfl
                  have cs_3 : wr.cell? ⟨w9.heap.size, 3, none⟩ = some (.string ⟨#[]⟩) := by rw [cell_of_obj hbs_11]; rfl
                  have cs_4 : wr.cell? ⟨w9.heap.size, 4, none⟩ = some (.int .u8 2) := by rw [cell_of_obj hbs_11]; rfl
                  have cs_5 : wr.cell? ⟨w9.heap.size, 5, none⟩ = some (.int .i64 1) := by rw [cell_of_obj hbs_11]; rfl
                  have cs_6 : wr.cell? ⟨w9.heap.size, 6, none⟩ = some (.int .i64 0) := by rw [cell_of_obj hbs_11]; rfl
                  have cs_7 : wr.cell? ⟨w9.heap.size, 7, none⟩ = some (.string ⟨#[]⟩) := by rw [cell_of_obj hbs_11]; rfl
                  have cs_8 : wr.cell? ⟨w9.heap.size, 8, none⟩ = some (.int .u8 2) := by rw [cell_of_obj hbs_11]; rfl
                  have cs_9 : wr.cell? ⟨w9.heap.size, 9, none⟩ = some (.int .i64 0) := by rw [cell_of_obj hbs_11]; rfl
                  have cs_10 : wr.cell? ⟨w9.heap.size, 10, none⟩ = some (.int .i64 0) := by rw [cell_of_obj hbs_11]; rfl
                  have cs_11 : wr.cell? ⟨w9.heap.size, 11, none⟩ = some (.string ⟨#[]⟩) := by rw [cell_of_obj hbs_11]; rfl
                  have zs := frozen_of_obj hbs_11
                  go_wp2_with fail
                  refine (HU.out _).mono ?_
                  rintro e w12 ⟨rfl, hf12⟩
                  have la := hba_11.lt
                  have lb := hbb_11.lt
                  have lc := hbc_11.lt
                  have lx := hbx_11.lt
                  have ly := hby_11.lt
                  have lz := hbz_11.lt
                  have ls := obj_lt hbs_11
                  have hl := hfw_11.size
                  have po0 := o0.out
                  have po1 := o1.out
                  have po2 := o2.out
                  have po3 := o3.out
                  have hB : Bx w12 w.heap.size a ∧ Bx w12 (w.heap.size + 1) b ∧ Bx w12 (w.heap.size + 2) c ∧ Bl w12 w3.heap.size 2 0 0 ∧ Bl w12 w5.heap.size 2 1 0 ∧ Bl w12 w7.heap.size 2 0 0 ∧ w12.heap[w9.heap.size]? = some (.cells #[.int .u8 2, .int .i64 0, .int .i64 0, .string ⟨#[]⟩, .int .u8 2, .int .i64 1, .int .i64 0, .string ⟨#[]⟩, .int .u8 2, .int .i64 0, .int .i64 0, .string ⟨#[]⟩] 23 (0, 0)) := by
                    refine ⟨?_, ?_, ?_, ?_, ?_, ?_, ?_⟩ <;> ((first | unfold Bx | unfold Bl | skip); refine hf12.obj (noB_not _) ?_; repeat (first | with_reducible exact hba_11.raw | with_reducible exact hbb_11.raw | with_reducible exact hbc_11.raw | with_reducible exact hbx_11.raw | with_reducible exact hby_11.raw | with_reducible exact hbz_11.raw | with_reducible exact hbs_11 | (with_reducible refine obj_alloc_at ?_; simp; done) | (with_reducible apply obj_put4; omega) | (with_reducible apply obj_put1; omega) | (with_reducible refine obj_setCell_other ?_ _ _ ?_; rotate_left; (dsimp only; omega)) | with_reducible refine obj_alloc ?_ _ | with_reducible refine obj_drew ?_))
                  obtain ⟨hba_12, hbb_12, hbc_12, hbx_12, hby_12, hbz_12, hbs_12⟩ := hB
                  have hfw_12 : Fr noB w w12 := by
                    refine Fr.transN ?_ hf12
                    repeat (first | with_reducible exact hfw_11 | with_reducible refine Fr.alloc ?_ _ | (with_reducible refine Fr.setCell ?_ ?_ _; rotate_left; (intro h; dsimp only at h; omega)) | with_reducible refine Fr.drew ?_ | exact hfw_11)
                  clear hba_11 hbb_11 hbc_11 hbx_11 hby_11 hbz_11 hbs_11 la lb lc lx ly lz ls hl po0 po1 po2 po3 ca_0 ca_1 ca_2 ca_3 za cb_0 cb_1 cb_2 cb_3 zb cc_0 cc_1 cc_2 cc_3 zc cx_0 cx_1 cx_2 cx_3 zx cy_0 cy_1 cy_2 cy_3 zy cz_0 cz_1 cz_2 cz_3 zz cs_0 cs_1 cs_2 cs_3 cs_4 cs_5 cs_6 cs_7 cs_8 cs_9 cs_10 cs_11 zs hf12 hfw_11
                  obtain ⟨ca_0, ca_1, ca_2, ca_3, za⟩ := hba_12.cs
                  obtain ⟨cb_0, cb_1, cb_2, cb_3, zb⟩ := hbb_12.cs
                  obtain ⟨cc_0, cc_1, cc_2, cc_3, zc⟩ := hbc_12.cs
                  obtain ⟨cx_0, cx_1, cx_2, cx_3, zx⟩ := hbx_12.cs
                  obtain ⟨cy_0, cy_1, cy_2, cy_3, zy⟩ := hby_12.cs
                  obtain ⟨cz_0, cz_1, cz_2, cz_3, zz⟩ := hbz_12.cs
                  have cs_0 : w12.cell? ⟨w9.heap.size, 0, none⟩ = some (.int .u8 2) := by rw [cell_of_obj hbs_12]; rfl
                  have cs_1 : w12.cell? ⟨w9.heap.size, 1, none⟩ = some (.int .i64 0) := by rw [cell_of_obj hbs_12]; rfl
                  have cs_2 : w12.cell? ⟨w9.heap.size, 2, none⟩ = some (.int .i64 0) := by rw [cell_of_obj hbs_12]; rfl
                  have cs_3 : w12.cell? ⟨w9.heap.size, 3, none⟩ = some (.string ⟨#[]⟩) := by rw [cell_of_obj hbs_12]; rfl
                  have cs_4 : w12.cell? ⟨w9.heap.size, 4, none⟩ = some (.int .u8 2) := by rw [cell_of_obj hbs_12]; rfl
                  have cs_5 : w12.cell? ⟨w9.heap.size, 5, none⟩ = some (.int .i64 1) := by rw [cell_of_obj hbs_12]; rfl
                  have cs_6 : w12.cell? ⟨w9.heap.size, 6, none⟩ = some (.int .i64 0) := by rw [cell_of_obj hbs_12]; rfl
                  have cs_7 : w12.cell? ⟨w9.heap.size, 7, none⟩ = some (.string ⟨#[]⟩) := by rw [cell_of_obj hbs_12]; rfl
                  have cs_8 : w12.cell? ⟨w9.heap.size, 8, none⟩ = some (.int .u8 2) := by rw [cell_of_obj hbs_12]; rfl
                  have cs_9 : w12.cell? ⟨w9.heap.size, 9, none⟩ = some (.int .i64 0) := by rw [cell_of_obj hbs_12]; rfl
                  have cs_10 : w12.cell? ⟨w9.heap.size, 10, none⟩ = some (.int .i64 0) := by rw [cell_of_obj hbs_12]; rfl
                  have cs_11 : w12.cell? ⟨w9.heap.size, 11, none⟩ = some (.string ⟨#[]⟩) := by rw [cell_of_obj hbs_12]; rfl
                  have zs := frozen_of_obj hbs_12
                  go_upto_region 20 with fail
                  have o4 := Lib.hid (obj_lt hbs_12)
                  have la := hba_12.lt
                  have lb := hbb_12.lt
                  have lc := hbc_12.lt
                  have lx := hbx_12.lt
                  have ly := hby_12.lt
                  have lz := hbz_12.lt
                  have ls := obj_lt hbs_12
                  have hl := hfw_12.size
                  have po0 := o0.out
                  have po1 := o1.out
                  have po2 := o2.out
                  have po3 := o3.out
                  have po4 := o4.out
                  refine wp_world (fun W => Fr noB w W ∧ Bx W w.heap.size a ∧ Bx W (w.heap.size + 1) b ∧ Bx W (w.heap.size + 2) c ∧ Bl W w3.heap.size 2 0 0 ∧ Bl W w5.heap.size 2 1 0 ∧ Bl W w7.heap.size 2 0 0 ∧ W.heap[w9.heap.size]? = some (.cells #[.int .u8 2, .int .i64 0, .int .i64 0, .string ⟨#[]⟩, .int .u8 2, .int .i64 1, .int .i64 0, .string ⟨#[]⟩, .int .u8 2, .int .i64 0, .int .i64 0, .string ⟨#[]⟩] 23 (0, 0)) ∧ Bx W w12.heap.size U.1) ?_ ?_
                  · refine ⟨?_, ?_, ?_, ?_, ?_, ?_, ?_, ?_, ?_⟩ <;> ((first | unfold Bx | unfold Bl | skip); repeat (first | with_reducible exact hfw_12 | with_reducible refine Fr.alloc ?_ _ | (with_reducible refine Fr.setCell ?_ ?_ _; rotate_left; (intro h; dsimp only at h; omega)) | with_reducible refine Fr.drew ?_ | with_reducible exact hba_12.raw | with_reducible exact hbb_12.raw | with_reducible exact hbc_12.raw | with_reducible exact hbx_12.raw | with_reducible exact hby_12.raw | with_reducible exact hbz_12.raw | with_reducible exact hbs_12 | (with_reducible refine obj_alloc_at ?_; simp; done) | (with_reducible apply obj_put4; omega) | (with_reducible apply obj_put1; omega) | (with_reducible refine obj_setCell_other ?_ _ _ ?_; rotate_left; (dsimp only; omega)) | with_reducible refine obj_alloc ?_ _ | with_reducible refine obj_drew ?_ | exact hfw_12))
                  clear hba_12 hbb_12 hbc_12 hbx_12 hby_12 hbz_12 hbs_12 la lb lc lx ly lz ls hl po0 po1 po2 po3 po4 ca_0 ca_1 ca_2 ca_3 za cb_0 cb_1 cb_2 cb_3 zb cc_0 cc_1 cc_2 cc_3 zc cx_0 cx_1 cx_2 cx_3 zx cy_0 cy_1 cy_2 cy_3 zy cz_0 cz_1 cz_2 cz_3 zz cs_0 cs_1 cs_2 cs_3 cs_4 cs_5 cs_6 cs_7 cs_8 cs_9 cs_10 cs_11 zs hfw_12
                  rintro w13 ⟨hfw_13, hba_13, hbb_13, hbc_13, hbx_13, hby_13, hbz_13, hbs_13, hbu_13⟩
                  obtain ⟨ca_0, ca_1, ca_2, ca_3, za⟩ := hba_13.cs
                  obtain ⟨cb_0, cb_1, cb_2, cb_3, zb⟩ := hbb_13.cs
                  obtain ⟨cc_0, cc_1, cc_2, cc_3, zc⟩ := hbc_13.cs
                  obtain ⟨cx_0, cx_1, cx_2, cx_3, zx⟩ := hbx_13.cs
                  obtain ⟨cy_0, cy_1, cy_2, cy_3, zy⟩ := hby_13.cs
                  obtain ⟨cz_0, cz_1, cz_2, cz_3, zz⟩ := hbz_13.cs
                  have cs_0 : w13.cell? ⟨w9.heap.size, 0, none⟩ = some (.int .u8 2) := by rw [cell_of_obj hbs_13]; rfl
                  have cs_1 : w13.cell? ⟨w9.heap.size, 1, none⟩ = some (.int .i64 0) := by rw [cell_of_obj hbs_13]; rfl
                  have cs_2 : w13.cell? ⟨w9.heap.size, 2, none⟩ = some (.int .i64 0) := by rw [cell_of_obj hbs_13]; rfl
                  have cs_3 : w13.cell? ⟨w9.heap.size, 3, none⟩ = some (.string ⟨#[]⟩) := by rw [cell_of_obj hbs_13]; rfl
                  have cs_4 : w13.cell? ⟨w9.heap.size, 4, none⟩ = some (.int .u8 2) := by rw [cell_of_obj hbs_13]; rfl
                  have cs_5 : w13.cell? ⟨w9.heap.size, 5, none⟩ = some (.int .i64 1) := by rw [cell_of_obj hbs_13]; rfl
                  have cs_6 : w13.cell? ⟨w9.heap.size, 6, none⟩ = some (.int .i64 0) := by rw [cell_of_obj hbs_13]; rfl
                  have cs_7 : w13.cell? ⟨w9.heap.size, 7, none⟩ = some (.string ⟨#[]⟩) := by rw [cell_of_obj hbs_13]; rfl
                  have cs_8 : w13.cell? ⟨w9.heap.size, 8, none⟩ = some (.int .u8 2) := by rw [cell_of_obj hbs_13]; rfl
                  have cs_9 : w13.cell? ⟨w9.heap.size, 9, none⟩ = some (.int .i64 0) := by rw [cell_of_obj hbs_13]; rfl
                  have cs_10 : w13.cell? ⟨w9.heap.size, 10, none⟩ = some (.int .i64 0) := by rw [cell_of_obj hbs_13]; rfl
                  have cs_11 : w13.cell? ⟨w9.heap.size, 11, none⟩ = some (.string ⟨#[]⟩) := by rw [cell_of_obj hbs_13]; rfl
                  have zs := frozen_of_obj hbs_13
                  obtain ⟨cu_0, cu_1, cu_2, cu_3, zu⟩ := hbu_13.cs
                  go_wp2_with fail
                  refine (HTT.out _).mono ?_
                  rintro e w14 ⟨rfl, hf14⟩
                  have la := hba_13.lt
                  have lb := hbb_13.lt
                  have lc := hbc_13.lt
                  have lx := hbx_13.lt
                  have ly := hby_13.lt
                  have lz := hbz_13.lt
                  have ls := obj_lt hbs_13
                  have lu := hbu_13.lt
                  have hl := hfw_13.size
                  have po0 := o0.out
                  have po1 := o1.out
                  have po2 := o2.out
                  have po3 := o3.out
                  have po4 := o4.out
                  have hB : Bx w14 w.heap.size a ∧ Bx w14 (w.heap.size + 1) b ∧ Bx w14 (w.heap.size + 2) c ∧ Bl w14 w3.heap.size 2 0 0 ∧ Bl w14 w5.heap.size 2 1 0 ∧ Bl w14 w7.heap.size 2 0 0 ∧ w14.heap[w9.heap.size]? = some (.cells #[.int .u8 2, .int .i64 0, .int .i64 0, .string ⟨#[]⟩, .int .u8 2, .int .i64 1, .int .i64 0, .string ⟨#[]⟩, .int .u8 2, .int .i64 0, .int .i64 0, .string ⟨#[]⟩] 23 (0, 0)) ∧ Bx w14 w12.heap.size U.1 := by
                    refine ⟨?_, ?_, ?_, ?_, ?_, ?_, ?_, ?_⟩ <;> ((first | unfold Bx | unfold Bl | skip); refine hf14.obj (noB_not _) ?_; repeat (first | with_reducible exact hba_13.raw | with_reducible exact hbb_13.raw | with_reducible exact hbc_13.raw | with_reducible exact hbx_13.raw | with_reducible exact hby_13.raw | with_reducible exact hbz_13.raw | with_reducible exact hbs_13 | with_reducible exact hbu_13.raw | (with_reducible refine obj_alloc_at ?_; simp; done) | (with_reducible apply obj_put4; omega) | (with_reducible apply obj_put1; omega) | (with_reducible refine obj_setCell_other ?_ _ _ ?_; rotate_left; (dsimp only; omega)) | with_reducible refine obj_alloc ?_ _ | with_reducible refine obj_drew ?_))
                  obtain ⟨hba_14, hbb_14, hbc_14, hbx_14, hby_14, hbz_14, hbs_14, hbu_14⟩ := hB
                  have hfw_14 : Fr noB w w14 := by
                    refine Fr.transN ?_ hf14
                    repeat (first | with_reducible exact hfw_13 | with_reducible refine Fr.alloc ?_ _ | (with_reducible refine Fr.setCell ?_ ?_ _; rotate_left; (intro h; dsimp only at h; omega)) | with_reducible refine Fr.drew ?_ | exact hfw_13)
                  clear hba_13 hbb_13 hbc_13 hbx_13 hby_13 hbz_13 hbs_13 hbu_13 la lb lc lx ly lz ls lu hl po0 po1 po2 po3 po4 ca_0 ca_1 ca_2 ca_3 za cb_0 cb_1 cb_2 cb_3 zb cc_0 cc_1 cc_2 cc_3 zc cx_0 cx_1 cx_2 cx_3 zx cy_0 cy_1 cy_2 cy_3 zy cz_0 cz_1 cz_2 cz_3 zz cs_0 cs_1 cs_2 cs_3 cs_4 cs_5 cs_6 cs_7 cs_8 cs_9 cs_10 cs_11 zs cu_0 cu_1 cu_2 cu_3 zu hf14 hfw_13
                  obtain ⟨ca_0, ca_1, ca_2, ca_3, za⟩ := hba_14.cs
                  obtain ⟨cb_0, cb_1, cb_2, cb_3, zb⟩ := hbb_14.cs
                  obtain ⟨cc_0, cc_1, cc_2, cc_3, zc⟩ := hbc_14.cs
                  obtain ⟨cx_0, cx_1, cx_2, cx_3, zx⟩ := hbx_14.cs
                  obtain ⟨cy_0, cy_1, cy_2, cy_3, zy⟩ := hby_14.cs
                  obtain ⟨cz_0, cz_1, cz_2, cz_3, zz⟩ := hbz_14.cs
                  have cs_0 : w14.cell? ⟨w9.heap.size, 0, none⟩ = some (.int .u8 2) := by rw [cell_of_obj hbs_14]; rfl
                  have cs_1 : w14.cell? ⟨w9.heap.size, 1, none⟩ = some (.int .i64 0) := by rw [cell_of_obj hbs_14]; rfl
                  have cs_2 : w14.cell? ⟨w9.heap.size, 2, none⟩ = some (.int .i64 0) := by rw [cell_of_obj hbs_14]; rfl
                  have cs_3 : w14.cell? ⟨w9.heap.size, 3, none⟩ = some (.string ⟨#[]⟩) := by rw [cell_of_obj hbs_14]; rfl
                  have cs_4 : w14.cell? ⟨w9.heap.size, 4, none⟩ = some (.int .u8 2) := by rw [cell_of_obj hbs_14]; rfl
                  have cs_5 : w14.cell? ⟨w9.heap.size, 5, none⟩ = some (.int .i64 1) := by rw [cell_of_obj hbs_14]; rfl
                  have cs_6 : w14.cell? ⟨w9.heap.size, 6, none⟩ = some (.int .i64 0) := by rw [cell_of_obj hbs_14]; rfl
                  have cs_7 : w14.cell? ⟨w9.heap.size, 7, none⟩ = some (.string ⟨#[]⟩) := by rw [cell_of_obj hbs_14]; rfl
                  have cs_8 : w14.cell? ⟨w9.heap.size, 8, none⟩ = some (.int .u8 2) := by rw [cell_of_obj hbs_14]; rfl
                  have cs_9 : w14.cell? ⟨w9.heap.size, 9, none⟩ = some (.int .i64 0) := by rw [cell_of_obj hbs_14]; rfl
                  have cs_10 : w14.cell? ⟨w9.heap.size, 10, none⟩ = some (.int .i64 0) := by rw [cell_of_obj hbs_14]; rfl
                  have cs_11 : w14.cell? ⟨w9.heap.size, 11, none⟩ = some (.string ⟨#[]⟩) := by rw [cell_of_obj hbs_14]; rfl
                  have zs := frozen_of_obj hbs_14
                  obtain ⟨cu_0, cu_1, cu_2, cu_3, zu⟩ := hbu_14.cs
                  go_upto_region 21 with fail
                  have o5 := Lib.hid (hbu_14.lt)
                  have la := hba_14.lt
                  have lb := hbb_14.lt
                  have lc := hbc_14.lt
                  have lx := hbx_14.lt
                  have ly := hby_14.lt
                  have lz := hbz_14.lt
                  have ls := obj_lt hbs_14
                  have lu := hbu_14.lt
                  have hl := hfw_14.size
                  have po0 := o0.out
                  have po1 := o1.out
                  have po2 := o2.out
                  have po3 := o3.out
                  have po4 := o4.out
                  have po5 := o5.out
                  refine wp_world (fun W => Fr noB w W ∧ Bx W w.heap.size a ∧ Bx W (w.heap.size + 1) b ∧ Bx W (w.heap.size + 2) c ∧ Bl W w3.heap.size 2 0 0 ∧ Bl W w5.heap.size 2 1 0 ∧ Bl W w7.heap.size 2 0 0 ∧ W.heap[w9.heap.size]? = some (.cells #[.int .u8 2, .int .i64 0, .int .i64 0, .string ⟨#[]⟩, .int .u8 2, .int .i64 1, .int .i64 0, .string ⟨#[]⟩, .int .u8 2, .int .i64 0, .int .i64 0, .string ⟨#[]⟩] 23 (0, 0)) ∧ Bx W w12.heap.size U.1 ∧ Bx W w14.heap.size T.1) ?_ ?_
                  · refine ⟨?_, ?_, ?_, ?_, ?_, ?_, ?_, ?_, ?_, ?_⟩ <;> ((first | unfold Bx | unfold Bl | skip); repeat (first | with_reducible exact hfw_14 | with_reducible refine Fr.alloc ?_ _ | (with_reducible refine Fr.setCell ?_ ?_ _; rotate_left; (intro h; dsimp only at h; omega)) | with_reducible refine Fr.drew ?_ | with_reducible exact hba_14.raw | with_reducible exact hbb_14.raw | with_reducible exact hbc_14.raw | with_reducible exact hbx_14.raw | with_reducible exact hby_14.raw | with_reducible exact hbz_14.raw | with_reducible exact hbs_14 | with_reducible exact hbu_14.raw | (with_reducible refine obj_alloc_at ?_; simp; done) | (with_reducible apply obj_put4; omega) | (with_reducible apply obj_put1; omega) | (with_reducible refine obj_setCell_other ?_ _ _ ?_; rotate_left; (dsimp only; omega)) | with_reducible refine obj_alloc ?_ _ | with_reducible refine obj_drew ?_ | exact hfw_14))
                  clear hba_14 hbb_14 hbc_14 hbx_14 hby_14 hbz_14 hbs_14 hbu_14 la lb lc lx ly lz ls lu hl po0 po1 po2 po3 po4 po5 ca_0 ca_1 ca_2 ca_3 za cb_0 cb_1 cb_2 cb_3 zb cc_0 cc_1 cc_2 cc_3 zc cx_0 cx_1 cx_2 cx_3 zx cy_0 cy_1 cy_2 cy_3 zy cz_0 cz_1 cz_2 cz_3 zz cs_0 cs_1 cs_2 cs_3 cs_4 cs_5 cs_6 cs_7 cs_8 cs_9 cs_10 cs_11 zs cu_0 cu_1 cu_2 cu_3 zu hfw_14
                  rintro w15 ⟨hfw_15, hba_15, hbb_15, hbc_15, hbx_15, hby_15, hbz_15, hbs_15, hbu_15, hbt_15⟩
                  obtain ⟨ca_0, ca_1, ca_2, ca_3, za⟩ := hba_15.cs
                  obtain ⟨cb_0, cb_1, cb_2, cb_3, zb⟩ := hbb_15.cs
                  obtain ⟨cc_0, cc_1, cc_2, cc_3, zc⟩ := hbc_15.cs
                  obtain ⟨cx_0, cx_1, cx_2, cx_3, zx⟩ := hbx_15.cs
                  obtain ⟨cy_0, cy_1, cy_2, cy_3, zy⟩ := hby_15.cs
                  obtain ⟨cz_0, cz_1, cz_2, cz_3, zz⟩ := hbz_15.cs
                  have cs_0 : w15.cell? ⟨w9.heap.size, 0, none⟩ = some (.int .u8 2) := by rw [cell_of_obj hbs_15]; rfl
                  have cs_1 : w15.cell? ⟨w9.heap.size, 1, none⟩ = some (.int .i64 0) := by rw [cell_of_obj hbs_15]; rfl
                  have cs_2 : w15.cell? ⟨w9.heap.size, 2, none⟩ = some (.int .i64 0) := by rw [cell_of_obj hbs_15]; rfl
                  have cs_3 : w15.cell? ⟨w9.heap.size, 3, none⟩ = some (.string ⟨#[]⟩) := by rw [cell_of_obj hbs_15]; rfl
                  have cs_4 : w15.cell? ⟨w9.heap.size, 4, none⟩ = some (.int .u8 2) := by rw [cell_of_obj hbs_15]; rfl
                  have cs_5 : w15.cell? ⟨w9.heap.size, 5, none⟩ = some (.int .i64 1) := by rw [cell_of_obj hbs_15]; rfl
                  have cs_6 : w15.cell? ⟨w9.heap.size, 6, none⟩ = some (.int .i64 0) := by rw [cell_of_obj hbs_15]; rfl
                  have cs_7 : w15.cell? ⟨w9.heap.size, 7, none⟩ = some (.string ⟨#[]⟩) := by rw [cell_of_obj hbs_15]; rfl
                  have cs_8 : w15.cell? ⟨w9.heap.size, 8, none⟩ = some (.int .u8 2) := by rw [cell_of_obj hbs_15]; rfl
                  have cs_9 : w15.cell? ⟨w9.heap.size, 9, none⟩ = some (.int .i64 0) := by rw [cell_of_obj hbs_15]; rfl
                  have cs_10 : w15.cell? ⟨w9.heap.size, 10, none⟩ = some (.int .i64 0) := by rw [cell_of_obj hbs_15]; rfl
                  have cs_11 : w15.cell? ⟨w9.heap.size, 11, none⟩ = some (.string ⟨#[]⟩) := by rw [cell_of_obj hbs_15]; rfl
                  have zs := frozen_of_obj hbs_15
                  obtain ⟨cu_0, cu_1, cu_2, cu_3, zu⟩ := hbu_15.cs
                  obtain ⟨ct_0, ct_1, ct_2, ct_3, zt⟩ := hbt_15.cs
                  cases hu : (U.2 != 0)
                  · go_wp2_with fail
                    refine (HY0.out _).mono ?_
                    rintro e w16 ⟨rfl, hf16⟩
                    have la := hba_15.lt
                    have lb := hbb_15.lt
                    have lc := hbc_15.lt
                    have lx := hbx_15.lt
                    have ly := hby_15.lt
                    have lz := hbz_15.lt
                    have ls := obj_lt hbs_15
                    have lu := hbu_15.lt
                    have lt := hbt_15.lt
                    have hl := hfw_15.size
                    have po0 := o0.out
                    have po1 := o1.out
                    have po2 := o2.out
                    have po3 := o3.out
                    have po4 := o4.out
                    have po5 := o5.out
                    have hB : Bx w16 w.heap.size a ∧ Bx w16 (w.heap.size + 1) b ∧ Bx w16 (w.heap.size + 2) c ∧ Bl w16 w3.heap.size 2 0 0 ∧ Bl w16 w5.heap.size 2 1 0 ∧ Bl w16 w7.heap.size 2 0 0 ∧ w16.heap[w9.heap.size]? = some (.cells #[.int .u8 2, .int .i64 0, .int .i64 0, .string ⟨#[]⟩, .int .u8 2, .int .i64 1, .int .i64 0, .string ⟨#[]⟩, .int .u8 2, .int .i64 0, .int .i64 0, .string ⟨#[]⟩] 23 (0, 0)) ∧ Bx w16 w12.heap.size U.1 ∧ Bx w16 w14.heap.size T.1 := by
                      refine ⟨?_, ?_, ?_, ?_, ?_, ?_, ?_, ?_, ?_⟩ <;> ((first | unfold Bx | unfold Bl | skip); refine hf16.obj (noB_not _) ?_; repeat (first | with_reducible exact hba_15.raw | with_reducible exact hbb_15.raw | with_reducible exact hbc_15.raw | with_reducible exact hbx_15.raw | with_reducible exact hby_15.raw | with_reducible exact hbz_15.raw | with_reducible exact hbs_15 | with_reducible exact hbu_15.raw | with_reducible exact hbt_15.raw | (with_reducible refine obj_alloc_at ?_; simp; done) | (with_reducible apply obj_put4; omega) | (with_reducible apply obj_put1; omega) | (with_reducible refine obj_setCell_other ?_ _ _ ?_; rotate_left; (dsimp only; omega)) | with_reducible refine obj_alloc ?_ _ | with_reducible refine obj_drew ?_))
                    obtain ⟨hba_16, hbb_16, hbc_16, hbx_16, hby_16, hbz_16, hbs_16, hbu_16, hbt_16⟩ := hB
                    have hfw_16 : Fr noB w w16 := by
                      refine Fr.transN ?_ hf16
                      repeat (first | with_reducible exact hfw_15 | with_reducible refine Fr.alloc ?_ _ | (with_reducible refine Fr.setCell ?_ ?_ _; rotate_left; (intro h; dsimp only at h; omega)) | with_reducible refine Fr.drew ?_ | exact hfw_15)
                    clear hba_15 hbb_15 hbc_15 hbx_15 hby_15 hbz_15 hbs_15 hbu_15 hbt_15 la lb lc lx ly lz ls lu lt hl po0 po1 po2 po3 po4 po5 ca_0 ca_1 ca_2 ca_3 za cb_0 cb_1 cb_2 cb_3 zb cc_0 cc_1 cc_2 cc_3 zc cx_0 cx_1 cx_2 cx_3 zx cy_0 cy_1 cy_2 cy_3 zy cz_0 cz_1 cz_2 cz_3 zz cs_0 cs_1 cs_2 cs_3 cs_4 cs_5 cs_6 cs_7 cs_8 cs_9 cs_10 cs_11 zs cu_0 cu_1 cu_2 cu_3 zu ct_0 ct_1 ct_2 ct_3 zt hf16 hfw_15
                    obtain ⟨ca_0, ca_1, ca_2, ca_3, za⟩ := hba_16.cs
                    obtain ⟨cb_0, cb_1, cb_2, cb_3, zb⟩ := hbb_16.cs
                    obtain ⟨cc_0, cc_1, cc_2, cc_3, zc⟩ := hbc_16.cs
                    obtain ⟨cx_0, cx_1, cx_2, cx_3, zx⟩ := hbx_16.cs
                    obtain ⟨cy_0, cy_1, cy_2, cy_3, zy⟩ := hby_16.cs
                    obtain ⟨cz_0, cz_1, cz_2, cz_3, zz⟩ := hbz_16.cs
                    have cs_0 : w16.cell? ⟨w9.heap.size, 0, none⟩ = some (.int .u8 2) := by rw [cell_of_obj hbs_16]; rfl
                    have cs_1 : w16.cell? ⟨w9.heap.size, 1, none⟩ = some (.int .i64 0) := by rw [cell_of_obj hbs_16]; rfl
                    have cs_2 : w16.cell? ⟨w9.heap.size, 2, none⟩ = some (.int .i64 0) := by rw [cell_of_obj hbs_16]; rfl
                    have cs_3 : w16.cell? ⟨w9.heap.size, 3, none⟩ = some (.string ⟨#[]⟩) := by rw [cell_of_obj hbs_16]; rfl
                    have cs_4 : w16.cell? ⟨w9.heap.size, 4, none⟩ = some (.int .u8 2) := by rw [cell_of_obj hbs_16]; rfl
                    have cs_5 : w16.cell? ⟨w9.heap.size, 5, none⟩ = some (.int .i64 1) := by rw [cell_of_obj hbs_16]; rfl
                    have cs_6 : w16.cell? ⟨w9.heap.size, 6, none⟩ = some (.int .i64 0) := by rw [cell_of_obj hbs_16]; rfl
                    have cs_7 : w16.cell? ⟨w9.heap.size, 7, none⟩ = some (.string ⟨#[]⟩) := by rw [cell_of_obj hbs_16]; rfl
                    have cs_8 : w16.cell? ⟨w9.heap.size, 8, none⟩ = some (.int .u8 2) := by rw [cell_of_obj hbs_16]; rfl
                    have cs_9 : w16.cell? ⟨w9.heap.size, 9, none⟩ = some (.int .i64 0) := by rw [cell_of_obj hbs_16]; rfl
                    have cs_10 : w16.cell? ⟨w9.heap.size, 10, none⟩ = some (.int .i64 0) := by rw [cell_of_obj hbs_16]; rfl
                    have cs_11 : w16.cell? ⟨w9.heap.size, 11, none⟩ = some (.string ⟨#[]⟩) := by rw [cell_of_obj hbs_16]; rfl
                    have zs := frozen_of_obj hbs_16
                    obtain ⟨cu_0, cu_1, cu_2, cu_3, zu⟩ := hbu_16.cs
                    obtain ⟨ct_0, ct_1, ct_2, ct_3, zt⟩ := hbt_16.cs
                    go_wp2_with fail
                    have la := hba_16.lt
                    have lb := hbb_16.lt
                    have lc := hbc_16.lt
                    have lx := hbx_16.lt
                    have ly := hby_16.lt
                    have lz := hbz_16.lt
                    have ls := obj_lt hbs_16
                    have lu := hbu_16.lt
                    have lt := hbt_16.lt
                    have hl := hfw_16.size
                    have po0 := o0.out
                    have po1 := o1.out
                    have po2 := o2.out
                    have po3 := o3.out
                    have po4 := o4.out
                    have po5 := o5.out
                    go_ret
                    refine ⟨?_, ?_⟩
                    · rfl
                    · skip
                      repeat (first | with_reducible exact hfw_16 | with_reducible refine Fr.alloc ?_ _ | (with_reducible refine Fr.setCell ?_ ?_ _; rotate_left; (intro h; dsimp only at h; omega)) | with_reducible refine Fr.drew ?_ | exact hfw_16)
                  · go_wp2_with fail
                    have la := hba_15.lt
                    have lb := hbb_15.lt
                    have lc := hbc_15.lt
                    have lx := hbx_15.lt
                    have ly := hby_15.lt
                    have lz := hbz_15.lt
                    have ls := obj_lt hbs_15
                    have lu := hbu_15.lt
                    have lt := hbt_15.lt
                    have hl := hfw_15.size
                    have po0 := o0.out
                    have po1 := o1.out
                    have po2 := o2.out
                    have po3 := o3.out
                    have po4 := o4.out
                    have po5 := o5.out
                    go_ret
                    refine ⟨?_, ?_⟩
                    · rfl
                    · skip
                      repeat (first | with_reducible exact hfw_15 | with_reducible refine Fr.alloc ?_ _ | (with_reducible refine Fr.setCell ?_ ?_ _; rotate_left; (intro h; dsimp only at h; omega)) | with_reducible refine Fr.drew ?_ | exact hfw_15)
          · have hn2 : (nullB b || nullB a) = false := by rw [Bool.or_comm]; exact hn
            have hX : X = (zV, 60) := HXX.out.trans (ordV_type _ hn hk)
            rw [hX] at HX
            dsimp only [zV] at HX
            have hY : Y = (zV, 60) := HYY2.out.trans (ordV_type _ hn2 (Ne.symm hk))
            rw [hY] at HYY
            dsimp only [zV] at HYY
            have hZ : Z = (zV, 60) := HZZ.out.trans (ordV_type _ hn hk)
            rw [hZ] at HZ
            dsimp only [zV] at HZ
            clear hX hY hZ HXX HYY2 HZZ
            go_wp2_with fail
            refine (HX.out _).mono ?_
            rintro e w3 ⟨rfl, hf3⟩
            have la := hba_2.lt
            have lb := hbb_2.lt
            have lc := hbc_2.lt
            have hl := hfw_2.size
            have hB : Bx w3 w.heap.size a ∧ Bx w3 (w.heap.size + 1) b ∧ Bx w3 (w.heap.size + 2) c := by
              refine ⟨?_, ?_, ?_⟩ <;> ((first | unfold Bx | unfold Bl | skip); refine hf3.obj (noB_not _) ?_; repeat (first | with_reducible exact hba_2.raw | with_reducible exact hbb_2.raw | with_reducible exact hbc_2.raw | (with_reducible refine obj_alloc_at ?_; simp; done) | (with_reducible apply obj_put4; omega) | (with_reducible apply obj_put1; omega) | (with_reducible refine obj_setCell_other ?_ _ _ ?_; rotate_left; (dsimp only; omega)) | with_reducible refine obj_alloc ?_ _ | with_reducible refine obj_drew ?_))
            obtain ⟨hba_3, hbb_3, hbc_3⟩ := hB
            have hfw_3 : Fr noB w w3 := by
              refine Fr.transN ?_ hf3
              repeat (first | with_reducible exact hfw_2 | with_reducible refine Fr.alloc ?_ _ | (with_reducible refine Fr.setCell ?_ ?_ _; rotate_left; (intro h; dsimp only at h; omega)) | with_reducible refine Fr.drew ?_ | exact hfw_2)
            clear hba_2 hbb_2 hbc_2 la lb lc hl ca_0 ca_1 ca_2 ca_3 za cb_0 cb_1 cb_2 cb_3 zb cc_0 cc_1 cc_2 cc_3 zc hf3 hfw_2
            obtain ⟨ca_0, ca_1, ca_2, ca_3, za⟩ := hba_3.cs
            obtain ⟨cb_0, cb_1, cb_2, cb_3, zb⟩ := hbb_3.cs
            obtain ⟨cc_0, cc_1, cc_2, cc_3, zc⟩ := hbc_3.cs
            go_upto_region 4 with fail
            have o0 := Lib.hid (hbc_3.lt)
            have la := hba_3.lt
            have lb := hbb_3.lt
            have lc := hbc_3.lt
            have hl := hfw_3.size
            have po0 := o0.out
            refine wp_world (fun W => Fr noB w W ∧ Bx W w.heap.size a ∧ Bx W (w.heap.size + 1) b ∧ Bx W (w.heap.size + 2) c ∧ Bl W w3.heap.size 0 0 0) ?_ ?_
            · refine ⟨?_, ?_, ?_, ?_, ?_⟩ <;> ((first | unfold Bx | unfold Bl | skip); repeat (first | with_reducible exact hfw_3 | with_reducible refine Fr.alloc ?_ _ | (with_reducible refine Fr.setCell ?_ ?_ _; rotate_left; (intro h; dsimp only at h; omega)) | with_reducible refine Fr.drew ?_ | with_reducible exact hba_3.raw | with_reducible exact hbb_3.raw | with_reducible exact hbc_3.raw | (with_reducible refine obj_alloc_at ?_; simp; done) | (with_reducible apply obj_put4; omega) | (with_reducible apply obj_put1; omega) | (with_reducible refine obj_setCell_other ?_ _ _ ?_; rotate_left; (dsimp only; omega)) | with_reducible refine obj_alloc ?_ _ | with_reducible refine obj_drew ?_ | exact hfw_3))
            clear hba_3 hbb_3 hbc_3 la lb lc hl po0 ca_0 ca_1 ca_2 ca_3 za cb_0 cb_1 cb_2 cb_3 zb cc_0 cc_1 cc_2 cc_3 zc hfw_3
            rintro w4 ⟨hfw_4, hba_4, hbb_4, hbc_4, hbx_4⟩
            obtain ⟨ca_0, ca_1, ca_2, ca_3, za⟩ := hba_4.cs
            obtain ⟨cb_0, cb_1, cb_2, cb_3, zb⟩ := hbb_4.cs
            obtain ⟨cc_0, cc_1, cc_2, cc_3, zc⟩ := hbc_4.cs
            obtain ⟨cx_0, cx_1, cx_2, cx_3, zx⟩ := hbx_4.cs
            go_wp2_with fail
            refine (HYY.out _).mono ?_
            rintro e w5 ⟨rfl, hf5⟩
            have la := hba_4.lt
            have lb := hbb_4.lt
            have lc := hbc_4.lt
            have lx := hbx_4.lt
            have hl := hfw_4.size
            have po0 := o0.out
            have hB : Bx w5 w.heap.size a ∧ Bx w5 (w.heap.size + 1) b ∧ Bx w5 (w.heap.size + 2) c ∧ Bl w5 w3.heap.size 0 0 0 := by
              refine ⟨?_, ?_, ?_, ?_⟩ <;> ((first | unfold Bx | unfold Bl | skip); refine hf5.obj (noB_not _) ?_; repeat (first | with_reducible exact hba_4.raw | with_reducible exact hbb_4.raw | with_reducible exact hbc_4.raw | with_reducible exact hbx_4.raw | (with_reducible refine obj_alloc_at ?_; simp; done) | (with_reducible apply obj_put4; omega) | (with_reducible apply obj_put1; omega) | (with_reducible refine obj_setCell_other ?_ _ _ ?_; rotate_left; (dsimp only; omega)) | with_reducible refine obj_alloc ?_ _ | with_reducible refine obj_drew ?_))
            obtain ⟨hba_5, hbb_5, hbc_5, hbx_5⟩ := hB
            have hfw_5 : Fr noB w w5 := by
              refine Fr.transN ?_ hf5
              repeat (first | with_reducible exact hfw_4 | with_reducible refine Fr.alloc ?_ _ | (with_reducible refine Fr.setCell ?_ ?_ _; rotate_left; (intro h; dsimp only at h; omega)) | with_reducible refine Fr.drew ?_ | exact hfw_4)
            clear hba_4 hbb_4 hbc_4 hbx_4 la lb lc lx hl po0 ca_0 ca_1 ca_2 ca_3 za cb_0 cb_1 cb_2 cb_3 zb cc_0 cc_1 cc_2 cc_3 zc cx_0 cx_1 cx_2 cx_3 zx hf5 hfw_4
            obtain ⟨ca_0, ca_1, ca_2, ca_3, za⟩ := hba_5.cs
            obtain ⟨cb_0, cb_1, cb_2, cb_3, zb⟩ := hbb_5.cs
            obtain ⟨cc_0, cc_1, cc_2, cc_3, zc⟩ := hbc_5.cs
            obtain ⟨cx_0, cx_1, cx_2, cx_3, zx⟩ := hbx_5.cs
            go_upto_region 5 with fail
            have o1 := Lib.hid (hbx_5.lt)
            have la := hba_5.lt
            have lb := hbb_5.lt
            have lc := hbc_5.lt
            have lx := hbx_5.lt
            have hl := hfw_5.size
            have po0 := o0.out
            have po1 := o1.out
            refine wp_world (fun W => Fr noB w W ∧ Bx W w.heap.size a ∧ Bx W (w.heap.size + 1) b ∧ Bx W (w.heap.size + 2) c ∧ Bl W w3.heap.size 0 0 0 ∧ Bl W w5.heap.size 0 0 0) ?_ ?_
            · refine ⟨?_, ?_, ?_, ?_, ?_, ?_⟩ <;> ((first | unfold Bx | unfold Bl | skip); repeat (first | with_reducible exact hfw_5 | with_reducible refine Fr.alloc ?_ _ | (with_reducible refine Fr.setCell ?_ ?_ _; rotate_left; (intro h; dsimp only at h; omega)) | with_reducible refine Fr.drew ?_ | with_reducible exact hba_5.raw | with_reducible exact hbb_5.raw | with_reducible exact hbc_5.raw | with_reducible exact hbx_5.raw | (with_reducible refine obj_alloc_at ?_; simp; done) | (with_reducible apply obj_put4; omega) | (with_reducible apply obj_put1; omega) | (with_reducible refine obj_setCell_other ?_ _ _ ?_; rotate_left; (dsimp only; omega)) | with_reducible refine obj_alloc ?_ _ | with_reducible refine obj_drew ?_ | exact hfw_5))
            clear hba_5 hbb_5 hbc_5 hbx_5 la lb lc lx hl po0 po1 ca_0 ca_1 ca_2 ca_3 za cb_0 cb_1 cb_2 cb_3 zb cc_0 cc_1 cc_2 cc_3 zc cx_0 cx_1 cx_2 cx_3 zx hfw_5
            rintro w6 ⟨hfw_6, hba_6, hbb_6, hbc_6, hbx_6, hby_6⟩
            obtain ⟨ca_0, ca_1, ca_2, ca_3, za⟩ := hba_6.cs
            obtain ⟨cb_0, cb_1, cb_2, cb_3, zb⟩ := hbb_6.cs
            obtain ⟨cc_0, cc_1, cc_2, cc_3, zc⟩ := hbc_6.cs
            obtain ⟨cx_0, cx_1, cx_2, cx_3, zx⟩ := hbx_6.cs
            obtain ⟨cy_0, cy_1, cy_2, cy_3, zy⟩ := hby_6.cs
            go_wp2_with fail
            refine (HZ.out _).mono ?_
            rintro e w7 ⟨rfl, hf7⟩
            have la := hba_6.lt
            have lb := hbb_6.lt
            have lc := hbc_6.lt
            have lx := hbx_6.lt
            have ly := hby_6.lt
            have hl := hfw_6.size
            have po0 := o0.out
            have po1 := o1.out
            have hB : Bx w7 w.heap.size a ∧ Bx w7 (w.heap.size + 1) b ∧ Bx w7 (w.heap.size + 2) c ∧ Bl w7 w3.heap.size 0 0 0 ∧ Bl w7 w5.heap.size 0 0 0 := by
              refine ⟨?_, ?_, ?_, ?_, ?_⟩ <;> ((first | unfold Bx | unfold Bl | skip); refine hf7.obj (noB_not _) ?_; repeat (first | with_reducible exact hba_6.raw | with_reducible exact hbb_6.raw | with_reducible exact hbc_6.raw | with_reducible exact hbx_6.raw | with_reducible exact hby_6.raw | (with_reducible refine obj_alloc_at ?_; simp; done) | (with_reducible apply obj_put4; omega) | (with_reducible apply obj_put1; omega) | (with_reducible refine obj_setCell_other ?_ _ _ ?_; rotate_left; (dsimp only; omega)) | with_reducible refine obj_alloc ?_ _ | with_reducible refine obj_drew ?_))
            obtain ⟨hba_7, hbb_7, hbc_7, hbx_7, hby_7⟩ := hB
            have hfw_7 : Fr noB w w7 := by
              refine Fr.transN ?_ hf7
              repeat (first | with_reducible exact hfw_6 | with_reducible refine Fr.alloc ?_ _ | (with_reducible refine Fr.setCell ?_ ?_ _; rotate_left; (intro h; dsimp only at h; omega)) | with_reducible refine Fr.drew ?_ | exact hfw_6)
            clear hba_6 hbb_6 hbc_6 hbx_6 hby_6 la lb lc lx ly hl po0 po1 ca_0 ca_1 ca_2 ca_3 za cb_0 cb_1 cb_2 cb_3 zb cc_0 cc_1 cc_2 cc_3 zc cx_0 cx_1 cx_2 cx_3 zx cy_0 cy_1 cy_2 cy_3 zy hf7 hfw_6
            obtain ⟨ca_0, ca_1, ca_2, ca_3, za⟩ := hba_7.cs
            obtain ⟨cb_0, cb_1, cb_2, cb_3, zb⟩ := hbb_7.cs
            obtain ⟨cc_0, cc_1, cc_2, cc_3, zc⟩ := hbc_7.cs
            obtain ⟨cx_0, cx_1, cx_2, cx_3, zx⟩ := hbx_7.cs
            obtain ⟨cy_0, cy_1, cy_2, cy_3, zy⟩ := hby_7.cs
            go_upto_region 6 with fail
            have o2 := Lib.hid (hby_7.lt)
            have la := hba_7.lt
            have lb := hbb_7.lt
            have lc := hbc_7.lt
            have lx := hbx_7.lt
            have ly := hby_7.lt
            have hl := hfw_7.size
            have po0 := o0.out
            have po1 := o1.out
            have po2 := o2.out
            refine wp_world (fun W => Fr noB w W ∧ Bx W w.heap.size a ∧ Bx W (w.heap.size + 1) b ∧ Bx W (w.heap.size + 2) c ∧ Bl W w3.heap.size 0 0 0 ∧ Bl W w5.heap.size 0 0 0 ∧ Bl W w7.heap.size 0 0 0) ?_ ?_
            · refine ⟨?_, ?_, ?_, ?_, ?_, ?_, ?_⟩ <;> ((first | unfold Bx | unfold Bl | skip); repeat (first | with_reducible exact hfw_7 | with_reducible refine Fr.alloc ?_ _ | (with_reducible refine Fr.setCell ?_ ?_ _; rotate_left; (intro h; dsimp only at h; omega)) | with_reducible refine Fr.drew ?_ | with_reducible exact hba_7.raw | with_reducible exact hbb_7.raw | with_reducible exact hbc_7.raw | with_reducible exact hbx_7.raw | with_reducible exact hby_7.raw | (with_reducible refine obj_alloc_at ?_; simp; done) | (with_reducible apply obj_put4; omega) | (with_reducible apply obj_put1; omega) | (with_reducible refine obj_setCell_other ?_ _ _ ?_; rotate_left; (dsimp only; omega)) | with_reducible refine obj_alloc ?_ _ | with_reducible refine obj_drew ?_ | exact hfw_7))
            clear hba_7 hbb_7 hbc_7 hbx_7 hby_7 la lb lc lx ly hl po0 po1 po2 ca_0 ca_1 ca_2 ca_3 za cb_0 cb_1 cb_2 cb_3 zb cc_0 cc_1 cc_2 cc_3 zc cx_0 cx_1 cx_2 cx_3 zx cy_0 cy_1 cy_2 cy_3 zy hfw_7
            rintro w8 ⟨hfw_8, hba_8, hbb_8, hbc_8, hbx_8, hby_8, hbz_8⟩
            obtain ⟨ca_0, ca_1, ca_2, ca_3, za⟩ := hba_8.cs
            obtain ⟨cb_0, cb_1, cb_2, cb_3, zb⟩ := hbb_8.cs
            obtain ⟨cc_0, cc_1, cc_2, cc_3, zc⟩ := hbc_8.cs
            obtain ⟨cx_0, cx_1, cx_2, cx_3, zx⟩ := hbx_8.cs
            obtain ⟨cy_0, cy_1, cy_2, cy_3, zy⟩ := hby_8.cs
            obtain ⟨cz_0, cz_1, cz_2, cz_3, zz⟩ := hbz_8.cs
            have f0 : (a.k != b.k) = true := by simpa using hk
            simp only [Bool.or_eq_false_iff] at hn
            obtain ⟨n1, n2⟩ := hn
            unfold nullB at n1 n2
            clear hk hn2
            go_wp2_with fail
            have la := hba_8.lt
            have lb := hbb_8.lt
            have lc := hbc_8.lt
            have lx := hbx_8.lt
            have ly := hby_8.lt
            have lz := hbz_8.lt
            have hl := hfw_8.size
            have po0 := o0.out
            have po1 := o1.out
            have po2 := o2.out
            go_ret
            refine ⟨?_, ?_⟩
            · rfl
            · skip
              repeat (first | with_reducible exact hfw_8 | with_reducible refine Fr.alloc ?_ _ | (with_reducible refine Fr.setCell ?_ ?_ _; rotate_left; (intro h; dsimp only at h; omega)) | with_reducible refine Fr.drew ?_ | exact hfw_8)
        · have hn2 : (nullB b || nullB a) = true := by rw [Bool.or_comm]; exact hn
          have hX : X = (zV, 0) := HXX.out.trans (ordV_null _ hn)
          rw [hX] at HX
          dsimp only [zV] at HX
          have hY : Y = (zV, 0) := HYY2.out.trans (ordV_null _ hn2)
          rw [hY] at HYY
          dsimp only [zV] at HYY
          have hZ : Z = (zV, 0) := HZZ.out.trans (ordV_null _ hn)
          rw [hZ] at HZ
          dsimp only [zV] at HZ
          clear hX hY hZ HXX HYY2 HZZ
          go_wp2_with fail
          refine (HX.out _).mono ?_
          rintro e w3 ⟨rfl, hf3⟩
          have la := hba_2.lt
          have lb := hbb_2.lt
          have lc := hbc_2.lt
          have hl := hfw_2.size
          have hB : Bx w3 w.heap.size a ∧ Bx w3 (w.heap.size + 1) b ∧ Bx w3 (w.heap.size + 2) c := by
            refine ⟨?_, ?_, ?_⟩ <;> ((first | unfold Bx | unfold Bl | skip); refine hf3.obj (noB_not _) ?_; repeat (first | with_reducible exact hba_2.raw | with_reducible exact hbb_2.raw | with_reducible exact hbc_2.raw | (with_reducible refine obj_alloc_at ?_; simp; done) | (with_reducible apply obj_put4; omega) | (with_reducible apply obj_put1; omega) | (with_reducible refine obj_setCell_other ?_ _ _ ?_; rotate_left; (dsimp only; omega)) | with_reducible refine obj_alloc ?_ _ | with_reducible refine obj_drew ?_))
          obtain ⟨hba_3, hbb_3, hbc_3⟩ := hB
          have hfw_3 : Fr noB w w3 := by
            refine Fr.transN ?_ hf3
            repeat (first | with_reducible exact hfw_2 | with_reducible refine Fr.alloc ?_ _ | (with_reducible refine Fr.setCell ?_ ?_ _; rotate_left; (intro h; dsimp only at h; omega)) | with_reducible refine Fr.drew ?_ | exact hfw_2)
          clear hba_2 hbb_2 hbc_2 la lb lc hl ca_0 ca_1 ca_2 ca_3 za cb_0 cb_1 cb_2 cb_3 zb cc_0 cc_1 cc_2 cc_3 zc hf3 hfw_2
          obtain ⟨ca_0, ca_1, ca_2, ca_3, za⟩ := hba_3.cs
          obtain ⟨cb_0, cb_1, cb_2, cb_3, zb⟩ := hbb_3.cs
          obtain ⟨cc_0, cc_1, cc_2, cc_3, zc⟩ := hbc_3.cs
          go_upto_region 4 with fail
          have o0 := Lib.hid (hbc_3.lt)
          have la := hba_3.lt
          have lb := hbb_3.lt
          have lc := hbc_3.lt
          have hl := hfw_3.size
          have po0 := o0.out
          refine wp_world (fun W => Fr noB w W ∧ Bx W w.heap.size a ∧ Bx W (w.heap.size + 1) b ∧ Bx W (w.heap.size + 2) c ∧ Bl W w3.heap.size 0 0 0) ?_ ?_
          · refine ⟨?_, ?_, ?_, ?_, ?_⟩ <;> ((first | unfold Bx | unfold Bl | skip); repeat (first | with_reducible exact hfw_3 | with_reducible refine Fr.alloc ?_ _ | (with_reducible refine Fr.setCell ?_ ?_ _; rotate_left; (intro h; dsimp only at h; omega)) | with_reducible refine Fr.drew ?_ | with_reducible exact hba_3.raw | with_reducible exact hbb_3.raw | with_reducible exact hbc_3.raw | (with_reducible refine obj_alloc_at ?_; simp; done) | (with_reducible apply obj_put4; omega) | (with_reducible apply obj_put1; omega) | (with_reducible refine obj_setCell_other ?_ _ _ ?_; rotate_left; (dsimp only; omega)) | with_reducible refine obj_alloc ?_ _ | with_reducible refine obj_drew ?_ | exact hfw_3))
          clear hba_3 hbb_3 hbc_3 la lb lc hl po0 ca_0 ca_1 ca_2 ca_3 za cb_0 cb_1 cb_2 cb_3 zb cc_0 cc_1 cc_2 cc_3 zc hfw_3
          rintro w4 ⟨hfw_4, hba_4, hbb_4, hbc_4, hbx_4⟩
          obtain ⟨ca_0, ca_1, ca_2, ca_3, za⟩ := hba_4.cs
          obtain ⟨cb_0, cb_1, cb_2, cb_3, zb⟩ := hbb_4.cs
          obtain ⟨cc_0, cc_1, cc_2, cc_3, zc⟩ := hbc_4.cs
          obtain ⟨cx_0, cx_1, cx_2, cx_3, zx⟩ := hbx_4.cs
          go_wp2_with fail
          refine (HYY.out _).mono ?_
          rintro e w5 ⟨rfl, hf5⟩
          have la := hba_4.lt
          have lb := hbb_4.lt
          have lc := hbc_4.lt
          have lx := hbx_4.lt
          have hl := hfw_4.size
          have po0 := o0.out
          have hB : Bx w5 w.heap.size a ∧ Bx w5 (w.heap.size + 1) b ∧ Bx w5 (w.heap.size + 2) c ∧ Bl w5 w3.heap.size 0 0 0 := by
            refine ⟨?_, ?_, ?_, ?_⟩ <;> ((first | unfold Bx | unfold Bl | skip); refine hf5.obj (noB_not _) ?_; repeat (first | with_reducible exact hba_4.raw | with_reducible exact hbb_4.raw | with_reducible exact hbc_4.raw | with_reducible exact hbx_4.raw | (with_reducible refine obj_alloc_at ?_; simp; done) | (with_reducible apply obj_put4; omega) | (with_reducible apply obj_put1; omega) | (with_reducible refine obj_setCell_other ?_ _ _ ?_; rotate_left; (dsimp only; omega)) | with_reducible refine obj_alloc ?_ _ | with_reducible refine obj_drew ?_))
          obtain ⟨hba_5, hbb_5, hbc_5, hbx_5⟩ := hB
          have hfw_5 : Fr noB w w5 := by
            refine Fr.transN ?_ hf5
            repeat (first | with_reducible exact hfw_4 | with_reducible refine Fr.alloc ?_ _ | (with_reducible refine Fr.setCell ?_ ?_ _; rotate_left; (intro h; dsimp only at h; omega)) | with_reducible refine Fr.drew ?_ | exact hfw_4)
          clear hba_4 hbb_4 hbc_4 hbx_4 la lb lc lx hl po0 ca_0 ca_1 ca_2 ca_3 za cb_0 cb_1 cb_2 cb_3 zb cc_0 cc_1 cc_2 cc_3 zc cx_0 cx_1 cx_2 cx_3 zx hf5 hfw_4
          obtain ⟨ca_0, ca_1, ca_2, ca_3, za⟩ := hba_5.cs
          obtain ⟨cb_0, cb_1, cb_2, cb_3, zb⟩ := hbb_5.cs
          obtain ⟨cc_0, cc_1, cc_2, cc_3, zc⟩ := hbc_5.cs
          obtain ⟨cx_0, cx_1, cx_2, cx_3, zx⟩ := hbx_5.cs
          go_upto_region 5 with fail
          have o1 := Lib.hid (hbx_5.lt)
          have la := hba_5.lt
          have lb := hbb_5.lt
          have lc := hbc_5.lt
          have lx := hbx_5.lt
          have hl := hfw_5.size
          have po0 := o0.out
          have po1 := o1.out
          refine wp_world (fun W => Fr noB w W ∧ Bx W w.heap.size a ∧ Bx W (w.heap.size + 1) b ∧ Bx W (w.heap.size + 2) c ∧ Bl W w3.heap.size 0 0 0 ∧ Bl W w5.heap.size 0 0 0) ?_ ?_
          · refine ⟨?_, ?_, ?_, ?_, ?_, ?_⟩ <;> ((first | unfold Bx | unfold Bl | skip); repeat (first | with_reducible exact hfw_5 | with_reducible refine Fr.alloc ?_ _ | (with_reducible refine Fr.setCell ?_ ?_ _; rotate_left; (intro h; dsimp only at h; omega)) | with_reducible refine Fr.drew ?_ | with_reducible exact hba_5.raw | with_reducible exact hbb_5.raw | with_reducible exact hbc_5.raw | with_reducible exact hbx_5.raw | (with_reducible refine obj_alloc_at ?_; simp; done) | (with_reducible apply obj_put4; omega) | (with_reducible apply obj_put1; omega) | (with_reducible refine obj_setCell_other ?_ _ _ ?_; rotate_left; (dsimp only; omega)) | with_reducible refine obj_alloc ?_ _ | with_reducible refine obj_drew ?_ | exact hfw_5))
          clear hba_5 hbb_5 hbc_5 hbx_5 la lb lc lx hl po0 po1 ca_0 ca_1 ca_2 ca_3 za cb_0 cb_1 cb_2 cb_3 zb cc_0 cc_1 cc_2 cc_3 zc cx_0 cx_1 cx_2 cx_3 zx hfw_5
          rintro w6 ⟨hfw_6, hba_6, hbb_6, hbc_6, hbx_6, hby_6⟩
          obtain ⟨ca_0, ca_1, ca_2, ca_3, za⟩ := hba_6.cs
          obtain ⟨cb_0, cb_1, cb_2, cb_3, zb⟩ := hbb_6.cs
          obtain ⟨cc_0, cc_1, cc_2, cc_3, zc⟩ := hbc_6.cs
          obtain ⟨cx_0, cx_1, cx_2, cx_3, zx⟩ := hbx_6.cs
          obtain ⟨cy_0, cy_1, cy_2, cy_3, zy⟩ := hby_6.cs
          go_wp2_with fail
          refine (HZ.out _).mono ?_
          rintro e w7 ⟨rfl, hf7⟩
          have la := hba_6.lt
          have lb := hbb_6.lt
          have lc := hbc_6.lt
          have lx := hbx_6.lt
          have ly := hby_6.lt
          have hl := hfw_6.size
          have po0 := o0.out
          have po1 := o1.out
          have hB : Bx w7 w.heap.size a ∧ Bx w7 (w.heap.size + 1) b ∧ Bx w7 (w.heap.size + 2) c ∧ Bl w7 w3.heap.size 0 0 0 ∧ Bl w7 w5.heap.size 0 0 0 := by
            refine ⟨?_, ?_, ?_, ?_, ?_⟩ <;> ((first | unfold Bx | unfold Bl | skip); refine hf7.obj (noB_not _) ?_; repeat (first | with_reducible exact hba_6.raw | with_reducible exact hbb_6.raw | with_reducible exact hbc_6.raw | with_reducible exact hbx_6.raw | with_reducible exact hby_6.raw | (with_reducible refine obj_alloc_at ?_; simp; done) | (with_reducible apply obj_put4; omega) | (with_reducible apply obj_put1; omega) | (with_reducible refine obj_setCell_other ?_ _ _ ?_; rotate_left; (dsimp only; omega)) | with_reducible refine obj_alloc ?_ _ | with_reducible refine obj_drew ?_))
          obtain ⟨hba_7, hbb_7, hbc_7, hbx_7, hby_7⟩ := hB
          have hfw_7 : Fr noB w w7 := by
            refine Fr.transN ?_ hf7
            repeat (first | with_reducible exact hfw_6 | with_reducible refine Fr.alloc ?_ _ | (with_reducible refine Fr.setCell ?_ ?_ _; rotate_left; (intro h; dsimp only at h; omega)) | with_reducible refine Fr.drew ?_ | exact hfw_6)
          clear hba_6 hbb_6 hbc_6 hbx_6 hby_6 la lb lc lx ly hl po0 po1 ca_0 ca_1 ca_2 ca_3 za cb_0 cb_1 cb_2 cb_3 zb cc_0 cc_1 cc_2 cc_3 zc cx_0 cx_1 cx_2 cx_3 zx cy_0 cy_1 cy_2 cy_3 zy hf7 hfw_6
          obtain ⟨ca_0, ca_1, ca_2, ca_3, za⟩ := hba_7.cs
          obtain ⟨cb_0, cb_1, cb_2, cb_3, zb⟩ := hbb_7.cs
          obtain ⟨cc_0, cc_1, cc_2, cc_3, zc⟩ := hbc_7.cs
          obtain ⟨cx_0, cx_1, cx_2, cx_3, zx⟩ := hbx_7.cs
          obtain ⟨cy_0, cy_1, cy_2, cy_3, zy⟩ := hby_7.cs
          go_upto_region 6 with fail
          have o2 := Lib.hid (hby_7.lt)
          have la := hba_7.lt
          have lb := hbb_7.lt
          have lc := hbc_7.lt
          have lx := hbx_7.lt
          have ly := hby_7.lt
          have hl := hfw_7.size
          have po0 := o0.out
          have po1 := o1.out
          have po2 := o2.out
          refine wp_world (fun W => Fr noB w W ∧ Bx W w.heap.size a ∧ Bx W (w.heap.size + 1) b ∧ Bx W (w.heap.size + 2) c ∧ Bl W w3.heap.size 0 0 0 ∧ Bl W w5.heap.size 0 0 0 ∧ Bl W w7.heap.size 0 0 0) ?_ ?_
          · refine ⟨?_, ?_, ?_, ?_, ?_, ?_, ?_⟩ <;> ((first | unfold Bx | unfold Bl | skip); repeat (first | with_reducible exact hfw_7 | with_reducible refine Fr.alloc ?_ _ | (with_reducible refine Fr.setCell ?_ ?_ _; rotate_left; (intro h; dsimp only at h; omega)) | with_reducible refine Fr.drew ?_ | with_reducible exact hba_7.raw | with_reducible exact hbb_7.raw | with_reducible exact hbc_7.raw | with_reducible exact hbx_7.raw | with_reducible exact hby_7.raw | (with_reducible refine obj_alloc_at ?_; simp; done) | (with_reducible apply obj_put4; omega) | (with_reducible apply obj_put1; omega) | (with_reducible refine obj_setCell_other ?_ _ _ ?_; rotate_left; (dsimp only; omega)) | with_reducible refine obj_alloc ?_ _ | with_reducible refine obj_drew ?_ | exact hfw_7))
          clear hba_7 hbb_7 hbc_7 hbx_7 hby_7 la lb lc lx ly hl po0 po1 po2 ca_0 ca_1 ca_2 ca_3 za cb_0 cb_1 cb_2 cb_3 zb cc_0 cc_1 cc_2 cc_3 zc cx_0 cx_1 cx_2 cx_3 zx cy_0 cy_1 cy_2 cy_3 zy hfw_7
          rintro w8 ⟨hfw_8, hba_8, hbb_8, hbc_8, hbx_8, hby_8, hbz_8⟩
          obtain ⟨ca_0, ca_1, ca_2, ca_3, za⟩ := hba_8.cs
          obtain ⟨cb_0, cb_1, cb_2, cb_3, zb⟩ := hbb_8.cs
          obtain ⟨cc_0, cc_1, cc_2, cc_3, zc⟩ := hbc_8.cs
          obtain ⟨cx_0, cx_1, cx_2, cx_3, zx⟩ := hbx_8.cs
          obtain ⟨cy_0, cy_1, cy_2, cy_3, zy⟩ := hby_8.cs
          obtain ⟨cz_0, cz_1, cz_2, cz_3, zz⟩ := hbz_8.cs
          have E := fun W : World => eqv_run zV zV W
          rw [eqV_self] at E
          dsimp only [zV] at E
          clear hn2
          cases n1 : nullB a
          · have n2 : nullB b = true := by rw [n1] at hn; exact hn
            unfold nullB at n1 n2
            clear hn
            go_wp2_with fail
            have la := hba_8.lt
            have lb := hbb_8.lt
            have lc := hbc_8.lt
            have lx := hbx_8.lt
            have ly := hby_8.lt
            have lz := hbz_8.lt
            have hl := hfw_8.size
            have po0 := o0.out
            have po1 := o1.out
            have po2 := o2.out
            go_ret
            refine ⟨?_, ?_⟩
            · rfl
            · skip
              repeat (first | with_reducible exact hfw_8 | with_reducible refine Fr.alloc ?_ _ | (with_reducible refine Fr.setCell ?_ ?_ _; rotate_left; (intro h; dsimp only at h; omega)) | with_reducible refine Fr.drew ?_ | exact hfw_8)
          · unfold nullB at n1
            clear hn
            go_wp2_with fail
            have la := hba_8.lt
            have lb := hbb_8.lt
            have lc := hbc_8.lt
            have lx := hbx_8.lt
            have ly := hby_8.lt
            have lz := hbz_8.lt
            have hl := hfw_8.size
            have po0 := o0.out
            have po1 := o1.out
            have po2 := o2.out
            go_ret
            refine ⟨?_, ?_⟩
            · rfl
            · skip
              repeat (first | with_reducible exact hfw_8 | with_reducible refine Fr.alloc ?_ _ | (with_reducible refine Fr.setCell ?_ ?_ _; rotate_left; (intro h; dsimp only at h; omega)) | with_reducible refine Fr.drew ?_ | exact hfw_8)


theorem logicOrder_walk (a b c : V) (w : World) (ha : VOk a) (hb : VOk b) (hc : VOk c) :
    Calls Try.prog 3 #[vV a, vV b, vV c] w fun e w' => e = .returned (.bool true) ∧ Fr noB w w' := order_law a b c ha.n hb.n hc.n w

end Go.Proofs.Ytcncjghcnofioaa
