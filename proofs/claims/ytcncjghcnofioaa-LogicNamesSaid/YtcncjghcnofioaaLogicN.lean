/- The walks of package logic's number, Add, Sub. The condition: numbers are of 64 bits. -/
import Derived.Test.YtcncjghcnofioaaLogicB
namespace Go.Proofs.Ytcncjghcnofioaa
open Go.RowKit

def numV (a b : V) (r1 : Int) (r2 : Bool) : V × Int := if (areB 1 a && areB 1 b) = false then (zV, 60) else if (nullB a || nullB b) = true then (zV, 0) else if r2 = false then (zV, 61) else (intV r1, 0)


set_option maxRecDepth 100000 in
set_option maxHeartbeats 4000000 in
theorem number_add (a b : V) (r1 : Int) (r2 : Bool) (hdo : ∀ W : World, Calls Try.prog 66 #[.int .i64 a.n, .int .i64 b.n] W fun e w' => e = .returned (.tuple #[.int .i64 r1, .bool r2]) ∧ Fr noB W w') (w : World) :
    Calls Try.prog 65 #[vV a, vV b, .func (.func 66) #[] #[]] w fun e w' => e = .returned (.tuple #[vV (numV a b r1 r2).1, .int .i64 (numV a b r1 r2).2]) ∧ Fr noB w w' := by
  obtain ⟨hb0, hb1, hb3, hsz⟩ := trio_new w (.cells #[.int .u8 a.k, .int .i64 a.n, .int .i64 a.hi, .string a.t] 23) (.cells #[.int .u8 b.k, .int .i64 b.n, .int .i64 b.hi, .string b.t] 23) (.cells #[.int .u8 0, .int .i64 0, .int .i64 0, .string ⟨#[]⟩] 23)
  have hfw : Fr noB w (((w.alloc (.cells #[.int .u8 a.k, .int .i64 a.n, .int .i64 a.hi, .string a.t] 23)).alloc (.cells #[.int .u8 b.k, .int .i64 b.n, .int .i64 b.hi, .string b.t] 23)).alloc (.cells #[.int .u8 0, .int .i64 0, .int .i64 0, .string ⟨#[]⟩] 23)) := (((Fr.refl _ _).alloc _).alloc _).alloc _
  have HDO := Lib.hid hdo
  clear hdo
  unfold vV
  go_enter Try.func65, Try.ntmps65
  go_upto_region 1 with fail
  generalize (((w.alloc (.cells #[.int .u8 a.k, .int .i64 a.n, .int .i64 a.hi, .string a.t] 23)).alloc (.cells #[.int .u8 b.k, .int .i64 b.n, .int .i64 b.hi, .string b.t] 23)).alloc (.cells #[.int .u8 0, .int .i64 0, .int .i64 0, .string ⟨#[]⟩] 23)) = W0 at *
  obtain ⟨c0, c1, c2, c3⟩ := v_cells hb0
  obtain ⟨d0, d1, d2, d3⟩ := v_cells hb1
  cases har : areB 1 a && areB 1 b
  · have HR := Lib.hid (show numV a b r1 r2 = (zV, 60) by unfold numV; rw [if_pos har])
    have HAR := Lib.hid har
    clear har
    go_wp2_with fail
    refine (are2_any a b 1 (w.heap.size + 3) _ _ false HAR.out (by have := obj_alloc_new W0 (.cells #[.int .u8 a.k, .int .i64 a.n, .int .i64 a.hi, .string a.t, .int .u8 b.k, .int .i64 b.n, .int .i64 b.hi, .string b.t] 23); rw [hsz] at this; exact this)).mono ?_
    rintro e w1 ⟨rfl, hf1⟩
    have hf1 : Fr noB W0 w1 := ((Fr.refl noB W0).alloc _).trans hf1
    have hb0 := hf1.obj (fun x => x) hb0
    have hb1 := hf1.obj (fun x => x) hb1
    have hb3 := hf1.obj (fun x => x) hb3
    obtain ⟨c0, c1, c2, c3⟩ := v_cells hb0
    obtain ⟨d0, d1, d2, d3⟩ := v_cells hb1
    have hz := frozen_of_obj hb3
    obtain ⟨z0, z1, z2, z3⟩ := v_cells (v := zV) hb3
    simp only [zV] at z0 z1 z2 z3
    have hfw := hfw.trans hf1
    clear hf1
    go_wp2_with fail
    refine bodyPost_ret (ret_val2 rfl _ _ (w.heap.size + 2) zV _ rfl rfl ?_) rfl ⟨?_, ?_⟩
    · exact obj_setCell (obj_setCell (obj_setCell (obj_setCell hb3 0 _) 1 _) 2 _) 3 _
    · rw [HR.out] <;> rfl
    · exact ((((hfw.setCell (fun h => by dsimp only at h; omega) _).setCell (fun h => by dsimp only at h; omega) _).setCell (fun h => by dsimp only at h; omega) _).setCell (fun h => by dsimp only at h; omega) _)
  · have HAR := Lib.hid har
    go_wp2_with fail
    refine (are2_any a b 1 (w.heap.size + 3) _ _ true HAR.out (by have := obj_alloc_new W0 (.cells #[.int .u8 a.k, .int .i64 a.n, .int .i64 a.hi, .string a.t, .int .u8 b.k, .int .i64 b.n, .int .i64 b.hi, .string b.t] 23); rw [hsz] at this; exact this)).mono ?_
    rintro e w1 ⟨rfl, hf1⟩
    have hf1 : Fr noB W0 w1 := ((Fr.refl noB W0).alloc _).trans hf1
    have hb0 := hf1.obj (fun x => x) hb0
    have hb1 := hf1.obj (fun x => x) hb1
    have hb3 := hf1.obj (fun x => x) hb3
    obtain ⟨c0, c1, c2, c3⟩ := v_cells hb0
    obtain ⟨d0, d1, d2, d3⟩ := v_cells hb1
    have hz := frozen_of_obj hb3
    obtain ⟨z0, z1, z2, z3⟩ := v_cells (v := zV) hb3
    simp only [zV] at z0 z1 z2 z3
    have hfw := hfw.trans hf1
    clear hf1
    cases hnl : nullB a || nullB b
    · have HNL := Lib.hid hnl
      cases r2
      · have HR := Lib.hid (show numV a b r1 false = (zV, 61) by unfold numV; rw [if_neg (by rw [har]; decide), if_neg (by rw [hnl]; decide), if_pos rfl])
        clear hnl har
        go_wp2_with fail
        refine (null2_any a b w1.heap.size _ _ false HNL.out (obj_alloc_new _ _)).mono ?_
        rintro e w2 ⟨rfl, hf2⟩
        have hf2 : Fr noB w1 w2 := ((Fr.refl noB w1).alloc _).trans hf2
        have hb0 := hf2.obj (fun x => x) hb0
        have hb1 := hf2.obj (fun x => x) hb1
        have hb3 := hf2.obj (fun x => x) hb3
        obtain ⟨c0, c1, c2, c3⟩ := v_cells hb0
        obtain ⟨d0, d1, d2, d3⟩ := v_cells hb1
        have hz := frozen_of_obj hb3
        obtain ⟨z0, z1, z2, z3⟩ := v_cells (v := zV) hb3
        simp only [zV] at z0 z1 z2 z3
        have hfw := hfw.trans hf2
        clear hf2
        go_wp2_with fail
        refine (HDO.out _).mono ?_
        rintro e w3 ⟨rfl, hf3⟩
        have hb0 := hf3.obj (fun x => x) hb0
        have hb1 := hf3.obj (fun x => x) hb1
        have hb3 := hf3.obj (fun x => x) hb3
        obtain ⟨c0, c1, c2, c3⟩ := v_cells hb0
        obtain ⟨d0, d1, d2, d3⟩ := v_cells hb1
        have hz := frozen_of_obj hb3
        obtain ⟨z0, z1, z2, z3⟩ := v_cells (v := zV) hb3
        simp only [zV] at z0 z1 z2 z3
        have hfw := hfw.trans hf3
        clear hf3
        go_wp2_with fail
        refine bodyPost_ret (ret_val2 rfl _ _ (w.heap.size + 2) zV _ rfl rfl ?_) rfl ⟨?_, ?_⟩
        · exact obj_setCell (obj_setCell (obj_setCell (obj_setCell hb3 0 _) 1 _) 2 _) 3 _
        · rw [HR.out] <;> rfl
        · exact ((((hfw.setCell (fun h => by dsimp only at h; omega) _).setCell (fun h => by dsimp only at h; omega) _).setCell (fun h => by dsimp only at h; omega) _).setCell (fun h => by dsimp only at h; omega) _)
      · have HR := Lib.hid (show numV a b r1 true = (intV r1, 0) by unfold numV; rw [if_neg (by rw [har]; decide), if_neg (by rw [hnl]; decide), if_neg (by decide)])
        clear hnl har
        go_wp2_with fail
        refine (null2_any a b w1.heap.size _ _ false HNL.out (obj_alloc_new _ _)).mono ?_
        rintro e w2 ⟨rfl, hf2⟩
        have hf2 : Fr noB w1 w2 := ((Fr.refl noB w1).alloc _).trans hf2
        have hb0 := hf2.obj (fun x => x) hb0
        have hb1 := hf2.obj (fun x => x) hb1
        have hb3 := hf2.obj (fun x => x) hb3
        obtain ⟨c0, c1, c2, c3⟩ := v_cells hb0
        obtain ⟨d0, d1, d2, d3⟩ := v_cells hb1
        have hz := frozen_of_obj hb3
        obtain ⟨z0, z1, z2, z3⟩ := v_cells (v := zV) hb3
        simp only [zV] at z0 z1 z2 z3
        have hfw := hfw.trans hf2
        clear hf2
        go_wp2_with fail
        refine (HDO.out _).mono ?_
        rintro e w3 ⟨rfl, hf3⟩
        have hb0 := hf3.obj (fun x => x) hb0
        have hb1 := hf3.obj (fun x => x) hb1
        have hb3 := hf3.obj (fun x => x) hb3
        obtain ⟨c0, c1, c2, c3⟩ := v_cells hb0
        obtain ⟨d0, d1, d2, d3⟩ := v_cells hb1
        have hz := frozen_of_obj hb3
        obtain ⟨z0, z1, z2, z3⟩ := v_cells (v := zV) hb3
        simp only [zV] at z0 z1 z2 z3
        have hfw := hfw.trans hf3
        clear hf3
        go_wp2_with fail
        refine (int_any _ _).mono ?_
        rintro e w4 ⟨rfl, hf4⟩
        have hb0 := hf4.obj (fun x => x) hb0
        have hb1 := hf4.obj (fun x => x) hb1
        have hb3 := hf4.obj (fun x => x) hb3
        obtain ⟨c0, c1, c2, c3⟩ := v_cells hb0
        obtain ⟨d0, d1, d2, d3⟩ := v_cells hb1
        have hz := frozen_of_obj hb3
        obtain ⟨z0, z1, z2, z3⟩ := v_cells (v := zV) hb3
        simp only [zV] at z0 z1 z2 z3
        have hfw := hfw.trans hf4
        clear hf4
        unfold vV
        go_wp2_with fail
        refine bodyPost_ret (ret_val2 rfl _ _ (w.heap.size + 2) (intV r1) _ rfl rfl ?_) rfl ⟨?_, ?_⟩
        · exact obj_setCell (obj_setCell (obj_setCell (obj_setCell hb3 0 _) 1 _) 2 _) 3 _
        · rw [HR.out] <;> rfl
        · exact ((((hfw.setCell (fun h => by dsimp only at h; omega) _).setCell (fun h => by dsimp only at h; omega) _).setCell (fun h => by dsimp only at h; omega) _).setCell (fun h => by dsimp only at h; omega) _)
    · have HR := Lib.hid (show numV a b r1 r2 = (zV, 0) by unfold numV; rw [if_neg (by rw [har]; decide), if_pos hnl])
      have HNL := Lib.hid hnl
      clear hnl har
      go_wp2_with fail
      refine (null2_any a b w1.heap.size _ _ true HNL.out (obj_alloc_new _ _)).mono ?_
      rintro e w2 ⟨rfl, hf2⟩
      have hf2 : Fr noB w1 w2 := ((Fr.refl noB w1).alloc _).trans hf2
      have hb0 := hf2.obj (fun x => x) hb0
      have hb1 := hf2.obj (fun x => x) hb1
      have hb3 := hf2.obj (fun x => x) hb3
      obtain ⟨c0, c1, c2, c3⟩ := v_cells hb0
      obtain ⟨d0, d1, d2, d3⟩ := v_cells hb1
      have hz := frozen_of_obj hb3
      obtain ⟨z0, z1, z2, z3⟩ := v_cells (v := zV) hb3
      simp only [zV] at z0 z1 z2 z3
      have hfw := hfw.trans hf2
      clear hf2
      go_wp2_with fail
      refine bodyPost_ret (ret_val2 rfl _ _ (w.heap.size + 2) zV _ rfl rfl ?_) rfl ⟨?_, ?_⟩
      · exact obj_setCell (obj_setCell (obj_setCell (obj_setCell hb3 0 _) 1 _) 2 _) 3 _
      · rw [HR.out] <;> rfl
      · exact ((((hfw.setCell (fun h => by dsimp only at h; omega) _).setCell (fun h => by dsimp only at h; omega) _).setCell (fun h => by dsimp only at h; omega) _).setCell (fun h => by dsimp only at h; omega) _)

set_option maxRecDepth 100000 in
set_option maxHeartbeats 4000000 in
theorem number_sub (a b : V) (r1 : Int) (r2 : Bool) (hdo : ∀ W : World, Calls Try.prog 67 #[.int .i64 a.n, .int .i64 b.n] W fun e w' => e = .returned (.tuple #[.int .i64 r1, .bool r2]) ∧ Fr noB W w') (w : World) :
    Calls Try.prog 65 #[vV a, vV b, .func (.func 67) #[] #[]] w fun e w' => e = .returned (.tuple #[vV (numV a b r1 r2).1, .int .i64 (numV a b r1 r2).2]) ∧ Fr noB w w' := by
  obtain ⟨hb0, hb1, hb3, hsz⟩ := trio_new w (.cells #[.int .u8 a.k, .int .i64 a.n, .int .i64 a.hi, .string a.t] 23) (.cells #[.int .u8 b.k, .int .i64 b.n, .int .i64 b.hi, .string b.t] 23) (.cells #[.int .u8 0, .int .i64 0, .int .i64 0, .string ⟨#[]⟩] 23)
  have hfw : Fr noB w (((w.alloc (.cells #[.int .u8 a.k, .int .i64 a.n, .int .i64 a.hi, .string a.t] 23)).alloc (.cells #[.int .u8 b.k, .int .i64 b.n, .int .i64 b.hi, .string b.t] 23)).alloc (.cells #[.int .u8 0, .int .i64 0, .int .i64 0, .string ⟨#[]⟩] 23)) := (((Fr.refl _ _).alloc _).alloc _).alloc _
  have HDO := Lib.hid hdo
  clear hdo
  unfold vV
  go_enter Try.func65, Try.ntmps65
  go_upto_region 1 with fail
  generalize (((w.alloc (.cells #[.int .u8 a.k, .int .i64 a.n, .int .i64 a.hi, .string a.t] 23)).alloc (.cells #[.int .u8 b.k, .int .i64 b.n, .int .i64 b.hi, .string b.t] 23)).alloc (.cells #[.int .u8 0, .int .i64 0, .int .i64 0, .string ⟨#[]⟩] 23)) = W0 at *
  obtain ⟨c0, c1, c2, c3⟩ := v_cells hb0
  obtain ⟨d0, d1, d2, d3⟩ := v_cells hb1
  cases har : areB 1 a && areB 1 b
  · have HR := Lib.hid (show numV a b r1 r2 = (zV, 60) by unfold numV; rw [if_pos har])
    have HAR := Lib.hid har
    clear har
    go_wp2_with fail
    refine (are2_any a b 1 (w.heap.size + 3) _ _ false HAR.out (by have := obj_alloc_new W0 (.cells #[.int .u8 a.k, .int .i64 a.n, .int .i64 a.hi, .string a.t, .int .u8 b.k, .int .i64 b.n, .int .i64 b.hi, .string b.t] 23); rw [hsz] at this; exact this)).mono ?_
    rintro e w1 ⟨rfl, hf1⟩
    have hf1 : Fr noB W0 w1 := ((Fr.refl noB W0).alloc _).trans hf1
    have hb0 := hf1.obj (fun x => x) hb0
    have hb1 := hf1.obj (fun x => x) hb1
    have hb3 := hf1.obj (fun x => x) hb3
    obtain ⟨c0, c1, c2, c3⟩ := v_cells hb0
    obtain ⟨d0, d1, d2, d3⟩ := v_cells hb1
    have hz := frozen_of_obj hb3
    obtain ⟨z0, z1, z2, z3⟩ := v_cells (v := zV) hb3
    simp only [zV] at z0 z1 z2 z3
    have hfw := hfw.trans hf1
    clear hf1
    go_wp2_with fail
    refine bodyPost_ret (ret_val2 rfl _ _ (w.heap.size + 2) zV _ rfl rfl ?_) rfl ⟨?_, ?_⟩
    · exact obj_setCell (obj_setCell (obj_setCell (obj_setCell hb3 0 _) 1 _) 2 _) 3 _
    · rw [HR.out] <;> rfl
    · exact ((((hfw.setCell (fun h => by dsimp only at h; omega) _).setCell (fun h => by dsimp only at h; omega) _).setCell (fun h => by dsimp only at h; omega) _).setCell (fun h => by dsimp only at h; omega) _)
  · have HAR := Lib.hid har
    go_wp2_with fail
    refine (are2_any a b 1 (w.heap.size + 3) _ _ true HAR.out (by have := obj_alloc_new W0 (.cells #[.int .u8 a.k, .int .i64 a.n, .int .i64 a.hi, .string a.t, .int .u8 b.k, .int .i64 b.n, .int .i64 b.hi, .string b.t] 23); rw [hsz] at this; exact this)).mono ?_
    rintro e w1 ⟨rfl, hf1⟩
    have hf1 : Fr noB W0 w1 := ((Fr.refl noB W0).alloc _).trans hf1
    have hb0 := hf1.obj (fun x => x) hb0
    have hb1 := hf1.obj (fun x => x) hb1
    have hb3 := hf1.obj (fun x => x) hb3
    obtain ⟨c0, c1, c2, c3⟩ := v_cells hb0
    obtain ⟨d0, d1, d2, d3⟩ := v_cells hb1
    have hz := frozen_of_obj hb3
    obtain ⟨z0, z1, z2, z3⟩ := v_cells (v := zV) hb3
    simp only [zV] at z0 z1 z2 z3
    have hfw := hfw.trans hf1
    clear hf1
    cases hnl : nullB a || nullB b
    · have HNL := Lib.hid hnl
      cases r2
      · have HR := Lib.hid (show numV a b r1 false = (zV, 61) by unfold numV; rw [if_neg (by rw [har]; decide), if_neg (by rw [hnl]; decide), if_pos rfl])
        clear hnl har
        go_wp2_with fail
        refine (null2_any a b w1.heap.size _ _ false HNL.out (obj_alloc_new _ _)).mono ?_
        rintro e w2 ⟨rfl, hf2⟩
        have hf2 : Fr noB w1 w2 := ((Fr.refl noB w1).alloc _).trans hf2
        have hb0 := hf2.obj (fun x => x) hb0
        have hb1 := hf2.obj (fun x => x) hb1
        have hb3 := hf2.obj (fun x => x) hb3
        obtain ⟨c0, c1, c2, c3⟩ := v_cells hb0
        obtain ⟨d0, d1, d2, d3⟩ := v_cells hb1
        have hz := frozen_of_obj hb3
        obtain ⟨z0, z1, z2, z3⟩ := v_cells (v := zV) hb3
        simp only [zV] at z0 z1 z2 z3
        have hfw := hfw.trans hf2
        clear hf2
        go_wp2_with fail
        refine (HDO.out _).mono ?_
        rintro e w3 ⟨rfl, hf3⟩
        have hb0 := hf3.obj (fun x => x) hb0
        have hb1 := hf3.obj (fun x => x) hb1
        have hb3 := hf3.obj (fun x => x) hb3
        obtain ⟨c0, c1, c2, c3⟩ := v_cells hb0
        obtain ⟨d0, d1, d2, d3⟩ := v_cells hb1
        have hz := frozen_of_obj hb3
        obtain ⟨z0, z1, z2, z3⟩ := v_cells (v := zV) hb3
        simp only [zV] at z0 z1 z2 z3
        have hfw := hfw.trans hf3
        clear hf3
        go_wp2_with fail
        refine bodyPost_ret (ret_val2 rfl _ _ (w.heap.size + 2) zV _ rfl rfl ?_) rfl ⟨?_, ?_⟩
        · exact obj_setCell (obj_setCell (obj_setCell (obj_setCell hb3 0 _) 1 _) 2 _) 3 _
        · rw [HR.out] <;> rfl
        · exact ((((hfw.setCell (fun h => by dsimp only at h; omega) _).setCell (fun h => by dsimp only at h; omega) _).setCell (fun h => by dsimp only at h; omega) _).setCell (fun h => by dsimp only at h; omega) _)
      · have HR := Lib.hid (show numV a b r1 true = (intV r1, 0) by unfold numV; rw [if_neg (by rw [har]; decide), if_neg (by rw [hnl]; decide), if_neg (by decide)])
        clear hnl har
        go_wp2_with fail
        refine (null2_any a b w1.heap.size _ _ false HNL.out (obj_alloc_new _ _)).mono ?_
        rintro e w2 ⟨rfl, hf2⟩
        have hf2 : Fr noB w1 w2 := ((Fr.refl noB w1).alloc _).trans hf2
        have hb0 := hf2.obj (fun x => x) hb0
        have hb1 := hf2.obj (fun x => x) hb1
        have hb3 := hf2.obj (fun x => x) hb3
        obtain ⟨c0, c1, c2, c3⟩ := v_cells hb0
        obtain ⟨d0, d1, d2, d3⟩ := v_cells hb1
        have hz := frozen_of_obj hb3
        obtain ⟨z0, z1, z2, z3⟩ := v_cells (v := zV) hb3
        simp only [zV] at z0 z1 z2 z3
        have hfw := hfw.trans hf2
        clear hf2
        go_wp2_with fail
        refine (HDO.out _).mono ?_
        rintro e w3 ⟨rfl, hf3⟩
        have hb0 := hf3.obj (fun x => x) hb0
        have hb1 := hf3.obj (fun x => x) hb1
        have hb3 := hf3.obj (fun x => x) hb3
        obtain ⟨c0, c1, c2, c3⟩ := v_cells hb0
        obtain ⟨d0, d1, d2, d3⟩ := v_cells hb1
        have hz := frozen_of_obj hb3
        obtain ⟨z0, z1, z2, z3⟩ := v_cells (v := zV) hb3
        simp only [zV] at z0 z1 z2 z3
        have hfw := hfw.trans hf3
        clear hf3
        go_wp2_with fail
        refine (int_any _ _).mono ?_
        rintro e w4 ⟨rfl, hf4⟩
        have hb0 := hf4.obj (fun x => x) hb0
        have hb1 := hf4.obj (fun x => x) hb1
        have hb3 := hf4.obj (fun x => x) hb3
        obtain ⟨c0, c1, c2, c3⟩ := v_cells hb0
        obtain ⟨d0, d1, d2, d3⟩ := v_cells hb1
        have hz := frozen_of_obj hb3
        obtain ⟨z0, z1, z2, z3⟩ := v_cells (v := zV) hb3
        simp only [zV] at z0 z1 z2 z3
        have hfw := hfw.trans hf4
        clear hf4
        unfold vV
        go_wp2_with fail
        refine bodyPost_ret (ret_val2 rfl _ _ (w.heap.size + 2) (intV r1) _ rfl rfl ?_) rfl ⟨?_, ?_⟩
        · exact obj_setCell (obj_setCell (obj_setCell (obj_setCell hb3 0 _) 1 _) 2 _) 3 _
        · rw [HR.out] <;> rfl
        · exact ((((hfw.setCell (fun h => by dsimp only at h; omega) _).setCell (fun h => by dsimp only at h; omega) _).setCell (fun h => by dsimp only at h; omega) _).setCell (fun h => by dsimp only at h; omega) _)
    · have HR := Lib.hid (show numV a b r1 r2 = (zV, 0) by unfold numV; rw [if_neg (by rw [har]; decide), if_pos hnl])
      have HNL := Lib.hid hnl
      clear hnl har
      go_wp2_with fail
      refine (null2_any a b w1.heap.size _ _ true HNL.out (obj_alloc_new _ _)).mono ?_
      rintro e w2 ⟨rfl, hf2⟩
      have hf2 : Fr noB w1 w2 := ((Fr.refl noB w1).alloc _).trans hf2
      have hb0 := hf2.obj (fun x => x) hb0
      have hb1 := hf2.obj (fun x => x) hb1
      have hb3 := hf2.obj (fun x => x) hb3
      obtain ⟨c0, c1, c2, c3⟩ := v_cells hb0
      obtain ⟨d0, d1, d2, d3⟩ := v_cells hb1
      have hz := frozen_of_obj hb3
      obtain ⟨z0, z1, z2, z3⟩ := v_cells (v := zV) hb3
      simp only [zV] at z0 z1 z2 z3
      have hfw := hfw.trans hf2
      clear hf2
      go_wp2_with fail
      refine bodyPost_ret (ret_val2 rfl _ _ (w.heap.size + 2) zV _ rfl rfl ?_) rfl ⟨?_, ?_⟩
      · exact obj_setCell (obj_setCell (obj_setCell (obj_setCell hb3 0 _) 1 _) 2 _) 3 _
      · rw [HR.out] <;> rfl
      · exact ((((hfw.setCell (fun h => by dsimp only at h; omega) _).setCell (fun h => by dsimp only at h; omega) _).setCell (fun h => by dsimp only at h; omega) _).setCell (fun h => by dsimp only at h; omega) _)

set_option maxRecDepth 100000 in
set_option maxHeartbeats 4000000 in
theorem number_mul (a b : V) (r1 : Int) (r2 : Bool) (hdo : ∀ W : World, Calls Try.prog 68 #[.int .i64 a.n, .int .i64 b.n] W fun e w' => e = .returned (.tuple #[.int .i64 r1, .bool r2]) ∧ Fr noB W w') (w : World) :
    Calls Try.prog 65 #[vV a, vV b, .func (.func 68) #[] #[]] w fun e w' => e = .returned (.tuple #[vV (numV a b r1 r2).1, .int .i64 (numV a b r1 r2).2]) ∧ Fr noB w w' := by
  obtain ⟨hb0, hb1, hb3, hsz⟩ := trio_new w (.cells #[.int .u8 a.k, .int .i64 a.n, .int .i64 a.hi, .string a.t] 23) (.cells #[.int .u8 b.k, .int .i64 b.n, .int .i64 b.hi, .string b.t] 23) (.cells #[.int .u8 0, .int .i64 0, .int .i64 0, .string ⟨#[]⟩] 23)
  have hfw : Fr noB w (((w.alloc (.cells #[.int .u8 a.k, .int .i64 a.n, .int .i64 a.hi, .string a.t] 23)).alloc (.cells #[.int .u8 b.k, .int .i64 b.n, .int .i64 b.hi, .string b.t] 23)).alloc (.cells #[.int .u8 0, .int .i64 0, .int .i64 0, .string ⟨#[]⟩] 23)) := (((Fr.refl _ _).alloc _).alloc _).alloc _
  have HDO := Lib.hid hdo
  clear hdo
  unfold vV
  go_enter Try.func65, Try.ntmps65
  go_upto_region 1 with fail
  generalize (((w.alloc (.cells #[.int .u8 a.k, .int .i64 a.n, .int .i64 a.hi, .string a.t] 23)).alloc (.cells #[.int .u8 b.k, .int .i64 b.n, .int .i64 b.hi, .string b.t] 23)).alloc (.cells #[.int .u8 0, .int .i64 0, .int .i64 0, .string ⟨#[]⟩] 23)) = W0 at *
  obtain ⟨c0, c1, c2, c3⟩ := v_cells hb0
  obtain ⟨d0, d1, d2, d3⟩ := v_cells hb1
  cases har : areB 1 a && areB 1 b
  · have HR := Lib.hid (show numV a b r1 r2 = (zV, 60) by unfold numV; rw [if_pos har])
    have HAR := Lib.hid har
    clear har
    go_wp2_with fail
    refine (are2_any a b 1 (w.heap.size + 3) _ _ false HAR.out (by have := obj_alloc_new W0 (.cells #[.int .u8 a.k, .int .i64 a.n, .int .i64 a.hi, .string a.t, .int .u8 b.k, .int .i64 b.n, .int .i64 b.hi, .string b.t] 23); rw [hsz] at this; exact this)).mono ?_
    rintro e w1 ⟨rfl, hf1⟩
    have hf1 : Fr noB W0 w1 := ((Fr.refl noB W0).alloc _).trans hf1
    have hb0 := hf1.obj (fun x => x) hb0
    have hb1 := hf1.obj (fun x => x) hb1
    have hb3 := hf1.obj (fun x => x) hb3
    obtain ⟨c0, c1, c2, c3⟩ := v_cells hb0
    obtain ⟨d0, d1, d2, d3⟩ := v_cells hb1
    have hz := frozen_of_obj hb3
    obtain ⟨z0, z1, z2, z3⟩ := v_cells (v := zV) hb3
    simp only [zV] at z0 z1 z2 z3
    have hfw := hfw.trans hf1
    clear hf1
    go_wp2_with fail
    refine bodyPost_ret (ret_val2 rfl _ _ (w.heap.size + 2) zV _ rfl rfl ?_) rfl ⟨?_, ?_⟩
    · exact obj_setCell (obj_setCell (obj_setCell (obj_setCell hb3 0 _) 1 _) 2 _) 3 _
    · rw [HR.out] <;> rfl
    · exact ((((hfw.setCell (fun h => by dsimp only at h; omega) _).setCell (fun h => by dsimp only at h; omega) _).setCell (fun h => by dsimp only at h; omega) _).setCell (fun h => by dsimp only at h; omega) _)
  · have HAR := Lib.hid har
    go_wp2_with fail
    refine (are2_any a b 1 (w.heap.size + 3) _ _ true HAR.out (by have := obj_alloc_new W0 (.cells #[.int .u8 a.k, .int .i64 a.n, .int .i64 a.hi, .string a.t, .int .u8 b.k, .int .i64 b.n, .int .i64 b.hi, .string b.t] 23); rw [hsz] at this; exact this)).mono ?_
    rintro e w1 ⟨rfl, hf1⟩
    have hf1 : Fr noB W0 w1 := ((Fr.refl noB W0).alloc _).trans hf1
    have hb0 := hf1.obj (fun x => x) hb0
    have hb1 := hf1.obj (fun x => x) hb1
    have hb3 := hf1.obj (fun x => x) hb3
    obtain ⟨c0, c1, c2, c3⟩ := v_cells hb0
    obtain ⟨d0, d1, d2, d3⟩ := v_cells hb1
    have hz := frozen_of_obj hb3
    obtain ⟨z0, z1, z2, z3⟩ := v_cells (v := zV) hb3
    simp only [zV] at z0 z1 z2 z3
    have hfw := hfw.trans hf1
    clear hf1
    cases hnl : nullB a || nullB b
    · have HNL := Lib.hid hnl
      cases r2
      · have HR := Lib.hid (show numV a b r1 false = (zV, 61) by unfold numV; rw [if_neg (by rw [har]; decide), if_neg (by rw [hnl]; decide), if_pos rfl])
        clear hnl har
        go_wp2_with fail
        refine (null2_any a b w1.heap.size _ _ false HNL.out (obj_alloc_new _ _)).mono ?_
        rintro e w2 ⟨rfl, hf2⟩
        have hf2 : Fr noB w1 w2 := ((Fr.refl noB w1).alloc _).trans hf2
        have hb0 := hf2.obj (fun x => x) hb0
        have hb1 := hf2.obj (fun x => x) hb1
        have hb3 := hf2.obj (fun x => x) hb3
        obtain ⟨c0, c1, c2, c3⟩ := v_cells hb0
        obtain ⟨d0, d1, d2, d3⟩ := v_cells hb1
        have hz := frozen_of_obj hb3
        obtain ⟨z0, z1, z2, z3⟩ := v_cells (v := zV) hb3
        simp only [zV] at z0 z1 z2 z3
        have hfw := hfw.trans hf2
        clear hf2
        go_wp2_with fail
        refine (HDO.out _).mono ?_
        rintro e w3 ⟨rfl, hf3⟩
        have hb0 := hf3.obj (fun x => x) hb0
        have hb1 := hf3.obj (fun x => x) hb1
        have hb3 := hf3.obj (fun x => x) hb3
        obtain ⟨c0, c1, c2, c3⟩ := v_cells hb0
        obtain ⟨d0, d1, d2, d3⟩ := v_cells hb1
        have hz := frozen_of_obj hb3
        obtain ⟨z0, z1, z2, z3⟩ := v_cells (v := zV) hb3
        simp only [zV] at z0 z1 z2 z3
        have hfw := hfw.trans hf3
        clear hf3
        go_wp2_with fail
        refine bodyPost_ret (ret_val2 rfl _ _ (w.heap.size + 2) zV _ rfl rfl ?_) rfl ⟨?_, ?_⟩
        · exact obj_setCell (obj_setCell (obj_setCell (obj_setCell hb3 0 _) 1 _) 2 _) 3 _
        · rw [HR.out] <;> rfl
        · exact ((((hfw.setCell (fun h => by dsimp only at h; omega) _).setCell (fun h => by dsimp only at h; omega) _).setCell (fun h => by dsimp only at h; omega) _).setCell (fun h => by dsimp only at h; omega) _)
      · have HR := Lib.hid (show numV a b r1 true = (intV r1, 0) by unfold numV; rw [if_neg (by rw [har]; decide), if_neg (by rw [hnl]; decide), if_neg (by decide)])
        clear hnl har
        go_wp2_with fail
        refine (null2_any a b w1.heap.size _ _ false HNL.out (obj_alloc_new _ _)).mono ?_
        rintro e w2 ⟨rfl, hf2⟩
        have hf2 : Fr noB w1 w2 := ((Fr.refl noB w1).alloc _).trans hf2
        have hb0 := hf2.obj (fun x => x) hb0
        have hb1 := hf2.obj (fun x => x) hb1
        have hb3 := hf2.obj (fun x => x) hb3
        obtain ⟨c0, c1, c2, c3⟩ := v_cells hb0
        obtain ⟨d0, d1, d2, d3⟩ := v_cells hb1
        have hz := frozen_of_obj hb3
        obtain ⟨z0, z1, z2, z3⟩ := v_cells (v := zV) hb3
        simp only [zV] at z0 z1 z2 z3
        have hfw := hfw.trans hf2
        clear hf2
        go_wp2_with fail
        refine (HDO.out _).mono ?_
        rintro e w3 ⟨rfl, hf3⟩
        have hb0 := hf3.obj (fun x => x) hb0
        have hb1 := hf3.obj (fun x => x) hb1
        have hb3 := hf3.obj (fun x => x) hb3
        obtain ⟨c0, c1, c2, c3⟩ := v_cells hb0
        obtain ⟨d0, d1, d2, d3⟩ := v_cells hb1
        have hz := frozen_of_obj hb3
        obtain ⟨z0, z1, z2, z3⟩ := v_cells (v := zV) hb3
        simp only [zV] at z0 z1 z2 z3
        have hfw := hfw.trans hf3
        clear hf3
        go_wp2_with fail
        refine (int_any _ _).mono ?_
        rintro e w4 ⟨rfl, hf4⟩
        have hb0 := hf4.obj (fun x => x) hb0
        have hb1 := hf4.obj (fun x => x) hb1
        have hb3 := hf4.obj (fun x => x) hb3
        obtain ⟨c0, c1, c2, c3⟩ := v_cells hb0
        obtain ⟨d0, d1, d2, d3⟩ := v_cells hb1
        have hz := frozen_of_obj hb3
        obtain ⟨z0, z1, z2, z3⟩ := v_cells (v := zV) hb3
        simp only [zV] at z0 z1 z2 z3
        have hfw := hfw.trans hf4
        clear hf4
        unfold vV
        go_wp2_with fail
        refine bodyPost_ret (ret_val2 rfl _ _ (w.heap.size + 2) (intV r1) _ rfl rfl ?_) rfl ⟨?_, ?_⟩
        · exact obj_setCell (obj_setCell (obj_setCell (obj_setCell hb3 0 _) 1 _) 2 _) 3 _
        · rw [HR.out] <;> rfl
        · exact ((((hfw.setCell (fun h => by dsimp only at h; omega) _).setCell (fun h => by dsimp only at h; omega) _).setCell (fun h => by dsimp only at h; omega) _).setCell (fun h => by dsimp only at h; omega) _)
    · have HR := Lib.hid (show numV a b r1 r2 = (zV, 0) by unfold numV; rw [if_neg (by rw [har]; decide), if_pos hnl])
      have HNL := Lib.hid hnl
      clear hnl har
      go_wp2_with fail
      refine (null2_any a b w1.heap.size _ _ true HNL.out (obj_alloc_new _ _)).mono ?_
      rintro e w2 ⟨rfl, hf2⟩
      have hf2 : Fr noB w1 w2 := ((Fr.refl noB w1).alloc _).trans hf2
      have hb0 := hf2.obj (fun x => x) hb0
      have hb1 := hf2.obj (fun x => x) hb1
      have hb3 := hf2.obj (fun x => x) hb3
      obtain ⟨c0, c1, c2, c3⟩ := v_cells hb0
      obtain ⟨d0, d1, d2, d3⟩ := v_cells hb1
      have hz := frozen_of_obj hb3
      obtain ⟨z0, z1, z2, z3⟩ := v_cells (v := zV) hb3
      simp only [zV] at z0 z1 z2 z3
      have hfw := hfw.trans hf2
      clear hf2
      go_wp2_with fail
      refine bodyPost_ret (ret_val2 rfl _ _ (w.heap.size + 2) zV _ rfl rfl ?_) rfl ⟨?_, ?_⟩
      · exact obj_setCell (obj_setCell (obj_setCell (obj_setCell hb3 0 _) 1 _) 2 _) 3 _
      · rw [HR.out] <;> rfl
      · exact ((((hfw.setCell (fun h => by dsimp only at h; omega) _).setCell (fun h => by dsimp only at h; omega) _).setCell (fun h => by dsimp only at h; omega) _).setCell (fun h => by dsimp only at h; omega) _)

end Go.Proofs.Ytcncjghcnofioaa
