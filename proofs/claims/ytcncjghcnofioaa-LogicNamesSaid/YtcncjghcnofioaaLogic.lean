/- The walks of package logic's Not, And, Or. No condition. -/
import Derived.Test.YtcncjghcnofioaaVal
import Derived.Test.YtcncjghcnofioaaExt
namespace Go.Proofs.Ytcncjghcnofioaa
open Go.RowKit

def notV (a : V) : V × Int := if areB 2 a = false then (zV, 60) else if nullB a = true then (zV, 0) else (ofV (!yesB a), 0)

theorem three_new (w : World) (A B : Obj) : ((w.alloc A).alloc B).heap[w.heap.size]? = some A ∧ ((w.alloc A).alloc B).heap[w.heap.size + 1]? = some B := by
  refine ⟨obj_alloc (obj_alloc_new w A) B, ?_⟩
  have := obj_alloc_new (w.alloc A) B
  rw [World.size_alloc] at this
  exact this

set_option maxHeartbeats 2000000 in
theorem not_any (a : V) (w : World) : Calls Try.prog 27 #[vV a] w fun e w' => e = .returned (.tuple #[vV (notV a).1, .int .i64 (notV a).2]) ∧ Fr noB w w' := by
  obtain ⟨hb0, hb1⟩ := three_new w (.cells #[.int .u8 a.k, .int .i64 a.n, .int .i64 a.hi, .string a.t] 23) (.cells #[.int .u8 0, .int .i64 0, .int .i64 0, .string ⟨#[]⟩] 23)
  have hf0 : Fr noB w ((w.alloc (.cells #[.int .u8 a.k, .int .i64 a.n, .int .i64 a.hi, .string a.t] 23)).alloc (.cells #[.int .u8 0, .int .i64 0, .int .i64 0, .string ⟨#[]⟩] 23)) := ((Fr.refl _ _).alloc _).alloc _
  have hsz : ((w.alloc (.cells #[.int .u8 a.k, .int .i64 a.n, .int .i64 a.hi, .string a.t] 23)).alloc (.cells #[.int .u8 0, .int .i64 0, .int .i64 0, .string ⟨#[]⟩] 23)).heap.size = w.heap.size + 2 := by simp
  unfold vV
  go_enter Try.func27, Try.ntmps27
  go_upto_region 1 with fail
  generalize (w.alloc (.cells #[.int .u8 a.k, .int .i64 a.n, .int .i64 a.hi, .string a.t] 23)).alloc (.cells #[.int .u8 0, .int .i64 0, .int .i64 0, .string ⟨#[]⟩] 23) = W0 at *
  obtain ⟨c0, c1, c2, c3⟩ := v_cells hb0
  go_wp2_with fail
  cases har : areB 2 a
  · have HR := Lib.hid (show notV a = (zV, 60) by simp [notV, har])
    have HAR := Lib.hid har
    clear har
    refine (are1_any a 2 (w.heap.size + 2) _ _ false HAR.out (by have := obj_alloc_new W0 (.cells #[.int .u8 a.k, .int .i64 a.n, .int .i64 a.hi, .string a.t] 23); rw [hsz] at this; exact this)).mono ?_
    rintro e w1 ⟨rfl, hf1⟩
    have hf1 : Fr noB W0 w1 := ((Fr.refl noB W0).alloc _).trans hf1
    have hb0 := hf1.obj (fun x => x) hb0
    have hb1 := hf1.obj (fun x => x) hb1
    obtain ⟨c0, c1, c2, c3⟩ := v_cells hb0
    have hz := frozen_of_obj hb1
    obtain ⟨z0, z1, z2, z3⟩ := v_cells (v := zV) hb1
    simp only [zV] at z0 z1 z2 z3
    have hfw := hf0.trans hf1
    go_wp2_with fail
    refine bodyPost_ret (ret_val2 rfl _ _ (w.heap.size + 1) zV _ rfl rfl ?_) rfl ⟨?_, ?_⟩
    · exact obj_setCell (obj_setCell (obj_setCell (obj_setCell hb1 0 _) 1 _) 2 _) 3 _
    · rw [HR.out] <;> rfl
    · exact ((((hfw.setCell (fun h => by dsimp only at h; omega) _).setCell (fun h => by dsimp only at h; omega) _).setCell (fun h => by dsimp only at h; omega) _).setCell (fun h => by dsimp only at h; omega) _)
  · refine (are1_any a 2 (w.heap.size + 2) _ _ true har (by have := obj_alloc_new W0 (.cells #[.int .u8 a.k, .int .i64 a.n, .int .i64 a.hi, .string a.t] 23); rw [hsz] at this; exact this)).mono ?_
    rintro e w1 ⟨rfl, hf1⟩
    have hf1 : Fr noB W0 w1 := ((Fr.refl noB W0).alloc _).trans hf1
    have hb0 := hf1.obj (fun x => x) hb0
    have hb1 := hf1.obj (fun x => x) hb1
    obtain ⟨c0, c1, c2, c3⟩ := v_cells hb0
    have hz := frozen_of_obj hb1
    obtain ⟨z0, z1, z2, z3⟩ := v_cells (v := zV) hb1
    simp only [zV] at z0 z1 z2 z3
    have hfw := hf0.trans hf1
    clear hf1
    cases hnl : nullB a
    · have HR := Lib.hid (show notV a = (ofV (!yesB a), 0) by simp [notV, har, hnl])
      have HNL := Lib.hid hnl
      clear hnl har
      go_wp2_with fail
      refine (null1_any a w1.heap.size _ _ false HNL.out (obj_alloc_new _ _)).mono ?_
      rintro e w2 ⟨rfl, hf2⟩
      have hf2 : Fr noB w1 w2 := ((Fr.refl noB w1).alloc _).trans hf2
      have hb0 := hf2.obj (fun x => x) hb0
      have hb1 := hf2.obj (fun x => x) hb1
      obtain ⟨c0, c1, c2, c3⟩ := v_cells hb0
      have hz := frozen_of_obj hb1
      obtain ⟨z0, z1, z2, z3⟩ := v_cells (v := zV) hb1
      simp only [zV] at z0 z1 z2 z3
      have hfw := hfw.trans hf2
      clear hf2
      go_wp2_with fail
      refine (yes_any a _).mono ?_
      rintro e w3 ⟨rfl, hf3⟩
      have hb0 := hf3.obj (fun x => x) hb0
      have hb1 := hf3.obj (fun x => x) hb1
      obtain ⟨c0, c1, c2, c3⟩ := v_cells hb0
      have hz := frozen_of_obj hb1
      obtain ⟨z0, z1, z2, z3⟩ := v_cells (v := zV) hb1
      simp only [zV] at z0 z1 z2 z3
      have hfw := hfw.trans hf3
      clear hf3
      go_wp2_with fail
      refine (of_any _ _).mono ?_
      rintro e w4 ⟨rfl, hf4⟩
      have hb0 := hf4.obj (fun x => x) hb0
      have hb1 := hf4.obj (fun x => x) hb1
      obtain ⟨c0, c1, c2, c3⟩ := v_cells hb0
      have hz := frozen_of_obj hb1
      obtain ⟨z0, z1, z2, z3⟩ := v_cells (v := zV) hb1
      simp only [zV] at z0 z1 z2 z3
      have hfw := hfw.trans hf4
      clear hf4
      unfold vV
      go_wp2_with fail
      refine bodyPost_ret (ret_val2 rfl _ _ (w.heap.size + 1) (ofV (!yesB a)) _ rfl rfl ?_) rfl ⟨?_, ?_⟩
      · exact obj_setCell (obj_setCell (obj_setCell (obj_setCell hb1 0 _) 1 _) 2 _) 3 _
      · rw [HR.out] <;> rfl
      · exact ((((hfw.setCell (fun h => by dsimp only at h; omega) _).setCell (fun h => by dsimp only at h; omega) _).setCell (fun h => by dsimp only at h; omega) _).setCell (fun h => by dsimp only at h; omega) _)
    · have HR := Lib.hid (show notV a = (zV, 0) by simp [notV, har, hnl])
      have HNL := Lib.hid hnl
      clear hnl har
      go_wp2_with fail
      refine (null1_any a w1.heap.size _ _ true HNL.out (obj_alloc_new _ _)).mono ?_
      rintro e w2 ⟨rfl, hf2⟩
      have hf2 : Fr noB w1 w2 := ((Fr.refl noB w1).alloc _).trans hf2
      have hb0 := hf2.obj (fun x => x) hb0
      have hb1 := hf2.obj (fun x => x) hb1
      obtain ⟨c0, c1, c2, c3⟩ := v_cells hb0
      have hz := frozen_of_obj hb1
      obtain ⟨z0, z1, z2, z3⟩ := v_cells (v := zV) hb1
      simp only [zV] at z0 z1 z2 z3
      have hfw := hfw.trans hf2
      clear hf2
      go_wp2_with fail
      refine bodyPost_ret (ret_val2 rfl _ _ (w.heap.size + 1) zV _ rfl rfl ?_) rfl ⟨?_, ?_⟩
      · exact obj_setCell (obj_setCell (obj_setCell (obj_setCell hb1 0 _) 1 _) 2 _) 3 _
      · rw [HR.out] <;> rfl
      · exact ((((hfw.setCell (fun h => by dsimp only at h; omega) _).setCell (fun h => by dsimp only at h; omega) _).setCell (fun h => by dsimp only at h; omega) _).setCell (fun h => by dsimp only at h; omega) _)

/-- What joins. -/
def isB (v : V) (d : Bool) : Bool := v.k == 2 && (yesB v == d)
def joinV (a b : V) (d : Bool) : V × Int := if (areB 2 a && areB 2 b) = false then (zV, 60) else if (isB a d || isB b d) = true then (ofV d, 0) else if (nullB a || nullB b) = true then (zV, 0) else (ofV (!d), 0)

set_option maxHeartbeats 2000000 in
theorem is_any (v : V) (d : Bool) (q : Nat) (w : World) (hq : w.cell? ⟨q, 0, none⟩ = some (.bool d)) :
    Calls Try.prog 89 #[vV v, .pointer (some ⟨q, 0, none⟩)] w fun e w' => e = .returned (.bool (isB v d)) ∧ Fr noB w w' := by
  by_cases hk : v.k = 2
  · obtain ⟨k, n, hi, t⟩ := v
    simp only at hk
    subst hk
    have HR := Lib.hid (show isB ⟨2, n, hi, t⟩ d = (yesB ⟨2, n, hi, t⟩ == d) by simp [isB])
    have hb0 := obj_alloc_new w (.cells #[.int .u8 2, .int .i64 n, .int .i64 hi, .string t] 23)
    have hf0 : Fr noB w (w.alloc (.cells #[.int .u8 2, .int .i64 n, .int .i64 hi, .string t] 23)) := (Fr.refl _ _).alloc _
    have hq := hf0.cell (fun x => x) hq
    obtain ⟨c0, c1, c2, c3⟩ := v_cells (v := ⟨2, n, hi, t⟩) hb0
    have x0 := Ext.cell c0
    have x1 := Ext.cell c1
    have x2 := Ext.cell c2
    have x3 := Ext.cell c3
    have xq := Ext.cell hq
    have HY := Lib.hid (show ∀ W : World, Calls Try.prog 18 #[.agg #[.int .u8 2, .int .i64 n, .int .i64 hi, .string t]] W fun e w' => e = .returned (.bool (yesB ⟨2, n, hi, t⟩)) ∧ Fr noB W w' from fun W => yes_any ⟨2, n, hi, t⟩ W)
    clear c0 c1 c2 c3 hb0 hq
    dsimp only at x0 x1 x2 x3
    change Calls _ _ #[.agg #[.int .u8 2, .int .i64 n, .int .i64 hi, .string t], .pointer (some ⟨q, 0, none⟩)] _ _
    go_enter Try.func89, Try.ntmps89
    go_upto_region 1 with fail
    refine wp_region_ext (by kernel_rfl) (by kernel_rfl) ?_
    repeat (go_big_quiet_step ((go_at_call 18; exact Ext.calls (HY.out _))))
    refine wpQuiet_nil ?_
    rintro w3 ⟨⟨_, hf3⟩, rfl⟩
    go_wp2_with fail
    go_ret
    exact ⟨by rw [HR.out] <;> rfl, hf0.trans hf3⟩
  · have HR := Lib.hid (show isB v d = false by simp [isB, hk])
    have hb0 := obj_alloc_new w (.cells #[.int .u8 v.k, .int .i64 v.n, .int .i64 v.hi, .string v.t] 23)
    have hf0 : Fr noB w (w.alloc (.cells #[.int .u8 v.k, .int .i64 v.n, .int .i64 v.hi, .string v.t] 23)) := (Fr.refl _ _).alloc _
    have hq := hf0.cell (fun x => x) hq
    obtain ⟨c0, c1, c2, c3⟩ := v_cells hb0
    have x0 := Ext.cell c0
    have x1 := Ext.cell c1
    have x2 := Ext.cell c2
    have x3 := Ext.cell c3
    have xq := Ext.cell hq
    clear c0 c1 c2 c3
    have hkb : (v.k == 2) = false := by rw [beq_eq_false_iff_ne]; exact hk
    clear hk
    unfold vV
    go_enter Try.func89, Try.ntmps89
    go_upto_region 1 with fail
    refine wp_region_ext (by kernel_rfl) (by kernel_rfl) ?_
    repeat (go_big_quiet_step (fail))
    refine wpQuiet_nil ?_
    rintro w3 ⟨⟨_, hf3⟩, rfl⟩
    go_wp2_with fail
    go_ret
    exact ⟨by rw [HR.out] <;> rfl, hf0.trans hf3⟩

theorem four_new (w : World) (A B C D : Obj) : let W := (((w.alloc A).alloc B).alloc C).alloc D; W.heap[w.heap.size]? = some A ∧ W.heap[w.heap.size + 1]? = some B ∧ W.heap[w.heap.size + 2]? = some C ∧ W.heap[w.heap.size + 3]? = some D ∧ W.heap.size = w.heap.size + 4 := by
  have h1 := obj_alloc_new (w.alloc A) B
  have h2 := obj_alloc_new ((w.alloc A).alloc B) C
  have h3 := obj_alloc_new (((w.alloc A).alloc B).alloc C) D
  simp only [World.size_alloc] at h1 h2 h3
  exact ⟨obj_alloc (obj_alloc (obj_alloc (obj_alloc_new w A) B) C) D, obj_alloc (obj_alloc h1 C) D, obj_alloc h2 D, h3, by simp only [World.size_alloc]⟩

set_option maxHeartbeats 4000000 in
theorem join_any (a b : V) (d : Bool) (w : World) : Calls Try.prog 73 #[vV a, vV b, .bool d] w fun e w' => e = .returned (.tuple #[vV (joinV a b d).1, .int .i64 (joinV a b d).2]) ∧ Fr noB w w' := by
  obtain ⟨hb0, hb1, hb2, hb3, hsz⟩ := four_new w (.cells #[.int .u8 a.k, .int .i64 a.n, .int .i64 a.hi, .string a.t] 23) (.cells #[.int .u8 b.k, .int .i64 b.n, .int .i64 b.hi, .string b.t] 23) (.cells #[.bool d] 4) (.cells #[.int .u8 0, .int .i64 0, .int .i64 0, .string ⟨#[]⟩] 23)
  have hfw : Fr noB w ((((w.alloc (.cells #[.int .u8 a.k, .int .i64 a.n, .int .i64 a.hi, .string a.t] 23)).alloc (.cells #[.int .u8 b.k, .int .i64 b.n, .int .i64 b.hi, .string b.t] 23)).alloc (.cells #[.bool d] 4)).alloc (.cells #[.int .u8 0, .int .i64 0, .int .i64 0, .string ⟨#[]⟩] 23)) := ((((Fr.refl _ _).alloc _).alloc _).alloc _).alloc _
  unfold vV
  go_enter Try.func73, Try.ntmps73
  go_upto_region 1 with fail
  generalize ((((w.alloc (.cells #[.int .u8 a.k, .int .i64 a.n, .int .i64 a.hi, .string a.t] 23)).alloc (.cells #[.int .u8 b.k, .int .i64 b.n, .int .i64 b.hi, .string b.t] 23)).alloc (.cells #[.bool d] 4)).alloc (.cells #[.int .u8 0, .int .i64 0, .int .i64 0, .string ⟨#[]⟩] 23)) = W0 at *
  obtain ⟨c0, c1, c2, c3⟩ := v_cells hb0
  obtain ⟨d0, d1, d2, d3⟩ := v_cells hb1
  have q0 := cell_of_obj hb2 0
  simp at q0
  cases har : areB 2 a && areB 2 b
  · have HR := Lib.hid (show joinV a b d = (zV, 60) by unfold joinV; rw [if_pos har])
    have HAR := Lib.hid har
    clear har
    go_wp2_with fail
    refine (are2_any a b 2 (w.heap.size + 4) _ _ false HAR.out (by have := obj_alloc_new W0 (.cells #[.int .u8 a.k, .int .i64 a.n, .int .i64 a.hi, .string a.t, .int .u8 b.k, .int .i64 b.n, .int .i64 b.hi, .string b.t] 23); rw [hsz] at this; exact this)).mono ?_
    rintro e w1 ⟨rfl, hf1⟩
    have hf1 : Fr noB W0 w1 := ((Fr.refl noB W0).alloc _).trans hf1
    have hb0 := hf1.obj (fun x => x) hb0
    have hb1 := hf1.obj (fun x => x) hb1
    have hb2 := hf1.obj (fun x => x) hb2
    have hb3 := hf1.obj (fun x => x) hb3
    obtain ⟨c0, c1, c2, c3⟩ := v_cells hb0
    obtain ⟨d0, d1, d2, d3⟩ := v_cells hb1
    have q0 := cell_of_obj hb2 0
    have hz := frozen_of_obj hb3
    obtain ⟨z0, z1, z2, z3⟩ := v_cells (v := zV) hb3
    simp only [zV] at z0 z1 z2 z3
    simp at q0
    have hfw := hfw.trans hf1
    clear hf1
    go_wp2_with fail
    refine bodyPost_ret (ret_val2 rfl _ _ (w.heap.size + 3) zV _ rfl rfl ?_) rfl ⟨?_, ?_⟩
    · exact obj_setCell (obj_setCell (obj_setCell (obj_setCell hb3 0 _) 1 _) 2 _) 3 _
    · rw [HR.out] <;> rfl
    · exact ((((hfw.setCell (fun h => by dsimp only at h; omega) _).setCell (fun h => by dsimp only at h; omega) _).setCell (fun h => by dsimp only at h; omega) _).setCell (fun h => by dsimp only at h; omega) _)
  · have HAR := Lib.hid har
    go_wp2_with fail
    refine (are2_any a b 2 (w.heap.size + 4) _ _ true HAR.out (by have := obj_alloc_new W0 (.cells #[.int .u8 a.k, .int .i64 a.n, .int .i64 a.hi, .string a.t, .int .u8 b.k, .int .i64 b.n, .int .i64 b.hi, .string b.t] 23); rw [hsz] at this; exact this)).mono ?_
    rintro e w1 ⟨rfl, hf1⟩
    have hf1 : Fr noB W0 w1 := ((Fr.refl noB W0).alloc _).trans hf1
    have hb0 := hf1.obj (fun x => x) hb0
    have hb1 := hf1.obj (fun x => x) hb1
    have hb2 := hf1.obj (fun x => x) hb2
    have hb3 := hf1.obj (fun x => x) hb3
    obtain ⟨c0, c1, c2, c3⟩ := v_cells hb0
    obtain ⟨d0, d1, d2, d3⟩ := v_cells hb1
    have q0 := cell_of_obj hb2 0
    have hz := frozen_of_obj hb3
    obtain ⟨z0, z1, z2, z3⟩ := v_cells (v := zV) hb3
    simp only [zV] at z0 z1 z2 z3
    simp at q0
    have hfw := hfw.trans hf1
    clear hf1
    cases hia : isB a d
    · cases hib : isB b d
      · cases hnl : nullB a || nullB b
        · have HR := Lib.hid (show joinV a b d = (ofV (!d), 0) by unfold joinV; rw [if_neg (by rw [har]; decide), hia, hib, if_neg (by decide), hnl, if_neg (by decide)])
          have HISa := Lib.hid hia; have HISb := Lib.hid hib; have HNL := Lib.hid hnl
          clear hia hib hnl har
          go_wp2_with fail
          refine ((HISa.out ▸ is_any a d (w.heap.size + 2) _ q0)).mono ?_
          rintro e w2 ⟨rfl, hf2⟩
          have hb0 := hf2.obj (fun x => x) hb0
          have hb1 := hf2.obj (fun x => x) hb1
          have hb2 := hf2.obj (fun x => x) hb2
          have hb3 := hf2.obj (fun x => x) hb3
          obtain ⟨c0, c1, c2, c3⟩ := v_cells hb0
          obtain ⟨d0, d1, d2, d3⟩ := v_cells hb1
          have q0 := cell_of_obj hb2 0
          have hz := frozen_of_obj hb3
          obtain ⟨z0, z1, z2, z3⟩ := v_cells (v := zV) hb3
          simp only [zV] at z0 z1 z2 z3
          simp at q0
          have hfw := hfw.trans hf2
          clear hf2
          go_wp2_with fail
          refine ((HISb.out ▸ is_any b d (w.heap.size + 2) _ q0)).mono ?_
          rintro e w3 ⟨rfl, hf3⟩
          have hb0 := hf3.obj (fun x => x) hb0
          have hb1 := hf3.obj (fun x => x) hb1
          have hb2 := hf3.obj (fun x => x) hb2
          have hb3 := hf3.obj (fun x => x) hb3
          obtain ⟨c0, c1, c2, c3⟩ := v_cells hb0
          obtain ⟨d0, d1, d2, d3⟩ := v_cells hb1
          have q0 := cell_of_obj hb2 0
          have hz := frozen_of_obj hb3
          obtain ⟨z0, z1, z2, z3⟩ := v_cells (v := zV) hb3
          simp only [zV] at z0 z1 z2 z3
          simp at q0
          have hfw := hfw.trans hf3
          clear hf3
          go_wp2_with fail
          refine (null2_any a b w3.heap.size _ _ false HNL.out (obj_alloc_new _ _)).mono ?_
          rintro e w4 ⟨rfl, hf4⟩
          have hf4 : Fr noB w3 w4 := ((Fr.refl noB w3).alloc _).trans hf4
          have hb0 := hf4.obj (fun x => x) hb0
          have hb1 := hf4.obj (fun x => x) hb1
          have hb2 := hf4.obj (fun x => x) hb2
          have hb3 := hf4.obj (fun x => x) hb3
          obtain ⟨c0, c1, c2, c3⟩ := v_cells hb0
          obtain ⟨d0, d1, d2, d3⟩ := v_cells hb1
          have q0 := cell_of_obj hb2 0
          have hz := frozen_of_obj hb3
          obtain ⟨z0, z1, z2, z3⟩ := v_cells (v := zV) hb3
          simp only [zV] at z0 z1 z2 z3
          simp at q0
          have hfw := hfw.trans hf4
          clear hf4
          go_wp2_with fail
          refine (of_any (!d) _).mono ?_
          rintro e w5 ⟨rfl, hf5⟩
          have hb0 := hf5.obj (fun x => x) hb0
          have hb1 := hf5.obj (fun x => x) hb1
          have hb2 := hf5.obj (fun x => x) hb2
          have hb3 := hf5.obj (fun x => x) hb3
          obtain ⟨c0, c1, c2, c3⟩ := v_cells hb0
          obtain ⟨d0, d1, d2, d3⟩ := v_cells hb1
          have q0 := cell_of_obj hb2 0
          have hz := frozen_of_obj hb3
          obtain ⟨z0, z1, z2, z3⟩ := v_cells (v := zV) hb3
          simp only [zV] at z0 z1 z2 z3
          simp at q0
          have hfw := hfw.trans hf5
          clear hf5
          unfold vV
          go_wp2_with fail
          refine bodyPost_ret (ret_val2 rfl _ _ (w.heap.size + 3) (ofV (!d)) _ rfl rfl ?_) rfl ⟨?_, ?_⟩
          · exact obj_setCell (obj_setCell (obj_setCell (obj_setCell hb3 0 _) 1 _) 2 _) 3 _
          · rw [HR.out] <;> rfl
          · exact ((((hfw.setCell (fun h => by dsimp only at h; omega) _).setCell (fun h => by dsimp only at h; omega) _).setCell (fun h => by dsimp only at h; omega) _).setCell (fun h => by dsimp only at h; omega) _)
        · have HR := Lib.hid (show joinV a b d = (zV, 0) by unfold joinV; rw [if_neg (by rw [har]; decide), hia, hib, if_neg (by decide), hnl, if_pos rfl])
          have HISa := Lib.hid hia; have HISb := Lib.hid hib; have HNL := Lib.hid hnl
          clear hia hib hnl har
          go_wp2_with fail
          refine ((HISa.out ▸ is_any a d (w.heap.size + 2) _ q0)).mono ?_
          rintro e w2 ⟨rfl, hf2⟩
          have hb0 := hf2.obj (fun x => x) hb0
          have hb1 := hf2.obj (fun x => x) hb1
          have hb2 := hf2.obj (fun x => x) hb2
          have hb3 := hf2.obj (fun x => x) hb3
          obtain ⟨c0, c1, c2, c3⟩ := v_cells hb0
          obtain ⟨d0, d1, d2, d3⟩ := v_cells hb1
          have q0 := cell_of_obj hb2 0
          have hz := frozen_of_obj hb3
          obtain ⟨z0, z1, z2, z3⟩ := v_cells (v := zV) hb3
          simp only [zV] at z0 z1 z2 z3
          simp at q0
          have hfw := hfw.trans hf2
          clear hf2
          go_wp2_with fail
          refine ((HISb.out ▸ is_any b d (w.heap.size + 2) _ q0)).mono ?_
          rintro e w3 ⟨rfl, hf3⟩
          have hb0 := hf3.obj (fun x => x) hb0
          have hb1 := hf3.obj (fun x => x) hb1
          have hb2 := hf3.obj (fun x => x) hb2
          have hb3 := hf3.obj (fun x => x) hb3
          obtain ⟨c0, c1, c2, c3⟩ := v_cells hb0
          obtain ⟨d0, d1, d2, d3⟩ := v_cells hb1
          have q0 := cell_of_obj hb2 0
          have hz := frozen_of_obj hb3
          obtain ⟨z0, z1, z2, z3⟩ := v_cells (v := zV) hb3
          simp only [zV] at z0 z1 z2 z3
          simp at q0
          have hfw := hfw.trans hf3
          clear hf3
          go_wp2_with fail
          refine (null2_any a b w3.heap.size _ _ true HNL.out (obj_alloc_new _ _)).mono ?_
          rintro e w4 ⟨rfl, hf4⟩
          have hf4 : Fr noB w3 w4 := ((Fr.refl noB w3).alloc _).trans hf4
          have hb0 := hf4.obj (fun x => x) hb0
          have hb1 := hf4.obj (fun x => x) hb1
          have hb2 := hf4.obj (fun x => x) hb2
          have hb3 := hf4.obj (fun x => x) hb3
          obtain ⟨c0, c1, c2, c3⟩ := v_cells hb0
          obtain ⟨d0, d1, d2, d3⟩ := v_cells hb1
          have q0 := cell_of_obj hb2 0
          have hz := frozen_of_obj hb3
          obtain ⟨z0, z1, z2, z3⟩ := v_cells (v := zV) hb3
          simp only [zV] at z0 z1 z2 z3
          simp at q0
          have hfw := hfw.trans hf4
          clear hf4
          go_wp2_with fail
          refine bodyPost_ret (ret_val2 rfl _ _ (w.heap.size + 3) zV _ rfl rfl ?_) rfl ⟨?_, ?_⟩
          · exact obj_setCell (obj_setCell (obj_setCell (obj_setCell hb3 0 _) 1 _) 2 _) 3 _
          · rw [HR.out] <;> rfl
          · exact ((((hfw.setCell (fun h => by dsimp only at h; omega) _).setCell (fun h => by dsimp only at h; omega) _).setCell (fun h => by dsimp only at h; omega) _).setCell (fun h => by dsimp only at h; omega) _)
      · have HR := Lib.hid (show joinV a b d = (ofV d, 0) by unfold joinV; rw [if_neg (by rw [har]; decide), hia, hib, if_pos (by decide)])
        have HISa := Lib.hid hia; have HISb := Lib.hid hib
        clear hia hib har
        go_wp2_with fail
        refine ((HISa.out ▸ is_any a d (w.heap.size + 2) _ q0)).mono ?_
        rintro e w2 ⟨rfl, hf2⟩
        have hb0 := hf2.obj (fun x => x) hb0
        have hb1 := hf2.obj (fun x => x) hb1
        have hb2 := hf2.obj (fun x => x) hb2
        have hb3 := hf2.obj (fun x => x) hb3
        obtain ⟨c0, c1, c2, c3⟩ := v_cells hb0
        obtain ⟨d0, d1, d2, d3⟩ := v_cells hb1
        have q0 := cell_of_obj hb2 0
        have hz := frozen_of_obj hb3
        obtain ⟨z0, z1, z2, z3⟩ := v_cells (v := zV) hb3
        simp only [zV] at z0 z1 z2 z3
        simp at q0
        have hfw := hfw.trans hf2
        clear hf2
        go_wp2_with fail
        refine ((HISb.out ▸ is_any b d (w.heap.size + 2) _ q0)).mono ?_
        rintro e w3 ⟨rfl, hf3⟩
        have hb0 := hf3.obj (fun x => x) hb0
        have hb1 := hf3.obj (fun x => x) hb1
        have hb2 := hf3.obj (fun x => x) hb2
        have hb3 := hf3.obj (fun x => x) hb3
        obtain ⟨c0, c1, c2, c3⟩ := v_cells hb0
        obtain ⟨d0, d1, d2, d3⟩ := v_cells hb1
        have q0 := cell_of_obj hb2 0
        have hz := frozen_of_obj hb3
        obtain ⟨z0, z1, z2, z3⟩ := v_cells (v := zV) hb3
        simp only [zV] at z0 z1 z2 z3
        simp at q0
        have hfw := hfw.trans hf3
        clear hf3
        go_wp2_with fail
        refine (of_any d _).mono ?_
        rintro e w4 ⟨rfl, hf4⟩
        have hb0 := hf4.obj (fun x => x) hb0
        have hb1 := hf4.obj (fun x => x) hb1
        have hb2 := hf4.obj (fun x => x) hb2
        have hb3 := hf4.obj (fun x => x) hb3
        obtain ⟨c0, c1, c2, c3⟩ := v_cells hb0
        obtain ⟨d0, d1, d2, d3⟩ := v_cells hb1
        have q0 := cell_of_obj hb2 0
        have hz := frozen_of_obj hb3
        obtain ⟨z0, z1, z2, z3⟩ := v_cells (v := zV) hb3
        simp only [zV] at z0 z1 z2 z3
        simp at q0
        have hfw := hfw.trans hf4
        clear hf4
        unfold vV
        go_wp2_with fail
        refine bodyPost_ret (ret_val2 rfl _ _ (w.heap.size + 3) (ofV d) _ rfl rfl ?_) rfl ⟨?_, ?_⟩
        · exact obj_setCell (obj_setCell (obj_setCell (obj_setCell hb3 0 _) 1 _) 2 _) 3 _
        · rw [HR.out] <;> rfl
        · exact ((((hfw.setCell (fun h => by dsimp only at h; omega) _).setCell (fun h => by dsimp only at h; omega) _).setCell (fun h => by dsimp only at h; omega) _).setCell (fun h => by dsimp only at h; omega) _)
    · have HR := Lib.hid (show joinV a b d = (ofV d, 0) by unfold joinV; rw [if_neg (by rw [har]; decide), hia, Bool.true_or, if_pos rfl])
      have HISa := Lib.hid hia
      clear hia har
      go_wp2_with fail
      refine ((HISa.out ▸ is_any a d (w.heap.size + 2) _ q0)).mono ?_
      rintro e w2 ⟨rfl, hf2⟩
      have hb0 := hf2.obj (fun x => x) hb0
      have hb1 := hf2.obj (fun x => x) hb1
      have hb2 := hf2.obj (fun x => x) hb2
      have hb3 := hf2.obj (fun x => x) hb3
      obtain ⟨c0, c1, c2, c3⟩ := v_cells hb0
      obtain ⟨d0, d1, d2, d3⟩ := v_cells hb1
      have q0 := cell_of_obj hb2 0
      have hz := frozen_of_obj hb3
      obtain ⟨z0, z1, z2, z3⟩ := v_cells (v := zV) hb3
      simp only [zV] at z0 z1 z2 z3
      simp at q0
      have hfw := hfw.trans hf2
      clear hf2
      go_wp2_with fail
      refine (of_any d _).mono ?_
      rintro e w3 ⟨rfl, hf3⟩
      have hb0 := hf3.obj (fun x => x) hb0
      have hb1 := hf3.obj (fun x => x) hb1
      have hb2 := hf3.obj (fun x => x) hb2
      have hb3 := hf3.obj (fun x => x) hb3
      obtain ⟨c0, c1, c2, c3⟩ := v_cells hb0
      obtain ⟨d0, d1, d2, d3⟩ := v_cells hb1
      have q0 := cell_of_obj hb2 0
      have hz := frozen_of_obj hb3
      obtain ⟨z0, z1, z2, z3⟩ := v_cells (v := zV) hb3
      simp only [zV] at z0 z1 z2 z3
      simp at q0
      have hfw := hfw.trans hf3
      clear hf3
      unfold vV
      go_wp2_with fail
      refine bodyPost_ret (ret_val2 rfl _ _ (w.heap.size + 3) (ofV d) _ rfl rfl ?_) rfl ⟨?_, ?_⟩
      · exact obj_setCell (obj_setCell (obj_setCell (obj_setCell hb3 0 _) 1 _) 2 _) 3 _
      · rw [HR.out] <;> rfl
      · exact ((((hfw.setCell (fun h => by dsimp only at h; omega) _).setCell (fun h => by dsimp only at h; omega) _).setCell (fun h => by dsimp only at h; omega) _).setCell (fun h => by dsimp only at h; omega) _)

end Go.Proofs.Ytcncjghcnofioaa
