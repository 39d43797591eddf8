/- The walk of package logic's IsNull. No condition. -/
import Derived.Test.YtcncjghcnofioaaLogicB
namespace Go.Proofs.Ytcncjghcnofioaa
open Go.RowKit

set_option maxHeartbeats 4000000 in
theorem isnull_any (a : V) (w : World) : Calls Try.prog 35 #[vV a] w fun e w' => e = .returned (vV (ofV (nullB a))) ∧ Fr noB w w' := by
  obtain ⟨hb0, hb1⟩ := three_new w (.cells #[.int .u8 a.k, .int .i64 a.n, .int .i64 a.hi, .string a.t] 23) (.cells #[.int .u8 0, .int .i64 0, .int .i64 0, .string ⟨#[]⟩] 23)
  have hfw : Fr noB w ((w.alloc (.cells #[.int .u8 a.k, .int .i64 a.n, .int .i64 a.hi, .string a.t] 23)).alloc (.cells #[.int .u8 0, .int .i64 0, .int .i64 0, .string ⟨#[]⟩] 23)) := ((Fr.refl _ _).alloc _).alloc _
  have hsz : ((w.alloc (.cells #[.int .u8 a.k, .int .i64 a.n, .int .i64 a.hi, .string a.t] 23)).alloc (.cells #[.int .u8 0, .int .i64 0, .int .i64 0, .string ⟨#[]⟩] 23)).heap.size = w.heap.size + 2 := by simp
  unfold vV
  go_enter Try.func35, Try.ntmps35
  go_upto_region 1 with fail
  generalize ((w.alloc (.cells #[.int .u8 a.k, .int .i64 a.n, .int .i64 a.hi, .string a.t] 23)).alloc (.cells #[.int .u8 0, .int .i64 0, .int .i64 0, .string ⟨#[]⟩] 23)) = W0 at *
  obtain ⟨c0, c1, c2, c3⟩ := v_cells hb0
  go_wp2_with fail
  refine (null1_any a (w.heap.size + 2) _ _ _ rfl (by have := obj_alloc_new W0 (.cells #[.int .u8 a.k, .int .i64 a.n, .int .i64 a.hi, .string a.t] 23); rw [hsz] at this; exact this)).mono ?_
  rintro e w1 ⟨rfl, hf1⟩
  have hf1 : Fr noB W0 w1 := ((Fr.refl noB W0).alloc _).trans hf1
  have hb1 := hf1.obj (fun x => x) hb1
  have hfw := hfw.trans hf1
  clear hf1
  go_wp2_with fail
  refine (of_any _ _).mono ?_
  rintro e w2 ⟨rfl, hf2⟩
  have hb1 := hf2.obj (fun x => x) hb1
  have hz := frozen_of_obj hb1
  obtain ⟨z0, z1, z2, z3⟩ := v_cells (v := zV) hb1
  have hfw := hfw.trans hf2
  clear hf2
  unfold vV
  go_wp2_with fail
  refine bodyPost_ret (ret_val rfl _ _ (w.heap.size + 1) (ofV (nullB a)) rfl ?_) rfl ⟨?_, ?_⟩
  · exact obj_setCell (obj_setCell (obj_setCell (obj_setCell hb1 0 _) 1 _) 2 _) 3 _
  · rfl
  · exact ((((hfw.setCell (fun h => by dsimp only at h; omega) _).setCell (fun h => by dsimp only at h; omega) _).setCell (fun h => by dsimp only at h; omega) _).setCell (fun h => by dsimp only at h; omega) _)

end Go.Proofs.Ytcncjghcnofioaa
