/- The walks of package logic's And, Or. No condition. -/
import Derived.Test.YtcncjghcnofioaaLogic
namespace Go.Proofs.Ytcncjghcnofioaa
open Go.RowKit

theorem trio_new (w : World) (A B C : Obj) : let W := ((w.alloc A).alloc B).alloc C; W.heap[w.heap.size]? = some A ∧ W.heap[w.heap.size + 1]? = some B ∧ W.heap[w.heap.size + 2]? = some C ∧ W.heap.size = w.heap.size + 3 := by
  have h1 := obj_alloc_new (w.alloc A) B
  have h2 := obj_alloc_new ((w.alloc A).alloc B) C
  simp only [World.size_alloc] at h1 h2
  exact ⟨obj_alloc (obj_alloc (obj_alloc_new w A) B) C, obj_alloc h1 C, h2, by simp only [World.size_alloc]⟩

set_option maxHeartbeats 4000000 in
theorem and_any (a b : V) (w : World) : Calls Try.prog 29 #[vV a, vV b] w fun e w' => e = .returned (.tuple #[vV (joinV a b false).1, .int .i64 (joinV a b false).2]) ∧ Fr noB w w' := by
  obtain ⟨hb0, hb1, hb3, hsz⟩ := trio_new w (.cells #[.int .u8 a.k, .int .i64 a.n, .int .i64 a.hi, .string a.t] 23) (.cells #[.int .u8 b.k, .int .i64 b.n, .int .i64 b.hi, .string b.t] 23) (.cells #[.int .u8 0, .int .i64 0, .int .i64 0, .string ⟨#[]⟩] 23)
  have hfw : Fr noB w (((w.alloc (.cells #[.int .u8 a.k, .int .i64 a.n, .int .i64 a.hi, .string a.t] 23)).alloc (.cells #[.int .u8 b.k, .int .i64 b.n, .int .i64 b.hi, .string b.t] 23)).alloc (.cells #[.int .u8 0, .int .i64 0, .int .i64 0, .string ⟨#[]⟩] 23)) := (((Fr.refl _ _).alloc _).alloc _).alloc _
  have hj : ∀ W : World, Calls Try.prog 73 #[vV a, vV b, .bool false] W fun e w' => e = .returned (.tuple #[vV (joinV a b false).1, .int .i64 (joinV a b false).2]) ∧ Fr noB W w' := join_any a b false
  generalize joinV a b false = r at *
  unfold vV at hj ⊢
  go_enter Try.func29, Try.ntmps29
  go_upto_region 1 with fail
  generalize (((w.alloc (.cells #[.int .u8 a.k, .int .i64 a.n, .int .i64 a.hi, .string a.t] 23)).alloc (.cells #[.int .u8 b.k, .int .i64 b.n, .int .i64 b.hi, .string b.t] 23)).alloc (.cells #[.int .u8 0, .int .i64 0, .int .i64 0, .string ⟨#[]⟩] 23)) = W0 at *
  obtain ⟨c0, c1, c2, c3⟩ := v_cells hb0
  obtain ⟨d0, d1, d2, d3⟩ := v_cells hb1
  have HJ := Lib.hid hj
  clear hj
  go_wp2_with fail
  refine (HJ.out _).mono ?_
  rintro e w1 ⟨rfl, hf1⟩
  have hb3 := hf1.obj (fun x => x) hb3
  have hz := frozen_of_obj hb3
  obtain ⟨z0, z1, z2, z3⟩ := v_cells (v := zV) hb3
  have hfw := hfw.trans hf1
  go_wp2_with fail
  refine bodyPost_ret (ret_val2 rfl _ _ (w.heap.size + 2) r.1 _ rfl rfl ?_) rfl ⟨?_, ?_⟩
  · exact obj_setCell (obj_setCell (obj_setCell (obj_setCell hb3 0 _) 1 _) 2 _) 3 _
  · rfl
  · exact ((((hfw.setCell (fun h => by dsimp only at h; omega) _).setCell (fun h => by dsimp only at h; omega) _).setCell (fun h => by dsimp only at h; omega) _).setCell (fun h => by dsimp only at h; omega) _)

set_option maxHeartbeats 4000000 in
theorem or_any (a b : V) (w : World) : Calls Try.prog 31 #[vV a, vV b] w fun e w' => e = .returned (.tuple #[vV (joinV a b true).1, .int .i64 (joinV a b true).2]) ∧ Fr noB w w' := by
  obtain ⟨hb0, hb1, hb3, hsz⟩ := trio_new w (.cells #[.int .u8 a.k, .int .i64 a.n, .int .i64 a.hi, .string a.t] 23) (.cells #[.int .u8 b.k, .int .i64 b.n, .int .i64 b.hi, .string b.t] 23) (.cells #[.int .u8 0, .int .i64 0, .int .i64 0, .string ⟨#[]⟩] 23)
  have hfw : Fr noB w (((w.alloc (.cells #[.int .u8 a.k, .int .i64 a.n, .int .i64 a.hi, .string a.t] 23)).alloc (.cells #[.int .u8 b.k, .int .i64 b.n, .int .i64 b.hi, .string b.t] 23)).alloc (.cells #[.int .u8 0, .int .i64 0, .int .i64 0, .string ⟨#[]⟩] 23)) := (((Fr.refl _ _).alloc _).alloc _).alloc _
  have hj : ∀ W : World, Calls Try.prog 73 #[vV a, vV b, .bool true] W fun e w' => e = .returned (.tuple #[vV (joinV a b true).1, .int .i64 (joinV a b true).2]) ∧ Fr noB W w' := join_any a b true
  generalize joinV a b true = r at *
  unfold vV at hj ⊢
  go_enter Try.func31, Try.ntmps31
  go_upto_region 1 with fail
  generalize (((w.alloc (.cells #[.int .u8 a.k, .int .i64 a.n, .int .i64 a.hi, .string a.t] 23)).alloc (.cells #[.int .u8 b.k, .int .i64 b.n, .int .i64 b.hi, .string b.t] 23)).alloc (.cells #[.int .u8 0, .int .i64 0, .int .i64 0, .string ⟨#[]⟩] 23)) = W0 at *
  obtain ⟨c0, c1, c2, c3⟩ := v_cells hb0
  obtain ⟨d0, d1, d2, d3⟩ := v_cells hb1
  have HJ := Lib.hid hj
  clear hj
  go_wp2_with fail
  refine (HJ.out _).mono ?_
  rintro e w1 ⟨rfl, hf1⟩
  have hb3 := hf1.obj (fun x => x) hb3
  have hz := frozen_of_obj hb3
  obtain ⟨z0, z1, z2, z3⟩ := v_cells (v := zV) hb3
  have hfw := hfw.trans hf1
  go_wp2_with fail
  refine bodyPost_ret (ret_val2 rfl _ _ (w.heap.size + 2) r.1 _ rfl rfl ?_) rfl ⟨?_, ?_⟩
  · exact obj_setCell (obj_setCell (obj_setCell (obj_setCell hb3 0 _) 1 _) 2 _) 3 _
  · rfl
  · exact ((((hfw.setCell (fun h => by dsimp only at h; omega) _).setCell (fun h => by dsimp only at h; omega) _).setCell (fun h => by dsimp only at h; omega) _).setCell (fun h => by dsimp only at h; omega) _)

end Go.Proofs.Ytcncjghcnofioaa
