/- The walk of package logic's Neg. The condition: the number is of 64 bits. -/
import Derived.Test.YtcncjghcnofioaaLogicD
import Derived.Deep.RegionHeld3
namespace Go.Proofs.Ytcncjghcnofioaa
open Go.RowKit

def negV (a : V) : V × Int := numV (intV 0) a (wrap64 (0 - a.n)) (okI (0 - a.n))

set_option maxHeartbeats 4000000 in
theorem neg_any (a : V) (ha : -9223372036854775808 ≤ a.n ∧ a.n ≤ 9223372036854775807) (w : World) : Calls Try.prog 24 #[vV a] w fun e w' => e = .returned (.tuple #[vV (negV a).1, .int .i64 (negV a).2]) ∧ Fr noB w w' := by
  obtain ⟨hb0, hb1⟩ := three_new w (.cells #[.int .u8 a.k, .int .i64 a.n, .int .i64 a.hi, .string a.t] 23) (.cells #[.int .u8 0, .int .i64 0, .int .i64 0, .string ⟨#[]⟩] 23)
  have hfw : Fr noB w ((w.alloc (.cells #[.int .u8 a.k, .int .i64 a.n, .int .i64 a.hi, .string a.t] 23)).alloc (.cells #[.int .u8 0, .int .i64 0, .int .i64 0, .string ⟨#[]⟩] 23)) := ((Fr.refl _ _).alloc _).alloc _
  have hI : ∀ X : World, Calls Try.prog 19 #[.int .i64 0] X fun e w' => e = .returned (vV (intV 0)) ∧ Fr noB X w' := int_any 0
  have hS : ∀ X : World, Calls Try.prog 22 #[vV (intV 0), vV a] X fun e w' => e = .returned (.tuple #[vV (negV a).1, .int .i64 (negV a).2]) ∧ Fr noB X w' := fun X => sub_any (intV 0) a (by simp [intV]) ha X
  generalize negV a = r at *
  unfold vV at hI hS ⊢
  simp only [intV] at hI hS
  have HI := Lib.hid hI; have HS := Lib.hid hS
  clear hI hS
  go_enter Try.func24, Try.ntmps24
  go_upto_region 1 with fail
  generalize ((w.alloc (.cells #[.int .u8 a.k, .int .i64 a.n, .int .i64 a.hi, .string a.t] 23)).alloc (.cells #[.int .u8 0, .int .i64 0, .int .i64 0, .string ⟨#[]⟩] 23)) = W0 at *
  obtain ⟨c0, c1, c2, c3⟩ := v_cells hb0
  have hd : Fr noB W0 W0.drew := (Fr.refl _ _).drew
  have HB1 := Lib.hid hb1
  clear hb1
  go_region_held3 (fun X : World => X.cell? ⟨w.heap.size, 0, none⟩ = some (.int .u8 a.k) ∧ X.cell? ⟨w.heap.size, 1, none⟩ = some (.int .i64 a.n) ∧ X.cell? ⟨w.heap.size, 2, none⟩ = some (.int .i64 a.hi) ∧ X.cell? ⟨w.heap.size, 3, none⟩ = some (.string a.t)) (first | exact ⟨c0, c1, c2, c3⟩ | exact v_cells (hF1.obj (fun x => x) hb0) | exact v_cells ((hF1.trans hF2).obj (fun x => x) hb0) | exact v_cells (obj_setCell_other (obj_setCell_other (obj_setCell_other (obj_setCell_other ((hF1.trans hF2).obj (fun x => x) hb0) _ _ (by dsimp only; omega)) _ _ (by dsimp only; omega)) _ _ (by dsimp only; omega)) _ _ (by dsimp only; omega)) | exact v_cells (hd.obj (fun x => x) hb0)) (first | (go_at_call 19; refine (HI.out _).mono ?_; rintro e w1 ⟨rfl, hF1⟩) | (go_at_call 22; refine (HS.out _).mono ?_; rintro e w2 ⟨rfl, hF2⟩; have hbq := (hF1.trans hF2).obj (fun x => x) HB1.out; have hz := frozen_of_obj hbq; obtain ⟨z0, z1, z2, z3⟩ := v_cells (v := zV) hbq))
  go_wp2_with fail
  refine bodyPost_ret (ret_val2 rfl _ _ (w.heap.size + 1) r.1 _ rfl rfl ?_) rfl ⟨?_, ?_⟩
  · exact obj_setCell (obj_setCell (obj_setCell (obj_setCell hbq 0 _) 1 _) 2 _) 3 _
  · rfl
  · exact (((((hfw.trans hd).trans (hF1.trans hF2)).setCell (fun h => by dsimp only at h; omega) _).setCell (fun h => by dsimp only at h; omega) _).setCell (fun h => by dsimp only at h; omega) _).setCell (fun h => by dsimp only at h; omega) _

end Go.Proofs.Ytcncjghcnofioaa
