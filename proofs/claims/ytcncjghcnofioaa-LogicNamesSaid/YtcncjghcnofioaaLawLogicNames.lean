/- The walk of LogicNames. No condition. -/
import Derived.Test.YtcncjghcnofioaaRef2
import Derived.Test.YtcncjghcnofioaaBx
import Derived.Test.YtcncjghcnofioaaAwake
import Derived.Test.YtcncjghcnofioaaLogicM
import Derived.Test.YtcncjghcnofioaaNumI
import Derived.Test.YtcncjghcnofioaaExt
namespace Go.Proofs.Ytcncjghcnofioaa
open Go.RowKit

theorem eqv_lit (a b : V) (r : Bool) (h : eqV a b = r) (w : World) : (binOp .eql 23 (.agg #[.int .u8 a.k, .int .i64 a.n, .int .i64 a.hi, .string a.t]) (.agg #[.int .u8 b.k, .int .i64 b.n, .int .i64 b.hi, .string b.t])).run Try.prog w = .ok (.bool r) w := by
  rw [eqv_run, h]
theorem neqv_lit (a b : V) (r : Bool) (h : eqV a b = !r) (w : World) : (binOp .neq 23 (.agg #[.int .u8 a.k, .int .i64 a.n, .int .i64 a.hi, .string a.t]) (.agg #[.int .u8 b.k, .int .i64 b.n, .int .i64 b.hi, .string b.t])).run Try.prog w = .ok (.bool r) w := by
  rw [neqv_run, h, Bool.not_not]

def B3 (w : World) (g : Nat) : Prop := w.heap[g]? = some (.cells #[.int .u8 2, .int .i64 0, .int .i64 0, .string ⟨#[]⟩, .int .u8 2, .int .i64 1, .int .i64 0, .string ⟨#[]⟩, .int .u8 0, .int .i64 0, .int .i64 0, .string ⟨#[]⟩] 23 (0, 0))
theorem B3.raw {w : World} {g : Nat} (h : B3 w g) : w.heap[g]? = some (.cells #[.int .u8 2, .int .i64 0, .int .i64 0, .string ⟨#[]⟩, .int .u8 2, .int .i64 1, .int .i64 0, .string ⟨#[]⟩, .int .u8 0, .int .i64 0, .int .i64 0, .string ⟨#[]⟩] 23 (0, 0)) := h
theorem B3.lt {w : World} {g : Nat} (h : B3 w g) : g < w.heap.size := obj_lt h
theorem B3.mv {w w' : World} {g : Nat} (h : B3 w g) (hf : Fr noB w w') : B3 w' g := hf.obj (fun x => x) h
theorem B3.cs {w : World} {g : Nat} (h : B3 w g) : w.cell? ⟨g, 0, none⟩ = some (.int .u8 2) ∧ w.cell? ⟨g, 1, none⟩ = some (.int .i64 0) ∧ w.cell? ⟨g, 2, none⟩ = some (.int .i64 0) ∧ w.cell? ⟨g, 3, none⟩ = some (.string ⟨#[]⟩) ∧ w.cell? ⟨g, 4, none⟩ = some (.int .u8 2) ∧ w.cell? ⟨g, 5, none⟩ = some (.int .i64 1) ∧ w.cell? ⟨g, 6, none⟩ = some (.int .i64 0) ∧ w.cell? ⟨g, 7, none⟩ = some (.string ⟨#[]⟩) ∧ w.cell? ⟨g, 8, none⟩ = some (.int .u8 0) ∧ w.cell? ⟨g, 9, none⟩ = some (.int .i64 0) ∧ w.cell? ⟨g, 10, none⟩ = some (.int .i64 0) ∧ w.cell? ⟨g, 11, none⟩ = some (.string ⟨#[]⟩) ∧ ∀ o, w.frozen? ⟨g, o, none⟩ = false := by
  have e : w.heap[g]? = some (.cells #[.int .u8 2, .int .i64 0, .int .i64 0, .string ⟨#[]⟩, .int .u8 2, .int .i64 1, .int .i64 0, .string ⟨#[]⟩, .int .u8 0, .int .i64 0, .int .i64 0, .string ⟨#[]⟩] 23 (0, 0)) := h
  refine ⟨?_, ?_, ?_, ?_, ?_, ?_, ?_, ?_, ?_, ?_, ?_, ?_, frozen_of_obj e⟩ <;> (rw [cell_of_obj e]; rfl)
def A3 (w : World) (g : Nat) : Prop := w.heap[g]? = some (.cells #[(.int .i64 0), (.int .i64 2), (.int .i64 1)] 40 (0, 0))
theorem A3.raw {w : World} {g : Nat} (h : A3 w g) : w.heap[g]? = some (.cells #[(.int .i64 0), (.int .i64 2), (.int .i64 1)] 40 (0, 0)) := h
theorem A3.lt {w : World} {g : Nat} (h : A3 w g) : g < w.heap.size := obj_lt h
theorem A3.mv {w w' : World} {g : Nat} (h : A3 w g) (hf : Fr noB w w') : A3 w' g := hf.obj (fun x => x) h
theorem A3.cs {w : World} {g : Nat} (h : A3 w g) : w.cell? ⟨g, 0, none⟩ = some ((.int .i64 0)) ∧ w.cell? ⟨g, 1, none⟩ = some ((.int .i64 2)) ∧ w.cell? ⟨g, 2, none⟩ = some ((.int .i64 1)) ∧ ∀ o, w.frozen? ⟨g, o, none⟩ = false := by
  have e : w.heap[g]? = some (.cells #[(.int .i64 0), (.int .i64 2), (.int .i64 1)] 40 (0, 0)) := h
  refine ⟨?_, ?_, ?_, frozen_of_obj e⟩ <;> (rw [cell_of_obj e]; rfl)
set_option maxRecDepth 100000 in
set_option maxHeartbeats 40000000 in
theorem names_law (w : World) :
    Calls Try.prog 6 #[] w fun e w' => e = .returned (.bool true) ∧ Fr noB w w' := by
  have HR0 := Lib.hid (show ∀ W : World, Calls Try.prog 32 #[.bool false] W fun e w' => e = .returned (.agg #[.int .u8 2, .int .i64 0, .int .i64 0, .string ⟨#[]⟩]) ∧ Fr noB W w' from fun W => rof_false W)
  have HR1 := Lib.hid (show ∀ W : World, Calls Try.prog 32 #[.bool true] W fun e w' => e = .returned (.agg #[.int .u8 2, .int .i64 1, .int .i64 0, .string ⟨#[]⟩]) ∧ Fr noB W w' from fun W => rof_true W)
  go_enter Try.func6, Try.ntmps6
  go_wp2_with fail
  have hfw_0 := Fr.refl noB w
  refine (HR0.out _).mono ?_
  rintro e w1 ⟨rfl, hf1⟩
  have hl := hfw_0.size
  have hfw_1 : Fr noB w w1 := by
    refine Fr.transN ?_ hf1
    repeat (first | with_reducible exact hfw_0 | with_reducible refine Fr.alloc ?_ _ | (with_reducible refine Fr.setCell ?_ ?_ _; rotate_left; (intro h; dsimp only at h; omega)) | with_reducible refine Fr.drew ?_ | exact hfw_0)
  clear hl hf1 hfw_0
  go_wp2_with fail
  refine (HR1.out _).mono ?_
  rintro e w2 ⟨rfl, hf2⟩
  have hl := hfw_1.size
  have hfw_2 : Fr noB w w2 := by
    refine Fr.transN ?_ hf2
    repeat (first | with_reducible exact hfw_1 | with_reducible refine Fr.alloc ?_ _ | (with_reducible refine Fr.setCell ?_ ?_ _; rotate_left; (intro h; dsimp only at h; omega)) | with_reducible refine Fr.drew ?_ | exact hfw_1)
  clear hl hf2 hfw_1
  go_upto_region 2 with fail
  have hl := hfw_2.size
  refine wp_world (fun W => Fr noB w W ∧ B3 W w2.heap.size) ?_ ?_
  · refine ⟨?_, ?_⟩ <;> ((first | unfold Bx | unfold Bl | unfold B3 | unfold A3 | skip); repeat (first | with_reducible exact hfw_2 | with_reducible refine Fr.alloc ?_ _ | (with_reducible refine Fr.setCell ?_ ?_ _; rotate_left; (intro h; dsimp only at h; omega)) | with_reducible refine Fr.drew ?_ | (with_reducible refine obj_alloc_at ?_; simp; done) | (with_reducible apply obj_put4; omega) | (with_reducible apply obj_put1; omega) | (with_reducible refine obj_setCell_other ?_ _ _ ?_; rotate_left; (dsimp only; omega)) | with_reducible refine obj_alloc ?_ _ | with_reducible refine obj_drew ?_ | exact hfw_2))
  clear hl hfw_2
  rintro w3 ⟨hfw_3, hbl_3⟩
  obtain ⟨cl_0, cl_1, cl_2, cl_3, cl_4, cl_5, cl_6, cl_7, cl_8, cl_9, cl_10, cl_11, zl⟩ := hbl_3.cs
  go_wp2_with fail
  go_loopg [2] 3 (fun gh iv wr => ∃ i : Nat, i ≤ 3 ∧ gh = 3 - i ∧ iv = .int .i64 i ∧ Fr noB w3 wr)
  case atStart => exact ⟨0, by omega, by omega, rfl, Fr.refl _ _⟩
  case round =>
    obtain ⟨i, hi, rfl, rfl, hf⟩ := hrel
    have hi' : i = 0 ∨ i = 1 ∨ i = 2 ∨ i = 3 := by omega
    rcases hi' with rfl | rfl | rfl | rfl
    · clear hi
      obtain ⟨wo0, rfl⟩ : ∃ x, x = wr := ⟨_, rfl⟩
      have hbl_4 := hbl_3.mv hf
      clear hbl_3 cl_0 cl_1 cl_2 cl_3 cl_4 cl_5 cl_6 cl_7 cl_8 cl_9 cl_10 cl_11 zl
      obtain ⟨cl_0, cl_1, cl_2, cl_3, cl_4, cl_5, cl_6, cl_7, cl_8, cl_9, cl_10, cl_11, zl⟩ := hbl_4.cs
      go_wp2_with fail
      have hf0 := hf
      go_loopg [3] 3 (fun gh iv wr => ∃ i : Nat, i ≤ 3 ∧ gh = 3 - i ∧ iv = .int .i64 i ∧ Fr noB wo0 wr)
      case atStart => exact ⟨0, by omega, by omega, rfl, Fr.refl _ _⟩
      case round =>
        clear hf
        obtain ⟨i, hi, rfl, rfl, hf⟩ := hrel
        have hi' : i = 0 ∨ i = 1 ∨ i = 2 ∨ i = 3 := by omega
        rcases hi' with rfl | rfl | rfl | rfl
        · clear hi
          obtain ⟨wi0, rfl⟩ : ∃ x, x = wr := ⟨_, rfl⟩
          have hbl_5 := hbl_4.mv hf
          clear hbl_4 cl_0 cl_1 cl_2 cl_3 cl_4 cl_5 cl_6 cl_7 cl_8 cl_9 cl_10 cl_11 zl
          obtain ⟨cl_0, cl_1, cl_2, cl_3, cl_4, cl_5, cl_6, cl_7, cl_8, cl_9, cl_10, cl_11, zl⟩ := hbl_5.cs
          have HA := Lib.hid (show ∀ W : World, Calls Try.prog 29 #[.agg #[.int .u8 2, .int .i64 0, .int .i64 0, .string ⟨#[]⟩], .agg #[.int .u8 2, .int .i64 0, .int .i64 0, .string ⟨#[]⟩]] W fun e w' => e = .returned (.tuple #[.agg #[.int .u8 2, .int .i64 0, .int .i64 0, .string ⟨#[]⟩], .int .i64 0]) ∧ Fr noB W w' from fun W => and_any noV noV W)
          have HO := Lib.hid (show ∀ W : World, Calls Try.prog 31 #[.agg #[.int .u8 2, .int .i64 0, .int .i64 0, .string ⟨#[]⟩], .agg #[.int .u8 2, .int .i64 0, .int .i64 0, .string ⟨#[]⟩]] W fun e w' => e = .returned (.tuple #[.agg #[.int .u8 2, .int .i64 0, .int .i64 0, .string ⟨#[]⟩], .int .i64 0]) ∧ Fr noB W w' from fun W => or_any noV noV W)
          go_upto_region 8 with fail
          have ll := hbl_5.lt
          have hl := hf.size
          refine wp_world (fun W => Fr noB wo0 W ∧ B3 W w2.heap.size) ?_ ?_
          · refine ⟨?_, ?_⟩ <;> ((first | unfold Bx | unfold Bl | unfold B3 | unfold A3 | skip); repeat (first | with_reducible exact hf | with_reducible refine Fr.alloc ?_ _ | (with_reducible refine Fr.setCell ?_ ?_ _; rotate_left; (intro h; dsimp only at h; omega)) | with_reducible refine Fr.drew ?_ | with_reducible exact hbl_5.raw | (with_reducible refine obj_alloc_at ?_; simp; done) | (with_reducible apply obj_put4; omega) | (with_reducible apply obj_put1; omega) | (with_reducible refine obj_setCell_other ?_ _ _ ?_; rotate_left; (dsimp only; omega)) | with_reducible refine obj_alloc ?_ _ | with_reducible refine obj_drew ?_ | exact hf))
          clear hbl_5 ll hl cl_0 cl_1 cl_2 cl_3 cl_4 cl_5 cl_6 cl_7 cl_8 cl_9 cl_10 cl_11 zl hf
          rintro w6 ⟨hfw_6, hbl_6⟩
          obtain ⟨cl_0, cl_1, cl_2, cl_3, cl_4, cl_5, cl_6, cl_7, cl_8, cl_9, cl_10, cl_11, zl⟩ := hbl_6.cs
          go_cut [4, 5] (fun s4 s5 wx => ∃ qa : Nat, s4 = .pointer (some ⟨qa, 0, none⟩) ∧ s5 = .int .i64 0 ∧ Fr noB w6 wx ∧ w6.heap.size ≤ qa ∧ Bl wx qa 2 0 0)
          case first => as_aux_lemma =>
            have hql := obj_drew hbl_6.raw
            have fz : ∀ (X : World) (o : Nat), (X.alloc (.cells #[.int .u8 0, .int .i64 0, .int .i64 0, .string ⟨#[]⟩] 23 (0, 0))).frozen? ⟨X.heap.size, o, none⟩ = false := fun X o => frozen_of_obj (obj_alloc_new X _) o
            have fc : ∀ X : World, (X.alloc (.cells #[.int .u8 0, .int .i64 0, .int .i64 0, .string ⟨#[]⟩] 23 (0, 0))).cell? ⟨X.heap.size, 0, none⟩ = some (.int .u8 0) ∧ (X.alloc (.cells #[.int .u8 0, .int .i64 0, .int .i64 0, .string ⟨#[]⟩] 23 (0, 0))).cell? ⟨X.heap.size, 1, none⟩ = some (.int .i64 0) ∧ (X.alloc (.cells #[.int .u8 0, .int .i64 0, .int .i64 0, .string ⟨#[]⟩] 23 (0, 0))).cell? ⟨X.heap.size, 2, none⟩ = some (.int .i64 0) ∧ (X.alloc (.cells #[.int .u8 0, .int .i64 0, .int .i64 0, .string ⟨#[]⟩] 23 (0, 0))).cell? ⟨X.heap.size, 3, none⟩ = some (.string ⟨#[]⟩) := fun X => v_cells (v := zV) (obj_alloc_new X _)
            have ll := hbl_6.lt
            have hdq : w6.drew.heap.size = w6.heap.size := rfl
            have hvl : ∀ X : World, X.heap[w2.heap.size]? = some (.cells #[.int .u8 2, .int .i64 0, .int .i64 0, .string ⟨#[]⟩, .int .u8 2, .int .i64 1, .int .i64 0, .string ⟨#[]⟩, .int .u8 0, .int .i64 0, .int .i64 0, .string ⟨#[]⟩] 23 (0, 0)) → X.cell? ⟨w2.heap.size, 0, none⟩ = some (.int .u8 2) ∧ X.cell? ⟨w2.heap.size, 1, none⟩ = some (.int .i64 0) ∧ X.cell? ⟨w2.heap.size, 2, none⟩ = some (.int .i64 0) ∧ X.cell? ⟨w2.heap.size, 3, none⟩ = some (.string ⟨#[]⟩) := fun X h => ⟨by rw [cell_of_obj h]; rfl, by rw [cell_of_obj h]; rfl, by rw [cell_of_obj h]; rfl, by rw [cell_of_obj h]; rfl⟩
            go_region_held3 (fun X : World => X.cell? ⟨w2.heap.size, 0, none⟩ = some (.int .u8 2) ∧ X.cell? ⟨w2.heap.size, 1, none⟩ = some (.int .i64 0) ∧ X.cell? ⟨w2.heap.size, 2, none⟩ = some (.int .i64 0) ∧ X.cell? ⟨w2.heap.size, 3, none⟩ = some (.string ⟨#[]⟩)) ((refine (hvl _ ?_) <;> repeat (first | with_reducible exact hql | with_reducible exact hbl_6.raw | with_reducible refine obj_alloc ?_ _ | (with_reducible refine obj_setCell_other ?_ _ _ ?_; rotate_left; (dsimp only; omega)) | with_reducible refine obj_drew ?_))) (first | (go_at_call 29; refine (HA.out _).mono ?_; rintro e x0 ⟨rfl, hG0⟩; have k0 := hG0.size; refine have_of (p := x0.heap[w2.heap.size]? = some (.cells #[.int .u8 2, .int .i64 0, .int .i64 0, .string ⟨#[]⟩, .int .u8 2, .int .i64 1, .int .i64 0, .string ⟨#[]⟩, .int .u8 0, .int .i64 0, .int .i64 0, .string ⟨#[]⟩] 23 (0, 0))) ?_ (fun hql => ?_); (focus (refine hG0.obj (noB_not _) ?_; repeat (first | with_reducible exact hql | with_reducible exact hbl_6.raw | with_reducible refine obj_alloc ?_ _ | with_reducible refine obj_drew ?_))); (first | (have hnn := hG0.obj (fun x => x) hnn) | (with_reducible have hnn := hG0.obj (noB_not _) (obj_alloc_new _ _)) | (with_reducible have hnn := hG0.obj (noB_not _) (obj_drew (obj_alloc_new _ _))) | skip); (first | (have znn := frozen_of_obj hnn; obtain ⟨n0, n1, n2, n3⟩ := v_cells (v := zV) hnn) | skip)))
            all_goals (go_wp2_with fail; go_meet)
            all_goals (have hfr0 := Fr.refl noB w6; refine ⟨_, rfl, rfl, ?_, ?_, ?_⟩)
            all_goals (first | ((repeat (first | with_reducible exact hfr0 | with_reducible refine Fr.transN ?_ hG0 | with_reducible refine Fr.alloc ?_ _ | (with_reducible refine Fr.setCell ?_ ?_ _; rotate_left; (intro h; dsimp only at h; omega)) | with_reducible refine Fr.drew ?_ | exact hfr0)); done) | ((try simp only [World.size_alloc] at k0); omega) | (((first | unfold Bx | unfold Bl | unfold B3 | unfold A3 | skip); repeat (first | with_reducible exact hnn | (with_reducible refine obj_alloc_at ?_; simp; done) | (with_reducible apply obj_put4; omega) | (with_reducible refine obj_setCell_other ?_ _ _ ?_; rotate_left; (dsimp only; omega)) | with_reducible refine obj_alloc ?_ _ | with_reducible refine obj_drew ?_)); done))
          case rest =>
            obtain ⟨qa, rfl, rfl, hf7, hga, hba_7⟩ := hcut
            obtain ⟨w7, rfl⟩ : ∃ x, x = wc := ⟨_, rfl⟩
            have o0 := Lib.hid (hbl_6.lt)
            have o1 := Lib.hid hga
            have hbl_7 := hbl_6.mv hf7
            have hfw_7 := hfw_6.transN hf7
            clear hbl_6 cl_0 cl_1 cl_2 cl_3 cl_4 cl_5 cl_6 cl_7 cl_8 cl_9 cl_10 cl_11 zl hf7 hfw_6 hga
            obtain ⟨cl_0, cl_1, cl_2, cl_3, cl_4, cl_5, cl_6, cl_7, cl_8, cl_9, cl_10, cl_11, zl⟩ := hbl_7.cs
            obtain ⟨ca_0, ca_1, ca_2, ca_3, za⟩ := hba_7.cs
            go_upto_region 9 with fail
            have ll := hbl_7.lt
            have la := hba_7.lt
            have hl := hfw_7.size
            have po0 := o0.out
            have po1 := o1.out
            refine wp_world (fun W => Fr noB wo0 W ∧ B3 W w2.heap.size ∧ Bl W qa 2 0 0) ?_ ?_
            · refine ⟨?_, ?_, ?_⟩ <;> ((first | unfold Bx | unfold Bl | unfold B3 | unfold A3 | skip); repeat (first | with_reducible exact hfw_7 | with_reducible refine Fr.alloc ?_ _ | (with_reducible refine Fr.setCell ?_ ?_ _; rotate_left; (intro h; dsimp only at h; omega)) | with_reducible refine Fr.drew ?_ | with_reducible exact hbl_7.raw | with_reducible exact hba_7.raw | (with_reducible refine obj_alloc_at ?_; simp; done) | (with_reducible apply obj_put4; omega) | (with_reducible apply obj_put1; omega) | (with_reducible refine obj_setCell_other ?_ _ _ ?_; rotate_left; (dsimp only; omega)) | with_reducible refine obj_alloc ?_ _ | with_reducible refine obj_drew ?_ | exact hfw_7))
            clear hbl_7 hba_7 ll la hl po0 po1 cl_0 cl_1 cl_2 cl_3 cl_4 cl_5 cl_6 cl_7 cl_8 cl_9 cl_10 cl_11 zl ca_0 ca_1 ca_2 ca_3 za hfw_7
            rintro w8 ⟨hfw_8, hbl_8, hba_8⟩
            obtain ⟨cl_0, cl_1, cl_2, cl_3, cl_4, cl_5, cl_6, cl_7, cl_8, cl_9, cl_10, cl_11, zl⟩ := hbl_8.cs
            obtain ⟨ca_0, ca_1, ca_2, ca_3, za⟩ := hba_8.cs
            go_cut [6, 7] (fun s6 s7 wx => ∃ qo : Nat, s6 = .pointer (some ⟨qo, 0, none⟩) ∧ s7 = .int .i64 0 ∧ Fr noB w8 wx ∧ w8.heap.size ≤ qo ∧ Bl wx qo 2 0 0)
            case first => as_aux_lemma =>
              have hql := obj_drew hbl_8.raw
              have fz : ∀ (X : World) (o : Nat), (X.alloc (.cells #[.int .u8 0, .int .i64 0, .int .i64 0, .string ⟨#[]⟩] 23 (0, 0))).frozen? ⟨X.heap.size, o, none⟩ = false := fun X o => frozen_of_obj (obj_alloc_new X _) o
              have fc : ∀ X : World, (X.alloc (.cells #[.int .u8 0, .int .i64 0, .int .i64 0, .string ⟨#[]⟩] 23 (0, 0))).cell? ⟨X.heap.size, 0, none⟩ = some (.int .u8 0) ∧ (X.alloc (.cells #[.int .u8 0, .int .i64 0, .int .i64 0, .string ⟨#[]⟩] 23 (0, 0))).cell? ⟨X.heap.size, 1, none⟩ = some (.int .i64 0) ∧ (X.alloc (.cells #[.int .u8 0, .int .i64 0, .int .i64 0, .string ⟨#[]⟩] 23 (0, 0))).cell? ⟨X.heap.size, 2, none⟩ = some (.int .i64 0) ∧ (X.alloc (.cells #[.int .u8 0, .int .i64 0, .int .i64 0, .string ⟨#[]⟩] 23 (0, 0))).cell? ⟨X.heap.size, 3, none⟩ = some (.string ⟨#[]⟩) := fun X => v_cells (v := zV) (obj_alloc_new X _)
              have ll := hbl_8.lt
              have hdq : w8.drew.heap.size = w8.heap.size := rfl
              have hvl : ∀ X : World, X.heap[w2.heap.size]? = some (.cells #[.int .u8 2, .int .i64 0, .int .i64 0, .string ⟨#[]⟩, .int .u8 2, .int .i64 1, .int .i64 0, .string ⟨#[]⟩, .int .u8 0, .int .i64 0, .int .i64 0, .string ⟨#[]⟩] 23 (0, 0)) → X.cell? ⟨w2.heap.size, 0, none⟩ = some (.int .u8 2) ∧ X.cell? ⟨w2.heap.size, 1, none⟩ = some (.int .i64 0) ∧ X.cell? ⟨w2.heap.size, 2, none⟩ = some (.int .i64 0) ∧ X.cell? ⟨w2.heap.size, 3, none⟩ = some (.string ⟨#[]⟩) := fun X h => ⟨by rw [cell_of_obj h]; rfl, by rw [cell_of_obj h]; rfl, by rw [cell_of_obj h]; rfl, by rw [cell_of_obj h]; rfl⟩
              go_region_held3 (fun X : World => X.cell? ⟨w2.heap.size, 0, none⟩ = some (.int .u8 2) ∧ X.cell? ⟨w2.heap.size, 1, none⟩ = some (.int .i64 0) ∧ X.cell? ⟨w2.heap.size, 2, none⟩ = some (.int .i64 0) ∧ X.cell? ⟨w2.heap.size, 3, none⟩ = some (.string ⟨#[]⟩)) ((refine (hvl _ ?_) <;> repeat (first | with_reducible exact hql | with_reducible exact hbl_8.raw | with_reducible refine obj_alloc ?_ _ | (with_reducible refine obj_setCell_other ?_ _ _ ?_; rotate_left; (dsimp only; omega)) | with_reducible refine obj_drew ?_))) (first | (go_at_call 31; refine (HO.out _).mono ?_; rintro e x0 ⟨rfl, hG0⟩; have k0 := hG0.size; refine have_of (p := x0.heap[w2.heap.size]? = some (.cells #[.int .u8 2, .int .i64 0, .int .i64 0, .string ⟨#[]⟩, .int .u8 2, .int .i64 1, .int .i64 0, .string ⟨#[]⟩, .int .u8 0, .int .i64 0, .int .i64 0, .string ⟨#[]⟩] 23 (0, 0))) ?_ (fun hql => ?_); (focus (refine hG0.obj (noB_not _) ?_; repeat (first | with_reducible exact hql | with_reducible exact hbl_8.raw | with_reducible refine obj_alloc ?_ _ | with_reducible refine obj_drew ?_))); (first | (have hnn := hG0.obj (fun x => x) hnn) | (with_reducible have hnn := hG0.obj (noB_not _) (obj_alloc_new _ _)) | (with_reducible have hnn := hG0.obj (noB_not _) (obj_drew (obj_alloc_new _ _))) | skip); (first | (have znn := frozen_of_obj hnn; obtain ⟨n0, n1, n2, n3⟩ := v_cells (v := zV) hnn) | skip)))
              all_goals (go_wp2_with fail; go_meet)
              all_goals (have hfr0 := Fr.refl noB w8; refine ⟨_, rfl, rfl, ?_, ?_, ?_⟩)
              all_goals (first | ((repeat (first | with_reducible exact hfr0 | with_reducible refine Fr.transN ?_ hG0 | with_reducible refine Fr.alloc ?_ _ | (with_reducible refine Fr.setCell ?_ ?_ _; rotate_left; (intro h; dsimp only at h; omega)) | with_reducible refine Fr.drew ?_ | exact hfr0)); done) | ((try simp only [World.size_alloc] at k0); omega) | (((first | unfold Bx | unfold Bl | unfold B3 | unfold A3 | skip); repeat (first | with_reducible exact hnn | (with_reducible refine obj_alloc_at ?_; simp; done) | (with_reducible apply obj_put4; omega) | (with_reducible refine obj_setCell_other ?_ _ _ ?_; rotate_left; (dsimp only; omega)) | with_reducible refine obj_alloc ?_ _ | with_reducible refine obj_drew ?_)); done))
            case rest =>
              obtain ⟨qo, rfl, rfl, hf9, hgo, hbo_9⟩ := hcut
              obtain ⟨w9, rfl⟩ : ∃ x, x = wc := ⟨_, rfl⟩
              have o2 := Lib.hid (hba_8.lt)
              have o3 := Lib.hid hgo
              have hbl_9 := hbl_8.mv hf9
              have hba_9 := hba_8.mv hf9
              have hfw_9 := hfw_8.transN hf9
              clear hbl_8 hba_8 cl_0 cl_1 cl_2 cl_3 cl_4 cl_5 cl_6 cl_7 cl_8 cl_9 cl_10 cl_11 zl ca_0 ca_1 ca_2 ca_3 za hf9 hfw_8 hgo
              obtain ⟨cl_0, cl_1, cl_2, cl_3, cl_4, cl_5, cl_6, cl_7, cl_8, cl_9, cl_10, cl_11, zl⟩ := hbl_9.cs
              obtain ⟨ca_0, ca_1, ca_2, ca_3, za⟩ := hba_9.cs
              obtain ⟨co_0, co_1, co_2, co_3, zo⟩ := hbo_9.cs
              go_upto_region 11 with fail
              have o4 := Lib.hid (hbo_9.lt)
              have ll := hbl_9.lt
              have la := hba_9.lt
              have lo := hbo_9.lt
              have hl := hfw_9.size
              have po0 := o0.out
              have po1 := o1.out
              have po2 := o2.out
              have po3 := o3.out
              have po4 := o4.out
              refine wp_world (fun W => Fr noB wo0 W ∧ B3 W w2.heap.size ∧ Bl W qa 2 0 0 ∧ Bl W qo 2 0 0 ∧ A3 W w9.heap.size) ?_ ?_
              · refine ⟨?_, ?_, ?_, ?_, ?_⟩ <;> ((first | unfold Bx | unfold Bl | unfold B3 | unfold A3 | skip); repeat (first | with_reducible exact hfw_9 | with_reducible refine Fr.alloc ?_ _ | (with_reducible refine Fr.setCell ?_ ?_ _; rotate_left; (intro h; dsimp only at h; omega)) | with_reducible refine Fr.drew ?_ | with_reducible exact hbl_9.raw | with_reducible exact hba_9.raw | with_reducible exact hbo_9.raw | (with_reducible refine obj_alloc_at ?_; simp; done) | (with_reducible apply obj_put4; omega) | (with_reducible apply obj_put1; omega) | (with_reducible refine obj_setCell_other ?_ _ _ ?_; rotate_left; (dsimp only; omega)) | with_reducible refine obj_alloc ?_ _ | with_reducible refine obj_drew ?_ | exact hfw_9))
              clear hbl_9 hba_9 hbo_9 ll la lo hl po0 po1 po2 po3 po4 cl_0 cl_1 cl_2 cl_3 cl_4 cl_5 cl_6 cl_7 cl_8 cl_9 cl_10 cl_11 zl ca_0 ca_1 ca_2 ca_3 za co_0 co_1 co_2 co_3 zo hfw_9
              rintro w10 ⟨hfw_10, hbl_10, hba_10, hbo_10, hbr_10⟩
              obtain ⟨cl_0, cl_1, cl_2, cl_3, cl_4, cl_5, cl_6, cl_7, cl_8, cl_9, cl_10, cl_11, zl⟩ := hbl_10.cs
              obtain ⟨ca_0, ca_1, ca_2, ca_3, za⟩ := hba_10.cs
              obtain ⟨co_0, co_1, co_2, co_3, zo⟩ := hbo_10.cs
              obtain ⟨cr_0, cr_1, cr_2, zr⟩ := hbr_10.cs
              go_region
              go_upto_region 13 with fail
              have o5 := Lib.hid (hbr_10.lt)
              have ll := hbl_10.lt
              have la := hba_10.lt
              have lo := hbo_10.lt
              have lr := hbr_10.lt
              have hl := hfw_10.size
              have po0 := o0.out
              have po1 := o1.out
              have po2 := o2.out
              have po3 := o3.out
              have po4 := o4.out
              have po5 := o5.out
              refine wp_world (fun W => Fr noB wo0 W ∧ B3 W w2.heap.size ∧ Bl W qa 2 0 0 ∧ Bl W qo 2 0 0 ∧ A3 W w9.heap.size ∧ A3 W w10.heap.size) ?_ ?_
              · refine ⟨?_, ?_, ?_, ?_, ?_, ?_⟩ <;> ((first | unfold Bx | unfold Bl | unfold B3 | unfold A3 | skip); repeat (first | with_reducible exact hfw_10 | with_reducible refine Fr.alloc ?_ _ | (with_reducible refine Fr.setCell ?_ ?_ _; rotate_left; (intro h; dsimp only at h; omega)) | with_reducible refine Fr.drew ?_ | with_reducible exact hbl_10.raw | with_reducible exact hba_10.raw | with_reducible exact hbo_10.raw | with_reducible exact hbr_10.raw | (with_reducible refine obj_alloc_at ?_; simp; done) | (with_reducible apply obj_put4; omega) | (with_reducible apply obj_put1; omega) | (with_reducible refine obj_setCell_other ?_ _ _ ?_; rotate_left; (dsimp only; omega)) | with_reducible refine obj_alloc ?_ _ | with_reducible refine obj_drew ?_ | exact hfw_10))
              clear hbl_10 hba_10 hbo_10 hbr_10 ll la lo lr hl po0 po1 po2 po3 po4 po5 cl_0 cl_1 cl_2 cl_3 cl_4 cl_5 cl_6 cl_7 cl_8 cl_9 cl_10 cl_11 zl ca_0 ca_1 ca_2 ca_3 za co_0 co_1 co_2 co_3 zo cr_0 cr_1 cr_2 zr hfw_10
              rintro w11 ⟨hfw_11, hbl_11, hba_11, hbo_11, hbr_11, hbs_11⟩
              obtain ⟨cl_0, cl_1, cl_2, cl_3, cl_4, cl_5, cl_6, cl_7, cl_8, cl_9, cl_10, cl_11, zl⟩ := hbl_11.cs
              obtain ⟨ca_0, ca_1, ca_2, ca_3, za⟩ := hba_11.cs
              obtain ⟨co_0, co_1, co_2, co_3, zo⟩ := hbo_11.cs
              obtain ⟨cr_0, cr_1, cr_2, zr⟩ := hbr_11.cs
              obtain ⟨cs_0, cs_1, cs_2, zs⟩ := hbs_11.cs
              have NA : ∀ W : World, (binOp .neq 23 (.agg #[.int .u8 2, .int .i64 0, .int .i64 0, .string ⟨#[]⟩]) (.agg #[.int .u8 2, .int .i64 0, .int .i64 0, .string ⟨#[]⟩])).run Try.prog W = .ok (.bool false) W := neqv_lit noV noV false ((eqV_iff _ _).2 rfl)
              have xl0 := Ext.cell cl_0
              have xl1 := Ext.cell cl_1
              have xl2 := Ext.cell cl_2
              have xl3 := Ext.cell cl_3
              have xl4 := Ext.cell cl_4
              have xl5 := Ext.cell cl_5
              have xl6 := Ext.cell cl_6
              have xl7 := Ext.cell cl_7
              have xl8 := Ext.cell cl_8
              have xl9 := Ext.cell cl_9
              have xl10 := Ext.cell cl_10
              have xl11 := Ext.cell cl_11
              have xa0 := Ext.cell ca_0
              have xa1 := Ext.cell ca_1
              have xa2 := Ext.cell ca_2
              have xa3 := Ext.cell ca_3
              have xo0 := Ext.cell co_0
              have xo1 := Ext.cell co_1
              have xo2 := Ext.cell co_2
              have xo3 := Ext.cell co_3
              have xr0 := Ext.cell cr_0
              have xr1 := Ext.cell cr_1
              have xr2 := Ext.cell cr_2
              have xs0 := Ext.cell cs_0
              have xs1 := Ext.cell cs_1
              have xs2 := Ext.cell cs_2
              clear cl_0 cl_1 cl_2 cl_3 cl_4 cl_5 cl_6 cl_7 cl_8 cl_9 cl_10 cl_11 zl ca_0 ca_1 ca_2 ca_3 za co_0 co_1 co_2 co_3 zo cr_0 cr_1 cr_2 zr cs_0 cs_1 cs_2 zs
              refine wp_region_ext (by kernel_rfl) (by kernel_rfl) ?_
              go_big_quiet_step (fail)
              go_big_quiet_step (fail)
              go_big_quiet_step (fail)
              go_big_quiet_step (fail)
              go_big_quiet_step (fail)
              go_big_quiet_step (fail)
              go_big_quiet_step (fail)
              go_big_quiet_step (fail)
              go_big_quiet_step (fail)
              go_big_quiet_step (fail)
              go_big_quiet_step (fail)
              go_big_quiet_step (fail)
              go_big_quiet_step (fail)
              go_big_quiet_step (fail)
              go_big_quiet_step (fail)
              go_big_quiet_step (fail)
              go_big_quiet_step (fail)
              go_big_quiet_step (fail)
              go_big_quiet_step (fail)
              go_big_quiet_step (fail)
              go_big_quiet_step (fail)
              go_big_quiet_step (fail)
              go_big_quiet_step (fail)
              go_big_quiet_step (fail)
              go_big_quiet_step (fail)
              go_big_quiet_step (fail)
              refine wpQuiet_nil ?_
              rintro _ ⟨⟨w12, hf12⟩, rfl⟩
              have hfw_12 := hfw_11.transN hf12
              clear NA xl0 xl1 xl2 xl3 xl4 xl5 xl6 xl7 xl8 xl9 xl10 xl11 xa0 xa1 xa2 xa3 xo0 xo1 xo2 xo3 xr0 xr1 xr2 xs0 xs1 xs2 hbl_11 hba_11 hbo_11 hbr_11 hbs_11
              go_wp2_with fail
              go_roundg 2
              case measure => omega
              case rel => exact ⟨1, by omega, by omega, by go_num, hfw_12⟩
        · clear hi
          obtain ⟨wi1, rfl⟩ : ∃ x, x = wr := ⟨_, rfl⟩
          have hbl_5 := hbl_4.mv hf
          clear hbl_4 cl_0 cl_1 cl_2 cl_3 cl_4 cl_5 cl_6 cl_7 cl_8 cl_9 cl_10 cl_11 zl
          obtain ⟨cl_0, cl_1, cl_2, cl_3, cl_4, cl_5, cl_6, cl_7, cl_8, cl_9, cl_10, cl_11, zl⟩ := hbl_5.cs
          have HA := Lib.hid (show ∀ W : World, Calls Try.prog 29 #[.agg #[.int .u8 2, .int .i64 0, .int .i64 0, .string ⟨#[]⟩], .agg #[.int .u8 2, .int .i64 1, .int .i64 0, .string ⟨#[]⟩]] W fun e w' => e = .returned (.tuple #[.agg #[.int .u8 2, .int .i64 0, .int .i64 0, .string ⟨#[]⟩], .int .i64 0]) ∧ Fr noB W w' from fun W => and_any noV yesV W)
          have HO := Lib.hid (show ∀ W : World, Calls Try.prog 31 #[.agg #[.int .u8 2, .int .i64 0, .int .i64 0, .string ⟨#[]⟩], .agg #[.int .u8 2, .int .i64 1, .int .i64 0, .string ⟨#[]⟩]] W fun e w' => e = .returned (.tuple #[.agg #[.int .u8 2, .int .i64 1, .int .i64 0, .string ⟨#[]⟩], .int .i64 0]) ∧ Fr noB W w' from fun W => or_any noV yesV W)
          go_upto_region 8 with fail
          have ll := hbl_5.lt
          have hl := hf.size
          refine wp_world (fun W => Fr noB wo0 W ∧ B3 W w2.heap.size) ?_ ?_
          · refine ⟨?_, ?_⟩ <;> ((first | unfold Bx | unfold Bl | unfold B3 | unfold A3 | skip); repeat (first | with_reducible exact hf | with_reducible refine Fr.alloc ?_ _ | (with_reducible refine Fr.setCell ?_ ?_ _; rotate_left; (intro h; dsimp only at h; omega)) | with_reducible refine Fr.drew ?_ | with_reducible exact hbl_5.raw | (with_reducible refine obj_alloc_at ?_; simp; done) | (with_reducible apply obj_put4; omega) | (with_reducible apply obj_put1; omega) | (with_reducible refine obj_setCell_other ?_ _ _ ?_; rotate_left; (dsimp only; omega)) | with_reducible refine obj_alloc ?_ _ | with_reducible refine obj_drew ?_ | exact hf))
          clear hbl_5 ll hl cl_0 cl_1 cl_2 cl_3 cl_4 cl_5 cl_6 cl_7 cl_8 cl_9 cl_10 cl_11 zl hf
          rintro w6 ⟨hfw_6, hbl_6⟩
          obtain ⟨cl_0, cl_1, cl_2, cl_3, cl_4, cl_5, cl_6, cl_7, cl_8, cl_9, cl_10, cl_11, zl⟩ := hbl_6.cs
          go_cut [4, 5] (fun s4 s5 wx => ∃ qa : Nat, s4 = .pointer (some ⟨qa, 0, none⟩) ∧ s5 = .int .i64 0 ∧ Fr noB w6 wx ∧ w6.heap.size ≤ qa ∧ Bl wx qa 2 0 0)
          case first => as_aux_lemma =>
            have hql := obj_drew hbl_6.raw
            have fz : ∀ (X : World) (o : Nat), (X.alloc (.cells #[.int .u8 0, .int .i64 0, .int .i64 0, .string ⟨#[]⟩] 23 (0, 0))).frozen? ⟨X.heap.size, o, none⟩ = false := fun X o => frozen_of_obj (obj_alloc_new X _) o
            have fc : ∀ X : World, (X.alloc (.cells #[.int .u8 0, .int .i64 0, .int .i64 0, .string ⟨#[]⟩] 23 (0, 0))).cell? ⟨X.heap.size, 0, none⟩ = some (.int .u8 0) ∧ (X.alloc (.cells #[.int .u8 0, .int .i64 0, .int .i64 0, .string ⟨#[]⟩] 23 (0, 0))).cell? ⟨X.heap.size, 1, none⟩ = some (.int .i64 0) ∧ (X.alloc (.cells #[.int .u8 0, .int .i64 0, .int .i64 0, .string ⟨#[]⟩] 23 (0, 0))).cell? ⟨X.heap.size, 2, none⟩ = some (.int .i64 0) ∧ (X.alloc (.cells #[.int .u8 0, .int .i64 0, .int .i64 0, .string ⟨#[]⟩] 23 (0, 0))).cell? ⟨X.heap.size, 3, none⟩ = some (.string ⟨#[]⟩) := fun X => v_cells (v := zV) (obj_alloc_new X _)
            have ll := hbl_6.lt
            have hdq : w6.drew.heap.size = w6.heap.size := rfl
            have hvl : ∀ X : World, X.heap[w2.heap.size]? = some (.cells #[.int .u8 2, .int .i64 0, .int .i64 0, .string ⟨#[]⟩, .int .u8 2, .int .i64 1, .int .i64 0, .string ⟨#[]⟩, .int .u8 0, .int .i64 0, .int .i64 0, .string ⟨#[]⟩] 23 (0, 0)) → X.cell? ⟨w2.heap.size, 0, none⟩ = some (.int .u8 2) ∧ X.cell? ⟨w2.heap.size, 1, none⟩ = some (.int .i64 0) ∧ X.cell? ⟨w2.heap.size, 2, none⟩ = some (.int .i64 0) ∧ X.cell? ⟨w2.heap.size, 3, none⟩ = some (.string ⟨#[]⟩) ∧ X.cell? ⟨w2.heap.size, 4, none⟩ = some (.int .u8 2) ∧ X.cell? ⟨w2.heap.size, 5, none⟩ = some (.int .i64 1) ∧ X.cell? ⟨w2.heap.size, 6, none⟩ = some (.int .i64 0) ∧ X.cell? ⟨w2.heap.size, 7, none⟩ = some (.string ⟨#[]⟩) := fun X h => ⟨by rw [cell_of_obj h]; rfl, by rw [cell_of_obj h]; rfl, by rw [cell_of_obj h]; rfl, by rw [cell_of_obj h]; rfl, by rw [cell_of_obj h]; rfl, by rw [cell_of_obj h]; rfl, by rw [cell_of_obj h]; rfl, by rw [cell_of_obj h]; rfl⟩
            go_region_held3 (fun X : World => X.cell? ⟨w2.heap.size, 0, none⟩ = some (.int .u8 2) ∧ X.cell? ⟨w2.heap.size, 1, none⟩ = some (.int .i64 0) ∧ X.cell? ⟨w2.heap.size, 2, none⟩ = some (.int .i64 0) ∧ X.cell? ⟨w2.heap.size, 3, none⟩ = some (.string ⟨#[]⟩) ∧ X.cell? ⟨w2.heap.size, 4, none⟩ = some (.int .u8 2) ∧ X.cell? ⟨w2.heap.size, 5, none⟩ = some (.int .i64 1) ∧ X.cell? ⟨w2.heap.size, 6, none⟩ = some (.int .i64 0) ∧ X.cell? ⟨w2.heap.size, 7, none⟩ = some (.string ⟨#[]⟩)) ((refine (hvl _ ?_) <;> repeat (first | with_reducible exact hql | with_reducible exact hbl_6.raw | with_reducible refine obj_alloc ?_ _ | (with_reducible refine obj_setCell_other ?_ _ _ ?_; rotate_left; (dsimp only; omega)) | with_reducible refine obj_drew ?_))) (first | (go_at_call 29; refine (HA.out _).mono ?_; rintro e x0 ⟨rfl, hG0⟩; have k0 := hG0.size; refine have_of (p := x0.heap[w2.heap.size]? = some (.cells #[.int .u8 2, .int .i64 0, .int .i64 0, .string ⟨#[]⟩, .int .u8 2, .int .i64 1, .int .i64 0, .string ⟨#[]⟩, .int .u8 0, .int .i64 0, .int .i64 0, .string ⟨#[]⟩] 23 (0, 0))) ?_ (fun hql => ?_); (focus (refine hG0.obj (noB_not _) ?_; repeat (first | with_reducible exact hql | with_reducible exact hbl_6.raw | with_reducible refine obj_alloc ?_ _ | with_reducible refine obj_drew ?_))); (first | (have hnn := hG0.obj (fun x => x) hnn) | (with_reducible have hnn := hG0.obj (noB_not _) (obj_alloc_new _ _)) | (with_reducible have hnn := hG0.obj (noB_not _) (obj_drew (obj_alloc_new _ _))) | skip); (first | (have znn := frozen_of_obj hnn; obtain ⟨n0, n1, n2, n3⟩ := v_cells (v := zV) hnn) | skip)))
            all_goals (go_wp2_with fail; go_meet)
            all_goals (have hfr0 := Fr.refl noB w6; refine ⟨_, rfl, rfl, ?_, ?_, ?_⟩)
            all_goals (first | ((repeat (first | with_reducible exact hfr0 | with_reducible refine Fr.transN ?_ hG0 | with_reducible refine Fr.alloc ?_ _ | (with_reducible refine Fr.setCell ?_ ?_ _; rotate_left; (intro h; dsimp only at h; omega)) | with_reducible refine Fr.drew ?_ | exact hfr0)); done) | ((try simp only [World.size_alloc] at k0); omega) | (((first | unfold Bx | unfold Bl | unfold B3 | unfold A3 | skip); repeat (first | with_reducible exact hnn | (with_reducible refine obj_alloc_at ?_; simp; done) | (with_reducible apply obj_put4; omega) | (with_reducible refine obj_setCell_other ?_ _ _ ?_; rotate_left; (dsimp only; omega)) | with_reducible refine obj_alloc ?_ _ | with_reducible refine obj_drew ?_)); done))
          case rest =>
            obtain ⟨qa, rfl, rfl, hf7, hga, hba_7⟩ := hcut
            obtain ⟨w7, rfl⟩ : ∃ x, x = wc := ⟨_, rfl⟩
            have o0 := Lib.hid (hbl_6.lt)
            have o1 := Lib.hid hga
            have hbl_7 := hbl_6.mv hf7
            have hfw_7 := hfw_6.transN hf7
            clear hbl_6 cl_0 cl_1 cl_2 cl_3 cl_4 cl_5 cl_6 cl_7 cl_8 cl_9 cl_10 cl_11 zl hf7 hfw_6 hga
            obtain ⟨cl_0, cl_1, cl_2, cl_3, cl_4, cl_5, cl_6, cl_7, cl_8, cl_9, cl_10, cl_11, zl⟩ := hbl_7.cs
            obtain ⟨ca_0, ca_1, ca_2, ca_3, za⟩ := hba_7.cs
            go_upto_region 9 with fail
            have ll := hbl_7.lt
            have la := hba_7.lt
            have hl := hfw_7.size
            have po0 := o0.out
            have po1 := o1.out
            refine wp_world (fun W => Fr noB wo0 W ∧ B3 W w2.heap.size ∧ Bl W qa 2 0 0) ?_ ?_
            · refine ⟨?_, ?_, ?_⟩ <;> ((first | unfold Bx | unfold Bl | unfold B3 | unfold A3 | skip); repeat (first | with_reducible exact hfw_7 | with_reducible refine Fr.alloc ?_ _ | (with_reducible refine Fr.setCell ?_ ?_ _; rotate_left; (intro h; dsimp only at h; omega)) | with_reducible refine Fr.drew ?_ | with_reducible exact hbl_7.raw | with_reducible exact hba_7.raw | (with_reducible refine obj_alloc_at ?_; simp; done) | (with_reducible apply obj_put4; omega) | (with_reducible apply obj_put1; omega) | (with_reducible refine obj_setCell_other ?_ _ _ ?_; rotate_left; (dsimp only; omega)) | with_reducible refine obj_alloc ?_ _ | with_reducible refine obj_drew ?_ | exact hfw_7))
            clear hbl_7 hba_7 ll la hl po0 po1 cl_0 cl_1 cl_2 cl_3 cl_4 cl_5 cl_6 cl_7 cl_8 cl_9 cl_10 cl_11 zl ca_0 ca_1 ca_2 ca_3 za hfw_7
            rintro w8 ⟨hfw_8, hbl_8, hba_8⟩
            obtain ⟨cl_0, cl_1, cl_2, cl_3, cl_4, cl_5, cl_6, cl_7, cl_8, cl_9, cl_10, cl_11, zl⟩ := hbl_8.cs
            obtain ⟨ca_0, ca_1, ca_2, ca_3, za⟩ := hba_8.cs
            go_cut [6, 7] (fun s6 s7 wx => ∃ qo : Nat, s6 = .pointer (some ⟨qo, 0, none⟩) ∧ s7 = .int .i64 0 ∧ Fr noB w8 wx ∧ w8.heap.size ≤ qo ∧ Bl wx qo 2 1 0)
            case first => as_aux_lemma =>
              have hql := obj_drew hbl_8.raw
              have fz : ∀ (X : World) (o : Nat), (X.alloc (.cells #[.int .u8 0, .int .i64 0, .int .i64 0, .string ⟨#[]⟩] 23 (0, 0))).frozen? ⟨X.heap.size, o, none⟩ = false := fun X o => frozen_of_obj (obj_alloc_new X _) o
              have fc : ∀ X : World, (X.alloc (.cells #[.int .u8 0, .int .i64 0, .int .i64 0, .string ⟨#[]⟩] 23 (0, 0))).cell? ⟨X.heap.size, 0, none⟩ = some (.int .u8 0) ∧ (X.alloc (.cells #[.int .u8 0, .int .i64 0, .int .i64 0, .string ⟨#[]⟩] 23 (0, 0))).cell? ⟨X.heap.size, 1, none⟩ = some (.int .i64 0) ∧ (X.alloc (.cells #[.int .u8 0, .int .i64 0, .int .i64 0, .string ⟨#[]⟩] 23 (0, 0))).cell? ⟨X.heap.size, 2, none⟩ = some (.int .i64 0) ∧ (X.alloc (.cells #[.int .u8 0, .int .i64 0, .int .i64 0, .string ⟨#[]⟩] 23 (0, 0))).cell? ⟨X.heap.size, 3, none⟩ = some (.string ⟨#[]⟩) := fun X => v_cells (v := zV) (obj_alloc_new X _)
              have ll := hbl_8.lt
              have hdq : w8.drew.heap.size = w8.heap.size := rfl
              have hvl : ∀ X : World, X.heap[w2.heap.size]? = some (.cells #[.int .u8 2, .int .i64 0, .int .i64 0, .string ⟨#[]⟩, .int .u8 2, .int .i64 1, .int .i64 0, .string ⟨#[]⟩, .int .u8 0, .int .i64 0, .int .i64 0, .string ⟨#[]⟩] 23 (0, 0)) → X.cell? ⟨w2.heap.size, 0, none⟩ = some (.int .u8 2) ∧ X.cell? ⟨w2.heap.size, 1, none⟩ = some (.int .i64 0) ∧ X.cell? ⟨w2.heap.size, 2, none⟩ = some (.int .i64 0) ∧ X.cell? ⟨w2.heap.size, 3, none⟩ = some (.string ⟨#[]⟩) ∧ X.cell? ⟨w2.heap.size, 4, none⟩ = some (.int .u8 2) ∧ X.cell? ⟨w2.heap.size, 5, none⟩ = some (.int .i64 1) ∧ X.cell? ⟨w2.heap.size, 6, none⟩ = some (.int .i64 0) ∧ X.cell? ⟨w2.heap.size, 7, none⟩ = some (.string ⟨#[]⟩) := fun X h => ⟨by rw [cell_of_obj h]; rfl, by rw [cell_of_obj h]; rfl, by rw [cell_of_obj h]; rfl, by rw [cell_of_obj h]; rfl, by rw [cell_of_obj h]; rfl, by rw [cell_of_obj h]; rfl, by rw [cell_of_obj h]; rfl, by rw [cell_of_obj h]; rfl⟩
              go_region_held3 (fun X : World => X.cell? ⟨w2.heap.size, 0, none⟩ = some (.int .u8 2) ∧ X.cell? ⟨w2.heap.size, 1, none⟩ = some (.int .i64 0) ∧ X.cell? ⟨w2.heap.size, 2, none⟩ = some (.int .i64 0) ∧ X.cell? ⟨w2.heap.size, 3, none⟩ = some (.string ⟨#[]⟩) ∧ X.cell? ⟨w2.heap.size, 4, none⟩ = some (.int .u8 2) ∧ X.cell? ⟨w2.heap.size, 5, none⟩ = some (.int .i64 1) ∧ X.cell? ⟨w2.heap.size, 6, none⟩ = some (.int .i64 0) ∧ X.cell? ⟨w2.heap.size, 7, none⟩ = some (.string ⟨#[]⟩)) ((refine (hvl _ ?_) <;> repeat (first | with_reducible exact hql | with_reducible exact hbl_8.raw | with_reducible refine obj_alloc ?_ _ | (with_reducible refine obj_setCell_other ?_ _ _ ?_; rotate_left; (dsimp only; omega)) | with_reducible refine obj_drew ?_))) (first | (go_at_call 31; refine (HO.out _).mono ?_; rintro e x0 ⟨rfl, hG0⟩; have k0 := hG0.size; refine have_of (p := x0.heap[w2.heap.size]? = some (.cells #[.int .u8 2, .int .i64 0, .int .i64 0, .string ⟨#[]⟩, .int .u8 2, .int .i64 1, .int .i64 0, .string ⟨#[]⟩, .int .u8 0, .int .i64 0, .int .i64 0, .string ⟨#[]⟩] 23 (0, 0))) ?_ (fun hql => ?_); (focus (refine hG0.obj (noB_not _) ?_; repeat (first | with_reducible exact hql | with_reducible exact hbl_8.raw | with_reducible refine obj_alloc ?_ _ | with_reducible refine obj_drew ?_))); (first | (have hnn := hG0.obj (fun x => x) hnn) | (with_reducible have hnn := hG0.obj (noB_not _) (obj_alloc_new _ _)) | (with_reducible have hnn := hG0.obj (noB_not _) (obj_drew (obj_alloc_new _ _))) | skip); (first | (have znn := frozen_of_obj hnn; obtain ⟨n0, n1, n2, n3⟩ := v_cells (v := zV) hnn) | skip)))
              all_goals (go_wp2_with fail; go_meet)
              all_goals (have hfr0 := Fr.refl noB w8; refine ⟨_, rfl, rfl, ?_, ?_, ?_⟩)
              all_goals (first | ((repeat (first | with_reducible exact hfr0 | with_reducible refine Fr.transN ?_ hG0 | with_reducible refine Fr.alloc ?_ _ | (with_reducible refine Fr.setCell ?_ ?_ _; rotate_left; (intro h; dsimp only at h; omega)) | with_reducible refine Fr.drew ?_ | exact hfr0)); done) | ((try simp only [World.size_alloc] at k0); omega) | (((first | unfold Bx | unfold Bl | unfold B3 | unfold A3 | skip); repeat (first | with_reducible exact hnn | (with_reducible refine obj_alloc_at ?_; simp; done) | (with_reducible apply obj_put4; omega) | (with_reducible refine obj_setCell_other ?_ _ _ ?_; rotate_left; (dsimp only; omega)) | with_reducible refine obj_alloc ?_ _ | with_reducible refine obj_drew ?_)); done))
            case rest =>
              obtain ⟨qo, rfl, rfl, hf9, hgo, hbo_9⟩ := hcut
              obtain ⟨w9, rfl⟩ : ∃ x, x = wc := ⟨_, rfl⟩
              have o2 := Lib.hid (hba_8.lt)
              have o3 := Lib.hid hgo
              have hbl_9 := hbl_8.mv hf9
              have hba_9 := hba_8.mv hf9
              have hfw_9 := hfw_8.transN hf9
              clear hbl_8 hba_8 cl_0 cl_1 cl_2 cl_3 cl_4 cl_5 cl_6 cl_7 cl_8 cl_9 cl_10 cl_11 zl ca_0 ca_1 ca_2 ca_3 za hf9 hfw_8 hgo
              obtain ⟨cl_0, cl_1, cl_2, cl_3, cl_4, cl_5, cl_6, cl_7, cl_8, cl_9, cl_10, cl_11, zl⟩ := hbl_9.cs
              obtain ⟨ca_0, ca_1, ca_2, ca_3, za⟩ := hba_9.cs
              obtain ⟨co_0, co_1, co_2, co_3, zo⟩ := hbo_9.cs
              go_upto_region 11 with fail
              have o4 := Lib.hid (hbo_9.lt)
              have ll := hbl_9.lt
              have la := hba_9.lt
              have lo := hbo_9.lt
              have hl := hfw_9.size
              have po0 := o0.out
              have po1 := o1.out
              have po2 := o2.out
              have po3 := o3.out
              have po4 := o4.out
              refine wp_world (fun W => Fr noB wo0 W ∧ B3 W w2.heap.size ∧ Bl W qa 2 0 0 ∧ Bl W qo 2 1 0 ∧ A3 W w9.heap.size) ?_ ?_
              · refine ⟨?_, ?_, ?_, ?_, ?_⟩ <;> ((first | unfold Bx | unfold Bl | unfold B3 | unfold A3 | skip); repeat (first | with_reducible exact hfw_9 | with_reducible refine Fr.alloc ?_ _ | (with_reducible refine Fr.setCell ?_ ?_ _; rotate_left; (intro h; dsimp only at h; omega)) | with_reducible refine Fr.drew ?_ | with_reducible exact hbl_9.raw | with_reducible exact hba_9.raw | with_reducible exact hbo_9.raw | (with_reducible refine obj_alloc_at ?_; simp; done) | (with_reducible apply obj_put4; omega) | (with_reducible apply obj_put1; omega) | (with_reducible refine obj_setCell_other ?_ _ _ ?_; rotate_left; (dsimp only; omega)) | with_reducible refine obj_alloc ?_ _ | with_reducible refine obj_drew ?_ | exact hfw_9))
              clear hbl_9 hba_9 hbo_9 ll la lo hl po0 po1 po2 po3 po4 cl_0 cl_1 cl_2 cl_3 cl_4 cl_5 cl_6 cl_7 cl_8 cl_9 cl_10 cl_11 zl ca_0 ca_1 ca_2 ca_3 za co_0 co_1 co_2 co_3 zo hfw_9
              rintro w10 ⟨hfw_10, hbl_10, hba_10, hbo_10, hbr_10⟩
              obtain ⟨cl_0, cl_1, cl_2, cl_3, cl_4, cl_5, cl_6, cl_7, cl_8, cl_9, cl_10, cl_11, zl⟩ := hbl_10.cs
              obtain ⟨ca_0, ca_1, ca_2, ca_3, za⟩ := hba_10.cs
              obtain ⟨co_0, co_1, co_2, co_3, zo⟩ := hbo_10.cs
              obtain ⟨cr_0, cr_1, cr_2, zr⟩ := hbr_10.cs
              go_region
              go_upto_region 13 with fail
              have o5 := Lib.hid (hbr_10.lt)
              have ll := hbl_10.lt
              have la := hba_10.lt
              have lo := hbo_10.lt
              have lr := hbr_10.lt
              have hl := hfw_10.size
              have po0 := o0.out
              have po1 := o1.out
              have po2 := o2.out
              have po3 := o3.out
              have po4 := o4.out
              have po5 := o5.out
              refine wp_world (fun W => Fr noB wo0 W ∧ B3 W w2.heap.size ∧ Bl W qa 2 0 0 ∧ Bl W qo 2 1 0 ∧ A3 W w9.heap.size ∧ A3 W w10.heap.size) ?_ ?_
              · refine ⟨?_, ?_, ?_, ?_, ?_, ?_⟩ <;> ((first | unfold Bx | unfold Bl | unfold B3 | unfold A3 | skip); repeat (first | with_reducible exact hfw_10 | with_reducible refine Fr.alloc ?_ _ | (with_reducible refine Fr.setCell ?_ ?_ _; rotate_left; (intro h; dsimp only at h; omega)) | with_reducible refine Fr.drew ?_ | with_reducible exact hbl_10.raw | with_reducible exact hba_10.raw | with_reducible exact hbo_10.raw | with_reducible exact hbr_10.raw | (with_reducible refine obj_alloc_at ?_; simp; done) | (with_reducible apply obj_put4; omega) | (with_reducible apply obj_put1; omega) | (with_reducible refine obj_setCell_other ?_ _ _ ?_; rotate_left; (dsimp only; omega)) | with_reducible refine obj_alloc ?_ _ | with_reducible refine obj_drew ?_ | exact hfw_10))
              clear hbl_10 hba_10 hbo_10 hbr_10 ll la lo lr hl po0 po1 po2 po3 po4 po5 cl_0 cl_1 cl_2 cl_3 cl_4 cl_5 cl_6 cl_7 cl_8 cl_9 cl_10 cl_11 zl ca_0 ca_1 ca_2 ca_3 za co_0 co_1 co_2 co_3 zo cr_0 cr_1 cr_2 zr hfw_10
              rintro w11 ⟨hfw_11, hbl_11, hba_11, hbo_11, hbr_11, hbs_11⟩
              obtain ⟨cl_0, cl_1, cl_2, cl_3, cl_4, cl_5, cl_6, cl_7, cl_8, cl_9, cl_10, cl_11, zl⟩ := hbl_11.cs
              obtain ⟨ca_0, ca_1, ca_2, ca_3, za⟩ := hba_11.cs
              obtain ⟨co_0, co_1, co_2, co_3, zo⟩ := hbo_11.cs
              obtain ⟨cr_0, cr_1, cr_2, zr⟩ := hbr_11.cs
              obtain ⟨cs_0, cs_1, cs_2, zs⟩ := hbs_11.cs
              have NA : ∀ W : World, (binOp .neq 23 (.agg #[.int .u8 2, .int .i64 0, .int .i64 0, .string ⟨#[]⟩]) (.agg #[.int .u8 2, .int .i64 0, .int .i64 0, .string ⟨#[]⟩])).run Try.prog W = .ok (.bool false) W := neqv_lit noV noV false ((eqV_iff _ _).2 rfl)
              have NO : ∀ W : World, (binOp .neq 23 (.agg #[.int .u8 2, .int .i64 1, .int .i64 0, .string ⟨#[]⟩]) (.agg #[.int .u8 2, .int .i64 1, .int .i64 0, .string ⟨#[]⟩])).run Try.prog W = .ok (.bool false) W := neqv_lit yesV yesV false ((eqV_iff _ _).2 rfl)
              have xl0 := Ext.cell cl_0
              have xl1 := Ext.cell cl_1
              have xl2 := Ext.cell cl_2
              have xl3 := Ext.cell cl_3
              have xl4 := Ext.cell cl_4
              have xl5 := Ext.cell cl_5
              have xl6 := Ext.cell cl_6
              have xl7 := Ext.cell cl_7
              have xl8 := Ext.cell cl_8
              have xl9 := Ext.cell cl_9
              have xl10 := Ext.cell cl_10
              have xl11 := Ext.cell cl_11
              have xa0 := Ext.cell ca_0
              have xa1 := Ext.cell ca_1
              have xa2 := Ext.cell ca_2
              have xa3 := Ext.cell ca_3
              have xo0 := Ext.cell co_0
              have xo1 := Ext.cell co_1
              have xo2 := Ext.cell co_2
              have xo3 := Ext.cell co_3
              have xr0 := Ext.cell cr_0
              have xr1 := Ext.cell cr_1
              have xr2 := Ext.cell cr_2
              have xs0 := Ext.cell cs_0
              have xs1 := Ext.cell cs_1
              have xs2 := Ext.cell cs_2
              clear cl_0 cl_1 cl_2 cl_3 cl_4 cl_5 cl_6 cl_7 cl_8 cl_9 cl_10 cl_11 zl ca_0 ca_1 ca_2 ca_3 za co_0 co_1 co_2 co_3 zo cr_0 cr_1 cr_2 zr cs_0 cs_1 cs_2 zs
              refine wp_region_ext (by kernel_rfl) (by kernel_rfl) ?_
              go_big_quiet_step (fail)
              go_big_quiet_step (fail)
              go_big_quiet_step (fail)
              go_big_quiet_step (fail)
              go_big_quiet_step (fail)
              go_big_quiet_step (fail)
              go_big_quiet_step (fail)
              go_big_quiet_step (fail)
              go_big_quiet_step (fail)
              go_big_quiet_step (fail)
              go_big_quiet_step (fail)
              go_big_quiet_step (fail)
              go_big_quiet_step (fail)
              go_big_quiet_step (fail)
              go_big_quiet_step (fail)
              go_big_quiet_step (fail)
              go_big_quiet_step (fail)
              go_big_quiet_step (fail)
              go_big_quiet_step (fail)
              go_big_quiet_step (fail)
              go_big_quiet_step (fail)
              go_big_quiet_step (fail)
              go_big_quiet_step (fail)
              go_big_quiet_step (fail)
              go_big_quiet_step (fail)
              go_big_quiet_step (fail)
              refine wpQuiet_nil ?_
              rintro _ ⟨⟨w12, hf12⟩, rfl⟩
              have hfw_12 := hfw_11.transN hf12
              clear NA NO xl0 xl1 xl2 xl3 xl4 xl5 xl6 xl7 xl8 xl9 xl10 xl11 xa0 xa1 xa2 xa3 xo0 xo1 xo2 xo3 xr0 xr1 xr2 xs0 xs1 xs2 hbl_11 hba_11 hbo_11 hbr_11 hbs_11
              go_wp2_with fail
              go_roundg 1
              case measure => omega
              case rel => exact ⟨2, by omega, by omega, by go_num, hfw_12⟩
        · clear hi
          obtain ⟨wi2, rfl⟩ : ∃ x, x = wr := ⟨_, rfl⟩
          have hbl_5 := hbl_4.mv hf
          clear hbl_4 cl_0 cl_1 cl_2 cl_3 cl_4 cl_5 cl_6 cl_7 cl_8 cl_9 cl_10 cl_11 zl
          obtain ⟨cl_0, cl_1, cl_2, cl_3, cl_4, cl_5, cl_6, cl_7, cl_8, cl_9, cl_10, cl_11, zl⟩ := hbl_5.cs
          have HA := Lib.hid (show ∀ W : World, Calls Try.prog 29 #[.agg #[.int .u8 2, .int .i64 0, .int .i64 0, .string ⟨#[]⟩], .agg #[.int .u8 0, .int .i64 0, .int .i64 0, .string ⟨#[]⟩]] W fun e w' => e = .returned (.tuple #[.agg #[.int .u8 2, .int .i64 0, .int .i64 0, .string ⟨#[]⟩], .int .i64 0]) ∧ Fr noB W w' from fun W => and_any noV zV W)
          have HO := Lib.hid (show ∀ W : World, Calls Try.prog 31 #[.agg #[.int .u8 2, .int .i64 0, .int .i64 0, .string ⟨#[]⟩], .agg #[.int .u8 0, .int .i64 0, .int .i64 0, .string ⟨#[]⟩]] W fun e w' => e = .returned (.tuple #[.agg #[.int .u8 0, .int .i64 0, .int .i64 0, .string ⟨#[]⟩], .int .i64 0]) ∧ Fr noB W w' from fun W => or_any noV zV W)
          go_upto_region 8 with fail
          have ll := hbl_5.lt
          have hl := hf.size
          refine wp_world (fun W => Fr noB wo0 W ∧ B3 W w2.heap.size) ?_ ?_
          · refine ⟨?_, ?_⟩ <;> ((first | unfold Bx | unfold Bl | unfold B3 | unfold A3 | skip); repeat (first | with_reducible exact hf | with_reducible refine Fr.alloc ?_ _ | (with_reducible refine Fr.setCell ?_ ?_ _; rotate_left; (intro h; dsimp only at h; omega)) | with_reducible refine Fr.drew ?_ | with_reducible exact hbl_5.raw | (with_reducible refine obj_alloc_at ?_; simp; done) | (with_reducible apply obj_put4; omega) | (with_reducible apply obj_put1; omega) | (with_reducible refine obj_setCell_other ?_ _ _ ?_; rotate_left; (dsimp only; omega)) | with_reducible refine obj_alloc ?_ _ | with_reducible refine obj_drew ?_ | exact hf))
          clear hbl_5 ll hl cl_0 cl_1 cl_2 cl_3 cl_4 cl_5 cl_6 cl_7 cl_8 cl_9 cl_10 cl_11 zl hf
          rintro w6 ⟨hfw_6, hbl_6⟩
          obtain ⟨cl_0, cl_1, cl_2, cl_3, cl_4, cl_5, cl_6, cl_7, cl_8, cl_9, cl_10, cl_11, zl⟩ := hbl_6.cs
          go_cut [4, 5] (fun s4 s5 wx => ∃ qa : Nat, s4 = .pointer (some ⟨qa, 0, none⟩) ∧ s5 = .int .i64 0 ∧ Fr noB w6 wx ∧ w6.heap.size ≤ qa ∧ Bl wx qa 2 0 0)
          case first => as_aux_lemma =>
            have hql := obj_drew hbl_6.raw
            have fz : ∀ (X : World) (o : Nat), (X.alloc (.cells #[.int .u8 0, .int .i64 0, .int .i64 0, .string ⟨#[]⟩] 23 (0, 0))).frozen? ⟨X.heap.size, o, none⟩ = false := fun X o => frozen_of_obj (obj_alloc_new X _) o
            have fc : ∀ X : World, (X.alloc (.cells #[.int .u8 0, .int .i64 0, .int .i64 0, .string ⟨#[]⟩] 23 (0, 0))).cell? ⟨X.heap.size, 0, none⟩ = some (.int .u8 0) ∧ (X.alloc (.cells #[.int .u8 0, .int .i64 0, .int .i64 0, .string ⟨#[]⟩] 23 (0, 0))).cell? ⟨X.heap.size, 1, none⟩ = some (.int .i64 0) ∧ (X.alloc (.cells #[.int .u8 0, .int .i64 0, .int .i64 0, .string ⟨#[]⟩] 23 (0, 0))).cell? ⟨X.heap.size, 2, none⟩ = some (.int .i64 0) ∧ (X.alloc (.cells #[.int .u8 0, .int .i64 0, .int .i64 0, .string ⟨#[]⟩] 23 (0, 0))).cell? ⟨X.heap.size, 3, none⟩ = some (.string ⟨#[]⟩) := fun X => v_cells (v := zV) (obj_alloc_new X _)
            have ll := hbl_6.lt
            have hdq : w6.drew.heap.size = w6.heap.size := rfl
            have hvl : ∀ X : World, X.heap[w2.heap.size]? = some (.cells #[.int .u8 2, .int .i64 0, .int .i64 0, .string ⟨#[]⟩, .int .u8 2, .int .i64 1, .int .i64 0, .string ⟨#[]⟩, .int .u8 0, .int .i64 0, .int .i64 0, .string ⟨#[]⟩] 23 (0, 0)) → X.cell? ⟨w2.heap.size, 0, none⟩ = some (.int .u8 2) ∧ X.cell? ⟨w2.heap.size, 1, none⟩ = some (.int .i64 0) ∧ X.cell? ⟨w2.heap.size, 2, none⟩ = some (.int .i64 0) ∧ X.cell? ⟨w2.heap.size, 3, none⟩ = some (.string ⟨#[]⟩) ∧ X.cell? ⟨w2.heap.size, 8, none⟩ = some (.int .u8 0) ∧ X.cell? ⟨w2.heap.size, 9, none⟩ = some (.int .i64 0) ∧ X.cell? ⟨w2.heap.size, 10, none⟩ = some (.int .i64 0) ∧ X.cell? ⟨w2.heap.size, 11, none⟩ = some (.string ⟨#[]⟩) := fun X h => ⟨by rw [cell_of_obj h]; rfl, by rw [cell_of_obj h]; rfl, by rw [cell_of_obj h]; rfl, by rw [cell_of_obj h]; rfl, by rw [cell_of_obj h]; rfl, by rw [cell_of_obj h]; rfl, by rw [cell_of_obj h]; rfl, by rw [cell_of_obj h]; rfl⟩
            go_region_held3 (fun X : World => X.cell? ⟨w2.heap.size, 0, none⟩ = some (.int .u8 2) ∧ X.cell? ⟨w2.heap.size, 1, none⟩ = some (.int .i64 0) ∧ X.cell? ⟨w2.heap.size, 2, none⟩ = some (.int .i64 0) ∧ X.cell? ⟨w2.heap.size, 3, none⟩ = some (.string ⟨#[]⟩) ∧ X.cell? ⟨w2.heap.size, 8, none⟩ = some (.int .u8 0) ∧ X.cell? ⟨w2.heap.size, 9, none⟩ = some (.int .i64 0) ∧ X.cell? ⟨w2.heap.size, 10, none⟩ = some (.int .i64 0) ∧ X.cell? ⟨w2.heap.size, 11, none⟩ = some (.string ⟨#[]⟩)) ((refine (hvl _ ?_) <;> repeat (first | with_reducible exact hql | with_reducible exact hbl_6.raw | with_reducible refine obj_alloc ?_ _ | (with_reducible refine obj_setCell_other ?_ _ _ ?_; rotate_left; (dsimp only; omega)) | with_reducible refine obj_drew ?_))) (first | (go_at_call 29; refine (HA.out _).mono ?_; rintro e x0 ⟨rfl, hG0⟩; have k0 := hG0.size; refine have_of (p := x0.heap[w2.heap.size]? = some (.cells #[.int .u8 2, .int .i64 0, .int .i64 0, .string ⟨#[]⟩, .int .u8 2, .int .i64 1, .int .i64 0, .string ⟨#[]⟩, .int .u8 0, .int .i64 0, .int .i64 0, .string ⟨#[]⟩] 23 (0, 0))) ?_ (fun hql => ?_); (focus (refine hG0.obj (noB_not _) ?_; repeat (first | with_reducible exact hql | with_reducible exact hbl_6.raw | with_reducible refine obj_alloc ?_ _ | with_reducible refine obj_drew ?_))); (first | (have hnn := hG0.obj (fun x => x) hnn) | (with_reducible have hnn := hG0.obj (noB_not _) (obj_alloc_new _ _)) | (with_reducible have hnn := hG0.obj (noB_not _) (obj_drew (obj_alloc_new _ _))) | skip); (first | (have znn := frozen_of_obj hnn; obtain ⟨n0, n1, n2, n3⟩ := v_cells (v := zV) hnn) | skip)))
            all_goals (go_wp2_with fail; go_meet)
            all_goals (have hfr0 := Fr.refl noB w6; refine ⟨_, rfl, rfl, ?_, ?_, ?_⟩)
            all_goals (first | ((repeat (first | with_reducible exact hfr0 | with_reducible refine Fr.transN ?_ hG0 | with_reducible refine Fr.alloc ?_ _ | (with_reducible refine Fr.setCell ?_ ?_ _; rotate_left; (intro h; dsimp only at h; omega)) | with_reducible refine Fr.drew ?_ | exact hfr0)); done) | ((try simp only [World.size_alloc] at k0); omega) | (((first | unfold Bx | unfold Bl | unfold B3 | unfold A3 | skip); repeat (first | with_reducible exact hnn | (with_reducible refine obj_alloc_at ?_; simp; done) | (with_reducible apply obj_put4; omega) | (with_reducible refine obj_setCell_other ?_ _ _ ?_; rotate_left; (dsimp only; omega)) | with_reducible refine obj_alloc ?_ _ | with_reducible refine obj_drew ?_)); done))
          case rest =>
            obtain ⟨qa, rfl, rfl, hf7, hga, hba_7⟩ := hcut
            obtain ⟨w7, rfl⟩ : ∃ x, x = wc := ⟨_, rfl⟩
            have o0 := Lib.hid (hbl_6.lt)
            have o1 := Lib.hid hga
            have hbl_7 := hbl_6.mv hf7
            have hfw_7 := hfw_6.transN hf7
            clear hbl_6 cl_0 cl_1 cl_2 cl_3 cl_4 cl_5 cl_6 cl_7 cl_8 cl_9 cl_10 cl_11 zl hf7 hfw_6 hga
            obtain ⟨cl_0, cl_1, cl_2, cl_3, cl_4, cl_5, cl_6, cl_7, cl_8, cl_9, cl_10, cl_11, zl⟩ := hbl_7.cs
            obtain ⟨ca_0, ca_1, ca_2, ca_3, za⟩ := hba_7.cs
            go_upto_region 9 with fail
            have ll := hbl_7.lt
            have la := hba_7.lt
            have hl := hfw_7.size
            have po0 := o0.out
            have po1 := o1.out
            refine wp_world (fun W => Fr noB wo0 W ∧ B3 W w2.heap.size ∧ Bl W qa 2 0 0) ?_ ?_
            · refine ⟨?_, ?_, ?_⟩ <;> ((first | unfold Bx | unfold Bl | unfold B3 | unfold A3 | skip); repeat (first | with_reducible exact hfw_7 | with_reducible refine Fr.alloc ?_ _ | (with_reducible refine Fr.setCell ?_ ?_ _; rotate_left; (intro h; dsimp only at h; omega)) | with_reducible refine Fr.drew ?_ | with_reducible exact hbl_7.raw | with_reducible exact hba_7.raw | (with_reducible refine obj_alloc_at ?_; simp; done) | (with_reducible apply obj_put4; omega) | (with_reducible apply obj_put1; omega) | (with_reducible refine obj_setCell_other ?_ _ _ ?_; rotate_left; (dsimp only; omega)) | with_reducible refine obj_alloc ?_ _ | with_reducible refine obj_drew ?_ | exact hfw_7))
            clear hbl_7 hba_7 ll la hl po0 po1 cl_0 cl_1 cl_2 cl_3 cl_4 cl_5 cl_6 cl_7 cl_8 cl_9 cl_10 cl_11 zl ca_0 ca_1 ca_2 ca_3 za hfw_7
            rintro w8 ⟨hfw_8, hbl_8, hba_8⟩
            obtain ⟨cl_0, cl_1, cl_2, cl_3, cl_4, cl_5, cl_6, cl_7, cl_8, cl_9, cl_10, cl_11, zl⟩ := hbl_8.cs
            obtain ⟨ca_0, ca_1, ca_2, ca_3, za⟩ := hba_8.cs
            go_cut [6, 7] (fun s6 s7 wx => ∃ qo : Nat, s6 = .pointer (some ⟨qo, 0, none⟩) ∧ s7 = .int .i64 0 ∧ Fr noB w8 wx ∧ w8.heap.size ≤ qo ∧ Bl wx qo 0 0 0)
            case first => as_aux_lemma =>
              have hql := obj_drew hbl_8.raw
              have fz : ∀ (X : World) (o : Nat), (X.alloc (.cells #[.int .u8 0, .int .i64 0, .int .i64 0, .string ⟨#[]⟩] 23 (0, 0))).frozen? ⟨X.heap.size, o, none⟩ = false := fun X o => frozen_of_obj (obj_alloc_new X _) o
              have fc : ∀ X : World, (X.alloc (.cells #[.int .u8 0, .int .i64 0, .int .i64 0, .string ⟨#[]⟩] 23 (0, 0))).cell? ⟨X.heap.size, 0, none⟩ = some (.int .u8 0) ∧ (X.alloc (.cells #[.int .u8 0, .int .i64 0, .int .i64 0, .string ⟨#[]⟩] 23 (0, 0))).cell? ⟨X.heap.size, 1, none⟩ = some (.int .i64 0) ∧ (X.alloc (.cells #[.int .u8 0, .int .i64 0, .int .i64 0, .string ⟨#[]⟩] 23 (0, 0))).cell? ⟨X.heap.size, 2, none⟩ = some (.int .i64 0) ∧ (X.alloc (.cells #[.int .u8 0, .int .i64 0, .int .i64 0, .string ⟨#[]⟩] 23 (0, 0))).cell? ⟨X.heap.size, 3, none⟩ = some (.string ⟨#[]⟩) := fun X => v_cells (v := zV) (obj_alloc_new X _)
              have ll := hbl_8.lt
              have hdq : w8.drew.heap.size = w8.heap.size := rfl
              have hvl : ∀ X : World, X.heap[w2.heap.size]? = some (.cells #[.int .u8 2, .int .i64 0, .int .i64 0, .string ⟨#[]⟩, .int .u8 2, .int .i64 1, .int .i64 0, .string ⟨#[]⟩, .int .u8 0, .int .i64 0, .int .i64 0, .string ⟨#[]⟩] 23 (0, 0)) → X.cell? ⟨w2.heap.size, 0, none⟩ = some (.int .u8 2) ∧ X.cell? ⟨w2.heap.size, 1, none⟩ = some (.int .i64 0) ∧ X.cell? ⟨w2.heap.size, 2, none⟩ = some (.int .i64 0) ∧ X.cell? ⟨w2.heap.size, 3, none⟩ = some (.string ⟨#[]⟩) ∧ X.cell? ⟨w2.heap.size, 8, none⟩ = some (.int .u8 0) ∧ X.cell? ⟨w2.heap.size, 9, none⟩ = some (.int .i64 0) ∧ X.cell? ⟨w2.heap.size, 10, none⟩ = some (.int .i64 0) ∧ X.cell? ⟨w2.heap.size, 11, none⟩ = some (.string ⟨#[]⟩) := fun X h => ⟨by rw [cell_of_obj h]; rfl, by rw [cell_of_obj h]; rfl, by rw [cell_of_obj h]; rfl, by rw [cell_of_obj h]; rfl, by rw [cell_of_obj h]; rfl, by rw [cell_of_obj h]; rfl, by rw [cell_of_obj h]; rfl, by rw [cell_of_obj h]; rfl⟩
              go_region_held3 (fun X : World => X.cell? ⟨w2.heap.size, 0, none⟩ = some (.int .u8 2) ∧ X.cell? ⟨w2.heap.size, 1, none⟩ = some (.int .i64 0) ∧ X.cell? ⟨w2.heap.size, 2, none⟩ = some (.int .i64 0) ∧ X.cell? ⟨w2.heap.size, 3, none⟩ = some (.string ⟨#[]⟩) ∧ X.cell? ⟨w2.heap.size, 8, none⟩ = some (.int .u8 0) ∧ X.cell? ⟨w2.heap.size, 9, none⟩ = some (.int .i64 0) ∧ X.cell? ⟨w2.heap.size, 10, none⟩ = some (.int .i64 0) ∧ X.cell? ⟨w2.heap.size, 11, none⟩ = some (.string ⟨#[]⟩)) ((refine (hvl _ ?_) <;> repeat (first | with_reducible exact hql | with_reducible exact hbl_8.raw | with_reducible refine obj_alloc ?_ _ | (with_reducible refine obj_setCell_other ?_ _ _ ?_; rotate_left; (dsimp only; omega)) | with_reducible refine obj_drew ?_))) (first | (go_at_call 31; refine (HO.out _).mono ?_; rintro e x0 ⟨rfl, hG0⟩; have k0 := hG0.size; refine have_of (p := x0.heap[w2.heap.size]? = some (.cells #[.int .u8 2, .int .i64 0, .int .i64 0, .string ⟨#[]⟩, .int .u8 2, .int .i64 1, .int .i64 0, .string ⟨#[]⟩, .int .u8 0, .int .i64 0, .int .i64 0, .string ⟨#[]⟩] 23 (0, 0))) ?_ (fun hql => ?_); (focus (refine hG0.obj (noB_not _) ?_; repeat (first | with_reducible exact hql | with_reducible exact hbl_8.raw | with_reducible refine obj_alloc ?_ _ | with_reducible refine obj_drew ?_))); (first | (have hnn := hG0.obj (fun x => x) hnn) | (with_reducible have hnn := hG0.obj (noB_not _) (obj_alloc_new _ _)) | (with_reducible have hnn := hG0.obj (noB_not _) (obj_drew (obj_alloc_new _ _))) | skip); (first | (have znn := frozen_of_obj hnn; obtain ⟨n0, n1, n2, n3⟩ := v_cells (v := zV) hnn) | skip)))
              all_goals (go_wp2_with fail; go_meet)
              all_goals (have hfr0 := Fr.refl noB w8; refine ⟨_, rfl, rfl, ?_, ?_, ?_⟩)
              all_goals (first | ((repeat (first | with_reducible exact hfr0 | with_reducible refine Fr.transN ?_ hG0 | with_reducible refine Fr.alloc ?_ _ | (with_reducible refine Fr.setCell ?_ ?_ _; rotate_left; (intro h; dsimp only at h; omega)) | with_reducible refine Fr.drew ?_ | exact hfr0)); done) | ((try simp only [World.size_alloc] at k0); omega) | (((first | unfold Bx | unfold Bl | unfold B3 | unfold A3 | skip); repeat (first | with_reducible exact hnn | (with_reducible refine obj_alloc_at ?_; simp; done) | (with_reducible apply obj_put4; omega) | (with_reducible refine obj_setCell_other ?_ _ _ ?_; rotate_left; (dsimp only; omega)) | with_reducible refine obj_alloc ?_ _ | with_reducible refine obj_drew ?_)); done))
            case rest =>
              obtain ⟨qo, rfl, rfl, hf9, hgo, hbo_9⟩ := hcut
              obtain ⟨w9, rfl⟩ : ∃ x, x = wc := ⟨_, rfl⟩
              have o2 := Lib.hid (hba_8.lt)
              have o3 := Lib.hid hgo
              have hbl_9 := hbl_8.mv hf9
              have hba_9 := hba_8.mv hf9
              have hfw_9 := hfw_8.transN hf9
              clear hbl_8 hba_8 cl_0 cl_1 cl_2 cl_3 cl_4 cl_5 cl_6 cl_7 cl_8 cl_9 cl_10 cl_11 zl ca_0 ca_1 ca_2 ca_3 za hf9 hfw_8 hgo
              obtain ⟨cl_0, cl_1, cl_2, cl_3, cl_4, cl_5, cl_6, cl_7, cl_8, cl_9, cl_10, cl_11, zl⟩ := hbl_9.cs
              obtain ⟨ca_0, ca_1, ca_2, ca_3, za⟩ := hba_9.cs
              obtain ⟨co_0, co_1, co_2, co_3, zo⟩ := hbo_9.cs
              go_upto_region 11 with fail
              have o4 := Lib.hid (hbo_9.lt)
              have ll := hbl_9.lt
              have la := hba_9.lt
              have lo := hbo_9.lt
              have hl := hfw_9.size
              have po0 := o0.out
              have po1 := o1.out
              have po2 := o2.out
              have po3 := o3.out
              have po4 := o4.out
              refine wp_world (fun W => Fr noB wo0 W ∧ B3 W w2.heap.size ∧ Bl W qa 2 0 0 ∧ Bl W qo 0 0 0 ∧ A3 W w9.heap.size) ?_ ?_
              · refine ⟨?_, ?_, ?_, ?_, ?_⟩ <;> ((first | unfold Bx | unfold Bl | unfold B3 | unfold A3 | skip); repeat (first | with_reducible exact hfw_9 | with_reducible refine Fr.alloc ?_ _ | (with_reducible refine Fr.setCell ?_ ?_ _; rotate_left; (intro h; dsimp only at h; omega)) | with_reducible refine Fr.drew ?_ | with_reducible exact hbl_9.raw | with_reducible exact hba_9.raw | with_reducible exact hbo_9.raw | (with_reducible refine obj_alloc_at ?_; simp; done) | (with_reducible apply obj_put4; omega) | (with_reducible apply obj_put1; omega) | (with_reducible refine obj_setCell_other ?_ _ _ ?_; rotate_left; (dsimp only; omega)) | with_reducible refine obj_alloc ?_ _ | with_reducible refine obj_drew ?_ | exact hfw_9))
              clear hbl_9 hba_9 hbo_9 ll la lo hl po0 po1 po2 po3 po4 cl_0 cl_1 cl_2 cl_3 cl_4 cl_5 cl_6 cl_7 cl_8 cl_9 cl_10 cl_11 zl ca_0 ca_1 ca_2 ca_3 za co_0 co_1 co_2 co_3 zo hfw_9
              rintro w10 ⟨hfw_10, hbl_10, hba_10, hbo_10, hbr_10⟩
              obtain ⟨cl_0, cl_1, cl_2, cl_3, cl_4, cl_5, cl_6, cl_7, cl_8, cl_9, cl_10, cl_11, zl⟩ := hbl_10.cs
              obtain ⟨ca_0, ca_1, ca_2, ca_3, za⟩ := hba_10.cs
              obtain ⟨co_0, co_1, co_2, co_3, zo⟩ := hbo_10.cs
              obtain ⟨cr_0, cr_1, cr_2, zr⟩ := hbr_10.cs
              go_region
              go_upto_region 13 with fail
              have o5 := Lib.hid (hbr_10.lt)
              have ll := hbl_10.lt
              have la := hba_10.lt
              have lo := hbo_10.lt
              have lr := hbr_10.lt
              have hl := hfw_10.size
              have po0 := o0.out
              have po1 := o1.out
              have po2 := o2.out
              have po3 := o3.out
              have po4 := o4.out
              have po5 := o5.out
              refine wp_world (fun W => Fr noB wo0 W ∧ B3 W w2.heap.size ∧ Bl W qa 2 0 0 ∧ Bl W qo 0 0 0 ∧ A3 W w9.heap.size ∧ A3 W w10.heap.size) ?_ ?_
              · refine ⟨?_, ?_, ?_, ?_, ?_, ?_⟩ <;> ((first | unfold Bx | unfold Bl | unfold B3 | unfold A3 | skip); repeat (first | with_reducible exact hfw_10 | with_reducible refine Fr.alloc ?_ _ | (with_reducible refine Fr.setCell ?_ ?_ _; rotate_left; (intro h; dsimp only at h; omega)) | with_reducible refine Fr.drew ?_ | with_reducible exact hbl_10.raw | with_reducible exact hba_10.raw | with_reducible exact hbo_10.raw | with_reducible exact hbr_10.raw | (with_reducible refine obj_alloc_at ?_; simp; done) | (with_reducible apply obj_put4; omega) | (with_reducible apply obj_put1; omega) | (with_reducible refine obj_setCell_other ?_ _ _ ?_; rotate_left; (dsimp only; omega)) | with_reducible refine obj_alloc ?_ _ | with_reducible refine obj_drew ?_ | exact hfw_10))
              clear hbl_10 hba_10 hbo_10 hbr_10 ll la lo lr hl po0 po1 po2 po3 po4 po5 cl_0 cl_1 cl_2 cl_3 cl_4 cl_5 cl_6 cl_7 cl_8 cl_9 cl_10 cl_11 zl ca_0 ca_1 ca_2 ca_3 za co_0 co_1 co_2 co_3 zo cr_0 cr_1 cr_2 zr hfw_10
              rintro w11 ⟨hfw_11, hbl_11, hba_11, hbo_11, hbr_11, hbs_11⟩
              obtain ⟨cl_0, cl_1, cl_2, cl_3, cl_4, cl_5, cl_6, cl_7, cl_8, cl_9, cl_10, cl_11, zl⟩ := hbl_11.cs
              obtain ⟨ca_0, ca_1, ca_2, ca_3, za⟩ := hba_11.cs
              obtain ⟨co_0, co_1, co_2, co_3, zo⟩ := hbo_11.cs
              obtain ⟨cr_0, cr_1, cr_2, zr⟩ := hbr_11.cs
              obtain ⟨cs_0, cs_1, cs_2, zs⟩ := hbs_11.cs
              have NA : ∀ W : World, (binOp .neq 23 (.agg #[.int .u8 2, .int .i64 0, .int .i64 0, .string ⟨#[]⟩]) (.agg #[.int .u8 2, .int .i64 0, .int .i64 0, .string ⟨#[]⟩])).run Try.prog W = .ok (.bool false) W := neqv_lit noV noV false ((eqV_iff _ _).2 rfl)
              have NO : ∀ W : World, (binOp .neq 23 (.agg #[.int .u8 0, .int .i64 0, .int .i64 0, .string ⟨#[]⟩]) (.agg #[.int .u8 0, .int .i64 0, .int .i64 0, .string ⟨#[]⟩])).run Try.prog W = .ok (.bool false) W := neqv_lit zV zV false ((eqV_iff _ _).2 rfl)
              have xl0 := Ext.cell cl_0
              have xl1 := Ext.cell cl_1
              have xl2 := Ext.cell cl_2
              have xl3 := Ext.cell cl_3
              have xl4 := Ext.cell cl_4
              have xl5 := Ext.cell cl_5
              have xl6 := Ext.cell cl_6
              have xl7 := Ext.cell cl_7
              have xl8 := Ext.cell cl_8
              have xl9 := Ext.cell cl_9
              have xl10 := Ext.cell cl_10
              have xl11 := Ext.cell cl_11
              have xa0 := Ext.cell ca_0
              have xa1 := Ext.cell ca_1
              have xa2 := Ext.cell ca_2
              have xa3 := Ext.cell ca_3
              have xo0 := Ext.cell co_0
              have xo1 := Ext.cell co_1
              have xo2 := Ext.cell co_2
              have xo3 := Ext.cell co_3
              have xr0 := Ext.cell cr_0
              have xr1 := Ext.cell cr_1
              have xr2 := Ext.cell cr_2
              have xs0 := Ext.cell cs_0
              have xs1 := Ext.cell cs_1
              have xs2 := Ext.cell cs_2
              clear cl_0 cl_1 cl_2 cl_3 cl_4 cl_5 cl_6 cl_7 cl_8 cl_9 cl_10 cl_11 zl ca_0 ca_1 ca_2 ca_3 za co_0 co_1 co_2 co_3 zo cr_0 cr_1 cr_2 zr cs_0 cs_1 cs_2 zs
              refine wp_region_ext (by kernel_rfl) (by kernel_rfl) ?_
              go_big_quiet_step (fail)
              go_big_quiet_step (fail)
              go_big_quiet_step (fail)
              go_big_quiet_step (fail)
              go_big_quiet_step (fail)
              go_big_quiet_step (fail)
              go_big_quiet_step (fail)
              go_big_quiet_step (fail)
              go_big_quiet_step (fail)
              go_big_quiet_step (fail)
              go_big_quiet_step (fail)
              go_big_quiet_step (fail)
              go_big_quiet_step (fail)
              go_big_quiet_step (fail)
              go_big_quiet_step (fail)
              go_big_quiet_step (fail)
              go_big_quiet_step (fail)
              go_big_quiet_step (fail)
              go_big_quiet_step (fail)
              go_big_quiet_step (fail)
              go_big_quiet_step (fail)
              go_big_quiet_step (fail)
              go_big_quiet_step (fail)
              go_big_quiet_step (fail)
              go_big_quiet_step (fail)
              go_big_quiet_step (fail)
              refine wpQuiet_nil ?_
              rintro _ ⟨⟨w12, hf12⟩, rfl⟩
              have hfw_12 := hfw_11.transN hf12
              clear NA NO xl0 xl1 xl2 xl3 xl4 xl5 xl6 xl7 xl8 xl9 xl10 xl11 xa0 xa1 xa2 xa3 xo0 xo1 xo2 xo3 xr0 xr1 xr2 xs0 xs1 xs2 hbl_11 hba_11 hbo_11 hbr_11 hbs_11
              go_wp2_with fail
              go_roundg 0
              case measure => omega
              case rel => exact ⟨3, by omega, by omega, by go_num, hfw_12⟩
        · go_wp2_with fail
          go_roundg 2
          case measure => omega
          case rel => exact ⟨1, by omega, by omega, by go_num, hf0.transN hf⟩
    · clear hi
      obtain ⟨wo1, rfl⟩ : ∃ x, x = wr := ⟨_, rfl⟩
      have hbl_4 := hbl_3.mv hf
      clear hbl_3 cl_0 cl_1 cl_2 cl_3 cl_4 cl_5 cl_6 cl_7 cl_8 cl_9 cl_10 cl_11 zl
      obtain ⟨cl_0, cl_1, cl_2, cl_3, cl_4, cl_5, cl_6, cl_7, cl_8, cl_9, cl_10, cl_11, zl⟩ := hbl_4.cs
      go_wp2_with fail
      have hf0 := hf
      go_loopg [3] 3 (fun gh iv wr => ∃ i : Nat, i ≤ 3 ∧ gh = 3 - i ∧ iv = .int .i64 i ∧ Fr noB wo1 wr)
      case atStart => exact ⟨0, by omega, by omega, rfl, Fr.refl _ _⟩
      case round =>
        clear hf
        obtain ⟨i, hi, rfl, rfl, hf⟩ := hrel
        have hi' : i = 0 ∨ i = 1 ∨ i = 2 ∨ i = 3 := by omega
        rcases hi' with rfl | rfl | rfl | rfl
        · clear hi
          obtain ⟨wi0, rfl⟩ : ∃ x, x = wr := ⟨_, rfl⟩
          have hbl_5 := hbl_4.mv hf
          clear hbl_4 cl_0 cl_1 cl_2 cl_3 cl_4 cl_5 cl_6 cl_7 cl_8 cl_9 cl_10 cl_11 zl
          obtain ⟨cl_0, cl_1, cl_2, cl_3, cl_4, cl_5, cl_6, cl_7, cl_8, cl_9, cl_10, cl_11, zl⟩ := hbl_5.cs
          have HA := Lib.hid (show ∀ W : World, Calls Try.prog 29 #[.agg #[.int .u8 2, .int .i64 1, .int .i64 0, .string ⟨#[]⟩], .agg #[.int .u8 2, .int .i64 0, .int .i64 0, .string ⟨#[]⟩]] W fun e w' => e = .returned (.tuple #[.agg #[.int .u8 2, .int .i64 0, .int .i64 0, .string ⟨#[]⟩], .int .i64 0]) ∧ Fr noB W w' from fun W => and_any yesV noV W)
          have HO := Lib.hid (show ∀ W : World, Calls Try.prog 31 #[.agg #[.int .u8 2, .int .i64 1, .int .i64 0, .string ⟨#[]⟩], .agg #[.int .u8 2, .int .i64 0, .int .i64 0, .string ⟨#[]⟩]] W fun e w' => e = .returned (.tuple #[.agg #[.int .u8 2, .int .i64 1, .int .i64 0, .string ⟨#[]⟩], .int .i64 0]) ∧ Fr noB W w' from fun W => or_any yesV noV W)
          go_upto_region 8 with fail
          have ll := hbl_5.lt
          have hl := hf.size
          refine wp_world (fun W => Fr noB wo1 W ∧ B3 W w2.heap.size) ?_ ?_
          · refine ⟨?_, ?_⟩ <;> ((first | unfold Bx | unfold Bl | unfold B3 | unfold A3 | skip); repeat (first | with_reducible exact hf | with_reducible refine Fr.alloc ?_ _ | (with_reducible refine Fr.setCell ?_ ?_ _; rotate_left; (intro h; dsimp only at h; omega)) | with_reducible refine Fr.drew ?_ | with_reducible exact hbl_5.raw | (with_reducible refine obj_alloc_at ?_; simp; done) | (with_reducible apply obj_put4; omega) | (with_reducible apply obj_put1; omega) | (with_reducible refine obj_setCell_other ?_ _ _ ?_; rotate_left; (dsimp only; omega)) | with_reducible refine obj_alloc ?_ _ | with_reducible refine obj_drew ?_ | exact hf))
          clear hbl_5 ll hl cl_0 cl_1 cl_2 cl_3 cl_4 cl_5 cl_6 cl_7 cl_8 cl_9 cl_10 cl_11 zl hf
          rintro w6 ⟨hfw_6, hbl_6⟩
          obtain ⟨cl_0, cl_1, cl_2, cl_3, cl_4, cl_5, cl_6, cl_7, cl_8, cl_9, cl_10, cl_11, zl⟩ := hbl_6.cs
          go_cut [4, 5] (fun s4 s5 wx => ∃ qa : Nat, s4 = .pointer (some ⟨qa, 0, none⟩) ∧ s5 = .int .i64 0 ∧ Fr noB w6 wx ∧ w6.heap.size ≤ qa ∧ Bl wx qa 2 0 0)
          case first => as_aux_lemma =>
            have hql := obj_drew hbl_6.raw
            have fz : ∀ (X : World) (o : Nat), (X.alloc (.cells #[.int .u8 0, .int .i64 0, .int .i64 0, .string ⟨#[]⟩] 23 (0, 0))).frozen? ⟨X.heap.size, o, none⟩ = false := fun X o => frozen_of_obj (obj_alloc_new X _) o
            have fc : ∀ X : World, (X.alloc (.cells #[.int .u8 0, .int .i64 0, .int .i64 0, .string ⟨#[]⟩] 23 (0, 0))).cell? ⟨X.heap.size, 0, none⟩ = some (.int .u8 0) ∧ (X.alloc (.cells #[.int .u8 0, .int .i64 0, .int .i64 0, .string ⟨#[]⟩] 23 (0, 0))).cell? ⟨X.heap.size, 1, none⟩ = some (.int .i64 0) ∧ (X.alloc (.cells #[.int .u8 0, .int .i64 0, .int .i64 0, .string ⟨#[]⟩] 23 (0, 0))).cell? ⟨X.heap.size, 2, none⟩ = some (.int .i64 0) ∧ (X.alloc (.cells #[.int .u8 0, .int .i64 0, .int .i64 0, .string ⟨#[]⟩] 23 (0, 0))).cell? ⟨X.heap.size, 3, none⟩ = some (.string ⟨#[]⟩) := fun X => v_cells (v := zV) (obj_alloc_new X _)
            have ll := hbl_6.lt
            have hdq : w6.drew.heap.size = w6.heap.size := rfl
            have hvl : ∀ X : World, X.heap[w2.heap.size]? = some (.cells #[.int .u8 2, .int .i64 0, .int .i64 0, .string ⟨#[]⟩, .int .u8 2, .int .i64 1, .int .i64 0, .string ⟨#[]⟩, .int .u8 0, .int .i64 0, .int .i64 0, .string ⟨#[]⟩] 23 (0, 0)) → X.cell? ⟨w2.heap.size, 0, none⟩ = some (.int .u8 2) ∧ X.cell? ⟨w2.heap.size, 1, none⟩ = some (.int .i64 0) ∧ X.cell? ⟨w2.heap.size, 2, none⟩ = some (.int .i64 0) ∧ X.cell? ⟨w2.heap.size, 3, none⟩ = some (.string ⟨#[]⟩) ∧ X.cell? ⟨w2.heap.size, 4, none⟩ = some (.int .u8 2) ∧ X.cell? ⟨w2.heap.size, 5, none⟩ = some (.int .i64 1) ∧ X.cell? ⟨w2.heap.size, 6, none⟩ = some (.int .i64 0) ∧ X.cell? ⟨w2.heap.size, 7, none⟩ = some (.string ⟨#[]⟩) := fun X h => ⟨by rw [cell_of_obj h]; rfl, by rw [cell_of_obj h]; rfl, by rw [cell_of_obj h]; rfl, by rw [cell_of_obj h]; rfl, by rw [cell_of_obj h]; rfl, by rw [cell_of_obj h]; rfl, by rw [cell_of_obj h]; rfl, by rw [cell_of_obj h]; rfl⟩
            go_region_held3 (fun X : World => X.cell? ⟨w2.heap.size, 0, none⟩ = some (.int .u8 2) ∧ X.cell? ⟨w2.heap.size, 1, none⟩ = some (.int .i64 0) ∧ X.cell? ⟨w2.heap.size, 2, none⟩ = some (.int .i64 0) ∧ X.cell? ⟨w2.heap.size, 3, none⟩ = some (.string ⟨#[]⟩) ∧ X.cell? ⟨w2.heap.size, 4, none⟩ = some (.int .u8 2) ∧ X.cell? ⟨w2.heap.size, 5, none⟩ = some (.int .i64 1) ∧ X.cell? ⟨w2.heap.size, 6, none⟩ = some (.int .i64 0) ∧ X.cell? ⟨w2.heap.size, 7, none⟩ = some (.string ⟨#[]⟩)) ((refine (hvl _ ?_) <;> repeat (first | with_reducible exact hql | with_reducible exact hbl_6.raw | with_reducible refine obj_alloc ?_ _ | (with_reducible refine obj_setCell_other ?_ _ _ ?_; rotate_left; (dsimp only; omega)) | with_reducible refine obj_drew ?_))) (first | (go_at_call 29; refine (HA.out _).mono ?_; rintro e x0 ⟨rfl, hG0⟩; have k0 := hG0.size; refine have_of (p := x0.heap[w2.heap.size]? = some (.cells #[.int .u8 2, .int .i64 0, .int .i64 0, .string ⟨#[]⟩, .int .u8 2, .int .i64 1, .int .i64 0, .string ⟨#[]⟩, .int .u8 0, .int .i64 0, .int .i64 0, .string ⟨#[]⟩] 23 (0, 0))) ?_ (fun hql => ?_); (focus (refine hG0.obj (noB_not _) ?_; repeat (first | with_reducible exact hql | with_reducible exact hbl_6.raw | with_reducible refine obj_alloc ?_ _ | with_reducible refine obj_drew ?_))); (first | (have hnn := hG0.obj (fun x => x) hnn) | (with_reducible have hnn := hG0.obj (noB_not _) (obj_alloc_new _ _)) | (with_reducible have hnn := hG0.obj (noB_not _) (obj_drew (obj_alloc_new _ _))) | skip); (first | (have znn := frozen_of_obj hnn; obtain ⟨n0, n1, n2, n3⟩ := v_cells (v := zV) hnn) | skip)))
            all_goals (go_wp2_with fail; go_meet)
            all_goals (have hfr0 := Fr.refl noB w6; refine ⟨_, rfl, rfl, ?_, ?_, ?_⟩)
            all_goals (first | ((repeat (first | with_reducible exact hfr0 | with_reducible refine Fr.transN ?_ hG0 | with_reducible refine Fr.alloc ?_ _ | (with_reducible refine Fr.setCell ?_ ?_ _; rotate_left; (intro h; dsimp only at h; omega)) | with_reducible refine Fr.drew ?_ | exact hfr0)); done) | ((try simp only [World.size_alloc] at k0); omega) | (((first | unfold Bx | unfold Bl | unfold B3 | unfold A3 | skip); repeat (first | with_reducible exact hnn | (with_reducible refine obj_alloc_at ?_; simp; done) | (with_reducible apply obj_put4; omega) | (with_reducible refine obj_setCell_other ?_ _ _ ?_; rotate_left; (dsimp only; omega)) | with_reducible refine obj_alloc ?_ _ | with_reducible refine obj_drew ?_)); done))
          case rest =>
            obtain ⟨qa, rfl, rfl, hf7, hga, hba_7⟩ := hcut
            obtain ⟨w7, rfl⟩ : ∃ x, x = wc := ⟨_, rfl⟩
            have o0 := Lib.hid (hbl_6.lt)
            have o1 := Lib.hid hga
            have hbl_7 := hbl_6.mv hf7
            have hfw_7 := hfw_6.transN hf7
            clear hbl_6 cl_0 cl_1 cl_2 cl_3 cl_4 cl_5 cl_6 cl_7 cl_8 cl_9 cl_10 cl_11 zl hf7 hfw_6 hga
            obtain ⟨cl_0, cl_1, cl_2, cl_3, cl_4, cl_5, cl_6, cl_7, cl_8, cl_9, cl_10, cl_11, zl⟩ := hbl_7.cs
            obtain ⟨ca_0, ca_1, ca_2, ca_3, za⟩ := hba_7.cs
            go_upto_region 9 with fail
            have ll := hbl_7.lt
            have la := hba_7.lt
            have hl := hfw_7.size
            have po0 := o0.out
            have po1 := o1.out
            refine wp_world (fun W => Fr noB wo1 W ∧ B3 W w2.heap.size ∧ Bl W qa 2 0 0) ?_ ?_
            · refine ⟨?_, ?_, ?_⟩ <;> ((first | unfold Bx | unfold Bl | unfold B3 | unfold A3 | skip); repeat (first | with_reducible exact hfw_7 | with_reducible refine Fr.alloc ?_ _ | (with_reducible refine Fr.setCell ?_ ?_ _; rotate_left; (intro h; dsimp only at h; omega)) | with_reducible refine Fr.drew ?_ | with_reducible exact hbl_7.raw | with_reducible exact hba_7.raw | (with_reducible refine obj_alloc_at ?_; simp; done) | (with_reducible apply obj_put4; omega) | (with_reducible apply obj_put1; omega) | (with_reducible refine obj_setCell_other ?_ _ _ ?_; rotate_left; (dsimp only; omega)) | with_reducible refine obj_alloc ?_ _ | with_reducible refine obj_drew ?_ | exact hfw_7))
            clear hbl_7 hba_7 ll la hl po0 po1 cl_0 cl_1 cl_2 cl_3 cl_4 cl_5 cl_6 cl_7 cl_8 cl_9 cl_10 cl_11 zl ca_0 ca_1 ca_2 ca_3 za hfw_7
            rintro w8 ⟨hfw_8, hbl_8, hba_8⟩
            obtain ⟨cl_0, cl_1, cl_2, cl_3, cl_4, cl_5, cl_6, cl_7, cl_8, cl_9, cl_10, cl_11, zl⟩ := hbl_8.cs
            obtain ⟨ca_0, ca_1, ca_2, ca_3, za⟩ := hba_8.cs
            go_cut [6, 7] (fun s6 s7 wx => ∃ qo : Nat, s6 = .pointer (some ⟨qo, 0, none⟩) ∧ s7 = .int .i64 0 ∧ Fr noB w8 wx ∧ w8.heap.size ≤ qo ∧ Bl wx qo 2 1 0)
            case first => as_aux_lemma =>
              have hql := obj_drew hbl_8.raw
              have fz : ∀ (X : World) (o : Nat), (X.alloc (.cells #[.int .u8 0, .int .i64 0, .int .i64 0, .string ⟨#[]⟩] 23 (0, 0))).frozen? ⟨X.heap.size, o, none⟩ = false := fun X o => frozen_of_obj (obj_alloc_new X _) o
              have fc : ∀ X : World, (X.alloc (.cells #[.int .u8 0, .int .i64 0, .int .i64 0, .string ⟨#[]⟩] 23 (0, 0))).cell? ⟨X.heap.size, 0, none⟩ = some (.int .u8 0) ∧ (X.alloc (.cells #[.int .u8 0, .int .i64 0, .int .i64 0, .string ⟨#[]⟩] 23 (0, 0))).cell? ⟨X.heap.size, 1, none⟩ = some (.int .i64 0) ∧ (X.alloc (.cells #[.int .u8 0, .int .i64 0, .int .i64 0, .string ⟨#[]⟩] 23 (0, 0))).cell? ⟨X.heap.size, 2, none⟩ = some (.int .i64 0) ∧ (X.alloc (.cells #[.int .u8 0, .int .i64 0, .int .i64 0, .string ⟨#[]⟩] 23 (0, 0))).cell? ⟨X.heap.size, 3, none⟩ = some (.string ⟨#[]⟩) := fun X => v_cells (v := zV) (obj_alloc_new X _)
              have ll := hbl_8.lt
              have hdq : w8.drew.heap.size = w8.heap.size := rfl
              have hvl : ∀ X : World, X.heap[w2.heap.size]? = some (.cells #[.int .u8 2, .int .i64 0, .int .i64 0, .string ⟨#[]⟩, .int .u8 2, .int .i64 1, .int .i64 0, .string ⟨#[]⟩, .int .u8 0, .int .i64 0, .int .i64 0, .string ⟨#[]⟩] 23 (0, 0)) → X.cell? ⟨w2.heap.size, 0, none⟩ = some (.int .u8 2) ∧ X.cell? ⟨w2.heap.size, 1, none⟩ = some (.int .i64 0) ∧ X.cell? ⟨w2.heap.size, 2, none⟩ = some (.int .i64 0) ∧ X.cell? ⟨w2.heap.size, 3, none⟩ = some (.string ⟨#[]⟩) ∧ X.cell? ⟨w2.heap.size, 4, none⟩ = some (.int .u8 2) ∧ X.cell? ⟨w2.heap.size, 5, none⟩ = some (.int .i64 1) ∧ X.cell? ⟨w2.heap.size, 6, none⟩ = some (.int .i64 0) ∧ X.cell? ⟨w2.heap.size, 7, none⟩ = some (.string ⟨#[]⟩) := fun X h => ⟨by rw [cell_of_obj h]; rfl, by rw [cell_of_obj h]; rfl, by rw [cell_of_obj h]; rfl, by rw [cell_of_obj h]; rfl, by rw [cell_of_obj h]; rfl, by rw [cell_of_obj h]; rfl, by rw [cell_of_obj h]; rfl, by rw [cell_of_obj h]; rfl⟩
              go_region_held3 (fun X : World => X.cell? ⟨w2.heap.size, 0, none⟩ = some (.int .u8 2) ∧ X.cell? ⟨w2.heap.size, 1, none⟩ = some (.int .i64 0) ∧ X.cell? ⟨w2.heap.size, 2, none⟩ = some (.int .i64 0) ∧ X.cell? ⟨w2.heap.size, 3, none⟩ = some (.string ⟨#[]⟩) ∧ X.cell? ⟨w2.heap.size, 4, none⟩ = some (.int .u8 2) ∧ X.cell? ⟨w2.heap.size, 5, none⟩ = some (.int .i64 1) ∧ X.cell? ⟨w2.heap.size, 6, none⟩ = some (.int .i64 0) ∧ X.cell? ⟨w2.heap.size, 7, none⟩ = some (.string ⟨#[]⟩)) ((refine (hvl _ ?_) <;> repeat (first | with_reducible exact hql | with_reducible exact hbl_8.raw | with_reducible refine obj_alloc ?_ _ | (with_reducible refine obj_setCell_other ?_ _ _ ?_; rotate_left; (dsimp only; omega)) | with_reducible refine obj_drew ?_))) (first | (go_at_call 31; refine (HO.out _).mono ?_; rintro e x0 ⟨rfl, hG0⟩; have k0 := hG0.size; refine have_of (p := x0.heap[w2.heap.size]? = some (.cells #[.int .u8 2, .int .i64 0, .int .i64 0, .string ⟨#[]⟩, .int .u8 2, .int .i64 1, .int .i64 0, .string ⟨#[]⟩, .int .u8 0, .int .i64 0, .int .i64 0, .string ⟨#[]⟩] 23 (0, 0))) ?_ (fun hql => ?_); (focus (refine hG0.obj (noB_not _) ?_; repeat (first | with_reducible exact hql | with_reducible exact hbl_8.raw | with_reducible refine obj_alloc ?_ _ | with_reducible refine obj_drew ?_))); (first | (have hnn := hG0.obj (fun x => x) hnn) | (with_reducible have hnn := hG0.obj (noB_not _) (obj_alloc_new _ _)) | (with_reducible have hnn := hG0.obj (noB_not _) (obj_drew (obj_alloc_new _ _))) | skip); (first | (have znn := frozen_of_obj hnn; obtain ⟨n0, n1, n2, n3⟩ := v_cells (v := zV) hnn) | skip)))
              all_goals (go_wp2_with fail; go_meet)
              all_goals (have hfr0 := Fr.refl noB w8; refine ⟨_, rfl, rfl, ?_, ?_, ?_⟩)
              all_goals (first | ((repeat (first | with_reducible exact hfr0 | with_reducible refine Fr.transN ?_ hG0 | with_reducible refine Fr.alloc ?_ _ | (with_reducible refine Fr.setCell ?_ ?_ _; rotate_left; (intro h; dsimp only at h; omega)) | with_reducible refine Fr.drew ?_ | exact hfr0)); done) | ((try simp only [World.size_alloc] at k0); omega) | (((first | unfold Bx | unfold Bl | unfold B3 | unfold A3 | skip); repeat (first | with_reducible exact hnn | (with_reducible refine obj_alloc_at ?_; simp; done) | (with_reducible apply obj_put4; omega) | (with_reducible refine obj_setCell_other ?_ _ _ ?_; rotate_left; (dsimp only; omega)) | with_reducible refine obj_alloc ?_ _ | with_reducible refine obj_drew ?_)); done))
            case rest =>
              obtain ⟨qo, rfl, rfl, hf9, hgo, hbo_9⟩ := hcut
              obtain ⟨w9, rfl⟩ : ∃ x, x = wc := ⟨_, rfl⟩
              have o2 := Lib.hid (hba_8.lt)
              have o3 := Lib.hid hgo
              have hbl_9 := hbl_8.mv hf9
              have hba_9 := hba_8.mv hf9
              have hfw_9 := hfw_8.transN hf9
              clear hbl_8 hba_8 cl_0 cl_1 cl_2 cl_3 cl_4 cl_5 cl_6 cl_7 cl_8 cl_9 cl_10 cl_11 zl ca_0 ca_1 ca_2 ca_3 za hf9 hfw_8 hgo
              obtain ⟨cl_0, cl_1, cl_2, cl_3, cl_4, cl_5, cl_6, cl_7, cl_8, cl_9, cl_10, cl_11, zl⟩ := hbl_9.cs
              obtain ⟨ca_0, ca_1, ca_2, ca_3, za⟩ := hba_9.cs
              obtain ⟨co_0, co_1, co_2, co_3, zo⟩ := hbo_9.cs
              go_upto_region 11 with fail
              have o4 := Lib.hid (hbo_9.lt)
              have ll := hbl_9.lt
              have la := hba_9.lt
              have lo := hbo_9.lt
              have hl := hfw_9.size
              have po0 := o0.out
              have po1 := o1.out
              have po2 := o2.out
              have po3 := o3.out
              have po4 := o4.out
              refine wp_world (fun W => Fr noB wo1 W ∧ B3 W w2.heap.size ∧ Bl W qa 2 0 0 ∧ Bl W qo 2 1 0 ∧ A3 W w9.heap.size) ?_ ?_
              · refine ⟨?_, ?_, ?_, ?_, ?_⟩ <;> ((first | unfold Bx | unfold Bl | unfold B3 | unfold A3 | skip); repeat (first | with_reducible exact hfw_9 | with_reducible refine Fr.alloc ?_ _ | (with_reducible refine Fr.setCell ?_ ?_ _; rotate_left; (intro h; dsimp only at h; omega)) | with_reducible refine Fr.drew ?_ | with_reducible exact hbl_9.raw | with_reducible exact hba_9.raw | with_reducible exact hbo_9.raw | (with_reducible refine obj_alloc_at ?_; simp; done) | (with_reducible apply obj_put4; omega) | (with_reducible apply obj_put1; omega) | (with_reducible refine obj_setCell_other ?_ _ _ ?_; rotate_left; (dsimp only; omega)) | with_reducible refine obj_alloc ?_ _ | with_reducible refine obj_drew ?_ | exact hfw_9))
              clear hbl_9 hba_9 hbo_9 ll la lo hl po0 po1 po2 po3 po4 cl_0 cl_1 cl_2 cl_3 cl_4 cl_5 cl_6 cl_7 cl_8 cl_9 cl_10 cl_11 zl ca_0 ca_1 ca_2 ca_3 za co_0 co_1 co_2 co_3 zo hfw_9
              rintro w10 ⟨hfw_10, hbl_10, hba_10, hbo_10, hbr_10⟩
              obtain ⟨cl_0, cl_1, cl_2, cl_3, cl_4, cl_5, cl_6, cl_7, cl_8, cl_9, cl_10, cl_11, zl⟩ := hbl_10.cs
              obtain ⟨ca_0, ca_1, ca_2, ca_3, za⟩ := hba_10.cs
              obtain ⟨co_0, co_1, co_2, co_3, zo⟩ := hbo_10.cs
              obtain ⟨cr_0, cr_1, cr_2, zr⟩ := hbr_10.cs
              go_region
              go_upto_region 13 with fail
              have o5 := Lib.hid (hbr_10.lt)
              have ll := hbl_10.lt
              have la := hba_10.lt
              have lo := hbo_10.lt
              have lr := hbr_10.lt
              have hl := hfw_10.size
              have po0 := o0.out
              have po1 := o1.out
              have po2 := o2.out
              have po3 := o3.out
              have po4 := o4.out
              have po5 := o5.out
              refine wp_world (fun W => Fr noB wo1 W ∧ B3 W w2.heap.size ∧ Bl W qa 2 0 0 ∧ Bl W qo 2 1 0 ∧ A3 W w9.heap.size ∧ A3 W w10.heap.size) ?_ ?_
              · refine ⟨?_, ?_, ?_, ?_, ?_, ?_⟩ <;> ((first | unfold Bx | unfold Bl | unfold B3 | unfold A3 | skip); repeat (first | with_reducible exact hfw_10 | with_reducible refine Fr.alloc ?_ _ | (with_reducible refine Fr.setCell ?_ ?_ _; rotate_left; (intro h; dsimp only at h; omega)) | with_reducible refine Fr.drew ?_ | with_reducible exact hbl_10.raw | with_reducible exact hba_10.raw | with_reducible exact hbo_10.raw | with_reducible exact hbr_10.raw | (with_reducible refine obj_alloc_at ?_; simp; done) | (with_reducible apply obj_put4; omega) | (with_reducible apply obj_put1; omega) | (with_reducible refine obj_setCell_other ?_ _ _ ?_; rotate_left; (dsimp only; omega)) | with_reducible refine obj_alloc ?_ _ | with_reducible refine obj_drew ?_ | exact hfw_10))
              clear hbl_10 hba_10 hbo_10 hbr_10 ll la lo lr hl po0 po1 po2 po3 po4 po5 cl_0 cl_1 cl_2 cl_3 cl_4 cl_5 cl_6 cl_7 cl_8 cl_9 cl_10 cl_11 zl ca_0 ca_1 ca_2 ca_3 za co_0 co_1 co_2 co_3 zo cr_0 cr_1 cr_2 zr hfw_10
              rintro w11 ⟨hfw_11, hbl_11, hba_11, hbo_11, hbr_11, hbs_11⟩
              obtain ⟨cl_0, cl_1, cl_2, cl_3, cl_4, cl_5, cl_6, cl_7, cl_8, cl_9, cl_10, cl_11, zl⟩ := hbl_11.cs
              obtain ⟨ca_0, ca_1, ca_2, ca_3, za⟩ := hba_11.cs
              obtain ⟨co_0, co_1, co_2, co_3, zo⟩ := hbo_11.cs
              obtain ⟨cr_0, cr_1, cr_2, zr⟩ := hbr_11.cs
              obtain ⟨cs_0, cs_1, cs_2, zs⟩ := hbs_11.cs
              have NA : ∀ W : World, (binOp .neq 23 (.agg #[.int .u8 2, .int .i64 0, .int .i64 0, .string ⟨#[]⟩]) (.agg #[.int .u8 2, .int .i64 0, .int .i64 0, .string ⟨#[]⟩])).run Try.prog W = .ok (.bool false) W := neqv_lit noV noV false ((eqV_iff _ _).2 rfl)
              have NO : ∀ W : World, (binOp .neq 23 (.agg #[.int .u8 2, .int .i64 1, .int .i64 0, .string ⟨#[]⟩]) (.agg #[.int .u8 2, .int .i64 1, .int .i64 0, .string ⟨#[]⟩])).run Try.prog W = .ok (.bool false) W := neqv_lit yesV yesV false ((eqV_iff _ _).2 rfl)
              have xl0 := Ext.cell cl_0
              have xl1 := Ext.cell cl_1
              have xl2 := Ext.cell cl_2
              have xl3 := Ext.cell cl_3
              have xl4 := Ext.cell cl_4
              have xl5 := Ext.cell cl_5
              have xl6 := Ext.cell cl_6
              have xl7 := Ext.cell cl_7
              have xl8 := Ext.cell cl_8
              have xl9 := Ext.cell cl_9
              have xl10 := Ext.cell cl_10
              have xl11 := Ext.cell cl_11
              have xa0 := Ext.cell ca_0
              have xa1 := Ext.cell ca_1
              have xa2 := Ext.cell ca_2
              have xa3 := Ext.cell ca_3
              have xo0 := Ext.cell co_0
              have xo1 := Ext.cell co_1
              have xo2 := Ext.cell co_2
              have xo3 := Ext.cell co_3
              have xr0 := Ext.cell cr_0
              have xr1 := Ext.cell cr_1
              have xr2 := Ext.cell cr_2
              have xs0 := Ext.cell cs_0
              have xs1 := Ext.cell cs_1
              have xs2 := Ext.cell cs_2
              clear cl_0 cl_1 cl_2 cl_3 cl_4 cl_5 cl_6 cl_7 cl_8 cl_9 cl_10 cl_11 zl ca_0 ca_1 ca_2 ca_3 za co_0 co_1 co_2 co_3 zo cr_0 cr_1 cr_2 zr cs_0 cs_1 cs_2 zs
              refine wp_region_ext (by kernel_rfl) (by kernel_rfl) ?_
              go_big_quiet_step (fail)
              go_big_quiet_step (fail)
              go_big_quiet_step (fail)
              go_big_quiet_step (fail)
              go_big_quiet_step (fail)
              go_big_quiet_step (fail)
              go_big_quiet_step (fail)
              go_big_quiet_step (fail)
              go_big_quiet_step (fail)
              go_big_quiet_step (fail)
              go_big_quiet_step (fail)
              go_big_quiet_step (fail)
              go_big_quiet_step (fail)
              go_big_quiet_step (fail)
              go_big_quiet_step (fail)
              go_big_quiet_step (fail)
              go_big_quiet_step (fail)
              go_big_quiet_step (fail)
              go_big_quiet_step (fail)
              go_big_quiet_step (fail)
              go_big_quiet_step (fail)
              go_big_quiet_step (fail)
              go_big_quiet_step (fail)
              go_big_quiet_step (fail)
              go_big_quiet_step (fail)
              go_big_quiet_step (fail)
              refine wpQuiet_nil ?_
              rintro _ ⟨⟨w12, hf12⟩, rfl⟩
              have hfw_12 := hfw_11.transN hf12
              clear NA NO xl0 xl1 xl2 xl3 xl4 xl5 xl6 xl7 xl8 xl9 xl10 xl11 xa0 xa1 xa2 xa3 xo0 xo1 xo2 xo3 xr0 xr1 xr2 xs0 xs1 xs2 hbl_11 hba_11 hbo_11 hbr_11 hbs_11
              go_wp2_with fail
              go_roundg 2
              case measure => omega
              case rel => exact ⟨1, by omega, by omega, by go_num, hfw_12⟩
        · clear hi
          obtain ⟨wi1, rfl⟩ : ∃ x, x = wr := ⟨_, rfl⟩
          have hbl_5 := hbl_4.mv hf
          clear hbl_4 cl_0 cl_1 cl_2 cl_3 cl_4 cl_5 cl_6 cl_7 cl_8 cl_9 cl_10 cl_11 zl
          obtain ⟨cl_0, cl_1, cl_2, cl_3, cl_4, cl_5, cl_6, cl_7, cl_8, cl_9, cl_10, cl_11, zl⟩ := hbl_5.cs
          have HA := Lib.hid (show ∀ W : World, Calls Try.prog 29 #[.agg #[.int .u8 2, .int .i64 1, .int .i64 0, .string ⟨#[]⟩], .agg #[.int .u8 2, .int .i64 1, .int .i64 0, .string ⟨#[]⟩]] W fun e w' => e = .returned (.tuple #[.agg #[.int .u8 2, .int .i64 1, .int .i64 0, .string ⟨#[]⟩], .int .i64 0]) ∧ Fr noB W w' from fun W => and_any yesV yesV W)
          have HO := Lib.hid (show ∀ W : World, Calls Try.prog 31 #[.agg #[.int .u8 2, .int .i64 1, .int .i64 0, .string ⟨#[]⟩], .agg #[.int .u8 2, .int .i64 1, .int .i64 0, .string ⟨#[]⟩]] W fun e w' => e = .returned (.tuple #[.agg #[.int .u8 2, .int .i64 1, .int .i64 0, .string ⟨#[]⟩], .int .i64 0]) ∧ Fr noB W w' from fun W => or_any yesV yesV W)
          go_upto_region 8 with fail
          have ll := hbl_5.lt
          have hl := hf.size
          refine wp_world (fun W => Fr noB wo1 W ∧ B3 W w2.heap.size) ?_ ?_
          · refine ⟨?_, ?_⟩ <;> ((first | unfold Bx | unfold Bl | unfold B3 | unfold A3 | skip); repeat (first | with_reducible exact hf | with_reducible refine Fr.alloc ?_ _ | (with_reducible refine Fr.setCell ?_ ?_ _; rotate_left; (intro h; dsimp only at h; omega)) | with_reducible refine Fr.drew ?_ | with_reducible exact hbl_5.raw | (with_reducible refine obj_alloc_at ?_; simp; done) | (with_reducible apply obj_put4; omega) | (with_reducible apply obj_put1; omega) | (with_reducible refine obj_setCell_other ?_ _ _ ?_; rotate_left; (dsimp only; omega)) | with_reducible refine obj_alloc ?_ _ | with_reducible refine obj_drew ?_ | exact hf))
          clear hbl_5 ll hl cl_0 cl_1 cl_2 cl_3 cl_4 cl_5 cl_6 cl_7 cl_8 cl_9 cl_10 cl_11 zl hf
          rintro w6 ⟨hfw_6, hbl_6⟩
          obtain ⟨cl_0, cl_1, cl_2, cl_3, cl_4, cl_5, cl_6, cl_7, cl_8, cl_9, cl_10, cl_11, zl⟩ := hbl_6.cs
          go_cut [4, 5] (fun s4 s5 wx => ∃ qa : Nat, s4 = .pointer (some ⟨qa, 0, none⟩) ∧ s5 = .int .i64 0 ∧ Fr noB w6 wx ∧ w6.heap.size ≤ qa ∧ Bl wx qa 2 1 0)
          case first => as_aux_lemma =>
            have hql := obj_drew hbl_6.raw
            have fz : ∀ (X : World) (o : Nat), (X.alloc (.cells #[.int .u8 0, .int .i64 0, .int .i64 0, .string ⟨#[]⟩] 23 (0, 0))).frozen? ⟨X.heap.size, o, none⟩ = false := fun X o => frozen_of_obj (obj_alloc_new X _) o
            have fc : ∀ X : World, (X.alloc (.cells #[.int .u8 0, .int .i64 0, .int .i64 0, .string ⟨#[]⟩] 23 (0, 0))).cell? ⟨X.heap.size, 0, none⟩ = some (.int .u8 0) ∧ (X.alloc (.cells #[.int .u8 0, .int .i64 0, .int .i64 0, .string ⟨#[]⟩] 23 (0, 0))).cell? ⟨X.heap.size, 1, none⟩ = some (.int .i64 0) ∧ (X.alloc (.cells #[.int .u8 0, .int .i64 0, .int .i64 0, .string ⟨#[]⟩] 23 (0, 0))).cell? ⟨X.heap.size, 2, none⟩ = some (.int .i64 0) ∧ (X.alloc (.cells #[.int .u8 0, .int .i64 0, .int .i64 0, .string ⟨#[]⟩] 23 (0, 0))).cell? ⟨X.heap.size, 3, none⟩ = some (.string ⟨#[]⟩) := fun X => v_cells (v := zV) (obj_alloc_new X _)
            have ll := hbl_6.lt
            have hdq : w6.drew.heap.size = w6.heap.size := rfl
            have hvl : ∀ X : World, X.heap[w2.heap.size]? = some (.cells #[.int .u8 2, .int .i64 0, .int .i64 0, .string ⟨#[]⟩, .int .u8 2, .int .i64 1, .int .i64 0, .string ⟨#[]⟩, .int .u8 0, .int .i64 0, .int .i64 0, .string ⟨#[]⟩] 23 (0, 0)) → X.cell? ⟨w2.heap.size, 4, none⟩ = some (.int .u8 2) ∧ X.cell? ⟨w2.heap.size, 5, none⟩ = some (.int .i64 1) ∧ X.cell? ⟨w2.heap.size, 6, none⟩ = some (.int .i64 0) ∧ X.cell? ⟨w2.heap.size, 7, none⟩ = some (.string ⟨#[]⟩) := fun X h => ⟨by rw [cell_of_obj h]; rfl, by rw [cell_of_obj h]; rfl, by rw [cell_of_obj h]; rfl, by rw [cell_of_obj h]; rfl⟩
            go_region_held3 (fun X : World => X.cell? ⟨w2.heap.size, 4, none⟩ = some (.int .u8 2) ∧ X.cell? ⟨w2.heap.size, 5, none⟩ = some (.int .i64 1) ∧ X.cell? ⟨w2.heap.size, 6, none⟩ = some (.int .i64 0) ∧ X.cell? ⟨w2.heap.size, 7, none⟩ = some (.string ⟨#[]⟩)) ((refine (hvl _ ?_) <;> repeat (first | with_reducible exact hql | with_reducible exact hbl_6.raw | with_reducible refine obj_alloc ?_ _ | (with_reducible refine obj_setCell_other ?_ _ _ ?_; rotate_left; (dsimp only; omega)) | with_reducible refine obj_drew ?_))) (first | (go_at_call 29; refine (HA.out _).mono ?_; rintro e x0 ⟨rfl, hG0⟩; have k0 := hG0.size; refine have_of (p := x0.heap[w2.heap.size]? = some (.cells #[.int .u8 2, .int .i64 0, .int .i64 0, .string ⟨#[]⟩, .int .u8 2, .int .i64 1, .int .i64 0, .string ⟨#[]⟩, .int .u8 0, .int .i64 0, .int .i64 0, .string ⟨#[]⟩] 23 (0, 0))) ?_ (fun hql => ?_); (focus (refine hG0.obj (noB_not _) ?_; repeat (first | with_reducible exact hql | with_reducible exact hbl_6.raw | with_reducible refine obj_alloc ?_ _ | with_reducible refine obj_drew ?_))); (first | (have hnn := hG0.obj (fun x => x) hnn) | (with_reducible have hnn := hG0.obj (noB_not _) (obj_alloc_new _ _)) | (with_reducible have hnn := hG0.obj (noB_not _) (obj_drew (obj_alloc_new _ _))) | skip); (first | (have znn := frozen_of_obj hnn; obtain ⟨n0, n1, n2, n3⟩ := v_cells (v := zV) hnn) | skip)))
            all_goals (go_wp2_with fail; go_meet)
            all_goals (have hfr0 := Fr.refl noB w6; refine ⟨_, rfl, rfl, ?_, ?_, ?_⟩)
            all_goals (first | ((repeat (first | with_reducible exact hfr0 | with_reducible refine Fr.transN ?_ hG0 | with_reducible refine Fr.alloc ?_ _ | (with_reducible refine Fr.setCell ?_ ?_ _; rotate_left; (intro h; dsimp only at h; omega)) | with_reducible refine Fr.drew ?_ | exact hfr0)); done) | ((try simp only [World.size_alloc] at k0); omega) | (((first | unfold Bx | unfold Bl | unfold B3 | unfold A3 | skip); repeat (first | with_reducible exact hnn | (with_reducible refine obj_alloc_at ?_; simp; done) | (with_reducible apply obj_put4; omega) | (with_reducible refine obj_setCell_other ?_ _ _ ?_; rotate_left; (dsimp only; omega)) | with_reducible refine obj_alloc ?_ _ | with_reducible refine obj_drew ?_)); done))
          case rest =>
            obtain ⟨qa, rfl, rfl, hf7, hga, hba_7⟩ := hcut
            obtain ⟨w7, rfl⟩ : ∃ x, x = wc := ⟨_, rfl⟩
            have o0 := Lib.hid (hbl_6.lt)
            have o1 := Lib.hid hga
            have hbl_7 := hbl_6.mv hf7
            have hfw_7 := hfw_6.transN hf7
            clear hbl_6 cl_0 cl_1 cl_2 cl_3 cl_4 cl_5 cl_6 cl_7 cl_8 cl_9 cl_10 cl_11 zl hf7 hfw_6 hga
            obtain ⟨cl_0, cl_1, cl_2, cl_3, cl_4, cl_5, cl_6, cl_7, cl_8, cl_9, cl_10, cl_11, zl⟩ := hbl_7.cs
            obtain ⟨ca_0, ca_1, ca_2, ca_3, za⟩ := hba_7.cs
            go_upto_region 9 with fail
            have ll := hbl_7.lt
            have la := hba_7.lt
            have hl := hfw_7.size
            have po0 := o0.out
            have po1 := o1.out
            refine wp_world (fun W => Fr noB wo1 W ∧ B3 W w2.heap.size ∧ Bl W qa 2 1 0) ?_ ?_
            · refine ⟨?_, ?_, ?_⟩ <;> ((first | unfold Bx | unfold Bl | unfold B3 | unfold A3 | skip); repeat (first | with_reducible exact hfw_7 | with_reducible refine Fr.alloc ?_ _ | (with_reducible refine Fr.setCell ?_ ?_ _; rotate_left; (intro h; dsimp only at h; omega)) | with_reducible refine Fr.drew ?_ | with_reducible exact hbl_7.raw | with_reducible exact hba_7.raw | (with_reducible refine obj_alloc_at ?_; simp; done) | (with_reducible apply obj_put4; omega) | (with_reducible apply obj_put1; omega) | (with_reducible refine obj_setCell_other ?_ _ _ ?_; rotate_left; (dsimp only; omega)) | with_reducible refine obj_alloc ?_ _ | with_reducible refine obj_drew ?_ | exact hfw_7))
            clear hbl_7 hba_7 ll la hl po0 po1 cl_0 cl_1 cl_2 cl_3 cl_4 cl_5 cl_6 cl_7 cl_8 cl_9 cl_10 cl_11 zl ca_0 ca_1 ca_2 ca_3 za hfw_7
            rintro w8 ⟨hfw_8, hbl_8, hba_8⟩
            obtain ⟨cl_0, cl_1, cl_2, cl_3, cl_4, cl_5, cl_6, cl_7, cl_8, cl_9, cl_10, cl_11, zl⟩ := hbl_8.cs
            obtain ⟨ca_0, ca_1, ca_2, ca_3, za⟩ := hba_8.cs
            go_cut [6, 7] (fun s6 s7 wx => ∃ qo : Nat, s6 = .pointer (some ⟨qo, 0, none⟩) ∧ s7 = .int .i64 0 ∧ Fr noB w8 wx ∧ w8.heap.size ≤ qo ∧ Bl wx qo 2 1 0)
            case first => as_aux_lemma =>
              have hql := obj_drew hbl_8.raw
              have fz : ∀ (X : World) (o : Nat), (X.alloc (.cells #[.int .u8 0, .int .i64 0, .int .i64 0, .string ⟨#[]⟩] 23 (0, 0))).frozen? ⟨X.heap.size, o, none⟩ = false := fun X o => frozen_of_obj (obj_alloc_new X _) o
              have fc : ∀ X : World, (X.alloc (.cells #[.int .u8 0, .int .i64 0, .int .i64 0, .string ⟨#[]⟩] 23 (0, 0))).cell? ⟨X.heap.size, 0, none⟩ = some (.int .u8 0) ∧ (X.alloc (.cells #[.int .u8 0, .int .i64 0, .int .i64 0, .string ⟨#[]⟩] 23 (0, 0))).cell? ⟨X.heap.size, 1, none⟩ = some (.int .i64 0) ∧ (X.alloc (.cells #[.int .u8 0, .int .i64 0, .int .i64 0, .string ⟨#[]⟩] 23 (0, 0))).cell? ⟨X.heap.size, 2, none⟩ = some (.int .i64 0) ∧ (X.alloc (.cells #[.int .u8 0, .int .i64 0, .int .i64 0, .string ⟨#[]⟩] 23 (0, 0))).cell? ⟨X.heap.size, 3, none⟩ = some (.string ⟨#[]⟩) := fun X => v_cells (v := zV) (obj_alloc_new X _)
              have ll := hbl_8.lt
              have hdq : w8.drew.heap.size = w8.heap.size := rfl
              have hvl : ∀ X : World, X.heap[w2.heap.size]? = some (.cells #[.int .u8 2, .int .i64 0, .int .i64 0, .string ⟨#[]⟩, .int .u8 2, .int .i64 1, .int .i64 0, .string ⟨#[]⟩, .int .u8 0, .int .i64 0, .int .i64 0, .string ⟨#[]⟩] 23 (0, 0)) → X.cell? ⟨w2.heap.size, 4, none⟩ = some (.int .u8 2) ∧ X.cell? ⟨w2.heap.size, 5, none⟩ = some (.int .i64 1) ∧ X.cell? ⟨w2.heap.size, 6, none⟩ = some (.int .i64 0) ∧ X.cell? ⟨w2.heap.size, 7, none⟩ = some (.string ⟨#[]⟩) := fun X h => ⟨by rw [cell_of_obj h]; rfl, by rw [cell_of_obj h]; rfl, by rw [cell_of_obj h]; rfl, by rw [cell_of_obj h]; rfl⟩
              go_region_held3 (fun X : World => X.cell? ⟨w2.heap.size, 4, none⟩ = some (.int .u8 2) ∧ X.cell? ⟨w2.heap.size, 5, none⟩ = some (.int .i64 1) ∧ X.cell? ⟨w2.heap.size, 6, none⟩ = some (.int .i64 0) ∧ X.cell? ⟨w2.heap.size, 7, none⟩ = some (.string ⟨#[]⟩)) ((refine (hvl _ ?_) <;> repeat (first | with_reducible exact hql | with_reducible exact hbl_8.raw | with_reducible refine obj_alloc ?_ _ | (with_reducible refine obj_setCell_other ?_ _ _ ?_; rotate_left; (dsimp only; omega)) | with_reducible refine obj_drew ?_))) (first | (go_at_call 31; refine (HO.out _).mono ?_; rintro e x0 ⟨rfl, hG0⟩; have k0 := hG0.size; refine have_of (p := x0.heap[w2.heap.size]? = some (.cells #[.int .u8 2, .int .i64 0, .int .i64 0, .string ⟨#[]⟩, .int .u8 2, .int .i64 1, .int .i64 0, .string ⟨#[]⟩, .int .u8 0, .int .i64 0, .int .i64 0, .string ⟨#[]⟩] 23 (0, 0))) ?_ (fun hql => ?_); (focus (refine hG0.obj (noB_not _) ?_; repeat (first | with_reducible exact hql | with_reducible exact hbl_8.raw | with_reducible refine obj_alloc ?_ _ | with_reducible refine obj_drew ?_))); (first | (have hnn := hG0.obj (fun x => x) hnn) | (with_reducible have hnn := hG0.obj (noB_not _) (obj_alloc_new _ _)) | (with_reducible have hnn := hG0.obj (noB_not _) (obj_drew (obj_alloc_new _ _))) | skip); (first | (have znn := frozen_of_obj hnn; obtain ⟨n0, n1, n2, n3⟩ := v_cells (v := zV) hnn) | skip)))
              all_goals (go_wp2_with fail; go_meet)
              all_goals (have hfr0 := Fr.refl noB w8; refine ⟨_, rfl, rfl, ?_, ?_, ?_⟩)
              all_goals (first | ((repeat (first | with_reducible exact hfr0 | with_reducible refine Fr.transN ?_ hG0 | with_reducible refine Fr.alloc ?_ _ | (with_reducible refine Fr.setCell ?_ ?_ _; rotate_left; (intro h; dsimp only at h; omega)) | with_reducible refine Fr.drew ?_ | exact hfr0)); done) | ((try simp only [World.size_alloc] at k0); omega) | (((first | unfold Bx | unfold Bl | unfold B3 | unfold A3 | skip); repeat (first | with_reducible exact hnn | (with_reducible refine obj_alloc_at ?_; simp; done) | (with_reducible apply obj_put4; omega) | (with_reducible refine obj_setCell_other ?_ _ _ ?_; rotate_left; (dsimp only; omega)) | with_reducible refine obj_alloc ?_ _ | with_reducible refine obj_drew ?_)); done))
            case rest =>
              obtain ⟨qo, rfl, rfl, hf9, hgo, hbo_9⟩ := hcut
              obtain ⟨w9, rfl⟩ : ∃ x, x = wc := ⟨_, rfl⟩
              have o2 := Lib.hid (hba_8.lt)
              have o3 := Lib.hid hgo
              have hbl_9 := hbl_8.mv hf9
              have hba_9 := hba_8.mv hf9
              have hfw_9 := hfw_8.transN hf9
              clear hbl_8 hba_8 cl_0 cl_1 cl_2 cl_3 cl_4 cl_5 cl_6 cl_7 cl_8 cl_9 cl_10 cl_11 zl ca_0 ca_1 ca_2 ca_3 za hf9 hfw_8 hgo
              obtain ⟨cl_0, cl_1, cl_2, cl_3, cl_4, cl_5, cl_6, cl_7, cl_8, cl_9, cl_10, cl_11, zl⟩ := hbl_9.cs
              obtain ⟨ca_0, ca_1, ca_2, ca_3, za⟩ := hba_9.cs
              obtain ⟨co_0, co_1, co_2, co_3, zo⟩ := hbo_9.cs
              go_upto_region 11 with fail
              have o4 := Lib.hid (hbo_9.lt)
              have ll := hbl_9.lt
              have la := hba_9.lt
              have lo := hbo_9.lt
              have hl := hfw_9.size
              have po0 := o0.out
              have po1 := o1.out
              have po2 := o2.out
              have po3 := o3.out
              have po4 := o4.out
              refine wp_world (fun W => Fr noB wo1 W ∧ B3 W w2.heap.size ∧ Bl W qa 2 1 0 ∧ Bl W qo 2 1 0 ∧ A3 W w9.heap.size) ?_ ?_
              · refine ⟨?_, ?_, ?_, ?_, ?_⟩ <;> ((first | unfold Bx | unfold Bl | unfold B3 | unfold A3 | skip); repeat (first | with_reducible exact hfw_9 | with_reducible refine Fr.alloc ?_ _ | (with_reducible refine Fr.setCell ?_ ?_ _; rotate_left; (intro h; dsimp only at h; omega)) | with_reducible refine Fr.drew ?_ | with_reducible exact hbl_9.raw | with_reducible exact hba_9.raw | with_reducible exact hbo_9.raw | (with_reducible refine obj_alloc_at ?_; simp; done) | (with_reducible apply obj_put4; omega) | (with_reducible apply obj_put1; omega) | (with_reducible refine obj_setCell_other ?_ _ _ ?_; rotate_left; (dsimp only; omega)) | with_reducible refine obj_alloc ?_ _ | with_reducible refine obj_drew ?_ | exact hfw_9))
              clear hbl_9 hba_9 hbo_9 ll la lo hl po0 po1 po2 po3 po4 cl_0 cl_1 cl_2 cl_3 cl_4 cl_5 cl_6 cl_7 cl_8 cl_9 cl_10 cl_11 zl ca_0 ca_1 ca_2 ca_3 za co_0 co_1 co_2 co_3 zo hfw_9
              rintro w10 ⟨hfw_10, hbl_10, hba_10, hbo_10, hbr_10⟩
              obtain ⟨cl_0, cl_1, cl_2, cl_3, cl_4, cl_5, cl_6, cl_7, cl_8, cl_9, cl_10, cl_11, zl⟩ := hbl_10.cs
              obtain ⟨ca_0, ca_1, ca_2, ca_3, za⟩ := hba_10.cs
              obtain ⟨co_0, co_1, co_2, co_3, zo⟩ := hbo_10.cs
              obtain ⟨cr_0, cr_1, cr_2, zr⟩ := hbr_10.cs
              go_region
              go_upto_region 13 with fail
              have o5 := Lib.hid (hbr_10.lt)
              have ll := hbl_10.lt
              have la := hba_10.lt
              have lo := hbo_10.lt
              have lr := hbr_10.lt
              have hl := hfw_10.size
              have po0 := o0.out
              have po1 := o1.out
              have po2 := o2.out
              have po3 := o3.out
              have po4 := o4.out
              have po5 := o5.out
              refine wp_world (fun W => Fr noB wo1 W ∧ B3 W w2.heap.size ∧ Bl W qa 2 1 0 ∧ Bl W qo 2 1 0 ∧ A3 W w9.heap.size ∧ A3 W w10.heap.size) ?_ ?_
              · refine ⟨?_, ?_, ?_, ?_, ?_, ?_⟩ <;> ((first | unfold Bx | unfold Bl | unfold B3 | unfold A3 | skip); repeat (first | with_reducible exact hfw_10 | with_reducible refine Fr.alloc ?_ _ | (with_reducible refine Fr.setCell ?_ ?_ _; rotate_left; (intro h; dsimp only at h; omega)) | with_reducible refine Fr.drew ?_ | with_reducible exact hbl_10.raw | with_reducible exact hba_10.raw | with_reducible exact hbo_10.raw | with_reducible exact hbr_10.raw | (with_reducible refine obj_alloc_at ?_; simp; done) | (with_reducible apply obj_put4; omega) | (with_reducible apply obj_put1; omega) | (with_reducible refine obj_setCell_other ?_ _ _ ?_; rotate_left; (dsimp only; omega)) | with_reducible refine obj_alloc ?_ _ | with_reducible refine obj_drew ?_ | exact hfw_10))
              clear hbl_10 hba_10 hbo_10 hbr_10 ll la lo lr hl po0 po1 po2 po3 po4 po5 cl_0 cl_1 cl_2 cl_3 cl_4 cl_5 cl_6 cl_7 cl_8 cl_9 cl_10 cl_11 zl ca_0 ca_1 ca_2 ca_3 za co_0 co_1 co_2 co_3 zo cr_0 cr_1 cr_2 zr hfw_10
              rintro w11 ⟨hfw_11, hbl_11, hba_11, hbo_11, hbr_11, hbs_11⟩
              obtain ⟨cl_0, cl_1, cl_2, cl_3, cl_4, cl_5, cl_6, cl_7, cl_8, cl_9, cl_10, cl_11, zl⟩ := hbl_11.cs
              obtain ⟨ca_0, ca_1, ca_2, ca_3, za⟩ := hba_11.cs
              obtain ⟨co_0, co_1, co_2, co_3, zo⟩ := hbo_11.cs
              obtain ⟨cr_0, cr_1, cr_2, zr⟩ := hbr_11.cs
              obtain ⟨cs_0, cs_1, cs_2, zs⟩ := hbs_11.cs
              have NA : ∀ W : World, (binOp .neq 23 (.agg #[.int .u8 2, .int .i64 1, .int .i64 0, .string ⟨#[]⟩]) (.agg #[.int .u8 2, .int .i64 1, .int .i64 0, .string ⟨#[]⟩])).run Try.prog W = .ok (.bool false) W := neqv_lit yesV yesV false ((eqV_iff _ _).2 rfl)
              have xl0 := Ext.cell cl_0
              have xl1 := Ext.cell cl_1
              have xl2 := Ext.cell cl_2
              have xl3 := Ext.cell cl_3
              have xl4 := Ext.cell cl_4
              have xl5 := Ext.cell cl_5
              have xl6 := Ext.cell cl_6
              have xl7 := Ext.cell cl_7
              have xl8 := Ext.cell cl_8
              have xl9 := Ext.cell cl_9
              have xl10 := Ext.cell cl_10
              have xl11 := Ext.cell cl_11
              have xa0 := Ext.cell ca_0
              have xa1 := Ext.cell ca_1
              have xa2 := Ext.cell ca_2
              have xa3 := Ext.cell ca_3
              have xo0 := Ext.cell co_0
              have xo1 := Ext.cell co_1
              have xo2 := Ext.cell co_2
              have xo3 := Ext.cell co_3
              have xr0 := Ext.cell cr_0
              have xr1 := Ext.cell cr_1
              have xr2 := Ext.cell cr_2
              have xs0 := Ext.cell cs_0
              have xs1 := Ext.cell cs_1
              have xs2 := Ext.cell cs_2
              clear cl_0 cl_1 cl_2 cl_3 cl_4 cl_5 cl_6 cl_7 cl_8 cl_9 cl_10 cl_11 zl ca_0 ca_1 ca_2 ca_3 za co_0 co_1 co_2 co_3 zo cr_0 cr_1 cr_2 zr cs_0 cs_1 cs_2 zs
              refine wp_region_ext (by kernel_rfl) (by kernel_rfl) ?_
              go_big_quiet_step (fail)
              go_big_quiet_step (fail)
              go_big_quiet_step (fail)
              go_big_quiet_step (fail)
              go_big_quiet_step (fail)
              go_big_quiet_step (fail)
              go_big_quiet_step (fail)
              go_big_quiet_step (fail)
              go_big_quiet_step (fail)
              go_big_quiet_step (fail)
              go_big_quiet_step (fail)
              go_big_quiet_step (fail)
              go_big_quiet_step (fail)
              go_big_quiet_step (fail)
              go_big_quiet_step (fail)
              go_big_quiet_step (fail)
              go_big_quiet_step (fail)
              go_big_quiet_step (fail)
              go_big_quiet_step (fail)
              go_big_quiet_step (fail)
              go_big_quiet_step (fail)
              go_big_quiet_step (fail)
              go_big_quiet_step (fail)
              go_big_quiet_step (fail)
              go_big_quiet_step (fail)
              go_big_quiet_step (fail)
              refine wpQuiet_nil ?_
              rintro _ ⟨⟨w12, hf12⟩, rfl⟩
              have hfw_12 := hfw_11.transN hf12
              clear NA xl0 xl1 xl2 xl3 xl4 xl5 xl6 xl7 xl8 xl9 xl10 xl11 xa0 xa1 xa2 xa3 xo0 xo1 xo2 xo3 xr0 xr1 xr2 xs0 xs1 xs2 hbl_11 hba_11 hbo_11 hbr_11 hbs_11
              go_wp2_with fail
              go_roundg 1
              case measure => omega
              case rel => exact ⟨2, by omega, by omega, by go_num, hfw_12⟩
        · clear hi
          obtain ⟨wi2, rfl⟩ : ∃ x, x = wr := ⟨_, rfl⟩
          have hbl_5 := hbl_4.mv hf
          clear hbl_4 cl_0 cl_1 cl_2 cl_3 cl_4 cl_5 cl_6 cl_7 cl_8 cl_9 cl_10 cl_11 zl
          obtain ⟨cl_0, cl_1, cl_2, cl_3, cl_4, cl_5, cl_6, cl_7, cl_8, cl_9, cl_10, cl_11, zl⟩ := hbl_5.cs
          have HA := Lib.hid (show ∀ W : World, Calls Try.prog 29 #[.agg #[.int .u8 2, .int .i64 1, .int .i64 0, .string ⟨#[]⟩], .agg #[.int .u8 0, .int .i64 0, .int .i64 0, .string ⟨#[]⟩]] W fun e w' => e = .returned (.tuple #[.agg #[.int .u8 0, .int .i64 0, .int .i64 0, .string ⟨#[]⟩], .int .i64 0]) ∧ Fr noB W w' from fun W => and_any yesV zV W)
          have HO := Lib.hid (show ∀ W : World, Calls Try.prog 31 #[.agg #[.int .u8 2, .int .i64 1, .int .i64 0, .string ⟨#[]⟩], .agg #[.int .u8 0, .int .i64 0, .int .i64 0, .string ⟨#[]⟩]] W fun e w' => e = .returned (.tuple #[.agg #[.int .u8 2, .int .i64 1, .int .i64 0, .string ⟨#[]⟩], .int .i64 0]) ∧ Fr noB W w' from fun W => or_any yesV zV W)
          go_upto_region 8 with fail
          have ll := hbl_5.lt
          have hl := hf.size
          refine wp_world (fun W => Fr noB wo1 W ∧ B3 W w2.heap.size) ?_ ?_
          · refine ⟨?_, ?_⟩ <;> ((first | unfold Bx | unfold Bl | unfold B3 | unfold A3 | skip); repeat (first | with_reducible exact hf | with_reducible refine Fr.alloc ?_ _ | (with_reducible refine Fr.setCell ?_ ?_ _; rotate_left; (intro h; dsimp only at h; omega)) | with_reducible refine Fr.drew ?_ | with_reducible exact hbl_5.raw | (with_reducible refine obj_alloc_at ?_; simp; done) | (with_reducible apply obj_put4; omega) | (with_reducible apply obj_put1; omega) | (with_reducible refine obj_setCell_other ?_ _ _ ?_; rotate_left; (dsimp only; omega)) | with_reducible refine obj_alloc ?_ _ | with_reducible refine obj_drew ?_ | exact hf))
          clear hbl_5 ll hl cl_0 cl_1 cl_2 cl_3 cl_4 cl_5 cl_6 cl_7 cl_8 cl_9 cl_10 cl_11 zl hf
          rintro w6 ⟨hfw_6, hbl_6⟩
          obtain ⟨cl_0, cl_1, cl_2, cl_3, cl_4, cl_5, cl_6, cl_7, cl_8, cl_9, cl_10, cl_11, zl⟩ := hbl_6.cs
          go_cut [4, 5] (fun s4 s5 wx => ∃ qa : Nat, s4 = .pointer (some ⟨qa, 0, none⟩) ∧ s5 = .int .i64 0 ∧ Fr noB w6 wx ∧ w6.heap.size ≤ qa ∧ Bl wx qa 0 0 0)
          case first => as_aux_lemma =>
            have hql := obj_drew hbl_6.raw
            have fz : ∀ (X : World) (o : Nat), (X.alloc (.cells #[.int .u8 0, .int .i64 0, .int .i64 0, .string ⟨#[]⟩] 23 (0, 0))).frozen? ⟨X.heap.size, o, none⟩ = false := fun X o => frozen_of_obj (obj_alloc_new X _) o
            have fc : ∀ X : World, (X.alloc (.cells #[.int .u8 0, .int .i64 0, .int .i64 0, .string ⟨#[]⟩] 23 (0, 0))).cell? ⟨X.heap.size, 0, none⟩ = some (.int .u8 0) ∧ (X.alloc (.cells #[.int .u8 0, .int .i64 0, .int .i64 0, .string ⟨#[]⟩] 23 (0, 0))).cell? ⟨X.heap.size, 1, none⟩ = some (.int .i64 0) ∧ (X.alloc (.cells #[.int .u8 0, .int .i64 0, .int .i64 0, .string ⟨#[]⟩] 23 (0, 0))).cell? ⟨X.heap.size, 2, none⟩ = some (.int .i64 0) ∧ (X.alloc (.cells #[.int .u8 0, .int .i64 0, .int .i64 0, .string ⟨#[]⟩] 23 (0, 0))).cell? ⟨X.heap.size, 3, none⟩ = some (.string ⟨#[]⟩) := fun X => v_cells (v := zV) (obj_alloc_new X _)
            have ll := hbl_6.lt
            have hdq : w6.drew.heap.size = w6.heap.size := rfl
            have hvl : ∀ X : World, X.heap[w2.heap.size]? = some (.cells #[.int .u8 2, .int .i64 0, .int .i64 0, .string ⟨#[]⟩, .int .u8 2, .int .i64 1, .int .i64 0, .string ⟨#[]⟩, .int .u8 0, .int .i64 0, .int .i64 0, .string ⟨#[]⟩] 23 (0, 0)) → X.cell? ⟨w2.heap.size, 4, none⟩ = some (.int .u8 2) ∧ X.cell? ⟨w2.heap.size, 5, none⟩ = some (.int .i64 1) ∧ X.cell? ⟨w2.heap.size, 6, none⟩ = some (.int .i64 0) ∧ X.cell? ⟨w2.heap.size, 7, none⟩ = some (.string ⟨#[]⟩) ∧ X.cell? ⟨w2.heap.size, 8, none⟩ = some (.int .u8 0) ∧ X.cell? ⟨w2.heap.size, 9, none⟩ = some (.int .i64 0) ∧ X.cell? ⟨w2.heap.size, 10, none⟩ = some (.int .i64 0) ∧ X.cell? ⟨w2.heap.size, 11, none⟩ = some (.string ⟨#[]⟩) := fun X h => ⟨by rw [cell_of_obj h]; rfl, by rw [cell_of_obj h]; rfl, by rw [cell_of_obj h]; rfl, by rw [cell_of_obj h]; rfl, by rw [cell_of_obj h]; rfl, by rw [cell_of_obj h]; rfl, by rw [cell_of_obj h]; rfl, by rw [cell_of_obj h]; rfl⟩
            go_region_held3 (fun X : World => X.cell? ⟨w2.heap.size, 4, none⟩ = some (.int .u8 2) ∧ X.cell? ⟨w2.heap.size, 5, none⟩ = some (.int .i64 1) ∧ X.cell? ⟨w2.heap.size, 6, none⟩ = some (.int .i64 0) ∧ X.cell? ⟨w2.heap.size, 7, none⟩ = some (.string ⟨#[]⟩) ∧ X.cell? ⟨w2.heap.size, 8, none⟩ = some (.int .u8 0) ∧ X.cell? ⟨w2.heap.size, 9, none⟩ = some (.int .i64 0) ∧ X.cell? ⟨w2.heap.size, 10, none⟩ = some (.int .i64 0) ∧ X.cell? ⟨w2.heap.size, 11, none⟩ = some (.string ⟨#[]⟩)) ((refine (hvl _ ?_) <;> repeat (first | with_reducible exact hql | with_reducible exact hbl_6.raw | with_reducible refine obj_alloc ?_ _ | (with_reducible refine obj_setCell_other ?_ _ _ ?_; rotate_left; (dsimp only; omega)) | with_reducible refine obj_drew ?_))) (first | (go_at_call 29; refine (HA.out _).mono ?_; rintro e x0 ⟨rfl, hG0⟩; have k0 := hG0.size; refine have_of (p := x0.heap[w2.heap.size]? = some (.cells #[.int .u8 2, .int .i64 0, .int .i64 0, .string ⟨#[]⟩, .int .u8 2, .int .i64 1, .int .i64 0, .string ⟨#[]⟩, .int .u8 0, .int .i64 0, .int .i64 0, .string ⟨#[]⟩] 23 (0, 0))) ?_ (fun hql => ?_); (focus (refine hG0.obj (noB_not _) ?_; repeat (first | with_reducible exact hql | with_reducible exact hbl_6.raw | with_reducible refine obj_alloc ?_ _ | with_reducible refine obj_drew ?_))); (first | (have hnn := hG0.obj (fun x => x) hnn) | (with_reducible have hnn := hG0.obj (noB_not _) (obj_alloc_new _ _)) | (with_reducible have hnn := hG0.obj (noB_not _) (obj_drew (obj_alloc_new _ _))) | skip); (first | (have znn := frozen_of_obj hnn; obtain ⟨n0, n1, n2, n3⟩ := v_cells (v := zV) hnn) | skip)))
            all_goals (go_wp2_with fail; go_meet)
            all_goals (have hfr0 := Fr.refl noB w6; refine ⟨_, rfl, rfl, ?_, ?_, ?_⟩)
            all_goals (first | ((repeat (first | with_reducible exact hfr0 | with_reducible refine Fr.transN ?_ hG0 | with_reducible refine Fr.alloc ?_ _ | (with_reducible refine Fr.setCell ?_ ?_ _; rotate_left; (intro h; dsimp only at h; omega)) | with_reducible refine Fr.drew ?_ | exact hfr0)); done) | ((try simp only [World.size_alloc] at k0); omega) | (((first | unfold Bx | unfold Bl | unfold B3 | unfold A3 | skip); repeat (first | with_reducible exact hnn | (with_reducible refine obj_alloc_at ?_; simp; done) | (with_reducible apply obj_put4; omega) | (with_reducible refine obj_setCell_other ?_ _ _ ?_; rotate_left; (dsimp only; omega)) | with_reducible refine obj_alloc ?_ _ | with_reducible refine obj_drew ?_)); done))
          case rest =>
            obtain ⟨qa, rfl, rfl, hf7, hga, hba_7⟩ := hcut
            obtain ⟨w7, rfl⟩ : ∃ x, x = wc := ⟨_, rfl⟩
            have o0 := Lib.hid (hbl_6.lt)
            have o1 := Lib.hid hga
            have hbl_7 := hbl_6.mv hf7
            have hfw_7 := hfw_6.transN hf7
            clear hbl_6 cl_0 cl_1 cl_2 cl_3 cl_4 cl_5 cl_6 cl_7 cl_8 cl_9 cl_10 cl_11 zl hf7 hfw_6 hga
            obtain ⟨cl_0, cl_1, cl_2, cl_3, cl_4, cl_5, cl_6, cl_7, cl_8, cl_9, cl_10, cl_11, zl⟩ := hbl_7.cs
            obtain ⟨ca_0, ca_1, ca_2, ca_3, za⟩ := hba_7.cs
            go_upto_region 9 with fail
            have ll := hbl_7.lt
            have la := hba_7.lt
            have hl := hfw_7.size
            have po0 := o0.out
            have po1 := o1.out
            refine wp_world (fun W => Fr noB wo1 W ∧ B3 W w2.heap.size ∧ Bl W qa 0 0 0) ?_ ?_
            · refine ⟨?_, ?_, ?_⟩ <;> ((first | unfold Bx | unfold Bl | unfold B3 | unfold A3 | skip); repeat (first | with_reducible exact hfw_7 | with_reducible refine Fr.alloc ?_ _ | (with_reducible refine Fr.setCell ?_ ?_ _; rotate_left; (intro h; dsimp only at h; omega)) | with_reducible refine Fr.drew ?_ | with_reducible exact hbl_7.raw | with_reducible exact hba_7.raw | (with_reducible refine obj_alloc_at ?_; simp; done) | (with_reducible apply obj_put4; omega) | (with_reducible apply obj_put1; omega) | (with_reducible refine obj_setCell_other ?_ _ _ ?_; rotate_left; (dsimp only; omega)) | with_reducible refine obj_alloc ?_ _ | with_reducible refine obj_drew ?_ | exact hfw_7))
            clear hbl_7 hba_7 ll la hl po0 po1 cl_0 cl_1 cl_2 cl_3 cl_4 cl_5 cl_6 cl_7 cl_8 cl_9 cl_10 cl_11 zl ca_0 ca_1 ca_2 ca_3 za hfw_7
            rintro w8 ⟨hfw_8, hbl_8, hba_8⟩
            obtain ⟨cl_0, cl_1, cl_2, cl_3, cl_4, cl_5, cl_6, cl_7, cl_8, cl_9, cl_10, cl_11, zl⟩ := hbl_8.cs
            obtain ⟨ca_0, ca_1, ca_2, ca_3, za⟩ := hba_8.cs
            go_cut [6, 7] (fun s6 s7 wx => ∃ qo : Nat, s6 = .pointer (some ⟨qo, 0, none⟩) ∧ s7 = .int .i64 0 ∧ Fr noB w8 wx ∧ w8.heap.size ≤ qo ∧ Bl wx qo 2 1 0)
            case first => as_aux_lemma =>
              have hql := obj_drew hbl_8.raw
              have fz : ∀ (X : World) (o : Nat), (X.alloc (.cells #[.int .u8 0, .int .i64 0, .int .i64 0, .string ⟨#[]⟩] 23 (0, 0))).frozen? ⟨X.heap.size, o, none⟩ = false := fun X o => frozen_of_obj (obj_alloc_new X _) o
              have fc : ∀ X : World, (X.alloc (.cells #[.int .u8 0, .int .i64 0, .int .i64 0, .string ⟨#[]⟩] 23 (0, 0))).cell? ⟨X.heap.size, 0, none⟩ = some (.int .u8 0) ∧ (X.alloc (.cells #[.int .u8 0, .int .i64 0, .int .i64 0, .string ⟨#[]⟩] 23 (0, 0))).cell? ⟨X.heap.size, 1, none⟩ = some (.int .i64 0) ∧ (X.alloc (.cells #[.int .u8 0, .int .i64 0, .int .i64 0, .string ⟨#[]⟩] 23 (0, 0))).cell? ⟨X.heap.size, 2, none⟩ = some (.int .i64 0) ∧ (X.alloc (.cells #[.int .u8 0, .int .i64 0, .int .i64 0, .string ⟨#[]⟩] 23 (0, 0))).cell? ⟨X.heap.size, 3, none⟩ = some (.string ⟨#[]⟩) := fun X => v_cells (v := zV) (obj_alloc_new X _)
              have ll := hbl_8.lt
              have hdq : w8.drew.heap.size = w8.heap.size := rfl
              have hvl : ∀ X : World, X.heap[w2.heap.size]? = some (.cells #[.int .u8 2, .int .i64 0, .int .i64 0, .string ⟨#[]⟩, .int .u8 2, .int .i64 1, .int .i64 0, .string ⟨#[]⟩, .int .u8 0, .int .i64 0, .int .i64 0, .string ⟨#[]⟩] 23 (0, 0)) → X.cell? ⟨w2.heap.size, 4, none⟩ = some (.int .u8 2) ∧ X.cell? ⟨w2.heap.size, 5, none⟩ = some (.int .i64 1) ∧ X.cell? ⟨w2.heap.size, 6, none⟩ = some (.int .i64 0) ∧ X.cell? ⟨w2.heap.size, 7, none⟩ = some (.string ⟨#[]⟩) ∧ X.cell? ⟨w2.heap.size, 8, none⟩ = some (.int .u8 0) ∧ X.cell? ⟨w2.heap.size, 9, none⟩ = some (.int .i64 0) ∧ X.cell? ⟨w2.heap.size, 10, none⟩ = some (.int .i64 0) ∧ X.cell? ⟨w2.heap.size, 11, none⟩ = some (.string ⟨#[]⟩) := fun X h => ⟨by rw [cell_of_obj h]; rfl, by rw [cell_of_obj h]; rfl, by rw [cell_of_obj h]; rfl, by rw [cell_of_obj h]; rfl, by rw [cell_of_obj h]; rfl, by rw [cell_of_obj h]; rfl, by rw [cell_of_obj h]; rfl, by rw [cell_of_obj h]; rfl⟩
              go_region_held3 (fun X : World => X.cell? ⟨w2.heap.size, 4, none⟩ = some (.int .u8 2) ∧ X.cell? ⟨w2.heap.size, 5, none⟩ = some (.int .i64 1) ∧ X.cell? ⟨w2.heap.size, 6, none⟩ = some (.int .i64 0) ∧ X.cell? ⟨w2.heap.size, 7, none⟩ = some (.string ⟨#[]⟩) ∧ X.cell? ⟨w2.heap.size, 8, none⟩ = some (.int .u8 0) ∧ X.cell? ⟨w2.heap.size, 9, none⟩ = some (.int .i64 0) ∧ X.cell? ⟨w2.heap.size, 10, none⟩ = some (.int .i64 0) ∧ X.cell? ⟨w2.heap.size, 11, none⟩ = some (.string ⟨#[]⟩)) ((refine (hvl _ ?_) <;> repeat (first | with_reducible exact hql | with_reducible exact hbl_8.raw | with_reducible refine obj_alloc ?_ _ | (with_reducible refine obj_setCell_other ?_ _ _ ?_; rotate_left; (dsimp only; omega)) | with_reducible refine obj_drew ?_))) (first | (go_at_call 31; refine (HO.out _).mono ?_; rintro e x0 ⟨rfl, hG0⟩; have k0 := hG0.size; refine have_of (p := x0.heap[w2.heap.size]? = some (.cells #[.int .u8 2, .int .i64 0, .int .i64 0, .string ⟨#[]⟩, .int .u8 2, .int .i64 1, .int .i64 0, .string ⟨#[]⟩, .int .u8 0, .int .i64 0, .int .i64 0, .string ⟨#[]⟩] 23 (0, 0))) ?_ (fun hql => ?_); (focus (refine hG0.obj (noB_not _) ?_; repeat (first | with_reducible exact hql | with_reducible exact hbl_8.raw | with_reducible refine obj_alloc ?_ _ | with_reducible refine obj_drew ?_))); (first | (have hnn := hG0.obj (fun x => x) hnn) | (with_reducible have hnn := hG0.obj (noB_not _) (obj_alloc_new _ _)) | (with_reducible have hnn := hG0.obj (noB_not _) (obj_drew (obj_alloc_new _ _))) | skip); (first | (have znn := frozen_of_obj hnn; obtain ⟨n0, n1, n2, n3⟩ := v_cells (v := zV) hnn) | skip)))
              all_goals (go_wp2_with fail; go_meet)
              all_goals (have hfr0 := Fr.refl noB w8; refine ⟨_, rfl, rfl, ?_, ?_, ?_⟩)
              all_goals (first | ((repeat (first | with_reducible exact hfr0 | with_reducible refine Fr.transN ?_ hG0 | with_reducible refine Fr.alloc ?_ _ | (with_reducible refine Fr.setCell ?_ ?_ _; rotate_left; (intro h; dsimp only at h; omega)) | with_reducible refine Fr.drew ?_ | exact hfr0)); done) | ((try simp only [World.size_alloc] at k0); omega) | (((first | unfold Bx | unfold Bl | unfold B3 | unfold A3 | skip); repeat (first | with_reducible exact hnn | (with_reducible refine obj_alloc_at ?_; simp; done) | (with_reducible apply obj_put4; omega) | (with_reducible refine obj_setCell_other ?_ _ _ ?_; rotate_left; (dsimp only; omega)) | with_reducible refine obj_alloc ?_ _ | with_reducible refine obj_drew ?_)); done))
            case rest =>
              obtain ⟨qo, rfl, rfl, hf9, hgo, hbo_9⟩ := hcut
              obtain ⟨w9, rfl⟩ : ∃ x, x = wc := ⟨_, rfl⟩
              have o2 := Lib.hid (hba_8.lt)
              have o3 := Lib.hid hgo
              have hbl_9 := hbl_8.mv hf9
              have hba_9 := hba_8.mv hf9
              have hfw_9 := hfw_8.transN hf9
              clear hbl_8 hba_8 cl_0 cl_1 cl_2 cl_3 cl_4 cl_5 cl_6 cl_7 cl_8 cl_9 cl_10 cl_11 zl ca_0 ca_1 ca_2 ca_3 za hf9 hfw_8 hgo
              obtain ⟨cl_0, cl_1, cl_2, cl_3, cl_4, cl_5, cl_6, cl_7, cl_8, cl_9, cl_10, cl_11, zl⟩ := hbl_9.cs
              obtain ⟨ca_0, ca_1, ca_2, ca_3, za⟩ := hba_9.cs
              obtain ⟨co_0, co_1, co_2, co_3, zo⟩ := hbo_9.cs
              go_upto_region 11 with fail
              have o4 := Lib.hid (hbo_9.lt)
              have ll := hbl_9.lt
              have la := hba_9.lt
              have lo := hbo_9.lt
              have hl := hfw_9.size
              have po0 := o0.out
              have po1 := o1.out
              have po2 := o2.out
              have po3 := o3.out
              have po4 := o4.out
              refine wp_world (fun W => Fr noB wo1 W ∧ B3 W w2.heap.size ∧ Bl W qa 0 0 0 ∧ Bl W qo 2 1 0 ∧ A3 W w9.heap.size) ?_ ?_
              · refine ⟨?_, ?_, ?_, ?_, ?_⟩ <;> ((first | unfold Bx | unfold Bl | unfold B3 | unfold A3 | skip); repeat (first | with_reducible exact hfw_9 | with_reducible refine Fr.alloc ?_ _ | (with_reducible refine Fr.setCell ?_ ?_ _; rotate_left; (intro h; dsimp only at h; omega)) | with_reducible refine Fr.drew ?_ | with_reducible exact hbl_9.raw | with_reducible exact hba_9.raw | with_reducible exact hbo_9.raw | (with_reducible refine obj_alloc_at ?_; simp; done) | (with_reducible apply obj_put4; omega) | (with_reducible apply obj_put1; omega) | (with_reducible refine obj_setCell_other ?_ _ _ ?_; rotate_left; (dsimp only; omega)) | with_reducible refine obj_alloc ?_ _ | with_reducible refine obj_drew ?_ | exact hfw_9))
              clear hbl_9 hba_9 hbo_9 ll la lo hl po0 po1 po2 po3 po4 cl_0 cl_1 cl_2 cl_3 cl_4 cl_5 cl_6 cl_7 cl_8 cl_9 cl_10 cl_11 zl ca_0 ca_1 ca_2 ca_3 za co_0 co_1 co_2 co_3 zo hfw_9
              rintro w10 ⟨hfw_10, hbl_10, hba_10, hbo_10, hbr_10⟩
              obtain ⟨cl_0, cl_1, cl_2, cl_3, cl_4, cl_5, cl_6, cl_7, cl_8, cl_9, cl_10, cl_11, zl⟩ := hbl_10.cs
              obtain ⟨ca_0, ca_1, ca_2, ca_3, za⟩ := hba_10.cs
              obtain ⟨co_0, co_1, co_2, co_3, zo⟩ := hbo_10.cs
              obtain ⟨cr_0, cr_1, cr_2, zr⟩ := hbr_10.cs
              go_region
              go_upto_region 13 with fail
              have o5 := Lib.hid (hbr_10.lt)
              have ll := hbl_10.lt
              have la := hba_10.lt
              have lo := hbo_10.lt
              have lr := hbr_10.lt
              have hl := hfw_10.size
              have po0 := o0.out
              have po1 := o1.out
              have po2 := o2.out
              have po3 := o3.out
              have po4 := o4.out
              have po5 := o5.out
              refine wp_world (fun W => Fr noB wo1 W ∧ B3 W w2.heap.size ∧ Bl W qa 0 0 0 ∧ Bl W qo 2 1 0 ∧ A3 W w9.heap.size ∧ A3 W w10.heap.size) ?_ ?_
              · refine ⟨?_, ?_, ?_, ?_, ?_, ?_⟩ <;> ((first | unfold Bx | unfold Bl | unfold B3 | unfold A3 | skip); repeat (first | with_reducible exact hfw_10 | with_reducible refine Fr.alloc ?_ _ | (with_reducible refine Fr.setCell ?_ ?_ _; rotate_left; (intro h; dsimp only at h; omega)) | with_reducible refine Fr.drew ?_ | with_reducible exact hbl_10.raw | with_reducible exact hba_10.raw | with_reducible exact hbo_10.raw | with_reducible exact hbr_10.raw | (with_reducible refine obj_alloc_at ?_; simp; done) | (with_reducible apply obj_put4; omega) | (with_reducible apply obj_put1; omega) | (with_reducible refine obj_setCell_other ?_ _ _ ?_; rotate_left; (dsimp only; omega)) | with_reducible refine obj_alloc ?_ _ | with_reducible refine obj_drew ?_ | exact hfw_10))
              clear hbl_10 hba_10 hbo_10 hbr_10 ll la lo lr hl po0 po1 po2 po3 po4 po5 cl_0 cl_1 cl_2 cl_3 cl_4 cl_5 cl_6 cl_7 cl_8 cl_9 cl_10 cl_11 zl ca_0 ca_1 ca_2 ca_3 za co_0 co_1 co_2 co_3 zo cr_0 cr_1 cr_2 zr hfw_10
              rintro w11 ⟨hfw_11, hbl_11, hba_11, hbo_11, hbr_11, hbs_11⟩
              obtain ⟨cl_0, cl_1, cl_2, cl_3, cl_4, cl_5, cl_6, cl_7, cl_8, cl_9, cl_10, cl_11, zl⟩ := hbl_11.cs
              obtain ⟨ca_0, ca_1, ca_2, ca_3, za⟩ := hba_11.cs
              obtain ⟨co_0, co_1, co_2, co_3, zo⟩ := hbo_11.cs
              obtain ⟨cr_0, cr_1, cr_2, zr⟩ := hbr_11.cs
              obtain ⟨cs_0, cs_1, cs_2, zs⟩ := hbs_11.cs
              have NA : ∀ W : World, (binOp .neq 23 (.agg #[.int .u8 0, .int .i64 0, .int .i64 0, .string ⟨#[]⟩]) (.agg #[.int .u8 0, .int .i64 0, .int .i64 0, .string ⟨#[]⟩])).run Try.prog W = .ok (.bool false) W := neqv_lit zV zV false ((eqV_iff _ _).2 rfl)
              have NO : ∀ W : World, (binOp .neq 23 (.agg #[.int .u8 2, .int .i64 1, .int .i64 0, .string ⟨#[]⟩]) (.agg #[.int .u8 2, .int .i64 1, .int .i64 0, .string ⟨#[]⟩])).run Try.prog W = .ok (.bool false) W := neqv_lit yesV yesV false ((eqV_iff _ _).2 rfl)
              have xl0 := Ext.cell cl_0
              have xl1 := Ext.cell cl_1
              have xl2 := Ext.cell cl_2
              have xl3 := Ext.cell cl_3
              have xl4 := Ext.cell cl_4
              have xl5 := Ext.cell cl_5
              have xl6 := Ext.cell cl_6
              have xl7 := Ext.cell cl_7
              have xl8 := Ext.cell cl_8
              have xl9 := Ext.cell cl_9
              have xl10 := Ext.cell cl_10
              have xl11 := Ext.cell cl_11
              have xa0 := Ext.cell ca_0
              have xa1 := Ext.cell ca_1
              have xa2 := Ext.cell ca_2
              have xa3 := Ext.cell ca_3
              have xo0 := Ext.cell co_0
              have xo1 := Ext.cell co_1
              have xo2 := Ext.cell co_2
              have xo3 := Ext.cell co_3
              have xr0 := Ext.cell cr_0
              have xr1 := Ext.cell cr_1
              have xr2 := Ext.cell cr_2
              have xs0 := Ext.cell cs_0
              have xs1 := Ext.cell cs_1
              have xs2 := Ext.cell cs_2
              clear cl_0 cl_1 cl_2 cl_3 cl_4 cl_5 cl_6 cl_7 cl_8 cl_9 cl_10 cl_11 zl ca_0 ca_1 ca_2 ca_3 za co_0 co_1 co_2 co_3 zo cr_0 cr_1 cr_2 zr cs_0 cs_1 cs_2 zs
              refine wp_region_ext (by kernel_rfl) (by kernel_rfl) ?_
              go_big_quiet_step (fail)
              go_big_quiet_step (fail)
              go_big_quiet_step (fail)
              go_big_quiet_step (fail)
              go_big_quiet_step (fail)
              go_big_quiet_step (fail)
              go_big_quiet_step (fail)
              go_big_quiet_step (fail)
              go_big_quiet_step (fail)
              go_big_quiet_step (fail)
              go_big_quiet_step (fail)
              go_big_quiet_step (fail)
              go_big_quiet_step (fail)
              go_big_quiet_step (fail)
              go_big_quiet_step (fail)
              go_big_quiet_step (fail)
              go_big_quiet_step (fail)
              go_big_quiet_step (fail)
              go_big_quiet_step (fail)
              go_big_quiet_step (fail)
              go_big_quiet_step (fail)
              go_big_quiet_step (fail)
              go_big_quiet_step (fail)
              go_big_quiet_step (fail)
              go_big_quiet_step (fail)
              go_big_quiet_step (fail)
              refine wpQuiet_nil ?_
              rintro _ ⟨⟨w12, hf12⟩, rfl⟩
              have hfw_12 := hfw_11.transN hf12
              clear NA NO xl0 xl1 xl2 xl3 xl4 xl5 xl6 xl7 xl8 xl9 xl10 xl11 xa0 xa1 xa2 xa3 xo0 xo1 xo2 xo3 xr0 xr1 xr2 xs0 xs1 xs2 hbl_11 hba_11 hbo_11 hbr_11 hbs_11
              go_wp2_with fail
              go_roundg 0
              case measure => omega
              case rel => exact ⟨3, by omega, by omega, by go_num, hfw_12⟩
        · go_wp2_with fail
          go_roundg 1
          case measure => omega
          case rel => exact ⟨2, by omega, by omega, by go_num, hf0.transN hf⟩
    · clear hi
      obtain ⟨wo2, rfl⟩ : ∃ x, x = wr := ⟨_, rfl⟩
      have hbl_4 := hbl_3.mv hf
      clear hbl_3 cl_0 cl_1 cl_2 cl_3 cl_4 cl_5 cl_6 cl_7 cl_8 cl_9 cl_10 cl_11 zl
      obtain ⟨cl_0, cl_1, cl_2, cl_3, cl_4, cl_5, cl_6, cl_7, cl_8, cl_9, cl_10, cl_11, zl⟩ := hbl_4.cs
      go_wp2_with fail
      have hf0 := hf
      go_loopg [3] 3 (fun gh iv wr => ∃ i : Nat, i ≤ 3 ∧ gh = 3 - i ∧ iv = .int .i64 i ∧ Fr noB wo2 wr)
      case atStart => exact ⟨0, by omega, by omega, rfl, Fr.refl _ _⟩
      case round =>
        clear hf
        obtain ⟨i, hi, rfl, rfl, hf⟩ := hrel
        have hi' : i = 0 ∨ i = 1 ∨ i = 2 ∨ i = 3 := by omega
        rcases hi' with rfl | rfl | rfl | rfl
        · clear hi
          obtain ⟨wi0, rfl⟩ : ∃ x, x = wr := ⟨_, rfl⟩
          have hbl_5 := hbl_4.mv hf
          clear hbl_4 cl_0 cl_1 cl_2 cl_3 cl_4 cl_5 cl_6 cl_7 cl_8 cl_9 cl_10 cl_11 zl
          obtain ⟨cl_0, cl_1, cl_2, cl_3, cl_4, cl_5, cl_6, cl_7, cl_8, cl_9, cl_10, cl_11, zl⟩ := hbl_5.cs
          have HA := Lib.hid (show ∀ W : World, Calls Try.prog 29 #[.agg #[.int .u8 0, .int .i64 0, .int .i64 0, .string ⟨#[]⟩], .agg #[.int .u8 2, .int .i64 0, .int .i64 0, .string ⟨#[]⟩]] W fun e w' => e = .returned (.tuple #[.agg #[.int .u8 2, .int .i64 0, .int .i64 0, .string ⟨#[]⟩], .int .i64 0]) ∧ Fr noB W w' from fun W => and_any zV noV W)
          have HO := Lib.hid (show ∀ W : World, Calls Try.prog 31 #[.agg #[.int .u8 0, .int .i64 0, .int .i64 0, .string ⟨#[]⟩], .agg #[.int .u8 2, .int .i64 0, .int .i64 0, .string ⟨#[]⟩]] W fun e w' => e = .returned (.tuple #[.agg #[.int .u8 0, .int .i64 0, .int .i64 0, .string ⟨#[]⟩], .int .i64 0]) ∧ Fr noB W w' from fun W => or_any zV noV W)
          go_upto_region 8 with fail
          have ll := hbl_5.lt
          have hl := hf.size
          refine wp_world (fun W => Fr noB wo2 W ∧ B3 W w2.heap.size) ?_ ?_
          · refine ⟨?_, ?_⟩ <;> ((first | unfold Bx | unfold Bl | unfold B3 | unfold A3 | skip); repeat (first | with_reducible exact hf | with_reducible refine Fr.alloc ?_ _ | (with_reducible refine Fr.setCell ?_ ?_ _; rotate_left; (intro h; dsimp only at h; omega)) | with_reducible refine Fr.drew ?_ | with_reducible exact hbl_5.raw | (with_reducible refine obj_alloc_at ?_; simp; done) | (with_reducible apply obj_put4; omega) | (with_reducible apply obj_put1; omega) | (with_reducible refine obj_setCell_other ?_ _ _ ?_; rotate_left; (dsimp only; omega)) | with_reducible refine obj_alloc ?_ _ | with_reducible refine obj_drew ?_ | exact hf))
          clear hbl_5 ll hl cl_0 cl_1 cl_2 cl_3 cl_4 cl_5 cl_6 cl_7 cl_8 cl_9 cl_10 cl_11 zl hf
          rintro w6 ⟨hfw_6, hbl_6⟩
          obtain ⟨cl_0, cl_1, cl_2, cl_3, cl_4, cl_5, cl_6, cl_7, cl_8, cl_9, cl_10, cl_11, zl⟩ := hbl_6.cs
          go_cut [4, 5] (fun s4 s5 wx => ∃ qa : Nat, s4 = .pointer (some ⟨qa, 0, none⟩) ∧ s5 = .int .i64 0 ∧ Fr noB w6 wx ∧ w6.heap.size ≤ qa ∧ Bl wx qa 2 0 0)
          case first => as_aux_lemma =>
            have hql := obj_drew hbl_6.raw
            have fz : ∀ (X : World) (o : Nat), (X.alloc (.cells #[.int .u8 0, .int .i64 0, .int .i64 0, .string ⟨#[]⟩] 23 (0, 0))).frozen? ⟨X.heap.size, o, none⟩ = false := fun X o => frozen_of_obj (obj_alloc_new X _) o
            have fc : ∀ X : World, (X.alloc (.cells #[.int .u8 0, .int .i64 0, .int .i64 0, .string ⟨#[]⟩] 23 (0, 0))).cell? ⟨X.heap.size, 0, none⟩ = some (.int .u8 0) ∧ (X.alloc (.cells #[.int .u8 0, .int .i64 0, .int .i64 0, .string ⟨#[]⟩] 23 (0, 0))).cell? ⟨X.heap.size, 1, none⟩ = some (.int .i64 0) ∧ (X.alloc (.cells #[.int .u8 0, .int .i64 0, .int .i64 0, .string ⟨#[]⟩] 23 (0, 0))).cell? ⟨X.heap.size, 2, none⟩ = some (.int .i64 0) ∧ (X.alloc (.cells #[.int .u8 0, .int .i64 0, .int .i64 0, .string ⟨#[]⟩] 23 (0, 0))).cell? ⟨X.heap.size, 3, none⟩ = some (.string ⟨#[]⟩) := fun X => v_cells (v := zV) (obj_alloc_new X _)
            have ll := hbl_6.lt
            have hdq : w6.drew.heap.size = w6.heap.size := rfl
            have hvl : ∀ X : World, X.heap[w2.heap.size]? = some (.cells #[.int .u8 2, .int .i64 0, .int .i64 0, .string ⟨#[]⟩, .int .u8 2, .int .i64 1, .int .i64 0, .string ⟨#[]⟩, .int .u8 0, .int .i64 0, .int .i64 0, .string ⟨#[]⟩] 23 (0, 0)) → X.cell? ⟨w2.heap.size, 0, none⟩ = some (.int .u8 2) ∧ X.cell? ⟨w2.heap.size, 1, none⟩ = some (.int .i64 0) ∧ X.cell? ⟨w2.heap.size, 2, none⟩ = some (.int .i64 0) ∧ X.cell? ⟨w2.heap.size, 3, none⟩ = some (.string ⟨#[]⟩) ∧ X.cell? ⟨w2.heap.size, 8, none⟩ = some (.int .u8 0) ∧ X.cell? ⟨w2.heap.size, 9, none⟩ = some (.int .i64 0) ∧ X.cell? ⟨w2.heap.size, 10, none⟩ = some (.int .i64 0) ∧ X.cell? ⟨w2.heap.size, 11, none⟩ = some (.string ⟨#[]⟩) := fun X h => ⟨by rw [cell_of_obj h]; rfl, by rw [cell_of_obj h]; rfl, by rw [cell_of_obj h]; rfl, by rw [cell_of_obj h]; rfl, by rw [cell_of_obj h]; rfl, by rw [cell_of_obj h]; rfl, by rw [cell_of_obj h]; rfl, by rw [cell_of_obj h]; rfl⟩
            go_region_held3 (fun X : World => X.cell? ⟨w2.heap.size, 0, none⟩ = some (.int .u8 2) ∧ X.cell? ⟨w2.heap.size, 1, none⟩ = some (.int .i64 0) ∧ X.cell? ⟨w2.heap.size, 2, none⟩ = some (.int .i64 0) ∧ X.cell? ⟨w2.heap.size, 3, none⟩ = some (.string ⟨#[]⟩) ∧ X.cell? ⟨w2.heap.size, 8, none⟩ = some (.int .u8 0) ∧ X.cell? ⟨w2.heap.size, 9, none⟩ = some (.int .i64 0) ∧ X.cell? ⟨w2.heap.size, 10, none⟩ = some (.int .i64 0) ∧ X.cell? ⟨w2.heap.size, 11, none⟩ = some (.string ⟨#[]⟩)) ((refine (hvl _ ?_) <;> repeat (first | with_reducible exact hql | with_reducible exact hbl_6.raw | with_reducible refine obj_alloc ?_ _ | (with_reducible refine obj_setCell_other ?_ _ _ ?_; rotate_left; (dsimp only; omega)) | with_reducible refine obj_drew ?_))) (first | (go_at_call 29; refine (HA.out _).mono ?_; rintro e x0 ⟨rfl, hG0⟩; have k0 := hG0.size; refine have_of (p := x0.heap[w2.heap.size]? = some (.cells #[.int .u8 2, .int .i64 0, .int .i64 0, .string ⟨#[]⟩, .int .u8 2, .int .i64 1, .int .i64 0, .string ⟨#[]⟩, .int .u8 0, .int .i64 0, .int .i64 0, .string ⟨#[]⟩] 23 (0, 0))) ?_ (fun hql => ?_); (focus (refine hG0.obj (noB_not _) ?_; repeat (first | with_reducible exact hql | with_reducible exact hbl_6.raw | with_reducible refine obj_alloc ?_ _ | with_reducible refine obj_drew ?_))); (first | (have hnn := hG0.obj (fun x => x) hnn) | (with_reducible have hnn := hG0.obj (noB_not _) (obj_alloc_new _ _)) | (with_reducible have hnn := hG0.obj (noB_not _) (obj_drew (obj_alloc_new _ _))) | skip); (first | (have znn := frozen_of_obj hnn; obtain ⟨n0, n1, n2, n3⟩ := v_cells (v := zV) hnn) | skip)))
            all_goals (go_wp2_with fail; go_meet)
            all_goals (have hfr0 := Fr.refl noB w6; refine ⟨_, rfl, rfl, ?_, ?_, ?_⟩)
            all_goals (first | ((repeat (first | with_reducible exact hfr0 | with_reducible refine Fr.transN ?_ hG0 | with_reducible refine Fr.alloc ?_ _ | (with_reducible refine Fr.setCell ?_ ?_ _; rotate_left; (intro h; dsimp only at h; omega)) | with_reducible refine Fr.drew ?_ | exact hfr0)); done) | ((try simp only [World.size_alloc] at k0); omega) | (((first | unfold Bx | unfold Bl | unfold B3 | unfold A3 | skip); repeat (first | with_reducible exact hnn | (with_reducible refine obj_alloc_at ?_; simp; done) | (with_reducible apply obj_put4; omega) | (with_reducible refine obj_setCell_other ?_ _ _ ?_; rotate_left; (dsimp only; omega)) | with_reducible refine obj_alloc ?_ _ | with_reducible refine obj_drew ?_)); done))
          case rest =>
            obtain ⟨qa, rfl, rfl, hf7, hga, hba_7⟩ := hcut
            obtain ⟨w7, rfl⟩ : ∃ x, x = wc := ⟨_, rfl⟩
            have o0 := Lib.hid (hbl_6.lt)
            have o1 := Lib.hid hga
            have hbl_7 := hbl_6.mv hf7
            have hfw_7 := hfw_6.transN hf7
            clear hbl_6 cl_0 cl_1 cl_2 cl_3 cl_4 cl_5 cl_6 cl_7 cl_8 cl_9 cl_10 cl_11 zl hf7 hfw_6 hga
            obtain ⟨cl_0, cl_1, cl_2, cl_3, cl_4, cl_5, cl_6, cl_7, cl_8, cl_9, cl_10, cl_11, zl⟩ := hbl_7.cs
            obtain ⟨ca_0, ca_1, ca_2, ca_3, za⟩ := hba_7.cs
            go_upto_region 9 with fail
            have ll := hbl_7.lt
            have la := hba_7.lt
            have hl := hfw_7.size
            have po0 := o0.out
            have po1 := o1.out
            refine wp_world (fun W => Fr noB wo2 W ∧ B3 W w2.heap.size ∧ Bl W qa 2 0 0) ?_ ?_
            · refine ⟨?_, ?_, ?_⟩ <;> ((first | unfold Bx | unfold Bl | unfold B3 | unfold A3 | skip); repeat (first | with_reducible exact hfw_7 | with_reducible refine Fr.alloc ?_ _ | (with_reducible refine Fr.setCell ?_ ?_ _; rotate_left; (intro h; dsimp only at h; omega)) | with_reducible refine Fr.drew ?_ | with_reducible exact hbl_7.raw | with_reducible exact hba_7.raw | (with_reducible refine obj_alloc_at ?_; simp; done) | (with_reducible apply obj_put4; omega) | (with_reducible apply obj_put1; omega) | (with_reducible refine obj_setCell_other ?_ _ _ ?_; rotate_left; (dsimp only; omega)) | with_reducible refine obj_alloc ?_ _ | with_reducible refine obj_drew ?_ | exact hfw_7))
            clear hbl_7 hba_7 ll la hl po0 po1 cl_0 cl_1 cl_2 cl_3 cl_4 cl_5 cl_6 cl_7 cl_8 cl_9 cl_10 cl_11 zl ca_0 ca_1 ca_2 ca_3 za hfw_7
            rintro w8 ⟨hfw_8, hbl_8, hba_8⟩
            obtain ⟨cl_0, cl_1, cl_2, cl_3, cl_4, cl_5, cl_6, cl_7, cl_8, cl_9, cl_10, cl_11, zl⟩ := hbl_8.cs
            obtain ⟨ca_0, ca_1, ca_2, ca_3, za⟩ := hba_8.cs
            go_cut [6, 7] (fun s6 s7 wx => ∃ qo : Nat, s6 = .pointer (some ⟨qo, 0, none⟩) ∧ s7 = .int .i64 0 ∧ Fr noB w8 wx ∧ w8.heap.size ≤ qo ∧ Bl wx qo 0 0 0)
            case first => as_aux_lemma =>
              have hql := obj_drew hbl_8.raw
              have fz : ∀ (X : World) (o : Nat), (X.alloc (.cells #[.int .u8 0, .int .i64 0, .int .i64 0, .string ⟨#[]⟩] 23 (0, 0))).frozen? ⟨X.heap.size, o, none⟩ = false := fun X o => frozen_of_obj (obj_alloc_new X _) o
              have fc : ∀ X : World, (X.alloc (.cells #[.int .u8 0, .int .i64 0, .int .i64 0, .string ⟨#[]⟩] 23 (0, 0))).cell? ⟨X.heap.size, 0, none⟩ = some (.int .u8 0) ∧ (X.alloc (.cells #[.int .u8 0, .int .i64 0, .int .i64 0, .string ⟨#[]⟩] 23 (0, 0))).cell? ⟨X.heap.size, 1, none⟩ = some (.int .i64 0) ∧ (X.alloc (.cells #[.int .u8 0, .int .i64 0, .int .i64 0, .string ⟨#[]⟩] 23 (0, 0))).cell? ⟨X.heap.size, 2, none⟩ = some (.int .i64 0) ∧ (X.alloc (.cells #[.int .u8 0, .int .i64 0, .int .i64 0, .string ⟨#[]⟩] 23 (0, 0))).cell? ⟨X.heap.size, 3, none⟩ = some (.string ⟨#[]⟩) := fun X => v_cells (v := zV) (obj_alloc_new X _)
              have ll := hbl_8.lt
              have hdq : w8.drew.heap.size = w8.heap.size := rfl
              have hvl : ∀ X : World, X.heap[w2.heap.size]? = some (.cells #[.int .u8 2, .int .i64 0, .int .i64 0, .string ⟨#[]⟩, .int .u8 2, .int .i64 1, .int .i64 0, .string ⟨#[]⟩, .int .u8 0, .int .i64 0, .int .i64 0, .string ⟨#[]⟩] 23 (0, 0)) → X.cell? ⟨w2.heap.size, 0, none⟩ = some (.int .u8 2) ∧ X.cell? ⟨w2.heap.size, 1, none⟩ = some (.int .i64 0) ∧ X.cell? ⟨w2.heap.size, 2, none⟩ = some (.int .i64 0) ∧ X.cell? ⟨w2.heap.size, 3, none⟩ = some (.string ⟨#[]⟩) ∧ X.cell? ⟨w2.heap.size, 8, none⟩ = some (.int .u8 0) ∧ X.cell? ⟨w2.heap.size, 9, none⟩ = some (.int .i64 0) ∧ X.cell? ⟨w2.heap.size, 10, none⟩ = some (.int .i64 0) ∧ X.cell? ⟨w2.heap.size, 11, none⟩ = some (.string ⟨#[]⟩) := fun X h => ⟨by rw [cell_of_obj h]; rfl, by rw [cell_of_obj h]; rfl, by rw [cell_of_obj h]; rfl, by rw [cell_of_obj h]; rfl, by rw [cell_of_obj h]; rfl, by rw [cell_of_obj h]; rfl, by rw [cell_of_obj h]; rfl, by rw [cell_of_obj h]; rfl⟩
              go_region_held3 (fun X : World => X.cell? ⟨w2.heap.size, 0, none⟩ = some (.int .u8 2) ∧ X.cell? ⟨w2.heap.size, 1, none⟩ = some (.int .i64 0) ∧ X.cell? ⟨w2.heap.size, 2, none⟩ = some (.int .i64 0) ∧ X.cell? ⟨w2.heap.size, 3, none⟩ = some (.string ⟨#[]⟩) ∧ X.cell? ⟨w2.heap.size, 8, none⟩ = some (.int .u8 0) ∧ X.cell? ⟨w2.heap.size, 9, none⟩ = some (.int .i64 0) ∧ X.cell? ⟨w2.heap.size, 10, none⟩ = some (.int .i64 0) ∧ X.cell? ⟨w2.heap.size, 11, none⟩ = some (.string ⟨#[]⟩)) ((refine (hvl _ ?_) <;> repeat (first | with_reducible exact hql | with_reducible exact hbl_8.raw | with_reducible refine obj_alloc ?_ _ | (with_reducible refine obj_setCell_other ?_ _ _ ?_; rotate_left; (dsimp only; omega)) | with_reducible refine obj_drew ?_))) (first | (go_at_call 31; refine (HO.out _).mono ?_; rintro e x0 ⟨rfl, hG0⟩; have k0 := hG0.size; refine have_of (p := x0.heap[w2.heap.size]? = some (.cells #[.int .u8 2, .int .i64 0, .int .i64 0, .string ⟨#[]⟩, .int .u8 2, .int .i64 1, .int .i64 0, .string ⟨#[]⟩, .int .u8 0, .int .i64 0, .int .i64 0, .string ⟨#[]⟩] 23 (0, 0))) ?_ (fun hql => ?_); (focus (refine hG0.obj (noB_not _) ?_; repeat (first | with_reducible exact hql | with_reducible exact hbl_8.raw | with_reducible refine obj_alloc ?_ _ | with_reducible refine obj_drew ?_))); (first | (have hnn := hG0.obj (fun x => x) hnn) | (with_reducible have hnn := hG0.obj (noB_not _) (obj_alloc_new _ _)) | (with_reducible have hnn := hG0.obj (noB_not _) (obj_drew (obj_alloc_new _ _))) | skip); (first | (have znn := frozen_of_obj hnn; obtain ⟨n0, n1, n2, n3⟩ := v_cells (v := zV) hnn) | skip)))
              all_goals (go_wp2_with fail; go_meet)
              all_goals (have hfr0 := Fr.refl noB w8; refine ⟨_, rfl, rfl, ?_, ?_, ?_⟩)
              all_goals (first | ((repeat (first | with_reducible exact hfr0 | with_reducible refine Fr.transN ?_ hG0 | with_reducible refine Fr.alloc ?_ _ | (with_reducible refine Fr.setCell ?_ ?_ _; rotate_left; (intro h; dsimp only at h; omega)) | with_reducible refine Fr.drew ?_ | exact hfr0)); done) | ((try simp only [World.size_alloc] at k0); omega) | (((first | unfold Bx | unfold Bl | unfold B3 | unfold A3 | skip); repeat (first | with_reducible exact hnn | (with_reducible refine obj_alloc_at ?_; simp; done) | (with_reducible apply obj_put4; omega) | (with_reducible refine obj_setCell_other ?_ _ _ ?_; rotate_left; (dsimp only; omega)) | with_reducible refine obj_alloc ?_ _ | with_reducible refine obj_drew ?_)); done))
            case rest =>
              obtain ⟨qo, rfl, rfl, hf9, hgo, hbo_9⟩ := hcut
              obtain ⟨w9, rfl⟩ : ∃ x, x = wc := ⟨_, rfl⟩
              have o2 := Lib.hid (hba_8.lt)
              have o3 := Lib.hid hgo
              have hbl_9 := hbl_8.mv hf9
              have hba_9 := hba_8.mv hf9
              have hfw_9 := hfw_8.transN hf9
              clear hbl_8 hba_8 cl_0 cl_1 cl_2 cl_3 cl_4 cl_5 cl_6 cl_7 cl_8 cl_9 cl_10 cl_11 zl ca_0 ca_1 ca_2 ca_3 za hf9 hfw_8 hgo
              obtain ⟨cl_0, cl_1, cl_2, cl_3, cl_4, cl_5, cl_6, cl_7, cl_8, cl_9, cl_10, cl_11, zl⟩ := hbl_9.cs
              obtain ⟨ca_0, ca_1, ca_2, ca_3, za⟩ := hba_9.cs
              obtain ⟨co_0, co_1, co_2, co_3, zo⟩ := hbo_9.cs
              go_upto_region 11 with fail
              have o4 := Lib.hid (hbo_9.lt)
              have ll := hbl_9.lt
              have la := hba_9.lt
              have lo := hbo_9.lt
              have hl := hfw_9.size
              have po0 := o0.out
              have po1 := o1.out
              have po2 := o2.out
              have po3 := o3.out
              have po4 := o4.out
              refine wp_world (fun W => Fr noB wo2 W ∧ B3 W w2.heap.size ∧ Bl W qa 2 0 0 ∧ Bl W qo 0 0 0 ∧ A3 W w9.heap.size) ?_ ?_
              · refine ⟨?_, ?_, ?_, ?_, ?_⟩ <;> ((first | unfold Bx | unfold Bl | unfold B3 | unfold A3 | skip); repeat (first | with_reducible exact hfw_9 | with_reducible refine Fr.alloc ?_ _ | (with_reducible refine Fr.setCell ?_ ?_ _; rotate_left; (intro h; dsimp only at h; omega)) | with_reducible refine Fr.drew ?_ | with_reducible exact hbl_9.raw | with_reducible exact hba_9.raw | with_reducible exact hbo_9.raw | (with_reducible refine obj_alloc_at ?_; simp; done) | (with_reducible apply obj_put4; omega) | (with_reducible apply obj_put1; omega) | (with_reducible refine obj_setCell_other ?_ _ _ ?_; rotate_left; (dsimp only; omega)) | with_reducible refine obj_alloc ?_ _ | with_reducible refine obj_drew ?_ | exact hfw_9))
              clear hbl_9 hba_9 hbo_9 ll la lo hl po0 po1 po2 po3 po4 cl_0 cl_1 cl_2 cl_3 cl_4 cl_5 cl_6 cl_7 cl_8 cl_9 cl_10 cl_11 zl ca_0 ca_1 ca_2 ca_3 za co_0 co_1 co_2 co_3 zo hfw_9
              rintro w10 ⟨hfw_10, hbl_10, hba_10, hbo_10, hbr_10⟩
              obtain ⟨cl_0, cl_1, cl_2, cl_3, cl_4, cl_5, cl_6, cl_7, cl_8, cl_9, cl_10, cl_11, zl⟩ := hbl_10.cs
              obtain ⟨ca_0, ca_1, ca_2, ca_3, za⟩ := hba_10.cs
              obtain ⟨co_0, co_1, co_2, co_3, zo⟩ := hbo_10.cs
              obtain ⟨cr_0, cr_1, cr_2, zr⟩ := hbr_10.cs
              go_region
              go_upto_region 13 with fail
              have o5 := Lib.hid (hbr_10.lt)
              have ll := hbl_10.lt
              have la := hba_10.lt
              have lo := hbo_10.lt
              have lr := hbr_10.lt
              have hl := hfw_10.size
              have po0 := o0.out
              have po1 := o1.out
              have po2 := o2.out
              have po3 := o3.out
              have po4 := o4.out
              have po5 := o5.out
              refine wp_world (fun W => Fr noB wo2 W ∧ B3 W w2.heap.size ∧ Bl W qa 2 0 0 ∧ Bl W qo 0 0 0 ∧ A3 W w9.heap.size ∧ A3 W w10.heap.size) ?_ ?_
              · refine ⟨?_, ?_, ?_, ?_, ?_, ?_⟩ <;> ((first | unfold Bx | unfold Bl | unfold B3 | unfold A3 | skip); repeat (first | with_reducible exact hfw_10 | with_reducible refine Fr.alloc ?_ _ | (with_reducible refine Fr.setCell ?_ ?_ _; rotate_left; (intro h; dsimp only at h; omega)) | with_reducible refine Fr.drew ?_ | with_reducible exact hbl_10.raw | with_reducible exact hba_10.raw | with_reducible exact hbo_10.raw | with_reducible exact hbr_10.raw | (with_reducible refine obj_alloc_at ?_; simp; done) | (with_reducible apply obj_put4; omega) | (with_reducible apply obj_put1; omega) | (with_reducible refine obj_setCell_other ?_ _ _ ?_; rotate_left; (dsimp only; omega)) | with_reducible refine obj_alloc ?_ _ | with_reducible refine obj_drew ?_ | exact hfw_10))
              clear hbl_10 hba_10 hbo_10 hbr_10 ll la lo lr hl po0 po1 po2 po3 po4 po5 cl_0 cl_1 cl_2 cl_3 cl_4 cl_5 cl_6 cl_7 cl_8 cl_9 cl_10 cl_11 zl ca_0 ca_1 ca_2 ca_3 za co_0 co_1 co_2 co_3 zo cr_0 cr_1 cr_2 zr hfw_10
              rintro w11 ⟨hfw_11, hbl_11, hba_11, hbo_11, hbr_11, hbs_11⟩
              obtain ⟨cl_0, cl_1, cl_2, cl_3, cl_4, cl_5, cl_6, cl_7, cl_8, cl_9, cl_10, cl_11, zl⟩ := hbl_11.cs
              obtain ⟨ca_0, ca_1, ca_2, ca_3, za⟩ := hba_11.cs
              obtain ⟨co_0, co_1, co_2, co_3, zo⟩ := hbo_11.cs
              obtain ⟨cr_0, cr_1, cr_2, zr⟩ := hbr_11.cs
              obtain ⟨cs_0, cs_1, cs_2, zs⟩ := hbs_11.cs
              have NA : ∀ W : World, (binOp .neq 23 (.agg #[.int .u8 2, .int .i64 0, .int .i64 0, .string ⟨#[]⟩]) (.agg #[.int .u8 2, .int .i64 0, .int .i64 0, .string ⟨#[]⟩])).run Try.prog W = .ok (.bool false) W := neqv_lit noV noV false ((eqV_iff _ _).2 rfl)
              have NO : ∀ W : World, (binOp .neq 23 (.agg #[.int .u8 0, .int .i64 0, .int .i64 0, .string ⟨#[]⟩]) (.agg #[.int .u8 0, .int .i64 0, .int .i64 0, .string ⟨#[]⟩])).run Try.prog W = .ok (.bool false) W := neqv_lit zV zV false ((eqV_iff _ _).2 rfl)
              have xl0 := Ext.cell cl_0
              have xl1 := Ext.cell cl_1
              have xl2 := Ext.cell cl_2
              have xl3 := Ext.cell cl_3
              have xl4 := Ext.cell cl_4
              have xl5 := Ext.cell cl_5
              have xl6 := Ext.cell cl_6
              have xl7 := Ext.cell cl_7
              have xl8 := Ext.cell cl_8
              have xl9 := Ext.cell cl_9
              have xl10 := Ext.cell cl_10
              have xl11 := Ext.cell cl_11
              have xa0 := Ext.cell ca_0
              have xa1 := Ext.cell ca_1
              have xa2 := Ext.cell ca_2
              have xa3 := Ext.cell ca_3
              have xo0 := Ext.cell co_0
              have xo1 := Ext.cell co_1
              have xo2 := Ext.cell co_2
              have xo3 := Ext.cell co_3
              have xr0 := Ext.cell cr_0
              have xr1 := Ext.cell cr_1
              have xr2 := Ext.cell cr_2
              have xs0 := Ext.cell cs_0
              have xs1 := Ext.cell cs_1
              have xs2 := Ext.cell cs_2
              clear cl_0 cl_1 cl_2 cl_3 cl_4 cl_5 cl_6 cl_7 cl_8 cl_9 cl_10 cl_11 zl ca_0 ca_1 ca_2 ca_3 za co_0 co_1 co_2 co_3 zo cr_0 cr_1 cr_2 zr cs_0 cs_1 cs_2 zs
              refine wp_region_ext (by kernel_rfl) (by kernel_rfl) ?_
              go_big_quiet_step (fail)
              go_big_quiet_step (fail)
              go_big_quiet_step (fail)
              go_big_quiet_step (fail)
              go_big_quiet_step (fail)
              go_big_quiet_step (fail)
              go_big_quiet_step (fail)
              go_big_quiet_step (fail)
              go_big_quiet_step (fail)
              go_big_quiet_step (fail)
              go_big_quiet_step (fail)
              go_big_quiet_step (fail)
              go_big_quiet_step (fail)
              go_big_quiet_step (fail)
              go_big_quiet_step (fail)
              go_big_quiet_step (fail)
              go_big_quiet_step (fail)
              go_big_quiet_step (fail)
              go_big_quiet_step (fail)
              go_big_quiet_step (fail)
              go_big_quiet_step (fail)
              go_big_quiet_step (fail)
              go_big_quiet_step (fail)
              go_big_quiet_step (fail)
              go_big_quiet_step (fail)
              go_big_quiet_step (fail)
              refine wpQuiet_nil ?_
              rintro _ ⟨⟨w12, hf12⟩, rfl⟩
              have hfw_12 := hfw_11.transN hf12
              clear NA NO xl0 xl1 xl2 xl3 xl4 xl5 xl6 xl7 xl8 xl9 xl10 xl11 xa0 xa1 xa2 xa3 xo0 xo1 xo2 xo3 xr0 xr1 xr2 xs0 xs1 xs2 hbl_11 hba_11 hbo_11 hbr_11 hbs_11
              go_wp2_with fail
              go_roundg 2
              case measure => omega
              case rel => exact ⟨1, by omega, by omega, by go_num, hfw_12⟩
        · clear hi
          obtain ⟨wi1, rfl⟩ : ∃ x, x = wr := ⟨_, rfl⟩
          have hbl_5 := hbl_4.mv hf
          clear hbl_4 cl_0 cl_1 cl_2 cl_3 cl_4 cl_5 cl_6 cl_7 cl_8 cl_9 cl_10 cl_11 zl
          obtain ⟨cl_0, cl_1, cl_2, cl_3, cl_4, cl_5, cl_6, cl_7, cl_8, cl_9, cl_10, cl_11, zl⟩ := hbl_5.cs
          have HA := Lib.hid (show ∀ W : World, Calls Try.prog 29 #[.agg #[.int .u8 0, .int .i64 0, .int .i64 0, .string ⟨#[]⟩], .agg #[.int .u8 2, .int .i64 1, .int .i64 0, .string ⟨#[]⟩]] W fun e w' => e = .returned (.tuple #[.agg #[.int .u8 0, .int .i64 0, .int .i64 0, .string ⟨#[]⟩], .int .i64 0]) ∧ Fr noB W w' from fun W => and_any zV yesV W)
          have HO := Lib.hid (show ∀ W : World, Calls Try.prog 31 #[.agg #[.int .u8 0, .int .i64 0, .int .i64 0, .string ⟨#[]⟩], .agg #[.int .u8 2, .int .i64 1, .int .i64 0, .string ⟨#[]⟩]] W fun e w' => e = .returned (.tuple #[.agg #[.int .u8 2, .int .i64 1, .int .i64 0, .string ⟨#[]⟩], .int .i64 0]) ∧ Fr noB W w' from fun W => or_any zV yesV W)
          go_upto_region 8 with fail
          have ll := hbl_5.lt
          have hl := hf.size
          refine wp_world (fun W => Fr noB wo2 W ∧ B3 W w2.heap.size) ?_ ?_
          · refine ⟨?_, ?_⟩ <;> ((first | unfold Bx | unfold Bl | unfold B3 | unfold A3 | skip); repeat (first | with_reducible exact hf | with_reducible refine Fr.alloc ?_ _ | (with_reducible refine Fr.setCell ?_ ?_ _; rotate_left; (intro h; dsimp only at h; omega)) | with_reducible refine Fr.drew ?_ | with_reducible exact hbl_5.raw | (with_reducible refine obj_alloc_at ?_; simp; done) | (with_reducible apply obj_put4; omega) | (with_reducible apply obj_put1; omega) | (with_reducible refine obj_setCell_other ?_ _ _ ?_; rotate_left; (dsimp only; omega)) | with_reducible refine obj_alloc ?_ _ | with_reducible refine obj_drew ?_ | exact hf))
          clear hbl_5 ll hl cl_0 cl_1 cl_2 cl_3 cl_4 cl_5 cl_6 cl_7 cl_8 cl_9 cl_10 cl_11 zl hf
          rintro w6 ⟨hfw_6, hbl_6⟩
          obtain ⟨cl_0, cl_1, cl_2, cl_3, cl_4, cl_5, cl_6, cl_7, cl_8, cl_9, cl_10, cl_11, zl⟩ := hbl_6.cs
          go_cut [4, 5] (fun s4 s5 wx => ∃ qa : Nat, s4 = .pointer (some ⟨qa, 0, none⟩) ∧ s5 = .int .i64 0 ∧ Fr noB w6 wx ∧ w6.heap.size ≤ qa ∧ Bl wx qa 0 0 0)
          case first => as_aux_lemma =>
            have hql := obj_drew hbl_6.raw
            have fz : ∀ (X : World) (o : Nat), (X.alloc (.cells #[.int .u8 0, .int .i64 0, .int .i64 0, .string ⟨#[]⟩] 23 (0, 0))).frozen? ⟨X.heap.size, o, none⟩ = false := fun X o => frozen_of_obj (obj_alloc_new X _) o
            have fc : ∀ X : World, (X.alloc (.cells #[.int .u8 0, .int .i64 0, .int .i64 0, .string ⟨#[]⟩] 23 (0, 0))).cell? ⟨X.heap.size, 0, none⟩ = some (.int .u8 0) ∧ (X.alloc (.cells #[.int .u8 0, .int .i64 0, .int .i64 0, .string ⟨#[]⟩] 23 (0, 0))).cell? ⟨X.heap.size, 1, none⟩ = some (.int .i64 0) ∧ (X.alloc (.cells #[.int .u8 0, .int .i64 0, .int .i64 0, .string ⟨#[]⟩] 23 (0, 0))).cell? ⟨X.heap.size, 2, none⟩ = some (.int .i64 0) ∧ (X.alloc (.cells #[.int .u8 0, .int .i64 0, .int .i64 0, .string ⟨#[]⟩] 23 (0, 0))).cell? ⟨X.heap.size, 3, none⟩ = some (.string ⟨#[]⟩) := fun X => v_cells (v := zV) (obj_alloc_new X _)
            have ll := hbl_6.lt
            have hdq : w6.drew.heap.size = w6.heap.size := rfl
            have hvl : ∀ X : World, X.heap[w2.heap.size]? = some (.cells #[.int .u8 2, .int .i64 0, .int .i64 0, .string ⟨#[]⟩, .int .u8 2, .int .i64 1, .int .i64 0, .string ⟨#[]⟩, .int .u8 0, .int .i64 0, .int .i64 0, .string ⟨#[]⟩] 23 (0, 0)) → X.cell? ⟨w2.heap.size, 4, none⟩ = some (.int .u8 2) ∧ X.cell? ⟨w2.heap.size, 5, none⟩ = some (.int .i64 1) ∧ X.cell? ⟨w2.heap.size, 6, none⟩ = some (.int .i64 0) ∧ X.cell? ⟨w2.heap.size, 7, none⟩ = some (.string ⟨#[]⟩) ∧ X.cell? ⟨w2.heap.size, 8, none⟩ = some (.int .u8 0) ∧ X.cell? ⟨w2.heap.size, 9, none⟩ = some (.int .i64 0) ∧ X.cell? ⟨w2.heap.size, 10, none⟩ = some (.int .i64 0) ∧ X.cell? ⟨w2.heap.size, 11, none⟩ = some (.string ⟨#[]⟩) := fun X h => ⟨by rw [cell_of_obj h]; rfl, by rw [cell_of_obj h]; rfl, by rw [cell_of_obj h]; rfl, by rw [cell_of_obj h]; rfl, by rw [cell_of_obj h]; rfl, by rw [cell_of_obj h]; rfl, by rw [cell_of_obj h]; rfl, by rw [cell_of_obj h]; rfl⟩
            go_region_held3 (fun X : World => X.cell? ⟨w2.heap.size, 4, none⟩ = some (.int .u8 2) ∧ X.cell? ⟨w2.heap.size, 5, none⟩ = some (.int .i64 1) ∧ X.cell? ⟨w2.heap.size, 6, none⟩ = some (.int .i64 0) ∧ X.cell? ⟨w2.heap.size, 7, none⟩ = some (.string ⟨#[]⟩) ∧ X.cell? ⟨w2.heap.size, 8, none⟩ = some (.int .u8 0) ∧ X.cell? ⟨w2.heap.size, 9, none⟩ = some (.int .i64 0) ∧ X.cell? ⟨w2.heap.size, 10, none⟩ = some (.int .i64 0) ∧ X.cell? ⟨w2.heap.size, 11, none⟩ = some (.string ⟨#[]⟩)) ((refine (hvl _ ?_) <;> repeat (first | with_reducible exact hql | with_reducible exact hbl_6.raw | with_reducible refine obj_alloc ?_ _ | (with_reducible refine obj_setCell_other ?_ _ _ ?_; rotate_left; (dsimp only; omega)) | with_reducible refine obj_drew ?_))) (first | (go_at_call 29; refine (HA.out _).mono ?_; rintro e x0 ⟨rfl, hG0⟩; have k0 := hG0.size; refine have_of (p := x0.heap[w2.heap.size]? = some (.cells #[.int .u8 2, .int .i64 0, .int .i64 0, .string ⟨#[]⟩, .int .u8 2, .int .i64 1, .int .i64 0, .string ⟨#[]⟩, .int .u8 0, .int .i64 0, .int .i64 0, .string ⟨#[]⟩] 23 (0, 0))) ?_ (fun hql => ?_); (focus (refine hG0.obj (noB_not _) ?_; repeat (first | with_reducible exact hql | with_reducible exact hbl_6.raw | with_reducible refine obj_alloc ?_ _ | with_reducible refine obj_drew ?_))); (first | (have hnn := hG0.obj (fun x => x) hnn) | (with_reducible have hnn := hG0.obj (noB_not _) (obj_alloc_new _ _)) | (with_reducible have hnn := hG0.obj (noB_not _) (obj_drew (obj_alloc_new _ _))) | skip); (first | (have znn := frozen_of_obj hnn; obtain ⟨n0, n1, n2, n3⟩ := v_cells (v := zV) hnn) | skip)))
            all_goals (go_wp2_with fail; go_meet)
            all_goals (have hfr0 := Fr.refl noB w6; refine ⟨_, rfl, rfl, ?_, ?_, ?_⟩)
            all_goals (first | ((repeat (first | with_reducible exact hfr0 | with_reducible refine Fr.transN ?_ hG0 | with_reducible refine Fr.alloc ?_ _ | (with_reducible refine Fr.setCell ?_ ?_ _; rotate_left; (intro h; dsimp only at h; omega)) | with_reducible refine Fr.drew ?_ | exact hfr0)); done) | ((try simp only [World.size_alloc] at k0); omega) | (((first | unfold Bx | unfold Bl | unfold B3 | unfold A3 | skip); repeat (first | with_reducible exact hnn | (with_reducible refine obj_alloc_at ?_; simp; done) | (with_reducible apply obj_put4; omega) | (with_reducible refine obj_setCell_other ?_ _ _ ?_; rotate_left; (dsimp only; omega)) | with_reducible refine obj_alloc ?_ _ | with_reducible refine obj_drew ?_)); done))
          case rest =>
            obtain ⟨qa, rfl, rfl, hf7, hga, hba_7⟩ := hcut
            obtain ⟨w7, rfl⟩ : ∃ x, x = wc := ⟨_, rfl⟩
            have o0 := Lib.hid (hbl_6.lt)
            have o1 := Lib.hid hga
            have hbl_7 := hbl_6.mv hf7
            have hfw_7 := hfw_6.transN hf7
            clear hbl_6 cl_0 cl_1 cl_2 cl_3 cl_4 cl_5 cl_6 cl_7 cl_8 cl_9 cl_10 cl_11 zl hf7 hfw_6 hga
            obtain ⟨cl_0, cl_1, cl_2, cl_3, cl_4, cl_5, cl_6, cl_7, cl_8, cl_9, cl_10, cl_11, zl⟩ := hbl_7.cs
            obtain ⟨ca_0, ca_1, ca_2, ca_3, za⟩ := hba_7.cs
            go_upto_region 9 with fail
            have ll := hbl_7.lt
            have la := hba_7.lt
            have hl := hfw_7.size
            have po0 := o0.out
            have po1 := o1.out
            refine wp_world (fun W => Fr noB wo2 W ∧ B3 W w2.heap.size ∧ Bl W qa 0 0 0) ?_ ?_
            · refine ⟨?_, ?_, ?_⟩ <;> ((first | unfold Bx | unfold Bl | unfold B3 | unfold A3 | skip); repeat (first | with_reducible exact hfw_7 | with_reducible refine Fr.alloc ?_ _ | (with_reducible refine Fr.setCell ?_ ?_ _; rotate_left; (intro h; dsimp only at h; omega)) | with_reducible refine Fr.drew ?_ | with_reducible exact hbl_7.raw | with_reducible exact hba_7.raw | (with_reducible refine obj_alloc_at ?_; simp; done) | (with_reducible apply obj_put4; omega) | (with_reducible apply obj_put1; omega) | (with_reducible refine obj_setCell_other ?_ _ _ ?_; rotate_left; (dsimp only; omega)) | with_reducible refine obj_alloc ?_ _ | with_reducible refine obj_drew ?_ | exact hfw_7))
            clear hbl_7 hba_7 ll la hl po0 po1 cl_0 cl_1 cl_2 cl_3 cl_4 cl_5 cl_6 cl_7 cl_8 cl_9 cl_10 cl_11 zl ca_0 ca_1 ca_2 ca_3 za hfw_7
            rintro w8 ⟨hfw_8, hbl_8, hba_8⟩
            obtain ⟨cl_0, cl_1, cl_2, cl_3, cl_4, cl_5, cl_6, cl_7, cl_8, cl_9, cl_10, cl_11, zl⟩ := hbl_8.cs
            obtain ⟨ca_0, ca_1, ca_2, ca_3, za⟩ := hba_8.cs
            go_cut [6, 7] (fun s6 s7 wx => ∃ qo : Nat, s6 = .pointer (some ⟨qo, 0, none⟩) ∧ s7 = .int .i64 0 ∧ Fr noB w8 wx ∧ w8.heap.size ≤ qo ∧ Bl wx qo 2 1 0)
            case first => as_aux_lemma =>
              have hql := obj_drew hbl_8.raw
              have fz : ∀ (X : World) (o : Nat), (X.alloc (.cells #[.int .u8 0, .int .i64 0, .int .i64 0, .string ⟨#[]⟩] 23 (0, 0))).frozen? ⟨X.heap.size, o, none⟩ = false := fun X o => frozen_of_obj (obj_alloc_new X _) o
              have fc : ∀ X : World, (X.alloc (.cells #[.int .u8 0, .int .i64 0, .int .i64 0, .string ⟨#[]⟩] 23 (0, 0))).cell? ⟨X.heap.size, 0, none⟩ = some (.int .u8 0) ∧ (X.alloc (.cells #[.int .u8 0, .int .i64 0, .int .i64 0, .string ⟨#[]⟩] 23 (0, 0))).cell? ⟨X.heap.size, 1, none⟩ = some (.int .i64 0) ∧ (X.alloc (.cells #[.int .u8 0, .int .i64 0, .int .i64 0, .string ⟨#[]⟩] 23 (0, 0))).cell? ⟨X.heap.size, 2, none⟩ = some (.int .i64 0) ∧ (X.alloc (.cells #[.int .u8 0, .int .i64 0, .int .i64 0, .string ⟨#[]⟩] 23 (0, 0))).cell? ⟨X.heap.size, 3, none⟩ = some (.string ⟨#[]⟩) := fun X => v_cells (v := zV) (obj_alloc_new X _)
              have ll := hbl_8.lt
              have hdq : w8.drew.heap.size = w8.heap.size := rfl
              have hvl : ∀ X : World, X.heap[w2.heap.size]? = some (.cells #[.int .u8 2, .int .i64 0, .int .i64 0, .string ⟨#[]⟩, .int .u8 2, .int .i64 1, .int .i64 0, .string ⟨#[]⟩, .int .u8 0, .int .i64 0, .int .i64 0, .string ⟨#[]⟩] 23 (0, 0)) → X.cell? ⟨w2.heap.size, 4, none⟩ = some (.int .u8 2) ∧ X.cell? ⟨w2.heap.size, 5, none⟩ = some (.int .i64 1) ∧ X.cell? ⟨w2.heap.size, 6, none⟩ = some (.int .i64 0) ∧ X.cell? ⟨w2.heap.size, 7, none⟩ = some (.string ⟨#[]⟩) ∧ X.cell? ⟨w2.heap.size, 8, none⟩ = some (.int .u8 0) ∧ X.cell? ⟨w2.heap.size, 9, none⟩ = some (.int .i64 0) ∧ X.cell? ⟨w2.heap.size, 10, none⟩ = some (.int .i64 0) ∧ X.cell? ⟨w2.heap.size, 11, none⟩ = some (.string ⟨#[]⟩) := fun X h => ⟨by rw [cell_of_obj h]; rfl, by rw [cell_of_obj h]; rfl, by rw [cell_of_obj h]; rfl, by rw [cell_of_obj h]; rfl, by rw [cell_of_obj h]; rfl, by rw [cell_of_obj h]; rfl, by rw [cell_of_obj h]; rfl, by rw [cell_of_obj h]; rfl⟩
              go_region_held3 (fun X : World => X.cell? ⟨w2.heap.size, 4, none⟩ = some (.int .u8 2) ∧ X.cell? ⟨w2.heap.size, 5, none⟩ = some (.int .i64 1) ∧ X.cell? ⟨w2.heap.size, 6, none⟩ = some (.int .i64 0) ∧ X.cell? ⟨w2.heap.size, 7, none⟩ = some (.string ⟨#[]⟩) ∧ X.cell? ⟨w2.heap.size, 8, none⟩ = some (.int .u8 0) ∧ X.cell? ⟨w2.heap.size, 9, none⟩ = some (.int .i64 0) ∧ X.cell? ⟨w2.heap.size, 10, none⟩ = some (.int .i64 0) ∧ X.cell? ⟨w2.heap.size, 11, none⟩ = some (.string ⟨#[]⟩)) ((refine (hvl _ ?_) <;> repeat (first | with_reducible exact hql | with_reducible exact hbl_8.raw | with_reducible refine obj_alloc ?_ _ | (with_reducible refine obj_setCell_other ?_ _ _ ?_; rotate_left; (dsimp only; omega)) | with_reducible refine obj_drew ?_))) (first | (go_at_call 31; refine (HO.out _).mono ?_; rintro e x0 ⟨rfl, hG0⟩; have k0 := hG0.size; refine have_of (p := x0.heap[w2.heap.size]? = some (.cells #[.int .u8 2, .int .i64 0, .int .i64 0, .string ⟨#[]⟩, .int .u8 2, .int .i64 1, .int .i64 0, .string ⟨#[]⟩, .int .u8 0, .int .i64 0, .int .i64 0, .string ⟨#[]⟩] 23 (0, 0))) ?_ (fun hql => ?_); (focus (refine hG0.obj (noB_not _) ?_; repeat (first | with_reducible exact hql | with_reducible exact hbl_8.raw | with_reducible refine obj_alloc ?_ _ | with_reducible refine obj_drew ?_))); (first | (have hnn := hG0.obj (fun x => x) hnn) | (with_reducible have hnn := hG0.obj (noB_not _) (obj_alloc_new _ _)) | (with_reducible have hnn := hG0.obj (noB_not _) (obj_drew (obj_alloc_new _ _))) | skip); (first | (have znn := frozen_of_obj hnn; obtain ⟨n0, n1, n2, n3⟩ := v_cells (v := zV) hnn) | skip)))
              all_goals (go_wp2_with fail; go_meet)
              all_goals (have hfr0 := Fr.refl noB w8; refine ⟨_, rfl, rfl, ?_, ?_, ?_⟩)
              all_goals (first | ((repeat (first | with_reducible exact hfr0 | with_reducible refine Fr.transN ?_ hG0 | with_reducible refine Fr.alloc ?_ _ | (with_reducible refine Fr.setCell ?_ ?_ _; rotate_left; (intro h; dsimp only at h; omega)) | with_reducible refine Fr.drew ?_ | exact hfr0)); done) | ((try simp only [World.size_alloc] at k0); omega) | (((first | unfold Bx | unfold Bl | unfold B3 | unfold A3 | skip); repeat (first | with_reducible exact hnn | (with_reducible refine obj_alloc_at ?_; simp; done) | (with_reducible apply obj_put4; omega) | (with_reducible refine obj_setCell_other ?_ _ _ ?_; rotate_left; (dsimp only; omega)) | with_reducible refine obj_alloc ?_ _ | with_reducible refine obj_drew ?_)); done))
            case rest =>
              obtain ⟨qo, rfl, rfl, hf9, hgo, hbo_9⟩ := hcut
              obtain ⟨w9, rfl⟩ : ∃ x, x = wc := ⟨_, rfl⟩
              have o2 := Lib.hid (hba_8.lt)
              have o3 := Lib.hid hgo
              have hbl_9 := hbl_8.mv hf9
              have hba_9 := hba_8.mv hf9
              have hfw_9 := hfw_8.transN hf9
              clear hbl_8 hba_8 cl_0 cl_1 cl_2 cl_3 cl_4 cl_5 cl_6 cl_7 cl_8 cl_9 cl_10 cl_11 zl ca_0 ca_1 ca_2 ca_3 za hf9 hfw_8 hgo
              obtain ⟨cl_0, cl_1, cl_2, cl_3, cl_4, cl_5, cl_6, cl_7, cl_8, cl_9, cl_10, cl_11, zl⟩ := hbl_9.cs
              obtain ⟨ca_0, ca_1, ca_2, ca_3, za⟩ := hba_9.cs
              obtain ⟨co_0, co_1, co_2, co_3, zo⟩ := hbo_9.cs
              go_upto_region 11 with fail
              have o4 := Lib.hid (hbo_9.lt)
              have ll := hbl_9.lt
              have la := hba_9.lt
              have lo := hbo_9.lt
              have hl := hfw_9.size
              have po0 := o0.out
              have po1 := o1.out
              have po2 := o2.out
              have po3 := o3.out
              have po4 := o4.out
              refine wp_world (fun W => Fr noB wo2 W ∧ B3 W w2.heap.size ∧ Bl W qa 0 0 0 ∧ Bl W qo 2 1 0 ∧ A3 W w9.heap.size) ?_ ?_
              · refine ⟨?_, ?_, ?_, ?_, ?_⟩ <;> ((first | unfold Bx | unfold Bl | unfold B3 | unfold A3 | skip); repeat (first | with_reducible exact hfw_9 | with_reducible refine Fr.alloc ?_ _ | (with_reducible refine Fr.setCell ?_ ?_ _; rotate_left; (intro h; dsimp only at h; omega)) | with_reducible refine Fr.drew ?_ | with_reducible exact hbl_9.raw | with_reducible exact hba_9.raw | with_reducible exact hbo_9.raw | (with_reducible refine obj_alloc_at ?_; simp; done) | (with_reducible apply obj_put4; omega) | (with_reducible apply obj_put1; omega) | (with_reducible refine obj_setCell_other ?_ _ _ ?_; rotate_left; (dsimp only; omega)) | with_reducible refine obj_alloc ?_ _ | with_reducible refine obj_drew ?_ | exact hfw_9))
              clear hbl_9 hba_9 hbo_9 ll la lo hl po0 po1 po2 po3 po4 cl_0 cl_1 cl_2 cl_3 cl_4 cl_5 cl_6 cl_7 cl_8 cl_9 cl_10 cl_11 zl ca_0 ca_1 ca_2 ca_3 za co_0 co_1 co_2 co_3 zo hfw_9
              rintro w10 ⟨hfw_10, hbl_10, hba_10, hbo_10, hbr_10⟩
              obtain ⟨cl_0, cl_1, cl_2, cl_3, cl_4, cl_5, cl_6, cl_7, cl_8, cl_9, cl_10, cl_11, zl⟩ := hbl_10.cs
              obtain ⟨ca_0, ca_1, ca_2, ca_3, za⟩ := hba_10.cs
              obtain ⟨co_0, co_1, co_2, co_3, zo⟩ := hbo_10.cs
              obtain ⟨cr_0, cr_1, cr_2, zr⟩ := hbr_10.cs
              go_region
              go_upto_region 13 with fail
              have o5 := Lib.hid (hbr_10.lt)
              have ll := hbl_10.lt
              have la := hba_10.lt
              have lo := hbo_10.lt
              have lr := hbr_10.lt
              have hl := hfw_10.size
              have po0 := o0.out
              have po1 := o1.out
              have po2 := o2.out
              have po3 := o3.out
              have po4 := o4.out
              have po5 := o5.out
              refine wp_world (fun W => Fr noB wo2 W ∧ B3 W w2.heap.size ∧ Bl W qa 0 0 0 ∧ Bl W qo 2 1 0 ∧ A3 W w9.heap.size ∧ A3 W w10.heap.size) ?_ ?_
              · refine ⟨?_, ?_, ?_, ?_, ?_, ?_⟩ <;> ((first | unfold Bx | unfold Bl | unfold B3 | unfold A3 | skip); repeat (first | with_reducible exact hfw_10 | with_reducible refine Fr.alloc ?_ _ | (with_reducible refine Fr.setCell ?_ ?_ _; rotate_left; (intro h; dsimp only at h; omega)) | with_reducible refine Fr.drew ?_ | with_reducible exact hbl_10.raw | with_reducible exact hba_10.raw | with_reducible exact hbo_10.raw | with_reducible exact hbr_10.raw | (with_reducible refine obj_alloc_at ?_; simp; done) | (with_reducible apply obj_put4; omega) | (with_reducible apply obj_put1; omega) | (with_reducible refine obj_setCell_other ?_ _ _ ?_; rotate_left; (dsimp only; omega)) | with_reducible refine obj_alloc ?_ _ | with_reducible refine obj_drew ?_ | exact hfw_10))
              clear hbl_10 hba_10 hbo_10 hbr_10 ll la lo lr hl po0 po1 po2 po3 po4 po5 cl_0 cl_1 cl_2 cl_3 cl_4 cl_5 cl_6 cl_7 cl_8 cl_9 cl_10 cl_11 zl ca_0 ca_1 ca_2 ca_3 za co_0 co_1 co_2 co_3 zo cr_0 cr_1 cr_2 zr hfw_10
              rintro w11 ⟨hfw_11, hbl_11, hba_11, hbo_11, hbr_11, hbs_11⟩
              obtain ⟨cl_0, cl_1, cl_2, cl_3, cl_4, cl_5, cl_6, cl_7, cl_8, cl_9, cl_10, cl_11, zl⟩ := hbl_11.cs
              obtain ⟨ca_0, ca_1, ca_2, ca_3, za⟩ := hba_11.cs
              obtain ⟨co_0, co_1, co_2, co_3, zo⟩ := hbo_11.cs
              obtain ⟨cr_0, cr_1, cr_2, zr⟩ := hbr_11.cs
              obtain ⟨cs_0, cs_1, cs_2, zs⟩ := hbs_11.cs
              have NA : ∀ W : World, (binOp .neq 23 (.agg #[.int .u8 0, .int .i64 0, .int .i64 0, .string ⟨#[]⟩]) (.agg #[.int .u8 0, .int .i64 0, .int .i64 0, .string ⟨#[]⟩])).run Try.prog W = .ok (.bool false) W := neqv_lit zV zV false ((eqV_iff _ _).2 rfl)
              have NO : ∀ W : World, (binOp .neq 23 (.agg #[.int .u8 2, .int .i64 1, .int .i64 0, .string ⟨#[]⟩]) (.agg #[.int .u8 2, .int .i64 1, .int .i64 0, .string ⟨#[]⟩])).run Try.prog W = .ok (.bool false) W := neqv_lit yesV yesV false ((eqV_iff _ _).2 rfl)
              have xl0 := Ext.cell cl_0
              have xl1 := Ext.cell cl_1
              have xl2 := Ext.cell cl_2
              have xl3 := Ext.cell cl_3
              have xl4 := Ext.cell cl_4
              have xl5 := Ext.cell cl_5
              have xl6 := Ext.cell cl_6
              have xl7 := Ext.cell cl_7
              have xl8 := Ext.cell cl_8
              have xl9 := Ext.cell cl_9
              have xl10 := Ext.cell cl_10
              have xl11 := Ext.cell cl_11
              have xa0 := Ext.cell ca_0
              have xa1 := Ext.cell ca_1
              have xa2 := Ext.cell ca_2
              have xa3 := Ext.cell ca_3
              have xo0 := Ext.cell co_0
              have xo1 := Ext.cell co_1
              have xo2 := Ext.cell co_2
              have xo3 := Ext.cell co_3
              have xr0 := Ext.cell cr_0
              have xr1 := Ext.cell cr_1
              have xr2 := Ext.cell cr_2
              have xs0 := Ext.cell cs_0
              have xs1 := Ext.cell cs_1
              have xs2 := Ext.cell cs_2
              clear cl_0 cl_1 cl_2 cl_3 cl_4 cl_5 cl_6 cl_7 cl_8 cl_9 cl_10 cl_11 zl ca_0 ca_1 ca_2 ca_3 za co_0 co_1 co_2 co_3 zo cr_0 cr_1 cr_2 zr cs_0 cs_1 cs_2 zs
              refine wp_region_ext (by kernel_rfl) (by kernel_rfl) ?_
              go_big_quiet_step (fail)
              go_big_quiet_step (fail)
              go_big_quiet_step (fail)
              go_big_quiet_step (fail)
              go_big_quiet_step (fail)
              go_big_quiet_step (fail)
              go_big_quiet_step (fail)
              go_big_quiet_step (fail)
              go_big_quiet_step (fail)
              go_big_quiet_step (fail)
              go_big_quiet_step (fail)
              go_big_quiet_step (fail)
              go_big_quiet_step (fail)
              go_big_quiet_step (fail)
              go_big_quiet_step (fail)
              go_big_quiet_step (fail)
              go_big_quiet_step (fail)
              go_big_quiet_step (fail)
              go_big_quiet_step (fail)
              go_big_quiet_step (fail)
              go_big_quiet_step (fail)
              go_big_quiet_step (fail)
              go_big_quiet_step (fail)
              go_big_quiet_step (fail)
              go_big_quiet_step (fail)
              go_big_quiet_step (fail)
              refine wpQuiet_nil ?_
              rintro _ ⟨⟨w12, hf12⟩, rfl⟩
              have hfw_12 := hfw_11.transN hf12
              clear NA NO xl0 xl1 xl2 xl3 xl4 xl5 xl6 xl7 xl8 xl9 xl10 xl11 xa0 xa1 xa2 xa3 xo0 xo1 xo2 xo3 xr0 xr1 xr2 xs0 xs1 xs2 hbl_11 hba_11 hbo_11 hbr_11 hbs_11
              go_wp2_with fail
              go_roundg 1
              case measure => omega
              case rel => exact ⟨2, by omega, by omega, by go_num, hfw_12⟩
        · clear hi
          obtain ⟨wi2, rfl⟩ : ∃ x, x = wr := ⟨_, rfl⟩
          have hbl_5 := hbl_4.mv hf
          clear hbl_4 cl_0 cl_1 cl_2 cl_3 cl_4 cl_5 cl_6 cl_7 cl_8 cl_9 cl_10 cl_11 zl
          obtain ⟨cl_0, cl_1, cl_2, cl_3, cl_4, cl_5, cl_6, cl_7, cl_8, cl_9, cl_10, cl_11, zl⟩ := hbl_5.cs
          have HA := Lib.hid (show ∀ W : World, Calls Try.prog 29 #[.agg #[.int .u8 0, .int .i64 0, .int .i64 0, .string ⟨#[]⟩], .agg #[.int .u8 0, .int .i64 0, .int .i64 0, .string ⟨#[]⟩]] W fun e w' => e = .returned (.tuple #[.agg #[.int .u8 0, .int .i64 0, .int .i64 0, .string ⟨#[]⟩], .int .i64 0]) ∧ Fr noB W w' from fun W => and_any zV zV W)
          have HO := Lib.hid (show ∀ W : World, Calls Try.prog 31 #[.agg #[.int .u8 0, .int .i64 0, .int .i64 0, .string ⟨#[]⟩], .agg #[.int .u8 0, .int .i64 0, .int .i64 0, .string ⟨#[]⟩]] W fun e w' => e = .returned (.tuple #[.agg #[.int .u8 0, .int .i64 0, .int .i64 0, .string ⟨#[]⟩], .int .i64 0]) ∧ Fr noB W w' from fun W => or_any zV zV W)
          go_upto_region 8 with fail
          have ll := hbl_5.lt
          have hl := hf.size
          refine wp_world (fun W => Fr noB wo2 W ∧ B3 W w2.heap.size) ?_ ?_
          · refine ⟨?_, ?_⟩ <;> ((first | unfold Bx | unfold Bl | unfold B3 | unfold A3 | skip); repeat (first | with_reducible exact hf | with_reducible refine Fr.alloc ?_ _ | (with_reducible refine Fr.setCell ?_ ?_ _; rotate_left; (intro h; dsimp only at h; omega)) | with_reducible refine Fr.drew ?_ | with_reducible exact hbl_5.raw | (with_reducible refine obj_alloc_at ?_; simp; done) | (with_reducible apply obj_put4; omega) | (with_reducible apply obj_put1; omega) | (with_reducible refine obj_setCell_other ?_ _ _ ?_; rotate_left; (dsimp only; omega)) | with_reducible refine obj_alloc ?_ _ | with_reducible refine obj_drew ?_ | exact hf))
          clear hbl_5 ll hl cl_0 cl_1 cl_2 cl_3 cl_4 cl_5 cl_6 cl_7 cl_8 cl_9 cl_10 cl_11 zl hf
          rintro w6 ⟨hfw_6, hbl_6⟩
          obtain ⟨cl_0, cl_1, cl_2, cl_3, cl_4, cl_5, cl_6, cl_7, cl_8, cl_9, cl_10, cl_11, zl⟩ := hbl_6.cs
          go_cut [4, 5] (fun s4 s5 wx => ∃ qa : Nat, s4 = .pointer (some ⟨qa, 0, none⟩) ∧ s5 = .int .i64 0 ∧ Fr noB w6 wx ∧ w6.heap.size ≤ qa ∧ Bl wx qa 0 0 0)
          case first => as_aux_lemma =>
            have hql := obj_drew hbl_6.raw
            have fz : ∀ (X : World) (o : Nat), (X.alloc (.cells #[.int .u8 0, .int .i64 0, .int .i64 0, .string ⟨#[]⟩] 23 (0, 0))).frozen? ⟨X.heap.size, o, none⟩ = false := fun X o => frozen_of_obj (obj_alloc_new X _) o
            have fc : ∀ X : World, (X.alloc (.cells #[.int .u8 0, .int .i64 0, .int .i64 0, .string ⟨#[]⟩] 23 (0, 0))).cell? ⟨X.heap.size, 0, none⟩ = some (.int .u8 0) ∧ (X.alloc (.cells #[.int .u8 0, .int .i64 0, .int .i64 0, .string ⟨#[]⟩] 23 (0, 0))).cell? ⟨X.heap.size, 1, none⟩ = some (.int .i64 0) ∧ (X.alloc (.cells #[.int .u8 0, .int .i64 0, .int .i64 0, .string ⟨#[]⟩] 23 (0, 0))).cell? ⟨X.heap.size, 2, none⟩ = some (.int .i64 0) ∧ (X.alloc (.cells #[.int .u8 0, .int .i64 0, .int .i64 0, .string ⟨#[]⟩] 23 (0, 0))).cell? ⟨X.heap.size, 3, none⟩ = some (.string ⟨#[]⟩) := fun X => v_cells (v := zV) (obj_alloc_new X _)
            have ll := hbl_6.lt
            have hdq : w6.drew.heap.size = w6.heap.size := rfl
            have hvl : ∀ X : World, X.heap[w2.heap.size]? = some (.cells #[.int .u8 2, .int .i64 0, .int .i64 0, .string ⟨#[]⟩, .int .u8 2, .int .i64 1, .int .i64 0, .string ⟨#[]⟩, .int .u8 0, .int .i64 0, .int .i64 0, .string ⟨#[]⟩] 23 (0, 0)) → X.cell? ⟨w2.heap.size, 8, none⟩ = some (.int .u8 0) ∧ X.cell? ⟨w2.heap.size, 9, none⟩ = some (.int .i64 0) ∧ X.cell? ⟨w2.heap.size, 10, none⟩ = some (.int .i64 0) ∧ X.cell? ⟨w2.heap.size, 11, none⟩ = some (.string ⟨#[]⟩) := fun X h => ⟨by rw [cell_of_obj h]; rfl, by rw [cell_of_obj h]; rfl, by rw [cell_of_obj h]; rfl, by rw [cell_of_obj h]; rfl⟩
            go_region_held3 (fun X : World => X.cell? ⟨w2.heap.size, 8, none⟩ = some (.int .u8 0) ∧ X.cell? ⟨w2.heap.size, 9, none⟩ = some (.int .i64 0) ∧ X.cell? ⟨w2.heap.size, 10, none⟩ = some (.int .i64 0) ∧ X.cell? ⟨w2.heap.size, 11, none⟩ = some (.string ⟨#[]⟩)) ((refine (hvl _ ?_) <;> repeat (first | with_reducible exact hql | with_reducible exact hbl_6.raw | with_reducible refine obj_alloc ?_ _ | (with_reducible refine obj_setCell_other ?_ _ _ ?_; rotate_left; (dsimp only; omega)) | with_reducible refine obj_drew ?_))) (first | (go_at_call 29; refine (HA.out _).mono ?_; rintro e x0 ⟨rfl, hG0⟩; have k0 := hG0.size; refine have_of (p := x0.heap[w2.heap.size]? = some (.cells #[.int .u8 2, .int .i64 0, .int .i64 0, .string ⟨#[]⟩, .int .u8 2, .int .i64 1, .int .i64 0, .string ⟨#[]⟩, .int .u8 0, .int .i64 0, .int .i64 0, .string ⟨#[]⟩] 23 (0, 0))) ?_ (fun hql => ?_); (focus (refine hG0.obj (noB_not _) ?_; repeat (first | with_reducible exact hql | with_reducible exact hbl_6.raw | with_reducible refine obj_alloc ?_ _ | with_reducible refine obj_drew ?_))); (first | (have hnn := hG0.obj (fun x => x) hnn) | (with_reducible have hnn := hG0.obj (noB_not _) (obj_alloc_new _ _)) | (with_reducible have hnn := hG0.obj (noB_not _) (obj_drew (obj_alloc_new _ _))) | skip); (first | (have znn := frozen_of_obj hnn; obtain ⟨n0, n1, n2, n3⟩ := v_cells (v := zV) hnn) | skip)))
            all_goals (go_wp2_with fail; go_meet)
            all_goals (have hfr0 := Fr.refl noB w6; refine ⟨_, rfl, rfl, ?_, ?_, ?_⟩)
            all_goals (first | ((repeat (first | with_reducible exact hfr0 | with_reducible refine Fr.transN ?_ hG0 | with_reducible refine Fr.alloc ?_ _ | (with_reducible refine Fr.setCell ?_ ?_ _; rotate_left; (intro h; dsimp only at h; omega)) | with_reducible refine Fr.drew ?_ | exact hfr0)); done) | ((try simp only [World.size_alloc] at k0); omega) | (((first | unfold Bx | unfold Bl | unfold B3 | unfold A3 | skip); repeat (first | with_reducible exact hnn | (with_reducible refine obj_alloc_at ?_; simp; done) | (with_reducible apply obj_put4; omega) | (with_reducible refine obj_setCell_other ?_ _ _ ?_; rotate_left; (dsimp only; omega)) | with_reducible refine obj_alloc ?_ _ | with_reducible refine obj_drew ?_)); done))
          case rest =>
            obtain ⟨qa, rfl, rfl, hf7, hga, hba_7⟩ := hcut
            obtain ⟨w7, rfl⟩ : ∃ x, x = wc := ⟨_, rfl⟩
            have o0 := Lib.hid (hbl_6.lt)
            have o1 := Lib.hid hga
            have hbl_7 := hbl_6.mv hf7
            have hfw_7 := hfw_6.transN hf7
            clear hbl_6 cl_0 cl_1 cl_2 cl_3 cl_4 cl_5 cl_6 cl_7 cl_8 cl_9 cl_10 cl_11 zl hf7 hfw_6 hga
            obtain ⟨cl_0, cl_1, cl_2, cl_3, cl_4, cl_5, cl_6, cl_7, cl_8, cl_9, cl_10, cl_11, zl⟩ := hbl_7.cs
            obtain ⟨ca_0, ca_1, ca_2, ca_3, za⟩ := hba_7.cs
            go_upto_region 9 with fail
            have ll := hbl_7.lt
            have la := hba_7.lt
            have hl := hfw_7.size
            have po0 := o0.out
            have po1 := o1.out
            refine wp_world (fun W => Fr noB wo2 W ∧ B3 W w2.heap.size ∧ Bl W qa 0 0 0) ?_ ?_
            · refine ⟨?_, ?_, ?_⟩ <;> ((first | unfold Bx | unfold Bl | unfold B3 | unfold A3 | skip); repeat (first | with_reducible exact hfw_7 | with_reducible refine Fr.alloc ?_ _ | (with_reducible refine Fr.setCell ?_ ?_ _; rotate_left; (intro h; dsimp only at h; omega)) | with_reducible refine Fr.drew ?_ | with_reducible exact hbl_7.raw | with_reducible exact hba_7.raw | (with_reducible refine obj_alloc_at ?_; simp; done) | (with_reducible apply obj_put4; omega) | (with_reducible apply obj_put1; omega) | (with_reducible refine obj_setCell_other ?_ _ _ ?_; rotate_left; (dsimp only; omega)) | with_reducible refine obj_alloc ?_ _ | with_reducible refine obj_drew ?_ | exact hfw_7))
            clear hbl_7 hba_7 ll la hl po0 po1 cl_0 cl_1 cl_2 cl_3 cl_4 cl_5 cl_6 cl_7 cl_8 cl_9 cl_10 cl_11 zl ca_0 ca_1 ca_2 ca_3 za hfw_7
            rintro w8 ⟨hfw_8, hbl_8, hba_8⟩
            obtain ⟨cl_0, cl_1, cl_2, cl_3, cl_4, cl_5, cl_6, cl_7, cl_8, cl_9, cl_10, cl_11, zl⟩ := hbl_8.cs
            obtain ⟨ca_0, ca_1, ca_2, ca_3, za⟩ := hba_8.cs
            go_cut [6, 7] (fun s6 s7 wx => ∃ qo : Nat, s6 = .pointer (some ⟨qo, 0, none⟩) ∧ s7 = .int .i64 0 ∧ Fr noB w8 wx ∧ w8.heap.size ≤ qo ∧ Bl wx qo 0 0 0)
            case first => as_aux_lemma =>
              have hql := obj_drew hbl_8.raw
              have fz : ∀ (X : World) (o : Nat), (X.alloc (.cells #[.int .u8 0, .int .i64 0, .int .i64 0, .string ⟨#[]⟩] 23 (0, 0))).frozen? ⟨X.heap.size, o, none⟩ = false := fun X o => frozen_of_obj (obj_alloc_new X _) o
              have fc : ∀ X : World, (X.alloc (.cells #[.int .u8 0, .int .i64 0, .int .i64 0, .string ⟨#[]⟩] 23 (0, 0))).cell? ⟨X.heap.size, 0, none⟩ = some (.int .u8 0) ∧ (X.alloc (.cells #[.int .u8 0, .int .i64 0, .int .i64 0, .string ⟨#[]⟩] 23 (0, 0))).cell? ⟨X.heap.size, 1, none⟩ = some (.int .i64 0) ∧ (X.alloc (.cells #[.int .u8 0, .int .i64 0, .int .i64 0, .string ⟨#[]⟩] 23 (0, 0))).cell? ⟨X.heap.size, 2, none⟩ = some (.int .i64 0) ∧ (X.alloc (.cells #[.int .u8 0, .int .i64 0, .int .i64 0, .string ⟨#[]⟩] 23 (0, 0))).cell? ⟨X.heap.size, 3, none⟩ = some (.string ⟨#[]⟩) := fun X => v_cells (v := zV) (obj_alloc_new X _)
              have ll := hbl_8.lt
              have hdq : w8.drew.heap.size = w8.heap.size := rfl
              have hvl : ∀ X : World, X.heap[w2.heap.size]? = some (.cells #[.int .u8 2, .int .i64 0, .int .i64 0, .string ⟨#[]⟩, .int .u8 2, .int .i64 1, .int .i64 0, .string ⟨#[]⟩, .int .u8 0, .int .i64 0, .int .i64 0, .string ⟨#[]⟩] 23 (0, 0)) → X.cell? ⟨w2.heap.size, 8, none⟩ = some (.int .u8 0) ∧ X.cell? ⟨w2.heap.size, 9, none⟩ = some (.int .i64 0) ∧ X.cell? ⟨w2.heap.size, 10, none⟩ = some (.int .i64 0) ∧ X.cell? ⟨w2.heap.size, 11, none⟩ = some (.string ⟨#[]⟩) := fun X h => ⟨by rw [cell_of_obj h]; rfl, by rw [cell_of_obj h]; rfl, by rw [cell_of_obj h]; rfl, by rw [cell_of_obj h]; rfl⟩
              go_region_held3 (fun X : World => X.cell? ⟨w2.heap.size, 8, none⟩ = some (.int .u8 0) ∧ X.cell? ⟨w2.heap.size, 9, none⟩ = some (.int .i64 0) ∧ X.cell? ⟨w2.heap.size, 10, none⟩ = some (.int .i64 0) ∧ X.cell? ⟨w2.heap.size, 11, none⟩ = some (.string ⟨#[]⟩)) ((refine (hvl _ ?_) <;> repeat (first | with_reducible exact hql | with_reducible exact hbl_8.raw | with_reducible refine obj_alloc ?_ _ | (with_reducible refine obj_setCell_other ?_ _ _ ?_; rotate_left; (dsimp only; omega)) | with_reducible refine obj_drew ?_))) (first | (go_at_call 31; refine (HO.out _).mono ?_; rintro e x0 ⟨rfl, hG0⟩; have k0 := hG0.size; refine have_of (p := x0.heap[w2.heap.size]? = some (.cells #[.int .u8 2, .int .i64 0, .int .i64 0, .string ⟨#[]⟩, .int .u8 2, .int .i64 1, .int .i64 0, .string ⟨#[]⟩, .int .u8 0, .int .i64 0, .int .i64 0, .string ⟨#[]⟩] 23 (0, 0))) ?_ (fun hql => ?_); (focus (refine hG0.obj (noB_not _) ?_; repeat (first | with_reducible exact hql | with_reducible exact hbl_8.raw | with_reducible refine obj_alloc ?_ _ | with_reducible refine obj_drew ?_))); (first | (have hnn := hG0.obj (fun x => x) hnn) | (with_reducible have hnn := hG0.obj (noB_not _) (obj_alloc_new _ _)) | (with_reducible have hnn := hG0.obj (noB_not _) (obj_drew (obj_alloc_new _ _))) | skip); (first | (have znn := frozen_of_obj hnn; obtain ⟨n0, n1, n2, n3⟩ := v_cells (v := zV) hnn) | skip)))
              all_goals (go_wp2_with fail; go_meet)
              all_goals (have hfr0 := Fr.refl noB w8; refine ⟨_, rfl, rfl, ?_, ?_, ?_⟩)
              all_goals (first | ((repeat (first | with_reducible exact hfr0 | with_reducible refine Fr.transN ?_ hG0 | with_reducible refine Fr.alloc ?_ _ | (with_reducible refine Fr.setCell ?_ ?_ _; rotate_left; (intro h; dsimp only at h; omega)) | with_reducible refine Fr.drew ?_ | exact hfr0)); done) | ((try simp only [World.size_alloc] at k0); omega) | (((first | unfold Bx | unfold Bl | unfold B3 | unfold A3 | skip); repeat (first | with_reducible exact hnn | (with_reducible refine obj_alloc_at ?_; simp; done) | (with_reducible apply obj_put4; omega) | (with_reducible refine obj_setCell_other ?_ _ _ ?_; rotate_left; (dsimp only; omega)) | with_reducible refine obj_alloc ?_ _ | with_reducible refine obj_drew ?_)); done))
            case rest =>
              obtain ⟨qo, rfl, rfl, hf9, hgo, hbo_9⟩ := hcut
              obtain ⟨w9, rfl⟩ : ∃ x, x = wc := ⟨_, rfl⟩
              have o2 := Lib.hid (hba_8.lt)
              have o3 := Lib.hid hgo
              have hbl_9 := hbl_8.mv hf9
              have hba_9 := hba_8.mv hf9
              have hfw_9 := hfw_8.transN hf9
              clear hbl_8 hba_8 cl_0 cl_1 cl_2 cl_3 cl_4 cl_5 cl_6 cl_7 cl_8 cl_9 cl_10 cl_11 zl ca_0 ca_1 ca_2 ca_3 za hf9 hfw_8 hgo
              obtain ⟨cl_0, cl_1, cl_2, cl_3, cl_4, cl_5, cl_6, cl_7, cl_8, cl_9, cl_10, cl_11, zl⟩ := hbl_9.cs
              obtain ⟨ca_0, ca_1, ca_2, ca_3, za⟩ := hba_9.cs
              obtain ⟨co_0, co_1, co_2, co_3, zo⟩ := hbo_9.cs
              go_upto_region 11 with fail
              have o4 := Lib.hid (hbo_9.lt)
              have ll := hbl_9.lt
              have la := hba_9.lt
              have lo := hbo_9.lt
              have hl := hfw_9.size
              have po0 := o0.out
              have po1 := o1.out
              have po2 := o2.out
              have po3 := o3.out
              have po4 := o4.out
              refine wp_world (fun W => Fr noB wo2 W ∧ B3 W w2.heap.size ∧ Bl W qa 0 0 0 ∧ Bl W qo 0 0 0 ∧ A3 W w9.heap.size) ?_ ?_
              · refine ⟨?_, ?_, ?_, ?_, ?_⟩ <;> ((first | unfold Bx | unfold Bl | unfold B3 | unfold A3 | skip); repeat (first | with_reducible exact hfw_9 | with_reducible refine Fr.alloc ?_ _ | (with_reducible refine Fr.setCell ?_ ?_ _; rotate_left; (intro h; dsimp only at h; omega)) | with_reducible refine Fr.drew ?_ | with_reducible exact hbl_9.raw | with_reducible exact hba_9.raw | with_reducible exact hbo_9.raw | (with_reducible refine obj_alloc_at ?_; simp; done) | (with_reducible apply obj_put4; omega) | (with_reducible apply obj_put1; omega) | (with_reducible refine obj_setCell_other ?_ _ _ ?_; rotate_left; (dsimp only; omega)) | with_reducible refine obj_alloc ?_ _ | with_reducible refine obj_drew ?_ | exact hfw_9))
              clear hbl_9 hba_9 hbo_9 ll la lo hl po0 po1 po2 po3 po4 cl_0 cl_1 cl_2 cl_3 cl_4 cl_5 cl_6 cl_7 cl_8 cl_9 cl_10 cl_11 zl ca_0 ca_1 ca_2 ca_3 za co_0 co_1 co_2 co_3 zo hfw_9
              rintro w10 ⟨hfw_10, hbl_10, hba_10, hbo_10, hbr_10⟩
              obtain ⟨cl_0, cl_1, cl_2, cl_3, cl_4, cl_5, cl_6, cl_7, cl_8, cl_9, cl_10, cl_11, zl⟩ := hbl_10.cs
              obtain ⟨ca_0, ca_1, ca_2, ca_3, za⟩ := hba_10.cs
              obtain ⟨co_0, co_1, co_2, co_3, zo⟩ := hbo_10.cs
              obtain ⟨cr_0, cr_1, cr_2, zr⟩ := hbr_10.cs
              go_region
              go_upto_region 13 with fail
              have o5 := Lib.hid (hbr_10.lt)
              have ll := hbl_10.lt
              have la := hba_10.lt
              have lo := hbo_10.lt
              have lr := hbr_10.lt
              have hl := hfw_10.size
              have po0 := o0.out
              have po1 := o1.out
              have po2 := o2.out
              have po3 := o3.out
              have po4 := o4.out
              have po5 := o5.out
              refine wp_world (fun W => Fr noB wo2 W ∧ B3 W w2.heap.size ∧ Bl W qa 0 0 0 ∧ Bl W qo 0 0 0 ∧ A3 W w9.heap.size ∧ A3 W w10.heap.size) ?_ ?_
              · refine ⟨?_, ?_, ?_, ?_, ?_, ?_⟩ <;> ((first | unfold Bx | unfold Bl | unfold B3 | unfold A3 | skip); repeat (first | with_reducible exact hfw_10 | with_reducible refine Fr.alloc ?_ _ | (with_reducible refine Fr.setCell ?_ ?_ _; rotate_left; (intro h; dsimp only at h; omega)) | with_reducible refine Fr.drew ?_ | with_reducible exact hbl_10.raw | with_reducible exact hba_10.raw | with_reducible exact hbo_10.raw | with_reducible exact hbr_10.raw | (with_reducible refine obj_alloc_at ?_; simp; done) | (with_reducible apply obj_put4; omega) | (with_reducible apply obj_put1; omega) | (with_reducible refine obj_setCell_other ?_ _ _ ?_; rotate_left; (dsimp only; omega)) | with_reducible refine obj_alloc ?_ _ | with_reducible refine obj_drew ?_ | exact hfw_10))
              clear hbl_10 hba_10 hbo_10 hbr_10 ll la lo lr hl po0 po1 po2 po3 po4 po5 cl_0 cl_1 cl_2 cl_3 cl_4 cl_5 cl_6 cl_7 cl_8 cl_9 cl_10 cl_11 zl ca_0 ca_1 ca_2 ca_3 za co_0 co_1 co_2 co_3 zo cr_0 cr_1 cr_2 zr hfw_10
              rintro w11 ⟨hfw_11, hbl_11, hba_11, hbo_11, hbr_11, hbs_11⟩
              obtain ⟨cl_0, cl_1, cl_2, cl_3, cl_4, cl_5, cl_6, cl_7, cl_8, cl_9, cl_10, cl_11, zl⟩ := hbl_11.cs
              obtain ⟨ca_0, ca_1, ca_2, ca_3, za⟩ := hba_11.cs
              obtain ⟨co_0, co_1, co_2, co_3, zo⟩ := hbo_11.cs
              obtain ⟨cr_0, cr_1, cr_2, zr⟩ := hbr_11.cs
              obtain ⟨cs_0, cs_1, cs_2, zs⟩ := hbs_11.cs
              have NA : ∀ W : World, (binOp .neq 23 (.agg #[.int .u8 0, .int .i64 0, .int .i64 0, .string ⟨#[]⟩]) (.agg #[.int .u8 0, .int .i64 0, .int .i64 0, .string ⟨#[]⟩])).run Try.prog W = .ok (.bool false) W := neqv_lit zV zV false ((eqV_iff _ _).2 rfl)
              have xl0 := Ext.cell cl_0
              have xl1 := Ext.cell cl_1
              have xl2 := Ext.cell cl_2
              have xl3 := Ext.cell cl_3
              have xl4 := Ext.cell cl_4
              have xl5 := Ext.cell cl_5
              have xl6 := Ext.cell cl_6
              have xl7 := Ext.cell cl_7
              have xl8 := Ext.cell cl_8
              have xl9 := Ext.cell cl_9
              have xl10 := Ext.cell cl_10
              have xl11 := Ext.cell cl_11
              have xa0 := Ext.cell ca_0
              have xa1 := Ext.cell ca_1
              have xa2 := Ext.cell ca_2
              have xa3 := Ext.cell ca_3
              have xo0 := Ext.cell co_0
              have xo1 := Ext.cell co_1
              have xo2 := Ext.cell co_2
              have xo3 := Ext.cell co_3
              have xr0 := Ext.cell cr_0
              have xr1 := Ext.cell cr_1
              have xr2 := Ext.cell cr_2
              have xs0 := Ext.cell cs_0
              have xs1 := Ext.cell cs_1
              have xs2 := Ext.cell cs_2
              clear cl_0 cl_1 cl_2 cl_3 cl_4 cl_5 cl_6 cl_7 cl_8 cl_9 cl_10 cl_11 zl ca_0 ca_1 ca_2 ca_3 za co_0 co_1 co_2 co_3 zo cr_0 cr_1 cr_2 zr cs_0 cs_1 cs_2 zs
              refine wp_region_ext (by kernel_rfl) (by kernel_rfl) ?_
              go_big_quiet_step (fail)
              go_big_quiet_step (fail)
              go_big_quiet_step (fail)
              go_big_quiet_step (fail)
              go_big_quiet_step (fail)
              go_big_quiet_step (fail)
              go_big_quiet_step (fail)
              go_big_quiet_step (fail)
              go_big_quiet_step (fail)
              go_big_quiet_step (fail)
              go_big_quiet_step (fail)
              go_big_quiet_step (fail)
              go_big_quiet_step (fail)
              go_big_quiet_step (fail)
              go_big_quiet_step (fail)
              go_big_quiet_step (fail)
              go_big_quiet_step (fail)
              go_big_quiet_step (fail)
              go_big_quiet_step (fail)
              go_big_quiet_step (fail)
              go_big_quiet_step (fail)
              go_big_quiet_step (fail)
              go_big_quiet_step (fail)
              go_big_quiet_step (fail)
              go_big_quiet_step (fail)
              go_big_quiet_step (fail)
              refine wpQuiet_nil ?_
              rintro _ ⟨⟨w12, hf12⟩, rfl⟩
              have hfw_12 := hfw_11.transN hf12
              clear NA xl0 xl1 xl2 xl3 xl4 xl5 xl6 xl7 xl8 xl9 xl10 xl11 xa0 xa1 xa2 xa3 xo0 xo1 xo2 xo3 xr0 xr1 xr2 xs0 xs1 xs2 hbl_11 hba_11 hbo_11 hbr_11 hbs_11
              go_wp2_with fail
              go_roundg 0
              case measure => omega
              case rel => exact ⟨3, by omega, by omega, by go_num, hfw_12⟩
        · go_wp2_with fail
          go_roundg 0
          case measure => omega
          case rel => exact ⟨3, by omega, by omega, by go_num, hf0.transN hf⟩
    · clear hi
      have hbl_4 := hbl_3.mv hf
      have hfw_4 := hfw_3.transN hf
      clear hbl_3 cl_0 cl_1 cl_2 cl_3 cl_4 cl_5 cl_6 cl_7 cl_8 cl_9 cl_10 cl_11 zl hf hfw_3
      obtain ⟨cl_0, cl_1, cl_2, cl_3, cl_4, cl_5, cl_6, cl_7, cl_8, cl_9, cl_10, cl_11, zl⟩ := hbl_4.cs
      have HIn := Lib.hid (show ∀ W : World, Calls Try.prog 19 #[.int .i64 (-9223372036854775808)] W fun e w' => e = .returned (.agg #[.int .u8 1, .int .i64 (-9223372036854775808), .int .i64 0, .string ⟨#[]⟩]) ∧ Fr noB W w' from fun W => int_any _ W)
      have HIx := Lib.hid (show ∀ W : World, Calls Try.prog 19 #[.int .i64 9223372036854775807] W fun e w' => e = .returned (.agg #[.int .u8 1, .int .i64 9223372036854775807, .int .i64 0, .string ⟨#[]⟩]) ∧ Fr noB W w' from fun W => int_any _ W)
      have HI1 := Lib.hid (show ∀ W : World, Calls Try.prog 19 #[.int .i64 1] W fun e w' => e = .returned (.agg #[.int .u8 1, .int .i64 1, .int .i64 0, .string ⟨#[]⟩]) ∧ Fr noB W w' from fun W => int_any _ W)
      have HIm := Lib.hid (show ∀ W : World, Calls Try.prog 19 #[.int .i64 (-1)] W fun e w' => e = .returned (.agg #[.int .u8 1, .int .i64 (-1), .int .i64 0, .string ⟨#[]⟩]) ∧ Fr noB W w' from fun W => int_any _ W)
      have HIk := Lib.hid (show ∀ W : World, Calls Try.prog 19 #[.int .i64 (-9223372036854775807)] W fun e w' => e = .returned (.agg #[.int .u8 1, .int .i64 (-9223372036854775807), .int .i64 0, .string ⟨#[]⟩]) ∧ Fr noB W w' from fun W => int_any _ W)
      have HN1 := Lib.hid (show ∀ W : World, Calls Try.prog 24 #[.agg #[.int .u8 1, .int .i64 (-9223372036854775808), .int .i64 0, .string ⟨#[]⟩]] W fun e w' => e = .returned (.tuple #[.agg #[.int .u8 0, .int .i64 0, .int .i64 0, .string ⟨#[]⟩], .int .i64 61]) ∧ Fr noB W w' from fun W => by
        have h := neg_any (intV (-9223372036854775808)) (by decide) W
        rw [show negV (intV (-9223372036854775808)) = (rV (okI (0 - (-9223372036854775808))) (0 - (-9223372036854775808)), if okI (0 - (-9223372036854775808)) = true then 0 else 61) from numV_int 0 (-9223372036854775808) (0 - (-9223372036854775808))] at h
        exact h)
      have HN2 := Lib.hid (show ∀ W : World, Calls Try.prog 24 #[.agg #[.int .u8 1, .int .i64 9223372036854775807, .int .i64 0, .string ⟨#[]⟩]] W fun e w' => e = .returned (.tuple #[.agg #[.int .u8 1, .int .i64 (-9223372036854775807), .int .i64 0, .string ⟨#[]⟩], .int .i64 0]) ∧ Fr noB W w' from fun W => by
        have h := neg_any (intV 9223372036854775807) (by decide) W
        rw [show negV (intV 9223372036854775807) = (rV (okI (0 - 9223372036854775807)) (0 - 9223372036854775807), if okI (0 - 9223372036854775807) = true then 0 else 61) from numV_int 0 9223372036854775807 (0 - 9223372036854775807)] at h
        exact h)
      have HM1 := Lib.hid (show ∀ W : World, Calls Try.prog 23 #[.agg #[.int .u8 1, .int .i64 (-9223372036854775808), .int .i64 0, .string ⟨#[]⟩], .agg #[.int .u8 1, .int .i64 (-1), .int .i64 0, .string ⟨#[]⟩]] W fun e w' => e = .returned (.tuple #[.agg #[.int .u8 0, .int .i64 0, .int .i64 0, .string ⟨#[]⟩], .int .i64 61]) ∧ Fr noB W w' from fun W => by
        have h := mul_any (intV (-9223372036854775808)) (intV (-1)) (by decide) (by decide) W
        rw [show numV (intV (-9223372036854775808)) (intV (-1)) (wrap64 ((intV (-9223372036854775808)).n * (intV (-1)).n)) (okI ((intV (-9223372036854775808)).n * (intV (-1)).n)) = (rV (okI ((-9223372036854775808) * (-1))) ((-9223372036854775808) * (-1)), if okI ((-9223372036854775808) * (-1)) = true then 0 else 61) from numV_int (-9223372036854775808) (-1) ((-9223372036854775808) * (-1))] at h
        exact h)
      have HM2 := Lib.hid (show ∀ W : World, Calls Try.prog 23 #[.agg #[.int .u8 1, .int .i64 (-9223372036854775808), .int .i64 0, .string ⟨#[]⟩], .agg #[.int .u8 1, .int .i64 1, .int .i64 0, .string ⟨#[]⟩]] W fun e w' => e = .returned (.tuple #[.agg #[.int .u8 1, .int .i64 (-9223372036854775808), .int .i64 0, .string ⟨#[]⟩], .int .i64 0]) ∧ Fr noB W w' from fun W => by
        have h := mul_any (intV (-9223372036854775808)) (intV 1) (by decide) (by decide) W
        rw [show numV (intV (-9223372036854775808)) (intV 1) (wrap64 ((intV (-9223372036854775808)).n * (intV 1).n)) (okI ((intV (-9223372036854775808)).n * (intV 1).n)) = (rV (okI ((-9223372036854775808) * 1)) ((-9223372036854775808) * 1), if okI ((-9223372036854775808) * 1) = true then 0 else 61) from numV_int (-9223372036854775808) 1 ((-9223372036854775808) * 1)] at h
        exact h)
      have HS1 := Lib.hid (show ∀ W : World, Calls Try.prog 22 #[.agg #[.int .u8 1, .int .i64 (-9223372036854775808), .int .i64 0, .string ⟨#[]⟩], .agg #[.int .u8 1, .int .i64 1, .int .i64 0, .string ⟨#[]⟩]] W fun e w' => e = .returned (.tuple #[.agg #[.int .u8 0, .int .i64 0, .int .i64 0, .string ⟨#[]⟩], .int .i64 61]) ∧ Fr noB W w' from fun W => by
        have h := sub_any (intV (-9223372036854775808)) (intV 1) (by decide) (by decide) W
        rw [show numV (intV (-9223372036854775808)) (intV 1) (wrap64 ((intV (-9223372036854775808)).n - (intV 1).n)) (okI ((intV (-9223372036854775808)).n - (intV 1).n)) = (rV (okI ((-9223372036854775808) - 1)) ((-9223372036854775808) - 1), if okI ((-9223372036854775808) - 1) = true then 0 else 61) from numV_int (-9223372036854775808) 1 ((-9223372036854775808) - 1)] at h
        exact h)
      have HA1 := Lib.hid (show ∀ W : World, Calls Try.prog 21 #[.agg #[.int .u8 1, .int .i64 (-9223372036854775808), .int .i64 0, .string ⟨#[]⟩], .agg #[.int .u8 1, .int .i64 9223372036854775807, .int .i64 0, .string ⟨#[]⟩]] W fun e w' => e = .returned (.tuple #[.agg #[.int .u8 1, .int .i64 (-1), .int .i64 0, .string ⟨#[]⟩], .int .i64 0]) ∧ Fr noB W w' from fun W => by
        have h := add_any (intV (-9223372036854775808)) (intV 9223372036854775807) (by decide) (by decide) W
        rw [show numV (intV (-9223372036854775808)) (intV 9223372036854775807) (wrap64 ((intV (-9223372036854775808)).n + (intV 9223372036854775807).n)) (okI ((intV (-9223372036854775808)).n + (intV 9223372036854775807).n)) = (rV (okI ((-9223372036854775808) + 9223372036854775807)) ((-9223372036854775808) + 9223372036854775807), if okI ((-9223372036854775808) + 9223372036854775807) = true then 0 else 61) from numV_int (-9223372036854775808) 9223372036854775807 ((-9223372036854775808) + 9223372036854775807)] at h
        exact h)
      have HT1 := Lib.hid (show ∀ W : World, Calls Try.prog 27 #[.agg #[.int .u8 1, .int .i64 1, .int .i64 0, .string ⟨#[]⟩]] W fun e w' => e = .returned (.tuple #[.agg #[.int .u8 0, .int .i64 0, .int .i64 0, .string ⟨#[]⟩], .int .i64 60]) ∧ Fr noB W w' from fun W => not_any (intV 1) W)
      have HO1 := Lib.hid (show ∀ W : World, Calls Try.prog 25 #[.bool true] W fun e w' => e = .returned (.agg #[.int .u8 2, .int .i64 1, .int .i64 0, .string ⟨#[]⟩]) ∧ Fr noB W w' from fun W => of_any true W)
      have HA2 := Lib.hid (show ∀ W : World, Calls Try.prog 21 #[.agg #[.int .u8 2, .int .i64 1, .int .i64 0, .string ⟨#[]⟩], .agg #[.int .u8 1, .int .i64 1, .int .i64 0, .string ⟨#[]⟩]] W fun e w' => e = .returned (.tuple #[.agg #[.int .u8 0, .int .i64 0, .int .i64 0, .string ⟨#[]⟩], .int .i64 60]) ∧ Fr noB W w' from fun W => add_any yesV (intV 1) (by decide) (by decide) W)
      have HAw := Lib.hid (fun W : World => awake_any W)
      go_wp2_with fail
      refine (HIn.out _).mono ?_
      rintro e w5 ⟨rfl, hf5⟩
      have ll := hbl_4.lt
      have hl := hfw_4.size
      have hB : B3 w5 w2.heap.size := by
        ((first | unfold Bx | unfold Bl | unfold B3 | unfold A3 | skip); refine hf5.obj (noB_not _) ?_; repeat (first | with_reducible exact hbl_4.raw | (with_reducible refine obj_alloc_at ?_; simp; done) | (with_reducible apply obj_put4; omega) | (with_reducible apply obj_put1; omega) | (with_reducible refine obj_setCell_other ?_ _ _ ?_; rotate_left; (dsimp only; omega)) | with_reducible refine obj_alloc ?_ _ | with_reducible refine obj_drew ?_))
      have hbl_5 := hB
      have hfw_5 : Fr noB w w5 := by
        refine Fr.transN ?_ hf5
        repeat (first | with_reducible exact hfw_4 | with_reducible refine Fr.alloc ?_ _ | (with_reducible refine Fr.setCell ?_ ?_ _; rotate_left; (intro h; dsimp only at h; omega)) | with_reducible refine Fr.drew ?_ | exact hfw_4)
      clear hbl_4 ll hl cl_0 cl_1 cl_2 cl_3 cl_4 cl_5 cl_6 cl_7 cl_8 cl_9 cl_10 cl_11 zl hB hf5 hfw_4
      obtain ⟨cl_0, cl_1, cl_2, cl_3, cl_4, cl_5, cl_6, cl_7, cl_8, cl_9, cl_10, cl_11, zl⟩ := hbl_5.cs
      go_wp2_with fail
      refine (HIx.out _).mono ?_
      rintro e w6 ⟨rfl, hf6⟩
      have ll := hbl_5.lt
      have hl := hfw_5.size
      have hB : B3 w6 w2.heap.size := by
        ((first | unfold Bx | unfold Bl | unfold B3 | unfold A3 | skip); refine hf6.obj (noB_not _) ?_; repeat (first | with_reducible exact hbl_5.raw | (with_reducible refine obj_alloc_at ?_; simp; done) | (with_reducible apply obj_put4; omega) | (with_reducible apply obj_put1; omega) | (with_reducible refine obj_setCell_other ?_ _ _ ?_; rotate_left; (dsimp only; omega)) | with_reducible refine obj_alloc ?_ _ | with_reducible refine obj_drew ?_))
      have hbl_6 := hB
      have hfw_6 : Fr noB w w6 := by
        refine Fr.transN ?_ hf6
        repeat (first | with_reducible exact hfw_5 | with_reducible refine Fr.alloc ?_ _ | (with_reducible refine Fr.setCell ?_ ?_ _; rotate_left; (intro h; dsimp only at h; omega)) | with_reducible refine Fr.drew ?_ | exact hfw_5)
      clear hbl_5 ll hl cl_0 cl_1 cl_2 cl_3 cl_4 cl_5 cl_6 cl_7 cl_8 cl_9 cl_10 cl_11 zl hB hf6 hfw_5
      obtain ⟨cl_0, cl_1, cl_2, cl_3, cl_4, cl_5, cl_6, cl_7, cl_8, cl_9, cl_10, cl_11, zl⟩ := hbl_6.cs
      go_upto_region 16 with fail
      have o0 := Lib.hid (hbl_6.lt)
      have ll := hbl_6.lt
      have hl := hfw_6.size
      have po0 := o0.out
      refine wp_world (fun W => Fr noB w W ∧ Bl W w6.heap.size 1 ((-9223372036854775808)) 0 ∧ Bl W (w6.heap.size + 1) 1 9223372036854775807 0) ?_ ?_
      · refine ⟨?_, ?_, ?_⟩ <;> ((first | unfold Bx | unfold Bl | unfold B3 | unfold A3 | skip); repeat (first | with_reducible exact hfw_6 | with_reducible refine Fr.alloc ?_ _ | (with_reducible refine Fr.setCell ?_ ?_ _; rotate_left; (intro h; dsimp only at h; omega)) | with_reducible refine Fr.drew ?_ | with_reducible exact hbl_6.raw | (with_reducible refine obj_alloc_at ?_; simp; done) | (with_reducible apply obj_put4; omega) | (with_reducible apply obj_put1; omega) | (with_reducible refine obj_setCell_other ?_ _ _ ?_; rotate_left; (dsimp only; omega)) | with_reducible refine obj_alloc ?_ _ | with_reducible refine obj_drew ?_ | exact hfw_6))
      clear hbl_6 ll hl po0 cl_0 cl_1 cl_2 cl_3 cl_4 cl_5 cl_6 cl_7 cl_8 cl_9 cl_10 cl_11 zl hfw_6
      rintro w7 ⟨hfw_7, hblo_7, hbhi_7⟩
      obtain ⟨clo_0, clo_1, clo_2, clo_3, zlo⟩ := hblo_7.cs
      obtain ⟨chi_0, chi_1, chi_2, chi_3, zhi⟩ := hbhi_7.cs
      go_wp2_with fail
      refine (HN1.out _).mono ?_
      rintro e w8 ⟨rfl, hf8⟩
      have llo := hblo_7.lt
      have lhi := hbhi_7.lt
      have hl := hfw_7.size
      have po0 := o0.out
      have hB : Bl w8 w6.heap.size 1 ((-9223372036854775808)) 0 ∧ Bl w8 (w6.heap.size + 1) 1 9223372036854775807 0 := by
        refine ⟨?_, ?_⟩ <;> ((first | unfold Bx | unfold Bl | unfold B3 | unfold A3 | skip); refine hf8.obj (noB_not _) ?_; repeat (first | with_reducible exact hblo_7.raw | with_reducible exact hbhi_7.raw | (with_reducible refine obj_alloc_at ?_; simp; done) | (with_reducible apply obj_put4; omega) | (with_reducible apply obj_put1; omega) | (with_reducible refine obj_setCell_other ?_ _ _ ?_; rotate_left; (dsimp only; omega)) | with_reducible refine obj_alloc ?_ _ | with_reducible refine obj_drew ?_))
      obtain ⟨hblo_8, hbhi_8⟩ := hB
      have hfw_8 : Fr noB w w8 := by
        refine Fr.transN ?_ hf8
        repeat (first | with_reducible exact hfw_7 | with_reducible refine Fr.alloc ?_ _ | (with_reducible refine Fr.setCell ?_ ?_ _; rotate_left; (intro h; dsimp only at h; omega)) | with_reducible refine Fr.drew ?_ | exact hfw_7)
      clear hblo_7 hbhi_7 llo lhi hl po0 clo_0 clo_1 clo_2 clo_3 zlo chi_0 chi_1 chi_2 chi_3 zhi hf8 hfw_7
      obtain ⟨clo_0, clo_1, clo_2, clo_3, zlo⟩ := hblo_8.cs
      obtain ⟨chi_0, chi_1, chi_2, chi_3, zhi⟩ := hbhi_8.cs
      go_upto_region 17 with fail
      have o1 := Lib.hid (hbhi_8.lt)
      have llo := hblo_8.lt
      have lhi := hbhi_8.lt
      have hl := hfw_8.size
      have po0 := o0.out
      have po1 := o1.out
      refine wp_world (fun W => Fr noB w W ∧ Bl W w6.heap.size 1 ((-9223372036854775808)) 0 ∧ Bl W (w6.heap.size + 1) 1 9223372036854775807 0 ∧ Bl W w8.heap.size 0 0 0) ?_ ?_
      · refine ⟨?_, ?_, ?_, ?_⟩ <;> ((first | unfold Bx | unfold Bl | unfold B3 | unfold A3 | skip); repeat (first | with_reducible exact hfw_8 | with_reducible refine Fr.alloc ?_ _ | (with_reducible refine Fr.setCell ?_ ?_ _; rotate_left; (intro h; dsimp only at h; omega)) | with_reducible refine Fr.drew ?_ | with_reducible exact hblo_8.raw | with_reducible exact hbhi_8.raw | (with_reducible refine obj_alloc_at ?_; simp; done) | (with_reducible apply obj_put4; omega) | (with_reducible apply obj_put1; omega) | (with_reducible refine obj_setCell_other ?_ _ _ ?_; rotate_left; (dsimp only; omega)) | with_reducible refine obj_alloc ?_ _ | with_reducible refine obj_drew ?_ | exact hfw_8))
      clear hblo_8 hbhi_8 llo lhi hl po0 po1 clo_0 clo_1 clo_2 clo_3 zlo chi_0 chi_1 chi_2 chi_3 zhi hfw_8
      rintro w9 ⟨hfw_9, hblo_9, hbhi_9, hbp_9⟩
      obtain ⟨clo_0, clo_1, clo_2, clo_3, zlo⟩ := hblo_9.cs
      obtain ⟨chi_0, chi_1, chi_2, chi_3, zhi⟩ := hbhi_9.cs
      obtain ⟨cp_0, cp_1, cp_2, cp_3, zp⟩ := hbp_9.cs
      go_wp2_with fail
      refine (HN2.out _).mono ?_
      rintro e w10 ⟨rfl, hf10⟩
      have llo := hblo_9.lt
      have lhi := hbhi_9.lt
      have lp := hbp_9.lt
      have hl := hfw_9.size
      have po0 := o0.out
      have po1 := o1.out
      have hB : Bl w10 w6.heap.size 1 ((-9223372036854775808)) 0 ∧ Bl w10 (w6.heap.size + 1) 1 9223372036854775807 0 ∧ Bl w10 w8.heap.size 0 0 0 := by
        refine ⟨?_, ?_, ?_⟩ <;> ((first | unfold Bx | unfold Bl | unfold B3 | unfold A3 | skip); refine hf10.obj (noB_not _) ?_; repeat (first | with_reducible exact hblo_9.raw | with_reducible exact hbhi_9.raw | with_reducible exact hbp_9.raw | (with_reducible refine obj_alloc_at ?_; simp; done) | (with_reducible apply obj_put4; omega) | (with_reducible apply obj_put1; omega) | (with_reducible refine obj_setCell_other ?_ _ _ ?_; rotate_left; (dsimp only; omega)) | with_reducible refine obj_alloc ?_ _ | with_reducible refine obj_drew ?_))
      obtain ⟨hblo_10, hbhi_10, hbp_10⟩ := hB
      have hfw_10 : Fr noB w w10 := by
        refine Fr.transN ?_ hf10
        repeat (first | with_reducible exact hfw_9 | with_reducible refine Fr.alloc ?_ _ | (with_reducible refine Fr.setCell ?_ ?_ _; rotate_left; (intro h; dsimp only at h; omega)) | with_reducible refine Fr.drew ?_ | exact hfw_9)
      clear hblo_9 hbhi_9 hbp_9 llo lhi lp hl po0 po1 clo_0 clo_1 clo_2 clo_3 zlo chi_0 chi_1 chi_2 chi_3 zhi cp_0 cp_1 cp_2 cp_3 zp hf10 hfw_9
      obtain ⟨clo_0, clo_1, clo_2, clo_3, zlo⟩ := hblo_10.cs
      obtain ⟨chi_0, chi_1, chi_2, chi_3, zhi⟩ := hbhi_10.cs
      obtain ⟨cp_0, cp_1, cp_2, cp_3, zp⟩ := hbp_10.cs
      go_upto_region 18 with fail
      have o2 := Lib.hid (hbp_10.lt)
      have llo := hblo_10.lt
      have lhi := hbhi_10.lt
      have lp := hbp_10.lt
      have hl := hfw_10.size
      have po0 := o0.out
      have po1 := o1.out
      have po2 := o2.out
      refine wp_world (fun W => Fr noB w W ∧ Bl W w6.heap.size 1 ((-9223372036854775808)) 0 ∧ Bl W (w6.heap.size + 1) 1 9223372036854775807 0 ∧ Bl W w10.heap.size 1 ((-9223372036854775807)) 0) ?_ ?_
      · refine ⟨?_, ?_, ?_, ?_⟩ <;> ((first | unfold Bx | unfold Bl | unfold B3 | unfold A3 | skip); repeat (first | with_reducible exact hfw_10 | with_reducible refine Fr.alloc ?_ _ | (with_reducible refine Fr.setCell ?_ ?_ _; rotate_left; (intro h; dsimp only at h; omega)) | with_reducible refine Fr.drew ?_ | with_reducible exact hblo_10.raw | with_reducible exact hbhi_10.raw | with_reducible exact hbp_10.raw | (with_reducible refine obj_alloc_at ?_; simp; done) | (with_reducible apply obj_put4; omega) | (with_reducible apply obj_put1; omega) | (with_reducible refine obj_setCell_other ?_ _ _ ?_; rotate_left; (dsimp only; omega)) | with_reducible refine obj_alloc ?_ _ | with_reducible refine obj_drew ?_ | exact hfw_10))
      clear hblo_10 hbhi_10 hbp_10 llo lhi lp hl po0 po1 po2 clo_0 clo_1 clo_2 clo_3 zlo chi_0 chi_1 chi_2 chi_3 zhi cp_0 cp_1 cp_2 cp_3 zp hfw_10
      rintro w11 ⟨hfw_11, hblo_11, hbhi_11, hbb_11⟩
      obtain ⟨clo_0, clo_1, clo_2, clo_3, zlo⟩ := hblo_11.cs
      obtain ⟨chi_0, chi_1, chi_2, chi_3, zhi⟩ := hbhi_11.cs
      obtain ⟨cb_0, cb_1, cb_2, cb_3, zb⟩ := hbb_11.cs
      go_cut [18, 19] (fun s18 s19 wx => ∃ qq : Nat, s18 = .pointer (some ⟨qq, 0, none⟩) ∧ s19 = .int .i64 61 ∧ Fr noB w11 wx ∧ w11.heap.size ≤ qq ∧ Bl wx qq 0 0 0)
      case first => as_aux_lemma =>
        have hqlo := obj_drew hblo_11.raw
        have fz : ∀ (X : World) (o : Nat), (X.alloc (.cells #[.int .u8 0, .int .i64 0, .int .i64 0, .string ⟨#[]⟩] 23 (0, 0))).frozen? ⟨X.heap.size, o, none⟩ = false := fun X o => frozen_of_obj (obj_alloc_new X _) o
        have fc : ∀ X : World, (X.alloc (.cells #[.int .u8 0, .int .i64 0, .int .i64 0, .string ⟨#[]⟩] 23 (0, 0))).cell? ⟨X.heap.size, 0, none⟩ = some (.int .u8 0) ∧ (X.alloc (.cells #[.int .u8 0, .int .i64 0, .int .i64 0, .string ⟨#[]⟩] 23 (0, 0))).cell? ⟨X.heap.size, 1, none⟩ = some (.int .i64 0) ∧ (X.alloc (.cells #[.int .u8 0, .int .i64 0, .int .i64 0, .string ⟨#[]⟩] 23 (0, 0))).cell? ⟨X.heap.size, 2, none⟩ = some (.int .i64 0) ∧ (X.alloc (.cells #[.int .u8 0, .int .i64 0, .int .i64 0, .string ⟨#[]⟩] 23 (0, 0))).cell? ⟨X.heap.size, 3, none⟩ = some (.string ⟨#[]⟩) := fun X => v_cells (v := zV) (obj_alloc_new X _)
        have llo := hblo_11.lt
        have hdq : w11.drew.heap.size = w11.heap.size := rfl
        have hvlo : ∀ X : World, X.heap[w6.heap.size]? = some (.cells #[.int .u8 1, .int .i64 (-9223372036854775808), .int .i64 0, .string ⟨#[]⟩] 23 (0, 0)) → X.cell? ⟨w6.heap.size, 0, none⟩ = some (.int .u8 1) ∧ X.cell? ⟨w6.heap.size, 1, none⟩ = some (.int .i64 (-9223372036854775808)) ∧ X.cell? ⟨w6.heap.size, 2, none⟩ = some (.int .i64 0) ∧ X.cell? ⟨w6.heap.size, 3, none⟩ = some (.string ⟨#[]⟩) := fun X h => v_cells (v := intV (-9223372036854775808)) h
        go_region_held3 (fun X : World => X.cell? ⟨w6.heap.size, 0, none⟩ = some (.int .u8 1) ∧ X.cell? ⟨w6.heap.size, 1, none⟩ = some (.int .i64 (-9223372036854775808)) ∧ X.cell? ⟨w6.heap.size, 2, none⟩ = some (.int .i64 0) ∧ X.cell? ⟨w6.heap.size, 3, none⟩ = some (.string ⟨#[]⟩)) ((refine (hvlo _ ?_) <;> repeat (first | with_reducible exact hqlo | with_reducible exact hblo_11.raw | with_reducible refine obj_alloc ?_ _ | (with_reducible refine obj_setCell_other ?_ _ _ ?_; rotate_left; (dsimp only; omega)) | with_reducible refine obj_drew ?_))) (first | (go_at_call 19; refine (HIm.out _).mono ?_; rintro e x0 ⟨rfl, hG0⟩; have k0 := hG0.size; refine have_of (p := x0.heap[w6.heap.size]? = some (.cells #[.int .u8 1, .int .i64 (-9223372036854775808), .int .i64 0, .string ⟨#[]⟩] 23 (0, 0))) ?_ (fun hqlo => ?_); (focus (refine hG0.obj (noB_not _) ?_; repeat (first | with_reducible exact hqlo | with_reducible exact hblo_11.raw | with_reducible refine obj_alloc ?_ _ | with_reducible refine obj_drew ?_))); (first | (have hnn := hG0.obj (fun x => x) hnn) | (with_reducible have hnn := hG0.obj (noB_not _) (obj_alloc_new _ _)) | (with_reducible have hnn := hG0.obj (noB_not _) (obj_drew (obj_alloc_new _ _))) | skip); (first | (have znn := frozen_of_obj hnn; obtain ⟨n0, n1, n2, n3⟩ := v_cells (v := zV) hnn) | skip)) | (go_at_call 23; refine (HM1.out _).mono ?_; rintro e x1 ⟨rfl, hG1⟩; have k1 := hG1.size; refine have_of (p := x1.heap[w6.heap.size]? = some (.cells #[.int .u8 1, .int .i64 (-9223372036854775808), .int .i64 0, .string ⟨#[]⟩] 23 (0, 0))) ?_ (fun hqlo => ?_); (focus (refine hG1.obj (noB_not _) ?_; repeat (first | with_reducible exact hqlo | with_reducible exact hblo_11.raw | with_reducible refine obj_alloc ?_ _ | with_reducible refine obj_drew ?_))); (first | (have hnn := hG1.obj (fun x => x) hnn) | (with_reducible have hnn := hG1.obj (noB_not _) (obj_alloc_new _ _)) | (with_reducible have hnn := hG1.obj (noB_not _) (obj_drew (obj_alloc_new _ _))) | skip); (first | (have znn := frozen_of_obj hnn; obtain ⟨n0, n1, n2, n3⟩ := v_cells (v := zV) hnn) | skip)))
        all_goals (go_wp2_with fail; go_meet)
        all_goals (have hfr0 := Fr.refl noB w11; refine ⟨_, rfl, rfl, ?_, ?_, ?_⟩)
        all_goals (first | ((repeat (first | with_reducible exact hfr0 | with_reducible refine Fr.transN ?_ hG1 | with_reducible refine Fr.transN ?_ hG0 | with_reducible refine Fr.alloc ?_ _ | (with_reducible refine Fr.setCell ?_ ?_ _; rotate_left; (intro h; dsimp only at h; omega)) | with_reducible refine Fr.drew ?_ | exact hfr0)); done) | ((try simp only [World.size_alloc] at k0); (try simp only [World.size_alloc] at k1); omega) | (((first | unfold Bx | unfold Bl | unfold B3 | unfold A3 | skip); repeat (first | with_reducible exact hnn | (with_reducible refine obj_alloc_at ?_; simp; done) | (with_reducible apply obj_put4; omega) | (with_reducible refine obj_setCell_other ?_ _ _ ?_; rotate_left; (dsimp only; omega)) | with_reducible refine obj_alloc ?_ _ | with_reducible refine obj_drew ?_)); done))
      case rest =>
        obtain ⟨qq, rfl, rfl, hf12, hgq, hbq_12⟩ := hcut
        obtain ⟨w12, rfl⟩ : ∃ x, x = wc := ⟨_, rfl⟩
        have o3 := Lib.hid (hbb_11.lt)
        have o4 := Lib.hid hgq
        have hblo_12 := hblo_11.mv hf12
        have hbhi_12 := hbhi_11.mv hf12
        have hbb_12 := hbb_11.mv hf12
        have hfw_12 := hfw_11.transN hf12
        clear hblo_11 hbhi_11 hbb_11 clo_0 clo_1 clo_2 clo_3 zlo chi_0 chi_1 chi_2 chi_3 zhi cb_0 cb_1 cb_2 cb_3 zb hf12 hfw_11 hgq
        obtain ⟨clo_0, clo_1, clo_2, clo_3, zlo⟩ := hblo_12.cs
        obtain ⟨chi_0, chi_1, chi_2, chi_3, zhi⟩ := hbhi_12.cs
        obtain ⟨cb_0, cb_1, cb_2, cb_3, zb⟩ := hbb_12.cs
        obtain ⟨cq_0, cq_1, cq_2, cq_3, zq⟩ := hbq_12.cs
        go_upto_region 19 with fail
        have llo := hblo_12.lt
        have lhi := hbhi_12.lt
        have lb := hbb_12.lt
        have lq := hbq_12.lt
        have hl := hfw_12.size
        have po0 := o0.out
        have po1 := o1.out
        have po2 := o2.out
        have po3 := o3.out
        have po4 := o4.out
        refine wp_world (fun W => Fr noB w W ∧ Bl W w6.heap.size 1 ((-9223372036854775808)) 0 ∧ Bl W (w6.heap.size + 1) 1 9223372036854775807 0 ∧ Bl W w10.heap.size 1 ((-9223372036854775807)) 0) ?_ ?_
        · refine ⟨?_, ?_, ?_, ?_⟩ <;> ((first | unfold Bx | unfold Bl | unfold B3 | unfold A3 | skip); repeat (first | with_reducible exact hfw_12 | with_reducible refine Fr.alloc ?_ _ | (with_reducible refine Fr.setCell ?_ ?_ _; rotate_left; (intro h; dsimp only at h; omega)) | with_reducible refine Fr.drew ?_ | with_reducible exact hblo_12.raw | with_reducible exact hbhi_12.raw | with_reducible exact hbb_12.raw | with_reducible exact hbq_12.raw | (with_reducible refine obj_alloc_at ?_; simp; done) | (with_reducible apply obj_put4; omega) | (with_reducible apply obj_put1; omega) | (with_reducible refine obj_setCell_other ?_ _ _ ?_; rotate_left; (dsimp only; omega)) | with_reducible refine obj_alloc ?_ _ | with_reducible refine obj_drew ?_ | exact hfw_12))
        clear hblo_12 hbhi_12 hbb_12 hbq_12 llo lhi lb lq hl po0 po1 po2 po3 po4 clo_0 clo_1 clo_2 clo_3 zlo chi_0 chi_1 chi_2 chi_3 zhi cb_0 cb_1 cb_2 cb_3 zb cq_0 cq_1 cq_2 cq_3 zq hfw_12
        rintro w13 ⟨hfw_13, hblo_13, hbhi_13, hbb_13⟩
        obtain ⟨clo_0, clo_1, clo_2, clo_3, zlo⟩ := hblo_13.cs
        obtain ⟨chi_0, chi_1, chi_2, chi_3, zhi⟩ := hbhi_13.cs
        obtain ⟨cb_0, cb_1, cb_2, cb_3, zb⟩ := hbb_13.cs
        go_cut [20, 21] (fun s20 s21 wx => ∃ qe : Nat, s20 = .pointer (some ⟨qe, 0, none⟩) ∧ s21 = .int .i64 0 ∧ Fr noB w13 wx ∧ w13.heap.size ≤ qe ∧ Bl wx qe 1 ((-9223372036854775808)) 0)
        case first => as_aux_lemma =>
          have hqlo := obj_drew hblo_13.raw
          have fz : ∀ (X : World) (o : Nat), (X.alloc (.cells #[.int .u8 0, .int .i64 0, .int .i64 0, .string ⟨#[]⟩] 23 (0, 0))).frozen? ⟨X.heap.size, o, none⟩ = false := fun X o => frozen_of_obj (obj_alloc_new X _) o
          have fc : ∀ X : World, (X.alloc (.cells #[.int .u8 0, .int .i64 0, .int .i64 0, .string ⟨#[]⟩] 23 (0, 0))).cell? ⟨X.heap.size, 0, none⟩ = some (.int .u8 0) ∧ (X.alloc (.cells #[.int .u8 0, .int .i64 0, .int .i64 0, .string ⟨#[]⟩] 23 (0, 0))).cell? ⟨X.heap.size, 1, none⟩ = some (.int .i64 0) ∧ (X.alloc (.cells #[.int .u8 0, .int .i64 0, .int .i64 0, .string ⟨#[]⟩] 23 (0, 0))).cell? ⟨X.heap.size, 2, none⟩ = some (.int .i64 0) ∧ (X.alloc (.cells #[.int .u8 0, .int .i64 0, .int .i64 0, .string ⟨#[]⟩] 23 (0, 0))).cell? ⟨X.heap.size, 3, none⟩ = some (.string ⟨#[]⟩) := fun X => v_cells (v := zV) (obj_alloc_new X _)
          have llo := hblo_13.lt
          have hdq : w13.drew.heap.size = w13.heap.size := rfl
          have hvlo : ∀ X : World, X.heap[w6.heap.size]? = some (.cells #[.int .u8 1, .int .i64 (-9223372036854775808), .int .i64 0, .string ⟨#[]⟩] 23 (0, 0)) → X.cell? ⟨w6.heap.size, 0, none⟩ = some (.int .u8 1) ∧ X.cell? ⟨w6.heap.size, 1, none⟩ = some (.int .i64 (-9223372036854775808)) ∧ X.cell? ⟨w6.heap.size, 2, none⟩ = some (.int .i64 0) ∧ X.cell? ⟨w6.heap.size, 3, none⟩ = some (.string ⟨#[]⟩) := fun X h => v_cells (v := intV (-9223372036854775808)) h
          go_region_held3 (fun X : World => X.cell? ⟨w6.heap.size, 0, none⟩ = some (.int .u8 1) ∧ X.cell? ⟨w6.heap.size, 1, none⟩ = some (.int .i64 (-9223372036854775808)) ∧ X.cell? ⟨w6.heap.size, 2, none⟩ = some (.int .i64 0) ∧ X.cell? ⟨w6.heap.size, 3, none⟩ = some (.string ⟨#[]⟩)) ((refine (hvlo _ ?_) <;> repeat (first | with_reducible exact hqlo | with_reducible exact hblo_13.raw | with_reducible refine obj_alloc ?_ _ | (with_reducible refine obj_setCell_other ?_ _ _ ?_; rotate_left; (dsimp only; omega)) | with_reducible refine obj_drew ?_))) (first | (go_at_call 19; refine (HI1.out _).mono ?_; rintro e x0 ⟨rfl, hG0⟩; have k0 := hG0.size; refine have_of (p := x0.heap[w6.heap.size]? = some (.cells #[.int .u8 1, .int .i64 (-9223372036854775808), .int .i64 0, .string ⟨#[]⟩] 23 (0, 0))) ?_ (fun hqlo => ?_); (focus (refine hG0.obj (noB_not _) ?_; repeat (first | with_reducible exact hqlo | with_reducible exact hblo_13.raw | with_reducible refine obj_alloc ?_ _ | with_reducible refine obj_drew ?_))); (first | (have hnn := hG0.obj (fun x => x) hnn) | (with_reducible have hnn := hG0.obj (noB_not _) (obj_alloc_new _ _)) | (with_reducible have hnn := hG0.obj (noB_not _) (obj_drew (obj_alloc_new _ _))) | skip); (first | (have znn := frozen_of_obj hnn; obtain ⟨n0, n1, n2, n3⟩ := v_cells (v := zV) hnn) | skip)) | (go_at_call 23; refine (HM2.out _).mono ?_; rintro e x1 ⟨rfl, hG1⟩; have k1 := hG1.size; refine have_of (p := x1.heap[w6.heap.size]? = some (.cells #[.int .u8 1, .int .i64 (-9223372036854775808), .int .i64 0, .string ⟨#[]⟩] 23 (0, 0))) ?_ (fun hqlo => ?_); (focus (refine hG1.obj (noB_not _) ?_; repeat (first | with_reducible exact hqlo | with_reducible exact hblo_13.raw | with_reducible refine obj_alloc ?_ _ | with_reducible refine obj_drew ?_))); (first | (have hnn := hG1.obj (fun x => x) hnn) | (with_reducible have hnn := hG1.obj (noB_not _) (obj_alloc_new _ _)) | (with_reducible have hnn := hG1.obj (noB_not _) (obj_drew (obj_alloc_new _ _))) | skip); (first | (have znn := frozen_of_obj hnn; obtain ⟨n0, n1, n2, n3⟩ := v_cells (v := zV) hnn) | skip)))
          all_goals (go_wp2_with fail; go_meet)
          all_goals (have hfr0 := Fr.refl noB w13; refine ⟨_, rfl, rfl, ?_, ?_, ?_⟩)
          all_goals (first | ((repeat (first | with_reducible exact hfr0 | with_reducible refine Fr.transN ?_ hG1 | with_reducible refine Fr.transN ?_ hG0 | with_reducible refine Fr.alloc ?_ _ | (with_reducible refine Fr.setCell ?_ ?_ _; rotate_left; (intro h; dsimp only at h; omega)) | with_reducible refine Fr.drew ?_ | exact hfr0)); done) | ((try simp only [World.size_alloc] at k0); (try simp only [World.size_alloc] at k1); omega) | (((first | unfold Bx | unfold Bl | unfold B3 | unfold A3 | skip); repeat (first | with_reducible exact hnn | (with_reducible refine obj_alloc_at ?_; simp; done) | (with_reducible apply obj_put4; omega) | (with_reducible refine obj_setCell_other ?_ _ _ ?_; rotate_left; (dsimp only; omega)) | with_reducible refine obj_alloc ?_ _ | with_reducible refine obj_drew ?_)); done))
        case rest =>
          obtain ⟨qe, rfl, rfl, hf14, hge, hbe_14⟩ := hcut
          obtain ⟨w14, rfl⟩ : ∃ x, x = wc := ⟨_, rfl⟩
          have o5 := Lib.hid (hbb_13.lt)
          have o6 := Lib.hid hge
          have hblo_14 := hblo_13.mv hf14
          have hbhi_14 := hbhi_13.mv hf14
          have hbb_14 := hbb_13.mv hf14
          have hfw_14 := hfw_13.transN hf14
          clear hblo_13 hbhi_13 hbb_13 clo_0 clo_1 clo_2 clo_3 zlo chi_0 chi_1 chi_2 chi_3 zhi cb_0 cb_1 cb_2 cb_3 zb hf14 hfw_13 hge
          obtain ⟨clo_0, clo_1, clo_2, clo_3, zlo⟩ := hblo_14.cs
          obtain ⟨chi_0, chi_1, chi_2, chi_3, zhi⟩ := hbhi_14.cs
          obtain ⟨cb_0, cb_1, cb_2, cb_3, zb⟩ := hbb_14.cs
          obtain ⟨ce_0, ce_1, ce_2, ce_3, ze⟩ := hbe_14.cs
          go_upto_region 20 with fail
          have llo := hblo_14.lt
          have lhi := hbhi_14.lt
          have lb := hbb_14.lt
          have le := hbe_14.lt
          have hl := hfw_14.size
          have po0 := o0.out
          have po1 := o1.out
          have po2 := o2.out
          have po3 := o3.out
          have po4 := o4.out
          have po5 := o5.out
          have po6 := o6.out
          refine wp_world (fun W => Fr noB w W ∧ Bl W w6.heap.size 1 ((-9223372036854775808)) 0 ∧ Bl W (w6.heap.size + 1) 1 9223372036854775807 0 ∧ Bl W w10.heap.size 1 ((-9223372036854775807)) 0 ∧ Bl W qe 1 ((-9223372036854775808)) 0) ?_ ?_
          · refine ⟨?_, ?_, ?_, ?_, ?_⟩ <;> ((first | unfold Bx | unfold Bl | unfold B3 | unfold A3 | skip); repeat (first | with_reducible exact hfw_14 | with_reducible refine Fr.alloc ?_ _ | (with_reducible refine Fr.setCell ?_ ?_ _; rotate_left; (intro h; dsimp only at h; omega)) | with_reducible refine Fr.drew ?_ | with_reducible exact hblo_14.raw | with_reducible exact hbhi_14.raw | with_reducible exact hbb_14.raw | with_reducible exact hbe_14.raw | (with_reducible refine obj_alloc_at ?_; simp; done) | (with_reducible apply obj_put4; omega) | (with_reducible apply obj_put1; omega) | (with_reducible refine obj_setCell_other ?_ _ _ ?_; rotate_left; (dsimp only; omega)) | with_reducible refine obj_alloc ?_ _ | with_reducible refine obj_drew ?_ | exact hfw_14))
          clear hblo_14 hbhi_14 hbb_14 hbe_14 llo lhi lb le hl po0 po1 po2 po3 po4 po5 po6 clo_0 clo_1 clo_2 clo_3 zlo chi_0 chi_1 chi_2 chi_3 zhi cb_0 cb_1 cb_2 cb_3 zb ce_0 ce_1 ce_2 ce_3 ze hfw_14
          rintro w15 ⟨hfw_15, hblo_15, hbhi_15, hbb_15, hbe_15⟩
          obtain ⟨clo_0, clo_1, clo_2, clo_3, zlo⟩ := hblo_15.cs
          obtain ⟨chi_0, chi_1, chi_2, chi_3, zhi⟩ := hbhi_15.cs
          obtain ⟨cb_0, cb_1, cb_2, cb_3, zb⟩ := hbb_15.cs
          obtain ⟨ce_0, ce_1, ce_2, ce_3, ze⟩ := hbe_15.cs
          go_cut [22, 23] (fun s22 s23 wx => ∃ qs : Nat, s22 = .pointer (some ⟨qs, 0, none⟩) ∧ s23 = .int .i64 61 ∧ Fr noB w15 wx ∧ w15.heap.size ≤ qs ∧ Bl wx qs 0 0 0)
          case first => as_aux_lemma =>
            have hqlo := obj_drew hblo_15.raw
            have fz : ∀ (X : World) (o : Nat), (X.alloc (.cells #[.int .u8 0, .int .i64 0, .int .i64 0, .string ⟨#[]⟩] 23 (0, 0))).frozen? ⟨X.heap.size, o, none⟩ = false := fun X o => frozen_of_obj (obj_alloc_new X _) o
            have fc : ∀ X : World, (X.alloc (.cells #[.int .u8 0, .int .i64 0, .int .i64 0, .string ⟨#[]⟩] 23 (0, 0))).cell? ⟨X.heap.size, 0, none⟩ = some (.int .u8 0) ∧ (X.alloc (.cells #[.int .u8 0, .int .i64 0, .int .i64 0, .string ⟨#[]⟩] 23 (0, 0))).cell? ⟨X.heap.size, 1, none⟩ = some (.int .i64 0) ∧ (X.alloc (.cells #[.int .u8 0, .int .i64 0, .int .i64 0, .string ⟨#[]⟩] 23 (0, 0))).cell? ⟨X.heap.size, 2, none⟩ = some (.int .i64 0) ∧ (X.alloc (.cells #[.int .u8 0, .int .i64 0, .int .i64 0, .string ⟨#[]⟩] 23 (0, 0))).cell? ⟨X.heap.size, 3, none⟩ = some (.string ⟨#[]⟩) := fun X => v_cells (v := zV) (obj_alloc_new X _)
            have llo := hblo_15.lt
            have hdq : w15.drew.heap.size = w15.heap.size := rfl
            have hvlo : ∀ X : World, X.heap[w6.heap.size]? = some (.cells #[.int .u8 1, .int .i64 (-9223372036854775808), .int .i64 0, .string ⟨#[]⟩] 23 (0, 0)) → X.cell? ⟨w6.heap.size, 0, none⟩ = some (.int .u8 1) ∧ X.cell? ⟨w6.heap.size, 1, none⟩ = some (.int .i64 (-9223372036854775808)) ∧ X.cell? ⟨w6.heap.size, 2, none⟩ = some (.int .i64 0) ∧ X.cell? ⟨w6.heap.size, 3, none⟩ = some (.string ⟨#[]⟩) := fun X h => v_cells (v := intV (-9223372036854775808)) h
            go_region_held3 (fun X : World => X.cell? ⟨w6.heap.size, 0, none⟩ = some (.int .u8 1) ∧ X.cell? ⟨w6.heap.size, 1, none⟩ = some (.int .i64 (-9223372036854775808)) ∧ X.cell? ⟨w6.heap.size, 2, none⟩ = some (.int .i64 0) ∧ X.cell? ⟨w6.heap.size, 3, none⟩ = some (.string ⟨#[]⟩)) ((refine (hvlo _ ?_) <;> repeat (first | with_reducible exact hqlo | with_reducible exact hblo_15.raw | with_reducible refine obj_alloc ?_ _ | (with_reducible refine obj_setCell_other ?_ _ _ ?_; rotate_left; (dsimp only; omega)) | with_reducible refine obj_drew ?_))) (first | (go_at_call 19; refine (HI1.out _).mono ?_; rintro e x0 ⟨rfl, hG0⟩; have k0 := hG0.size; refine have_of (p := x0.heap[w6.heap.size]? = some (.cells #[.int .u8 1, .int .i64 (-9223372036854775808), .int .i64 0, .string ⟨#[]⟩] 23 (0, 0))) ?_ (fun hqlo => ?_); (focus (refine hG0.obj (noB_not _) ?_; repeat (first | with_reducible exact hqlo | with_reducible exact hblo_15.raw | with_reducible refine obj_alloc ?_ _ | with_reducible refine obj_drew ?_))); (first | (have hnn := hG0.obj (fun x => x) hnn) | (with_reducible have hnn := hG0.obj (noB_not _) (obj_alloc_new _ _)) | (with_reducible have hnn := hG0.obj (noB_not _) (obj_drew (obj_alloc_new _ _))) | skip); (first | (have znn := frozen_of_obj hnn; obtain ⟨n0, n1, n2, n3⟩ := v_cells (v := zV) hnn) | skip)) | (go_at_call 22; refine (HS1.out _).mono ?_; rintro e x1 ⟨rfl, hG1⟩; have k1 := hG1.size; refine have_of (p := x1.heap[w6.heap.size]? = some (.cells #[.int .u8 1, .int .i64 (-9223372036854775808), .int .i64 0, .string ⟨#[]⟩] 23 (0, 0))) ?_ (fun hqlo => ?_); (focus (refine hG1.obj (noB_not _) ?_; repeat (first | with_reducible exact hqlo | with_reducible exact hblo_15.raw | with_reducible refine obj_alloc ?_ _ | with_reducible refine obj_drew ?_))); (first | (have hnn := hG1.obj (fun x => x) hnn) | (with_reducible have hnn := hG1.obj (noB_not _) (obj_alloc_new _ _)) | (with_reducible have hnn := hG1.obj (noB_not _) (obj_drew (obj_alloc_new _ _))) | skip); (first | (have znn := frozen_of_obj hnn; obtain ⟨n0, n1, n2, n3⟩ := v_cells (v := zV) hnn) | skip)))
            all_goals (go_wp2_with fail; go_meet)
            all_goals (have hfr0 := Fr.refl noB w15; refine ⟨_, rfl, rfl, ?_, ?_, ?_⟩)
            all_goals (first | ((repeat (first | with_reducible exact hfr0 | with_reducible refine Fr.transN ?_ hG1 | with_reducible refine Fr.transN ?_ hG0 | with_reducible refine Fr.alloc ?_ _ | (with_reducible refine Fr.setCell ?_ ?_ _; rotate_left; (intro h; dsimp only at h; omega)) | with_reducible refine Fr.drew ?_ | exact hfr0)); done) | ((try simp only [World.size_alloc] at k0); (try simp only [World.size_alloc] at k1); omega) | (((first | unfold Bx | unfold Bl | unfold B3 | unfold A3 | skip); repeat (first | with_reducible exact hnn | (with_reducible refine obj_alloc_at ?_; simp; done) | (with_reducible apply obj_put4; omega) | (with_reducible refine obj_setCell_other ?_ _ _ ?_; rotate_left; (dsimp only; omega)) | with_reducible refine obj_alloc ?_ _ | with_reducible refine obj_drew ?_)); done))
          case rest =>
            obtain ⟨qs, rfl, rfl, hf16, hgs, hbs_16⟩ := hcut
            obtain ⟨w16, rfl⟩ : ∃ x, x = wc := ⟨_, rfl⟩
            have o7 := Lib.hid (hbe_15.lt)
            have o8 := Lib.hid hgs
            have hblo_16 := hblo_15.mv hf16
            have hbhi_16 := hbhi_15.mv hf16
            have hbb_16 := hbb_15.mv hf16
            have hbe_16 := hbe_15.mv hf16
            have hfw_16 := hfw_15.transN hf16
            clear hblo_15 hbhi_15 hbb_15 hbe_15 clo_0 clo_1 clo_2 clo_3 zlo chi_0 chi_1 chi_2 chi_3 zhi cb_0 cb_1 cb_2 cb_3 zb ce_0 ce_1 ce_2 ce_3 ze hf16 hfw_15 hgs
            obtain ⟨clo_0, clo_1, clo_2, clo_3, zlo⟩ := hblo_16.cs
            obtain ⟨chi_0, chi_1, chi_2, chi_3, zhi⟩ := hbhi_16.cs
            obtain ⟨cb_0, cb_1, cb_2, cb_3, zb⟩ := hbb_16.cs
            obtain ⟨ce_0, ce_1, ce_2, ce_3, ze⟩ := hbe_16.cs
            obtain ⟨cs_0, cs_1, cs_2, cs_3, zs⟩ := hbs_16.cs
            go_upto_region 21 with fail
            have llo := hblo_16.lt
            have lhi := hbhi_16.lt
            have lb := hbb_16.lt
            have le := hbe_16.lt
            have ls := hbs_16.lt
            have hl := hfw_16.size
            have po0 := o0.out
            have po1 := o1.out
            have po2 := o2.out
            have po3 := o3.out
            have po4 := o4.out
            have po5 := o5.out
            have po6 := o6.out
            have po7 := o7.out
            have po8 := o8.out
            refine wp_world (fun W => Fr noB w W ∧ Bl W w6.heap.size 1 ((-9223372036854775808)) 0 ∧ Bl W (w6.heap.size + 1) 1 9223372036854775807 0 ∧ Bl W w10.heap.size 1 ((-9223372036854775807)) 0 ∧ Bl W qe 1 ((-9223372036854775808)) 0) ?_ ?_
            · refine ⟨?_, ?_, ?_, ?_, ?_⟩ <;> ((first | unfold Bx | unfold Bl | unfold B3 | unfold A3 | skip); repeat (first | with_reducible exact hfw_16 | with_reducible refine Fr.alloc ?_ _ | (with_reducible refine Fr.setCell ?_ ?_ _; rotate_left; (intro h; dsimp only at h; omega)) | with_reducible refine Fr.drew ?_ | with_reducible exact hblo_16.raw | with_reducible exact hbhi_16.raw | with_reducible exact hbb_16.raw | with_reducible exact hbe_16.raw | with_reducible exact hbs_16.raw | (with_reducible refine obj_alloc_at ?_; simp; done) | (with_reducible apply obj_put4; omega) | (with_reducible apply obj_put1; omega) | (with_reducible refine obj_setCell_other ?_ _ _ ?_; rotate_left; (dsimp only; omega)) | with_reducible refine obj_alloc ?_ _ | with_reducible refine obj_drew ?_ | exact hfw_16))
            clear hblo_16 hbhi_16 hbb_16 hbe_16 hbs_16 llo lhi lb le ls hl po0 po1 po2 po3 po4 po5 po6 po7 po8 clo_0 clo_1 clo_2 clo_3 zlo chi_0 chi_1 chi_2 chi_3 zhi cb_0 cb_1 cb_2 cb_3 zb ce_0 ce_1 ce_2 ce_3 ze cs_0 cs_1 cs_2 cs_3 zs hfw_16
            rintro w17 ⟨hfw_17, hblo_17, hbhi_17, hbb_17, hbe_17⟩
            obtain ⟨clo_0, clo_1, clo_2, clo_3, zlo⟩ := hblo_17.cs
            obtain ⟨chi_0, chi_1, chi_2, chi_3, zhi⟩ := hbhi_17.cs
            obtain ⟨cb_0, cb_1, cb_2, cb_3, zb⟩ := hbb_17.cs
            obtain ⟨ce_0, ce_1, ce_2, ce_3, ze⟩ := hbe_17.cs
            go_wp2_with fail
            refine (HA1.out _).mono ?_
            rintro e w18 ⟨rfl, hf18⟩
            have llo := hblo_17.lt
            have lhi := hbhi_17.lt
            have lb := hbb_17.lt
            have le := hbe_17.lt
            have hl := hfw_17.size
            have po0 := o0.out
            have po1 := o1.out
            have po2 := o2.out
            have po3 := o3.out
            have po4 := o4.out
            have po5 := o5.out
            have po6 := o6.out
            have po7 := o7.out
            have po8 := o8.out
            have hB : Bl w18 w6.heap.size 1 ((-9223372036854775808)) 0 ∧ Bl w18 (w6.heap.size + 1) 1 9223372036854775807 0 ∧ Bl w18 w10.heap.size 1 ((-9223372036854775807)) 0 ∧ Bl w18 qe 1 ((-9223372036854775808)) 0 := by
              refine ⟨?_, ?_, ?_, ?_⟩ <;> ((first | unfold Bx | unfold Bl | unfold B3 | unfold A3 | skip); refine hf18.obj (noB_not _) ?_; repeat (first | with_reducible exact hblo_17.raw | with_reducible exact hbhi_17.raw | with_reducible exact hbb_17.raw | with_reducible exact hbe_17.raw | (with_reducible refine obj_alloc_at ?_; simp; done) | (with_reducible apply obj_put4; omega) | (with_reducible apply obj_put1; omega) | (with_reducible refine obj_setCell_other ?_ _ _ ?_; rotate_left; (dsimp only; omega)) | with_reducible refine obj_alloc ?_ _ | with_reducible refine obj_drew ?_))
            obtain ⟨hblo_18, hbhi_18, hbb_18, hbe_18⟩ := hB
            have hfw_18 : Fr noB w w18 := by
              refine Fr.transN ?_ hf18
              repeat (first | with_reducible exact hfw_17 | with_reducible refine Fr.alloc ?_ _ | (with_reducible refine Fr.setCell ?_ ?_ _; rotate_left; (intro h; dsimp only at h; omega)) | with_reducible refine Fr.drew ?_ | exact hfw_17)
            clear hblo_17 hbhi_17 hbb_17 hbe_17 llo lhi lb le hl po0 po1 po2 po3 po4 po5 po6 po7 po8 clo_0 clo_1 clo_2 clo_3 zlo chi_0 chi_1 chi_2 chi_3 zhi cb_0 cb_1 cb_2 cb_3 zb ce_0 ce_1 ce_2 ce_3 ze hf18 hfw_17
            obtain ⟨clo_0, clo_1, clo_2, clo_3, zlo⟩ := hblo_18.cs
            obtain ⟨chi_0, chi_1, chi_2, chi_3, zhi⟩ := hbhi_18.cs
            obtain ⟨cb_0, cb_1, cb_2, cb_3, zb⟩ := hbb_18.cs
            obtain ⟨ce_0, ce_1, ce_2, ce_3, ze⟩ := hbe_18.cs
            go_upto_region 22 with fail
            have o9 := Lib.hid (hbe_18.lt)
            have llo := hblo_18.lt
            have lhi := hbhi_18.lt
            have lb := hbb_18.lt
            have le := hbe_18.lt
            have hl := hfw_18.size
            have po0 := o0.out
            have po1 := o1.out
            have po2 := o2.out
            have po3 := o3.out
            have po4 := o4.out
            have po5 := o5.out
            have po6 := o6.out
            have po7 := o7.out
            have po8 := o8.out
            have po9 := o9.out
            refine wp_world (fun W => Fr noB w W ∧ Bl W w6.heap.size 1 ((-9223372036854775808)) 0 ∧ Bl W (w6.heap.size + 1) 1 9223372036854775807 0 ∧ Bl W w10.heap.size 1 ((-9223372036854775807)) 0 ∧ Bl W qe 1 ((-9223372036854775808)) 0 ∧ Bl W w18.heap.size 1 ((-1)) 0) ?_ ?_
            · refine ⟨?_, ?_, ?_, ?_, ?_, ?_⟩ <;> ((first | unfold Bx | unfold Bl | unfold B3 | unfold A3 | skip); repeat (first | with_reducible exact hfw_18 | with_reducible refine Fr.alloc ?_ _ | (with_reducible refine Fr.setCell ?_ ?_ _; rotate_left; (intro h; dsimp only at h; omega)) | with_reducible refine Fr.drew ?_ | with_reducible exact hblo_18.raw | with_reducible exact hbhi_18.raw | with_reducible exact hbb_18.raw | with_reducible exact hbe_18.raw | (with_reducible refine obj_alloc_at ?_; simp; done) | (with_reducible apply obj_put4; omega) | (with_reducible apply obj_put1; omega) | (with_reducible refine obj_setCell_other ?_ _ _ ?_; rotate_left; (dsimp only; omega)) | with_reducible refine obj_alloc ?_ _ | with_reducible refine obj_drew ?_ | exact hfw_18))
            clear hblo_18 hbhi_18 hbb_18 hbe_18 llo lhi lb le hl po0 po1 po2 po3 po4 po5 po6 po7 po8 po9 clo_0 clo_1 clo_2 clo_3 zlo chi_0 chi_1 chi_2 chi_3 zhi cb_0 cb_1 cb_2 cb_3 zb ce_0 ce_1 ce_2 ce_3 ze hfw_18
            rintro w19 ⟨hfw_19, hblo_19, hbhi_19, hbb_19, hbe_19, hbh_19⟩
            obtain ⟨clo_0, clo_1, clo_2, clo_3, zlo⟩ := hblo_19.cs
            obtain ⟨chi_0, chi_1, chi_2, chi_3, zhi⟩ := hbhi_19.cs
            obtain ⟨cb_0, cb_1, cb_2, cb_3, zb⟩ := hbb_19.cs
            obtain ⟨ce_0, ce_1, ce_2, ce_3, ze⟩ := hbe_19.cs
            obtain ⟨ch_0, ch_1, ch_2, ch_3, zh⟩ := hbh_19.cs
            go_wp2_with fail
            refine (HI1.out _).mono ?_
            rintro e w20 ⟨rfl, hf20⟩
            have llo := hblo_19.lt
            have lhi := hbhi_19.lt
            have lb := hbb_19.lt
            have le := hbe_19.lt
            have lh := hbh_19.lt
            have hl := hfw_19.size
            have po0 := o0.out
            have po1 := o1.out
            have po2 := o2.out
            have po3 := o3.out
            have po4 := o4.out
            have po5 := o5.out
            have po6 := o6.out
            have po7 := o7.out
            have po8 := o8.out
            have po9 := o9.out
            have hB : Bl w20 w6.heap.size 1 ((-9223372036854775808)) 0 ∧ Bl w20 (w6.heap.size + 1) 1 9223372036854775807 0 ∧ Bl w20 w10.heap.size 1 ((-9223372036854775807)) 0 ∧ Bl w20 qe 1 ((-9223372036854775808)) 0 ∧ Bl w20 w18.heap.size 1 ((-1)) 0 := by
              refine ⟨?_, ?_, ?_, ?_, ?_⟩ <;> ((first | unfold Bx | unfold Bl | unfold B3 | unfold A3 | skip); refine hf20.obj (noB_not _) ?_; repeat (first | with_reducible exact hblo_19.raw | with_reducible exact hbhi_19.raw | with_reducible exact hbb_19.raw | with_reducible exact hbe_19.raw | with_reducible exact hbh_19.raw | (with_reducible refine obj_alloc_at ?_; simp; done) | (with_reducible apply obj_put4; omega) | (with_reducible apply obj_put1; omega) | (with_reducible refine obj_setCell_other ?_ _ _ ?_; rotate_left; (dsimp only; omega)) | with_reducible refine obj_alloc ?_ _ | with_reducible refine obj_drew ?_))
            obtain ⟨hblo_20, hbhi_20, hbb_20, hbe_20, hbh_20⟩ := hB
            have hfw_20 : Fr noB w w20 := by
              refine Fr.transN ?_ hf20
              repeat (first | with_reducible exact hfw_19 | with_reducible refine Fr.alloc ?_ _ | (with_reducible refine Fr.setCell ?_ ?_ _; rotate_left; (intro h; dsimp only at h; omega)) | with_reducible refine Fr.drew ?_ | exact hfw_19)
            clear hblo_19 hbhi_19 hbb_19 hbe_19 hbh_19 llo lhi lb le lh hl po0 po1 po2 po3 po4 po5 po6 po7 po8 po9 clo_0 clo_1 clo_2 clo_3 zlo chi_0 chi_1 chi_2 chi_3 zhi cb_0 cb_1 cb_2 cb_3 zb ce_0 ce_1 ce_2 ce_3 ze ch_0 ch_1 ch_2 ch_3 zh hf20 hfw_19
            obtain ⟨clo_0, clo_1, clo_2, clo_3, zlo⟩ := hblo_20.cs
            obtain ⟨chi_0, chi_1, chi_2, chi_3, zhi⟩ := hbhi_20.cs
            obtain ⟨cb_0, cb_1, cb_2, cb_3, zb⟩ := hbb_20.cs
            obtain ⟨ce_0, ce_1, ce_2, ce_3, ze⟩ := hbe_20.cs
            obtain ⟨ch_0, ch_1, ch_2, ch_3, zh⟩ := hbh_20.cs
            go_wp2_with fail
            refine (HT1.out _).mono ?_
            rintro e w21 ⟨rfl, hf21⟩
            have llo := hblo_20.lt
            have lhi := hbhi_20.lt
            have lb := hbb_20.lt
            have le := hbe_20.lt
            have lh := hbh_20.lt
            have hl := hfw_20.size
            have po0 := o0.out
            have po1 := o1.out
            have po2 := o2.out
            have po3 := o3.out
            have po4 := o4.out
            have po5 := o5.out
            have po6 := o6.out
            have po7 := o7.out
            have po8 := o8.out
            have po9 := o9.out
            have hB : Bl w21 w6.heap.size 1 ((-9223372036854775808)) 0 ∧ Bl w21 (w6.heap.size + 1) 1 9223372036854775807 0 ∧ Bl w21 w10.heap.size 1 ((-9223372036854775807)) 0 ∧ Bl w21 qe 1 ((-9223372036854775808)) 0 ∧ Bl w21 w18.heap.size 1 ((-1)) 0 := by
              refine ⟨?_, ?_, ?_, ?_, ?_⟩ <;> ((first | unfold Bx | unfold Bl | unfold B3 | unfold A3 | skip); refine hf21.obj (noB_not _) ?_; repeat (first | with_reducible exact hblo_20.raw | with_reducible exact hbhi_20.raw | with_reducible exact hbb_20.raw | with_reducible exact hbe_20.raw | with_reducible exact hbh_20.raw | (with_reducible refine obj_alloc_at ?_; simp; done) | (with_reducible apply obj_put4; omega) | (with_reducible apply obj_put1; omega) | (with_reducible refine obj_setCell_other ?_ _ _ ?_; rotate_left; (dsimp only; omega)) | with_reducible refine obj_alloc ?_ _ | with_reducible refine obj_drew ?_))
            obtain ⟨hblo_21, hbhi_21, hbb_21, hbe_21, hbh_21⟩ := hB
            have hfw_21 : Fr noB w w21 := by
              refine Fr.transN ?_ hf21
              repeat (first | with_reducible exact hfw_20 | with_reducible refine Fr.alloc ?_ _ | (with_reducible refine Fr.setCell ?_ ?_ _; rotate_left; (intro h; dsimp only at h; omega)) | with_reducible refine Fr.drew ?_ | exact hfw_20)
            clear hblo_20 hbhi_20 hbb_20 hbe_20 hbh_20 llo lhi lb le lh hl po0 po1 po2 po3 po4 po5 po6 po7 po8 po9 clo_0 clo_1 clo_2 clo_3 zlo chi_0 chi_1 chi_2 chi_3 zhi cb_0 cb_1 cb_2 cb_3 zb ce_0 ce_1 ce_2 ce_3 ze ch_0 ch_1 ch_2 ch_3 zh hf21 hfw_20
            obtain ⟨clo_0, clo_1, clo_2, clo_3, zlo⟩ := hblo_21.cs
            obtain ⟨chi_0, chi_1, chi_2, chi_3, zhi⟩ := hbhi_21.cs
            obtain ⟨cb_0, cb_1, cb_2, cb_3, zb⟩ := hbb_21.cs
            obtain ⟨ce_0, ce_1, ce_2, ce_3, ze⟩ := hbe_21.cs
            obtain ⟨ch_0, ch_1, ch_2, ch_3, zh⟩ := hbh_21.cs
            go_upto_region 23 with fail
            have o10 := Lib.hid (hbh_21.lt)
            have llo := hblo_21.lt
            have lhi := hbhi_21.lt
            have lb := hbb_21.lt
            have le := hbe_21.lt
            have lh := hbh_21.lt
            have hl := hfw_21.size
            have po0 := o0.out
            have po1 := o1.out
            have po2 := o2.out
            have po3 := o3.out
            have po4 := o4.out
            have po5 := o5.out
            have po6 := o6.out
            have po7 := o7.out
            have po8 := o8.out
            have po9 := o9.out
            have po10 := o10.out
            refine wp_world (fun W => Fr noB w W ∧ Bl W w6.heap.size 1 ((-9223372036854775808)) 0 ∧ Bl W (w6.heap.size + 1) 1 9223372036854775807 0 ∧ Bl W w10.heap.size 1 ((-9223372036854775807)) 0 ∧ Bl W qe 1 ((-9223372036854775808)) 0 ∧ Bl W w18.heap.size 1 ((-1)) 0 ∧ Bl W w21.heap.size 0 0 0) ?_ ?_
            · refine ⟨?_, ?_, ?_, ?_, ?_, ?_, ?_⟩ <;> ((first | unfold Bx | unfold Bl | unfold B3 | unfold A3 | skip); repeat (first | with_reducible exact hfw_21 | with_reducible refine Fr.alloc ?_ _ | (with_reducible refine Fr.setCell ?_ ?_ _; rotate_left; (intro h; dsimp only at h; omega)) | with_reducible refine Fr.drew ?_ | with_reducible exact hblo_21.raw | with_reducible exact hbhi_21.raw | with_reducible exact hbb_21.raw | with_reducible exact hbe_21.raw | with_reducible exact hbh_21.raw | (with_reducible refine obj_alloc_at ?_; simp; done) | (with_reducible apply obj_put4; omega) | (with_reducible apply obj_put1; omega) | (with_reducible refine obj_setCell_other ?_ _ _ ?_; rotate_left; (dsimp only; omega)) | with_reducible refine obj_alloc ?_ _ | with_reducible refine obj_drew ?_ | exact hfw_21))
            clear hblo_21 hbhi_21 hbb_21 hbe_21 hbh_21 llo lhi lb le lh hl po0 po1 po2 po3 po4 po5 po6 po7 po8 po9 po10 clo_0 clo_1 clo_2 clo_3 zlo chi_0 chi_1 chi_2 chi_3 zhi cb_0 cb_1 cb_2 cb_3 zb ce_0 ce_1 ce_2 ce_3 ze ch_0 ch_1 ch_2 ch_3 zh hfw_21
            rintro w22 ⟨hfw_22, hblo_22, hbhi_22, hbb_22, hbe_22, hbh_22, hbt_22⟩
            obtain ⟨clo_0, clo_1, clo_2, clo_3, zlo⟩ := hblo_22.cs
            obtain ⟨chi_0, chi_1, chi_2, chi_3, zhi⟩ := hbhi_22.cs
            obtain ⟨cb_0, cb_1, cb_2, cb_3, zb⟩ := hbb_22.cs
            obtain ⟨ce_0, ce_1, ce_2, ce_3, ze⟩ := hbe_22.cs
            obtain ⟨ch_0, ch_1, ch_2, ch_3, zh⟩ := hbh_22.cs
            obtain ⟨ct_0, ct_1, ct_2, ct_3, zt⟩ := hbt_22.cs
            go_wp2_with fail
            refine (HO1.out _).mono ?_
            rintro e w23 ⟨rfl, hf23⟩
            have llo := hblo_22.lt
            have lhi := hbhi_22.lt
            have lb := hbb_22.lt
            have le := hbe_22.lt
            have lh := hbh_22.lt
            have lt := hbt_22.lt
            have hl := hfw_22.size
            have po0 := o0.out
            have po1 := o1.out
            have po2 := o2.out
            have po3 := o3.out
            have po4 := o4.out
            have po5 := o5.out
            have po6 := o6.out
            have po7 := o7.out
            have po8 := o8.out
            have po9 := o9.out
            have po10 := o10.out
            have hB : Bl w23 w6.heap.size 1 ((-9223372036854775808)) 0 ∧ Bl w23 (w6.heap.size + 1) 1 9223372036854775807 0 ∧ Bl w23 w10.heap.size 1 ((-9223372036854775807)) 0 ∧ Bl w23 qe 1 ((-9223372036854775808)) 0 ∧ Bl w23 w18.heap.size 1 ((-1)) 0 ∧ Bl w23 w21.heap.size 0 0 0 := by
              refine ⟨?_, ?_, ?_, ?_, ?_, ?_⟩ <;> ((first | unfold Bx | unfold Bl | unfold B3 | unfold A3 | skip); refine hf23.obj (noB_not _) ?_; repeat (first | with_reducible exact hblo_22.raw | with_reducible exact hbhi_22.raw | with_reducible exact hbb_22.raw | with_reducible exact hbe_22.raw | with_reducible exact hbh_22.raw | with_reducible exact hbt_22.raw | (with_reducible refine obj_alloc_at ?_; simp; done) | (with_reducible apply obj_put4; omega) | (with_reducible apply obj_put1; omega) | (with_reducible refine obj_setCell_other ?_ _ _ ?_; rotate_left; (dsimp only; omega)) | with_reducible refine obj_alloc ?_ _ | with_reducible refine obj_drew ?_))
            obtain ⟨hblo_23, hbhi_23, hbb_23, hbe_23, hbh_23, hbt_23⟩ := hB
            have hfw_23 : Fr noB w w23 := by
              refine Fr.transN ?_ hf23
              repeat (first | with_reducible exact hfw_22 | with_reducible refine Fr.alloc ?_ _ | (with_reducible refine Fr.setCell ?_ ?_ _; rotate_left; (intro h; dsimp only at h; omega)) | with_reducible refine Fr.drew ?_ | exact hfw_22)
            clear hblo_22 hbhi_22 hbb_22 hbe_22 hbh_22 hbt_22 llo lhi lb le lh lt hl po0 po1 po2 po3 po4 po5 po6 po7 po8 po9 po10 clo_0 clo_1 clo_2 clo_3 zlo chi_0 chi_1 chi_2 chi_3 zhi cb_0 cb_1 cb_2 cb_3 zb ce_0 ce_1 ce_2 ce_3 ze ch_0 ch_1 ch_2 ch_3 zh ct_0 ct_1 ct_2 ct_3 zt hf23 hfw_22
            obtain ⟨clo_0, clo_1, clo_2, clo_3, zlo⟩ := hblo_23.cs
            obtain ⟨chi_0, chi_1, chi_2, chi_3, zhi⟩ := hbhi_23.cs
            obtain ⟨cb_0, cb_1, cb_2, cb_3, zb⟩ := hbb_23.cs
            obtain ⟨ce_0, ce_1, ce_2, ce_3, ze⟩ := hbe_23.cs
            obtain ⟨ch_0, ch_1, ch_2, ch_3, zh⟩ := hbh_23.cs
            obtain ⟨ct_0, ct_1, ct_2, ct_3, zt⟩ := hbt_23.cs
            go_wp2_with fail
            refine (HI1.out _).mono ?_
            rintro e w24 ⟨rfl, hf24⟩
            have llo := hblo_23.lt
            have lhi := hbhi_23.lt
            have lb := hbb_23.lt
            have le := hbe_23.lt
            have lh := hbh_23.lt
            have lt := hbt_23.lt
            have hl := hfw_23.size
            have po0 := o0.out
            have po1 := o1.out
            have po2 := o2.out
            have po3 := o3.out
            have po4 := o4.out
            have po5 := o5.out
            have po6 := o6.out
            have po7 := o7.out
            have po8 := o8.out
            have po9 := o9.out
            have po10 := o10.out
            have hB : Bl w24 w6.heap.size 1 ((-9223372036854775808)) 0 ∧ Bl w24 (w6.heap.size + 1) 1 9223372036854775807 0 ∧ Bl w24 w10.heap.size 1 ((-9223372036854775807)) 0 ∧ Bl w24 qe 1 ((-9223372036854775808)) 0 ∧ Bl w24 w18.heap.size 1 ((-1)) 0 ∧ Bl w24 w21.heap.size 0 0 0 := by
              refine ⟨?_, ?_, ?_, ?_, ?_, ?_⟩ <;> ((first | unfold Bx | unfold Bl | unfold B3 | unfold A3 | skip); refine hf24.obj (noB_not _) ?_; repeat (first | with_reducible exact hblo_23.raw | with_reducible exact hbhi_23.raw | with_reducible exact hbb_23.raw | with_reducible exact hbe_23.raw | with_reducible exact hbh_23.raw | with_reducible exact hbt_23.raw | (with_reducible refine obj_alloc_at ?_; simp; done) | (with_reducible apply obj_put4; omega) | (with_reducible apply obj_put1; omega) | (with_reducible refine obj_setCell_other ?_ _ _ ?_; rotate_left; (dsimp only; omega)) | with_reducible refine obj_alloc ?_ _ | with_reducible refine obj_drew ?_))
            obtain ⟨hblo_24, hbhi_24, hbb_24, hbe_24, hbh_24, hbt_24⟩ := hB
            have hfw_24 : Fr noB w w24 := by
              refine Fr.transN ?_ hf24
              repeat (first | with_reducible exact hfw_23 | with_reducible refine Fr.alloc ?_ _ | (with_reducible refine Fr.setCell ?_ ?_ _; rotate_left; (intro h; dsimp only at h; omega)) | with_reducible refine Fr.drew ?_ | exact hfw_23)
            clear hblo_23 hbhi_23 hbb_23 hbe_23 hbh_23 hbt_23 llo lhi lb le lh lt hl po0 po1 po2 po3 po4 po5 po6 po7 po8 po9 po10 clo_0 clo_1 clo_2 clo_3 zlo chi_0 chi_1 chi_2 chi_3 zhi cb_0 cb_1 cb_2 cb_3 zb ce_0 ce_1 ce_2 ce_3 ze ch_0 ch_1 ch_2 ch_3 zh ct_0 ct_1 ct_2 ct_3 zt hf24 hfw_23
            obtain ⟨clo_0, clo_1, clo_2, clo_3, zlo⟩ := hblo_24.cs
            obtain ⟨chi_0, chi_1, chi_2, chi_3, zhi⟩ := hbhi_24.cs
            obtain ⟨cb_0, cb_1, cb_2, cb_3, zb⟩ := hbb_24.cs
            obtain ⟨ce_0, ce_1, ce_2, ce_3, ze⟩ := hbe_24.cs
            obtain ⟨ch_0, ch_1, ch_2, ch_3, zh⟩ := hbh_24.cs
            obtain ⟨ct_0, ct_1, ct_2, ct_3, zt⟩ := hbt_24.cs
            go_wp2_with fail
            refine (HA2.out _).mono ?_
            rintro e w25 ⟨rfl, hf25⟩
            have llo := hblo_24.lt
            have lhi := hbhi_24.lt
            have lb := hbb_24.lt
            have le := hbe_24.lt
            have lh := hbh_24.lt
            have lt := hbt_24.lt
            have hl := hfw_24.size
            have po0 := o0.out
            have po1 := o1.out
            have po2 := o2.out
            have po3 := o3.out
            have po4 := o4.out
            have po5 := o5.out
            have po6 := o6.out
            have po7 := o7.out
            have po8 := o8.out
            have po9 := o9.out
            have po10 := o10.out
            have hB : Bl w25 w6.heap.size 1 ((-9223372036854775808)) 0 ∧ Bl w25 (w6.heap.size + 1) 1 9223372036854775807 0 ∧ Bl w25 w10.heap.size 1 ((-9223372036854775807)) 0 ∧ Bl w25 qe 1 ((-9223372036854775808)) 0 ∧ Bl w25 w18.heap.size 1 ((-1)) 0 ∧ Bl w25 w21.heap.size 0 0 0 := by
              refine ⟨?_, ?_, ?_, ?_, ?_, ?_⟩ <;> ((first | unfold Bx | unfold Bl | unfold B3 | unfold A3 | skip); refine hf25.obj (noB_not _) ?_; repeat (first | with_reducible exact hblo_24.raw | with_reducible exact hbhi_24.raw | with_reducible exact hbb_24.raw | with_reducible exact hbe_24.raw | with_reducible exact hbh_24.raw | with_reducible exact hbt_24.raw | (with_reducible refine obj_alloc_at ?_; simp; done) | (with_reducible apply obj_put4; omega) | (with_reducible apply obj_put1; omega) | (with_reducible refine obj_setCell_other ?_ _ _ ?_; rotate_left; (dsimp only; omega)) | with_reducible refine obj_alloc ?_ _ | with_reducible refine obj_drew ?_))
            obtain ⟨hblo_25, hbhi_25, hbb_25, hbe_25, hbh_25, hbt_25⟩ := hB
            have hfw_25 : Fr noB w w25 := by
              refine Fr.transN ?_ hf25
              repeat (first | with_reducible exact hfw_24 | with_reducible refine Fr.alloc ?_ _ | (with_reducible refine Fr.setCell ?_ ?_ _; rotate_left; (intro h; dsimp only at h; omega)) | with_reducible refine Fr.drew ?_ | exact hfw_24)
            clear hblo_24 hbhi_24 hbb_24 hbe_24 hbh_24 hbt_24 llo lhi lb le lh lt hl po0 po1 po2 po3 po4 po5 po6 po7 po8 po9 po10 clo_0 clo_1 clo_2 clo_3 zlo chi_0 chi_1 chi_2 chi_3 zhi cb_0 cb_1 cb_2 cb_3 zb ce_0 ce_1 ce_2 ce_3 ze ch_0 ch_1 ch_2 ch_3 zh ct_0 ct_1 ct_2 ct_3 zt hf25 hfw_24
            obtain ⟨clo_0, clo_1, clo_2, clo_3, zlo⟩ := hblo_25.cs
            obtain ⟨chi_0, chi_1, chi_2, chi_3, zhi⟩ := hbhi_25.cs
            obtain ⟨cb_0, cb_1, cb_2, cb_3, zb⟩ := hbb_25.cs
            obtain ⟨ce_0, ce_1, ce_2, ce_3, ze⟩ := hbe_25.cs
            obtain ⟨ch_0, ch_1, ch_2, ch_3, zh⟩ := hbh_25.cs
            obtain ⟨ct_0, ct_1, ct_2, ct_3, zt⟩ := hbt_25.cs
            go_upto_region 24 with fail
            have o11 := Lib.hid (hbt_25.lt)
            have llo := hblo_25.lt
            have lhi := hbhi_25.lt
            have lb := hbb_25.lt
            have le := hbe_25.lt
            have lh := hbh_25.lt
            have lt := hbt_25.lt
            have hl := hfw_25.size
            have po0 := o0.out
            have po1 := o1.out
            have po2 := o2.out
            have po3 := o3.out
            have po4 := o4.out
            have po5 := o5.out
            have po6 := o6.out
            have po7 := o7.out
            have po8 := o8.out
            have po9 := o9.out
            have po10 := o10.out
            have po11 := o11.out
            refine wp_world (fun W => Fr noB w W ∧ Bl W w6.heap.size 1 ((-9223372036854775808)) 0 ∧ Bl W (w6.heap.size + 1) 1 9223372036854775807 0 ∧ Bl W w10.heap.size 1 ((-9223372036854775807)) 0 ∧ Bl W qe 1 ((-9223372036854775808)) 0 ∧ Bl W w18.heap.size 1 ((-1)) 0 ∧ Bl W w25.heap.size 0 0 0) ?_ ?_
            · refine ⟨?_, ?_, ?_, ?_, ?_, ?_, ?_⟩ <;> ((first | unfold Bx | unfold Bl | unfold B3 | unfold A3 | skip); repeat (first | with_reducible exact hfw_25 | with_reducible refine Fr.alloc ?_ _ | (with_reducible refine Fr.setCell ?_ ?_ _; rotate_left; (intro h; dsimp only at h; omega)) | with_reducible refine Fr.drew ?_ | with_reducible exact hblo_25.raw | with_reducible exact hbhi_25.raw | with_reducible exact hbb_25.raw | with_reducible exact hbe_25.raw | with_reducible exact hbh_25.raw | with_reducible exact hbt_25.raw | (with_reducible refine obj_alloc_at ?_; simp; done) | (with_reducible apply obj_put4; omega) | (with_reducible apply obj_put1; omega) | (with_reducible refine obj_setCell_other ?_ _ _ ?_; rotate_left; (dsimp only; omega)) | with_reducible refine obj_alloc ?_ _ | with_reducible refine obj_drew ?_ | exact hfw_25))
            clear hblo_25 hbhi_25 hbb_25 hbe_25 hbh_25 hbt_25 llo lhi lb le lh lt hl po0 po1 po2 po3 po4 po5 po6 po7 po8 po9 po10 po11 clo_0 clo_1 clo_2 clo_3 zlo chi_0 chi_1 chi_2 chi_3 zhi cb_0 cb_1 cb_2 cb_3 zb ce_0 ce_1 ce_2 ce_3 ze ch_0 ch_1 ch_2 ch_3 zh ct_0 ct_1 ct_2 ct_3 zt hfw_25
            rintro w26 ⟨hfw_26, hblo_26, hbhi_26, hbb_26, hbe_26, hbh_26, hbv_26⟩
            obtain ⟨clo_0, clo_1, clo_2, clo_3, zlo⟩ := hblo_26.cs
            obtain ⟨chi_0, chi_1, chi_2, chi_3, zhi⟩ := hbhi_26.cs
            obtain ⟨cb_0, cb_1, cb_2, cb_3, zb⟩ := hbb_26.cs
            obtain ⟨ce_0, ce_1, ce_2, ce_3, ze⟩ := hbe_26.cs
            obtain ⟨ch_0, ch_1, ch_2, ch_3, zh⟩ := hbh_26.cs
            obtain ⟨cv_0, cv_1, cv_2, cv_3, zv⟩ := hbv_26.cs
            have E1 : ∀ W : World, (binOp .eql 23 (.agg #[.int .u8 1, .int .i64 (-9223372036854775807), .int .i64 0, .string ⟨#[]⟩]) (.agg #[.int .u8 1, .int .i64 (-9223372036854775807), .int .i64 0, .string ⟨#[]⟩])).run Try.prog W = .ok (.bool true) W := eqv_lit (intV (-9223372036854775807)) (intV (-9223372036854775807)) true (eqV_self _)
            have E2 : ∀ W : World, (binOp .eql 23 (.agg #[.int .u8 1, .int .i64 (-9223372036854775808), .int .i64 0, .string ⟨#[]⟩]) (.agg #[.int .u8 1, .int .i64 (-9223372036854775808), .int .i64 0, .string ⟨#[]⟩])).run Try.prog W = .ok (.bool true) W := eqv_lit (intV (-9223372036854775808)) (intV (-9223372036854775808)) true (eqV_self _)
            have E3 : ∀ W : World, (binOp .eql 23 (.agg #[.int .u8 1, .int .i64 (-1), .int .i64 0, .string ⟨#[]⟩]) (.agg #[.int .u8 1, .int .i64 (-1), .int .i64 0, .string ⟨#[]⟩])).run Try.prog W = .ok (.bool true) W := eqv_lit (intV (-1)) (intV (-1)) true (eqV_self _)
            have xlo0 := Ext.cell clo_0
            have xlo1 := Ext.cell clo_1
            have xlo2 := Ext.cell clo_2
            have xlo3 := Ext.cell clo_3
            have xhi0 := Ext.cell chi_0
            have xhi1 := Ext.cell chi_1
            have xhi2 := Ext.cell chi_2
            have xhi3 := Ext.cell chi_3
            have xb0 := Ext.cell cb_0
            have xb1 := Ext.cell cb_1
            have xb2 := Ext.cell cb_2
            have xb3 := Ext.cell cb_3
            have xe0 := Ext.cell ce_0
            have xe1 := Ext.cell ce_1
            have xe2 := Ext.cell ce_2
            have xe3 := Ext.cell ce_3
            have xh0 := Ext.cell ch_0
            have xh1 := Ext.cell ch_1
            have xh2 := Ext.cell ch_2
            have xh3 := Ext.cell ch_3
            have xv0 := Ext.cell cv_0
            have xv1 := Ext.cell cv_1
            have xv2 := Ext.cell cv_2
            have xv3 := Ext.cell cv_3
            clear clo_0 clo_1 clo_2 clo_3 zlo chi_0 chi_1 chi_2 chi_3 zhi cb_0 cb_1 cb_2 cb_3 zb ce_0 ce_1 ce_2 ce_3 ze ch_0 ch_1 ch_2 ch_3 zh cv_0 cv_1 cv_2 cv_3 zv
            refine wp_region_ext (by kernel_rfl) (by kernel_rfl) ?_
            repeat (go_big_quiet_step ((first | (go_at_call 19; first | exact Ext.calls (HIk.out _) | exact Ext.calls (HIm.out _)) | (go_at_call 15; exact Ext.calls (HAw.out _)))))
            refine wpQuiet_nil ?_
            rintro _ ⟨⟨w27, hf27⟩, rfl⟩
            have hfw_27 := hfw_26.transN hf27
            clear E1 E2 E3 xlo0 xlo1 xlo2 xlo3 xhi0 xhi1 xhi2 xhi3 xb0 xb1 xb2 xb3 xe0 xe1 xe2 xe3 xh0 xh1 xh2 xh3 xv0 xv1 xv2 xv3 hblo_26 hbhi_26 hbb_26 hbe_26 hbh_26 hbv_26
            go_wp2_with fail
            have hl := hfw_27.size
            have po0 := o0.out
            have po1 := o1.out
            have po2 := o2.out
            have po3 := o3.out
            have po4 := o4.out
            have po5 := o5.out
            have po6 := o6.out
            have po7 := o7.out
            have po8 := o8.out
            have po9 := o9.out
            have po10 := o10.out
            have po11 := o11.out
            go_ret
            refine ⟨?_, ?_⟩
            · rfl
            · skip
              repeat (first | with_reducible exact hfw_27 | with_reducible refine Fr.alloc ?_ _ | (with_reducible refine Fr.setCell ?_ ?_ _; rotate_left; (intro h; dsimp only at h; omega)) | with_reducible refine Fr.drew ?_ | exact hfw_27)


theorem logicNames_walk (w : World) : Calls Try.prog 6 #[] w fun e w' => e = .returned (.bool true) ∧ Fr noB w w' := names_law w

end Go.Proofs.Ytcncjghcnofioaa
