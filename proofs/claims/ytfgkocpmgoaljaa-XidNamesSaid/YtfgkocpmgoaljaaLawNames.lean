/- The walk of the statement XidNames. No condition. -/
import Derived.Test.YtfgkocpmgoaljaaXidN
import Derived.Test.YtfgkocpmgoaljaaXidK
import Derived.Test.YtfgkocpmgoaljaaXidH
import Derived.Deep.LoopGhost
import Derived.Deep.DeepCutAuto
namespace Go.Proofs.Ytfgkocpmgoaljaa
open Go.RowKit Go.Shelf Xid

set_option maxRecDepth 100000 in
set_option maxHeartbeats 40000000 in
theorem names_law (w : World) : Calls Try.prog 13 #[] w fun e w' => e = .returned (.bool true) ∧ Fr noB w w' := by
  go_enter Try.func13, Try.ntmps13
  go_wp2_with fail
  refine (begin_nil 0 _).mono ?_
  rintro e wE ⟨rfl, he⟩; subst he
  go_wp2_with fail
  refine (works_any _).mono ?_
  rintro e w' ⟨rfl, hf⟩
  go_wp2_with fail
  refine (commit_nil 1 _).mono ?_
  rintro e w' ⟨rfl, hf'⟩; have hf := hf.trans hf'; clear hf'
  go_wp2_with fail
  refine (abort_nil 1 _).mono ?_
  rintro e w' ⟨rfl, hf'⟩; have hf := hf.trans hf'; clear hf'
  go_wp2_with fail
  refine (state_nil 1 _).mono ?_
  rintro e wE ⟨rfl, he⟩; subst he
  go_wp2_with fail
  refine (top_nil 1 _).mono ?_
  rintro e w' ⟨rfl, hf'⟩; have hf := hf.trans hf'; clear hf'
  go_wp2_with fail
  refine (number_nil 1 _).mono ?_
  rintro e w' ⟨rfl, hf'⟩; have hf := hf.trans hf'; clear hf'
  go_wp2_with fail
  refine (last_nil _).mono ?_
  rintro e wE ⟨rfl, he⟩; subst he
  go_wp2_with fail
  refine (len_nil _).mono ?_
  rintro e wE ⟨rfl, he⟩; subst he
  go_wp2_with fail
  refine (counts_nil 1 _).mono ?_
  rintro e w' ⟨rfl, hf'⟩; have hf := hf.trans hf'; clear hf'
  go_wp2_with fail
  refine (copy_nil _).mono ?_
  rintro e wE ⟨rfl, he⟩; subst he
  go_wp2_with fail
  refine (new_mine w _ hf).mono ?_
  rintro e w2 ⟨rfl, h⟩
  clear hf
  generalize w'.heap.size = p at *
  go_wp2_with fail
  refine (begin_mine h 0 5 [] (by decide) (by kernel_rfl) (by kernel_rfl) (by kernel_rfl)).mono ?_
  rintro e w' ⟨rfl, h', hx⟩; clear h hx; have h := h'; clear h'
  go_wp2_with fail
  refine (begin_mine h 0 5 [] (by decide) (by kernel_rfl) (by kernel_rfl) (by kernel_rfl)).mono ?_
  rintro e w' ⟨rfl, h', hx⟩; clear h hx; have h := h'; clear h'
  go_wp2_with fail
  refine (commit_mine h 5 [] 0 (by decide) (by decide) (by kernel_rfl) (by kernel_rfl) (by kernel_rfl)).mono ?_
  rintro e w' ⟨rfl, h', hx⟩; clear h hx; have h := h'; clear h'
  go_wp2_with fail
  refine (abort_mine h 5 [] (by decide) (by kernel_rfl) (by kernel_rfl)).mono ?_
  rintro e w' ⟨rfl, h', hx⟩; clear h hx; have h := h'; clear h'
  go_wp2_with fail
  refine (counts_mine h false (by decide) (by kernel_rfl)).mono ?_
  rintro e w' ⟨rfl, h', hx⟩; clear h hx; have h := h'; clear h'
  go_wp2_with fail
  refine (counts_mine h false (by decide) (by kernel_rfl)).mono ?_
  rintro e w' ⟨rfl, h', hx⟩; clear h hx; have h := h'; clear h'
  go_wp2_with fail
  refine (len_mine h 0 (by rfl)).mono ?_
  rintro e w' ⟨rfl, h', hx⟩; clear h hx; have h := h'; clear h'
  go_wp2_with fail
  have h0 := h.frN ((Fr.refl noB _).alloc (.cells #[.int .i64 0, .int .i64 1, .int .i64 1, .int .i64 2, .int .i64 0] 3))
  have hg := obj_alloc_new w' (.cells #[.int .i64 0, .int .i64 1, .int .i64 1, .int .i64 2, .int .i64 0] 3)
  clear h
  generalize w'.alloc (.cells #[.int .i64 0, .int .i64 1, .int .i64 1, .int .i64 2, .int .i64 0] 3) = w3 at *
  generalize w'.heap.size = g at *
  go_loopg [124] 5 (fun gh iv wr => ∃ (i : Nat) (T : List One), i ≤ 5 ∧ gh = 5 - i ∧ iv = .int .i64 i ∧ Mine w wr p T 0 ∧ T = [⟨0, 1, 0⟩, ⟨1, 1, 0⟩, ⟨1, 1, 0⟩, ⟨2, 1, 0⟩, ⟨0, 1, 0⟩].take i ∧ wr.heap[g]? = some (.cells #[.int .i64 0, .int .i64 1, .int .i64 1, .int .i64 2, .int .i64 0] 3 (0, 0)))
  case atStart => exact ⟨0, [], by omega, rfl, rfl, h0, rfl, hg⟩
  case round =>
    clear h0 hg
    obtain ⟨i, T, hil, rfl, rfl, h, hT, hg⟩ := hrel
    have c0 : wr.cell? ⟨g, 0, none⟩ = some (.int .i64 0) := by rw [cell_of_obj hg]; rfl
    have c1 : wr.cell? ⟨g, 1, none⟩ = some (.int .i64 1) := by rw [cell_of_obj hg]; rfl
    have c2 : wr.cell? ⟨g, 2, none⟩ = some (.int .i64 1) := by rw [cell_of_obj hg]; rfl
    have c3 : wr.cell? ⟨g, 3, none⟩ = some (.int .i64 2) := by rw [cell_of_obj hg]; rfl
    have c4 : wr.cell? ⟨g, 4, none⟩ = some (.int .i64 0) := by rw [cell_of_obj hg]; rfl
    have HG := Lib.hid hg
    clear hg
    have hi : i = 0 ∨ i = 1 ∨ i = 2 ∨ i = 3 ∨ i = 4 ∨ i = 5 := by omega
    clear hil
    rcases hi with rfl | rfl | rfl | rfl | rfl | rfl
    · subst hT
      go_wp2_with fail
      refine (begin_mine h 1 0 [⟨0, 1, 0⟩] (by decide) (by kernel_rfl) (by kernel_rfl) (by kernel_rfl)).mono ?_
      rintro e w' ⟨rfl, h', hx⟩; clear h; have h := h'; clear h'
      have hg' := hx.obj HG.out (by decide)
      clear hx HG c0 c1 c2 c3 c4
      go_wp2_with fail
      go_roundg 4
      case measure => decide
      case rel => exact ⟨1, _, by omega, rfl, rfl, h, rfl, hg'⟩
    · subst hT
      go_wp2_with fail
      refine (begin_mine h 2 0 [⟨0, 1, 0⟩, ⟨1, 1, 0⟩] (by decide) (by kernel_rfl) (by kernel_rfl) (by kernel_rfl)).mono ?_
      rintro e w' ⟨rfl, h', hx⟩; clear h; have h := h'; clear h'
      have hg' := hx.obj HG.out (by decide)
      clear hx HG c0 c1 c2 c3 c4
      go_wp2_with fail
      go_roundg 3
      case measure => decide
      case rel => exact ⟨2, _, by omega, rfl, rfl, h, rfl, hg'⟩
    · subst hT
      go_wp2_with fail
      refine (begin_mine h 3 0 [⟨0, 1, 0⟩, ⟨1, 1, 0⟩, ⟨1, 1, 0⟩] (by decide) (by kernel_rfl) (by kernel_rfl) (by kernel_rfl)).mono ?_
      rintro e w' ⟨rfl, h', hx⟩; clear h; have h := h'; clear h'
      have hg' := hx.obj HG.out (by decide)
      clear hx HG c0 c1 c2 c3 c4
      go_wp2_with fail
      go_roundg 2
      case measure => decide
      case rel => exact ⟨3, _, by omega, rfl, rfl, h, rfl, hg'⟩
    · subst hT
      go_wp2_with fail
      refine (begin_mine h 4 0 [⟨0, 1, 0⟩, ⟨1, 1, 0⟩, ⟨1, 1, 0⟩, ⟨2, 1, 0⟩] (by decide) (by kernel_rfl) (by kernel_rfl) (by kernel_rfl)).mono ?_
      rintro e w' ⟨rfl, h', hx⟩; clear h; have h := h'; clear h'
      have hg' := hx.obj HG.out (by decide)
      clear hx HG c0 c1 c2 c3 c4
      go_wp2_with fail
      go_roundg 1
      case measure => decide
      case rel => exact ⟨4, _, by omega, rfl, rfl, h, rfl, hg'⟩
    · subst hT
      go_wp2_with fail
      refine (begin_mine h 5 0 [⟨0, 1, 0⟩, ⟨1, 1, 0⟩, ⟨1, 1, 0⟩, ⟨2, 1, 0⟩, ⟨0, 1, 0⟩] (by decide) (by kernel_rfl) (by kernel_rfl) (by kernel_rfl)).mono ?_
      rintro e w' ⟨rfl, h', hx⟩; clear h; have h := h'; clear h'
      have hg' := hx.obj HG.out (by decide)
      clear hx HG c0 c1 c2 c3 c4
      go_wp2_with fail
      go_roundg 0
      case measure => decide
      case rel => exact ⟨5, _, by omega, rfl, rfl, h, rfl, hg'⟩
    · subst hT
      clear HG c0 c1 c2 c3 c4
      simp only [List.take_succ_cons, List.take_zero] at h
      go_wp2_with fail
      refine (top_mine h 1 (by decide) (by kernel_rfl)).mono ?_
      rintro e w' ⟨rfl, h', hx⟩; clear h hx; have h := h'; clear h'
      go_wp2_with fail
      refine (top_mine h 5 (by decide) (by kernel_rfl)).mono ?_
      rintro e w' ⟨rfl, h', hx⟩; clear h hx; have h := h'; clear h'
      go_wp2_with fail
      refine (abort_mine h 0 [⟨0, 1, 0⟩, ⟨1, 1, 0⟩, ⟨1, 3, 0⟩, ⟨2, 1, 0⟩, ⟨0, 1, 0⟩] (by decide) (by kernel_rfl) (by kernel_rfl)).mono ?_
      rintro e w' ⟨rfl, h', hx⟩; clear h hx; have h := h'; clear h'
      go_wp2_with fail
      refine (commit_mine h 0 [⟨0, 1, 0⟩, ⟨1, 1, 0⟩, ⟨1, 3, 0⟩, ⟨2, 1, 0⟩, ⟨0, 2, 1⟩] 1 (by decide) (by decide) (by kernel_rfl) (by kernel_rfl) (by kernel_rfl)).mono ?_
      rintro e w' ⟨rfl, h', hx⟩; clear h hx; have h := h'; clear h'
      go_wp2_with fail
      refine (number_mine h 1 (by decide) (by kernel_rfl)).mono ?_
      rintro e w' ⟨rfl, h', hx⟩; clear h hx; have h := h'; clear h'
      go_wp2_with fail
      refine (number_mine h 0 (by decide) (by kernel_rfl)).mono ?_
      rintro e w' ⟨rfl, h', hx⟩; clear h hx; have h := h'; clear h'
      go_wp2_with fail
      refine (state_mine h 1 (by decide) (by kernel_rfl)).mono ?_
      rintro e w' ⟨rfl, h', hx⟩; clear h hx; have h := h'; clear h'
      go_wp2_with fail
      refine (commit_mine h 0 [⟨0, 2, 2⟩, ⟨1, 2, 0⟩, ⟨1, 3, 0⟩, ⟨2, 2, 0⟩, ⟨0, 2, 1⟩] 2 (by decide) (by decide) (by kernel_rfl) (by kernel_rfl) (by kernel_rfl)).mono ?_
      rintro e w' ⟨rfl, h', hx⟩; clear h hx; have h := h'; clear h'
      go_wp2_with fail
      refine (state_mine h 2 (by decide) (by kernel_rfl)).mono ?_
      rintro e w' ⟨rfl, h', hx⟩; clear h hx; have h := h'; clear h'
      go_wp2_with fail
      refine (state_mine h 3 (by decide) (by kernel_rfl)).mono ?_
      rintro e w' ⟨rfl, h', hx⟩; clear h hx; have h := h'; clear h'
      go_wp2_with fail
      refine (number_mine h 2 (by decide) (by kernel_rfl)).mono ?_
      rintro e w' ⟨rfl, h', hx⟩; clear h hx; have h := h'; clear h'
      go_wp2_with fail
      refine (number_mine h 0 (by decide) (by kernel_rfl)).mono ?_
      rintro e w' ⟨rfl, h', hx⟩; clear h hx; have h := h'; clear h'
      go_wp2_with fail
      refine (abort_mine h 7 [⟨0, 2, 2⟩, ⟨1, 2, 0⟩, ⟨1, 3, 0⟩, ⟨2, 2, 0⟩, ⟨0, 2, 1⟩] (by decide) (by kernel_rfl) (by kernel_rfl)).mono ?_
      rintro e w' ⟨rfl, h', hx⟩; clear h hx; have h := h'; clear h'
      go_wp2_with fail
      refine (abort_mine h 7 [⟨0, 2, 2⟩, ⟨1, 2, 0⟩, ⟨1, 3, 0⟩, ⟨2, 2, 0⟩, ⟨0, 2, 1⟩] (by decide) (by kernel_rfl) (by kernel_rfl)).mono ?_
      rintro e w' ⟨rfl, h', hx⟩; clear h hx; have h := h'; clear h'
      go_wp2_with fail
      refine (begin_mine h 0 7 [⟨0, 2, 2⟩, ⟨1, 2, 0⟩, ⟨1, 3, 0⟩, ⟨2, 2, 0⟩, ⟨0, 2, 1⟩] (by decide) (by kernel_rfl) (by kernel_rfl) (by kernel_rfl)).mono ?_
      rintro e w' ⟨rfl, h', hx⟩; clear h hx; have h := h'; clear h'
      go_wp2_with fail
      refine (last_mine h 2 (by rfl)).mono ?_
      rintro e w' ⟨rfl, h', hx⟩; clear h hx; have h := h'; clear h'
      go_wp2_with fail
      refine (counts_mine h true (by decide) (by kernel_rfl)).mono ?_
      rintro e w' ⟨rfl, h', hx⟩; clear h hx; have h := h'; clear h'
      go_wp2_with fail
      refine (counts_mine h false (by decide) (by kernel_rfl)).mono ?_
      rintro e w' ⟨rfl, h', hx⟩; clear h hx; have h := h'; clear h'
      go_wp2_with fail
      go_ret
      exact ⟨rfl, h.fr⟩

end Go.Proofs.Ytfgkocpmgoaljaa
