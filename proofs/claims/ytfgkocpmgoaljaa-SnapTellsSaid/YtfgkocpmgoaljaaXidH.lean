/- The walk of the examples that each statement asks first: they are as they are told. No condition. -/
import Derived.Test.YtfgkocpmgoaljaaXidG
namespace Go.Proofs.Ytfgkocpmgoaljaa
open Go.RowKit Go.Shelf Xid

set_option maxHeartbeats 4000000 in
theorem works_any (w : World) : Calls Try.prog 32 #[] w fun e w' => e = .returned (.bool true) ∧ Fr noB w w' := by
  go_enter Try.func32, Try.ntmps32
  go_wp2_with fail
  refine (new_mine w w (Fr.refl _ _)).mono ?_
  rintro e w' ⟨rfl, h⟩
  go_wp2_with fail
  refine (begin_mine h 1 0 [⟨0, 1, 0⟩] (by decide) (by kernel_rfl) (by kernel_rfl) (by kernel_rfl)).mono ?_
  rintro e w' ⟨rfl, h', hx⟩; clear h hx; have h := h'; clear h'
  go_wp2_with fail
  refine (begin_mine h 2 0 [⟨0, 1, 0⟩, ⟨1, 1, 0⟩] (by decide) (by kernel_rfl) (by kernel_rfl) (by kernel_rfl)).mono ?_
  rintro e w' ⟨rfl, h', hx⟩; clear h hx; have h := h'; clear h'
  go_wp2_with fail
  refine (begin_mine h 3 0 [⟨0, 1, 0⟩, ⟨1, 1, 0⟩, ⟨2, 1, 0⟩] (by decide) (by kernel_rfl) (by kernel_rfl) (by kernel_rfl)).mono ?_
  rintro e w' ⟨rfl, h', hx⟩; clear h hx; have h := h'; clear h'
  go_wp2_with fail
  refine (commit_mine h 0 [⟨0, 1, 0⟩, ⟨1, 1, 0⟩, ⟨2, 2, 0⟩] 0 (by decide) (by decide) (by kernel_rfl) (by kernel_rfl) (by kernel_rfl)).mono ?_
  rintro e w' ⟨rfl, h', hx⟩; clear h hx; have h := h'; clear h'
  go_wp2_with fail
  refine (abort_mine h 0 [⟨0, 1, 0⟩, ⟨1, 3, 0⟩, ⟨2, 3, 0⟩] (by decide) (by kernel_rfl) (by kernel_rfl)).mono ?_
  rintro e w' ⟨rfl, h', hx⟩; clear h hx; have h := h'; clear h'
  go_wp2_with fail
  refine (state_mine h 3 (by decide) (by kernel_rfl)).mono ?_
  rintro e w' ⟨rfl, h', hx⟩; clear h hx; have h := h'; clear h'
  go_wp2_with fail
  refine (state_mine h 3 (by decide) (by kernel_rfl)).mono ?_
  rintro e w' ⟨rfl, h', hx⟩; clear h hx; have h := h'; clear h'
  go_wp2_with fail
  refine (begin_mine h 0 7 [⟨0, 1, 0⟩, ⟨1, 3, 0⟩, ⟨2, 3, 0⟩] (by decide) (by kernel_rfl) (by kernel_rfl) (by kernel_rfl)).mono ?_
  rintro e w' ⟨rfl, h', hx⟩; clear h hx; have h := h'; clear h'
  go_wp2_with fail
  refine (begin_mine h 0 5 [⟨0, 1, 0⟩, ⟨1, 3, 0⟩, ⟨2, 3, 0⟩] (by decide) (by kernel_rfl) (by kernel_rfl) (by kernel_rfl)).mono ?_
  rintro e w' ⟨rfl, h', hx⟩; clear h hx; have h := h'; clear h'
  go_wp2_with fail
  refine (commit_mine h 0 [⟨0, 2, 1⟩, ⟨1, 3, 0⟩, ⟨2, 3, 0⟩] 1 (by decide) (by decide) (by kernel_rfl) (by kernel_rfl) (by kernel_rfl)).mono ?_
  rintro e w' ⟨rfl, h', hx⟩; clear h hx; have h := h'; clear h'
  go_wp2_with fail
  refine (number_mine h 1 (by decide) (by kernel_rfl)).mono ?_
  rintro e w' ⟨rfl, h', hx⟩; clear h hx; have h := h'; clear h'
  go_wp2_with fail
  refine (number_mine h 0 (by decide) (by kernel_rfl)).mono ?_
  rintro e w' ⟨rfl, h', hx⟩; clear h hx; have h := h'; clear h'
  go_wp2_with fail
  refine (begin_mine h 4 0 [⟨0, 2, 1⟩, ⟨1, 3, 0⟩, ⟨2, 3, 0⟩, ⟨0, 1, 0⟩] (by decide) (by kernel_rfl) (by kernel_rfl) (by kernel_rfl)).mono ?_
  rintro e w' ⟨rfl, h', hx⟩; clear h hx; have h := h'; clear h'
  go_wp2_with fail
  refine (commit_mine h 0 [⟨0, 2, 1⟩, ⟨1, 3, 0⟩, ⟨2, 3, 0⟩, ⟨0, 2, 2⟩] 2 (by decide) (by decide) (by kernel_rfl) (by kernel_rfl) (by kernel_rfl)).mono ?_
  rintro e w' ⟨rfl, h', hx⟩; clear h hx; have h := h'; clear h'
  go_wp2_with fail
  refine (number_mine h 2 (by decide) (by kernel_rfl)).mono ?_
  rintro e w' ⟨rfl, h', hx⟩; clear h hx; have h := h'; clear h'
  go_wp2_with fail
  refine (commit_mine h 7 [⟨0, 2, 1⟩, ⟨1, 3, 0⟩, ⟨2, 3, 0⟩, ⟨0, 2, 2⟩] 2 (by decide) (by decide) (by kernel_rfl) (by kernel_rfl) (by kernel_rfl)).mono ?_
  rintro e w' ⟨rfl, h', hx⟩; clear h hx; have h := h'; clear h'
  go_wp2_with fail
  refine (last_mine h 2 (by rfl)).mono ?_
  rintro e w' ⟨rfl, h', hx⟩; clear h hx; have h := h'; clear h'
  go_wp2_with fail
  go_ret
  exact ⟨rfl, h.fr⟩

end Go.Proofs.Ytfgkocpmgoaljaa
