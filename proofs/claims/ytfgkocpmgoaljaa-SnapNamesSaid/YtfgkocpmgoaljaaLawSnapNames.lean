/- The walk of the statement SnapNames. No condition. -/
import Derived.Test.YtfgkocpmgoaljaaSnapX
namespace Go.Proofs.Ytfgkocpmgoaljaa
open Go.RowKit Go.Shelf Xid

set_option maxRecDepth 100000 in
set_option maxHeartbeats 4000000 in
theorem snames_law (w : World) : Calls Try.prog 8 #[] w fun e w' => e = .returned (.bool true) ∧ Fr noB w w' := by
  go_enter Try.func8, Try.ntmps8
  go_wp2_with fail
  refine (now_t 3 (nil_tells _)).mono ?_
  rintro e w1 ⟨rfl, hf1⟩
  go_wp2_with fail
  obtain ⟨hf2, hv⟩ := viewer_new w1 (.int .i64 0) (.int .i64 3)
  have hf := hf1.trans hf2
  clear hf1 hf2
  generalize w1.alloc (.cells #[.int .i64 0, .int .i64 3] 50) = w2 at *
  generalize w1.heap.size = q at *
  refine (new_mine w2 w2 (Fr.refl _ _)).mono ?_
  rintro e w' ⟨rfl, h⟩
  generalize w2.heap.size = p at *
  have hv := h.fr.obj (fun x => x) hv
  go_wp2_with fail
  refine (now_m h 0).mono ?_
  rintro e w' ⟨rfl, h', hx⟩; clear h; have h := h'; clear h'
  have hv := hx.obj (fun x => x) hv; obtain ⟨hva, hvb⟩ := viewer_cells hv
  clear hx
  obtain ⟨hf, hn⟩ := viewer_new w' (.int .i64 0) (.int .i64 0)
  have h := h.frN hf
  have hv := hf.obj (fun x => x) hv; obtain ⟨hva, hvb⟩ := viewer_cells hv
  go_wp2_with fail
  clear hf; generalize w'.alloc (.cells #[.int .i64 0, .int .i64 0] 50) = w'' at *
  generalize w'.heap.size = q0 at *
  obtain ⟨hna, hnb⟩ := viewer_cells hn
  go_wp2_with fail
  refine (own_b (nil_tells _) 0 3 false (by decide) (by kernel_rfl)).mono ?_
  rintro e w' ⟨rfl, hx⟩; have h := h.frN hx
  have hv := hx.obj (fun x => x) hv; obtain ⟨hva, hvb⟩ := viewer_cells hv
  have hn := hx.obj (fun x => x) hn; obtain ⟨hna, hnb⟩ := viewer_cells hn
  clear hx
  go_wp2_with fail
  refine (sees_b (nil_tells _) 0 3 false (by decide) (by kernel_rfl)).mono ?_
  rintro e w' ⟨rfl, hx⟩; have h := h.frN hx
  have hv := hx.obj (fun x => x) hv; obtain ⟨hva, hvb⟩ := viewer_cells hv
  have hn := hx.obj (fun x => x) hn; obtain ⟨hna, hnb⟩ := viewer_cells hn
  clear hx
  go_wp2_with fail
  refine (later_b (nil_tells _) 0 3 false (by decide) (by kernel_rfl)).mono ?_
  rintro e w' ⟨rfl, hx⟩; have h := h.frN hx
  have hv := hx.obj (fun x => x) hv; obtain ⟨hva, hvb⟩ := viewer_cells hv
  have hn := hx.obj (fun x => x) hn; obtain ⟨hna, hnb⟩ := viewer_cells hn
  clear hx
  go_wp2_with fail
  refine (own_m h 0 0 false (by decide) (by kernel_rfl)).mono ?_
  rintro e w' ⟨rfl, h', hx⟩; clear h; have h := h'; clear h'
  have hv := hx.obj (fun x => x) hv; obtain ⟨hva, hvb⟩ := viewer_cells hv
  have hn := hx.obj (fun x => x) hn; obtain ⟨hna, hnb⟩ := viewer_cells hn
  clear hx
  go_wp2_with fail
  refine (sees_m h 0 0 false (by decide) (by kernel_rfl)).mono ?_
  rintro e w' ⟨rfl, h', hx⟩; clear h; have h := h'; clear h'
  have hv := hx.obj (fun x => x) hv; obtain ⟨hva, hvb⟩ := viewer_cells hv
  have hn := hx.obj (fun x => x) hn; obtain ⟨hna, hnb⟩ := viewer_cells hn
  clear hx
  go_wp2_with fail
  refine (later_m h 0 0 false (by decide) (by kernel_rfl)).mono ?_
  rintro e w' ⟨rfl, h', hx⟩; clear h; have h := h'; clear h'
  have hv := hx.obj (fun x => x) hv; obtain ⟨hva, hvb⟩ := viewer_cells hv
  have hn := hx.obj (fun x => x) hn; obtain ⟨hna, hnb⟩ := viewer_cells hn
  clear hx
  go_wp2_with fail
  refine (awake_any _).mono ?_
  rintro e w' ⟨rfl, hf3⟩
  go_wp2_with fail
  go_ret
  exact ⟨rfl, (hf.trans h.fr).trans hf3⟩

end Go.Proofs.Ytfgkocpmgoaljaa
