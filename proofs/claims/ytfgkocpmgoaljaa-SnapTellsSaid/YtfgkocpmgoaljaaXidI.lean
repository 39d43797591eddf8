/- The walks of a step of the statements, and of what is told of all transactions. The conditions: the table lies in memory as its data say. -/
import Derived.Test.YtfgkocpmgoaljaaXidH
namespace Go.Proofs.Ytfgkocpmgoaljaa
open Go.RowKit Go.Shelf Xid

set_option maxHeartbeats 1000000 in
theorem do_mine {p : Nat} {T : List One} {last : Nat} {w0 w : World} (h : Mine w0 w p T last) (kind id : Int) (h1 : T.length < 1000000) (h2 : last ≤ 1000000) :
    Calls Try.prog 17 #[.agg #[.int .u8 kind, .int .i64 id], .pointer (some ⟨p, 0, none⟩)] w fun e' w' => e' = .returned (.tuple #[.int .i64 (doA T kind id), .int .i64 (doE T kind id)]) ∧ Mine w0 w' p (doT T last kind id) (doL T last kind id) ∧ FrT xT w w' := by
  have hfa := (Fr.refl noB w).alloc (.cells #[.int .u8 kind, .int .i64 id] 30)
  have h' := h.frN hfa
  unfold doA doE doT doL
  by_cases k0 : kind = 0
  · subst k0
    rw [if_pos rfl, if_pos rfl, if_pos rfl, if_neg (by decide)]
    go_enter Try.func17, Try.ntmps17
    go_wp2_with (go_at_call 47; refine (begin_mine h' _ _ _ h1 rfl rfl rfl).mono ?_; rintro e w' ⟨rfl, h3, hx⟩)
    go_ret2
    exact ⟨rfl, h3, (FrT.ofN hfa).trans hx⟩
  · have hb0 : (kind == 0) = false := by rw [beq_eq_false_iff_ne]; exact k0
    by_cases k1 : kind = 1
    · subst k1
      rw [if_neg (by decide), if_neg (by decide), if_neg (by decide), if_pos rfl, if_pos rfl]
      clear k0 hb0
      go_enter Try.func17, Try.ntmps17
      go_wp2_with (go_at_call 34; refine (commit_mine h' _ _ _ (by omega) h2 rfl rfl rfl).mono ?_; rintro e w' ⟨rfl, h3, hx⟩)
      go_ret2
      exact ⟨rfl, h3, (FrT.ofN hfa).trans hx⟩
    · have hb1 : (kind == 1) = false := by rw [beq_eq_false_iff_ne]; exact k1
      rw [if_neg k0, if_neg k0, if_neg k0, if_neg k1, if_neg k1]
      clear k0 k1
      go_enter Try.func17, Try.ntmps17
      go_wp2_with (go_at_call 35; refine (abort_mine h' _ _ (by omega) rfl rfl).mono ?_; rintro e w' ⟨rfl, h3, hx⟩)
      go_ret2
      exact ⟨rfl, h3, (FrT.ofN hfa).trans hx⟩

end Go.Proofs.Ytfgkocpmgoaljaa
