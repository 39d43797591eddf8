/- The walks of xid's calls at nil, of slices.Clone at a table's row, of Copy, and of a step of the statements by the blocks that it turns. The conditions: the table lies in memory as its data say. -/
import Derived.Test.YtfgkocpmgoaljaaXidJ
import Derived.Deep.RegionWith
import Derived.Deep.DeepCutAuto
import Derived.BigRegion
import Derived.Deep.RegionHeld3
namespace Go.Proofs.Ytfgkocpmgoaljaa
open Go.RowKit Go.Shelf Xid

theorem Turned.more {p : Nat} {R R1 : Option Nat} {T' : List One} {l' : Nat} {w w1 w2 : World} (h1 : Fr (foot p R) w w1) (hR : ∀ r, R1 = some r → R = some r ∨ w.heap.size ≤ r) (h2 : Turned p R1 T' l' w1 w2) : Turned p R T' l' w w2 := by
  obtain ⟨R2, hT, hf, hr⟩ := h2
  refine ⟨R2, hT, h1.transX hf ?_, fun r e => ?_⟩
  · rintro k hk (rfl | e)
    · exact .inl rfl
    · rcases hR k e with e | e
      · exact .inr e
      · omega
  · rcases hr r e with e | e
    · exact hR r e
    · exact .inr (Nat.le_trans h1.size e)

set_option maxHeartbeats 1000000 in
theorem do_any {p : Nat} {R : Option Nat} {T : List One} {last : Nat} {w : World} (h : IsT w p R T last) (kind id : Int) (h1 : T.length < 1000000) (h2 : last ≤ 1000000) :
    Calls Try.prog 17 #[.agg #[.int .u8 kind, .int .i64 id], .pointer (some ⟨p, 0, none⟩)] w fun e' w' => e' = .returned (.tuple #[.int .i64 (doA T kind id), .int .i64 (doE T kind id)]) ∧ Turned p R (doT T last kind id) (doL T last kind id) w w' := by
  have hfa := (Fr.refl noB w).alloc (.cells #[.int .u8 kind, .int .i64 id] 30)
  have h' := h.frN hfa
  have hR : ∀ r, R = some r → R = some r ∨ w.heap.size ≤ r := fun _ e => .inl e
  unfold doA doE doT doL
  by_cases k0 : kind = 0
  · subst k0
    rw [if_pos rfl, if_pos rfl, if_pos rfl, if_neg (by decide)]
    go_enter Try.func17, Try.ntmps17
    go_wp2_with (go_at_call 47; refine (begin_at h' _ _ _ h1 rfl rfl rfl).mono ?_; rintro e w' ⟨rfl, h3⟩)
    go_ret2
    exact ⟨rfl, h3.more hfa.ofN hR⟩
  · have hb0 : (kind == 0) = false := by rw [beq_eq_false_iff_ne]; exact k0
    by_cases k1 : kind = 1
    · subst k1
      rw [if_neg (by decide), if_neg (by decide), if_neg (by decide), if_pos rfl, if_pos rfl]
      clear k0 hb0
      go_enter Try.func17, Try.ntmps17
      go_wp2_with (go_at_call 34; refine (commit_at h' _ _ _ (by omega) h2 rfl rfl rfl).mono ?_; rintro e w' ⟨rfl, h3⟩)
      go_ret2
      exact ⟨rfl, h3.more hfa.ofN hR⟩
    · have hb1 : (kind == 1) = false := by rw [beq_eq_false_iff_ne]; exact k1
      rw [if_neg k0, if_neg k0, if_neg k0, if_neg k1, if_neg k1]
      clear k0 k1
      go_enter Try.func17, Try.ntmps17
      go_wp2_with (go_at_call 35; refine (abort_at h' _ _ (by omega) rfl rfl).mono ?_; rintro e w' ⟨rfl, h3⟩)
      go_ret2
      exact ⟨rfl, h3.more hfa.ofN hR⟩

/-- What a copy of a table's row is. -/
def RowNew (w w' : World) (T : List One) (v' : Value) : Prop := w'.ownsRow 0 73 3 v' T.length (rowC T) ∧ Fr noB w w' ∧ ∀ r, v'.ownBlock = some r → w.heap.size ≤ r

theorem one_cells (T : List One) : ∀ u ∈ rowC T, u.oneCell' = true := by
  intro u hu
  simp only [rowC, List.mem_flatMap, oneC, List.mem_cons, List.not_mem_nil, or_false] at hu
  obtain ⟨x, _, rfl | rfl | rfl⟩ := hu <;> rfl

set_option maxHeartbeats 1000000 in
theorem clone_any (v : Value) (T : List One) (w : World) (hown : w.ownsRow 0 73 3 v T.length (rowC T)) (hlen : T.length ≤ 1000000) :
    Calls Try.prog 59 #[v] w fun e w' => ∃ a c, e = .returned (.slice a T.length c) ∧ RowNew w w' T (.slice a T.length c) := by
  have hown0 := hown
  obtain ⟨hl, ⟨rfl, h0⟩ | ⟨g, cap, cur, rfl, h3, h4, h5, h6, h7, h8⟩⟩ := hown
  · have hnil : ∀ W : World, (binOp .eql 66 (.slice none 0 0) (.slice none 0 0)).run Try.prog W = .ok (.bool true) W := fun _ => rfl
    go_enter Try.func59, Try.ntmps59
    go_wp2
    go_ret
    rw [h0] at hown0 ⊢
    exact ⟨none, 0, rfl, by unfold RowNew; rw [h0]; exact ⟨hown0, Fr.refl _ _, fun r e => by cases e⟩⟩
  · obtain ⟨i0, hi, hz0, hz1, hz2⟩ := info_parts infoOne
    have hcell : ∀ j u, (rowC T)[j]? = some u → w.cell? ((⟨g, 0, none⟩ : Addr).add j) = some u := by
      intro j u hj
      rw [addr_add]
      exact row_cell hown0 hj
    have hnil : ∀ (n c : Nat) (W : World), (binOp .eql 66 (.slice (some ⟨g, 0, none⟩) n c) (.slice none 0 0)).run Try.prog W = .ok (.bool false) W := fun _ _ _ => rfl
    by_cases hn : 0 < T.length
    · go_enter Try.func59, Try.ntmps59
      have hrow0 : (w.alloc (.cells #[] 73)).ownsRow w.heap.size 73 3 (.slice (some ⟨w.heap.size, 0, none⟩) 0 0) 0 [] :=
        ⟨rfl, .inr ⟨w.heap.size, 0, #[], rfl, Nat.le_refl _, obj_alloc_new _ _, Nat.le_refl _, by unfold maxLen; omega, rfl, rfl⟩⟩
      have hsz : w.heap.size ≤ (w.alloc (.cells #[] 73)).heap.size := by simp
      have hcell' : ∀ j u, (rowC T)[j]? = some u → (w.alloc (.cells #[] 73)).cell? ((⟨g, 0, none⟩ : Addr).add j) = some u := by
        intro j u hj
        have := hcell j u hj
        rw [addr_add] at this ⊢
        rw [cell_of_obj (obj_alloc h4 _)]; rw [cell_of_obj h4] at this; exact this
      go_wp2_with (at_builtin; go_must (refine wpList_append_row _ rfl _ _ 66 rfl w.heap.size 73 i0 (.agg #[.int .i64 0, .int .u8 0, .int .i64 0]) 3 24 Try.underlying66 hi hz0 hz1 hz2 rfl (by decide) (.slice (some ⟨w.heap.size, 0, none⟩) 0 0) 0 [] rfl hrow0 ⟨g, 0, none⟩ T.length cap (rowC T) rfl (rowC_length T) hcell' (one_cells T) (by unfold maxLen; omega) (by omega) hsz hn ?_); intro g' cap' w' ho hg hf)
      go_ret
      rw [Nat.zero_add] at ho
      have hgr : w.heap.size ≤ g' := by
        rcases hf with hf | hf
        · cases hf; exact Nat.le_refl _
        · exact Nat.le_trans hsz hf
      exact ⟨_, _, rfl, ownsRow_mono ho (Nat.zero_le _), ((Fr.refl _ _).alloc _).grown hg (fun k e hk => by cases e; exact absurd hk (Nat.lt_irrefl _)), fun r e => by cases e; exact hgr⟩
    · obtain rfl : T = [] := List.length_eq_zero_iff.1 (by omega)
      simp only [List.length_nil] at *
      go_enter Try.func59, Try.ntmps59
      go_wp2_with fail
      go_ret
      exact ⟨_, _, rfl, ⟨rfl, .inr ⟨w.heap.size, 0, #[], rfl, Nat.zero_le _, obj_alloc_new _ _, Nat.le_refl _, by unfold maxLen; omega, rfl, rfl⟩⟩, (Fr.refl _ _).alloc _, fun r e => by cases e; exact Nat.le_refl _⟩

set_option maxHeartbeats 1000000 in
theorem copy_any (p : Nat) (R : Option Nat) (T : List One) (last : Nat) (w : World) (hT : IsT w p R T last) (hlen : T.length ≤ 1000000) :
    Calls Try.prog 48 #[.pointer (some ⟨p, 0, none⟩)] w fun e w' => ∃ q R', e = .returned (.pointer (some ⟨q, 0, none⟩)) ∧ IsT w' q R' T last ∧ Fr noB w w' ∧ w.heap.size ≤ q ∧ ∀ r, R' = some r → w.heap.size ≤ r := by
  obtain ⟨v, hv, hown, _⟩ := hT.row
  obtain ⟨a0, cap0, hh0, _⟩ := hT.head
  obtain rfl : v = .slice a0 T.length cap0 := by rw [cell_of_obj hv] at hh0; simpa using hh0
  have hc0 : w.cell? ⟨p, 0, none⟩ = some (.slice a0 T.length cap0) := by rw [cell_of_obj hv]; rfl
  have hc1 : w.cell? ⟨p, 1, none⟩ = some (.int .i64 last) := by rw [cell_of_obj hv]; rfl
  have hd0 : w.drew.cell? ⟨p, 0, none⟩ = some (.slice a0 T.length cap0) := hc0
  have hd1 : w.drew.cell? ⟨p, 1, none⟩ = some (.int .i64 last) := hc1
  go_enter Try.func48, Try.ntmps48
  have HW := Lib.hid hT.wf
  clear hh0 hT
  go_upto_region 3 with fail
  have hC := clone_any _ T w.drew hown hlen
  clear hv hown
  go_region_held3 (fun W => W.cell? ⟨p, 0, none⟩ = some (.slice a0 T.length cap0) ∧ W.cell? ⟨p, 1, none⟩ = some (.int .i64 last)) (first | exact ⟨hc0, hc1⟩ | exact ⟨hd0, hd1⟩ | exact ⟨hF.cell (fun x => x) hd0, hF.cell (fun x => x) hd1⟩ | exact ⟨(hF.alloc _).cell (fun x => x) hd0, (hF.alloc _).cell (fun x => x) hd1⟩) (first | (go_at_call 59; refine hC.mono ?_; rintro e w' ⟨a1, c1, rfl, hN, hF, hB⟩))
  go_wp2_with fail
  go_ret
  have hF0 : Fr noB w w' := ((Fr.refl noB w).drew).trans hF
  exact ⟨w'.heap.size, _, rfl, ⟨⟨_, obj_alloc_new _ _, ((Fr.refl noB w').alloc _).row hN, rfl⟩, HW.out⟩, hF0.alloc _, hF0.size, hB⟩

end Go.Proofs.Ytfgkocpmgoaljaa
