/- The walks of package snap over a table of one's own, of a step of the statements over snapshots, and of their examples. The conditions: the table lies in memory as its data say. -/
import Derived.Test.YtfgkocpmgoaljaaSnapW
namespace Go.Proofs.Ytfgkocpmgoaljaa
open Go.RowKit Go.Shelf Xid

theorem viewer_cells {w : World} {q : Nat} {a b : Value} {t : TypeId} (h : w.heap[q]? = some (.cells #[a, b] t (0, 0))) : w.cell? ⟨q, 0, none⟩ = some a ∧ w.cell? ⟨q, 1, none⟩ = some b := by
  rw [cell_of_obj h, cell_of_obj h]; exact ⟨rfl, rfl⟩
theorem viewer_new (w : World) (a b : Value) : Fr noB w (w.alloc (.cells #[a, b] 50)) ∧ (w.alloc (.cells #[a, b] 50)).heap[w.heap.size]? = some (.cells #[a, b] 50 (0, 0)) :=
  ⟨(Fr.refl _ _).alloc _, obj_alloc_new w _⟩

theorem own_m {p : Nat} {T : List One} {last : Nat} {w0 w : World} {id : Int} (h : Mine w0 w p T last) (att me : Int) (b : Bool) (h1 : T.length ≤ 1000000) (hb : ownOf T me id = b) :
    Calls Try.prog 37 #[.agg #[.int .i64 att, .int .i64 me], .pointer (some ⟨p, 0, none⟩), .int .i64 id] w fun e w' => e = .returned (.bool b) ∧ Mine w0 w' p T last ∧ Fr noB w w' := by
  subst hb
  exact (own_t att me h.tells h1).mono fun _ _ ⟨h2, h3⟩ => ⟨h2, h.frN h3, h3⟩
theorem sees_m {p : Nat} {T : List One} {last : Nat} {w0 w : World} {id : Int} (h : Mine w0 w p T last) (att me : Int) (b : Bool) (h1 : T.length ≤ 1000000) (hb : seesOf T att me id = b) :
    Calls Try.prog 38 #[.agg #[.int .i64 att, .int .i64 me], .pointer (some ⟨p, 0, none⟩), .int .i64 id] w fun e w' => e = .returned (.bool b) ∧ Mine w0 w' p T last ∧ Fr noB w w' := by
  subst hb
  exact (sees_t att me h.tells h1).mono fun _ _ ⟨h2, h3⟩ => ⟨h2, h.frN h3, h3⟩
theorem later_m {p : Nat} {T : List One} {last : Nat} {w0 w : World} {id : Int} (h : Mine w0 w p T last) (att me : Int) (b : Bool) (h1 : T.length ≤ 1000000) (hb : laterOf T att me id = b) :
    Calls Try.prog 39 #[.agg #[.int .i64 att, .int .i64 me], .pointer (some ⟨p, 0, none⟩), .int .i64 id] w fun e w' => e = .returned (.bool b) ∧ Mine w0 w' p T last ∧ Fr noB w w' := by
  subst hb
  exact (later_t att me h.tells h1).mono fun _ _ ⟨h2, h3⟩ => ⟨h2, h.frN h3, h3⟩

theorem now_m {p : Nat} {T : List One} {last : Nat} {w0 w : World} (h : Mine w0 w p T last) (me : Int) :
    Calls Try.prog 36 #[.pointer (some ⟨p, 0, none⟩), .int .i64 me] w fun e w' => e = .returned (.agg #[.int .i64 last, .int .i64 me]) ∧ Mine w0 w' p T last ∧ Fr noB w w' :=
  (now_t me h.tells).mono fun _ _ ⟨h2, h3⟩ => ⟨h2, h.frN h3, h3⟩

theorem own_b {pv : Value} {T : List One} {last : Nat} {w : World} {id : Int} (h : Tells w pv T last) (att me : Int) (b : Bool) (h1 : T.length ≤ 1000000) (hb : ownOf T me id = b) :
    Calls Try.prog 37 #[.agg #[.int .i64 att, .int .i64 me], pv, .int .i64 id] w fun e w' => e = .returned (.bool b) ∧ Fr noB w w' := hb ▸ own_t att me h h1
theorem sees_b {pv : Value} {T : List One} {last : Nat} {w : World} {id : Int} (h : Tells w pv T last) (att me : Int) (b : Bool) (h1 : T.length ≤ 1000000) (hb : seesOf T att me id = b) :
    Calls Try.prog 38 #[.agg #[.int .i64 att, .int .i64 me], pv, .int .i64 id] w fun e w' => e = .returned (.bool b) ∧ Fr noB w w' := hb ▸ sees_t att me h h1
theorem later_b {pv : Value} {T : List One} {last : Nat} {w : World} {id : Int} (h : Tells w pv T last) (att me : Int) (b : Bool) (h1 : T.length ≤ 1000000) (hb : laterOf T att me id = b) :
    Calls Try.prog 39 #[.agg #[.int .i64 att, .int .i64 me], pv, .int .i64 id] w fun e w' => e = .returned (.bool b) ∧ Fr noB w w' := hb ▸ later_t att me h h1
theorem nil_tells (w : World) : Tells w (.pointer none) [] 0 := .inl ⟨rfl, rfl, rfl⟩

set_option maxHeartbeats 1000000 in
theorem do10_mine {p : Nat} {T : List One} {last : Nat} {w0 w : World} (h : Mine w0 w p T last) (kind id : Int) (h1 : T.length < 1000000) (h2 : last ≤ 1000000) :
    Calls Try.prog 41 #[.agg #[.int .u8 kind, .int .i64 id], .pointer (some ⟨p, 0, none⟩)] w fun e' w' => e' = .returned (.tuple #[]) ∧ Mine w0 w' p (doT T last kind id) (doL T last kind id) ∧ FrT xT w w' := by
  have hfa := (Fr.refl noB w).alloc (.cells #[.int .u8 kind, .int .i64 id] 54)
  have h' := h.frN hfa
  unfold doT doL
  by_cases k0 : kind = 0
  · subst k0
    rw [if_pos rfl, if_neg (by decide)]
    go_enter Try.func41, Try.ntmps41
    go_wp2_with (go_at_call 47; refine (begin_mine h' _ _ _ h1 rfl rfl rfl).mono ?_; rintro e w' ⟨rfl, h3, hx⟩)
    go_end0
    exact ⟨rfl, h3, (FrT.ofN hfa).trans hx⟩
  · have hb0 : (kind == 0) = false := by rw [beq_eq_false_iff_ne]; exact k0
    by_cases k1 : kind = 1
    · subst k1
      rw [if_neg (by decide), if_pos rfl, if_pos rfl]
      clear k0 hb0
      go_enter Try.func41, Try.ntmps41
      go_wp2_with (go_at_call 34; refine (commit_mine h' _ _ _ (by omega) h2 rfl rfl rfl).mono ?_; rintro e w' ⟨rfl, h3, hx⟩)
      go_end0
      exact ⟨rfl, h3, (FrT.ofN hfa).trans hx⟩
    · have hb1 : (kind == 1) = false := by rw [beq_eq_false_iff_ne]; exact k1
      rw [if_neg k0, if_neg k1, if_neg k1]
      clear k0 k1
      go_enter Try.func41, Try.ntmps41
      go_wp2_with (go_at_call 35; refine (abort_mine h' _ _ (by omega) rfl rfl).mono ?_; rintro e w' ⟨rfl, h3, hx⟩)
      go_end0
      exact ⟨rfl, h3, (FrT.ofN hfa).trans hx⟩

set_option maxRecDepth 100000 in
set_option maxHeartbeats 4000000 in
theorem awake_any (w : World) : Calls Try.prog 40 #[] w fun e w' => e = .returned (.bool true) ∧ Fr noB w w' := by
  go_enter Try.func40, Try.ntmps40
  go_wp2_with fail
  refine (new_mine w w (Fr.refl _ _)).mono ?_
  rintro e w' ⟨rfl, h⟩
  generalize w.heap.size = p at *
  go_wp2_with fail
  refine (begin_mine h 1 0 [⟨0, 1, 0⟩] (by decide) (by kernel_rfl) (by kernel_rfl) (by kernel_rfl)).mono ?_
  rintro e w' ⟨rfl, h', hx⟩; clear h; have h := h'; clear h'
  clear hx
  go_wp2_with fail
  refine (begin_mine h 2 0 [⟨0, 1, 0⟩, ⟨1, 1, 0⟩] (by decide) (by kernel_rfl) (by kernel_rfl) (by kernel_rfl)).mono ?_
  rintro e w' ⟨rfl, h', hx⟩; clear h; have h := h'; clear h'
  clear hx
  go_wp2_with fail
  refine (begin_mine h 3 0 [⟨0, 1, 0⟩, ⟨1, 1, 0⟩, ⟨0, 1, 0⟩] (by decide) (by kernel_rfl) (by kernel_rfl) (by kernel_rfl)).mono ?_
  rintro e w' ⟨rfl, h', hx⟩; clear h; have h := h'; clear h'
  clear hx
  go_wp2_with fail
  refine (now_m h 3).mono ?_
  rintro e w' ⟨rfl, h', hx⟩; clear h; have h := h'; clear h'
  clear hx
  obtain ⟨hf, hv⟩ := viewer_new w' (.int .i64 0) (.int .i64 3)
  have h := h.frN hf
  go_wp2_with fail
  clear hf; generalize w'.alloc (.cells #[.int .i64 0, .int .i64 3] 50) = w'' at *
  generalize w'.heap.size = q0 at *
  obtain ⟨hva, hvb⟩ := viewer_cells hv
  go_wp2_with fail
  refine (sees_m h 0 3 true (by decide) (by kernel_rfl)).mono ?_
  rintro e w' ⟨rfl, h', hx⟩; clear h; have h := h'; clear h'
  have hv := hx.obj (fun x => x) hv; obtain ⟨hva, hvb⟩ := viewer_cells hv
  clear hx
  go_wp2_with fail
  refine (sees_m h 0 3 false (by decide) (by kernel_rfl)).mono ?_
  rintro e w' ⟨rfl, h', hx⟩; clear h; have h := h'; clear h'
  have hv := hx.obj (fun x => x) hv; obtain ⟨hva, hvb⟩ := viewer_cells hv
  clear hx
  go_wp2_with fail
  refine (later_m h 0 3 false (by decide) (by kernel_rfl)).mono ?_
  rintro e w' ⟨rfl, h', hx⟩; clear h; have h := h'; clear h'
  have hv := hx.obj (fun x => x) hv; obtain ⟨hva, hvb⟩ := viewer_cells hv
  clear hx
  go_wp2_with fail
  refine (commit_mine h 0 [⟨0, 2, 1⟩, ⟨1, 2, 0⟩, ⟨0, 1, 0⟩] 1 (by decide) (by decide) (by kernel_rfl) (by kernel_rfl) (by kernel_rfl)).mono ?_
  rintro e w' ⟨rfl, h', hx⟩; clear h; have h := h'; clear h'
  have hv := hx.obj hv (by decide); obtain ⟨hva, hvb⟩ := viewer_cells hv
  clear hx
  go_wp2_with fail
  refine (now_m h 3).mono ?_
  rintro e w' ⟨rfl, h', hx⟩; clear h; have h := h'; clear h'
  have hv := hx.obj (fun x => x) hv; obtain ⟨hva, hvb⟩ := viewer_cells hv
  clear hx
  obtain ⟨hf, hw⟩ := viewer_new w' (.int .i64 1) (.int .i64 3)
  have h := h.frN hf
  have hv := hf.obj (fun x => x) hv; obtain ⟨hva, hvb⟩ := viewer_cells hv
  go_wp2_with fail
  clear hf; generalize w'.alloc (.cells #[.int .i64 1, .int .i64 3] 50) = w'' at *
  generalize w'.heap.size = q1 at *
  obtain ⟨hwa, hwb⟩ := viewer_cells hw
  go_wp2_with fail
  refine (sees_m h 1 3 true (by decide) (by kernel_rfl)).mono ?_
  rintro e w' ⟨rfl, h', hx⟩; clear h; have h := h'; clear h'
  have hv := hx.obj (fun x => x) hv; obtain ⟨hva, hvb⟩ := viewer_cells hv
  have hw := hx.obj (fun x => x) hw; obtain ⟨hwa, hwb⟩ := viewer_cells hw
  clear hx
  go_wp2_with fail
  refine (sees_m h 1 3 true (by decide) (by kernel_rfl)).mono ?_
  rintro e w' ⟨rfl, h', hx⟩; clear h; have h := h'; clear h'
  have hv := hx.obj (fun x => x) hv; obtain ⟨hva, hvb⟩ := viewer_cells hv
  have hw := hx.obj (fun x => x) hw; obtain ⟨hwa, hwb⟩ := viewer_cells hw
  clear hx
  go_wp2_with fail
  refine (sees_m h 0 3 false (by decide) (by kernel_rfl)).mono ?_
  rintro e w' ⟨rfl, h', hx⟩; clear h; have h := h'; clear h'
  have hv := hx.obj (fun x => x) hv; obtain ⟨hva, hvb⟩ := viewer_cells hv
  have hw := hx.obj (fun x => x) hw; obtain ⟨hwa, hwb⟩ := viewer_cells hw
  clear hx
  go_wp2_with fail
  refine (later_m h 0 3 true (by decide) (by kernel_rfl)).mono ?_
  rintro e w' ⟨rfl, h', hx⟩; clear h; have h := h'; clear h'
  have hv := hx.obj (fun x => x) hv; obtain ⟨hva, hvb⟩ := viewer_cells hv
  have hw := hx.obj (fun x => x) hw; obtain ⟨hwa, hwb⟩ := viewer_cells hw
  clear hx
  go_wp2_with fail
  refine (own_m h 1 3 false (by decide) (by kernel_rfl)).mono ?_
  rintro e w' ⟨rfl, h', hx⟩; clear h; have h := h'; clear h'
  have hv := hx.obj (fun x => x) hv; obtain ⟨hva, hvb⟩ := viewer_cells hv
  have hw := hx.obj (fun x => x) hw; obtain ⟨hwa, hwb⟩ := viewer_cells hw
  clear hx
  go_wp2_with fail
  go_ret
  exact ⟨rfl, h.fr⟩

end Go.Proofs.Ytfgkocpmgoaljaa
