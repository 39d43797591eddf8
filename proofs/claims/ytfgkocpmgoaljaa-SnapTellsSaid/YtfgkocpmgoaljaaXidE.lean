/- The walk of xid's end: one is made of another state, and what stands below it. The conditions: the table lies in memory as its data say. -/
import Derived.Test.YtfgkocpmgoaljaaXidD
import Derived.StillTailTactics
namespace Go.Proofs.Ytfgkocpmgoaljaa
open Go.RowKit Go.Shelf Xid
attribute [local go_sem] Oper.semAt_some

theorem wf_set {T : List One} (h : WF T) {k : Nat} (hk : k < T.length) (x : One) (h1 : x.parent = (gt T k).parent) (h2 : x.state < 256) : WF (T.set k x) := by
  constructor <;> intro j hj <;> rw [List.length_set] at hj <;> rw [gt_set hk]
  · split
    · rename_i e; subst e; rw [h1]; exact h.par j hj
    · exact h.par j hj
  · split
    · exact h2
    · exact h.st j hj

theorem rowC_set (T : List One) (k : Nat) (hk : k < T.length) (x : One) (j : Nat) (hj : j < 3) (v : Value) (hx : oneC x = (oneC (gt T k)).set j v) : rowC (T.set k x) = (rowC T).set (k * 3 + j) v := by
  induction T generalizing k with
  | nil => simp at hk
  | cons y T ih =>
    have hl : (oneC y).length = 3 := rfl
    cases k with
    | zero =>
      simp only [rowC, List.set_cons_zero, List.flatMap_cons, Nat.zero_mul, Nat.zero_add]
      rw [List.set_append_left _ _ (by omega), hx]
      rfl
    | succ k =>
      have := ih k (by simpa using hk) hx
      simp only [rowC, List.set_cons_succ, List.flatMap_cons] at this ⊢
      rw [List.set_append_right _ _ (by omega), this, hl]
      congr 2
      omega

/-- A field of a one is written. -/
theorem IsT.setOne {w : World} {p r : Nat} {T : List One} {last : Nat} (h : IsT w p (some r) T last) {k : Nat} (hk : k < T.length) (x : One) (h1 : x.parent = (gt T k).parent) (h2 : x.state < 256) (j : Nat) (hj : j < 3) (v : Value)
    (hx : oneC x = (oneC (gt T k)).set j v) : IsT (w.setCell ⟨r, k * 3 + j, none⟩ v) p (some r) (T.set k x) last := by
  obtain ⟨u, hv, ⟨ho, ho2⟩, hR⟩ := h.row
  have hne := h.ne
  rcases ho2 with ⟨rfl, h0⟩ | ⟨g, cap, cur, rfl, hb, hc, hn1, hn2, hn3, hn4⟩
  · omega
  · obtain rfl : g = r := by simpa [Value.ownBlock] using hR
    refine ⟨⟨_, obj_setCell_other hv _ _ (by dsimp only; intro e; exact hne (by rw [e])), ?_, hR⟩, wf_set h.wf hk x h1 h2⟩
    rw [List.length_set]
    refine ⟨by rw [rowC_length, List.length_set], .inr ⟨g, cap, _, rfl, hb, obj_setCell hc _ v, hn1, hn2, ?_, ?_⟩⟩
    · rw [Array.size_setIfInBounds]; exact hn3
    · rw [Array.toList_setIfInBounds, List.take_set, hn4, rowC_set T k hk x j hj v hx]

/-- end's loop: all up to the one numbered m have been seen to. -/
structure JEnd (s p r : Nat) (T : List One) (last id frm to : Nat) (w : World) (rec : LoopState → Option Code → Loop) (m : Nat) (W : World) : Prop where
  tab : IsT W p (some r) (endP T id frm to m) last
  tb : W.heap[s]? = some (.cells #[.pointer (some ⟨p, 0, none⟩)] 23 (0, 0))
  frb : W.heap[s + 1]? = some (.cells #[.int .u8 frm] 5 (0, 0))
  tob : W.heap[s + 2]? = some (.cells #[.int .u8 to] 5 (0, 0))
  box : W.heap[s + 3]? = some (.cells #[.pointer (some ⟨p, 0, none⟩)] 23 (0, 0))
  ids : W.heap[s + 4]? = some (.cells #[.int .i64 id] 3 (0, 0))
  rcd : Rcd W (s + 5) rec .ready none
  fr : Fr (fun k => k = r) w W

set_option maxHeartbeats 2000000 in
theorem end_ok (p : Nat) (R : Option Nat) (T : List One) (last : Nat) (m frm to : Nat) (w : World) (hT : IsT w p R T last) (hlen : T.length ≤ 1000000) (hm : m < T.length) (hs : (gt T m).state = 1) (hto : to < 256) :
    Calls Try.prog 54 #[.pointer (some ⟨p, 0, none⟩), .int .i64 ((m : Int) + 1), .int .u8 frm, .int .u8 to] w fun e w' => e = .returned (.int .i64 0) ∧ IsT w' p R (endP T (m + 1) frm to T.length) last ∧ Fr (fun k => R = some k) w w' := by
  have hF : ∀ f, Fence.wide.fn f := fun _ => trivial
  have hmix : Try.prog.follows .mixedOrders = true := by kernel_rfl
  obtain ⟨r, cap, rfl, hne, hc0, hc1, hc2, hc3, hfz⟩ := hT.ones hm
  rw [hs] at hc2
  have hd : inB T.length ((m : Int) + 1) = true := inB_yes (by omega)
  refine (callsIn_wide (n := 9)).1 ?_
  refine callsIn_of_wp_marks Try.func54 rfl trivial ?_ rfl
  simp only [Try.ntmps54, List.size_toArray, List.length_cons, List.length_nil, Nat.reduceAdd, Nat.reduceSub, Array.replicate_succ, Array.replicate_zero, List.push_toArray, List.append_toArray, List.nil_append, List.cons_append]
  have HS := Lib.hid hs
  clear hs
  refine wpIn_wide.2 ?_
  go_wp2_with fail
  obtain ⟨W0, hW0⟩ : ∃ W0, ((w.alloc (.cells #[.pointer (some ⟨p, 0, none⟩)] 23)).alloc (.cells #[.int .u8 frm] 5)).alloc (.cells #[.int .u8 to] 5) = W0 := ⟨_, rfl⟩
  have hsz : W0.heap.size = w.heap.size + 3 := by rw [← hW0]; simp
  have hb0 : W0.heap[w.heap.size]? = some (.cells #[.pointer (some ⟨p, 0, none⟩)] 23 (0, 0)) := by rw [← hW0]; exact obj_alloc (obj_alloc (obj_alloc_new _ _) _) _
  have hb1 : W0.heap[w.heap.size + 1]? = some (.cells #[.int .u8 frm] 5 (0, 0)) := by
    rw [← hW0]; have := obj_alloc_new (w.alloc (.cells #[.pointer (some ⟨p, 0, none⟩)] 23)) (.cells #[.int .u8 frm] 5); rw [World.size_alloc] at this; exact obj_alloc this _
  have hb2 : W0.heap[w.heap.size + 2]? = some (.cells #[.int .u8 to] 5 (0, 0)) := by
    rw [← hW0]; have := obj_alloc_new ((w.alloc (.cells #[.pointer (some ⟨p, 0, none⟩)] 23)).alloc (.cells #[.int .u8 frm] 5)) (.cells #[.int .u8 to] 5); rw [World.size_alloc, World.size_alloc] at this; exact this
  have hf0 : Fr noB w W0 := by rw [← hW0]; exact (((Fr.refl _ _).alloc _).alloc _).alloc _
  rw [hW0]
  clear hW0
  have hT0 := hT.frN hf0
  have hrlt := hT.lt (k := r) (.inr rfl)
  obtain ⟨r', cap', hr', hne', hd0, hd1, hd2, hd3, hdz⟩ := hT0.ones hm
  obtain rfl : r = r' := by simpa using hr'
  rw [HS.out] at hd2
  have hbc0 : W0.cell? ⟨w.heap.size, 0, none⟩ = some (.pointer (some ⟨p, 0, none⟩)) := by rw [cell_of_obj hb0]; rfl
  have hbc1 : W0.cell? ⟨w.heap.size + 1, 0, none⟩ = some (.int .u8 frm) := by rw [cell_of_obj hb1]; rfl
  have hbc2 : W0.cell? ⟨w.heap.size + 2, 0, none⟩ = some (.int .u8 to) := by rw [cell_of_obj hb2]; rfl
  have HSZ := Lib.hid hsz
  clear hc0 hc1 hc2 hc3 hfz hr' hsz
  go_wp2_with (first | (go_at_call 51; refine (is_any p _ _ _ _ _ hd0).mono ?_; rintro e w' ⟨rfl, rfl⟩; rw [hd]) | (go_at_call 52; refine (at_any p r _ cap' m _ _ hd0 hm (by omega) (by omega)).mono ?_; rintro e w' ⟨rfl, rfl⟩))
  refine wp_region_still_tail 6 (by kernel_rfl) (by kernel_rfl) ?_
  simp only [List.take_succ_cons, List.take_zero, List.drop_succ_cons, List.drop_zero]
  repeat still_step
  still_call ((at_any p r _ cap' m _ W0.drew hd0 hm (by omega) (by omega)).mono fun _ _ h => ⟨h.1, h.2.symm⟩)
  repeat still_step
  refine wpStill_nil ?_
  change wpList _ _ _ _ _ W0.drew
  have hfd : Fr noB w W0.drew := hf0.drew
  have hTd : IsT W0.drew p (some r) T last := hT0.frN (Fr.refl _ _).drew
  have hcd : W0.drew.cell? ⟨r, m * 3 + 1, none⟩ = some (.int .u8 (1 : Nat)) := hd2
  have hzd : ∀ o, W0.drew.frozen? ⟨r, o, none⟩ = false := hdz
  have hsd : W0.drew.heap.size = w.heap.size + 3 := HSZ.out
  have hbd0 : W0.drew.heap[w.heap.size]? = some (.cells #[.pointer (some ⟨p, 0, none⟩)] 23 (0, 0)) := hb0
  have hbd1 : W0.drew.heap[w.heap.size + 1]? = some (.cells #[.int .u8 frm] 5 (0, 0)) := hb1
  have hbd2 : W0.drew.heap[w.heap.size + 2]? = some (.cells #[.int .u8 to] 5 (0, 0)) := hb2
  have hcd0 : W0.drew.cell? ⟨w.heap.size, 0, none⟩ = some (.pointer (some ⟨p, 0, none⟩)) := hbc0
  clear hf0 hT0 hd2 hdz HSZ hb0 hb1 hb2 hbc0 hbc1 hbc2 hd0 hd1 hd3
  generalize W0.drew = W1 at *
  go_wp2_with (go_at_call 61; refine (below_any p _ _).mono ?_; rintro e w' ⟨rfl, rfl⟩)
  obtain ⟨W2, hW2⟩ : ∃ W2, ((W1.setCell ⟨r, m * 3 + 1, none⟩ (.int .u8 to)).alloc (.cells #[.pointer (some ⟨p, 0, none⟩)] 23)).alloc (.cells #[.int .i64 ((m : Int) + 1)] 3) = W2 := ⟨_, rfl⟩
  have hsz1 : (W1.setCell ⟨r, m * 3 + 1, none⟩ (.int .u8 to)).heap.size = w.heap.size + 3 := by simp [World.setCell, hsd]
  have hTs : IsT (W1.setCell ⟨r, m * 3 + 1, none⟩ (.int .u8 to)) p (some r) (endP T (m + 1) frm to (m + 1)) last := by
    rw [endP_start hT.wf (by omega) (by omega)]
    exact hTd.setOne hm { gt T m with state := to } rfl hto 1 (by omega) _ rfl
  have hT2 : IsT W2 p (some r) (endP T (m + 1) frm to (m + 1)) last := by rw [← hW2]; exact hTs.frN (((Fr.refl _ _).alloc _).alloc _)
  have hsz : W2.heap.size = w.heap.size + 5 := by rw [← hW2]; simp [World.setCell, hsd]
  have hc0 : W2.heap[w.heap.size]? = some (.cells #[.pointer (some ⟨p, 0, none⟩)] 23 (0, 0)) := by rw [← hW2]; exact obj_alloc (obj_alloc (obj_setCell_other hbd0 _ _ (by dsimp only; omega)) _) _
  have hc1 : W2.heap[w.heap.size + 1]? = some (.cells #[.int .u8 frm] 5 (0, 0)) := by rw [← hW2]; exact obj_alloc (obj_alloc (obj_setCell_other hbd1 _ _ (by dsimp only; omega)) _) _
  have hc2 : W2.heap[w.heap.size + 2]? = some (.cells #[.int .u8 to] 5 (0, 0)) := by rw [← hW2]; exact obj_alloc (obj_alloc (obj_setCell_other hbd2 _ _ (by dsimp only; omega)) _) _
  have hc3 : W2.heap[w.heap.size + 3]? = some (.cells #[.pointer (some ⟨p, 0, none⟩)] 23 (0, 0)) := by
    rw [← hW2]; have := obj_alloc_new (W1.setCell ⟨r, m * 3 + 1, none⟩ (.int .u8 to)) (.cells #[.pointer (some ⟨p, 0, none⟩)] 23); rw [hsz1] at this; exact obj_alloc this _
  have hc4 : W2.heap[w.heap.size + 4]? = some (.cells #[.int .i64 ((m : Int) + 1)] 3 (0, 0)) := by
    rw [← hW2]; have := obj_alloc_new ((W1.setCell ⟨r, m * 3 + 1, none⟩ (.int .u8 to)).alloc (.cells #[.pointer (some ⟨p, 0, none⟩)] 23)) (.cells #[.int .i64 ((m : Int) + 1)] 3); rw [World.size_alloc, hsz1] at this; exact this
  have hf2 : Fr (fun k => k = r) w W2 := by rw [← hW2]; exact (((hfd.ofN (S := fun k => k = r)).setCell (p := ⟨r, m * 3 + 1, none⟩) (fun _ => rfl) _).alloc _).alloc _
  rw [hW2]
  refine (wpIn_wide (n := 9)).1 ?_
  clear hW2 hTs hsz1 hTd hcd hzd hfd hbd0 hbd1 hbd2 hcd0 hsd
  have HSZ := Lib.hid hsz
  refine rf_enter (gf := 62) (lb := #[.pointer (some ⟨w.heap.size + 3 + 1, 0, none⟩), .pointer (some ⟨w.heap.size + 3, 0, none⟩)]) rfl (enters_of Try.func62 (by kernel_rfl) rfl) ?_
  rw [hsz]
  clear hsz
  intro fn hrec
  generalize hrr : rcd fn _ _ _ _ (w.heap.size + 5) = rr at hrec ⊢
  have hid1 : 1 ≤ m + 1 := by omega
  have hid2 : m + 1 ≤ T.length := hm
  refine (below1_in 8 (w.heap.size + 5 + 1) p (w.heap.size + 3) (w.heap.size + 4) (by omega) T hT.wf (m + 1) hid1 hid2 hlen (fun k => JEnd w.heap.size p r T last (m + 1) frm to w rr (k - 1)) _ ?_ ?_ ?_ ?_ ?_ ?_).mono ?_
  · intro k W h
    exact ⟨by rw [cell_of_obj h.box]; rfl, by rw [cell_of_obj h.ids]; rfl, some r, _, last, h.tab, endP_length _ _ _ _ _, fun k => endP_par _ _ _ _ _ _⟩
  · intro k W o h
    exact ⟨h.tab.frN ((Fr.refl _ _).alloc _), obj_alloc h.tb _, obj_alloc h.frb _, obj_alloc h.tob _, obj_alloc h.box _, obj_alloc h.ids _, ⟨obj_alloc h.rcd.loop _, obj_alloc h.rcd.defs _⟩, h.fr.alloc _⟩
  · intro k W b es c es' c' h hb hob
    have hsz2 : ((W2.alloc (.deferred (some []))).alloc (.loop (rr .ready none))).heap.size = w.heap.size + 7 := by simp [HSZ.out]
    rw [hsz2] at hb
    refine ⟨h.tab.fr (S := fun k => k = b) ((Fr.refl (fun k => k = b) W).putObj (fun _ => rfl) _) ?_, obj_putObj_other h.tb _ (by omega), obj_putObj_other h.frb _ (by omega), obj_putObj_other h.tob _ (by omega), obj_putObj_other h.box _ (by omega), obj_putObj_other h.ids _ (by omega), ⟨obj_putObj_other h.rcd.loop _ (by omega), obj_putObj_other h.rcd.defs _ (by omega)⟩, h.fr.putObj (fun _ => by omega) _⟩
    rintro k hk rfl
    have := hT.lt hk
    omega
  · intro j W h h1 h2 hn
    have e : JEnd w.heap.size p r T last (m + 1) frm to w rr j W := h
    show JEnd w.heap.size p r T last (m + 1) frm to w rr (j + 1) W
    exact ⟨by rw [endP_skip hn]; exact e.tab, e.tb, e.frb, e.tob, e.box, e.ids, e.rcd, e.fr⟩
  · intro j W h h1 h2 hin
    replace h : JEnd w.heap.size p r T last (m + 1) frm to w rr j W := h
    refine rf_round (hrr ▸ h.rcd.loop) rfl (T := fun W' => JEnd w.heap.size p r T last (m + 1) frm to w rr (j + 1) W' ∧ (∀ (b : Nat) (es : Array MapEntry) (c : Nat), W.heap[b]? = some (.map es c) → W'.heap[b]? = some (.map es c))) (X := fun _ _ => False) (fun W' h => ⟨rfl, h⟩) (fun _ _ h => h.elim) ?_
    gi_wp2
    refine ⟨hrr ▸ h.rcd.loop, ?_⟩
    obtain ⟨W3, hW3⟩ : ∃ W3, W.putObj (w.heap.size + 5 + 1) (.loop (rr .busy none)) = W3 := ⟨_, rfl⟩
    have hL3 : W3.heap[w.heap.size + 5 + 1]? = some (.loop (rr .busy none)) := by rw [← hW3]; exact World.putObj_heap_same (obj_lt h.rcd.loop)
    have hD3 : W3.heap[w.heap.size + 5]? = some (.deferred (some [])) := by rw [← hW3]; exact obj_putObj_other h.rcd.defs _ (by omega)
    have ht3 : W3.heap[w.heap.size]? = some (.cells #[.pointer (some ⟨p, 0, none⟩)] 23 (0, 0)) := by rw [← hW3]; exact obj_putObj_other h.tb _ (by omega)
    have hu3 : W3.heap[w.heap.size + 1]? = some (.cells #[.int .u8 frm] 5 (0, 0)) := by rw [← hW3]; exact obj_putObj_other h.frb _ (by omega)
    have hv3 : W3.heap[w.heap.size + 2]? = some (.cells #[.int .u8 to] 5 (0, 0)) := by rw [← hW3]; exact obj_putObj_other h.tob _ (by omega)
    have hb3 : W3.heap[w.heap.size + 3]? = some (.cells #[.pointer (some ⟨p, 0, none⟩)] 23 (0, 0)) := by rw [← hW3]; exact obj_putObj_other h.box _ (by omega)
    have hi3 : W3.heap[w.heap.size + 4]? = some (.cells #[.int .i64 ((m + 1 : Nat) : Int)] 3 (0, 0)) := by rw [← hW3]; exact obj_putObj_other h.ids _ (by omega)
    have hF3 : Fr noB W W3 ∨ True := .inr trivial
    have hf3 : Fr (fun k => k = r) w W3 := by rw [← hW3]; exact h.fr.putObj (fun h => by omega) _
    have hT3 : IsT W3 p (some r) (endP T (m + 1) frm to j) last := by
      rw [← hW3]
      refine h.tab.fr (S := fun k => k = w.heap.size + 5 + 1) ((Fr.refl (fun k => k = w.heap.size + 5 + 1) W).putObj (fun _ => rfl) _) ?_
      rintro k hk rfl
      have := hT.lt hk
      omega
    have hmp : ∀ (b : Nat) (es : Array MapEntry) (c : Nat), W.heap[b]? = some (.map es c) → W3.heap[b]? = some (.map es c) := by
      intro b es c hb
      rw [← hW3]
      refine obj_putObj_other hb _ ?_
      rintro rfl
      rw [h.rcd.loop] at hb; cases hb
    have hjl : j < (endP T (m + 1) frm to j).length := by rw [endP_length]; exact h2
    obtain ⟨r3, cap3, hr3, hne3, hq0, hq1, hq2, hq3, hqz⟩ := hT3.ones hjl
    obtain rfl : r = r3 := by simpa using hr3
    have hat : gt (endP T (m + 1) frm to j) j = gt T j := endP_at h2 (by omega)
    rw [hat] at hq1 hq2 hq3
    rw [endP_length] at hq0
    have hk0 : W3.cell? ⟨w.heap.size, 0, none⟩ = some (.pointer (some ⟨p, 0, none⟩)) := by rw [cell_of_obj ht3]; rfl
    have hk1 : W3.cell? ⟨w.heap.size + 1, 0, none⟩ = some (.int .u8 frm) := by rw [cell_of_obj hu3]; rfl
    have hk2 : W3.cell? ⟨w.heap.size + 2, 0, none⟩ = some (.int .u8 to) := by rw [cell_of_obj hv3]; rfl
    rw [hW3]
    have HAT := Lib.hid hat
    clear hW3 hrr hat hr3 hF3
    have hTd : IsT W3.drew p (some r) (endP T (m + 1) frm to j) last := hT3.frN (Fr.refl _ _).drew
    have hmore := endP_more (frm := frm) (to := to) h2 (show j + 1 ≠ m + 1 by omega) hin
    by_cases hle : (gt T j).state ≤ frm
    · have hb : decide (((gt T j).state : Int) ≤ frm) = true := by simp; exact hle
      rw [if_pos hle] at hmore
      have hend : (W3.drew.setCell ⟨r, j * 3 + 1, none⟩ (.int .u8 to)).heap[w.heap.size + 5 + 1]? = some (.loop (rr .busy none)) ∧
          (JEnd w.heap.size p r T last (m + 1) frm to w rr (j + 1) ((W3.drew.setCell ⟨r, j * 3 + 1, none⟩ (.int .u8 to)).putObj (w.heap.size + 5 + 1) (.loop (rr .ready none))) ∧
           (∀ (b : Nat) (es : Array MapEntry) (c : Nat), W.heap[b]? = some (.map es c) → ((W3.drew.setCell ⟨r, j * 3 + 1, none⟩ (.int .u8 to)).putObj (w.heap.size + 5 + 1) (.loop (rr .ready none))).heap[b]? = some (.map es c))) := by
        have hset : IsT (W3.drew.setCell ⟨r, j * 3 + 1, none⟩ (.int .u8 to)) p (some r) (endP T (m + 1) frm to (j + 1)) last := by
          rw [hmore]
          exact hTd.setOne hjl { gt T j with state := to } (by rw [HAT.out]) hto 1 (by omega) _ (by rw [HAT.out]; rfl)
        have hLl : (W3.drew.setCell ⟨r, j * 3 + 1, none⟩ (.int .u8 to)).heap[w.heap.size + 5 + 1]? = some (.loop (rr .busy none)) := obj_setCell_other (w := W3.drew) hL3 _ _ (by dsimp only; omega)
        refine ⟨hLl, ⟨?_, ?_, ?_, ?_, ?_, ?_, ⟨?_, ?_⟩, ?_⟩, ?_⟩
        · refine hset.fr (S := fun k => k = w.heap.size + 5 + 1) ((Fr.refl (fun k => k = w.heap.size + 5 + 1) _).putObj (fun _ => rfl) _) ?_
          rintro k hk rfl
          have := hT.lt hk
          omega
        · exact obj_putObj_other (obj_setCell_other (w := W3.drew) ht3 _ _ (by dsimp only; omega)) _ (by omega)
        · exact obj_putObj_other (obj_setCell_other (w := W3.drew) hu3 _ _ (by dsimp only; omega)) _ (by omega)
        · exact obj_putObj_other (obj_setCell_other (w := W3.drew) hv3 _ _ (by dsimp only; omega)) _ (by omega)
        · exact obj_putObj_other (obj_setCell_other (w := W3.drew) hb3 _ _ (by dsimp only; omega)) _ (by omega)
        · exact obj_putObj_other (obj_setCell_other (w := W3.drew) hi3 _ _ (by dsimp only; omega)) _ (by omega)
        · exact World.putObj_heap_same (obj_lt hLl)
        · exact obj_putObj_other (obj_setCell_other (w := W3.drew) hD3 _ _ (by dsimp only; omega)) _ (by omega)
        · exact (hf3.drew.setCell (p := ⟨r, j * 3 + 1, none⟩) (fun _ => rfl) _).putObj (fun h => by omega) _
        · intro b es c hb
          have h5 := hmp b es c hb
          refine obj_putObj_other (obj_setCell_other (w := W3.drew) h5 _ _ ?_) _ ?_
          · dsimp only; rintro rfl
            rcases hT3.cases with ⟨_, h, _⟩ | ⟨r', _, _, h, _, h7, _⟩
            · cases h
            · cases h; rw [h5] at h7; cases h7
          · rintro rfl; rw [hL3] at h5; cases h5
      have HEND := Lib.hid hend
      clear hend hmore hmp
      gi_wp2_with (first | (gi_at_call 52; refine (CallsIn.inRound _ (callsIn_wide.2 (at_any p r _ _ j _ _ hq0 h2 (by omega) (by omega)))).mono ?_; rintro e w' ⟨rfl, rfl⟩))
      gi_region_with_o (fail)
      all_goals
        gi_wp2
        exact HEND.out
    · have hb : decide (((gt T j).state : Int) ≤ frm) = false := by simp; omega
      rw [if_neg hle] at hmore
      have hend : W3.drew.heap[w.heap.size + 5 + 1]? = some (.loop (rr .busy none)) ∧
          (JEnd w.heap.size p r T last (m + 1) frm to w rr (j + 1) (W3.drew.putObj (w.heap.size + 5 + 1) (.loop (rr .ready none))) ∧
           (∀ (b : Nat) (es : Array MapEntry) (c : Nat), W.heap[b]? = some (.map es c) → (W3.drew.putObj (w.heap.size + 5 + 1) (.loop (rr .ready none))).heap[b]? = some (.map es c))) := by
        refine ⟨hL3, ⟨?_, ?_, ?_, ?_, ?_, ?_, ⟨?_, ?_⟩, ?_⟩, ?_⟩
        · rw [hmore]
          refine hTd.fr (S := fun k => k = w.heap.size + 5 + 1) ((Fr.refl (fun k => k = w.heap.size + 5 + 1) _).putObj (fun _ => rfl) _) ?_
          rintro k hk rfl
          have := hT.lt hk
          omega
        · exact obj_putObj_other (w := W3.drew) ht3 _ (by omega)
        · exact obj_putObj_other (w := W3.drew) hu3 _ (by omega)
        · exact obj_putObj_other (w := W3.drew) hv3 _ (by omega)
        · exact obj_putObj_other (w := W3.drew) hb3 _ (by omega)
        · exact obj_putObj_other (w := W3.drew) hi3 _ (by omega)
        · exact World.putObj_heap_same (obj_lt (w := W3.drew) hL3)
        · exact obj_putObj_other (w := W3.drew) hD3 _ (by omega)
        · exact hf3.drew.putObj (fun h => by omega) _
        · intro b es c hb
          have h5 := hmp b es c hb
          refine obj_putObj_other (w := W3.drew) h5 _ ?_
          rintro rfl; rw [hL3] at h5; cases h5
      have HEND := Lib.hid hend
      clear hend hmore hmp
      gi_wp2_with (first | (gi_at_call 52; refine (CallsIn.inRound _ (callsIn_wide.2 (at_any p r _ _ j _ _ hq0 h2 (by omega) (by omega)))).mono ?_; rintro e w' ⟨rfl, rfl⟩))
      gi_region_with_o (fail)
      all_goals
        gi_wp2
        exact HEND.out
  · refine ⟨hT2.frN (((Fr.refl _ _).alloc _).alloc _), ?_, ?_, ?_, ?_, ?_, hrec, (hf2.alloc _).alloc _⟩
    · exact obj_alloc (obj_alloc hc0 _) _
    · exact obj_alloc (obj_alloc hc1 _) _
    · exact obj_alloc (obj_alloc hc2 _) _
    · exact obj_alloc (obj_alloc hc3 _) _
    · exact obj_alloc (obj_alloc hc4 _) _
  · rintro e W4 ⟨hv, hJ⟩
    replace hJ : JEnd w.heap.size p r T last (m + 1) frm to w rr T.length W4 := hJ
    refine ⟨hv, .inl ⟨hJ.rcd, ?_⟩⟩
    have hD' : (W4.putObj (w.heap.size + 5 + 1) (.loop (rr .exhausted none))).heap[w.heap.size + 5]? = some (.deferred (some [])) := obj_putObj_other hJ.rcd.defs _ (by omega)
    have hf' : Fr (fun k => k = r) w (W4.putObj (w.heap.size + 5 + 1) (.loop (rr .exhausted none))) := hJ.fr.putObj (fun h => by omega) _
    have hT' : IsT (W4.putObj (w.heap.size + 5 + 1) (.loop (rr .exhausted none))) p (some r) (endP T (m + 1) frm to T.length) last := by
      refine hJ.tab.fr (S := fun k => k = w.heap.size + 5 + 1) ((Fr.refl (fun k => k = w.heap.size + 5 + 1) _).putObj (fun _ => rfl) _) ?_
      rintro k hk rfl
      have := hT.lt hk
      omega
    clear hrec hrr
    generalize W4.putObj (w.heap.size + 5 + 1) (.loop (rr .exhausted none)) = W5 at *
    go_wp2
    refine ⟨by simp, .inl ⟨_, _, rfl, run_takeDeferred hD', ?_⟩⟩
    refine ⟨_, results_tmp rfl _ _ _, rfl, ?_, (hf'.mono (fun i _ e => by rw [e])).putObj (fun h => by omega) _⟩
    refine hT'.fr (S := fun k => k = w.heap.size + 5) ((Fr.refl (fun k => k = w.heap.size + 5) _).putObj (fun _ => rfl) _) ?_
    rintro k hk rfl
    have := hT.lt hk
    omega

/-! ### The refusals -/
set_option maxHeartbeats 400000 in
theorem end_no (p : Nat) (R : Option Nat) (T : List One) (last : Nat) (id : Int) (frm to : Nat) (w : World) (hT : IsT w p R T last) (hlen : T.length ≤ 1000000) (he : endE T id ≠ 0) :
    Calls Try.prog 54 #[.pointer (some ⟨p, 0, none⟩), .int .i64 id, .int .u8 frm, .int .u8 to] w fun e w' => e = .returned (.int .i64 (endE T id)) ∧ Fr noB w w' := by
  have hfd : Fr noB w (((w.alloc (.cells #[.pointer (some ⟨p, 0, none⟩)] 23)).alloc (.cells #[.int .u8 frm] 5)).alloc (.cells #[.int .u8 to] 5)) := (((Fr.refl _ _).alloc _).alloc _).alloc _
  have hT0 := hT.frN hfd
  by_cases hr : inR T id = true
  · have hr' : 1 ≤ id ∧ id ≤ T.length := by simpa [inR, inB] using hr
    obtain ⟨m, rfl⟩ : ∃ m : Nat, id = (m : Int) + 1 := ⟨(id - 1).toNat, by omega⟩
    have hm : m < T.length := by omega
    have e1 : ((m : Int) + 1).toNat = m + 1 := by omega
    have hs : (gt T m).state ≠ 1 := by
      intro hs; apply he; unfold endE; rw [e1, hr, if_neg (by simp), if_neg (by simp [st, hs])]
    have hE : endE T ((m : Int) + 1) = 7 := by
      unfold endE; rw [e1, hr, if_neg (by simp), if_pos (by simpa [st] using hs)]
    rw [hE]
    obtain ⟨r, cap, rfl, hne, hc0, hc1, hc2, hc3, hfz⟩ := hT0.ones hm
    have hd : inB T.length ((m : Int) + 1) = true := inB_yes (by omega)
    have hb : (((gt T m).state : Int) != 1) = true := by rw [bne_iff_ne]; omega
    clear he hs hE hr hr' e1
    go_enter Try.func54, Try.ntmps54
    go_wp2_with (first | (go_at_call 51; refine (is_any p _ _ _ _ _ hc0).mono ?_; rintro e w' ⟨rfl, rfl⟩; rw [hd]) | (go_at_call 52; refine (at_any p r _ cap m _ _ hc0 hm (by omega) (by omega)).mono ?_; rintro e w' ⟨rfl, rfl⟩))
    go_ret
    exact ⟨rfl, hfd⟩
  · have hr2 : inR T id = false := by simpa using hr
    have hE : endE T id = 5 := by unfold endE; rw [hr2, if_pos rfl]
    rw [hE]
    obtain ⟨a0, cap, hc0, _⟩ := hT0.head
    have hd : inB T.length id = false := hr2
    clear he hE hr hr2
    go_enter Try.func54, Try.ntmps54
    go_wp2_with (first | (go_at_call 51; refine (is_any p _ _ _ _ _ hc0).mono ?_; rintro e w' ⟨rfl, rfl⟩; rw [hd]))
    go_ret
    exact ⟨rfl, hfd⟩

/-- What end leaves, whatever it is asked. -/
theorem end_any (p : Nat) (R : Option Nat) (T : List One) (last : Nat) (id : Int) (frm to : Nat) (w : World) (hT : IsT w p R T last) (hlen : T.length ≤ 1000000) (hto : to < 256) :
    Calls Try.prog 54 #[.pointer (some ⟨p, 0, none⟩), .int .i64 id, .int .u8 frm, .int .u8 to] w fun e w' => e = .returned (.int .i64 (endE T id)) ∧ IsT w' p R (endT T id frm to) last ∧ Fr (fun k => R = some k) w w' := by
  by_cases he : endE T id = 0
  · have hr : inR T id = true := by
      by_cases hr : inR T id = true
      · exact hr
      · unfold endE at he; rw [if_pos (by simpa using hr)] at he; omega
    have hr' : 1 ≤ id ∧ id ≤ T.length := by simpa [inR, inB] using hr
    obtain ⟨m, rfl⟩ : ∃ m : Nat, id = (m : Int) + 1 := ⟨(id - 1).toNat, by omega⟩
    have e1 : ((m : Int) + 1).toNat = m + 1 := by omega
    have hs : (gt T m).state = 1 := by
      unfold endE at he; rw [e1, hr, if_neg (by simp)] at he
      by_cases hs : st T (m + 1) = 1
      · simpa [st] using hs
      · rw [if_pos hs] at he; omega
    unfold endT
    rw [if_pos he, he, e1]
    exact end_ok p R T last m frm to w hT hlen (by omega) hs hto
  · unfold endT
    rw [if_neg he]
    exact (end_no p R T last id frm to w hT hlen he).mono fun e w' ⟨h1, h2⟩ => ⟨h1, hT.frN h2, h2.ofN⟩

end Go.Proofs.Ytfgkocpmgoaljaa
