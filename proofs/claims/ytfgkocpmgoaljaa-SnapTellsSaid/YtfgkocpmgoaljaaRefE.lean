/- The walks of the document's Begin, Commit, Abort. The conditions: the table lies in memory as its data say. -/
import Derived.Test.YtfgkocpmgoaljaaRefW
import Derived.Deep.RegionWith
namespace Go.Proofs.Ytfgkocpmgoaljaa
open Go.RowKit Go.Shelf Xid

theorem infoOneR : (Try.prog.info? 70).map (fun i => (i.zero, i.size, i.bytes)) = some (some (.agg #[.int .i64 0, .int .u8 0, .int .i64 0]), 3, 24) := by kernel_rfl

/-- A row of one's own is stored in the table's head. -/
theorem IsR.stored {w w2 : World} {p : Nat} {R : Option Nat} {T T' : List One} {last : Nat} (hT : IsR w p R T last) (hf : Fr noB w w2) {g' cap' : Nat}
    (ho : w2.ownsRow w.heap.size 70 3 (.slice (some ⟨g', 0, none⟩) T'.length cap') T'.length (rowC T')) (hw : WF T') :
    IsR (w2.setCell ⟨p, 0, none⟩ (.slice (some ⟨g', 0, none⟩) T'.length cap')) p (some g') T' last ∧ Fr (fun k => k = p) w (w2.setCell ⟨p, 0, none⟩ (.slice (some ⟨g', 0, none⟩) T'.length cap')) ∧ w.heap.size ≤ g' := by
  obtain ⟨v, hv, _, _⟩ := hT.row
  have hp := obj_lt hv
  have hv2 := hf.obj (fun x => x) hv
  obtain ⟨ho1, ⟨ho2, _⟩ | ⟨g, cap, cur, ho2, ho3, ho4, ho5⟩⟩ := ho
  · cases ho2
  · cases ho2
    refine ⟨⟨⟨_, obj_setCell hv2 0 _, ⟨ho1, .inr ⟨g', cap', cur, rfl, Nat.zero_le _, obj_setCell_other ho4 _ _ (by dsimp only; omega), ho5⟩⟩, rfl⟩, hw⟩, (hf.ofN (S := fun k => k = p)).setCell (p := ⟨p, 0, none⟩) (fun _ => rfl) _, ho3⟩

theorem MineR.turned {w0 w w' : World} {p : Nat} {T T' : List One} {last last' : Nat} {R' : Option Nat} {S : Nat → Prop} (h : MineR w0 w p T last) (hT : IsR w' p R' T' last') (hR : ∀ r, R' = some r → w0.heap.size ≤ r) (hf : Fr S w w') (hS : ∀ k, S k → w0.heap.size ≤ k) : MineR w0 w' p T' last' :=
  ⟨⟨R', hT, hR⟩, h.pB, h.fr.transX hf fun k hk h1 => by have := hS k h1; omega⟩

theorem IsR.frS {w w' : World} {p : Nat} {R : Option Nat} {T : List One} {last : Nat} {S : Nat → Prop} (h : IsR w p R T last) (hf : Fr S w w') (hS : ∀ k, k < w.heap.size → S k → foot p R k) : FrT rT w w' := by
  refine Fr.mono hf fun k hk hs => ?_
  rcases h.cases with ⟨_, rfl, h1⟩ | ⟨r, cap, cur, rfl, h1, h2, _⟩
  · rcases hS k hk hs with rfl | e
    · exact ⟨_, _, _, h1, by decide⟩
    · cases e
  · rcases hS k hk hs with rfl | e
    · exact ⟨_, _, _, h1, by decide⟩
    · cases e; exact ⟨_, _, _, h2, by decide⟩

/-- What an append's world says of the row. -/
theorem fr_grown_own {w w1 : World} {o : Obj} (hg : (w.alloc o).grownBy w1 (some w.heap.size)) : Fr noB w w1 :=
  ((Fr.refl noB w).alloc o).grown hg (fun k e hk => by cases e; exact absurd hk (Nat.lt_irrefl _))

theorem own_copy {w w1 : World} {o : Obj} {g1 : Nat} (hg : (w.alloc o).grownBy w1 (Value.slice (some ⟨w.heap.size, 0, none⟩) 0 0).ownBlock) (hf : (Value.slice (some ⟨w.heap.size, 0, none⟩) 0 0).ownBlock = some g1 ∨ (w.alloc o).heap.size ≤ g1) : Fr noB w w1 ∧ w.heap.size ≤ g1 := by
  refine ⟨fr_grown_own hg, ?_⟩
  rcases hf with hf | hf
  · cases hf; exact Nat.le_refl _
  · rw [World.size_alloc] at hf; omega
theorem beginE_st {T : List One} {k : Nat} (h : beginE T ((k : Int) + 1) = 0) : k < T.length ∧ (gt T k).state = 1 := beginE_ok h

set_option maxHeartbeats 2000000 in
theorem beginr_ok {w : World} {p : Nat} {R : Option Nat} {T : List One} {last : Nat} {id : Int} (hT : IsR w p R T last) (hlen : T.length < 1000000) (he : beginE T id = 0) :
    Calls Try.prog 18 #[.pointer (some ⟨p, 0, none⟩), .int .i64 id] w fun e w' => e = .returned (.tuple #[.int .i64 (T.length + 1), .int .i64 0]) ∧
      ∃ R', IsR w' p R' (T ++ [⟨id.toNat, 1, 0⟩]) last ∧ Fr (fun k => k = p) w w' ∧ ∀ r, R' = some r → w.heap.size ≤ r := by
  obtain ⟨i0, hi, hz0, hz1, hz2⟩ := info_parts infoOneR
  obtain ⟨v, hv, hown, hR⟩ := hT.row
  obtain ⟨a0, cap0, hh0, _⟩ := hT.head
  obtain rfl : v = .slice a0 T.length cap0 := by rw [cell_of_obj hv] at hh0; simpa using hh0
  have hfz : ∀ o, w.frozen? ⟨p, o, none⟩ = false := frozen_of_obj hv
  have hw' : WF (T ++ [⟨id.toNat, 1, 0⟩]) := wf_snoc hT.wf _ (by
    by_cases h0 : id = 0
    · subst h0; simp
    · have : 1 ≤ id ∧ id ≤ T.length := by
        unfold beginE at he
        by_cases hr : inR T id = true
        · simpa [inR, inB] using hr
        · rw [if_pos ⟨h0, by simpa using hr⟩] at he; omega
      dsimp only; omega) (by simp)
  have hidn : ((id.toNat : Nat) : Int) = id := beginE_nat he
  have hsz : w.heap.size ≤ (w.alloc (.cells #[] 70)).heap.size := by simp
  have HT := Lib.hid hT
  have HW := Lib.hid hw'
  have HID := Lib.hid hidn
  clear hw' hidn
  have hrow0 : (w.alloc (.cells #[] 70)).ownsRow w.heap.size 70 3 (.slice (some ⟨w.heap.size, 0, none⟩) 0 0) 0 [] :=
    ⟨rfl, .inr ⟨w.heap.size, 0, #[], rfl, Nat.le_refl _, obj_alloc_new _ _, Nat.le_refl _, by unfold maxLen; omega, rfl, rfl⟩⟩
  have HV := Lib.hid hv
  have hca := cell_of_obj (obj_alloc hv (.cells #[] 70)) 0
  simp at hca
  by_cases hn : T = []
  · subst hn
    have h0 : id = 0 := by
      unfold beginE at he
      by_cases hr : inR [] id = true
      · simp [inR, inB] at hr; omega
      · by_cases h0 : id = 0
        · exact h0
        · rw [if_pos ⟨h0, by simpa using hr⟩] at he; omega
    have hb0 : (id != 0) = false := by simpa using h0
    simp only [List.length_nil] at *
    obtain ⟨_, ⟨h2, _⟩ | ⟨g', cap, cur, h2, _⟩⟩ := hown
    all_goals
      obtain ⟨rfl, rfl⟩ : a0 = _ ∧ cap0 = _ := by simpa using h2
      clear h0 hT hR hv h2
      go_enter Try.func18, Try.ntmps18
      go_wp2_with (at_builtin; refine wpList_append_row _ rfl _ _ 35 rfl w.heap.size 70 i0 (.agg #[.int .i64 0, .int .u8 0, .int .i64 0]) 3 24 Try.underlying35 hi hz0 hz1 hz2 rfl (by decide) (.slice (some ⟨w.heap.size, 0, none⟩) 0 0) 0 [] rfl (hrow0.alloc _) ⟨w.heap.size + 1, 0, none⟩ 1 1 (oneC ⟨Int.toNat id, 1, 0⟩) rfl rfl (by rw [show oneC ⟨Int.toNat id, 1, 0⟩ = [.int .i64 id, .int .u8 1, .int .i64 0] by (simp only [oneC]; rw [HID.out]; rfl)]; have hcn := cells_new (w.alloc (.cells #[] 70)) #[.int .i64 id, .int .u8 1, .int .i64 0] 70; rw [World.size_alloc] at hcn; exact hcn) (by simp [oneC, Value.oneCell']) (by unfold maxLen; omega) (by omega) (by simp; omega) (by omega) ?_; intro g2 c2 w2 ho2 hg2 hf2; have hF2 : Fr noB w w2 := (((Fr.refl noB w).alloc _).alloc _).grown hg2 (fun k e hk => by cases e; exact absurd hk (Nat.lt_irrefl _)); have hv2 := hF2.obj (fun x => x) HV.out; have hz2' := frozen_of_obj hv2; have hc2' := cell_of_obj hv2 0; simp at hc2')
      go_ret2
      have hs := IsR.stored HT.out hF2 (T' := [] ++ [⟨Int.toNat id, 1, 0⟩]) (g' := g2) (cap' := c2) (by rw [List.length_append, rowC_snoc]; simpa [show rowC [] = [] from rfl] using ho2) HW.out
      rw [List.length_append] at hs
      simp only [List.length_cons, List.length_nil, Nat.zero_add] at hs
      refine ⟨rfl, some g2, hs.1, hs.2.1, ?_⟩
      rintro r e; cases e; exact hs.2.2
  · have hn0 : 0 < T.length := List.length_pos_iff.2 hn
    have hown0 := hown
    obtain ⟨_, ⟨h2, h3⟩ | ⟨g', cap, cur, h2, _, h4, _⟩⟩ := hown
    · omega
    obtain ⟨rfl, rfl⟩ : a0 = some ⟨g', 0, none⟩ ∧ cap0 = cap := by simpa using h2
    have hcell : ∀ j u, (rowC T)[j]? = some u → (w.alloc (.cells #[] 70)).cell? ((⟨g', 0, none⟩ : Addr).add j) = some u := by
      intro j u hj
      rw [addr_add]
      exact row_cell (((Fr.refl noB w).alloc _).row hown0) hj
    obtain ⟨g, hg'⟩ : ∃ g : Addr, (⟨g', 0, none⟩ : Addr) = g := ⟨_, rfl⟩
    rw [hg'] at hcell hh0 hca
    have HV : Hid (w.heap[p]? = some (.cells #[.slice (some g) T.length cap0, .int .i64 last] 37 (0, 0))) := by rw [← hg']; exact HV
    clear hn hT hown0 hR hv h2 h4
    by_cases h0 : id = 0
    · have hb0 : (id != 0) = false := by simpa using h0
      clear h0 he
      go_enter Try.func18, Try.ntmps18
      go_wp2_with (first | (at_builtin; refine wpList_append_row _ rfl _ _ 35 rfl w.heap.size 70 i0 (.agg #[.int .i64 0, .int .u8 0, .int .i64 0]) 3 24 Try.underlying35 hi hz0 hz1 hz2 rfl (by decide) (.slice (some ⟨w.heap.size, 0, none⟩) 0 0) 0 [] rfl hrow0 g T.length cap0 (rowC T) rfl (rowC_length T) hcell (one_cells T) (by unfold maxLen; omega) (by omega) hsz hn0 ?_; intro g1 c1 w1 ho hg hf; rw [Nat.zero_add] at ho; rw [List.nil_append] at ho; (try simp only [Nat.zero_add]); obtain ⟨hF, hg1⟩ := own_copy hg hf; clear hg hf) | (at_builtin; go_must (refine wpList_append_row _ rfl _ _ 35 rfl w.heap.size 70 i0 (.agg #[.int .i64 0, .int .u8 0, .int .i64 0]) 3 24 Try.underlying35 hi hz0 hz1 hz2 rfl (by decide) (.slice (some ⟨g1, 0, none⟩) T.length c1) T.length (rowC T) rfl (ho.alloc _) ⟨w1.heap.size, 0, none⟩ 1 1 (oneC ⟨Int.toNat id, 1, 0⟩) rfl rfl (by rw [show oneC ⟨Int.toNat id, 1, 0⟩ = [.int .i64 id, .int .u8 1, .int .i64 0] by (simp only [oneC]; rw [HID.out]; rfl)]; exact cells_new _ _ _) (by simp [oneC, Value.oneCell']) (by unfold maxLen; omega) (by omega) (by have := hF.size; simp; omega) (by omega) ?_; intro g2 c2 w2 ho2 hg2 hf2; have hF2 : Fr noB w w2 := (hF.alloc _).grown hg2 (fun k e hk => by cases e; exact absurd hk (Nat.not_lt.2 hg1)); have hv2 := hF2.obj (fun x => x) HV.out; have hz2' := frozen_of_obj hv2; have hc2' := cell_of_obj hv2 0; simp at hc2')))
      go_ret2
      have hs := IsR.stored HT.out hF2 (T' := T ++ [⟨Int.toNat id, 1, 0⟩]) (g' := g2) (cap' := c2) (by rw [List.length_append, rowC_snoc]; simpa using ho2) HW.out
      rw [List.length_append] at hs
      simp only [List.length_cons, List.length_nil, Nat.zero_add] at hs
      refine ⟨rfl, some g2, hs.1, hs.2.1, ?_⟩
      rintro r e; cases e; exact hs.2.2
    · have hr : 1 ≤ id ∧ id ≤ T.length := by
        unfold beginE at he
        by_cases hr : inR T id = true
        · simpa [inR, inB] using hr
        · rw [if_pos ⟨h0, by simpa using hr⟩] at he; omega
      obtain ⟨k, rfl⟩ : ∃ k : Nat, id = (k : Int) + 1 := ⟨(id - 1).toNat, by omega⟩
      obtain ⟨hk, hs⟩ := beginE_ok he
      have hd : inB T.length ((k : Int) + 1) = true := inB_yes hr
      obtain ⟨r, cap, hR0, hne, hc0, hc1, hc2, hc3, _⟩ := HT.out.ones hk
      obtain ⟨rfl, rfl⟩ : g = ⟨r, 0, none⟩ ∧ cap0 = cap := by rw [hh0] at hc0; simpa using hc0
      rw [hs] at hc2
      clear h0 hr hs hR0 hc0 he hg'
      go_enter Try.func18, Try.ntmps18
      go_wp2_with (first | (go_at_call 49; refine (is_r p _ _ _ _ _ hh0).mono ?_; rintro e w' ⟨rfl, rfl⟩; rw [hd]) | (at_builtin; refine wpList_append_row _ rfl _ _ 35 rfl w.heap.size 70 i0 (.agg #[.int .i64 0, .int .u8 0, .int .i64 0]) 3 24 Try.underlying35 hi hz0 hz1 hz2 rfl (by decide) (.slice (some ⟨w.heap.size, 0, none⟩) 0 0) 0 [] rfl hrow0 ⟨r, 0, none⟩ T.length cap0 (rowC T) rfl (rowC_length T) hcell (one_cells T) (by unfold maxLen; omega) (by omega) hsz hn0 ?_; intro g1 c1 w1 ho hg hf; rw [Nat.zero_add] at ho; rw [List.nil_append] at ho; (try simp only [Nat.zero_add]); obtain ⟨hF, hg1⟩ := own_copy hg hf; clear hg hf) | (at_builtin; go_must (refine wpList_append_row _ rfl _ _ 35 rfl w.heap.size 70 i0 (.agg #[.int .i64 0, .int .u8 0, .int .i64 0]) 3 24 Try.underlying35 hi hz0 hz1 hz2 rfl (by decide) (.slice (some ⟨g1, 0, none⟩) T.length c1) T.length (rowC T) rfl (ho.alloc _) ⟨w1.heap.size, 0, none⟩ 1 1 (oneC ⟨Int.toNat ((k : Int) + 1), 1, 0⟩) rfl rfl (by rw [show oneC ⟨Int.toNat ((k : Int) + 1), 1, 0⟩ = [.int .i64 ((k : Int) + 1), .int .u8 1, .int .i64 0] by (simp only [oneC]; rw [HID.out]; rfl)]; exact cells_new _ _ _) (by simp [oneC, Value.oneCell']) (by unfold maxLen; omega) (by omega) (by have := hF.size; simp; omega) (by omega) ?_; intro g2 c2 w2 ho2 hg2 hf2; have hF2 : Fr noB w w2 := (hF.alloc _).grown hg2 (fun k e hk => by cases e; exact absurd hk (Nat.not_lt.2 hg1)); have hv2 := hF2.obj (fun x => x) HV.out; have hz2' := frozen_of_obj hv2; have hc2' := cell_of_obj hv2 0; simp at hc2')))
      go_ret2
      have hs := IsR.stored HT.out hF2 (T' := T ++ [⟨Int.toNat ((k : Int) + 1), 1, 0⟩]) (g' := g2) (cap' := c2) (by rw [List.length_append, rowC_snoc]; simpa using ho2) HW.out
      rw [List.length_append] at hs
      simp only [List.length_cons, List.length_nil, Nat.zero_add] at hs
      refine ⟨rfl, some g2, hs.1, hs.2.1, ?_⟩
      rintro r e; cases e; exact hs.2.2


set_option maxHeartbeats 1000000 in
theorem beginr_no {w : World} {p : Nat} {R : Option Nat} {T : List One} {last : Nat} {id : Int} (hT : IsR w p R T last) (hlen : T.length < 1000000) (he : beginE T id ≠ 0) :
    Calls Try.prog 18 #[.pointer (some ⟨p, 0, none⟩), .int .i64 id] w fun e w' => e = .returned (.tuple #[.int .i64 0, .int .i64 (beginE T id)]) ∧ w = w' := by
  obtain ⟨a0, cap0, hh0, _⟩ := hT.head
  have hi0 : id ≠ 0 := by rintro rfl; simp [beginE] at he
  by_cases hr : inR T id = true
  · have hr' : 1 ≤ id ∧ id ≤ T.length := by simpa [inR, inB] using hr
    obtain ⟨k, rfl⟩ : ∃ k : Nat, id = (k : Int) + 1 := ⟨(id - 1).toNat, by omega⟩
    have hk : k < T.length := by omega
    have e1 : ((k : Int) + 1).toNat = k + 1 := by omega
    have hs : (gt T k).state ≠ 1 := by
      intro hs; apply he; unfold beginE; rw [e1, hr, if_neg (by simp), if_neg (by simp [st, hs])]
    have hE : beginE T ((k : Int) + 1) = 7 := by
      unfold beginE; rw [e1, hr, if_neg (by simp), if_pos ⟨by omega, by simpa [st] using hs⟩]
    rw [hE]
    obtain ⟨r, cap, hR0, hne, hc0, hc1, hc2, hc3, _⟩ := hT.ones hk
    have hd : inB T.length ((k : Int) + 1) = true := inB_yes (by omega)
    have hb : (((gt T k).state : Int) != 1) = true := by rw [bne_iff_ne]; omega
    clear he hs hE hr hr' e1 hR0 hh0
    go_enter Try.func18, Try.ntmps18
    go_wp2_with (go_at_call 49; refine (is_r p _ _ _ _ _ hc0).mono ?_; rintro e w' ⟨rfl, rfl⟩; rw [hd])
    go_ret2
    exact ⟨rfl, rfl⟩
  · have hr2 : inR T id = false := by simpa using hr
    have hE : beginE T id = 5 := by unfold beginE; rw [hr2, if_pos ⟨hi0, rfl⟩]
    rw [hE]
    have hd : inB T.length id = false := hr2
    have hb : (id != 0) = true := by rw [bne_iff_ne]; exact hi0
    clear he hE hr hr2 hi0
    go_enter Try.func18, Try.ntmps18
    go_wp2_with (go_at_call 49; refine (is_r p _ _ _ _ _ hh0).mono ?_; rintro e w' ⟨rfl, rfl⟩; rw [hd])
    go_ret2
    exact ⟨rfl, rfl⟩

theorem MineR.of {w0 w w' : World} {p : Nat} {R R' : Option Nat} {T T' : List One} {last last' : Nat} {S : Nat → Prop} (h : MineR w0 w p T last) (hT0 : IsR w p R T last) (hT : IsR w' p R' T' last') (hR : ∀ r, R' = some r → w0.heap.size ≤ r) (hf : Fr S w w') (hS : ∀ k, S k → k = p ∨ w.heap.size ≤ k) : MineR w0 w' p T' last' ∧ FrT rT w w' :=
  ⟨h.turned hT hR hf (fun k hk => by
      rcases hS k hk with rfl | h1
      · exact h.pB
      · exact Nat.le_trans h.fr.size h1), hT0.frS hf fun k hk h1 => by
      rcases hS k h1 with rfl | h2
      · exact .inl rfl
      · omega⟩

theorem beginr_m {p : Nat} {T : List One} {last : Nat} {id : Int} {w0 w : World} (h : MineR w0 w p T last) (h1 : T.length < 1000000) :
    Calls Try.prog 18 #[.pointer (some ⟨p, 0, none⟩), .int .i64 id] w fun e w' => e = .returned (.tuple #[.int .i64 (beginA T id), .int .i64 (beginE T id)]) ∧ MineR w0 w' p (beginT T id) last ∧ FrT rT w w' := by
  obtain ⟨R, hT, hR⟩ := h.tab
  unfold beginA beginT
  by_cases he : beginE T id = 0
  · rw [if_pos he, if_pos he, he]
    refine (beginr_ok hT h1 he).mono ?_
    rintro e w' ⟨h2, R', hT', hf, hR'⟩
    exact ⟨h2, h.of hT hT' (fun r e => Nat.le_trans h.fr.size (hR' r e)) hf (fun k e => .inl e)⟩
  · rw [if_neg he, if_neg he]
    refine (beginr_no hT h1 he).mono ?_
    rintro e w' ⟨h2, rfl⟩
    exact ⟨h2, h, FrT.refl _ _⟩

/-- The rounds' table: what stands at or below the one of place m, and is of some state, among the first j. -/
def refP (T : List One) (m : Nat) (c : One → Bool) (tst j : Nat) : List One :=
  T.mapIdx fun i x => if i < j ∧ (i = m ∨ belowB T (i + 1) (m + 1) = true) ∧ c x = true then { x with state := tst } else x
theorem refP_length (T : List One) (m : Nat) (c : One → Bool) (tst j : Nat) : (refP T m c tst j).length = T.length := by simp [refP]
theorem refP_get (T : List One) (m : Nat) (c : One → Bool) (tst j k : Nat) (hk : k < T.length) :
    gt (refP T m c tst j) k = if k < j ∧ (k = m ∨ belowB T (k + 1) (m + 1) = true) ∧ c (gt T k) = true then { gt T k with state := tst } else gt T k := by
  rw [gt_mem (by rw [refP_length]; exact hk), gt_mem hk]
  simp [refP]
theorem refP_par (T : List One) (m : Nat) (c : One → Bool) (tst j k : Nat) : (gt (refP T m c tst j) k).parent = (gt T k).parent := by
  by_cases hk : k < T.length
  · rw [refP_get _ _ _ _ _ _ hk]; split <;> rfl
  · rw [gt_out (by rw [refP_length]; exact hk), gt_out hk]
theorem refP_below (T : List One) (m : Nat) (c : One → Bool) (tst j i a : Nat) : belowB (refP T m c tst j) i a = belowB T i a := by
  unfold belowB; rw [upL_congr (refP_length ..) (refP_par T m c tst j)]
theorem refP_zero (T : List One) (m : Nat) (c : One → Bool) (tst : Nat) : refP T m c tst 0 = T :=
  ext_gt (refP_length ..) fun k hk => by rw [refP_length] at hk; rw [refP_get _ _ _ _ _ _ hk, if_neg (by omega)]
theorem refP_same {T : List One} {m : Nat} {c : One → Bool} {tst j : Nat} (h : ¬ ((j = m ∨ belowB T (j + 1) (m + 1) = true) ∧ c (gt T j) = true)) : refP T m c tst (j + 1) = refP T m c tst j :=
  ext_gt (by rw [refP_length, refP_length]) fun k hk => by
    rw [refP_length] at hk
    rw [refP_get _ _ _ _ _ _ hk, refP_get _ _ _ _ _ _ hk]
    by_cases hkj : k = j
    · subst hkj; rw [if_neg (fun h1 => h h1.2), if_neg (fun h1 => h h1.2)]
    · by_cases h1 : k < j ∧ (k = m ∨ belowB T (k + 1) (m + 1) = true) ∧ c (gt T k) = true
      · rw [if_pos h1, if_pos ⟨by omega, h1.2⟩]
      · rw [if_neg h1, if_neg (fun h2 => h1 ⟨by omega, h2.2⟩)]
theorem refP_set {T : List One} {m : Nat} {c : One → Bool} {tst j : Nat} (hj : j < T.length) (h : (j = m ∨ belowB T (j + 1) (m + 1) = true) ∧ c (gt T j) = true) :
    refP T m c tst (j + 1) = (refP T m c tst j).set j { gt (refP T m c tst j) j with state := tst } :=
  ext_gt (by rw [refP_length, List.length_set, refP_length]) fun k hk => by
    rw [refP_length] at hk
    rw [gt_set (by rw [refP_length]; exact hj), refP_get _ _ _ _ _ _ hk]
    by_cases hkj : k = j
    · subst hkj
      rw [if_pos ⟨by omega, h⟩, if_pos rfl, refP_get _ _ _ _ _ _ hk, if_neg (by omega)]
    · rw [if_neg hkj, refP_get _ _ _ _ _ _ hk]
      by_cases h1 : k < j ∧ (k = m ∨ belowB T (k + 1) (m + 1) = true) ∧ c (gt T k) = true
      · rw [if_pos h1, if_pos ⟨by omega, h1.2⟩]
      · rw [if_neg h1, if_neg (fun h2 => h1 ⟨by omega, h2.2⟩)]
theorem refP_at {T : List One} {m : Nat} {c : One → Bool} {tst j : Nat} (hj : j < T.length) : gt (refP T m c tst j) j = gt T j := by
  rw [refP_get _ _ _ _ _ _ hj, if_neg (by omega)]
/-- .. which is what end makes of it. -/
theorem refP_end {T : List One} {last : Nat} (h : Inv T last) {m frm tst : Nat} {c : One → Bool} (hs : (gt T m).state = 1)
    (hc : ∀ x : One, (x.state = 1 ∨ x.state = 2 ∨ x.state = 3) → (c x = true ↔ x.state ≤ frm) ∨ (tst = 3 ∧ frm = 2 ∧ c x = true)) (hf : 1 ≤ frm) (hc1 : ∀ x : One, x.state = 1 → c x = true) :
    refP T m c tst T.length = endP T (m + 1) frm tst T.length :=
  ext_gt (by rw [refP_length, endP_length]) fun k hk => by
    rw [refP_length] at hk
    rw [refP_get _ _ _ _ _ _ hk, endP_get _ _ _ _ _ _ hk]
    by_cases hkm : k = m
    · subst hkm
      rw [if_pos ⟨hk, .inl rfl, hc1 _ hs⟩, if_pos rfl]
    · have hmem := mem_belowB h.wf hk (m + 1)
      rw [if_neg (show ¬ k + 1 = m + 1 by omega)]
      by_cases hb : belowB T (k + 1) (m + 1) = true
      · have hin : m + 1 ∈ upL T (k + 1) := hmem.2 (.inr hb)
        rcases hc (gt T k) (h.sts k hk) with e | ⟨rfl, rfl, e⟩
        · by_cases hle : (gt T k).state ≤ frm
          · rw [if_pos ⟨hk, .inr hb, e.2 hle⟩, if_pos ⟨by omega, hin, hle⟩]
          · rw [if_neg (fun h1 => hle (e.1 h1.2.2)), if_neg (fun h1 => hle h1.2.2)]
        · rw [if_pos ⟨hk, .inr hb, e⟩]
          by_cases hle : (gt T k).state ≤ 2
          · rw [if_pos ⟨by omega, hin, hle⟩]
          · rw [if_neg (fun h1 => hle h1.2.2)]
            have := h.sts k hk
            have e3 : (gt T k).state = 3 := by omega
            rw [← e3]
      · have hnin : ¬ (m + 1 ∈ upL T (k + 1)) := fun h1 => by
          rcases hmem.1 h1 with h1 | h1
          · omega
          · exact hb h1
        rw [if_neg (fun h1 => by rcases h1.2.1 with h2 | h2; exact hkm h2; exact hb h2), if_neg (fun h1 => hnin h1.2.1)]

end Go.Proofs.Ytfgkocpmgoaljaa
