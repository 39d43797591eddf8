/- The walk of the statement SnapMore. The condition: the arguments read as data. -/
import Derived.Test.YtfgkocpmgoaljaaSnapX
import Derived.Test.YtfgkocpmgoaljaaXidQ
import Derived.Test.YtfgkocpmgoaljaaRead
import Derived.Deep.RegionWith
import Derived.Deep.LoopGhost
import Derived.Deep.DeepCutAuto
import Derived.BigRegion
namespace Go.Proofs.Ytfgkocpmgoaljaa
open Go.RowKit Go.Shelf Xid

theorem two_vs (w : World) (A B : Obj) : ((w.alloc A).alloc B).heap[w.heap.size]? = some A ∧ ((w.alloc A).alloc B).heap[w.heap.size + 1]? = some B := by
  refine ⟨obj_alloc (obj_alloc_new w A) B, ?_⟩
  have := obj_alloc_new (w.alloc A) B
  rw [World.size_alloc] at this
  exact this
theorem sees0 (T : List One) (att id : Int) : seesOf T att 0 id = oldOf T att id := by simp [seesOf, ownOf]
theorem more_cases (T : List One) (att id : Int) (h0 : 0 ≤ att) :
    (seesOf T att 0 id = true ∧ seesOf T (att + 1) 0 id = true ∧ countsOf T id = true ∧ ((numberOf T (topOf T id : Int) : Int) != att + 1) = true) ∨
    (seesOf T att 0 id = false ∧ seesOf T (att + 1) 0 id = true ∧ countsOf T id = true ∧ (numberOf T (topOf T id : Int) : Int) = att + 1) ∨
    (seesOf T att 0 id = false ∧ seesOf T (att + 1) 0 id = false ∧ countsOf T id = false) ∨
    (seesOf T att 0 id = false ∧ seesOf T (att + 1) 0 id = false ∧ countsOf T id = true ∧ ((numberOf T (topOf T id : Int) : Int) != att + 1) = true) := by
  rw [sees0, sees0]
  cases hc : countsOf T id
  · have hd : doneOf T id = 0 := by simp [doneOf, hc]
    have : ∀ a, oldOf T a id = false := fun a => by simp [oldOf, hd]
    simp [this]
  · have hd : doneOf T id = numberOf T (topOf T id : Int) := by simp [doneOf, hc]
    simp only [oldOf, hd]
    generalize numberOf T (topOf T id : Int) = n
    by_cases h1 : 0 < (n : Int)
    · by_cases h2 : (n : Int) ≤ att
      · left; simp [h2]; omega
      · by_cases h3 : (n : Int) ≤ att + 1
        · right; left; simp [h2, h3]; omega
        · right; right; right; simp [h2, h3]; omega
    · right; right; right; simp only [Int.not_lt] at h1; simp; omega

set_option maxRecDepth 100000 in
set_option maxHeartbeats 40000000 in
theorem more_law (a : Option Addr) (len cap : Nat) (L : List (Int × Int)) (hL : L.length = len) (hcap : len ≤ cap ∧ cap ≤ maxLen) (att id : Int) (w : World) (_ : ∀ p ∈ L, (Lit.int .u8 p.1).wf = true ∧ (Lit.int .i64 p.2).wf = true) (hS : IsPairs .u8 .i64 w a L)
    (_ : (Lit.int .i64 att).wf = true) (_ : (Lit.int .i64 id).wf = true) :
    Calls Try.prog 11 #[.slice a len cap, .int .i64 att, .int .i64 id] w fun e w' => e = .returned (.bool true) ∧ Fr noB w w' := by
  obtain ⟨hc1, hc2⟩ := hcap
  unfold maxLen at hc2
  by_cases h80 : 200 < len
  · go_enter Try.func11, Try.ntmps11
    go_wp2_with fail
    refine (awake_any _).mono ?_
    rintro e w1 ⟨rfl, hf1⟩
    go_wp2_with fail
    go_ret
    exact ⟨rfl, hf1⟩
  by_cases h81 : att < 0
  · go_enter Try.func11, Try.ntmps11
    go_wp2_with fail
    refine (awake_any _).mono ?_
    rintro e w1 ⟨rfl, hf1⟩
    go_wp2_with fail
    go_ret
    exact ⟨rfl, hf1⟩
  by_cases h82 : 1000 < att
  · go_enter Try.func11, Try.ntmps11
    go_wp2_with fail
    refine (awake_any _).mono ?_
    rintro e w1 ⟨rfl, hf1⟩
    go_wp2_with fail
    go_ret
    exact ⟨rfl, hf1⟩
  go_enter Try.func11, Try.ntmps11
  go_wp2_with fail
  refine (awake_any _).mono ?_
  rintro e w1 ⟨rfl, hf1⟩
  go_wp2_with fail
  refine (new_mine w w1 hf1).mono ?_
  rintro e w2 ⟨rfl, hM0⟩
  obtain ⟨p, hp⟩ : ∃ p, w1.heap.size = p := ⟨_, rfl⟩
  rw [hp] at hM0 ⊢
  clear hp hf1
  go_wp2_with fail
  have HL := Lib.hid hL
  clear hL
  go_loopg [8] len (fun g iv wr => ∃ (i : Nat) (T : List One) (last : Nat), i ≤ len ∧ g = len - i ∧ iv = .int .i64 i ∧ Mine w wr p T last ∧ T.length ≤ i ∧ last ≤ i ∧ Inv T last)
  case atStart => exact ⟨0, [], 0, by omega, by omega, rfl, hM0, by simp, by omega, Inv.nil⟩
  case round =>
    obtain ⟨i, T, last, hil, rfl, rfl, h, hTi, hla, hI⟩ := hrel
    by_cases hlt : i < len
    · obtain ⟨ad, ha, h1, h2⟩ := (hS.fr h.fr).cell i (by rw [HL.out]; exact hlt)
      subst ha
      have hd := do10_mine h (L.getD i (0, 0)).1 (L.getD i (0, 0)).2 (by omega) (by omega)
      have hI' := hI.do (L.getD i (0, 0)).1 (L.getD i (0, 0)).2
      have hTl := doT_length T last (L.getD i (0, 0)).1 (L.getD i (0, 0)).2
      have hLl := doL_le T last (L.getD i (0, 0)).1 (L.getD i (0, 0)).2
      generalize (L.getD i (0, 0)).1 = kd at *
      generalize (L.getD i (0, 0)).2 = idd at *
      clear h
      go_wp2_with fail
      refine hd.mono ?_
      rintro e w4 ⟨rfl, hM4, _⟩
      go_wp2_with fail
      go_roundg (len - (i + 1))
      case measure => omega
      case rel => exact ⟨i + 1, _, _, by omega, rfl, by go_num, hM4, by omega, by omega, hI'⟩
    · have hTl : T.length ≤ 200 := by omega
      have HI := Lib.hid hI
      have hcs := more_cases T att id (by omega)
      clear hTi hla hI hil hM0
      have hf2 : Fr noB wr ((wr.alloc (.cells #[.int .i64 (att), .int .i64 0] 50)).alloc (.cells #[.int .i64 (att + 1), .int .i64 0] 50)) := ((Fr.refl _ _).alloc _).alloc _
      obtain ⟨hv, hw⟩ := two_vs wr (.cells #[.int .i64 (att), .int .i64 0] 50) (.cells #[.int .i64 (att + 1), .int .i64 0] 50)
      have h := h.frN hf2
      obtain ⟨hva, hvb⟩ := viewer_cells hv
      obtain ⟨hwa, hwb⟩ := viewer_cells hw
      clear hf2
      go_wp2_with fail
      generalize (wr.alloc (.cells #[.int .i64 (att), .int .i64 0] 50)).alloc (.cells #[.int .i64 (att + 1), .int .i64 0] 50) = w3 at *
      generalize wr.heap.size = q1 at *
      rcases hcs with ⟨c1, c2, c3, c4⟩ | ⟨c1, c2, c3, c4⟩ | ⟨c1, c2, c3⟩ | ⟨c1, c2, c3, c4⟩
      · have H1 := Lib.hid c1
        have H2 := Lib.hid c2
        have H3 := Lib.hid c3
        clear c1 c2 c3
        go_wp2_with fail
        refine (sees_m h att 0 true (by omega) H1.out).mono ?_
        rintro e w' ⟨rfl, h', hx⟩; clear h; have h := h'; clear h'
        have hv := hx.obj (fun x => x) hv; obtain ⟨hva, hvb⟩ := viewer_cells hv
        have hw := hx.obj (fun x => x) hw; obtain ⟨hwa, hwb⟩ := viewer_cells hw
        clear hx
        go_wp2_with fail
        refine (sees_m h (att + 1) 0 true (by omega) H2.out).mono ?_
        rintro e w' ⟨rfl, h', hx⟩; clear h; have h := h'; clear h'
        have hv := hx.obj (fun x => x) hv; obtain ⟨hva, hvb⟩ := viewer_cells hv
        have hw := hx.obj (fun x => x) hw; obtain ⟨hwa, hwb⟩ := viewer_cells hw
        clear hx
        go_wp2_with fail
        refine (sees_m h att 0 true (by omega) H1.out).mono ?_
        rintro e w' ⟨rfl, h', hx⟩; clear h; have h := h'; clear h'
        have hv := hx.obj (fun x => x) hv; obtain ⟨hva, hvb⟩ := viewer_cells hv
        have hw := hx.obj (fun x => x) hw; obtain ⟨hwa, hwb⟩ := viewer_cells hw
        clear hx
        go_wp2_with fail
        refine (counts_mine h true (by omega) H3.out).mono ?_
        rintro e w' ⟨rfl, h', hx⟩; clear h; have h := h'; clear h'
        have hv := hx.obj hv (by decide); obtain ⟨hva, hvb⟩ := viewer_cells hv
        have hw := hx.obj hw (by decide); obtain ⟨hwa, hwb⟩ := viewer_cells hw
        clear hx
        go_wp2_with fail
        refine (top_mine h _ (by omega) rfl).mono ?_
        rintro e w' ⟨rfl, h', hx⟩; clear h; have h := h'; clear h'
        have hv := hx.obj hv (by decide); obtain ⟨hva, hvb⟩ := viewer_cells hv
        have hw := hx.obj hw (by decide); obtain ⟨hwa, hwb⟩ := viewer_cells hw
        clear hx
        go_wp2_with fail
        refine (number_mine h _ (by omega) rfl).mono ?_
        rintro e w' ⟨rfl, h', hx⟩; clear h; have h := h'; clear h'
        have hv := hx.obj hv (by decide); obtain ⟨hva, hvb⟩ := viewer_cells hv
        have hw := hx.obj hw (by decide); obtain ⟨hwa, hwb⟩ := viewer_cells hw
        clear hx
        go_wp2_with fail
        go_ret
        exact ⟨rfl, h.fr⟩
      · have H1 := Lib.hid c1
        have H2 := Lib.hid c2
        have H3 := Lib.hid c3
        have H4 := Lib.hid c4
        clear c1 c2 c3 c4
        go_wp2_with fail
        refine (sees_m h att 0 false (by omega) H1.out).mono ?_
        rintro e w' ⟨rfl, h', hx⟩; clear h; have h := h'; clear h'
        have hv := hx.obj (fun x => x) hv; obtain ⟨hva, hvb⟩ := viewer_cells hv
        have hw := hx.obj (fun x => x) hw; obtain ⟨hwa, hwb⟩ := viewer_cells hw
        clear hx
        go_wp2_with fail
        refine (sees_m h att 0 false (by omega) H1.out).mono ?_
        rintro e w' ⟨rfl, h', hx⟩; clear h; have h := h'; clear h'
        have hv := hx.obj (fun x => x) hv; obtain ⟨hva, hvb⟩ := viewer_cells hv
        have hw := hx.obj (fun x => x) hw; obtain ⟨hwa, hwb⟩ := viewer_cells hw
        clear hx
        go_wp2_with fail
        refine (sees_m h (att + 1) 0 true (by omega) H2.out).mono ?_
        rintro e w' ⟨rfl, h', hx⟩; clear h; have h := h'; clear h'
        have hv := hx.obj (fun x => x) hv; obtain ⟨hva, hvb⟩ := viewer_cells hv
        have hw := hx.obj (fun x => x) hw; obtain ⟨hwa, hwb⟩ := viewer_cells hw
        clear hx
        go_wp2_with fail
        refine (counts_mine h true (by omega) H3.out).mono ?_
        rintro e w' ⟨rfl, h', hx⟩; clear h; have h := h'; clear h'
        have hv := hx.obj hv (by decide); obtain ⟨hva, hvb⟩ := viewer_cells hv
        have hw := hx.obj hw (by decide); obtain ⟨hwa, hwb⟩ := viewer_cells hw
        clear hx
        go_wp2_with fail
        refine (top_mine h _ (by omega) rfl).mono ?_
        rintro e w' ⟨rfl, h', hx⟩; clear h; have h := h'; clear h'
        have hv := hx.obj hv (by decide); obtain ⟨hva, hvb⟩ := viewer_cells hv
        have hw := hx.obj hw (by decide); obtain ⟨hwa, hwb⟩ := viewer_cells hw
        clear hx
        go_wp2_with fail
        refine (number_mine h (att + 1) (by omega) H4.out).mono ?_
        rintro e w' ⟨rfl, h', hx⟩; clear h; have h := h'; clear h'
        have hv := hx.obj hv (by decide); obtain ⟨hva, hvb⟩ := viewer_cells hv
        have hw := hx.obj hw (by decide); obtain ⟨hwa, hwb⟩ := viewer_cells hw
        clear hx
        go_wp2_with fail
        go_ret
        exact ⟨rfl, h.fr⟩
      · have H1 := Lib.hid c1
        have H2 := Lib.hid c2
        have H3 := Lib.hid c3
        clear c1 c2 c3
        go_wp2_with fail
        refine (sees_m h att 0 false (by omega) H1.out).mono ?_
        rintro e w' ⟨rfl, h', hx⟩; clear h; have h := h'; clear h'
        have hv := hx.obj (fun x => x) hv; obtain ⟨hva, hvb⟩ := viewer_cells hv
        have hw := hx.obj (fun x => x) hw; obtain ⟨hwa, hwb⟩ := viewer_cells hw
        clear hx
        go_wp2_with fail
        refine (sees_m h att 0 false (by omega) H1.out).mono ?_
        rintro e w' ⟨rfl, h', hx⟩; clear h; have h := h'; clear h'
        have hv := hx.obj (fun x => x) hv; obtain ⟨hva, hvb⟩ := viewer_cells hv
        have hw := hx.obj (fun x => x) hw; obtain ⟨hwa, hwb⟩ := viewer_cells hw
        clear hx
        go_wp2_with fail
        refine (sees_m h (att + 1) 0 false (by omega) H2.out).mono ?_
        rintro e w' ⟨rfl, h', hx⟩; clear h; have h := h'; clear h'
        have hv := hx.obj (fun x => x) hv; obtain ⟨hva, hvb⟩ := viewer_cells hv
        have hw := hx.obj (fun x => x) hw; obtain ⟨hwa, hwb⟩ := viewer_cells hw
        clear hx
        go_wp2_with fail
        refine (counts_mine h false (by omega) H3.out).mono ?_
        rintro e w' ⟨rfl, h', hx⟩; clear h; have h := h'; clear h'
        have hv := hx.obj hv (by decide); obtain ⟨hva, hvb⟩ := viewer_cells hv
        have hw := hx.obj hw (by decide); obtain ⟨hwa, hwb⟩ := viewer_cells hw
        clear hx
        go_wp2_with fail
        go_ret
        exact ⟨rfl, h.fr⟩
      · have H1 := Lib.hid c1
        have H2 := Lib.hid c2
        have H3 := Lib.hid c3
        clear c1 c2 c3
        go_wp2_with fail
        refine (sees_m h att 0 false (by omega) H1.out).mono ?_
        rintro e w' ⟨rfl, h', hx⟩; clear h; have h := h'; clear h'
        have hv := hx.obj (fun x => x) hv; obtain ⟨hva, hvb⟩ := viewer_cells hv
        have hw := hx.obj (fun x => x) hw; obtain ⟨hwa, hwb⟩ := viewer_cells hw
        clear hx
        go_wp2_with fail
        refine (sees_m h att 0 false (by omega) H1.out).mono ?_
        rintro e w' ⟨rfl, h', hx⟩; clear h; have h := h'; clear h'
        have hv := hx.obj (fun x => x) hv; obtain ⟨hva, hvb⟩ := viewer_cells hv
        have hw := hx.obj (fun x => x) hw; obtain ⟨hwa, hwb⟩ := viewer_cells hw
        clear hx
        go_wp2_with fail
        refine (sees_m h (att + 1) 0 false (by omega) H2.out).mono ?_
        rintro e w' ⟨rfl, h', hx⟩; clear h; have h := h'; clear h'
        have hv := hx.obj (fun x => x) hv; obtain ⟨hva, hvb⟩ := viewer_cells hv
        have hw := hx.obj (fun x => x) hw; obtain ⟨hwa, hwb⟩ := viewer_cells hw
        clear hx
        go_wp2_with fail
        refine (counts_mine h true (by omega) H3.out).mono ?_
        rintro e w' ⟨rfl, h', hx⟩; clear h; have h := h'; clear h'
        have hv := hx.obj hv (by decide); obtain ⟨hva, hvb⟩ := viewer_cells hv
        have hw := hx.obj hw (by decide); obtain ⟨hwa, hwb⟩ := viewer_cells hw
        clear hx
        go_wp2_with fail
        refine (top_mine h _ (by omega) rfl).mono ?_
        rintro e w' ⟨rfl, h', hx⟩; clear h; have h := h'; clear h'
        have hv := hx.obj hv (by decide); obtain ⟨hva, hvb⟩ := viewer_cells hv
        have hw := hx.obj hw (by decide); obtain ⟨hwa, hwb⟩ := viewer_cells hw
        clear hx
        go_wp2_with fail
        refine (number_mine h _ (by omega) rfl).mono ?_
        rintro e w' ⟨rfl, h', hx⟩; clear h; have h := h'; clear h'
        have hv := hx.obj hv (by decide); obtain ⟨hva, hvb⟩ := viewer_cells hv
        have hw := hx.obj hw (by decide); obtain ⟨hwa, hwb⟩ := viewer_cells hw
        clear hx
        go_wp2_with fail
        go_ret
        exact ⟨rfl, h.fr⟩

end Go.Proofs.Ytfgkocpmgoaljaa
