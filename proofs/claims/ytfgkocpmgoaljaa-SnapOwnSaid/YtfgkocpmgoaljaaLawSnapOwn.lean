/- The walk of the statement SnapOwn. The condition: the arguments read as data. -/
import Derived.Test.YtfgkocpmgoaljaaSnapX
import Derived.Test.YtfgkocpmgoaljaaXidS
import Derived.Test.YtfgkocpmgoaljaaRead
import Derived.Deep.RegionWith
import Derived.Deep.LoopGhost
import Derived.Deep.DeepCutAuto
import Derived.BigRegion
namespace Go.Proofs.Ytfgkocpmgoaljaa
open Go.RowKit Go.Shelf Xid

theorem two_own (w : World) (A B : Obj) : ((w.alloc A).alloc B).heap[w.heap.size]? = some A ∧ ((w.alloc A).alloc B).heap[w.heap.size + 1]? = some B := by
  refine ⟨obj_alloc (obj_alloc_new w A) B, ?_⟩
  have := obj_alloc_new (w.alloc A) B
  rw [World.size_alloc] at this
  exact this
def dnOf (T : List One) (id : Int) : Bool := countsOf T id && decide (0 < (numberOf T (topOf T id : Int) : Int))
theorem own_cases (T : List One) (att me other id : Int) :
    (Hid (ownOf T me id = false) ∧ Hid (seesOf T att me id = false) ∧ Hid (laterOf T att me id = false) ∧ Hid (countsOf T id = false)) ∨
    (Hid (ownOf T me id = false) ∧ Hid (seesOf T att me id = false) ∧ Hid (laterOf T att me id = false) ∧ Hid (countsOf T id = true) ∧ Hid ((numberOf T (topOf T id : Int) : Int) = 0)) ∨
    (Hid (ownOf T me id = false) ∧ Hid (seesOf T att me id = false) ∧ Hid (laterOf T att me id = true) ∧ Hid (countsOf T id = true) ∧ ∃ n : Nat, 0 < n ∧ Hid ((numberOf T (topOf T id : Int) : Int) = (n : Int))) ∨
    (Hid (ownOf T me id = false) ∧ Hid (seesOf T att me id = true) ∧ Hid (laterOf T att me id = false) ∧ Hid (countsOf T id = true) ∧ ∃ n : Nat, 0 < n ∧ Hid ((numberOf T (topOf T id : Int) : Int) = (n : Int))) ∨
    (Hid (ownOf T me id = true) ∧ Hid (seesOf T att me id = true) ∧ Hid (laterOf T att me id = false) ∧ Hid (countsOf T id = true) ∧ Hid ((numberOf T (topOf T id : Int) : Int) = 0) ∧ Hid (other ≠ me → ownOf T other id = false)) ∨
    (Hid (ownOf T me id = true) ∧ Hid (seesOf T att me id = true) ∧ Hid (laterOf T att me id = false) ∧ Hid (countsOf T id = true) ∧ ∃ n : Nat, 0 < n ∧ Hid ((numberOf T (topOf T id : Int) : Int) = (n : Int)) ∧ Hid (other ≠ me → ownOf T other id = false)) := by
  cases hc : countsOf T id
  · have hd : doneOf T id = 0 := by simp [doneOf, hc]
    have ho : ownOf T me id = false := by simp [ownOf, hc]
    have hs : seesOf T att me id = false := by simp [seesOf, ho, oldOf, hd]
    exact .inl ⟨Lib.hid ho, Lib.hid hs, Lib.hid (by simp [laterOf, hd]), Lib.hid rfl⟩
  · right
    have hd : doneOf T id = numberOf T (topOf T id : Int) := by simp [doneOf, hc]
    cases ho : ownOf T me id
    · by_cases hn : numberOf T (topOf T id : Int) = 0
      · rw [hn] at hd
        have hs : seesOf T att me id = false := by simp [seesOf, ho, oldOf, hd]
        exact .inl ⟨Lib.hid rfl, Lib.hid hs, Lib.hid (by simp [laterOf, hd]), Lib.hid rfl, Lib.hid (by rw [hn]; rfl)⟩
      · have hp : (0 : Int) < (numberOf T (topOf T id : Int) : Int) := by omega
        cases hs : seesOf T att me id
        · exact .inr (.inl ⟨Lib.hid rfl, Lib.hid rfl, Lib.hid (by simp only [laterOf, hd, hs]; simpa using hp), Lib.hid rfl, _, by omega, Lib.hid rfl⟩)
        · exact .inr (.inr (.inl ⟨Lib.hid rfl, Lib.hid rfl, Lib.hid (by simp [laterOf, hs]), Lib.hid rfl, _, by omega, Lib.hid rfl⟩))
    · have hs : seesOf T att me id = true := by simp [seesOf, ho]
      have hoo : other ≠ me → ownOf T other id = false := by
        intro h
        simp only [ownOf, hc, Bool.and_true, Bool.and_eq_true, beq_iff_eq] at ho
        have : ((topOf T id : Int) == other) = false := by rw [beq_eq_false_iff_ne]; omega
        simp [ownOf, this]
      by_cases hn : numberOf T (topOf T id : Int) = 0
      · exact .inr (.inr (.inr (.inl ⟨Lib.hid rfl, Lib.hid hs, Lib.hid (by simp [laterOf, hs]), Lib.hid rfl, Lib.hid (by rw [hn]; rfl), Lib.hid hoo⟩)))
      · exact .inr (.inr (.inr (.inr ⟨Lib.hid rfl, Lib.hid hs, Lib.hid (by simp [laterOf, hs]), Lib.hid rfl, _, by omega, Lib.hid rfl, Lib.hid hoo⟩)))

theorem abort_none {T : List One} {last : Nat} (h : Inv T last) {id : Int} (he : endE T id = 0) : countsOf (abortT T id) id = false := by
  obtain ⟨m, rfl, hm, _⟩ := endE_in he
  exact ((backed_abort h he hm hm).back (mem_upL_self h.wf hm) rfl).2.1

set_option maxRecDepth 100000 in
set_option maxHeartbeats 40000000 in
theorem own_law (a : Option Addr) (len cap : Nat) (L : List (Int × Int)) (hL : L.length = len) (hcap : len ≤ cap ∧ cap ≤ maxLen) (att me other id : Int) (w : World) (_ : ∀ p ∈ L, (Lit.int .u8 p.1).wf = true ∧ (Lit.int .i64 p.2).wf = true) (hS : IsPairs .u8 .i64 w a L)
    (_ : (Lit.int .i64 att).wf = true) (_ : (Lit.int .i64 me).wf = true) (_ : (Lit.int .i64 other).wf = true) (_ : (Lit.int .i64 id).wf = true) :
    Calls Try.prog 12 #[.slice a len cap, .int .i64 att, .int .i64 me, .int .i64 other, .int .i64 id] w fun e w' => e = .returned (.bool true) ∧ Fr noB w w' := by
  obtain ⟨hc1, hc2⟩ := hcap
  unfold maxLen at hc2
  by_cases h80 : 200 < len
  · go_enter Try.func12, Try.ntmps12
    go_wp2_with fail
    refine (awake_any _).mono ?_
    rintro e w1 ⟨rfl, hf1⟩
    go_wp2_with fail
    go_ret
    exact ⟨rfl, hf1⟩
  go_enter Try.func12, Try.ntmps12
  go_wp2_with fail
  refine (awake_any _).mono ?_
  rintro e w1 ⟨rfl, hf1⟩
  go_wp2_with fail
  refine (new_mine w w1 hf1).mono ?_
  rintro e w2 ⟨rfl, hM0⟩
  obtain ⟨p, hp⟩ : ∃ p, w1.heap.size = p := ⟨_, rfl⟩
  rw [hp] at hM0 ⊢
  clear hp hf1
  go_wp2_with fail
  have HL := Lib.hid hL
  clear hL
  go_loopg [12] len (fun g iv wr => ∃ (i : Nat) (T : List One) (last : Nat), i ≤ len ∧ g = len - i ∧ iv = .int .i64 i ∧ Mine w wr p T last ∧ T.length ≤ i ∧ last ≤ i ∧ Inv T last)
  case atStart => exact ⟨0, [], 0, by omega, by omega, rfl, hM0, by simp, by omega, Inv.nil⟩
  case round =>
    obtain ⟨i, T, last, hil, rfl, rfl, h, hTi, hla, hI⟩ := hrel
    by_cases hlt : i < len
    · obtain ⟨ad, ha, h1, h2⟩ := (hS.fr h.fr).cell i (by rw [HL.out]; exact hlt)
      subst ha
      have hd := do10_mine h (L.getD i (0, 0)).1 (L.getD i (0, 0)).2 (by omega) (by omega)
      have hI' := hI.do (L.getD i (0, 0)).1 (L.getD i (0, 0)).2
      have hTl := doT_length T last (L.getD i (0, 0)).1 (L.getD i (0, 0)).2
      have hLl := doL_le T last (L.getD i (0, 0)).1 (L.getD i (0, 0)).2
      generalize (L.getD i (0, 0)).1 = kd at *
      generalize (L.getD i (0, 0)).2 = idd at *
      clear h
      go_wp2_with fail
      refine hd.mono ?_
      rintro e w4 ⟨rfl, hM4, _⟩
      go_wp2_with fail
      go_roundg (len - (i + 1))
      case measure => omega
      case rel => exact ⟨i + 1, _, _, by omega, rfl, by go_num, hM4, by omega, by omega, hI'⟩
    · have hTl : T.length ≤ 200 := by omega
      have HI := Lib.hid hI
      have HCS := Lib.hid (own_cases T att me other id)
      clear hTi hla hI hil hM0
      have hf2 : Fr noB wr ((wr.alloc (.cells #[.int .i64 att, .int .i64 me] 50)).alloc (.cells #[.int .i64 att, .int .i64 other] 50)) := ((Fr.refl _ _).alloc _).alloc _
      obtain ⟨hv, hw⟩ := two_own wr (.cells #[.int .i64 att, .int .i64 me] 50) (.cells #[.int .i64 att, .int .i64 other] 50)
      have h := h.frN hf2
      obtain ⟨hva, hvb⟩ := viewer_cells hv
      obtain ⟨hwa, hwb⟩ := viewer_cells hw
      clear hf2
      go_upto_region 10 with fail
      generalize (wr.alloc (.cells #[.int .i64 att, .int .i64 me] 50)).alloc (.cells #[.int .i64 att, .int .i64 other] 50) = w3 at *
      generalize wr.heap.size = q1 at *
      go_upto_region 10 with fail
      go_cut [88] (fun s wx => s = .bool false ∧ Mine w wx p T last ∧ wx.heap[q1]? = some (.cells #[.int .i64 att, .int .i64 me] 50 (0, 0)) ∧ wx.heap[q1 + 1]? = some (.cells #[.int .i64 att, .int .i64 other] 50 (0, 0)))
      case first =>
        have hcs := HCS.out
        rcases hcs with ⟨HO, HS, HL, HC⟩ | ⟨HO, HS, HL, HC, HN⟩ | ⟨HO, HS, HL, HC, n, hn, HN⟩ | ⟨HO, HS, HL, HC, n, hn, HN⟩ | ⟨HO, HS, HL, HC, HN, hoo⟩ | ⟨HO, HS, HL, HC, n, hn, HN, hoo⟩
        · go_wp2_with fail
          refine (own_m h att me false (by omega) HO.out).mono ?_
          rintro e w' ⟨rfl, h', hx⟩; clear h; have h := h'; clear h'
          have hv := hx.obj (fun x => x) hv; obtain ⟨hva, hvb⟩ := viewer_cells hv
          have hw := hx.obj (fun x => x) hw; obtain ⟨hwa, hwb⟩ := viewer_cells hw
          clear hx
          go_wp2_with fail
          refine (sees_m h att me false (by omega) HS.out).mono ?_
          rintro e w' ⟨rfl, h', hx⟩; clear h; have h := h'; clear h'
          have hv := hx.obj (fun x => x) hv; obtain ⟨hva, hvb⟩ := viewer_cells hv
          have hw := hx.obj (fun x => x) hw; obtain ⟨hwa, hwb⟩ := viewer_cells hw
          clear hx
          go_wp2_with fail
          go_meet
          case rel => exact ⟨rfl, h, hv, hw⟩
        · go_wp2_with fail
          refine (own_m h att me false (by omega) HO.out).mono ?_
          rintro e w' ⟨rfl, h', hx⟩; clear h; have h := h'; clear h'
          have hv := hx.obj (fun x => x) hv; obtain ⟨hva, hvb⟩ := viewer_cells hv
          have hw := hx.obj (fun x => x) hw; obtain ⟨hwa, hwb⟩ := viewer_cells hw
          clear hx
          go_wp2_with fail
          refine (sees_m h att me false (by omega) HS.out).mono ?_
          rintro e w' ⟨rfl, h', hx⟩; clear h; have h := h'; clear h'
          have hv := hx.obj (fun x => x) hv; obtain ⟨hva, hvb⟩ := viewer_cells hv
          have hw := hx.obj (fun x => x) hw; obtain ⟨hwa, hwb⟩ := viewer_cells hw
          clear hx
          go_wp2_with fail
          go_meet
          case rel => exact ⟨rfl, h, hv, hw⟩
        · go_wp2_with fail
          refine (own_m h att me false (by omega) HO.out).mono ?_
          rintro e w' ⟨rfl, h', hx⟩; clear h; have h := h'; clear h'
          have hv := hx.obj (fun x => x) hv; obtain ⟨hva, hvb⟩ := viewer_cells hv
          have hw := hx.obj (fun x => x) hw; obtain ⟨hwa, hwb⟩ := viewer_cells hw
          clear hx
          go_wp2_with fail
          refine (sees_m h att me false (by omega) HS.out).mono ?_
          rintro e w' ⟨rfl, h', hx⟩; clear h; have h := h'; clear h'
          have hv := hx.obj (fun x => x) hv; obtain ⟨hva, hvb⟩ := viewer_cells hv
          have hw := hx.obj (fun x => x) hw; obtain ⟨hwa, hwb⟩ := viewer_cells hw
          clear hx
          go_wp2_with fail
          go_meet
          case rel => exact ⟨rfl, h, hv, hw⟩
        · go_wp2_with fail
          refine (own_m h att me false (by omega) HO.out).mono ?_
          rintro e w' ⟨rfl, h', hx⟩; clear h; have h := h'; clear h'
          have hv := hx.obj (fun x => x) hv; obtain ⟨hva, hvb⟩ := viewer_cells hv
          have hw := hx.obj (fun x => x) hw; obtain ⟨hwa, hwb⟩ := viewer_cells hw
          clear hx
          go_wp2_with fail
          refine (sees_m h att me true (by omega) HS.out).mono ?_
          rintro e w' ⟨rfl, h', hx⟩; clear h; have h := h'; clear h'
          have hv := hx.obj (fun x => x) hv; obtain ⟨hva, hvb⟩ := viewer_cells hv
          have hw := hx.obj (fun x => x) hw; obtain ⟨hwa, hwb⟩ := viewer_cells hw
          clear hx
          go_wp2_with fail
          refine (later_m h att me false (by omega) HL.out).mono ?_
          rintro e w' ⟨rfl, h', hx⟩; clear h; have h := h'; clear h'
          have hv := hx.obj (fun x => x) hv; obtain ⟨hva, hvb⟩ := viewer_cells hv
          have hw := hx.obj (fun x => x) hw; obtain ⟨hwa, hwb⟩ := viewer_cells hw
          clear hx
          go_wp2_with fail
          refine (counts_mine h true (by omega) HC.out).mono ?_
          rintro e w' ⟨rfl, h', hx⟩; clear h; have h := h'; clear h'
          have hv := hx.obj hv (by decide); obtain ⟨hva, hvb⟩ := viewer_cells hv
          have hw := hx.obj hw (by decide); obtain ⟨hwa, hwb⟩ := viewer_cells hw
          clear hx
          go_wp2_with fail
          go_meet
          case rel => exact ⟨rfl, h, hv, hw⟩
        · by_cases hom : other = me
          · have hom := hom.symm
            subst hom
            go_wp2_with fail
            refine (own_m h att me true (by omega) HO.out).mono ?_
            rintro e w' ⟨rfl, h', hx⟩; clear h; have h := h'; clear h'
            have hv := hx.obj (fun x => x) hv; obtain ⟨hva, hvb⟩ := viewer_cells hv
            have hw := hx.obj (fun x => x) hw; obtain ⟨hwa, hwb⟩ := viewer_cells hw
            clear hx
            go_wp2_with fail
            refine (sees_m h att me true (by omega) HS.out).mono ?_
            rintro e w' ⟨rfl, h', hx⟩; clear h; have h := h'; clear h'
            have hv := hx.obj (fun x => x) hv; obtain ⟨hva, hvb⟩ := viewer_cells hv
            have hw := hx.obj (fun x => x) hw; obtain ⟨hwa, hwb⟩ := viewer_cells hw
            clear hx
            go_wp2_with fail
            refine (counts_mine h true (by omega) HC.out).mono ?_
            rintro e w' ⟨rfl, h', hx⟩; clear h; have h := h'; clear h'
            have hv := hx.obj hv (by decide); obtain ⟨hva, hvb⟩ := viewer_cells hv
            have hw := hx.obj hw (by decide); obtain ⟨hwa, hwb⟩ := viewer_cells hw
            clear hx
            go_wp2_with fail
            refine (sees_m h att me true (by omega) HS.out).mono ?_
            rintro e w' ⟨rfl, h', hx⟩; clear h; have h := h'; clear h'
            have hv := hx.obj (fun x => x) hv; obtain ⟨hva, hvb⟩ := viewer_cells hv
            have hw := hx.obj (fun x => x) hw; obtain ⟨hwa, hwb⟩ := viewer_cells hw
            clear hx
            go_wp2_with fail
            refine (later_m h att me false (by omega) HL.out).mono ?_
            rintro e w' ⟨rfl, h', hx⟩; clear h; have h := h'; clear h'
            have hv := hx.obj (fun x => x) hv; obtain ⟨hva, hvb⟩ := viewer_cells hv
            have hw := hx.obj (fun x => x) hw; obtain ⟨hwa, hwb⟩ := viewer_cells hw
            clear hx
            go_wp2_with fail
            refine (counts_mine h true (by omega) HC.out).mono ?_
            rintro e w' ⟨rfl, h', hx⟩; clear h; have h := h'; clear h'
            have hv := hx.obj hv (by decide); obtain ⟨hva, hvb⟩ := viewer_cells hv
            have hw := hx.obj hw (by decide); obtain ⟨hwa, hwb⟩ := viewer_cells hw
            clear hx
            go_wp2_with fail
            go_meet
            case rel => exact ⟨rfl, h, hv, hw⟩
          · have hon : (other != me) = true := by simpa using hom
            have HW := Lib.hid (hoo.out hom)
            clear hom hoo
            go_wp2_with fail
            refine (own_m h att me true (by omega) HO.out).mono ?_
            rintro e w' ⟨rfl, h', hx⟩; clear h; have h := h'; clear h'
            have hv := hx.obj (fun x => x) hv; obtain ⟨hva, hvb⟩ := viewer_cells hv
            have hw := hx.obj (fun x => x) hw; obtain ⟨hwa, hwb⟩ := viewer_cells hw
            clear hx
            go_wp2_with fail
            refine (sees_m h att me true (by omega) HS.out).mono ?_
            rintro e w' ⟨rfl, h', hx⟩; clear h; have h := h'; clear h'
            have hv := hx.obj (fun x => x) hv; obtain ⟨hva, hvb⟩ := viewer_cells hv
            have hw := hx.obj (fun x => x) hw; obtain ⟨hwa, hwb⟩ := viewer_cells hw
            clear hx
            go_wp2_with fail
            refine (counts_mine h true (by omega) HC.out).mono ?_
            rintro e w' ⟨rfl, h', hx⟩; clear h; have h := h'; clear h'
            have hv := hx.obj hv (by decide); obtain ⟨hva, hvb⟩ := viewer_cells hv
            have hw := hx.obj hw (by decide); obtain ⟨hwa, hwb⟩ := viewer_cells hw
            clear hx
            go_wp2_with fail
            refine (own_m h att other false (by omega) HW.out).mono ?_
            rintro e w' ⟨rfl, h', hx⟩; clear h; have h := h'; clear h'
            have hv := hx.obj (fun x => x) hv; obtain ⟨hva, hvb⟩ := viewer_cells hv
            have hw := hx.obj (fun x => x) hw; obtain ⟨hwa, hwb⟩ := viewer_cells hw
            clear hx
            go_wp2_with fail
            refine (sees_m h att me true (by omega) HS.out).mono ?_
            rintro e w' ⟨rfl, h', hx⟩; clear h; have h := h'; clear h'
            have hv := hx.obj (fun x => x) hv; obtain ⟨hva, hvb⟩ := viewer_cells hv
            have hw := hx.obj (fun x => x) hw; obtain ⟨hwa, hwb⟩ := viewer_cells hw
            clear hx
            go_wp2_with fail
            refine (later_m h att me false (by omega) HL.out).mono ?_
            rintro e w' ⟨rfl, h', hx⟩; clear h; have h := h'; clear h'
            have hv := hx.obj (fun x => x) hv; obtain ⟨hva, hvb⟩ := viewer_cells hv
            have hw := hx.obj (fun x => x) hw; obtain ⟨hwa, hwb⟩ := viewer_cells hw
            clear hx
            go_wp2_with fail
            refine (counts_mine h true (by omega) HC.out).mono ?_
            rintro e w' ⟨rfl, h', hx⟩; clear h; have h := h'; clear h'
            have hv := hx.obj hv (by decide); obtain ⟨hva, hvb⟩ := viewer_cells hv
            have hw := hx.obj hw (by decide); obtain ⟨hwa, hwb⟩ := viewer_cells hw
            clear hx
            go_wp2_with fail
            go_meet
            case rel => exact ⟨rfl, h, hv, hw⟩
        · by_cases hom : other = me
          · have hom := hom.symm
            subst hom
            go_wp2_with fail
            refine (own_m h att me true (by omega) HO.out).mono ?_
            rintro e w' ⟨rfl, h', hx⟩; clear h; have h := h'; clear h'
            have hv := hx.obj (fun x => x) hv; obtain ⟨hva, hvb⟩ := viewer_cells hv
            have hw := hx.obj (fun x => x) hw; obtain ⟨hwa, hwb⟩ := viewer_cells hw
            clear hx
            go_wp2_with fail
            refine (sees_m h att me true (by omega) HS.out).mono ?_
            rintro e w' ⟨rfl, h', hx⟩; clear h; have h := h'; clear h'
            have hv := hx.obj (fun x => x) hv; obtain ⟨hva, hvb⟩ := viewer_cells hv
            have hw := hx.obj (fun x => x) hw; obtain ⟨hwa, hwb⟩ := viewer_cells hw
            clear hx
            go_wp2_with fail
            refine (counts_mine h true (by omega) HC.out).mono ?_
            rintro e w' ⟨rfl, h', hx⟩; clear h; have h := h'; clear h'
            have hv := hx.obj hv (by decide); obtain ⟨hva, hvb⟩ := viewer_cells hv
            have hw := hx.obj hw (by decide); obtain ⟨hwa, hwb⟩ := viewer_cells hw
            clear hx
            go_wp2_with fail
            refine (sees_m h att me true (by omega) HS.out).mono ?_
            rintro e w' ⟨rfl, h', hx⟩; clear h; have h := h'; clear h'
            have hv := hx.obj (fun x => x) hv; obtain ⟨hva, hvb⟩ := viewer_cells hv
            have hw := hx.obj (fun x => x) hw; obtain ⟨hwa, hwb⟩ := viewer_cells hw
            clear hx
            go_wp2_with fail
            refine (later_m h att me false (by omega) HL.out).mono ?_
            rintro e w' ⟨rfl, h', hx⟩; clear h; have h := h'; clear h'
            have hv := hx.obj (fun x => x) hv; obtain ⟨hva, hvb⟩ := viewer_cells hv
            have hw := hx.obj (fun x => x) hw; obtain ⟨hwa, hwb⟩ := viewer_cells hw
            clear hx
            go_wp2_with fail
            refine (counts_mine h true (by omega) HC.out).mono ?_
            rintro e w' ⟨rfl, h', hx⟩; clear h; have h := h'; clear h'
            have hv := hx.obj hv (by decide); obtain ⟨hva, hvb⟩ := viewer_cells hv
            have hw := hx.obj hw (by decide); obtain ⟨hwa, hwb⟩ := viewer_cells hw
            clear hx
            go_wp2_with fail
            go_meet
            case rel => exact ⟨rfl, h, hv, hw⟩
          · have hon : (other != me) = true := by simpa using hom
            have HW := Lib.hid (hoo.out hom)
            clear hom hoo
            go_wp2_with fail
            refine (own_m h att me true (by omega) HO.out).mono ?_
            rintro e w' ⟨rfl, h', hx⟩; clear h; have h := h'; clear h'
            have hv := hx.obj (fun x => x) hv; obtain ⟨hva, hvb⟩ := viewer_cells hv
            have hw := hx.obj (fun x => x) hw; obtain ⟨hwa, hwb⟩ := viewer_cells hw
            clear hx
            go_wp2_with fail
            refine (sees_m h att me true (by omega) HS.out).mono ?_
            rintro e w' ⟨rfl, h', hx⟩; clear h; have h := h'; clear h'
            have hv := hx.obj (fun x => x) hv; obtain ⟨hva, hvb⟩ := viewer_cells hv
            have hw := hx.obj (fun x => x) hw; obtain ⟨hwa, hwb⟩ := viewer_cells hw
            clear hx
            go_wp2_with fail
            refine (counts_mine h true (by omega) HC.out).mono ?_
            rintro e w' ⟨rfl, h', hx⟩; clear h; have h := h'; clear h'
            have hv := hx.obj hv (by decide); obtain ⟨hva, hvb⟩ := viewer_cells hv
            have hw := hx.obj hw (by decide); obtain ⟨hwa, hwb⟩ := viewer_cells hw
            clear hx
            go_wp2_with fail
            refine (own_m h att other false (by omega) HW.out).mono ?_
            rintro e w' ⟨rfl, h', hx⟩; clear h; have h := h'; clear h'
            have hv := hx.obj (fun x => x) hv; obtain ⟨hva, hvb⟩ := viewer_cells hv
            have hw := hx.obj (fun x => x) hw; obtain ⟨hwa, hwb⟩ := viewer_cells hw
            clear hx
            go_wp2_with fail
            refine (sees_m h att me true (by omega) HS.out).mono ?_
            rintro e w' ⟨rfl, h', hx⟩; clear h; have h := h'; clear h'
            have hv := hx.obj (fun x => x) hv; obtain ⟨hva, hvb⟩ := viewer_cells hv
            have hw := hx.obj (fun x => x) hw; obtain ⟨hwa, hwb⟩ := viewer_cells hw
            clear hx
            go_wp2_with fail
            refine (later_m h att me false (by omega) HL.out).mono ?_
            rintro e w' ⟨rfl, h', hx⟩; clear h; have h := h'; clear h'
            have hv := hx.obj (fun x => x) hv; obtain ⟨hva, hvb⟩ := viewer_cells hv
            have hw := hx.obj (fun x => x) hw; obtain ⟨hwa, hwb⟩ := viewer_cells hw
            clear hx
            go_wp2_with fail
            refine (counts_mine h true (by omega) HC.out).mono ?_
            rintro e w' ⟨rfl, h', hx⟩; clear h; have h := h'; clear h'
            have hv := hx.obj hv (by decide); obtain ⟨hva, hvb⟩ := viewer_cells hv
            have hw := hx.obj hw (by decide); obtain ⟨hwa, hwb⟩ := viewer_cells hw
            clear hx
            go_wp2_with fail
            go_meet
            case rel => exact ⟨rfl, h, hv, hw⟩
      case rest =>
      obtain ⟨rfl, h, hv, hw⟩ := hcut
      obtain ⟨hva, hvb⟩ := viewer_cells hv
      obtain ⟨hwa, hwb⟩ := viewer_cells hw
      go_upto_region 12 with fail
      go_cut [15] (fun s wx => s = .bool (dnOf T id) ∧ Mine w wx p T last ∧ wx.heap[q1]? = some (.cells #[.int .i64 att, .int .i64 me] 50 (0, 0)) ∧ wx.heap[q1 + 1]? = some (.cells #[.int .i64 att, .int .i64 other] 50 (0, 0)))
      case first =>
        have hcs := HCS.out
        rcases hcs with ⟨HO, HS, HL, HC⟩ | ⟨HO, HS, HL, HC, HN⟩ | ⟨HO, HS, HL, HC, n, hn, HN⟩ | ⟨HO, HS, HL, HC, n, hn, HN⟩ | ⟨HO, HS, HL, HC, HN, hoo⟩ | ⟨HO, HS, HL, HC, n, hn, HN, hoo⟩
        · have HD := Lib.hid (show dnOf T id = false by simp [dnOf, HC.out])
          go_wp2_with fail
          refine (counts_mine h false (by omega) HC.out).mono ?_
          rintro e w' ⟨rfl, h', hx⟩; clear h; have h := h'; clear h'
          have hv := hx.obj hv (by decide); obtain ⟨hva, hvb⟩ := viewer_cells hv
          have hw := hx.obj hw (by decide); obtain ⟨hwa, hwb⟩ := viewer_cells hw
          clear hx
          go_wp2_with fail
          go_meet
          case rel => exact ⟨by rw [HD.out] <;> rfl, h, hv, hw⟩
        · have HD := Lib.hid (show dnOf T id = false by unfold dnOf; rw [HC.out, HN.out]; rfl)
          go_wp2_with fail
          refine (counts_mine h true (by omega) HC.out).mono ?_
          rintro e w' ⟨rfl, h', hx⟩; clear h; have h := h'; clear h'
          have hv := hx.obj hv (by decide); obtain ⟨hva, hvb⟩ := viewer_cells hv
          have hw := hx.obj hw (by decide); obtain ⟨hwa, hwb⟩ := viewer_cells hw
          clear hx
          go_wp2_with fail
          refine (top_mine h _ (by omega) rfl).mono ?_
          rintro e w' ⟨rfl, h', hx⟩; clear h; have h := h'; clear h'
          have hv := hx.obj hv (by decide); obtain ⟨hva, hvb⟩ := viewer_cells hv
          have hw := hx.obj hw (by decide); obtain ⟨hwa, hwb⟩ := viewer_cells hw
          clear hx
          go_wp2_with fail
          refine (number_mine h 0 (by omega) HN.out).mono ?_
          rintro e w' ⟨rfl, h', hx⟩; clear h; have h := h'; clear h'
          have hv := hx.obj hv (by decide); obtain ⟨hva, hvb⟩ := viewer_cells hv
          have hw := hx.obj hw (by decide); obtain ⟨hwa, hwb⟩ := viewer_cells hw
          clear hx
          go_wp2_with fail
          go_meet
          case rel => exact ⟨by rw [HD.out] <;> rfl, h, hv, hw⟩
        · have HD := Lib.hid (show dnOf T id = true by unfold dnOf; rw [HC.out, HN.out]; simpa using hn)
          have hnb : ((n : Int) == 0) = false := by rw [beq_eq_false_iff_ne]; omega
          go_wp2_with fail
          refine (counts_mine h true (by omega) HC.out).mono ?_
          rintro e w' ⟨rfl, h', hx⟩; clear h; have h := h'; clear h'
          have hv := hx.obj hv (by decide); obtain ⟨hva, hvb⟩ := viewer_cells hv
          have hw := hx.obj hw (by decide); obtain ⟨hwa, hwb⟩ := viewer_cells hw
          clear hx
          go_wp2_with fail
          refine (top_mine h _ (by omega) rfl).mono ?_
          rintro e w' ⟨rfl, h', hx⟩; clear h; have h := h'; clear h'
          have hv := hx.obj hv (by decide); obtain ⟨hva, hvb⟩ := viewer_cells hv
          have hw := hx.obj hw (by decide); obtain ⟨hwa, hwb⟩ := viewer_cells hw
          clear hx
          go_wp2_with fail
          refine (number_mine h (n : Int) (by omega) HN.out).mono ?_
          rintro e w' ⟨rfl, h', hx⟩; clear h; have h := h'; clear h'
          have hv := hx.obj hv (by decide); obtain ⟨hva, hvb⟩ := viewer_cells hv
          have hw := hx.obj hw (by decide); obtain ⟨hwa, hwb⟩ := viewer_cells hw
          clear hx
          go_wp2_with fail
          go_meet
          case rel => exact ⟨by rw [HD.out] <;> rfl, h, hv, hw⟩
        · have HD := Lib.hid (show dnOf T id = true by unfold dnOf; rw [HC.out, HN.out]; simpa using hn)
          have hnb : ((n : Int) == 0) = false := by rw [beq_eq_false_iff_ne]; omega
          go_wp2_with fail
          refine (counts_mine h true (by omega) HC.out).mono ?_
          rintro e w' ⟨rfl, h', hx⟩; clear h; have h := h'; clear h'
          have hv := hx.obj hv (by decide); obtain ⟨hva, hvb⟩ := viewer_cells hv
          have hw := hx.obj hw (by decide); obtain ⟨hwa, hwb⟩ := viewer_cells hw
          clear hx
          go_wp2_with fail
          refine (top_mine h _ (by omega) rfl).mono ?_
          rintro e w' ⟨rfl, h', hx⟩; clear h; have h := h'; clear h'
          have hv := hx.obj hv (by decide); obtain ⟨hva, hvb⟩ := viewer_cells hv
          have hw := hx.obj hw (by decide); obtain ⟨hwa, hwb⟩ := viewer_cells hw
          clear hx
          go_wp2_with fail
          refine (number_mine h (n : Int) (by omega) HN.out).mono ?_
          rintro e w' ⟨rfl, h', hx⟩; clear h; have h := h'; clear h'
          have hv := hx.obj hv (by decide); obtain ⟨hva, hvb⟩ := viewer_cells hv
          have hw := hx.obj hw (by decide); obtain ⟨hwa, hwb⟩ := viewer_cells hw
          clear hx
          go_wp2_with fail
          go_meet
          case rel => exact ⟨by rw [HD.out] <;> rfl, h, hv, hw⟩
        · have HD := Lib.hid (show dnOf T id = false by unfold dnOf; rw [HC.out, HN.out]; rfl)
          go_wp2_with fail
          refine (counts_mine h true (by omega) HC.out).mono ?_
          rintro e w' ⟨rfl, h', hx⟩; clear h; have h := h'; clear h'
          have hv := hx.obj hv (by decide); obtain ⟨hva, hvb⟩ := viewer_cells hv
          have hw := hx.obj hw (by decide); obtain ⟨hwa, hwb⟩ := viewer_cells hw
          clear hx
          go_wp2_with fail
          refine (top_mine h _ (by omega) rfl).mono ?_
          rintro e w' ⟨rfl, h', hx⟩; clear h; have h := h'; clear h'
          have hv := hx.obj hv (by decide); obtain ⟨hva, hvb⟩ := viewer_cells hv
          have hw := hx.obj hw (by decide); obtain ⟨hwa, hwb⟩ := viewer_cells hw
          clear hx
          go_wp2_with fail
          refine (number_mine h 0 (by omega) HN.out).mono ?_
          rintro e w' ⟨rfl, h', hx⟩; clear h; have h := h'; clear h'
          have hv := hx.obj hv (by decide); obtain ⟨hva, hvb⟩ := viewer_cells hv
          have hw := hx.obj hw (by decide); obtain ⟨hwa, hwb⟩ := viewer_cells hw
          clear hx
          go_wp2_with fail
          go_meet
          case rel => exact ⟨by rw [HD.out] <;> rfl, h, hv, hw⟩
        · have HD := Lib.hid (show dnOf T id = true by unfold dnOf; rw [HC.out, HN.out]; simpa using hn)
          have hnb : ((n : Int) == 0) = false := by rw [beq_eq_false_iff_ne]; omega
          go_wp2_with fail
          refine (counts_mine h true (by omega) HC.out).mono ?_
          rintro e w' ⟨rfl, h', hx⟩; clear h; have h := h'; clear h'
          have hv := hx.obj hv (by decide); obtain ⟨hva, hvb⟩ := viewer_cells hv
          have hw := hx.obj hw (by decide); obtain ⟨hwa, hwb⟩ := viewer_cells hw
          clear hx
          go_wp2_with fail
          refine (top_mine h _ (by omega) rfl).mono ?_
          rintro e w' ⟨rfl, h', hx⟩; clear h; have h := h'; clear h'
          have hv := hx.obj hv (by decide); obtain ⟨hva, hvb⟩ := viewer_cells hv
          have hw := hx.obj hw (by decide); obtain ⟨hwa, hwb⟩ := viewer_cells hw
          clear hx
          go_wp2_with fail
          refine (number_mine h (n : Int) (by omega) HN.out).mono ?_
          rintro e w' ⟨rfl, h', hx⟩; clear h; have h := h'; clear h'
          have hv := hx.obj hv (by decide); obtain ⟨hva, hvb⟩ := viewer_cells hv
          have hw := hx.obj hw (by decide); obtain ⟨hwa, hwb⟩ := viewer_cells hw
          clear hx
          go_wp2_with fail
          go_meet
          case rel => exact ⟨by rw [HD.out] <;> rfl, h, hv, hw⟩
      case rest =>
      obtain ⟨rfl, h, hv, hw⟩ := hcut
      obtain ⟨hva, hvb⟩ := viewer_cells hv
      obtain ⟨hwa, hwb⟩ := viewer_cells hw
      go_upto_region 13 with fail
      go_cut [15, 126] (fun _ s wx => s = .bool false ∧ Mine w wx p T last ∧ wx.heap[q1]? = some (.cells #[.int .i64 att, .int .i64 me] 50 (0, 0)) ∧ wx.heap[q1 + 1]? = some (.cells #[.int .i64 att, .int .i64 other] 50 (0, 0)))
      case first =>
        have hcs := HCS.out
        rcases hcs with ⟨HO, HS, HL, HC⟩ | ⟨HO, HS, HL, HC, HN⟩ | ⟨HO, HS, HL, HC, n, hn, HN⟩ | ⟨HO, HS, HL, HC, n, hn, HN⟩ | ⟨HO, HS, HL, HC, HN, hoo⟩ | ⟨HO, HS, HL, HC, n, hn, HN, hoo⟩
        · have HD := Lib.hid (show dnOf T id = false by simp [dnOf, HC.out])
          rw [HD.out]
          go_wp2_with fail
          refine (later_m h att me false (by omega) HL.out).mono ?_
          rintro e w' ⟨rfl, h', hx⟩; clear h; have h := h'; clear h'
          have hv := hx.obj (fun x => x) hv; obtain ⟨hva, hvb⟩ := viewer_cells hv
          have hw := hx.obj (fun x => x) hw; obtain ⟨hwa, hwb⟩ := viewer_cells hw
          clear hx
          go_wp2_with fail
          refine (sees_m h att me false (by omega) HS.out).mono ?_
          rintro e w' ⟨rfl, h', hx⟩; clear h; have h := h'; clear h'
          have hv := hx.obj (fun x => x) hv; obtain ⟨hva, hvb⟩ := viewer_cells hv
          have hw := hx.obj (fun x => x) hw; obtain ⟨hwa, hwb⟩ := viewer_cells hw
          clear hx
          go_wp2_with fail
          go_meet
          case rel => exact ⟨rfl, h, hv, hw⟩
        · have HD := Lib.hid (show dnOf T id = false by unfold dnOf; rw [HC.out, HN.out]; rfl)
          rw [HD.out]
          go_wp2_with fail
          refine (later_m h att me false (by omega) HL.out).mono ?_
          rintro e w' ⟨rfl, h', hx⟩; clear h; have h := h'; clear h'
          have hv := hx.obj (fun x => x) hv; obtain ⟨hva, hvb⟩ := viewer_cells hv
          have hw := hx.obj (fun x => x) hw; obtain ⟨hwa, hwb⟩ := viewer_cells hw
          clear hx
          go_wp2_with fail
          refine (sees_m h att me false (by omega) HS.out).mono ?_
          rintro e w' ⟨rfl, h', hx⟩; clear h; have h := h'; clear h'
          have hv := hx.obj (fun x => x) hv; obtain ⟨hva, hvb⟩ := viewer_cells hv
          have hw := hx.obj (fun x => x) hw; obtain ⟨hwa, hwb⟩ := viewer_cells hw
          clear hx
          go_wp2_with fail
          go_meet
          case rel => exact ⟨rfl, h, hv, hw⟩
        · have HD := Lib.hid (show dnOf T id = true by unfold dnOf; rw [HC.out, HN.out]; simpa using hn)
          have hnb : ((n : Int) == 0) = false := by rw [beq_eq_false_iff_ne]; omega
          rw [HD.out]
          go_wp2_with fail
          refine (later_m h att me true (by omega) HL.out).mono ?_
          rintro e w' ⟨rfl, h', hx⟩; clear h; have h := h'; clear h'
          have hv := hx.obj (fun x => x) hv; obtain ⟨hva, hvb⟩ := viewer_cells hv
          have hw := hx.obj (fun x => x) hw; obtain ⟨hwa, hwb⟩ := viewer_cells hw
          clear hx
          go_wp2_with fail
          go_meet
          case rel => exact ⟨rfl, h, hv, hw⟩
        · have HD := Lib.hid (show dnOf T id = true by unfold dnOf; rw [HC.out, HN.out]; simpa using hn)
          have hnb : ((n : Int) == 0) = false := by rw [beq_eq_false_iff_ne]; omega
          rw [HD.out]
          go_wp2_with fail
          refine (later_m h att me false (by omega) HL.out).mono ?_
          rintro e w' ⟨rfl, h', hx⟩; clear h; have h := h'; clear h'
          have hv := hx.obj (fun x => x) hv; obtain ⟨hva, hvb⟩ := viewer_cells hv
          have hw := hx.obj (fun x => x) hw; obtain ⟨hwa, hwb⟩ := viewer_cells hw
          clear hx
          go_wp2_with fail
          refine (sees_m h att me true (by omega) HS.out).mono ?_
          rintro e w' ⟨rfl, h', hx⟩; clear h; have h := h'; clear h'
          have hv := hx.obj (fun x => x) hv; obtain ⟨hva, hvb⟩ := viewer_cells hv
          have hw := hx.obj (fun x => x) hw; obtain ⟨hwa, hwb⟩ := viewer_cells hw
          clear hx
          go_wp2_with fail
          refine (own_m h att me false (by omega) HO.out).mono ?_
          rintro e w' ⟨rfl, h', hx⟩; clear h; have h := h'; clear h'
          have hv := hx.obj (fun x => x) hv; obtain ⟨hva, hvb⟩ := viewer_cells hv
          have hw := hx.obj (fun x => x) hw; obtain ⟨hwa, hwb⟩ := viewer_cells hw
          clear hx
          go_wp2_with fail
          go_meet
          case rel => exact ⟨rfl, h, hv, hw⟩
        · have HD := Lib.hid (show dnOf T id = false by unfold dnOf; rw [HC.out, HN.out]; rfl)
          rw [HD.out]
          go_wp2_with fail
          refine (later_m h att me false (by omega) HL.out).mono ?_
          rintro e w' ⟨rfl, h', hx⟩; clear h; have h := h'; clear h'
          have hv := hx.obj (fun x => x) hv; obtain ⟨hva, hvb⟩ := viewer_cells hv
          have hw := hx.obj (fun x => x) hw; obtain ⟨hwa, hwb⟩ := viewer_cells hw
          clear hx
          go_wp2_with fail
          refine (sees_m h att me true (by omega) HS.out).mono ?_
          rintro e w' ⟨rfl, h', hx⟩; clear h; have h := h'; clear h'
          have hv := hx.obj (fun x => x) hv; obtain ⟨hva, hvb⟩ := viewer_cells hv
          have hw := hx.obj (fun x => x) hw; obtain ⟨hwa, hwb⟩ := viewer_cells hw
          clear hx
          go_wp2_with fail
          refine (own_m h att me true (by omega) HO.out).mono ?_
          rintro e w' ⟨rfl, h', hx⟩; clear h; have h := h'; clear h'
          have hv := hx.obj (fun x => x) hv; obtain ⟨hva, hvb⟩ := viewer_cells hv
          have hw := hx.obj (fun x => x) hw; obtain ⟨hwa, hwb⟩ := viewer_cells hw
          clear hx
          go_wp2_with fail
          refine (top_mine h _ (by omega) rfl).mono ?_
          rintro e w' ⟨rfl, h', hx⟩; clear h; have h := h'; clear h'
          have hv := hx.obj hv (by decide); obtain ⟨hva, hvb⟩ := viewer_cells hv
          have hw := hx.obj hw (by decide); obtain ⟨hwa, hwb⟩ := viewer_cells hw
          clear hx
          go_wp2_with fail
          refine (number_mine h 0 (by omega) HN.out).mono ?_
          rintro e w' ⟨rfl, h', hx⟩; clear h; have h := h'; clear h'
          have hv := hx.obj hv (by decide); obtain ⟨hva, hvb⟩ := viewer_cells hv
          have hw := hx.obj hw (by decide); obtain ⟨hwa, hwb⟩ := viewer_cells hw
          clear hx
          go_wp2_with fail
          go_meet
          case rel => exact ⟨rfl, h, hv, hw⟩
        · have HD := Lib.hid (show dnOf T id = true by unfold dnOf; rw [HC.out, HN.out]; simpa using hn)
          have hnb : ((n : Int) == 0) = false := by rw [beq_eq_false_iff_ne]; omega
          rw [HD.out]
          go_wp2_with fail
          refine (later_m h att me false (by omega) HL.out).mono ?_
          rintro e w' ⟨rfl, h', hx⟩; clear h; have h := h'; clear h'
          have hv := hx.obj (fun x => x) hv; obtain ⟨hva, hvb⟩ := viewer_cells hv
          have hw := hx.obj (fun x => x) hw; obtain ⟨hwa, hwb⟩ := viewer_cells hw
          clear hx
          go_wp2_with fail
          refine (sees_m h att me true (by omega) HS.out).mono ?_
          rintro e w' ⟨rfl, h', hx⟩; clear h; have h := h'; clear h'
          have hv := hx.obj (fun x => x) hv; obtain ⟨hva, hvb⟩ := viewer_cells hv
          have hw := hx.obj (fun x => x) hw; obtain ⟨hwa, hwb⟩ := viewer_cells hw
          clear hx
          go_wp2_with fail
          refine (own_m h att me true (by omega) HO.out).mono ?_
          rintro e w' ⟨rfl, h', hx⟩; clear h; have h := h'; clear h'
          have hv := hx.obj (fun x => x) hv; obtain ⟨hva, hvb⟩ := viewer_cells hv
          have hw := hx.obj (fun x => x) hw; obtain ⟨hwa, hwb⟩ := viewer_cells hw
          clear hx
          go_wp2_with fail
          refine (top_mine h _ (by omega) rfl).mono ?_
          rintro e w' ⟨rfl, h', hx⟩; clear h; have h := h'; clear h'
          have hv := hx.obj hv (by decide); obtain ⟨hva, hvb⟩ := viewer_cells hv
          have hw := hx.obj hw (by decide); obtain ⟨hwa, hwb⟩ := viewer_cells hw
          clear hx
          go_wp2_with fail
          refine (number_mine h (n : Int) (by omega) HN.out).mono ?_
          rintro e w' ⟨rfl, h', hx⟩; clear h; have h := h'; clear h'
          have hv := hx.obj hv (by decide); obtain ⟨hva, hvb⟩ := viewer_cells hv
          have hw := hx.obj hw (by decide); obtain ⟨hwa, hwb⟩ := viewer_cells hw
          clear hx
          go_wp2_with fail
          go_meet
          case rel => exact ⟨rfl, h, hv, hw⟩
      case rest =>
      obtain ⟨rfl, h, hv, hw⟩ := hcut
      obtain ⟨hva, hvb⟩ := viewer_cells hv
      obtain ⟨hwa, hwb⟩ := viewer_cells hw
      by_cases ho : ownOf T me id = true
      · have HO := Lib.hid ho
        clear ho
        by_cases he : endE T id = 0
        · have HE := Lib.hid he
          have hn0 := abort_none HI.out he
          have HO2 := Lib.hid (show ownOf (abortT T id) me id = false by simp [ownOf, hn0])
          have HS2 := Lib.hid (show seesOf (abortT T id) att me id = false by simp [seesOf, ownOf, oldOf, doneOf, hn0])
          have HLEN := Lib.hid (show (abortT T id).length = T.length from endT_length _ _ _ _)
          clear he hn0
          go_wp2_with fail
          refine (own_m h att me true (by omega) HO.out).mono ?_
          rintro e w' ⟨rfl, h', hx⟩; clear h; have h := h'; clear h'
          have hv := hx.obj (fun x => x) hv; obtain ⟨hva, hvb⟩ := viewer_cells hv
          have hw := hx.obj (fun x => x) hw; obtain ⟨hwa, hwb⟩ := viewer_cells hw
          clear hx
          go_wp2_with fail
          refine (abort_mine h 0 _ (by omega) HE.out rfl).mono ?_
          rintro e w' ⟨rfl, h', hx⟩; clear h; have h := h'; clear h'
          have hv := hx.obj hv (by decide); obtain ⟨hva, hvb⟩ := viewer_cells hv
          have hw := hx.obj hw (by decide); obtain ⟨hwa, hwb⟩ := viewer_cells hw
          clear hx
          go_wp2_with fail
          refine (own_m h att me false (by rw [HLEN.out]; omega) HO2.out).mono ?_
          rintro e w' ⟨rfl, h', hx⟩; clear h; have h := h'; clear h'
          have hv := hx.obj (fun x => x) hv; obtain ⟨hva, hvb⟩ := viewer_cells hv
          have hw := hx.obj (fun x => x) hw; obtain ⟨hwa, hwb⟩ := viewer_cells hw
          clear hx
          go_wp2_with fail
          refine (sees_m h att me false (by rw [HLEN.out]; omega) HS2.out).mono ?_
          rintro e w' ⟨rfl, h', hx⟩; clear h; have h := h'; clear h'
          have hv := hx.obj (fun x => x) hv; obtain ⟨hva, hvb⟩ := viewer_cells hv
          have hw := hx.obj (fun x => x) hw; obtain ⟨hwa, hwb⟩ := viewer_cells hw
          clear hx
          go_wp2_with fail
          go_ret
          exact ⟨rfl, h.fr⟩
        · have heb : (endE T id == 0) = false := by rw [beq_eq_false_iff_ne]; exact he
          clear he
          go_wp2_with fail
          refine (own_m h att me true (by omega) HO.out).mono ?_
          rintro e w' ⟨rfl, h', hx⟩; clear h; have h := h'; clear h'
          have hv := hx.obj (fun x => x) hv; obtain ⟨hva, hvb⟩ := viewer_cells hv
          have hw := hx.obj (fun x => x) hw; obtain ⟨hwa, hwb⟩ := viewer_cells hw
          clear hx
          go_wp2_with fail
          refine (abort_mine h _ _ (by omega) rfl rfl).mono ?_
          rintro e w' ⟨rfl, h', hx⟩; clear h; have h := h'; clear h'
          have hv := hx.obj hv (by decide); obtain ⟨hva, hvb⟩ := viewer_cells hv
          have hw := hx.obj hw (by decide); obtain ⟨hwa, hwb⟩ := viewer_cells hw
          clear hx
          go_wp2_with fail
          go_ret
          exact ⟨rfl, h.fr⟩
      · have HO := Lib.hid (show ownOf T me id = false by simpa using ho)
        clear ho
        go_wp2_with fail
        refine (own_m h att me false (by omega) HO.out).mono ?_
        rintro e w' ⟨rfl, h', hx⟩; clear h; have h := h'; clear h'
        have hv := hx.obj (fun x => x) hv; obtain ⟨hva, hvb⟩ := viewer_cells hv
        have hw := hx.obj (fun x => x) hw; obtain ⟨hwa, hwb⟩ := viewer_cells hw
        clear hx
        go_wp2_with fail
        go_ret
        exact ⟨rfl, h.fr⟩

end Go.Proofs.Ytfgkocpmgoaljaa
