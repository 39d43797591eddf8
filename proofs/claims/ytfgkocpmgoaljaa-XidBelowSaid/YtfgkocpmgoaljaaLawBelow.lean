/- The walk of the statement XidBelow. The condition: the argument reads as data. -/
import Derived.Test.YtfgkocpmgoaljaaXidI
import Derived.Test.YtfgkocpmgoaljaaXidP
import Derived.Test.YtfgkocpmgoaljaaRead
import Derived.Deep.RegionWith
namespace Go.Proofs.Ytfgkocpmgoaljaa
open Go.RowKit Go.Shelf Xid

theorem infoInt : (Try.prog.info? 3).map (fun i => (i.zero, i.size, i.bytes)) = some (some (.int .i64 0), 1, 8) := by kernel_rfl

def parC (T : List One) : List Value := .int .i64 0 :: (T.map (·.parent)).map fun n : Nat => Value.int .i64 n
theorem parC_length (T : List One) : (parC T).length = T.length + 1 := by simp [parC]
theorem parC_get {T : List One} {k : Nat} (hk : k < T.length) : (parC T)[k + 1]? = some (.int .i64 (gt T k).parent) := by
  rw [gt_mem hk]; simp [parC, hk]

/-- What is told of one that stands below another one, and of that one. -/
theorem below_facts {T : List One} {last k : Nat} (h : Inv T last) (hk : k < T.length) (hp : (gt T k).parent ≠ 0) :
    ∃ (cc c1 : Bool) (s1 s2 tt : Int), ((cc = false ∧ c1 = false ∧ s1 = 1 ∧ s2 = 1) ∨ (cc = true ∧ c1 = true ∧ s1 = 1 ∧ s2 = 1) ∨ (cc = false ∧ c1 = false ∧ s1 = 2) ∨ (cc = true ∧ c1 = true ∧ s1 = 2) ∨ (cc = false ∧ c1 = false ∧ s1 = 3) ∨ (cc = true ∧ c1 = false ∧ s1 = 3)) ∧
      Hid ((topOf T ((k : Int) + 1) : Int) = tt) ∧ Hid ((topOf T ((gt T k).parent : Int) : Int) = tt) ∧
      Hid (countsOf T ((k : Int) + 1) = c1) ∧ Hid (countsOf T ((gt T k).parent : Int) = cc) ∧ Hid ((stateOf T ((k : Int) + 1) : Int) = s1) ∧ Hid ((stateOf T ((gt T k).parent : Int) : Int) = s2) := by
  have hwf := h.wf
  have hpk := hwf.par k hk
  have hst := stateOf_in hk
  have hcnt := countsOf_par hwf hk hp
  have hrun := h.run k hk
  obtain ⟨j, hj⟩ : ∃ j, (gt T k).parent = j + 1 := ⟨(gt T k).parent - 1, by omega⟩
  have hsp : stateOf T ((gt T k).parent : Int) = st T (gt T k).parent := by rw [hj]; exact stateOf_in (by omega)
  refine ⟨countsOf T ((gt T k).parent : Int), countsOf T ((k : Int) + 1), _, _, (topOf T ((gt T k).parent : Int) : Int), ?_, by rw [topOf_par hwf hk hp]; rfl, rfl, rfl, rfl, rfl, rfl⟩
  rw [hst, hcnt, hsp]
  rcases h.sts k hk with hs | hs | hs
  · rw [hs, hrun hs hp]; cases countsOf T ((gt T k).parent : Int) <;> simp
  · rw [hs]; cases countsOf T ((gt T k).parent : Int) <;> simp
  · rw [hs]; cases countsOf T ((gt T k).parent : Int) <;> simp

set_option maxRecDepth 100000 in
set_option maxHeartbeats 4000000 in
theorem below_law (a : Option Addr) (len cap : Nat) (L : List (Int × Int)) (hL : L.length = len) (hcap : len ≤ cap ∧ cap ≤ maxLen) (w : World) (_hwf : ∀ p ∈ L, (Lit.int .u8 p.1).wf = true ∧ (Lit.int .i64 p.2).wf = true) (hS : IsPairs .u8 .i64 w a L) :
    Calls Try.prog 6 #[.slice a len cap] w fun e w' => e = .returned (.bool true) ∧ Fr noB w w' := by
  obtain ⟨hc1, hc2⟩ := hcap
  unfold maxLen at hc2
  by_cases h80 : 80 < len
  · go_enter Try.func6, Try.ntmps6
    go_wp2_with fail
    refine (works_any w).mono ?_
    rintro e w1 ⟨rfl, hf1⟩
    go_wp2_with fail
    refine (works_any w1).mono ?_
    rintro e w2 ⟨rfl, hf2⟩
    go_wp2_with fail
    go_ret
    exact ⟨rfl, hf1.trans hf2⟩
  · go_enter Try.func6, Try.ntmps6
    go_wp2_with fail
    refine (works_any w).mono ?_
    rintro e w1 ⟨rfl, hf1⟩
    go_wp2_with fail
    refine (new_mine w w1 hf1).mono ?_
    rintro e w2 ⟨rfl, hM⟩
    obtain ⟨p, hp⟩ : ∃ p, w1.heap.size = p := ⟨_, rfl⟩
    rw [hp] at hM ⊢
    clear hp
    go_wp2_with fail
    have hw2 := hM.fr.size
    have hrow0 : (w2.alloc (.cells #[.int .i64 0] 3)).ownsRow w.heap.size 3 1 (.slice (some ⟨w2.heap.size, 0, none⟩) 1 1) 1 (parC []) :=
      ⟨rfl, .inr ⟨w2.heap.size, 1, #[.int .i64 0], rfl, hw2, obj_alloc_new _ _, by omega, by unfold maxLen; omega, rfl, rfl⟩⟩
    have hM0 := hM.frN ((Fr.refl noB w2).alloc (.cells #[.int .i64 0] 3))
    clear hM hf1 hw2
    generalize w2.alloc (.cells #[.int .i64 0] 3) = w3 at *
    generalize w2.heap.size = g0 at *
    obtain ⟨i0, hi, hz0, hz1, hz2⟩ := info_parts infoInt
    have HL := Lib.hid hL
    clear hL
    go_loopw [4, 5] (fun pv iv wr => ∃ (i : Nat) (T : List One) (last g c : Nat), i ≤ len ∧ iv = .int .i64 i ∧ pv = .slice (some ⟨g, 0, none⟩) (T.length + 1) c ∧ Mine w wr p T last ∧ T.length ≤ i ∧ last ≤ i ∧ Inv T last ∧
      wr.ownsRow w.heap.size 3 1 (.slice (some ⟨g, 0, none⟩) (T.length + 1) c) (T.length + 1) (parC T)) (fun _ iv _ => len - (intOf iv).toNat)
    case atStart => exact ⟨0, [], 0, g0, 1, by omega, rfl, rfl, hM0, by simp, by omega, Inv.nil, hrow0⟩
    case round =>
      obtain ⟨i, T, last, g, c, hil, rfl, rfl, hM, hTi, hla, hI, hrow⟩ := hrel
      by_cases hlt : i < len
      · obtain ⟨ad, ha, h1, h2⟩ := (hS.fr hM.fr).cell i (by rw [HL.out]; exact hlt)
        subst ha
        have hS0 := hS
        generalize hkd : (L.getD i (0, 0)).1 = kd at h1
        generalize hidd : (L.getD i (0, 0)).2 = idd at h2
        have HKD := Lib.hid hkd; have HIDD := Lib.hid hidd
        clear hkd hidd
        have hI' := hI.do kd idd
        have hTl := doT_length T last kd idd
        have hLl := doL_le T last kd idd
        by_cases happ : kd = 0 ∧ doE T kd idd = 0
        · obtain ⟨hk0, he0⟩ := happ
          subst hk0
          have hb0 : beginE T idd = 0 := by have := he0; unfold doE at this; rwa [if_pos rfl] at this
          have HE := Lib.hid he0; have HB := Lib.hid hb0
          clear he0 hb0
          go_wp2_with fail
          refine (do_mine hM 0 idd (by omega) (by omega)).mono ?_
          rintro e w4 ⟨rfl, hM4, hx⟩
          rw [HE.out]
          obtain ⟨ad', ha', h3, h4⟩ := (hS0.fr hM4.fr).cell i (by rw [HL.out]; exact hlt)
          obtain rfl : ad = ad' := by simpa using ha'
          rw [HKD.out] at h3; rw [HIDD.out] at h4
          have hrow4 := hx.row hrow (by decide)
          have HT := Lib.hid (par_append (last := last) HB.out)
          clear h1 h2 ha'
          go_wp2_with (at_builtin; refine wpList_append_row _ rfl _ _ 47 rfl w.heap.size 3 i0 (.int .i64 0) 1 8 Try.underlying47 hi hz0 hz1 hz2 rfl (by decide) (.slice (some ⟨g, 0, none⟩) (T.length + 1) c) (T.length + 1) (parC T) rfl (hrow4.alloc _) ⟨w4.heap.size, 0, none⟩ 1 1 [.int .i64 idd] rfl rfl (cells_new _ _ _) (by simp [Value.oneCell']) (by unfold maxLen; omega) (by omega) (by have := hM4.fr.size; simp; omega) (by omega) ?_; intro g' cap' w5 ho hg hf)
          have hM5 := hM4.grown hrow4 (Nat.le_refl _) (by decide) hg
          have hrow5 : w5.ownsRow w.heap.size 3 1 (.slice (some ⟨g', 0, none⟩) ((doT T last 0 idd).length + 1) cap') ((doT T last 0 idd).length + 1) (parC (doT T last 0 idd)) := by
            rw [HT.out]
            have e : parC (T ++ [⟨idd.toNat, 1, 0⟩]) = parC T ++ [.int .i64 idd] := by
              simp [parC, beginE_nat HB.out]
            rw [e, List.length_append]
            exact ho
          have hlen5 : T.length + 1 + 1 = (doT T last 0 idd).length + 1 := by rw [HT.out]; simp
          rw [hlen5]
          clear ho hg hf hM4 hx hrow4 hrow HT HE HB hM h3 h4 hlen5
          generalize doT T last 0 idd = T' at *
          generalize doL T last 0 idd = last' at *
          have hl6 : T'.length ≤ 1000000 := by omega
          go_loopw [8] (fun kv wr2 => ∃ k : Nat, k ≤ T'.length ∧ kv = .int .i64 ((k : Int) + 1) ∧ Mine w wr2 p T' last' ∧ wr2.ownsRow w.heap.size 3 1 (.slice (some ⟨g', 0, none⟩) (T'.length + 1) cap') (T'.length + 1) (parC T'))
            (fun kv _ => T'.length + 1 - (intOf kv).toNat)
          case atStart => exact ⟨0, by omega, rfl, hM5, hrow5⟩
          case round =>
            obtain ⟨k, hk1, rfl, hM, hrow⟩ := hrel
            by_cases hkl : k < T'.length
            · have hcell := row_cell hrow (parC_get hkl)
              have hwf := hI'.wf
              by_cases hp0 : (gt T' k).parent = 0
              · rw [hp0] at hcell
                have HTOP := Lib.hid (show (topOf T' ((k : Int) + 1) : Int) = (k : Int) + 1 by rw [topOf_root hwf hkl hp0]; rfl)
                clear hp0
                go_wp2_with (first | (go_at_call 26; first | ((with_reducible refine (top_mine hM _ hl6 HTOP.out).mono ?_); rintro e w' ⟨rfl, h', hx'⟩; have hrw := hx'.row hrow (by decide); clear hM hrow; have hM := h'; have hrow := hrw; clear h' hrw hx')))
                go_roundw
                case rel => exact ⟨k + 1, by omega, by go_num, hM, hrow⟩
                case measure => simp [intOf]; omega
              · have hple := hwf.par k hkl
                obtain ⟨cc, c1, s1, s2, tt, hH, HTOP, HTOQ, HCNT, HCC, HST, HSTP⟩ := below_facts hI' hkl hp0
                have hb0 : (((gt T' k).parent : Int) == 0) = false := by rw [beq_eq_false_iff_ne]; omega
                generalize (gt T' k).parent = pp at *
                clear hp0
                rcases hH with ⟨rfl, rfl, rfl, rfl⟩ | ⟨rfl, rfl, rfl, rfl⟩ | ⟨rfl, rfl, rfl⟩ | ⟨rfl, rfl, rfl⟩ | ⟨rfl, rfl, rfl⟩ | ⟨rfl, rfl, rfl⟩
                all_goals
                  go_wp2_with (first | (go_at_call 26; first | ((with_reducible refine (top_mine hM _ hl6 HTOP.out).mono ?_); rintro e w' ⟨rfl, h', hx'⟩; have hrw := hx'.row hrow (by decide); clear hM hrow; have hM := h'; have hrow := hrw; clear h' hrw hx') | ((with_reducible refine (top_mine hM _ hl6 HTOQ.out).mono ?_); rintro e w' ⟨rfl, h', hx'⟩; have hrw := hx'.row hrow (by decide); clear hM hrow; have hM := h'; have hrow := hrw; clear h' hrw hx')) | (go_at_call 28; first | ((with_reducible refine (counts_mine hM _ hl6 HCNT.out).mono ?_); rintro e w' ⟨rfl, h', hx'⟩; have hrw := hx'.row hrow (by decide); clear hM hrow; have hM := h'; have hrow := hrw; clear h' hrw hx') | ((with_reducible refine (counts_mine hM _ hl6 HCC.out).mono ?_); rintro e w' ⟨rfl, h', hx'⟩; have hrw := hx'.row hrow (by decide); clear hM hrow; have hM := h'; have hrow := hrw; clear h' hrw hx')) | (go_at_call 24; first | ((with_reducible refine (state_mine hM _ hl6 HST.out).mono ?_); rintro e w' ⟨rfl, h', hx'⟩; have hrw := hx'.row hrow (by decide); clear hM hrow; have hM := h'; have hrow := hrw; clear h' hrw hx') | ((with_reducible refine (state_mine hM _ hl6 HSTP.out).mono ?_); rintro e w' ⟨rfl, h', hx'⟩; have hrw := hx'.row hrow (by decide); clear hM hrow; have hM := h'; have hrow := hrw; clear h' hrw hx')))
                  go_roundw
                  case rel => exact ⟨k + 1, by omega, by go_num, hM, hrow⟩
                  case measure => simp [intOf]; omega
            · go_wp2
              go_roundw
              case rel => exact ⟨i + 1, T', last', g', cap', by omega, by go_num, rfl, hM, by omega, by omega, hI', hrow⟩
              case measure => simp [intOf]; omega
        · have hsame := parL_do_same (last := last) happ
          have HS := Lib.hid hsame
          clear hsame
          have hgd : (kd == 0) = true → (doE T kd idd == 0) = false := by
            intro h5
            rw [beq_eq_false_iff_ne]
            intro h6
            exact happ ⟨by simpa using h5, h6⟩
          go_wp2_with fail
          refine (do_mine hM kd idd (by omega) (by omega)).mono ?_
          rintro e w4 ⟨rfl, hM4, hx⟩
          obtain ⟨ad', ha', h3, h4⟩ := (hS0.fr hM4.fr).cell i (by rw [HL.out]; exact hlt)
          obtain rfl : ad = ad' := by simpa using ha'
          rw [HKD.out] at h3; rw [HIDD.out] at h4
          have hrow4 := hx.row hrow (by decide)
          have hrow5 : w4.ownsRow w.heap.size 3 1 (.slice (some ⟨g, 0, none⟩) ((doT T last kd idd).length + 1) c) ((doT T last kd idd).length + 1) (parC (doT T last kd idd)) := by
            unfold parC; rw [HS.out.1, HS.out.2]; exact hrow4
          have hM5 := hM4
          rw [show T.length + 1 = (doT T last kd idd).length + 1 by rw [HS.out.2]]
          clear h1 h2 ha' happ hM hrow hrow4 hM4 hx HS h4
          generalize doE T kd idd = ee at *
          generalize doA T kd idd = aa at *
          generalize doT T last kd idd = T' at *
          generalize doL T last kd idd = last' at *
          generalize g = g' at *
          generalize c = cap' at *
          generalize w4 = w5 at *
          by_cases hk0 : (kd == 0) = true
          all_goals
            first | (have hb := hgd hk0) | (have hb : (kd == 0) = false := by simpa using hk0)
            clear hgd
            go_wp2
            have hl6 : T'.length ≤ 1000000 := by omega
            go_loopw [8] (fun kv wr2 => ∃ k : Nat, k ≤ T'.length ∧ kv = .int .i64 ((k : Int) + 1) ∧ Mine w wr2 p T' last' ∧ wr2.ownsRow w.heap.size 3 1 (.slice (some ⟨g', 0, none⟩) (T'.length + 1) cap') (T'.length + 1) (parC T'))
              (fun kv _ => T'.length + 1 - (intOf kv).toNat)
            case atStart => exact ⟨0, by omega, rfl, hM5, hrow5⟩
            case round =>
              obtain ⟨k, hk1, rfl, hM, hrow⟩ := hrel
              by_cases hkl : k < T'.length
              · have hcell := row_cell hrow (parC_get hkl)
                have hwf := hI'.wf
                by_cases hp0 : (gt T' k).parent = 0
                · rw [hp0] at hcell
                  have HTOP := Lib.hid (show (topOf T' ((k : Int) + 1) : Int) = (k : Int) + 1 by rw [topOf_root hwf hkl hp0]; rfl)
                  clear hp0
                  go_wp2_with (first | (go_at_call 26; first | ((with_reducible refine (top_mine hM _ hl6 HTOP.out).mono ?_); rintro e w' ⟨rfl, h', hx'⟩; have hrw := hx'.row hrow (by decide); clear hM hrow; have hM := h'; have hrow := hrw; clear h' hrw hx')))
                  go_roundw
                  case rel => exact ⟨k + 1, by omega, by go_num, hM, hrow⟩
                  case measure => simp [intOf]; omega
                · have hple := hwf.par k hkl
                  obtain ⟨cc, c1, s1, s2, tt, hH, HTOP, HTOQ, HCNT, HCC, HST, HSTP⟩ := below_facts hI' hkl hp0
                  have hb0 : (((gt T' k).parent : Int) == 0) = false := by rw [beq_eq_false_iff_ne]; omega
                  generalize (gt T' k).parent = pp at *
                  clear hp0
                  rcases hH with ⟨rfl, rfl, rfl, rfl⟩ | ⟨rfl, rfl, rfl, rfl⟩ | ⟨rfl, rfl, rfl⟩ | ⟨rfl, rfl, rfl⟩ | ⟨rfl, rfl, rfl⟩ | ⟨rfl, rfl, rfl⟩
                  all_goals
                    go_wp2_with (first | (go_at_call 26; first | ((with_reducible refine (top_mine hM _ hl6 HTOP.out).mono ?_); rintro e w' ⟨rfl, h', hx'⟩; have hrw := hx'.row hrow (by decide); clear hM hrow; have hM := h'; have hrow := hrw; clear h' hrw hx') | ((with_reducible refine (top_mine hM _ hl6 HTOQ.out).mono ?_); rintro e w' ⟨rfl, h', hx'⟩; have hrw := hx'.row hrow (by decide); clear hM hrow; have hM := h'; have hrow := hrw; clear h' hrw hx')) | (go_at_call 28; first | ((with_reducible refine (counts_mine hM _ hl6 HCNT.out).mono ?_); rintro e w' ⟨rfl, h', hx'⟩; have hrw := hx'.row hrow (by decide); clear hM hrow; have hM := h'; have hrow := hrw; clear h' hrw hx') | ((with_reducible refine (counts_mine hM _ hl6 HCC.out).mono ?_); rintro e w' ⟨rfl, h', hx'⟩; have hrw := hx'.row hrow (by decide); clear hM hrow; have hM := h'; have hrow := hrw; clear h' hrw hx')) | (go_at_call 24; first | ((with_reducible refine (state_mine hM _ hl6 HST.out).mono ?_); rintro e w' ⟨rfl, h', hx'⟩; have hrw := hx'.row hrow (by decide); clear hM hrow; have hM := h'; have hrow := hrw; clear h' hrw hx') | ((with_reducible refine (state_mine hM _ hl6 HSTP.out).mono ?_); rintro e w' ⟨rfl, h', hx'⟩; have hrw := hx'.row hrow (by decide); clear hM hrow; have hM := h'; have hrow := hrw; clear h' hrw hx')))
                    go_roundw
                    case rel => exact ⟨k + 1, by omega, by go_num, hM, hrow⟩
                    case measure => simp [intOf]; omega
              · go_wp2
                go_roundw
                case rel => exact ⟨i + 1, T', last', g', cap', by omega, by go_num, rfl, hM, by omega, by omega, hI', hrow⟩
                case measure => simp [intOf]; omega
      · go_wp2_with (go_at_call 23; refine (len_mine hM _ rfl).mono ?_; rintro e w4 ⟨rfl, hM4, hx⟩)
        go_ret
        exact ⟨rfl, hM4.fr⟩

end Go.Proofs.Ytfgkocpmgoaljaa
