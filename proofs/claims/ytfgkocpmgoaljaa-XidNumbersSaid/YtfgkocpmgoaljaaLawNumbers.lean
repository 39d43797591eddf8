/- The walk of the statement XidNumbers. The condition: the argument reads as data. -/
import Derived.Test.YtfgkocpmgoaljaaXidI
import Derived.Test.YtfgkocpmgoaljaaXidS
import Derived.Test.YtfgkocpmgoaljaaRead
import Derived.Test.YtfgkocpmgoaljaaExt
import Derived.Deep.RegionWith
import Derived.Deep.LoopGhost
import Derived.Deep.DeepCutAuto
import Derived.Deep.OwnRows
namespace Go.Proofs.Ytfgkocpmgoaljaa
open Go.RowKit Go.Shelf Xid

theorem infoIntN : (Try.prog.info? 3).map (fun i => (i.zero, i.size, i.bytes)) = some (some (.int .i64 0), 1, 8) := by kernel_rfl

def metC (T : List One) (last k : Nat) : List Value := (List.range (last + 1)).map fun n => .int .i64 (met T n k)
theorem metC_length (T : List One) (last k : Nat) : (metC T last k).length = last + 1 := by simp [metC]
theorem metC_get {T : List One} {last k n : Nat} (h : n < last + 1) : (metC T last k)[n]? = some (.int .i64 (met T n k)) := by simp [metC, h]
theorem metC_zero (T : List One) (last : Nat) : metC T last 0 = List.replicate (last + 1) (.int .i64 0) := by
  refine List.ext_getElem (by simp [metC]) fun j h1 h2 => ?_
  simp [metC, met]
theorem madeZ (n : Nat) : (madeCells #[Value.int .i64 0] n).toList = List.replicate n (.int .i64 0) := by
  refine List.ext_getElem (by simp [madeCells]) fun j h1 h2 => ?_
  simp [madeCells, Nat.mod_one]
theorem metC_set {T : List One} {last k : Nat} (hn : numberOf T ((k : Int) + 1) ≤ last) (hp : (gt T k).parent = 0) :
    (metC T last k).set (numberOf T ((k : Int) + 1)) (.int .i64 ((met T (numberOf T ((k : Int) + 1)) k : Int) + 1)) = metC T last (k + 1) := by
  refine List.ext_getElem? fun j => ?_
  rw [List.getElem?_set]
  by_cases e : numberOf T ((k : Int) + 1) = j
  · rw [if_pos e, metC_length, if_pos (by omega), metC_get (by omega), met, if_pos ⟨hp, e⟩, e]; simp
  · rw [if_neg e]
    by_cases hj : j < last + 1
    · rw [metC_get hj, metC_get hj, met, if_neg (fun h => e h.2)]; rfl
    · rw [List.getElem?_eq_none (by rw [metC_length]; omega), List.getElem?_eq_none (by rw [metC_length]; omega)]
theorem metC_same {T : List One} {last k : Nat} (hp : (gt T k).parent ≠ 0) : metC T last (k + 1) = metC T last k := by
  refine List.map_congr_left fun n _ => ?_
  rw [met, if_neg (fun h => hp h.1)]; rfl

set_option maxRecDepth 100000 in
set_option maxHeartbeats 4000000 in
theorem numbers_law (a : Option Addr) (len cap : Nat) (L : List (Int × Int)) (hL : L.length = len) (hcap : len ≤ cap ∧ cap ≤ maxLen) (w : World) (_hwf : ∀ p ∈ L, (Lit.int .u8 p.1).wf = true ∧ (Lit.int .i64 p.2).wf = true) (hS : IsPairs .u8 .i64 w a L) :
    Calls Try.prog 5 #[.slice a len cap] w fun e w' => e = .returned (.bool true) ∧ Fr noB w w' := by
  obtain ⟨hc1, hc2⟩ := hcap
  unfold maxLen at hc2
  by_cases h80 : 80 < len
  · go_enter Try.func5, Try.ntmps5
    go_wp2_with fail
    refine (works_any w).mono ?_
    rintro e w1 ⟨rfl, hf1⟩
    go_wp2_with fail
    refine (works_any w1).mono ?_
    rintro e w2 ⟨rfl, hf2⟩
    go_wp2_with fail
    go_ret
    exact ⟨rfl, hf1.trans hf2⟩
  · go_enter Try.func5, Try.ntmps5
    go_wp2_with fail
    refine (works_any w).mono ?_
    rintro e w1 ⟨rfl, hf1⟩
    go_wp2_with fail
    refine (new_mine w w1 hf1).mono ?_
    rintro e w2 ⟨rfl, hM0⟩
    obtain ⟨p, hp⟩ : ∃ p, w1.heap.size = p := ⟨_, rfl⟩
    rw [hp] at hM0 ⊢
    clear hp hf1
    go_wp2_with fail
    have HL := Lib.hid hL
    clear hL
    go_loopg [4, 5] len (fun g gv iv wr => ∃ (i : Nat) (T : List One) (last : Nat), i ≤ len ∧ g = len - i ∧ gv = .int .i64 last ∧ iv = .int .i64 i ∧ Mine w wr p T last ∧ T.length ≤ i ∧ last ≤ i ∧ Inv T last)
    case atStart => exact ⟨0, [], 0, by omega, by omega, rfl, rfl, hM0, by simp, by omega, Inv.nil⟩
    case round =>
      obtain ⟨i, T, last, hil, rfl, rfl, rfl, hM, hTi, hla, hI⟩ := hrel
      by_cases hlt : i < len
      · obtain ⟨ad, ha, h1, h2⟩ := (hS.fr hM.fr).cell i (by rw [HL.out]; exact hlt)
        subst ha
        generalize hkd : (L.getD i (0, 0)).1 = kd at h1
        generalize hidd : (L.getD i (0, 0)).2 = idd at h2
        have HKD := Lib.hid hkd; have HIDD := Lib.hid hidd
        clear hkd hidd
        have hI' := hI.do kd idd
        have hTl := doT_length T last kd idd
        have hLl := doL_le T last kd idd
        have HSAME := Lib.hid (number_same (T := T) (last := last) (kind := kd) (id := idd) hI.wf)
        have HTOP := Lib.hid (number_top hI (id := idd))
        obtain ⟨R, hT, hR⟩ := hM.tab
        go_upto_region 8 with fail
        have c1 := Ext.cell h2
        refine wp_region_ext (by kernel_rfl) (by kernel_rfl) ?_
        repeat (quiet_step ((go_at_call 26; exact Ext.calls (top_any p R T last idd _ (hT.frN (Ext.fr _)) (by omega)))))
        refine wpQuiet_nil ?_
        rintro w3 ⟨⟨_, hf3⟩, rfl⟩
        have hM3 := hM.frN hf3
        have hs3 := (hS.fr hM3.fr).cell i (by rw [HL.out]; exact hlt)
        rw [HKD.out, HIDD.out] at hs3
        obtain ⟨ad', ha', h3, h4⟩ := hs3
        obtain rfl : ad = ad' := by simpa using ha'
        clear h1 h2 c1 hT hR hM hf3 ha'
        go_wp2_with fail
        refine (do_mine hM3 kd idd (by omega) (by omega)).mono ?_
        rintro e w4 ⟨rfl, hM4, hx4⟩
        have hs4 := (hS.fr hM4.fr).cell i (by rw [HL.out]; exact hlt)
        rw [HKD.out, HIDD.out] at hs4
        obtain ⟨ad', ha', h5, h6⟩ := hs4
        obtain rfl : ad = ad' := by simpa using ha'
        clear h3 h4 hx4 hM3 ha'
        by_cases happ : kd = 1 ∧ doE T kd idd = 0 ∧ ((topOf T idd : Nat) : Int) = idd
        · obtain ⟨hk1, he0, ht⟩ := happ
          subst hk1
          have htb : (((topOf T idd : Nat) : Int) == idd) = true := by rw [beq_iff_eq]; exact ht
          have hde : endE T idd = 0 := by have := he0; unfold doE at this; rwa [if_neg (by decide)] at this
          obtain ⟨hL', hN'⟩ := HTOP.out hde ht
          rw [he0, htb]
          rw [hL'] at hM4 hI'
          have HN := Lib.hid hN'
          clear hde ht htb he0 hN' hL' HSAME HTOP
          generalize doT T last 1 idd = T' at *
          generalize doA T 1 idd = aa at *
          go_wp2_with (go_at_call 30; refine (number_mine hM4 (last + 1 : Int) (by omega) (by rw [HN.out]; rfl)).mono ?_; rintro e w5 ⟨rfl, hM5, hx5⟩)
          refine (last_mine hM5 (last + 1 : Int) rfl).mono ?_
          rintro e w6 ⟨rfl, hM6, hx6⟩
          go_wp2_with fail
          go_roundg (len - (i + 1))
          case measure => omega
          case rel => exact ⟨i + 1, T', last + 1, by omega, rfl, by go_num, by go_num, hM6, by omega, by omega, hI'⟩
        · have hL' := HSAME.out happ
          rw [hL'] at hM4 hI'
          have hgd : (kd == 1) = true → (doE T kd idd == 0) = true → (((topOf T idd : Nat) : Int) == idd) = false := by
            intro q1 q2
            rw [beq_eq_false_iff_ne]
            intro q3
            exact happ ⟨by simpa using q1, by simpa using q2, q3⟩
          clear happ HSAME HTOP hL'
          generalize doT T last kd idd = T' at *
          generalize doA T kd idd = aa at *
          generalize doE T kd idd = ee at *
          generalize (((topOf T idd : Nat) : Int) == idd) = tb at *
          go_upto_region 10 with fail
          go_cut [62] (fun s62 wx => s62 = .bool false ∧ wx = w4)
          case first =>
            by_cases q1 : (kd == 1) = true
            · by_cases q2 : (ee == 0) = true
              · have q3 := hgd q1 q2
                subst q3
                clear hgd
                go_wp2_with fail
                go_meet
                case rel => exact ⟨rfl, rfl⟩
              · have q2' : (ee == 0) = false := by simpa using q2
                clear hgd q2
                go_wp2_with fail
                go_meet
                case rel => exact ⟨rfl, rfl⟩
            · have q1' : (kd == 1) = false := by simpa using q1
              clear hgd q1
              go_wp2_with fail
              go_meet
              case rel => exact ⟨rfl, rfl⟩
          case rest =>
            obtain ⟨rfl, rfl⟩ := hcut
            clear hgd
            go_wp2_with fail
            refine (last_mine hM4 _ rfl).mono ?_
            rintro e w6 ⟨rfl, hM6, hx6⟩
            go_wp2_with fail
            go_roundg (len - (i + 1))
            case measure => omega
            case rel => exact ⟨i + 1, T', last, by omega, rfl, rfl, by go_num, hM6, by omega, by omega, hI'⟩
      · have hmk := run_make_row' (P := Try.prog) 47 3 (.int .i64 0) 8 Try.underlying47 infoIntN rfl .i64 .i64 (last + 1) (by omega) (by omega)
        rw [show ((last + 1 : Nat) : Int) = (last : Int) + 1 by omega] at hmk
        go_wp2_with fail
        have hsz := hM.fr.size
        have hrow0 : (wr.alloc (.cells (madeCells #[.int .i64 0] (last + 1)) 3)).ownsRow w.heap.size 3 1 (.slice (some ⟨wr.heap.size, 0, none⟩) (last + 1) (last + 1)) (last + 1) (metC T last 0) := by
          refine ⟨by rw [metC_length]; omega, .inr ⟨wr.heap.size, last + 1, _, rfl, hsz, obj_alloc_new _ _, Nat.le_refl _, by unfold maxLen; omega, by rw [size_madeCells]; omega, ?_⟩⟩
          rw [madeZ, metC_zero, List.take_of_length_le (by simp)]
        have hMa := hM.frN ((Fr.refl noB wr).alloc (.cells (madeCells #[.int .i64 0] (last + 1)) 3))
        clear hM hsz hmk hM0
        generalize hgm : wr.heap.size = gm at *
        generalize wr.alloc (.cells (madeCells #[.int .i64 0] (last + 1)) 3) = w3 at *
        clear hgm
        have hl6 : T.length ≤ 1000000 := by omega
        go_loopg [10] T.length (fun g kv wx => ∃ k : Nat, k ≤ T.length ∧ g = T.length - k ∧ kv = .int .i64 ((k : Int) + 1) ∧ Mine w wx p T last ∧ wx.ownsRow w.heap.size 3 1 (.slice (some ⟨gm, 0, none⟩) (last + 1) (last + 1)) (last + 1) (metC T last k))
        case atStart => exact ⟨0, by omega, by omega, rfl, hMa, hrow0⟩
        case round =>
          clear hMa hrow0
          obtain ⟨k, hk, rfl, rfl, hM, hrow⟩ := hrel
          by_cases hkl : k < T.length
          · go_wp2_with (go_at_call 23; refine (len_mine hM _ rfl).mono ?_; rintro e w4 ⟨rfl, hM4, hx4⟩; have hrow4 := hx4.row hrow (by decide); clear hM hrow)
            have hnb := numbered hI hkl
            have hself := topOf_self hI.wf hkl
            have hset := metC_set (T := T) (last := last) (k := k) hnb.le
            obtain ⟨hn1, hn2, hn3⟩ := hnb
            have hroot : (gt T k).parent = 0 → met T (numberOf T ((k : Int) + 1)) (k + 1) = met T (numberOf T ((k : Int) + 1)) k + 1 := fun h => by rw [met, if_pos ⟨h, rfl⟩]
            clear hroot
            obtain ⟨nn, HNN⟩ : ∃ nn : Nat, Hid (numberOf T ((k : Int) + 1) = nn) := ⟨_, rfl⟩
            rw [HNN.out] at hn1 hn2 hn3 hset
            have hcell := metC_get (T := T) (last := last) (k := k) (n := nn) (by omega)
            have HSELF := Lib.hid hself; have HSET := Lib.hid hset
            clear hself hset
            obtain ⟨tt, HTT, HTE⟩ : ∃ tt : Int, Hid ((topOf T ((k : Int) + 1) : Int) = tt) ∧ Hid (tt = (topOf T ((k : Int) + 1) : Nat)) := ⟨_, rfl, rfl⟩
            rw [← HTE.out] at hn2 hn3
            refine (number_mine hM4 (nn : Int) hl6 (by rw [HNN.out])).mono ?_
            rintro e w5 ⟨rfl, hM, hx5⟩
            have hrow := hx5.row hrow4 (by decide)
            clear hM4 hrow4 hx4 hx5
            go_upto_region 21 with fail
            go_cut [125] (fun s125 wx => s125 = .bool false ∧ Mine w wx p T last ∧ wx.ownsRow w.heap.size 3 1 (.slice (some ⟨gm, 0, none⟩) (last + 1) (last + 1)) (last + 1) (metC T last k))
            case first =>
              by_cases hn0 : nn = 0
              · obtain ⟨cc, HCC⟩ : ∃ cc, Hid (countsOf T ((k : Int) + 1) = cc) := ⟨_, rfl⟩
                obtain ⟨s2, HS2⟩ : ∃ s2 : Int, Hid ((stateOf T tt : Int) = s2) := ⟨_, rfl⟩
                have hb : cc = true → (s2 == 2) = false := by
                  intro h1
                  rw [beq_eq_false_iff_ne]
                  intro h2
                  have := HCC.out; have := HS2.out
                  exact absurd hn0 (hn3.2 ⟨by rw [HCC.out]; exact h1, by omega⟩)
                subst hn0
                clear hn3 hn2 hn1 hcell
                cases cc
                · clear hb
                  go_wp2_with (first | (go_at_call 26; first | ((with_reducible refine (top_mine hM tt hl6 HTT.out).mono ?_); rintro e w' ⟨rfl, h', hx'⟩; have hrw := hx'.row hrow (by decide); clear hM hrow; have hM := h'; have hrow := hrw; clear h' hrw hx')) | (go_at_call 30; first | ((with_reducible refine (number_mine hM _ hl6 HNT.out).mono ?_); rintro e w' ⟨rfl, h', hx'⟩; have hrw := hx'.row hrow (by decide); clear hM hrow; have hM := h'; have hrow := hrw; clear h' hrw hx')) | (go_at_call 28; first | ((with_reducible refine (counts_mine hM _ hl6 HCC.out).mono ?_); rintro e w' ⟨rfl, h', hx'⟩; have hrw := hx'.row hrow (by decide); clear hM hrow; have hM := h'; have hrow := hrw; clear h' hrw hx')) | (go_at_call 24; first | ((with_reducible refine (state_mine hM _ hl6 HS2.out).mono ?_); rintro e w' ⟨rfl, h', hx'⟩; have hrw := hx'.row hrow (by decide); clear hM hrow; have hM := h'; have hrow := hrw; clear h' hrw hx')))
                  go_meet
                  case rel => exact ⟨rfl, hM, hrow⟩
                · have hb := hb rfl
                  go_wp2_with (first | (go_at_call 26; first | ((with_reducible refine (top_mine hM tt hl6 HTT.out).mono ?_); rintro e w' ⟨rfl, h', hx'⟩; have hrw := hx'.row hrow (by decide); clear hM hrow; have hM := h'; have hrow := hrw; clear h' hrw hx')) | (go_at_call 30; first | ((with_reducible refine (number_mine hM _ hl6 HNT.out).mono ?_); rintro e w' ⟨rfl, h', hx'⟩; have hrw := hx'.row hrow (by decide); clear hM hrow; have hM := h'; have hrow := hrw; clear h' hrw hx')) | (go_at_call 28; first | ((with_reducible refine (counts_mine hM _ hl6 HCC.out).mono ?_); rintro e w' ⟨rfl, h', hx'⟩; have hrw := hx'.row hrow (by decide); clear hM hrow; have hM := h'; have hrow := hrw; clear h' hrw hx')) | (go_at_call 24; first | ((with_reducible refine (state_mine hM _ hl6 HS2.out).mono ?_); rintro e w' ⟨rfl, h', hx'⟩; have hrw := hx'.row hrow (by decide); clear hM hrow; have hM := h'; have hrow := hrw; clear h' hrw hx')))
                  go_meet
                  case rel => exact ⟨rfl, hM, hrow⟩
              · obtain ⟨h1, h2⟩ := hn3.1 hn0
                have h3 := hn2 hn0
                have HCC := Lib.hid h1
                have HS2 := Lib.hid (show (stateOf T tt : Int) = 2 by rw [h2]; rfl)
                have HNT := Lib.hid (show (numberOf T tt : Int) = (nn : Int) by rw [h3])
                clear hn3 hn2 h1 h2 h3 hcell
                have hpos : 0 < nn := by omega
                clear hn0
                go_wp2_with (first | (go_at_call 26; first | ((with_reducible refine (top_mine hM tt hl6 HTT.out).mono ?_); rintro e w' ⟨rfl, h', hx'⟩; have hrw := hx'.row hrow (by decide); clear hM hrow; have hM := h'; have hrow := hrw; clear h' hrw hx')) | (go_at_call 30; first | ((with_reducible refine (number_mine hM _ hl6 HNT.out).mono ?_); rintro e w' ⟨rfl, h', hx'⟩; have hrw := hx'.row hrow (by decide); clear hM hrow; have hM := h'; have hrow := hrw; clear h' hrw hx')) | (go_at_call 28; first | ((with_reducible refine (counts_mine hM _ hl6 HCC.out).mono ?_); rintro e w' ⟨rfl, h', hx'⟩; have hrw := hx'.row hrow (by decide); clear hM hrow; have hM := h'; have hrow := hrw; clear h' hrw hx')) | (go_at_call 24; first | ((with_reducible refine (state_mine hM _ hl6 HS2.out).mono ?_); rintro e w' ⟨rfl, h', hx'⟩; have hrw := hx'.row hrow (by decide); clear hM hrow; have hM := h'; have hrow := hrw; clear h' hrw hx')))
                go_meet
                case rel => exact ⟨by rw [show (decide (((nn : Nat) : Int) < 0) || decide (last < nn)) = false by simp; omega], hM, hrow⟩
            case rest =>
              obtain ⟨rfl, hM, hrow⟩ := hcut
              clear hn2 hn3
              by_cases hp0 : (gt T k).parent = 0
              · have htk : (tt == (k : Int) + 1) = true := by rw [beq_iff_eq, HTE.out, HSELF.out.2 hp0]; omega
                have hs2 := HSET.out hp0
                have HS2 := Lib.hid hs2
                clear hs2 hp0 hcell
                go_wp2_with fail
                refine (top_mine hM tt hl6 HTT.out).mono ?_
                rintro e w6 ⟨rfl, hM6, hx6⟩
                have hrow6 := hx6.row hrow (by decide)
                have hc6 := row_cell hrow6 (metC_get (T := T) (last := last) (k := k) (n := nn) (by omega))
                obtain ⟨hrow7, hz7⟩ := row_set hrow6 (i := nn) (by omega) (.int .i64 ((met T nn k : Int) + 1))
                have hmle : met T nn k ≤ k := met_le T nn k
                have hM7 : Mine w (w6.setCell ⟨gm, nn, none⟩ (.int .i64 ((met T nn k : Int) + 1))) p T last := by
                  refine hM6.other (S := fun j => j = gm) ((Fr.refl (fun j => j = gm) w6).setCell (p := ⟨gm, nn, none⟩) (fun _ => rfl) _) ?_ ?_
                  · rintro j rfl
                    obtain ⟨_, ⟨e, _⟩ | ⟨g, cap, cur, e, hb, _⟩⟩ := hrow6
                    · cases e
                    · cases e; exact hb
                  · rintro j c t fz rfl hc
                    obtain ⟨_, ⟨e, _⟩ | ⟨g, cap, cur, e, _, hc2, _⟩⟩ := hrow6
                    · cases e
                    · cases e; rw [hc2] at hc; cases hc; decide
                rw [HS2.out] at hrow7
                clear hM hM6 hrow hrow6 hx6 HS2 HSET
                go_wp2_with fail
                go_roundg (T.length - (k + 1))
                case measure => omega
                case rel => exact ⟨k + 1, by omega, rfl, by go_num, hM7, hrow7⟩
              · have htk : (tt == (k : Int) + 1) = false := by
                  rw [beq_eq_false_iff_ne, HTE.out]
                  intro h
                  exact hp0 (HSELF.out.1 (by omega))
                have hs2 := metC_same (last := last) hp0
                have HS2 := Lib.hid hs2
                clear hs2 hp0 hcell
                go_wp2_with fail
                refine (top_mine hM tt hl6 HTT.out).mono ?_
                rintro e w6 ⟨rfl, hM6, hx6⟩
                have hrow6 := hx6.row hrow (by decide)
                clear hM hrow hx6
                go_wp2_with fail
                go_roundg (T.length - (k + 1))
                case measure => omega
                case rel => exact ⟨k + 1, by omega, rfl, by go_num, hM6, by rw [HS2.out]; exact hrow6⟩
          · have hkk : k = T.length := by omega
            subst hkk
            go_wp2_with (go_at_call 23; refine (len_mine hM _ rfl).mono ?_; rintro e w4 ⟨rfl, hM4, hx4⟩; have hrow4 := hx4.row hrow (by decide); clear hM hrow)
            go_loopg [12] last (fun g nv wx => ∃ n : Nat, n ≤ last ∧ g = last - n ∧ nv = .int .i64 ((n : Int) + 1) ∧ wx = w4)
            case atStart => exact ⟨0, by omega, by omega, rfl, rfl⟩
            case round =>
              obtain ⟨n, hn, rfl, rfl, rfl⟩ := hrel
              by_cases hnl : n < last
              · have hc := row_cell hrow4 (metC_get (T := T) (k := T.length) (show n + 1 < last + 1 by omega))
                rw [met_all hI (by omega) (by omega)] at hc
                go_wp2_with fail
                go_roundg (last - (n + 1))
                case measure => omega
                case rel => exact ⟨n + 1, by omega, rfl, by go_num, rfl⟩
              · go_wp2_with fail
                go_ret
                exact ⟨rfl, hM4.fr⟩

end Go.Proofs.Ytfgkocpmgoaljaa
