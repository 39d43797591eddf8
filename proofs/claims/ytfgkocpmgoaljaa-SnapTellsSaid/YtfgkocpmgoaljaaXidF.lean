/- The walks of xid's Commit, Abort, Copy. The conditions: the table lies in memory as its data say. -/
import Derived.Test.YtfgkocpmgoaljaaXidE
namespace Go.Proofs.Ytfgkocpmgoaljaa
open Go.RowKit Go.Shelf Xid

theorem IsT.setLast {w : World} {p : Nat} {R : Option Nat} {T : List One} {last : Nat} (h : IsT w p R T last) (n : Nat) : IsT (w.setCell ⟨p, 1, none⟩ (.int .i64 n)) p R T n := by
  have hne := h.ne
  obtain ⟨v, hv, ⟨ho, ho2⟩, hR⟩ := h.row
  refine ⟨⟨v, obj_setCell hv 1 _, ⟨ho, ?_⟩, hR⟩, h.wf⟩
  rcases ho2 with ho2 | ⟨g, cap, cur, rfl, hb, hc, hx⟩
  · exact .inl ho2
  · refine .inr ⟨g, cap, cur, rfl, hb, obj_setCell_other hc _ _ ?_, hx⟩
    dsimp only; rintro rfl; exact hne hR.symm

theorem Turned.of {p : Nat} {R : Option Nat} {T : List One} {last : Nat} {w w' : World} (h : IsT w' p R T last) (hf : Fr (foot p R) w w') : Turned p R T last w w' := ⟨R, h, hf, fun _ h => .inl h⟩

theorem endE_ok {T : List One} {id : Int} (he : endE T id = 0) : ∃ m : Nat, id = (m : Int) + 1 ∧ m < T.length ∧ (gt T m).state = 1 := by
  have hr : inR T id = true := by
    by_cases hr : inR T id = true
    · exact hr
    · unfold endE at he; rw [if_pos (by simpa using hr)] at he; omega
  have hr' : 1 ≤ id ∧ id ≤ T.length := by simpa [inR, inB] using hr
  obtain ⟨m, rfl⟩ : ∃ m : Nat, id = (m : Int) + 1 := ⟨(id - 1).toNat, by omega⟩
  have e1 : ((m : Int) + 1).toNat = m + 1 := by omega
  refine ⟨m, rfl, by omega, ?_⟩
  unfold endE at he; rw [e1, hr, if_neg (by simp)] at he
  by_cases hs : st T (m + 1) = 1
  · simpa [st] using hs
  · rw [if_pos hs] at he; omega

set_option maxHeartbeats 1000000 in
theorem commit_any (p : Nat) (R : Option Nat) (T : List One) (last : Nat) (id : Int) (w : World) (hT : IsT w p R T last) (hlen : T.length ≤ 1000000) (hla : last ≤ 1000000) :
    Calls Try.prog 34 #[.pointer (some ⟨p, 0, none⟩), .int .i64 id] w fun e w' => e = .returned (.int .i64 (endE T id)) ∧ Turned p R (commitT T last id) (commitL T last id) w w' := by
  have hend : Calls Try.prog 54 #[.pointer (some ⟨p, 0, none⟩), .int .i64 id, .int .u8 1, .int .u8 2] w fun e w' => e = .returned (.int .i64 (endE T id)) ∧ IsT w' p R (endT T id 1 2) last ∧ Fr (fun k => R = some k) w w' :=
    end_any p R T last id 1 2 w hT hlen (by omega)
  have hfo : ∀ {a b : World}, Fr (fun k => R = some k) a b → Fr (foot p R) a b := fun h => h.mono (fun i _ e => .inr e)
  by_cases he : endE T id = 0
  · obtain ⟨m, rfl, hm, hs⟩ := endE_ok he
    have e1 : ((m : Int) + 1).toNat = m + 1 := by omega
    have hl1 : (endT T ((m : Int) + 1) 1 2).length = T.length := by unfold endT; rw [if_pos he, endP_length]
    have hp1 : (gt (endT T ((m : Int) + 1) 1 2) m).parent = (gt T m).parent := by unfold endT; rw [if_pos he, endP_par]
    rw [he] at hend ⊢
    by_cases hp : (gt T m).parent = 0
    · have hcT : commitT T last ((m : Int) + 1) = (endT T ((m : Int) + 1) 1 2).set m { gt (endT T ((m : Int) + 1) 1 2) m with number := last + 1 } := by
        unfold commitT; rw [if_pos he, e1, if_pos (by simpa [par] using hp)]; rfl
      have hcL : commitL T last ((m : Int) + 1) = last + 1 := by unfold commitL; rw [e1, if_pos ⟨he, by simpa [par] using hp⟩]
      have HCT := Lib.hid hcT; have HCL := Lib.hid hcL; have HHE := Lib.hid he; have HP := Lib.hid hp
      clear hcT hcL he hs hp e1
      go_enter Try.func34, Try.ntmps34
      go_wp2_with fail
      refine hend.mono ?_
      rintro e w1 ⟨rfl, hT1, hf1⟩
      clear hend
      generalize endT T ((m : Int) + 1) 1 2 = T1 at *
      have hm1 : m < T1.length := by omega
      obtain ⟨r, cap, rfl, hne, hc0, hc1, hc2, hc3, hfz⟩ := hT1.ones hm1
      rw [hp1, HP.out] at hc1
      obtain ⟨_, _, _, hd1⟩ := hT1.head
      have hpz : ∀ o, w1.frozen? ⟨p, o, none⟩ = false := by
        rcases hT1.cases with ⟨_, _, h⟩ | ⟨_, _, _, _, h, _⟩ <;> exact frozen_of_obj h
      have HL1 := Lib.hid hl1; have HP1 := Lib.hid hp1
      clear hl1 hp1
      go_wp2_with (first | (go_at_call 52; refine (at_any p r _ cap m _ _ hc0 hm1 (by have := HL1.out; omega) (by omega)).mono ?_; rintro e w' ⟨rfl, rfl⟩))
      go_ret
      refine ⟨rfl, ?_⟩
      rw [HCT.out, HCL.out]
      have h5 := hT1.setLast (last + 1)
      have h6 := h5.setOne hm1 { gt T1 m with number := last + 1 } rfl (hT1.wf.st m hm1) 2 (by omega) (.int .i64 (last + 1 : Nat)) rfl
      have e5 : ((last : Int) + 1) = ((last + 1 : Nat) : Int) := by omega
      rw [e5]
      exact Turned.of h6 (((hfo hf1).setCell (p := ⟨p, 1, none⟩) (fun _ => .inl rfl) _).setCell (p := ⟨r, m * 3 + 2, none⟩) (fun _ => .inr rfl) _)
    · have hcT : commitT T last ((m : Int) + 1) = endT T ((m : Int) + 1) 1 2 := by
        unfold commitT; rw [if_pos he, e1, if_neg (by simpa [par] using hp)]
      have hcL : commitL T last ((m : Int) + 1) = last := by unfold commitL; rw [e1, if_neg (fun h => hp (by simpa [par] using h.2))]
      have hb : (((gt T m).parent : Int) == 0) = false := by rw [beq_eq_false_iff_ne]; omega
      have HCT := Lib.hid hcT; have HCL := Lib.hid hcL; have HHE := Lib.hid he; have HP := Lib.hid hp
      clear hcT hcL he hs hp e1
      go_enter Try.func34, Try.ntmps34
      go_wp2_with fail
      refine hend.mono ?_
      rintro e w1 ⟨rfl, hT1, hf1⟩
      clear hend
      generalize endT T ((m : Int) + 1) 1 2 = T1 at *
      have hm1 : m < T1.length := by omega
      obtain ⟨r, cap, rfl, hne, hc0, hc1, hc2, hc3, hfz⟩ := hT1.ones hm1
      rw [hp1] at hc1
      have HL1 := Lib.hid hl1; have HP1 := Lib.hid hp1
      clear hl1 hp1
      go_wp2_with (first | (go_at_call 52; refine (at_any p r _ cap m _ _ hc0 hm1 (by have := HL1.out; omega) (by omega)).mono ?_; rintro e w' ⟨rfl, rfl⟩))
      go_ret
      refine ⟨rfl, ?_⟩
      rw [HCT.out, HCL.out]
      exact Turned.of hT1 (hfo hf1)
  · have hcT : commitT T last id = T := by unfold commitT; rw [if_neg he]
    have hcL : commitL T last id = last := by unfold commitL; rw [if_neg (fun h => he h.1)]
    have hE : endT T id 1 2 = T := by unfold endT; rw [if_neg he]
    rw [hE] at hend
    rw [hcT, hcL]
    have hb : (endE T id != 0) = true := by rw [bne_iff_ne]; exact he
    clear he hcT hcL hE
    go_enter Try.func34, Try.ntmps34
    go_wp2_with fail
    refine hend.mono ?_
    rintro e w1 ⟨rfl, hT1, hf1⟩
    clear hend
    go_wp2
    go_ret
    exact ⟨rfl, Turned.of hT1 (hfo hf1)⟩

set_option maxHeartbeats 1000000 in
theorem abort_any (p : Nat) (R : Option Nat) (T : List One) (last : Nat) (id : Int) (w : World) (hT : IsT w p R T last) (hlen : T.length ≤ 1000000) :
    Calls Try.prog 35 #[.pointer (some ⟨p, 0, none⟩), .int .i64 id] w fun e w' => e = .returned (.int .i64 (endE T id)) ∧ Turned p R (abortT T id) last w w' := by
  have hend : Calls Try.prog 54 #[.pointer (some ⟨p, 0, none⟩), .int .i64 id, .int .u8 2, .int .u8 3] w fun e w' => e = .returned (.int .i64 (endE T id)) ∧ IsT w' p R (endT T id 2 3) last ∧ Fr (fun k => R = some k) w w' :=
    end_any p R T last id 2 3 w hT hlen (by omega)
  have hfo : ∀ {a b : World}, Fr (fun k => R = some k) a b → Fr (foot p R) a b := fun h => h.mono (fun i _ e => .inr e)
  go_enter Try.func35, Try.ntmps35
  go_wp2_with fail
  refine hend.mono ?_
  rintro e w1 ⟨rfl, hT1, hf1⟩
  clear hend
  go_wp2
  go_ret
  exact ⟨rfl, Turned.of hT1 (hfo hf1)⟩

end Go.Proofs.Ytfgkocpmgoaljaa
