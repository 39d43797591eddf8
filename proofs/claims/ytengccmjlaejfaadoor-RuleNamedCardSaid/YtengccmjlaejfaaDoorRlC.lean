/- slices.Clone at []int: the library's contract, as a contract over lists of one's own. No condition. -/
import Derived.Test.YtengccmjlaejfaaDoorMg17
import Derived.Shelf.Slices.Clone
namespace Go.Proofs.YtengccmjlaejfaaDoor
open Ev Go.RowKit
set_option maxRecDepth 100000
set_option linter.unusedVariables false
def cloneL_ren : Go.Shelf.Ren := ⟨fun k => match k with
  | 0 => 0
  | 1 => 1
  | 2 => 2
  | 15 => 29
  | 20 => 31
  | 31 => 67
  | 37 => 87
  | 40 => 96
  | 41 => 97
  | 42 => 98
  | 43 => 99
  | 44 => 100
  | 45 => 101
  | 46 => 102
  | 47 => 103
  | 48 => 104
  | 49 => 105
  | 50 => 106
  | 51 => 107
  | 52 => 108
  | 53 => 109
  | 54 => 110
  | 55 => 112
  | k => k, fun k => match k with
  | 0 => 0
  | 1 => 1
  | 2 => 2
  | 3 => 3
  | 4 => 4
  | 5 => 5
  | 6 => 6
  | 7 => 7
  | 8 => 8
  | 9 => 9
  | 10 => 10
  | 11 => 11
  | 12 => 12
  | 13 => 13
  | 14 => 14
  | 15 => 15
  | 16 => 16
  | 17 => 17
  | 18 => 18
  | 19 => 19
  | 20 => 20
  | 21 => 21
  | 22 => 35
  | 23 => 68
  | 24 => 23
  | 33 => 105
  | 36 => 70
  | 40 => 46
  | 41 => 103
  | 42 => 116
  | 43 => 54
  | 44 => 24
  | 45 => 69
  | 46 => 135
  | 47 => 136
  | 48 => 137
  | 49 => 138
  | 50 => 139
  | 51 => 140
  | 52 => 141
  | 53 => 108
  | 54 => 142
  | 55 => 143
  | 56 => 144
  | 57 => 145
  | 58 => 146
  | 59 => 147
  | 60 => 148
  | 61 => 149
  | 62 => 150
  | k => k, fun k => match k with
  | k => k⟩
theorem cloneL : Go.Proofs.Lays2.n15 Tryd.prog cloneL_ren where
  mixed := by kernel_rfl
  f15 := by kernel_rfl
  t3 := by kernel_rfl
  a3 := fun _ => by kernel_rfl
  z3 := fun _ => by kernel_rfl
  v3 := fun _ => by kernel_rfl
  t4 := by kernel_rfl
  a4 := fun _ => by kernel_rfl
  z4 := fun _ => by kernel_rfl
  v4 := fun _ => by kernel_rfl
  t22 := by kernel_rfl
  a22 := fun _ => by kernel_rfl
  z22 := fun _ => by kernel_rfl
  v22 := fun _ => by kernel_rfl
  i3 := by kernel_rfl


def cln_cf : Nat → Cfg := cfL []
def cln_a  : List AV := [.none0 false]
noncomputable def cln_t (P : Program)  : Br PO :=
(.leaf (.fin ⟨Ex.ret, true, [some (AV.sl 65536 0 0 (some 0))], [OS.o (AO.cells [] 1 65536 true false)]⟩))
theorem cln_h  : (ev Tryd.prog noX noS 3000 noL 3000 .normal [.c 0 (codeOf Tryd.prog 29)] (params (cln_a )) Ev.start).map (lookP Tryd.prog (resOf Tryd.prog 29) [[]] cln_cf) = cln_t Tryd.prog  := by kernel_rfl

theorem clone_none : OCalls Tryd.prog 29 [.none0 false] (.osl 65536 0) [.rows (eL ([] : List Int)) 0 [.int .i64]] := by
  refine floyd0 ev_mix ev_ok noX_open noSQ (by kernel_rfl) [[]] cln_cf (cln_t _) cln_h ?_
  exact ⟨rfl, .cons _ _ _ _ (.sl0 _ _ _) .nil, .cons _ _ _ _ (.row [] [] _ _ (eL ([] : List Int)) 0 [.int .i64] rfl rfl (by omega) (fun i c hi => by omega)) .nil⟩
namespace Ev
/-- A heap with one new row alone. -/
theorem hr_row {m : Nat → Option Obj} {w w' : World} (hm : ∀ b o, m b = some o → w.heap[b]? = some o) (hf : Go.Proofs.YtengccmjlaejfaaDoor.Fr noB w w') {L : List Int} {p : Pl} (hp : w.heap.size ≤ p.b)
    (ho : @ORel ⟨m, false⟩ (upd (fun _ => none) openB p) (.rows (eL L) L.length [.int .i64]) p w') (hb : p.b < w'.heap.size) :
    @HR ⟨m, false⟩ (upd (fun _ => none) openB p) (mkH openB [.rows (eL L) L.length [.int .i64]]) w' := by
  letI I : Fz := ⟨m, false⟩
  have only : ∀ n (o : AO) (q : AO), (mkH openB [q]).ob.get n = some o → n = openB ∧ o = q := fun n o q e => by
    unfold mkH at e
    rw [get_putO] at e
    split at e
    · cases e
    · rename_i c
      have hn : n = openB := by
        have := (List.getElem?_eq_some_iff.1 e).1
        simp at this c
        omega
      subst hn
      simp at e
      exact ⟨rfl, e.symm⟩
  have up : ∀ n q, upd (fun _ => none) openB p n = some q → n = openB ∧ q = p := fun n q e => by
    by_cases c : n = openB
    · subst c; rw [upd_same] at e; cases e; exact ⟨rfl, rfl⟩
    · rw [upd_ne _ _ c] at e; cases e
  refine ⟨fun n q e => ?_, fun n o e hn => ?_, fun n k q q' o o' hne h1 h2 h3 h4 h5 => ?_, fun n k q q' o o' h1 h2 h3 h4 h5 h6 => ?_, fun n k q q' o o' hne h1 h2 h3 h4 h5 h6 => ?_, fun b o e => ?_, fun n q e => ?_, fun _ => ?_⟩
  · obtain ⟨rfl, rfl⟩ := up n q e
    exact ⟨by show openB < openB + 1; omega, hb⟩
  · obtain ⟨rfl, rfl⟩ := only n o _ e
    exact .inl ⟨p, upd_same _ _ _, ho⟩
  · exact absurd ((up n q h1).1.trans (up k q' h2).1.symm) hne
  · obtain ⟨_, rfl⟩ := only n o _ h4
    cases h6
  · exact absurd ((up n q h1).1.trans (up k q' h2).1.symm) hne
  · have h1 := hm b o e
    have h2 : b < w.heap.size := (Array.getElem?_eq_some_iff.1 h1).1
    rw [hf.block b h2 (fun x => x)]; exact h1
  · obtain ⟨rfl, rfl⟩ := up n q e
    show m q.b = none
    cases hq : m q.b with
    | none => rfl
    | some o => have := (Array.getElem?_eq_some_iff.1 (hm _ o hq)).1; omega
  · show openB ≤ openB + 1; omega
/-- A heap with a list of nothing, without memory. -/
theorem hr_none {m : Nat → Option Obj} {w w' : World} (hm : ∀ b o, m b = some o → w.heap[b]? = some o) (hf : Go.Proofs.YtengccmjlaejfaaDoor.Fr noB w w') :
    @HR ⟨m, false⟩ (fun _ => none) (mkH openB [.rows (eL ([] : List Int)) ([] : List Int).length [.int .i64]]) w' := by
  letI I : Fz := ⟨m, false⟩
  have only : ∀ n (o : AO) (q : AO), (mkH openB [q]).ob.get n = some o → n = openB ∧ o = q := fun n o q e => by
    unfold mkH at e
    rw [get_putO] at e
    split at e
    · cases e
    · rename_i c
      have hn : n = openB := by
        have := (List.getElem?_eq_some_iff.1 e).1
        simp at this c
        omega
      subst hn
      simp at e
      exact ⟨rfl, e.symm⟩
  refine ⟨(fun n q e => by cases e), fun n o e hn => ?_, (fun n k q q' o o' hne h1 => by cases h1), (fun n k q q' o o' h1 => by cases h1), (fun n k q q' o o' hne h1 => by cases h1), fun b o e => ?_, (fun n q e => by cases e), fun _ => ?_⟩
  · obtain ⟨rfl, rfl⟩ := only n o _ e
    exact .inr ⟨rfl, rfl⟩
  · have h1 := hm b o e
    have h2 : b < w.heap.size := (Array.getElem?_eq_some_iff.1 h1).1
    rw [hf.block b h2 (fun x => x)]; exact h1
  · show openB ≤ openB + 1; omega
end Ev
theorem clone_ok (L : List Int) (hL : L.length ≤ 1000000) : OCalls Tryd.prog 29 [.fz (eL L) L.length [.int .i64]] (.osl 65536 L.length) [.rows (eL L) L.length [.int .i64]] := by
  intro m w ys hm hys
  letI I : Fz := ⟨m, false⟩
  obtain ⟨y, r, e1, ⟨hgc, hy⟩, e2⟩ := hys
  subst e2
  obtain rfl : ys = #[y] := by apply Array.ext'; rw [e1]
  unfold FzRel at hy
  -- what comes of a row of its own
  have res : ∀ w' v', Below w.heap.size w w' → w'.ownsRow w.heap.size 3 1 v' L.length (L.map (Value.int .i64)) → ∃ y ρ', (Ending.returned v' : Ending) = .returned y ∧ Go.Proofs.YtengccmjlaejfaaDoor.Fr noB w w' ∧ @VRel ⟨m, false⟩ ρ' (.osl 65536 L.length) y ∧ @HR ⟨m, false⟩ ρ' (mkH openB [.rows (eL L) L.length [.int .i64]]) w' ∧ ∀ n p, ρ' n = some p → w.heap.size ≤ p.b := by
    intro w' v' hb ho
    have hf : Go.Proofs.YtengccmjlaejfaaDoor.Fr noB w w' := ⟨hb.os, hb.tape, hb.output, hb.size, fun k hk _ => hb.block k hk⟩
    obtain ⟨_, ho⟩ := ho
    rcases ho with ⟨rfl, h0⟩ | ⟨g, cap, cur, rfl, hg, hc, h1, h2, h3, h4⟩
    · have : L = [] := List.length_eq_zero_iff.1 h0
      subst this
      exact ⟨_, fun _ => none, rfl, hf, ⟨rfl, .inl ⟨rfl, none, rfl⟩⟩, hr_none hm hf, fun n p e => by cases e⟩
    · have hlt : g < w'.heap.size := (Array.getElem?_eq_some_iff.1 hc).1
      refine ⟨_, upd (fun _ => none) openB ⟨g, 0, 1, cur.size⟩, rfl, hf, ⟨rfl, .inr ⟨⟨g, 0, 1, cur.size⟩, cap, upd_same _ _ _, rfl, h1, by simp [h3]⟩⟩, hr_row hm hf hg ?_ hlt, fun n p e => ?_⟩
      · refine ⟨rfl, ⟨rfl, by simp [h3]; omega, by omega⟩, cur, _, hc, rfl, fun i c hi hc' => ?_⟩
        have c0 : c = 0 := by simp at hc'; omega
        subst c0
        refine ⟨⟨.int .i64, rfl, rfl⟩, .int .i64 (L.getD i default), ?_, rfl⟩
        have h5 : cur.toList[i]? = some (.int .i64 (L.getD i default)) := by
          have h6 : (cur.toList.take (L.length * 1))[i]? = (L.map (Value.int .i64))[i]? := by rw [h4]
          rw [List.getElem?_take_of_lt (by omega)] at h6
          rw [h6]
          simp [List.getD_eq_getElem?_getD, hi]
        simpa using h5
      · by_cases c : n = openB
        · subst c; rw [upd_same] at e; cases e; exact hg
        · rw [upd_ne _ _ c] at e; cases e
  have nil : ∀ n c, L = [] → y = .slice none n c → Calls Tryd.prog 29 #[y] w fun e w' => ∃ y ρ', e = .returned y ∧ Go.Proofs.YtengccmjlaejfaaDoor.Fr noB w w' ∧ @VRel ⟨m, false⟩ ρ' (.osl 65536 L.length) y ∧ @HR ⟨m, false⟩ ρ' (mkH openB [.rows (eL L) L.length [.int .i64]]) w' ∧ ∀ n p, ρ' n = some p → w.heap.size ≤ p.b := by
    intro n c h0 he
    clear hy res
    subst h0 he
    refine (Go.Proofs.Any.slices_Clone_int_nil cloneL n c w).mono ?_
    rintro e w' ⟨rfl, rfl⟩
    exact ⟨_, fun _ => none, rfl, Fr.refl _ _, ⟨rfl, .inl ⟨rfl, none, rfl⟩⟩, hr_none hm (Fr.refl _ _), fun n p e => by cases e⟩
  have some' : ∀ b o k, y = .slice (some ⟨b, o, none⟩) L.length k → (∀ j, j < L.length → w.cell? ⟨b, o + j, none⟩ = some (.int .i64 (L.getD j 0))) → Calls Tryd.prog 29 #[y] w fun e w' => ∃ y ρ', e = .returned y ∧ Go.Proofs.YtengccmjlaejfaaDoor.Fr noB w w' ∧ @VRel ⟨m, false⟩ ρ' (.osl 65536 L.length) y ∧ @HR ⟨m, false⟩ ρ' (mkH openB [.rows (eL L) L.length [.int .i64]]) w' ∧ ∀ n p, ρ' n = some p → w.heap.size ≤ p.b := by
    intro b o k he hc
    clear hy
    subst he
    refine (Go.Proofs.Any.slices_Clone_int cloneL b o L.length k L w (Nat.le_refl _) (by omega) hc).mono ?_
    rintro e w' ⟨v', rfl, ho, _, hb⟩
    rw [List.take_length] at ho
    exact res w' v' hb ho
  rcases hy with ⟨h0, a, k, rfl, _⟩ | ⟨b, o, k, C, e, fr, rfl, h1, h2, h3, h4⟩
  · have h0 : L = [] := List.length_eq_zero_iff.1 h0
    cases a with
    | none => exact nil 0 k h0 rfl
    | some a =>
      subst h0
      exact clone_none m w _ hm ⟨_, _, rfl, ⟨a, k, rfl, fun e => by cases e⟩, rfl⟩
  · refine some' b o k rfl fun j hj => ?_
    obtain ⟨_, z, h5, h6⟩ := h4 j 0 hj (by simp)
    have h7 := hm _ _ h2
    have h5 : C[o + j]? = some z := by simpa using h5
    have h6 : z = .int .i64 (L.getD j default) := h6
    simp [World.cell?, h7, h5, h6]
end Go.Proofs.YtengccmjlaejfaaDoor
