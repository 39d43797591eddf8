/- A name more: who is whom, and all that a role is. No condition. -/
import Derived.Test.YtffcaapbmkaceaaDoorRpP
import Derived.Test.YtffcaapbmkaceaaDoorRpN
namespace Go.Proofs.YtffcaapbmkaceaaDoor
open Ev Go.RowKit
theorem mayP_get {N : List ByteArray} {I : List (ByteArray × ByteArray)} (h : mayP N I = true) : (1 ≤ N.length ∧ N.length ≤ 16) ∧ N.getD 0 default = rootB ∧ N.Nodup ∧ I.Nodup ∧ (∀ x ∈ N, nameP x = true) ∧ ∀ p ∈ I, p.1 ≠ p.2 ∧ p.1 ∈ N ∧ p.2 ∈ N := by
  unfold mayP at h
  simp only [Bool.and_eq_true, decide_eq_true_eq, List.all_eq_true, Bool.not_eq_true', List.any_eq_false] at h
  obtain ⟨⟨h1, h2⟩, h3, h4, h5, h6, h7⟩ := h
  refine ⟨⟨h1, h2⟩, h3, h4, h5, h6, fun p hp => ?_⟩
  have := h7 p hp
  unfold badP at this
  simp only [Bool.or_eq_true, decide_eq_true_eq, Bool.not_eq_true', not_or, Bool.not_eq_false] at this
  exact ⟨this.1, inL_iff.1 this.2.1, inL_iff.1 this.2.2⟩
theorem mayP_mk {N : List ByteArray} {I : List (ByteArray × ByteArray)} (h : (1 ≤ N.length ∧ N.length ≤ 16) ∧ N.getD 0 default = rootB ∧ N.Nodup ∧ I.Nodup ∧ (∀ x ∈ N, nameP x = true) ∧ ∀ p ∈ I, p.1 ≠ p.2 ∧ p.1 ∈ N ∧ p.2 ∈ N) : mayP N I = true := by
  obtain ⟨⟨h1, h2⟩, h3, h4, h5, h6, h7⟩ := h
  unfold mayP
  simp only [Bool.and_eq_true, decide_eq_true_eq, List.all_eq_true, Bool.not_eq_true', List.any_eq_false]
  refine ⟨⟨h1, h2⟩, h3, h4, h5, h6, fun p hp => ?_⟩
  obtain ⟨g1, g2, g3⟩ := h7 p hp
  unfold badP
  simp only [Bool.or_eq_true, decide_eq_true_eq, Bool.not_eq_true', not_or, Bool.not_eq_false]
  exact ⟨g1, inL_iff.2 g2, inL_iff.2 g3⟩
/-- A name more that is none of them: the state may be. -/
theorem mayP_name {N : List ByteArray} {I : List (ByteArray × ByteArray)} {nm : ByteArray} (h : mayP N I = true) (hn : nameP nm = true) (hx : nm ∉ N) (hl : N.length ≠ 16) : mayP (N ++ [nm]) I = true := by
  obtain ⟨⟨h1, h2⟩, h3, h4, h5, h6, h7⟩ := mayP_get h
  refine mayP_mk ⟨⟨by simp, by simp; omega⟩, ?_, ?_, h5, fun x hx' => ?_, fun p hp => ?_⟩
  · rw [getD_app (by omega)]; exact h3
  · rw [List.nodup_append]
    refine ⟨h4, by simp, fun a ha b hb => ?_⟩
    simp only [List.mem_singleton] at hb
    subst hb
    exact fun e => hx (e ▸ ha)
  · rcases List.mem_append.1 hx' with hx' | hx'
    · exact h6 x hx'
    · simp only [List.mem_singleton] at hx'; subst hx'; exact hn
  · obtain ⟨g1, g2, g3⟩ := h7 p hp
    exact ⟨g1, List.mem_append_left _ g2, List.mem_append_left _ g3⟩
theorem Reach.names {N N' : List ByteArray} {I : List (ByteArray × ByteArray)} (hI : ∀ p ∈ I, p.2 ∈ N') {x y : ByteArray} (h : Reach N I x y) : Reach N' I x y := by
  induction h with
  | refl => exact .refl
  | step u v _ hi _ ih => exact .step u v ih hi (hI _ hi)
theorem Reach.last {N : List ByteArray} {I : List (ByteArray × ByteArray)} {x y : ByteArray} (h : Reach N I x y) : x = y ∨ ∃ u, (u, y) ∈ I := by
  cases h with
  | refl => exact .inl rfl
  | step u v _ hi _ => exact .inr ⟨u, hi⟩
/-- A name more changes nobody else. -/
theorem isP_name {N : List ByteArray} {I : List (ByteArray × ByteArray)} {nm : ByteArray} (h : mayP N I = true) {x y : ByteArray} (h1 : x ≠ nm) (h2 : y ≠ nm) : isP (N ++ [nm]) I x y = isP N I x y := by
  obtain ⟨_, _, _, _, _, h7⟩ := mayP_get h
  have key : isP (N ++ [nm]) I x y = true ↔ isP N I x y = true := by
    rw [isP_iff, isP_iff]
    simp only [List.mem_append, List.mem_singleton, h1, h2, or_false]
    exact ⟨fun ⟨a, b, c⟩ => ⟨a, b, c.names fun p hp => (h7 p hp).2.2⟩, fun ⟨a, b, c⟩ => ⟨a, b, c.names fun p hp => List.mem_append_left _ (h7 p hp).2.2⟩⟩
  cases h3 : isP N I x y <;> cases h4 : isP (N ++ [nm]) I x y <;> simp_all
theorem isP_new {N : List ByteArray} {I : List (ByteArray × ByteArray)} {nm : ByteArray} (h : mayP N I = true) (hx : nm ∉ N) {y : ByteArray} (h2 : y ≠ nm) : isP (N ++ [nm]) I nm y = false := by
  obtain ⟨_, _, _, _, _, h7⟩ := mayP_get h
  refine isP_false fun ⟨_, _, c⟩ => ?_
  rcases c.head with e | ⟨z, hz, _⟩
  · exact h2 e.symm
  · exact hx (h7 _ hz).2.1
theorem isP_new' {N : List ByteArray} {I : List (ByteArray × ByteArray)} {nm : ByteArray} (h : mayP N I = true) (hx : nm ∉ N) {y : ByteArray} (h2 : y ≠ nm) : isP (N ++ [nm]) I y nm = false := by
  obtain ⟨_, _, _, _, _, h7⟩ := mayP_get h
  refine isP_false fun ⟨_, _, c⟩ => ?_
  rcases c.last with e | ⟨z, hz⟩
  · exact h2 e
  · exact hx (h7 _ hz).2.2
theorem foldl_allF (N : List ByteArray) (I : List (ByteArray × ByteArray)) (who : ByteArray) : ∀ (M out : List ByteArray), M.Nodup → (∀ x ∈ M, x ∉ out) → M.foldl (allF N I who) out = out ++ M.filter (isP N I who)
  | [], out, _, _ => by simp
  | n :: M, out, hd, hx => by
    rw [List.nodup_cons] at hd
    have hn : inL n out = false := inL_no.2 (hx n List.mem_cons_self)
    rw [List.foldl_cons]
    cases hp : isP N I who n with
    | true =>
      have e : allF N I who out n = out ++ [n] := by unfold allF; rw [hp, hn]; rfl
      rw [e, foldl_allF N I who M (out ++ [n]) hd.2 fun x hxm => by
        simp only [List.mem_append, List.mem_singleton, not_or]
        exact ⟨hx x (List.mem_cons_of_mem _ hxm), fun c => hd.1 (c ▸ hxm)⟩]
      simp [hp]
    | false =>
      have e : allF N I who out n = out := by unfold allF; rw [hp]; rfl
      rw [e, foldl_allF N I who M out hd.2 fun x hxm => hx x (List.mem_cons_of_mem _ hxm)]
      simp [hp]
theorem allP_filter {N : List ByteArray} {I : List (ByteArray × ByteArray)} {who : ByteArray} (h : N.Nodup) : allP N I who = N.filter (isP N I who) := by
  unfold allP
  rw [foldl_allF N I who N [] h (by simp)]; simp
theorem nodup_snoc {N : List ByteArray} {nm : ByteArray} (h : N.Nodup) (hx : nm ∉ N) : (N ++ [nm]).Nodup := by
  rw [List.nodup_append]
  refine ⟨h, by simp, fun a ha b hb => ?_⟩
  simp only [List.mem_singleton] at hb
  subst hb
  exact fun e => hx (e ▸ ha)
/-- A role that was made is nobody but itself. -/
theorem allP_new {N : List ByteArray} {I : List (ByteArray × ByteArray)} {nm : ByteArray} (h : mayP N I = true) (hx : nm ∉ N) : allP (N ++ [nm]) I nm = [nm] := by
  obtain ⟨_, _, h4, _⟩ := mayP_get h
  rw [allP_filter (nodup_snoc h4 hx), List.filter_append]
  have e1 : N.filter (isP (N ++ [nm]) I nm) = [] := List.filter_eq_nil_iff.2 fun y hy => by rw [isP_new h hx fun e => hx (e ▸ hy)]; simp
  have e2 : isP (N ++ [nm]) I nm nm = true := by rw [isP_self]; exact inL_iff.2 (by simp)
  rw [e1]; simp [e2]
theorem allP_old {N : List ByteArray} {I : List (ByteArray × ByteArray)} {nm who : ByteArray} (h : mayP N I = true) (hx : nm ∉ N) (hw : who ≠ nm) : allP (N ++ [nm]) I who = allP N I who := by
  obtain ⟨_, _, h4, _⟩ := mayP_get h
  rw [allP_filter (nodup_snoc h4 hx), allP_filter h4, List.filter_append]
  have e1 : N.filter (isP (N ++ [nm]) I who) = N.filter (isP N I who) := List.filter_congr fun y hy => isP_name h hw fun e => hx (e ▸ hy)
  rw [e1]; simp [isP_new' h hx hw]
theorem dL_name (N : List ByteArray) (nm : ByteArray) : dL ByteArray (catD (eL N) N.length (listD [D.v (Value.string nm)] [TK.str].length)) (N.length + 1) = N ++ [nm] := dL_snoc N nm _ _ rfl
theorem dL_one (nm : ByteArray) : dL ByteArray (listD [D.v (Value.string nm)] [TK.str].length) 1 = [nm] := rfl
end Go.Proofs.YtffcaapbmkaceaaDoor
