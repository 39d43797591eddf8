/- Roles with a pair more: plain facts. No condition. -/
import Derived.Test.YtffcaapbmkaceaaDoorRpR
import Derived.Test.YtffcaapbmkaceaaDoorRpS
namespace Go.Proofs.YtffcaapbmkaceaaDoor
open Ev Go.RowKit
set_option linter.unusedVariables false
theorem mayP_pair {N : List ByteArray} {I : List (ByteArray × ByteArray)} {who to : ByteArray} (h : mayP N I = true) (hne : who ≠ to) (hw : who ∈ N) (ht : to ∈ N) (hx : (who, to) ∉ I) : mayP N (I ++ [(who, to)]) = true := by
  obtain ⟨h1, h2, h3, h4, h5, h6⟩ := mayP_get h
  refine mayP_mk ⟨h1, h2, h3, ?_, h5, fun p hp => ?_⟩
  · rw [List.nodup_append]
    refine ⟨h4, by simp, fun a ha b hb => ?_⟩
    simp only [List.mem_singleton] at hb
    subst hb
    exact fun e => hx (e ▸ ha)
  · rcases List.mem_append.1 hp with hp | hp
    · exact h6 p hp
    · simp only [List.mem_singleton] at hp
      subst hp
      exact ⟨hne, hw, ht⟩
theorem Reach.more {N : List ByteArray} {I J : List (ByteArray × ByteArray)} {x y : ByteArray} (hs : ∀ p ∈ I, p ∈ J) (h : Reach N I x y) : Reach N J x y := by
  induction h with
  | refl => exact .refl
  | step x y _ hi hn ih => exact .step _ _ ih (hs _ hi) hn
theorem isP_pair {N : List ByteArray} {I : List (ByteArray × ByteArray)} {who to a b : ByteArray} (hw : who ∈ N) (ht : to ∈ N) : isP N (I ++ [(who, to)]) a b = (isP N I a b || (isP N I a who && isP N I to b)) := by
  rw [Bool.eq_iff_iff]
  simp only [Bool.or_eq_true, Bool.and_eq_true, isP_iff]
  constructor
  · rintro ⟨h1, h2, h3⟩
    have key : ∀ y, Reach N (I ++ [(who, to)]) a y → Reach N I a y ∨ (Reach N I a who ∧ Reach N I to y) := by
      intro y hy
      induction hy with
      | refl => exact .inl .refl
      | step x y _ hi hn ih =>
        rcases List.mem_append.1 hi with hi | hi
        · rcases ih with ih | ⟨i1, i2⟩
          · exact .inl (.step _ _ ih hi hn)
          · exact .inr ⟨i1, .step _ _ i2 hi hn⟩
        · simp only [List.mem_singleton, Prod.mk.injEq] at hi
          obtain ⟨rfl, rfl⟩ := hi
          rcases ih with ih | ⟨i1, i2⟩
          · exact .inr ⟨ih, .refl⟩
          · exact .inr ⟨i1, .refl⟩
    rcases key b h3 with k | ⟨k1, k2⟩
    · exact .inl ⟨h1, h2, k⟩
    · exact .inr ⟨⟨h1, hw, k1⟩, ht, h2, k2⟩
  · rintro (⟨h1, h2, h3⟩ | ⟨⟨h1, _, h3⟩, _, h4, h5⟩)
    · exact ⟨h1, h2, h3.more fun p hp => List.mem_append_left _ hp⟩
    · exact ⟨h1, h4, ((Reach.step _ _ (h3.more fun p hp => List.mem_append_left _ hp) (List.mem_append_right _ (by simp)) ht)).trans (h5.more fun p hp => List.mem_append_left _ hp)⟩
theorem idxS_snoc {I : List (ByteArray × ByteArray)} {x : ByteArray × ByteArray} (hx : x ∉ I) : idxS (I ++ [x]) x = (I.length : Int) := by
  refine idxS_hit (by simp) (by simp [List.getD_eq_getElem?_getD]) (fun k hk e => hx ?_)
  rw [getD_app hk] at e
  exact e ▸ getD_mem hk
theorem dL_pair (I : List (ByteArray × ByteArray)) (a b : ByteArray) : dL (ByteArray × ByteArray) (catD (eL I) I.length (listD [D.v (Value.string a), D.v (Value.string b)] [TK.str, TK.str].length)) (I.length + 1) = I ++ [(a, b)] := dL_snoc I (a, b) _ _ rfl
theorem dL_congr {α : Type} [Inhabited α] [Rec α] {f g : Nat → Nat → D} {n : Nat} (h : ∀ i, i < n → f i = g i) : dL α f n = dL α g n := by
  unfold dL
  exact List.map_congr_left fun i hi => by rw [h i (by simpa using hi)]
theorem dL_cut (I : List (ByteArray × ByteArray)) (g : Nat → Nat → D) : dL (ByteArray × ByteArray) (cutD (catD (eL I) I.length g) I.length 1) I.length = I := by
  refine (dL_congr fun i hi => ?_).trans (dL_eL I)
  funext c
  have : Nat.blt i I.length = true := by simpa using hi
  simp [cutD, catD, this]
end Go.Proofs.YtffcaapbmkaceaaDoor
