/- The statement RolesOn, walked. No condition. -/
import Derived.Test.YtffcaapbmkaceaaDoorRpM
namespace Go.Proofs.YtffcaapbmkaceaaDoor
open Ev Go.RowKit
set_option maxRecDepth 100000
set_option linter.unusedVariables false
def on_cf : Nat → Cfg := cfL [mkC 98 [1, 2, 4, 9] [(4, [])]]
def on_a (N : List ByteArray) (I : List (ByteArray × ByteArray)) (a b c : ByteArray) : List AV := [stA N I, .s (.string a), .s (.string b), .s (.string c)]
noncomputable def on_t (P : Program) (N : List ByteArray) (I : List (ByteArray × ByteArray)) (a b c : ByteArray) : Br PO :=
(.test (longP (dL ByteArray (eL N) N.length) (dL (ByteArray × ByteArray) (eL I) I.length))
  (.leaf (.fin ⟨Ex.ret, true, [some (AV.s (Value.bool true))], []⟩))
  (.test (decide ((↑a.size : Int) > 200))
    (.leaf (.fin ⟨Ex.ret, true, [some (AV.s (Value.bool true))], []⟩))
    (.test (decide ((↑b.size : Int) > 200))
      (.leaf (.fin ⟨Ex.ret, true, [some (AV.s (Value.bool true))], []⟩))
      (.test (decide ((↑c.size : Int) > 200))
        (.leaf (.fin ⟨Ex.ret, true, [some (AV.s (Value.bool true))], []⟩))
        (.test (false)
          (.leaf (.fin ⟨Ex.ret, true, [some (AV.s (Value.bool true))], []⟩))
          (.test (!mayP (dL ByteArray (eL N) N.length) (dL (ByteArray × ByteArray) (eL I) I.length))
            (.leaf (.fin ⟨Ex.ret, true, [some (AV.v (Value.bool true))], []⟩))
            (.test (N.length.ble 1000000)
              (.test (!isP (dL ByteArray (eL N) N.length) (dL (ByteArray × ByteArray) (eL I) I.length) a a == decide (idxS (dL ByteArray (eL N) N.length) a ≥ 0))
                (.leaf (.fin ⟨Ex.ret, true, [some (AV.v (Value.bool false))], []⟩))
                (.test (N.length.ble 1000000)
                  (.test (isP (dL ByteArray (eL N) N.length) (dL (ByteArray × ByteArray) (eL I) I.length) a b)
                    (.test (N.length.ble 1000000)
                      (.test (isP (dL ByteArray (eL N) N.length) (dL (ByteArray × ByteArray) (eL I) I.length) b c)
                        (.test (N.length.ble 1000000)
                          (.test (!isP (dL ByteArray (eL N) N.length) (dL (ByteArray × ByteArray) (eL I) I.length) a c)
                            (.leaf (.fin ⟨Ex.ret, true, [some (AV.v (Value.bool false))], []⟩))
                            (.test (a.toList == b.toList)
                              (.leaf (.fin ⟨Ex.ret, true, [some (AV.v (Value.bool true))], []⟩))
                              (.test (N.length.ble 1000000)
                                (.test (!isP (dL ByteArray (eL N) N.length) (dL (ByteArray × ByteArray) (eL I) I.length) a b)
                                  (.leaf (.fin ⟨Ex.ret, true, [some (AV.v (Value.bool true))], []⟩))
                                  (.leaf (.at 0 (ct P 4 0).1 (ct P 4 0).2 ⟨Ex.normal, true, [some (AV.s (Value.string a)), some (AV.s (Value.string b)), some (AV.ptr 65536 0 0), some (AV.v (Value.int IntKind.i64 (0)))], [OS.o (AO.cells [AV.fz (eL N) N.length [TK.str], AV.fz (eL I) I.length [TK.str, TK.str]] 2 65536 true false)]⟩))
                                )
                                .no
                              )
                            )
                          )
                          .no
                        )
                        (.test (a.toList == b.toList)
                          (.leaf (.fin ⟨Ex.ret, true, [some (AV.v (Value.bool true))], []⟩))
                          (.test (N.length.ble 1000000)
                            (.test (!isP (dL ByteArray (eL N) N.length) (dL (ByteArray × ByteArray) (eL I) I.length) a b)
                              (.leaf (.fin ⟨Ex.ret, true, [some (AV.v (Value.bool true))], []⟩))
                              (.leaf (.at 0 (ct P 4 0).1 (ct P 4 0).2 ⟨Ex.normal, true, [some (AV.s (Value.string a)), some (AV.s (Value.string b)), some (AV.ptr 65536 0 0), some (AV.v (Value.int IntKind.i64 (0)))], [OS.o (AO.cells [AV.fz (eL N) N.length [TK.str], AV.fz (eL I) I.length [TK.str, TK.str]] 2 65536 true false)]⟩))
                            )
                            .no
                          )
                        )
                      )
                      .no
                    )
                    (.test (a.toList == b.toList)
                      (.leaf (.fin ⟨Ex.ret, true, [some (AV.v (Value.bool true))], []⟩))
                      (.test (N.length.ble 1000000)
                        (.test (!isP (dL ByteArray (eL N) N.length) (dL (ByteArray × ByteArray) (eL I) I.length) a b)
                          (.leaf (.fin ⟨Ex.ret, true, [some (AV.v (Value.bool true))], []⟩))
                          (.leaf (.at 0 (ct P 4 0).1 (ct P 4 0).2 ⟨Ex.normal, true, [some (AV.s (Value.string a)), some (AV.s (Value.string b)), some (AV.ptr 65536 0 0), some (AV.v (Value.int IntKind.i64 (0)))], [OS.o (AO.cells [AV.fz (eL N) N.length [TK.str], AV.fz (eL I) I.length [TK.str, TK.str]] 2 65536 true false)]⟩))
                        )
                        .no
                      )
                    )
                  )
                  .no
                )
              )
              .no
            )
          )
        )
      )
    )
  )
)
theorem on_h (N : List ByteArray) (I : List (ByteArray × ByteArray)) (a b c : ByteArray) : (ev Tryd.prog roX awakeS 3000 noL 3000 .normal [.c 0 (codeOf Tryd.prog 4)] (params (on_a N I a b c)) Ev.start).map (lookP Tryd.prog (resOf Tryd.prog 4) [] on_cf) = on_t Tryd.prog N I a b c := by kernel_rfl
def on_v0 (N : List ByteArray) (I : List (ByteArray × ByteArray)) (a b c : ByteArray) (i : Nat) : List AV := [.s (.string a), .s (.string b), .ptr 65536 0 0, .s (.int .i64 i)]
def on_o0 (N : List ByteArray) (I : List (ByteArray × ByteArray)) (a b c : ByteArray) (i : Nat) : List AO := [stO N I]
noncomputable def on_t0 (P : Program) (N : List ByteArray) (I : List (ByteArray × ByteArray)) (a b c : ByteArray) (i : Nat) : Br PO :=
(.test (decide ((↑i : Int) < (↑I.length : Int)))
  (.test (decide (0 ≤ (↑i : Int)) && decide ((↑i : Int) < (↑I.length : Int)))
    (.test ((I.getD (↑i : Int).toNat default).fst.toList == a.toList)
      (.test (decide (0 ≤ (↑i : Int)) && decide ((↑i : Int) < (↑I.length : Int)))
        (.test (N.length.ble 1000000)
          (.test (isP (dL ByteArray (eL N) N.length) (dL (ByteArray × ByteArray) (eL I) I.length) (I.getD (↑i : Int).toNat default).snd b)
            (.leaf (.fin ⟨Ex.ret, true, [some (AV.v (Value.bool true))], []⟩))
            (.leaf (.at 0 (ct P 4 0).1 (ct P 4 0).2 ⟨Ex.normal, true, [some (AV.s (Value.string a)), some (AV.s (Value.string b)), some (AV.ptr 65536 0 0), some (AV.s (Value.int IntKind.i64 (IntKind.i64.wrap ((↑i : Int) + 1))))], [OS.o (AO.cells [AV.fz (eL N) N.length [TK.str], AV.fz (eL I) I.length [TK.str, TK.str]] 2 0 true false)]⟩))
          )
          .no
        )
        .no
      )
      (.leaf (.at 0 (ct P 4 0).1 (ct P 4 0).2 ⟨Ex.normal, true, [some (AV.s (Value.string a)), some (AV.s (Value.string b)), some (AV.ptr 65536 0 0), some (AV.s (Value.int IntKind.i64 (IntKind.i64.wrap ((↑i : Int) + 1))))], [OS.o (AO.cells [AV.fz (eL N) N.length [TK.str], AV.fz (eL I) I.length [TK.str, TK.str]] 2 0 true false)]⟩))
    )
    .no
  )
  (.leaf (.fin ⟨Ex.ret, true, [some (AV.v (Value.bool false))], []⟩))
)
theorem on_h0 (N : List ByteArray) (I : List (ByteArray × ByteArray)) (a b c : ByteArray) (i : Nat) (j : Nat → Value) : (ev Tryd.prog roX awakeS 3000 noL 3000 .normal (hd Tryd.prog 4 0) (mkE (on_cf 0) (on_v0 N I a b c i) j) (mkH openB (on_o0 N I a b c i))).map (lookP Tryd.prog (resOf Tryd.prog 4) [] on_cf) = on_t0 Tryd.prog N I a b c i := by kernel_rfl

theorem Reach.trans {N : List ByteArray} {I : List (ByteArray × ByteArray)} {x y z : ByteArray} (h : Reach N I x y) (k : Reach N I y z) : Reach N I x z := by
  induction k with
  | refl => exact h
  | step u v _ hi hn ih => exact .step u v ih hi hn
/-- Who is of, and is not itself, begins with a pair. -/
theorem Reach.head {N : List ByteArray} {I : List (ByteArray × ByteArray)} {x y : ByteArray} (h : Reach N I x y) : x = y ∨ ∃ z, (x, z) ∈ I ∧ z ∈ N ∧ Reach N I z y := by
  induction h with
  | refl => exact .inl rfl
  | step u v _ hi hn ih =>
    rcases ih with rfl | ⟨z, h1, h2, h3⟩
    · exact .inr ⟨v, hi, hn, .refl⟩
    · exact .inr ⟨z, h1, h2, .step u v h3 hi hn⟩
theorem isP_self (N : List ByteArray) (I : List (ByteArray × ByteArray)) (a : ByteArray) : isP N I a a = inL a N := by
  cases h : inL a N with
  | true => exact isP_true ⟨inL_iff.1 h, inL_iff.1 h, .refl⟩
  | false => exact isP_false fun c => inL_no.1 h c.1
theorem isP_trans {N : List ByteArray} {I : List (ByteArray × ByteArray)} {a b c : ByteArray} (h : isP N I a b = true) (k : isP N I b c = true) : isP N I a c = true := by
  have h := isP_iff.1 h
  have k := isP_iff.1 k
  exact isP_true ⟨h.1, k.2.1, h.2.2.trans k.2.2⟩
theorem longP_no {N : List ByteArray} {I : List (ByteArray × ByteArray)} (h : longP N I = false) : N.length ≤ 40 ∧ I.length ≤ 60 := by
  unfold longP at h
  simp only [Bool.or_eq_false_iff, decide_eq_false_iff_not] at h
  omega
theorem on_ok (N : List ByteArray) (I : List (ByteArray × ByteArray)) (a b c : ByteArray) : OCalls Tryd.prog 4 (on_a N I a b c) (.s (.bool true)) [] := by
  have J0 : N.length ≤ 40 → I.length ≤ 60 → a ≠ b → isP N I a b = true → (N.length ≤ 40 ∧ I.length ≤ 60 ∧ a ≠ b ∧ isP N I a b = true) ∧ 0 ≤ I.length ∧ ∀ k, k < 0 → ¬ ((I.getD k default).1 = a ∧ isP N I (I.getD k default).2 b = true) := fun h1 h2 h3 h4 => ⟨⟨h1, h2, h3, h4⟩, Nat.zero_le _, fun k hk => absurd hk (Nat.not_lt_zero k)⟩
  refine floyd ev_mix ev_ok roX_ok awakeS_ok (by kernel_rfl) [] on_cf (fun i => I.length - i) (fun _ => 0) (on_v0 N I a b c) (on_o0 N I a b c) (fun i => (N.length ≤ 40 ∧ I.length ≤ 60 ∧ a ≠ b ∧ isP N I a b = true) ∧ i ≤ I.length ∧ ∀ k, k < i → ¬ ((I.getD k default).1 = a ∧ isP N I (I.getD k default).2 b = true)) (on_t0 _ N I a b c) (on_t _ N I a b c) (on_h N I a b c) (on_h0 N I a b c) ?_ ?_
  · have yes : ∀ x, x = AV.s (.bool true) → Goes ⟨.ret, true, [some x], []⟩ [.s (.bool true)] [] := fun x hx => ⟨rfl, (.cons _ _ _ _ (.ofEq hx) .nil), .nil⟩
    have yev : Goes ⟨.ret, true, [some (.v (.bool true))], []⟩ [.s (.bool true)] [] := ⟨rfl, (.cons _ _ _ _ (.vs _) .nil), .nil⟩
    have big : N.length ≤ 40 → Nat.ble N.length 1000000 = true := fun h => ble_yes (by omega)
    unfold on_t
    rw [dL_eL, dL_eL, isP_self, idxS_ge]
    refine ⟨fun _ => yes _ rfl, fun hl => ?_⟩
    obtain ⟨hN, hI⟩ := longP_no hl
    rw [big hN]
    refine ⟨fun _ => yes _ rfl, fun _ => ⟨fun _ => yes _ rfl, fun _ => ⟨fun _ => yes _ rfl, fun _ => ⟨fun h => (by cases h), fun _ => ⟨fun _ => yev, fun hm => ⟨fun _ => ⟨fun h => ?_, fun _ => ⟨fun _ => ⟨fun h1 => ⟨fun _ => ⟨fun h2 => ⟨fun _ => ⟨fun h3 => ?_, fun h3 => ⟨fun _ => yev, fun h4 => ⟨fun _ => ⟨fun _ => yev, fun h5 => ?_⟩, fun h => (by cases h)⟩⟩⟩, fun h => (by cases h)⟩, fun h2 => ⟨fun _ => yev, fun h4 => ⟨fun _ => ⟨fun _ => yev, fun h5 => ?_⟩, fun h => (by cases h)⟩⟩⟩, fun h => (by cases h)⟩, fun h1 => ⟨fun _ => yev, fun h4 => ⟨fun _ => ⟨fun _ => yev, fun h5 => ?_⟩, fun h => (by cases h)⟩⟩⟩, fun h => (by cases h)⟩⟩, fun h => (by cases h)⟩⟩⟩⟩⟩⟩
    · simp at h
    · rw [isP_trans h1 h2] at h3; cases h3
    · rw [ba_eq, decide_eq_false_iff_not] at h4
      exact ⟨0, J0 hN hI h4 h1, rfl, rfl, rfl, (.cons _ _ _ _ (.refl _) (.cons _ _ _ _ (.refl _) (.cons _ _ _ _ (.refl _) (.cons _ _ _ _ (.vs _) .nil)))), .cons _ _ _ _ (st_le N I _ _) .nil⟩
    · rw [ba_eq, decide_eq_false_iff_not] at h4
      exact ⟨0, J0 hN hI h4 h1, rfl, rfl, rfl, (.cons _ _ _ _ (.refl _) (.cons _ _ _ _ (.refl _) (.cons _ _ _ _ (.refl _) (.cons _ _ _ _ (.vs _) .nil)))), .cons _ _ _ _ (st_le N I _ _) .nil⟩
    · rw [h1] at h5; cases h5
  · intro i ⟨⟨hN, hI, hab, hP⟩, hi, hn⟩
    unfold on_t0
    rw [dL_eL, dL_eL]
    refine ⟨fun h => ⟨fun _ => ⟨fun h1 => ⟨fun _ => ⟨fun _ => ⟨fun h2 => ⟨rfl, (.cons _ _ _ _ (.vs _) .nil), .nil⟩, fun h2 => ?_⟩, fun h2 => ?_⟩, fun h2 => ?_⟩, fun h1 => ?_⟩, fun h1 => ?_⟩, fun h => ?_⟩
    · simp only [decide_eq_true_eq] at h
      exact ⟨i + 1, ⟨⟨hN, hI, hab, hP⟩, by omega, upto_next hn fun x => by rw [show isP N I (I.getD i default).2 b = false from h2] at x; cases x.2⟩, rel_nat (by omega), rfl, rfl, rfl, (.cons _ _ _ _ (.refl _) (.cons _ _ _ _ (.refl _) (.cons _ _ _ _ (.refl _) (.cons _ _ _ _ (.ofEq (by rw [wrap_lt (by omega) (by omega)]; rfl)) .nil)))), .cons _ _ _ _ (st_le N I _ _) .nil⟩
    · rw [ble_yes (by omega)] at h2; cases h2
    · simp only [decide_eq_true_eq] at h
      simp only [Bool.and_eq_false_iff, decide_eq_false_iff_not] at h2; omega
    · simp only [decide_eq_true_eq] at h
      rw [ba_eq, decide_eq_false_iff_not] at h1
      exact ⟨i + 1, ⟨⟨hN, hI, hab, hP⟩, by omega, upto_next hn fun x => h1 x.1⟩, rel_nat (by omega), rfl, rfl, rfl, (.cons _ _ _ _ (.refl _) (.cons _ _ _ _ (.refl _) (.cons _ _ _ _ (.refl _) (.cons _ _ _ _ (.ofEq (by rw [wrap_lt (by omega) (by omega)]; rfl)) .nil)))), .cons _ _ _ _ (st_le N I _ _) .nil⟩
    · simp only [decide_eq_true_eq] at h
      simp only [Bool.and_eq_false_iff, decide_eq_false_iff_not] at h1; omega
    · simp only [decide_eq_false_iff_not] at h
      exfalso
      obtain ⟨h1, h2, h3⟩ := isP_iff.1 hP
      rcases h3.head with e | ⟨z, h4, h5, h6⟩
      · exact hab e
      · obtain ⟨k, hk, he⟩ := mem_getD h4
        exact hn k (by omega) ⟨by rw [he], by rw [he]; exact isP_true ⟨h5, h2, h6⟩⟩
end Go.Proofs.YtffcaapbmkaceaaDoor
