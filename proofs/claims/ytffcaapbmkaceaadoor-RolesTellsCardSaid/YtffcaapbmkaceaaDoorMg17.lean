/- The statement RolesOn, walked. No condition. -/
import Derived.Test.YtffcaapbmkaceaaDoorMg16
import Derived.Test.YtffcaapbmkaceaaDoorMg12
section
namespace Go.Proofs.YtffcaapbmkaceaaDoor
open Ev Go.RowKit
set_option maxRecDepth 100000
set_option linter.unusedVariables false
def on_cf : Nat → Cfg := cfL [mkC 98 [1, 2, 4, 9] [(4, [])]]
def on_a (N : List ByteArray) (I : List (ByteArray × ByteArray)) (a b c : ByteArray) : List AV := [stA N I, .s (.string a), .s (.string b), .s (.string c)]
noncomputable def on_t (P : Program) (N : List ByteArray) (I : List (ByteArray × ByteArray)) (a b c : ByteArray) : Br PO :=
(.test (longP (dL ByteArray (eL N) N.length) (dL (ByteArray × ByteArray) (eL I) I.length))
  (.leaf (.fin ⟨Ex.ret, true, [some (AV.s (Value.bool true))], []⟩))
  (.test (decide ((↑a.size : Int) > 200))
    (.leaf (.fin ⟨Ex.ret, true, [some (AV.s (Value.bool true))], []⟩))
    (.test (decide ((↑b.size : Int) > 200))
      (.leaf (.fin ⟨Ex.ret, true, [some (AV.s (Value.bool true))], []⟩))
      (.test (decide ((↑c.size : Int) > 200))
        (.leaf (.fin ⟨Ex.ret, true, [some (AV.s (Value.bool true))], []⟩))
        (.test (false)
          (.leaf (.fin ⟨Ex.ret, true, [some (AV.s (Value.bool true))], []⟩))
          (.test (!mayP (dL ByteArray (eL N) N.length) (dL (ByteArray × ByteArray) (eL I) I.length))
            (.leaf (.fin ⟨Ex.ret, true, [some (AV.v (Value.bool true))], []⟩))
            (.test (N.length.ble 1000000)
              (.test (!isP (dL ByteArray (eL N) N.length) (dL (ByteArray × ByteArray) (eL I) I.length) a a == decide (idxS (dL ByteArray (eL N) N.length) a ≥ 0))
                (.leaf (.fin ⟨Ex.ret, true, [some (AV.v (Value.bool false))], []⟩))
                (.test (N.length.ble 1000000)
                  (.test (isP (dL ByteArray (eL N) N.length) (dL (ByteArray × ByteArray) (eL I) I.length) a b)
                    (.test (N.length.ble 1000000)
                      (.test (isP (dL ByteArray (eL N) N.length) (dL (ByteArray × ByteArray) (eL I) I.length) b c)
                        (.test (N.length.ble 1000000)
                          (.test (!isP (dL ByteArray (eL N) N.length) (dL (ByteArray × ByteArray) (eL I) I.length) a c)
                            (.leaf (.fin ⟨Ex.ret, true, [some (AV.v (Value.bool false))], []⟩))
                            (.test (a.toList == b.toList)
                              (.leaf (.fin ⟨Ex.ret, true, [some (AV.v (Value.bool true))], []⟩))
                              (.test (N.length.ble 1000000)
                                (.test (!isP (dL ByteArray (eL N) N.length) (dL (ByteArray × ByteArray) (eL I) I.length) a b)
                                  (.leaf (.fin ⟨Ex.ret, true, [some (AV.v (Value.bool true))], []⟩))
                                  (.leaf (.at 0 (ct P 4 0).1 (ct P 4 0).2 ⟨Ex.normal, true, [some (AV.s (Value.string a)), some (AV.s (Value.string b)), some (AV.ptr 65536 0 0), some (AV.v (Value.int IntKind.i64 (0)))], [OS.o (AO.cells [AV.fz (eL N) N.length [TK.str], AV.fz (eL I) I.length [TK.str, TK.str]] 2 65536 true false)]⟩))
                                )
                                .no
                              )
                            )
                          )
                          .no
                        )
                        (.test (a.toList == b.toList)
                          (.leaf (.fin ⟨Ex.ret, true, [some (AV.v (Value.bool true))], []⟩))
                          (.test (N.length.ble 1000000)
                            (.test (!isP (dL ByteArray (eL N) N.length) (dL (ByteArray × ByteArray) (eL I) I.length) a b)
                              (.leaf (.fin ⟨Ex.ret, true, [some (AV.v (Value.bool true))], []⟩))
                              (.leaf (.at 0 (ct P 4 0).1 (ct P 4 0).2 ⟨Ex.normal, true, [some (AV.s (Value.string a)), some (AV.s (Value.string b)), some (AV.ptr 65536 0 0), some (AV.v (Value.int IntKind.i64 (0)))], [OS.o (AO.cells [AV.fz (eL N) N.length [TK.str], AV.fz (eL I) I.length [TK.str, TK.str]] 2 65536 true false)]⟩))
                            )
                            .no
                          )
                        )
                      )
                      .no
                    )
                    (.test (a.toList == b.toList)
                      (.leaf (.fin ⟨Ex.ret, true, [some (AV.v (Value.bool true))], []⟩))
                      (.test (N.length.ble 1000000)
                        (.test (!isP (dL ByteArray (eL N) N.length) (dL (ByteArray × ByteArray) (eL I) I.length) a b)
                          (.leaf (.fin ⟨Ex.ret, true, [some (AV.v (Value.bool true))], []⟩))
                          (.leaf (.at 0 (ct P 4 0).1 (ct P 4 0).2 ⟨Ex.normal, true, [some (AV.s (Value.string a)), some (AV.s (Value.string b)), some (AV.ptr 65536 0 0), some (AV.v (Value.int IntKind.i64 (0)))], [OS.o (AO.cells [AV.fz (eL N) N.length [TK.str], AV.fz (eL I) I.length [TK.str, TK.str]] 2 65536 true false)]⟩))
                        )
                        .no
                      )
                    )
                  )
                  .no
                )
              )
              .no
            )
          )
        )
      )
    )
  )
)
theorem on_h (N : List ByteArray) (I : List (ByteArray × ByteArray)) (a b c : ByteArray) : (ev Tryd.prog roX awakeS 3000 noL 3000 .normal [.c 0 (codeOf Tryd.prog 4)] (params (on_a N I a b c)) Ev.start).map (lookP Tryd.prog (resOf Tryd.prog 4) [] on_cf) = on_t Tryd.prog N I a b c := by kernel_rfl
def on_v0 (N : List ByteArray) (I : List (ByteArray × ByteArray)) (a b c : ByteArray) (i : Nat) : List AV := [.s (.string a), .s (.string b), .ptr 65536 0 0, .s (.int .i64 i)]
def on_o0 (N : List ByteArray) (I : List (ByteArray × ByteArray)) (a b c : ByteArray) (i : Nat) : List AO := [stO N I]
noncomputable def on_t0 (P : Program) (N : List ByteArray) (I : List (ByteArray × ByteArray)) (a b c : ByteArray) (i : Nat) : Br PO :=
(.test (decide ((↑i : Int) < (↑I.length : Int)))
  (.test (decide (0 ≤ (↑i : Int)) && decide ((↑i : Int) < (↑I.length : Int)))
    (.test ((I.getD (↑i : Int).toNat default).fst.toList == a.toList)
      (.test (decide (0 ≤ (↑i : Int)) && decide ((↑i : Int) < (↑I.length : Int)))
        (.test (N.length.ble 1000000)
          (.test (isP (dL ByteArray (eL N) N.length) (dL (ByteArray × ByteArray) (eL I) I.length) (I.getD (↑i : Int).toNat default).snd b)
            (.leaf (.fin ⟨Ex.ret, true, [some (AV.v (Value.bool true))], []⟩))
            (.leaf (.at 0 (ct P 4 0).1 (ct P 4 0).2 ⟨Ex.normal, true, [some (AV.s (Value.string a)), some (AV.s (Value.string b)), some (AV.ptr 65536 0 0), some (AV.s (Value.int IntKind.i64 (IntKind.i64.wrap ((↑i : Int) + 1))))], [OS.o (AO.cells [AV.fz (eL N) N.length [TK.str], AV.fz (eL I) I.length [TK.str, TK.str]] 2 0 true false)]⟩))
          )
          .no
        )
        .no
      )
      (.leaf (.at 0 (ct P 4 0).1 (ct P 4 0).2 ⟨Ex.normal, true, [some (AV.s (Value.string a)), some (AV.s (Value.string b)), some (AV.ptr 65536 0 0), some (AV.s (Value.int IntKind.i64 (IntKind.i64.wrap ((↑i : Int) + 1))))], [OS.o (AO.cells [AV.fz (eL N) N.length [TK.str], AV.fz (eL I) I.length [TK.str, TK.str]] 2 0 true false)]⟩))
    )
    .no
  )
  (.leaf (.fin ⟨Ex.ret, true, [some (AV.v (Value.bool false))], []⟩))
)
theorem on_h0 (N : List ByteArray) (I : List (ByteArray × ByteArray)) (a b c : ByteArray) (i : Nat) (j : Nat → Value) : (ev Tryd.prog roX awakeS 3000 noL 3000 .normal (hd Tryd.prog 4 0) (mkE (on_cf 0) (on_v0 N I a b c i) j) (mkH openB (on_o0 N I a b c i))).map (lookP Tryd.prog (resOf Tryd.prog 4) [] on_cf) = on_t0 Tryd.prog N I a b c i := by kernel_rfl

theorem Reach.trans {N : List ByteArray} {I : List (ByteArray × ByteArray)} {x y z : ByteArray} (h : Reach N I x y) (k : Reach N I y z) : Reach N I x z := by
  induction k with
  | refl => exact h
  | step u v _ hi hn ih => exact .step u v ih hi hn
/-- Who is of, and is not itself, begins with a pair. -/
theorem Reach.head {N : List ByteArray} {I : List (ByteArray × ByteArray)} {x y : ByteArray} (h : Reach N I x y) : x = y ∨ ∃ z, (x, z) ∈ I ∧ z ∈ N ∧ Reach N I z y := by
  induction h with
  | refl => exact .inl rfl
  | step u v _ hi hn ih =>
    rcases ih with rfl | ⟨z, h1, h2, h3⟩
    · exact .inr ⟨v, hi, hn, .refl⟩
    · exact .inr ⟨z, h1, h2, .step u v h3 hi hn⟩
theorem isP_self (N : List ByteArray) (I : List (ByteArray × ByteArray)) (a : ByteArray) : isP N I a a = inL a N := by
  cases h : inL a N with
  | true => exact isP_true ⟨inL_iff.1 h, inL_iff.1 h, .refl⟩
  | false => exact isP_false fun c => inL_no.1 h c.1
theorem isP_trans {N : List ByteArray} {I : List (ByteArray × ByteArray)} {a b c : ByteArray} (h : isP N I a b = true) (k : isP N I b c = true) : isP N I a c = true := by
  have h := isP_iff.1 h
  have k := isP_iff.1 k
  exact isP_true ⟨h.1, k.2.1, h.2.2.trans k.2.2⟩
theorem longP_no {N : List ByteArray} {I : List (ByteArray × ByteArray)} (h : longP N I = false) : N.length ≤ 40 ∧ I.length ≤ 60 := by
  unfold longP at h
  simp only [Bool.or_eq_false_iff, decide_eq_false_iff_not] at h
  omega
theorem on_ok (N : List ByteArray) (I : List (ByteArray × ByteArray)) (a b c : ByteArray) : OCalls Tryd.prog 4 (on_a N I a b c) (.s (.bool true)) [] := by
  have J0 : N.length ≤ 40 → I.length ≤ 60 → a ≠ b → isP N I a b = true → (N.length ≤ 40 ∧ I.length ≤ 60 ∧ a ≠ b ∧ isP N I a b = true) ∧ 0 ≤ I.length ∧ ∀ k, k < 0 → ¬ ((I.getD k default).1 = a ∧ isP N I (I.getD k default).2 b = true) := fun h1 h2 h3 h4 => ⟨⟨h1, h2, h3, h4⟩, Nat.zero_le _, fun k hk => absurd hk (Nat.not_lt_zero k)⟩
  refine floyd ev_mix ev_ok roX_ok awakeS_ok (by kernel_rfl) [] on_cf (fun i => I.length - i) (fun _ => 0) (on_v0 N I a b c) (on_o0 N I a b c) (fun i => (N.length ≤ 40 ∧ I.length ≤ 60 ∧ a ≠ b ∧ isP N I a b = true) ∧ i ≤ I.length ∧ ∀ k, k < i → ¬ ((I.getD k default).1 = a ∧ isP N I (I.getD k default).2 b = true)) (on_t0 _ N I a b c) (on_t _ N I a b c) (on_h N I a b c) (on_h0 N I a b c) ?_ ?_
  · have yes : ∀ x, x = AV.s (.bool true) → Goes ⟨.ret, true, [some x], []⟩ [.s (.bool true)] [] := fun x hx => ⟨rfl, (.cons _ _ _ _ (.ofEq hx) .nil), .nil⟩
    have yev : Goes ⟨.ret, true, [some (.v (.bool true))], []⟩ [.s (.bool true)] [] := ⟨rfl, (.cons _ _ _ _ (.vs _) .nil), .nil⟩
    have big : N.length ≤ 40 → Nat.ble N.length 1000000 = true := fun h => ble_yes (by omega)
    unfold on_t
    rw [dL_eL, dL_eL, isP_self, idxS_ge]
    refine ⟨fun _ => yes _ rfl, fun hl => ?_⟩
    obtain ⟨hN, hI⟩ := longP_no hl
    rw [big hN]
    refine ⟨fun _ => yes _ rfl, fun _ => ⟨fun _ => yes _ rfl, fun _ => ⟨fun _ => yes _ rfl, fun _ => ⟨fun h => (by cases h), fun _ => ⟨fun _ => yev, fun hm => ⟨fun _ => ⟨fun h => ?_, fun _ => ⟨fun _ => ⟨fun h1 => ⟨fun _ => ⟨fun h2 => ⟨fun _ => ⟨fun h3 => ?_, fun h3 => ⟨fun _ => yev, fun h4 => ⟨fun _ => ⟨fun _ => yev, fun h5 => ?_⟩, fun h => (by cases h)⟩⟩⟩, fun h => (by cases h)⟩, fun h2 => ⟨fun _ => yev, fun h4 => ⟨fun _ => ⟨fun _ => yev, fun h5 => ?_⟩, fun h => (by cases h)⟩⟩⟩, fun h => (by cases h)⟩, fun h1 => ⟨fun _ => yev, fun h4 => ⟨fun _ => ⟨fun _ => yev, fun h5 => ?_⟩, fun h => (by cases h)⟩⟩⟩, fun h => (by cases h)⟩⟩, fun h => (by cases h)⟩⟩⟩⟩⟩⟩
    · simp at h
    · rw [isP_trans h1 h2] at h3; cases h3
    · rw [ba_eq, decide_eq_false_iff_not] at h4
      exact ⟨0, J0 hN hI h4 h1, rfl, rfl, rfl, (.cons _ _ _ _ (.refl _) (.cons _ _ _ _ (.refl _) (.cons _ _ _ _ (.refl _) (.cons _ _ _ _ (.vs _) .nil)))), .cons _ _ _ _ (st_le N I _ _) .nil⟩
    · rw [ba_eq, decide_eq_false_iff_not] at h4
      exact ⟨0, J0 hN hI h4 h1, rfl, rfl, rfl, (.cons _ _ _ _ (.refl _) (.cons _ _ _ _ (.refl _) (.cons _ _ _ _ (.refl _) (.cons _ _ _ _ (.vs _) .nil)))), .cons _ _ _ _ (st_le N I _ _) .nil⟩
    · rw [h1] at h5; cases h5
  · intro i ⟨⟨hN, hI, hab, hP⟩, hi, hn⟩
    unfold on_t0
    rw [dL_eL, dL_eL]
    refine ⟨fun h => ⟨fun _ => ⟨fun h1 => ⟨fun _ => ⟨fun _ => ⟨fun h2 => ⟨rfl, (.cons _ _ _ _ (.vs _) .nil), .nil⟩, fun h2 => ?_⟩, fun h2 => ?_⟩, fun h2 => ?_⟩, fun h1 => ?_⟩, fun h1 => ?_⟩, fun h => ?_⟩
    · simp only [decide_eq_true_eq] at h
      exact ⟨i + 1, ⟨⟨hN, hI, hab, hP⟩, by omega, upto_next hn fun x => by rw [show isP N I (I.getD i default).2 b = false from h2] at x; cases x.2⟩, rel_nat (by omega), rfl, rfl, rfl, (.cons _ _ _ _ (.refl _) (.cons _ _ _ _ (.refl _) (.cons _ _ _ _ (.refl _) (.cons _ _ _ _ (.ofEq (by rw [wrap_lt (by omega) (by omega)]; rfl)) .nil)))), .cons _ _ _ _ (st_le N I _ _) .nil⟩
    · rw [ble_yes (by omega)] at h2; cases h2
    · simp only [decide_eq_true_eq] at h
      simp only [Bool.and_eq_false_iff, decide_eq_false_iff_not] at h2; omega
    · simp only [decide_eq_true_eq] at h
      rw [ba_eq, decide_eq_false_iff_not] at h1
      exact ⟨i + 1, ⟨⟨hN, hI, hab, hP⟩, by omega, upto_next hn fun x => h1 x.1⟩, rel_nat (by omega), rfl, rfl, rfl, (.cons _ _ _ _ (.refl _) (.cons _ _ _ _ (.refl _) (.cons _ _ _ _ (.refl _) (.cons _ _ _ _ (.ofEq (by rw [wrap_lt (by omega) (by omega)]; rfl)) .nil)))), .cons _ _ _ _ (st_le N I _ _) .nil⟩
    · simp only [decide_eq_true_eq] at h
      simp only [Bool.and_eq_false_iff, decide_eq_false_iff_not] at h1; omega
    · simp only [decide_eq_false_iff_not] at h
      exfalso
      obtain ⟨h1, h2, h3⟩ := isP_iff.1 hP
      rcases h3.head with e | ⟨z, h4, h5, h6⟩
      · exact hab e
      · obtain ⟨k, hk, he⟩ := mem_getD h4
        exact hn k (by omega) ⟨by rw [he], by rw [he]; exact isP_true ⟨h5, h2, h6⟩⟩
end Go.Proofs.YtffcaapbmkaceaaDoor
end
section
namespace Go.Proofs.YtffcaapbmkaceaaDoor
open Ev Go.RowKit
theorem mayP_get {N : List ByteArray} {I : List (ByteArray × ByteArray)} (h : mayP N I = true) : (1 ≤ N.length ∧ N.length ≤ 16) ∧ N.getD 0 default = rootB ∧ N.Nodup ∧ I.Nodup ∧ (∀ x ∈ N, nameP x = true) ∧ ∀ p ∈ I, p.1 ≠ p.2 ∧ p.1 ∈ N ∧ p.2 ∈ N := by
  unfold mayP at h
  simp only [Bool.and_eq_true, decide_eq_true_eq, List.all_eq_true, Bool.not_eq_true', List.any_eq_false] at h
  obtain ⟨⟨h1, h2⟩, h3, h4, h5, h6, h7⟩ := h
  refine ⟨⟨h1, h2⟩, h3, h4, h5, h6, fun p hp => ?_⟩
  have := h7 p hp
  unfold badP at this
  simp only [Bool.or_eq_true, decide_eq_true_eq, Bool.not_eq_true', not_or, Bool.not_eq_false] at this
  exact ⟨this.1, inL_iff.1 this.2.1, inL_iff.1 this.2.2⟩
theorem mayP_mk {N : List ByteArray} {I : List (ByteArray × ByteArray)} (h : (1 ≤ N.length ∧ N.length ≤ 16) ∧ N.getD 0 default = rootB ∧ N.Nodup ∧ I.Nodup ∧ (∀ x ∈ N, nameP x = true) ∧ ∀ p ∈ I, p.1 ≠ p.2 ∧ p.1 ∈ N ∧ p.2 ∈ N) : mayP N I = true := by
  obtain ⟨⟨h1, h2⟩, h3, h4, h5, h6, h7⟩ := h
  unfold mayP
  simp only [Bool.and_eq_true, decide_eq_true_eq, List.all_eq_true, Bool.not_eq_true', List.any_eq_false]
  refine ⟨⟨h1, h2⟩, h3, h4, h5, h6, fun p hp => ?_⟩
  obtain ⟨g1, g2, g3⟩ := h7 p hp
  unfold badP
  simp only [Bool.or_eq_true, decide_eq_true_eq, Bool.not_eq_true', not_or, Bool.not_eq_false]
  exact ⟨g1, inL_iff.2 g2, inL_iff.2 g3⟩
/-- A name more that is none of them: the state may be. -/
theorem mayP_name {N : List ByteArray} {I : List (ByteArray × ByteArray)} {nm : ByteArray} (h : mayP N I = true) (hn : nameP nm = true) (hx : nm ∉ N) (hl : N.length ≠ 16) : mayP (N ++ [nm]) I = true := by
  obtain ⟨⟨h1, h2⟩, h3, h4, h5, h6, h7⟩ := mayP_get h
  refine mayP_mk ⟨⟨by simp, by simp; omega⟩, ?_, ?_, h5, fun x hx' => ?_, fun p hp => ?_⟩
  · rw [getD_app (by omega)]; exact h3
  · rw [List.nodup_append]
    refine ⟨h4, by simp, fun a ha b hb => ?_⟩
    simp only [List.mem_singleton] at hb
    subst hb
    exact fun e => hx (e ▸ ha)
  · rcases List.mem_append.1 hx' with hx' | hx'
    · exact h6 x hx'
    · simp only [List.mem_singleton] at hx'; subst hx'; exact hn
  · obtain ⟨g1, g2, g3⟩ := h7 p hp
    exact ⟨g1, List.mem_append_left _ g2, List.mem_append_left _ g3⟩
theorem Reach.names {N N' : List ByteArray} {I : List (ByteArray × ByteArray)} (hI : ∀ p ∈ I, p.2 ∈ N') {x y : ByteArray} (h : Reach N I x y) : Reach N' I x y := by
  induction h with
  | refl => exact .refl
  | step u v _ hi _ ih => exact .step u v ih hi (hI _ hi)
theorem Reach.last {N : List ByteArray} {I : List (ByteArray × ByteArray)} {x y : ByteArray} (h : Reach N I x y) : x = y ∨ ∃ u, (u, y) ∈ I := by
  cases h with
  | refl => exact .inl rfl
  | step u v _ hi _ => exact .inr ⟨u, hi⟩
/-- A name more changes nobody else. -/
theorem isP_name {N : List ByteArray} {I : List (ByteArray × ByteArray)} {nm : ByteArray} (h : mayP N I = true) {x y : ByteArray} (h1 : x ≠ nm) (h2 : y ≠ nm) : isP (N ++ [nm]) I x y = isP N I x y := by
  obtain ⟨_, _, _, _, _, h7⟩ := mayP_get h
  have key : isP (N ++ [nm]) I x y = true ↔ isP N I x y = true := by
    rw [isP_iff, isP_iff]
    simp only [List.mem_append, List.mem_singleton, h1, h2, or_false]
    exact ⟨fun ⟨a, b, c⟩ => ⟨a, b, c.names fun p hp => (h7 p hp).2.2⟩, fun ⟨a, b, c⟩ => ⟨a, b, c.names fun p hp => List.mem_append_left _ (h7 p hp).2.2⟩⟩
  cases h3 : isP N I x y <;> cases h4 : isP (N ++ [nm]) I x y <;> simp_all
theorem isP_new {N : List ByteArray} {I : List (ByteArray × ByteArray)} {nm : ByteArray} (h : mayP N I = true) (hx : nm ∉ N) {y : ByteArray} (h2 : y ≠ nm) : isP (N ++ [nm]) I nm y = false := by
  obtain ⟨_, _, _, _, _, h7⟩ := mayP_get h
  refine isP_false fun ⟨_, _, c⟩ => ?_
  rcases c.head with e | ⟨z, hz, _⟩
  · exact h2 e.symm
  · exact hx (h7 _ hz).2.1
theorem isP_new' {N : List ByteArray} {I : List (ByteArray × ByteArray)} {nm : ByteArray} (h : mayP N I = true) (hx : nm ∉ N) {y : ByteArray} (h2 : y ≠ nm) : isP (N ++ [nm]) I y nm = false := by
  obtain ⟨_, _, _, _, _, h7⟩ := mayP_get h
  refine isP_false fun ⟨_, _, c⟩ => ?_
  rcases c.last with e | ⟨z, hz⟩
  · exact h2 e
  · exact hx (h7 _ hz).2.2
theorem foldl_allF (N : List ByteArray) (I : List (ByteArray × ByteArray)) (who : ByteArray) : ∀ (M out : List ByteArray), M.Nodup → (∀ x ∈ M, x ∉ out) → M.foldl (allF N I who) out = out ++ M.filter (isP N I who)
  | [], out, _, _ => by simp
  | n :: M, out, hd, hx => by
    rw [List.nodup_cons] at hd
    have hn : inL n out = false := inL_no.2 (hx n List.mem_cons_self)
    rw [List.foldl_cons]
    cases hp : isP N I who n with
    | true =>
      have e : allF N I who out n = out ++ [n] := by unfold allF; rw [hp, hn]; rfl
      rw [e, foldl_allF N I who M (out ++ [n]) hd.2 fun x hxm => by
        simp only [List.mem_append, List.mem_singleton, not_or]
        exact ⟨hx x (List.mem_cons_of_mem _ hxm), fun c => hd.1 (c ▸ hxm)⟩]
      simp [hp]
    | false =>
      have e : allF N I who out n = out := by unfold allF; rw [hp]; rfl
      rw [e, foldl_allF N I who M out hd.2 fun x hxm => hx x (List.mem_cons_of_mem _ hxm)]
      simp [hp]
theorem allP_filter {N : List ByteArray} {I : List (ByteArray × ByteArray)} {who : ByteArray} (h : N.Nodup) : allP N I who = N.filter (isP N I who) := by
  unfold allP
  rw [foldl_allF N I who N [] h (by simp)]; simp
theorem nodup_snoc {N : List ByteArray} {nm : ByteArray} (h : N.Nodup) (hx : nm ∉ N) : (N ++ [nm]).Nodup := by
  rw [List.nodup_append]
  refine ⟨h, by simp, fun a ha b hb => ?_⟩
  simp only [List.mem_singleton] at hb
  subst hb
  exact fun e => hx (e ▸ ha)
/-- A role that was made is nobody but itself. -/
theorem allP_new {N : List ByteArray} {I : List (ByteArray × ByteArray)} {nm : ByteArray} (h : mayP N I = true) (hx : nm ∉ N) : allP (N ++ [nm]) I nm = [nm] := by
  obtain ⟨_, _, h4, _⟩ := mayP_get h
  rw [allP_filter (nodup_snoc h4 hx), List.filter_append]
  have e1 : N.filter (isP (N ++ [nm]) I nm) = [] := List.filter_eq_nil_iff.2 fun y hy => by rw [isP_new h hx fun e => hx (e ▸ hy)]; simp
  have e2 : isP (N ++ [nm]) I nm nm = true := by rw [isP_self]; exact inL_iff.2 (by simp)
  rw [e1]; simp [e2]
theorem allP_old {N : List ByteArray} {I : List (ByteArray × ByteArray)} {nm who : ByteArray} (h : mayP N I = true) (hx : nm ∉ N) (hw : who ≠ nm) : allP (N ++ [nm]) I who = allP N I who := by
  obtain ⟨_, _, h4, _⟩ := mayP_get h
  rw [allP_filter (nodup_snoc h4 hx), allP_filter h4, List.filter_append]
  have e1 : N.filter (isP (N ++ [nm]) I who) = N.filter (isP N I who) := List.filter_congr fun y hy => isP_name h hw fun e => hx (e ▸ hy)
  rw [e1]; simp [isP_new' h hx hw]
theorem dL_name (N : List ByteArray) (nm : ByteArray) : dL ByteArray (catD (eL N) N.length (listD [D.v (Value.string nm)] [TK.str].length)) (N.length + 1) = N ++ [nm] := dL_snoc N nm _ _ rfl
theorem dL_one (nm : ByteArray) : dL ByteArray (listD [D.v (Value.string nm)] [TK.str].length) 1 = [nm] := rfl
end Go.Proofs.YtffcaapbmkaceaaDoor
end
section
namespace Go.Proofs.YtffcaapbmkaceaaDoor
open Ev Go.RowKit
set_option maxRecDepth 100000
set_option linter.unusedVariables false
def rname_cf : Nat → Cfg := cfL [mkC 56 [0, 3] []]
def rname_a (s : ByteArray) : List AV := [.s (.string s)]
noncomputable def rname_t (P : Program) (s : ByteArray) : Br PO :=
(.test (decide ((↑s.size : Int) < 1))
  (.leaf (.fin ⟨Ex.ret, true, [some (AV.v (Value.bool false))], []⟩))
  (.test (decide ((↑s.size : Int) > 32))
    (.leaf (.fin ⟨Ex.ret, true, [some (AV.v (Value.bool false))], []⟩))
    (.leaf (.at 0 (ct P 43 0).1 (ct P 43 0).2 ⟨Ex.normal, true, [some (AV.s (Value.string s)), some (AV.v (Value.int IntKind.i64 (0)))], []⟩))
  )
)
theorem rname_h (s : ByteArray) : (ev Tryd.prog noX noS 3000 noL 3000 .normal [.c 0 (codeOf Tryd.prog 43)] (params (rname_a s)) Ev.start).map (lookP Tryd.prog (resOf Tryd.prog 43) [] rname_cf) = rname_t Tryd.prog s := by kernel_rfl
def rname_v0 (s : ByteArray) (i : Nat) : List AV := [.s (.string s), .s (.int .i64 i)]
def rname_o0 (s : ByteArray) (i : Nat) : List AO := []
noncomputable def rname_t0 (P : Program) (s : ByteArray) (i : Nat) : Br PO :=
(.test (decide ((↑i : Int) < (↑s.size : Int)))
  (.test (decide (0 ≤ (↑i : Int)) && decide ((↑i : Int) < (↑s.size : Int)))
    (.test (decide (byteAt s (↑i : Int).toNat ≥ 97))
      (.test (decide (0 ≤ (↑i : Int)) && decide ((↑i : Int) < (↑s.size : Int)))
        (.test (decide (0 ≤ (↑i : Int)) && decide ((↑i : Int) < (↑s.size : Int)))
          (.test (decide (byteAt s (↑i : Int).toNat ≥ 48))
            (.test (decide (0 ≤ (↑i : Int)) && decide ((↑i : Int) < (↑s.size : Int)))
              (.test (decide (byteAt s (↑i : Int).toNat ≤ 57))
                (.test (!decide (byteAt s (↑i : Int).toNat ≤ 122))
                  (.test ((↑i : Int) == 0)
                    (.leaf (.fin ⟨Ex.ret, true, [some (AV.v (Value.bool false))], []⟩))
                    (.leaf (.at 0 (ct P 43 0).1 (ct P 43 0).2 ⟨Ex.normal, true, [some (AV.s (Value.string s)), some (AV.s (Value.int IntKind.i64 (IntKind.i64.wrap ((↑i : Int) + 1))))], []⟩))
                  )
                  (.leaf (.at 0 (ct P 43 0).1 (ct P 43 0).2 ⟨Ex.normal, true, [some (AV.s (Value.string s)), some (AV.s (Value.int IntKind.i64 (IntKind.i64.wrap ((↑i : Int) + 1))))], []⟩))
                )
                (.test (decide (0 ≤ (↑i : Int)) && decide ((↑i : Int) < (↑s.size : Int)))
                  (.test (!decide (byteAt s (↑i : Int).toNat ≤ 122))
                    (.test ((↑i : Int) == 0)
                      (.leaf (.fin ⟨Ex.ret, true, [some (AV.v (Value.bool false))], []⟩))
                      (.test (!byteAt s (↑i : Int).toNat == 95)
                        (.leaf (.fin ⟨Ex.ret, true, [some (AV.v (Value.bool false))], []⟩))
                        (.leaf (.at 0 (ct P 43 0).1 (ct P 43 0).2 ⟨Ex.normal, true, [some (AV.s (Value.string s)), some (AV.s (Value.int IntKind.i64 (IntKind.i64.wrap ((↑i : Int) + 1))))], []⟩))
                      )
                    )
                    (.leaf (.at 0 (ct P 43 0).1 (ct P 43 0).2 ⟨Ex.normal, true, [some (AV.s (Value.string s)), some (AV.s (Value.int IntKind.i64 (IntKind.i64.wrap ((↑i : Int) + 1))))], []⟩))
                  )
                  .no
                )
              )
              .no
            )
            (.test (decide (0 ≤ (↑i : Int)) && decide ((↑i : Int) < (↑s.size : Int)))
              (.test (!decide (byteAt s (↑i : Int).toNat ≤ 122))
                (.test ((↑i : Int) == 0)
                  (.leaf (.fin ⟨Ex.ret, true, [some (AV.v (Value.bool false))], []⟩))
                  (.test (!byteAt s (↑i : Int).toNat == 95)
                    (.leaf (.fin ⟨Ex.ret, true, [some (AV.v (Value.bool false))], []⟩))
                    (.leaf (.at 0 (ct P 43 0).1 (ct P 43 0).2 ⟨Ex.normal, true, [some (AV.s (Value.string s)), some (AV.s (Value.int IntKind.i64 (IntKind.i64.wrap ((↑i : Int) + 1))))], []⟩))
                  )
                )
                (.leaf (.at 0 (ct P 43 0).1 (ct P 43 0).2 ⟨Ex.normal, true, [some (AV.s (Value.string s)), some (AV.s (Value.int IntKind.i64 (IntKind.i64.wrap ((↑i : Int) + 1))))], []⟩))
              )
              .no
            )
          )
          .no
        )
        .no
      )
      (.test (decide (0 ≤ (↑i : Int)) && decide ((↑i : Int) < (↑s.size : Int)))
        (.test (decide (byteAt s (↑i : Int).toNat ≥ 48))
          (.test (decide (0 ≤ (↑i : Int)) && decide ((↑i : Int) < (↑s.size : Int)))
            (.test (decide (byteAt s (↑i : Int).toNat ≤ 57))
              (.test ((↑i : Int) == 0)
                (.leaf (.fin ⟨Ex.ret, true, [some (AV.v (Value.bool false))], []⟩))
                (.leaf (.at 0 (ct P 43 0).1 (ct P 43 0).2 ⟨Ex.normal, true, [some (AV.s (Value.string s)), some (AV.s (Value.int IntKind.i64 (IntKind.i64.wrap ((↑i : Int) + 1))))], []⟩))
              )
              (.test (decide (0 ≤ (↑i : Int)) && decide ((↑i : Int) < (↑s.size : Int)))
                (.test ((↑i : Int) == 0)
                  (.leaf (.fin ⟨Ex.ret, true, [some (AV.v (Value.bool false))], []⟩))
                  (.test (!byteAt s (↑i : Int).toNat == 95)
                    (.leaf (.fin ⟨Ex.ret, true, [some (AV.v (Value.bool false))], []⟩))
                    (.leaf (.at 0 (ct P 43 0).1 (ct P 43 0).2 ⟨Ex.normal, true, [some (AV.s (Value.string s)), some (AV.s (Value.int IntKind.i64 (IntKind.i64.wrap ((↑i : Int) + 1))))], []⟩))
                  )
                )
                .no
              )
            )
            .no
          )
          (.test (decide (0 ≤ (↑i : Int)) && decide ((↑i : Int) < (↑s.size : Int)))
            (.test ((↑i : Int) == 0)
              (.leaf (.fin ⟨Ex.ret, true, [some (AV.v (Value.bool false))], []⟩))
              (.test (!byteAt s (↑i : Int).toNat == 95)
                (.leaf (.fin ⟨Ex.ret, true, [some (AV.v (Value.bool false))], []⟩))
                (.leaf (.at 0 (ct P 43 0).1 (ct P 43 0).2 ⟨Ex.normal, true, [some (AV.s (Value.string s)), some (AV.s (Value.int IntKind.i64 (IntKind.i64.wrap ((↑i : Int) + 1))))], []⟩))
              )
            )
            .no
          )
        )
        .no
      )
    )
    .no
  )
  (.leaf (.fin ⟨Ex.ret, true, [some (AV.v (Value.bool true))], []⟩))
)
theorem rname_h0 (s : ByteArray) (i : Nat) (j : Nat → Value) : (ev Tryd.prog noX noS 3000 noL 3000 .normal (hd Tryd.prog 43 0) (mkE (rname_cf 0) (rname_v0 s i) j) (mkH openB (rname_o0 s i))).map (lookP Tryd.prog (resOf Tryd.prog 43) [] rname_cf) = rname_t0 Tryd.prog s i := by kernel_rfl

def rhas_cf : Nat → Cfg := cfL [mkC 20 [1, 2, 5] [(2, [])]]
def rhas_a (N : List ByteArray) (I : List (ByteArray × ByteArray)) (nm : ByteArray) : List AV := [stA N I, .s (.string nm)]
noncomputable def rhas_t (P : Program) (N : List ByteArray) (I : List (ByteArray × ByteArray)) (nm : ByteArray) : Br PO :=
(.leaf (.at 0 (ct P 27 0).1 (ct P 27 0).2 ⟨Ex.normal, true, [some (AV.s (Value.string nm)), some (AV.ptr 65536 0 0), some (AV.v (Value.int IntKind.i64 (0)))], [OS.o (AO.cells [AV.fz (eL N) N.length [TK.str], AV.fz (eL I) I.length [TK.str, TK.str]] 2 65536 true false)]⟩))
theorem rhas_h (N : List ByteArray) (I : List (ByteArray × ByteArray)) (nm : ByteArray) : (ev Tryd.prog noX noS 3000 noL 3000 .normal [.c 0 (codeOf Tryd.prog 27)] (params (rhas_a N I nm)) Ev.start).map (lookP Tryd.prog (resOf Tryd.prog 27) [] rhas_cf) = rhas_t Tryd.prog N I nm := by kernel_rfl
def rhas_v0 (N : List ByteArray) (I : List (ByteArray × ByteArray)) (nm : ByteArray) (i : Nat) : List AV := [.s (.string nm), .ptr 65536 0 0, .s (.int .i64 i)]
def rhas_o0 (N : List ByteArray) (I : List (ByteArray × ByteArray)) (nm : ByteArray) (i : Nat) : List AO := [stO N I]
noncomputable def rhas_t0 (P : Program) (N : List ByteArray) (I : List (ByteArray × ByteArray)) (nm : ByteArray) (i : Nat) : Br PO :=
(.test (decide ((↑i : Int) < (↑N.length : Int)))
  (.test (decide (0 ≤ (↑i : Int)) && decide ((↑i : Int) < (↑N.length : Int)))
    (.test ((N.getD (↑i : Int).toNat default).toList == nm.toList)
      (.leaf (.fin ⟨Ex.ret, true, [some (AV.v (Value.bool true))], []⟩))
      (.leaf (.at 0 (ct P 27 0).1 (ct P 27 0).2 ⟨Ex.normal, true, [some (AV.s (Value.string nm)), some (AV.ptr 65536 0 0), some (AV.s (Value.int IntKind.i64 (IntKind.i64.wrap ((↑i : Int) + 1))))], [OS.o (AO.cells [AV.fz (eL N) N.length [TK.str], AV.fz (eL I) I.length [TK.str, TK.str]] 2 0 true false)]⟩))
    )
    .no
  )
  (.leaf (.fin ⟨Ex.ret, true, [some (AV.v (Value.bool false))], []⟩))
)
theorem rhas_h0 (N : List ByteArray) (I : List (ByteArray × ByteArray)) (nm : ByteArray) (i : Nat) (j : Nat → Value) : (ev Tryd.prog noX noS 3000 noL 3000 .normal (hd Tryd.prog 27 0) (mkE (rhas_cf 0) (rhas_v0 N I nm i) j) (mkH openB (rhas_o0 N I nm i))).map (lookP Tryd.prog (resOf Tryd.prog 27) [] rhas_cf) = rhas_t0 Tryd.prog N I nm i := by kernel_rfl

def rpair_cf : Nat → Cfg := cfL [mkC 34 [1, 2, 3, 7] [(3, [])]]
def rpair_a (N : List ByteArray) (I : List (ByteArray × ByteArray)) (who to : ByteArray) : List AV := [stA N I, .s (.string who), .s (.string to)]
noncomputable def rpair_t (P : Program) (N : List ByteArray) (I : List (ByteArray × ByteArray)) (who to : ByteArray) : Br PO :=
(.leaf (.at 0 (ct P 45 0).1 (ct P 45 0).2 ⟨Ex.normal, true, [some (AV.s (Value.string who)), some (AV.s (Value.string to)), some (AV.ptr 65536 0 0), some (AV.v (Value.int IntKind.i64 (0)))], [OS.o (AO.cells [AV.fz (eL N) N.length [TK.str], AV.fz (eL I) I.length [TK.str, TK.str]] 2 65536 true false)]⟩))
theorem rpair_h (N : List ByteArray) (I : List (ByteArray × ByteArray)) (who to : ByteArray) : (ev Tryd.prog noX noS 3000 noL 3000 .normal [.c 0 (codeOf Tryd.prog 45)] (params (rpair_a N I who to)) Ev.start).map (lookP Tryd.prog (resOf Tryd.prog 45) [] rpair_cf) = rpair_t Tryd.prog N I who to := by kernel_rfl
def rpair_v0 (N : List ByteArray) (I : List (ByteArray × ByteArray)) (who to : ByteArray) (i : Nat) : List AV := [.s (.string who), .s (.string to), .ptr 65536 0 0, .s (.int .i64 i)]
def rpair_o0 (N : List ByteArray) (I : List (ByteArray × ByteArray)) (who to : ByteArray) (i : Nat) : List AO := [stO N I]
noncomputable def rpair_t0 (P : Program) (N : List ByteArray) (I : List (ByteArray × ByteArray)) (who to : ByteArray) (i : Nat) : Br PO :=
(.test (decide ((↑i : Int) < (↑I.length : Int)))
  (.test (decide (0 ≤ (↑i : Int)) && decide ((↑i : Int) < (↑I.length : Int)))
    (.test ((I.getD (↑i : Int).toNat default).fst.toList == who.toList)
      (.test (decide (0 ≤ (↑i : Int)) && decide ((↑i : Int) < (↑I.length : Int)))
        (.test ((I.getD (↑i : Int).toNat default).snd.toList == to.toList)
          (.leaf (.fin ⟨Ex.ret, true, [some (AV.s (Value.int IntKind.i64 (Int.ofNat i)))], []⟩))
          (.leaf (.at 0 (ct P 45 0).1 (ct P 45 0).2 ⟨Ex.normal, true, [some (AV.s (Value.string who)), some (AV.s (Value.string to)), some (AV.ptr 65536 0 0), some (AV.s (Value.int IntKind.i64 (IntKind.i64.wrap ((↑i : Int) + 1))))], [OS.o (AO.cells [AV.fz (eL N) N.length [TK.str], AV.fz (eL I) I.length [TK.str, TK.str]] 2 0 true false)]⟩))
        )
        .no
      )
      (.leaf (.at 0 (ct P 45 0).1 (ct P 45 0).2 ⟨Ex.normal, true, [some (AV.s (Value.string who)), some (AV.s (Value.string to)), some (AV.ptr 65536 0 0), some (AV.s (Value.int IntKind.i64 (IntKind.i64.wrap ((↑i : Int) + 1))))], [OS.o (AO.cells [AV.fz (eL N) N.length [TK.str], AV.fz (eL I) I.length [TK.str, TK.str]] 2 0 true false)]⟩))
    )
    .no
  )
  (.leaf (.fin ⟨Ex.ret, true, [some (AV.v (Value.int IntKind.i64 (Int.negSucc 0)))], []⟩))
)
theorem rpair_h0 (N : List ByteArray) (I : List (ByteArray × ByteArray)) (who to : ByteArray) (i : Nat) (j : Nat → Value) : (ev Tryd.prog noX noS 3000 noL 3000 .normal (hd Tryd.prog 45 0) (mkE (rpair_cf 0) (rpair_v0 N I who to i) j) (mkH openB (rpair_o0 N I who to i))).map (lookP Tryd.prog (resOf Tryd.prog 45) [] rpair_cf) = rpair_t0 Tryd.prog N I who to i := by kernel_rfl


def okI (i : Nat) (c : Int) : Prop := (97 ≤ c ∧ c ≤ 122) ∨ (i ≠ 0 ∧ ((48 ≤ c ∧ c ≤ 57) ∨ c = 95))
theorem nameP_iff (s : ByteArray) : nameP s = true ↔ (1 ≤ s.size ∧ s.size ≤ 32) ∧ ∀ k, k < s.size → okI k (byteAt s k) := by
  unfold nameP allB lowB setN okI
  simp only [Bool.and_eq_true, Bool.or_eq_true, decide_eq_true_eq, List.all_eq_true, List.mem_range]
  constructor
  · rintro ⟨h1, h2, h3⟩
    refine ⟨h1, fun k hk => ?_⟩
    have h4 := h3 k hk
    by_cases c : k = 0
    · subst c; exact .inl h2
    · rcases h4 with h4 | h4
      · exact .inl h4
      · exact .inr ⟨c, h4⟩
  · rintro ⟨h1, h2⟩
    refine ⟨h1, ?_, fun k hk => ?_⟩
    · rcases h2 0 (by omega) with h | ⟨h, _⟩
      · exact h
      · exact absurd rfl h
    · rcases h2 k hk with h | ⟨_, h⟩
      · exact .inl h
      · exact .inr h
theorem nameP_no {s : ByteArray} (h : ¬ ((1 ≤ s.size ∧ s.size ≤ 32) ∧ ∀ k, k < s.size → okI k (byteAt s k))) : nameP s = false := by
  cases hx : nameP s with
  | false => rfl
  | true => exact absurd ((nameP_iff s).1 hx) h
theorem rname_ok (s : ByteArray) : OCalls Tryd.prog 43 (rname_a s) (.s (.bool (nameP s))) [] := by
  have no : ¬ ((1 ≤ s.size ∧ s.size ≤ 32) ∧ ∀ k, k < s.size → okI k (byteAt s k)) → Goes ⟨.ret, true, [some (.v (.bool false))], []⟩ [.s (.bool (nameP s))] [] := fun h => ⟨rfl, (.cons _ _ _ _ (by rw [nameP_no h]; exact .vs _) .nil), .nil⟩
  refine floyd ev_mix ev_ok noX_open noSO (by kernel_rfl) [] rname_cf (fun i => s.size - i) (fun _ => 0) (rname_v0 s) (rname_o0 s) (fun i => (1 ≤ s.size ∧ s.size ≤ 32) ∧ i ≤ s.size ∧ ∀ k, k < i → okI k (byteAt s k)) (rname_t0 _ s) (rname_t _ s) (rname_h s) (rname_h0 s) ?_ ?_
  · refine ⟨fun h => no ?_, fun h => ⟨fun h2 => no ?_, fun h2 => ?_⟩⟩
    · simp only [decide_eq_true_eq] at h; rintro ⟨⟨a, b⟩, _⟩; omega
    · simp only [decide_eq_true_eq] at h2; rintro ⟨⟨a, b⟩, _⟩; omega
    · simp only [decide_eq_false_iff_not] at h h2
      exact ⟨0, ⟨⟨by omega, by omega⟩, Nat.zero_le _, fun k hk => absurd hk (Nat.not_lt_zero k)⟩, rfl, rfl, rfl, (.cons _ _ _ _ (.refl _) (.cons _ _ _ _ (.vs _) .nil)), .nil⟩
  · rintro i ⟨⟨a, b⟩, hi, hk⟩
    unfold rname_t0
    simp only [Int.toNat_natCast]
    refine ⟨fun h => ?_, fun h => ?_⟩
    · have h : i < s.size := by simpa using h
      have hix := idx_ok h
      have bad : ¬ okI i (byteAt s i) → Goes ⟨.ret, true, [some (.v (.bool false))], []⟩ [.s (.bool (nameP s))] [] := fun hb => no fun ⟨_, hx⟩ => hb (hx i h)
      have go : okI i (byteAt s i) → ∃ s', ((1 ≤ s.size ∧ s.size ≤ 32) ∧ s' ≤ s.size ∧ ∀ k, k < s' → okI k (byteAt s k)) ∧ WellFoundedRelation.rel (s.size - s') (s.size - i) ∧ 0 = 0 ∧ ((ct Tryd.prog 43 0).1, (ct Tryd.prog 43 0).2) = ct Tryd.prog 43 0 ∧ Goes ⟨.normal, true, [some (.s (.string s)), some (.s (.int .i64 (IntKind.i64.wrap ((i : Int) + 1))))], []⟩ (rname_v0 s s') (rname_o0 s s') := fun hg =>
        ⟨i + 1, ⟨⟨a, b⟩, by omega, upto_next hk hg⟩, rel_nat (by omega), rfl, rfl, rfl, (.cons _ _ _ _ (.refl _) (.cons _ _ _ _ (.ofEq (by rw [wrap_lt (by omega) (by omega)]; rfl)) .nil)), .nil⟩
      rw [hix]
      clear no hk
      repeat' first | refine hSt ?_ | refine hSf ?_ | refine hSd (fun _ => ?_) (fun _ => ?_) | refine hSn (fun _ => ?_) (fun _ => ?_) | refine hSe (fun _ => ?_) (fun _ => ?_) | refine hSne (fun _ => ?_) (fun _ => ?_)
      all_goals first
        | (exact bad (by unfold okI; omega))
        | (exact go (by unfold okI; omega))
        | (exfalso; omega)
    · have : i = s.size := by have : ¬ i < s.size := (by simpa using h); omega
      subst this
      exact ⟨rfl, (.cons _ _ _ _ (by rw [(nameP_iff s).2 ⟨⟨a, b⟩, hk⟩]; exact .vs _) .nil), .nil⟩
def rnameX : SumBr := oX 43 fun
  | [a] => match strV a with
    | some x => some (.leaf (.s (.bool (nameP x)), []))
    | _ => none
  | _ => none
theorem rnameX_ok : SumGO Tryd.prog (sumS rnameX) := oX_ok (by kernel_rfl) fun xs B r h hB => by
  split at h
  · split at h
    · rename_i a x ha
      cases h
      cases hB
      exact (rname_ok x).leS fun m ys ⟨y, r, e, h1, h2⟩ => by
        letI : Fz := ⟨m, false⟩
        exact ⟨y, r, e, strV_rel ha h1, h2⟩
    · cases h
  · cases h
theorem rhas_ok (N : List ByteArray) (I : List (ByteArray × ByteArray)) (nm : ByteArray) : OCalls Tryd.prog 27 (rhas_a N I nm) (.s (.bool (inL nm N))) [] := OCalls.bnd fun hb => by
  have hL : N.length ≤ 9223372036854775807 := hb.1.1
  refine floyd ev_mix ev_ok noX_open noSO (by kernel_rfl) [] rhas_cf (fun i => N.length - i) (fun _ => 0) (rhas_v0 N I nm) (rhas_o0 N I nm) (fun i => i ≤ N.length ∧ ∀ k, k < i → N.getD k default ≠ nm) (rhas_t0 _ N I nm) (rhas_t _ N I nm) (rhas_h N I nm) (rhas_h0 N I nm) ?_ ?_
  · exact ⟨0, ⟨Nat.zero_le _, fun k hk => absurd hk (Nat.not_lt_zero k)⟩, rfl, rfl, rfl, (.cons _ _ _ _ (.refl _) (.cons _ _ _ _ (.refl _) (.cons _ _ _ _ (.vs _) .nil))), .cons _ _ _ _ (st_le N I _ _) .nil⟩
  · rintro i ⟨hi, hk⟩
    refine ⟨fun h => ?_, fun h => ?_⟩
    · have h : i < N.length := by simpa using h
      refine hT (idx_ok h) ⟨fun h2 => ?_, fun h2 => ?_⟩
      · rw [ba_eq, decide_eq_true_eq] at h2
        refine ⟨rfl, (.cons _ _ _ _ (by rw [show inL nm N = true from inL_iff.2 (h2 ▸ getD_mem h)]; exact .vs _) .nil), .nil⟩
      · rw [ba_eq, decide_eq_false_iff_not] at h2
        exact ⟨i + 1, ⟨by omega, upto_next hk h2⟩, rel_nat (by omega), rfl, rfl, rfl, (.cons _ _ _ _ (.refl _) (.cons _ _ _ _ (.refl _) (.cons _ _ _ _ (.ofEq (by rw [wrap_lt (by omega) (by omega)]; rfl)) .nil))), .cons _ _ _ _ (st_le N I _ _) .nil⟩
    · have h : i = N.length := by have : ¬ i < N.length := (by simpa using h); omega
      subst h
      refine ⟨rfl, (.cons _ _ _ _ (by rw [show inL nm N = false from inL_no.2 (fun hm => by obtain ⟨k, h1, h2⟩ := mem_getD hm; exact hk k h1 h2)]; exact .vs _) .nil), .nil⟩
def rhasX : SumBr := oX 27 fun
  | [v, a] => match stV v, strV a with
    | some ((f, n), (g, m)), some x => some (.leaf (.s (.bool (inL x (dL _ f n))), []))
    | _, _ => none
  | _ => none
theorem rhasX_ok : SumGO Tryd.prog (sumS rhasX) := oX_ok (by kernel_rfl) fun xs B r h hB => by
  split at h
  · split at h
    · rename_i v a f n g m x hv ha
      cases h
      cases hB
      exact (rhas_ok (dL _ f n) (dL _ g m) x).leS fun m ys ⟨y, r, e, h1, ⟨y2, r2, e2, h2, h3⟩⟩ => by
        letI : Fz := ⟨m, false⟩
        exact ⟨y, r, e, stV_rel rfl hv h1, y2, r2, e2, strV_rel ha h2, h3⟩
    · cases h
  · cases h
theorem rpair_ok (N : List ByteArray) (I : List (ByteArray × ByteArray)) (who to : ByteArray) : OCalls Tryd.prog 45 (rpair_a N I who to) (.s (.int .i64 (idxS I (who, to)))) [] := OCalls.bnd fun hb => by
  have hL : I.length ≤ 9223372036854775807 := hb.1.2.1
  refine floyd ev_mix ev_ok noX_open noSO (by kernel_rfl) [] rpair_cf (fun i => I.length - i) (fun _ => 0) (rpair_v0 N I who to) (rpair_o0 N I who to) (fun i => i ≤ I.length ∧ ∀ k, k < i → I.getD k default ≠ (who, to)) (rpair_t0 _ N I who to) (rpair_t _ N I who to) (rpair_h N I who to) (rpair_h0 N I who to) ?_ ?_
  · exact ⟨0, ⟨Nat.zero_le _, fun k hk => absurd hk (Nat.not_lt_zero k)⟩, rfl, rfl, rfl, (.cons _ _ _ _ (.refl _) (.cons _ _ _ _ (.refl _) (.cons _ _ _ _ (.refl _) (.cons _ _ _ _ (.vs _) .nil)))), .cons _ _ _ _ (st_le N I _ _) .nil⟩
  · rintro i ⟨hi, hk⟩
    refine ⟨fun h => ?_, fun h => ?_⟩
    · have h : i < I.length := by simpa using h
      have next : I.getD i default ≠ (who, to) → _ := fun hn => (⟨i + 1, ⟨by omega, upto_next hk hn⟩, rel_nat (by omega), rfl, rfl, rfl, (.cons _ _ _ _ (.refl _) (.cons _ _ _ _ (.refl _) (.cons _ _ _ _ (.refl _) (.cons _ _ _ _ (.ofEq (by rw [wrap_lt (by omega) (by omega)]; rfl)) .nil)))), .cons _ _ _ _ (st_le N I _ _) .nil⟩ : ∃ s', (s' ≤ I.length ∧ ∀ k, k < s' → I.getD k default ≠ (who, to)) ∧ WellFoundedRelation.rel (I.length - s') (I.length - i) ∧ 0 = 0 ∧ ((ct Tryd.prog 45 0).1, (ct Tryd.prog 45 0).2) = ct Tryd.prog 45 0 ∧ Goes ⟨.normal, true, [some (.s (.string who)), some (.s (.string to)), some (.ptr 65536 0 0), some (.s (.int .i64 (IntKind.i64.wrap ((i : Int) + 1))))], [.o (.cells [.fz (eL N) N.length [.str], .fz (eL I) I.length [.str, .str]] 2 0 true false)]⟩ (rpair_v0 N I who to s') (rpair_o0 N I who to s'))
      refine hT (idx_ok h) ⟨fun h2 => hT (idx_ok h) ⟨fun h3 => ?_, fun h3 => ?_⟩, fun h2 => ?_⟩
      · rw [ba_eq, decide_eq_true_eq] at h2 h3
        refine ⟨rfl, (.cons _ _ _ _ (.ofEq (by rw [idxS_hit (x := (who, to)) h (Prod.ext h2 h3) hk]; rfl)) .nil), .nil⟩
      · rw [ba_eq, decide_eq_false_iff_not] at h3
        exact next fun e => h3 (congrArg Prod.snd e)
      · rw [ba_eq, decide_eq_false_iff_not] at h2
        exact next fun e => h2 (congrArg Prod.fst e)
    · have h : i = I.length := by have : ¬ i < I.length := (by simpa using h); omega
      subst h
      refine ⟨rfl, (.cons _ _ _ _ (by rw [idxS_none hk]; exact .vs _) .nil), .nil⟩
def rpairX : SumBr := oX 45 fun
  | [v, a, b] => match stV v, strV a, strV b with
    | some ((f, n), (g, m)), some x, some y => some (.leaf (.s (.int .i64 (idxS (dL _ g m) (x, y))), []))
    | _, _, _ => none
  | _ => none
theorem rpairX_ok : SumGO Tryd.prog (sumS rpairX) := oX_ok (by kernel_rfl) fun xs B r h hB => by
  split at h
  · split at h
    · rename_i v a b f n g m x y hv ha hb
      cases h
      cases hB
      exact (rpair_ok (dL _ f n) (dL _ g m) x y).leS fun m ys ⟨y, r, e, h1, ⟨y2, r2, e2, h2, ⟨y3, r3, e3, h3, h4⟩⟩⟩ => by
        letI : Fz := ⟨m, false⟩
        exact ⟨y, r, e, stV_rel rfl hv h1, y2, r2, e2, strV_rel ha h2, y3, r3, e3, strV_rel hb h3, h4⟩
    · cases h
  · cases h
def teX : SumBr := orX rnameX (orX rhasX rpairX)
theorem teX_ok : SumGO Tryd.prog (sumS teX) := orX_open rnameX_ok (orX_open rhasX_ok rpairX_ok)
end Go.Proofs.YtffcaapbmkaceaaDoor
end
section
namespace Go.Proofs.YtffcaapbmkaceaaDoor
open Ev Go.RowKit
set_option maxRecDepth 100000
set_option linter.unusedVariables false
def rmay_cf : Nat → Cfg := cfL [mkC 112 [1, 3] [(1, [])], mkC 112 [1, 3, 4] [(1, [])], mkC 112 [1, 5] [(1, [])], mkC 112 [1, 5, 6] [(1, [])]]
def rmay_a (N : List ByteArray) (I : List (ByteArray × ByteArray)) : List AV := [stA N I]
noncomputable def rmay_t (P : Program) (N : List ByteArray) (I : List (ByteArray × ByteArray)) : Br PO :=
(.test (decide ((↑N.length : Int) < 1))
  (.leaf (.fin ⟨Ex.ret, true, [some (AV.v (Value.bool false))], []⟩))
  (.test (decide ((↑N.length : Int) > 16))
    (.leaf (.fin ⟨Ex.ret, true, [some (AV.v (Value.bool false))], []⟩))
    (.test (decide (0 ≤ 0) && decide (0 < (↑N.length : Int)))
      (.test (!(N.getD (Int.toNat 0) default).toList == (⟨#[114, 111, 111, 116]⟩ : ByteArray).toList)
        (.leaf (.fin ⟨Ex.ret, true, [some (AV.v (Value.bool false))], []⟩))
        (.leaf (.at 0 (ct P 26 0).1 (ct P 26 0).2 ⟨Ex.normal, true, [some (AV.ptr 65536 0 0), some (AV.v (Value.int IntKind.i64 (0)))], [OS.o (AO.cells [AV.fz (eL N) N.length [TK.str], AV.fz (eL I) I.length [TK.str, TK.str]] 2 65536 true false)]⟩))
      )
      .no
    )
  )
)
theorem rmay_h (N : List ByteArray) (I : List (ByteArray × ByteArray)) : (ev Tryd.prog teX noS 3000 noL 3000 .normal [.c 0 (codeOf Tryd.prog 26)] (params (rmay_a N I)) Ev.start).map (lookP Tryd.prog (resOf Tryd.prog 26) [] rmay_cf) = rmay_t Tryd.prog N I := by kernel_rfl
def rmay_v0 (N : List ByteArray) (I : List (ByteArray × ByteArray)) (i : Nat) : List AV := [.ptr 65536 0 0, .s (.int .i64 i)]
def rmay_o0 (N : List ByteArray) (I : List (ByteArray × ByteArray)) (i : Nat) : List AO := [stO N I]
noncomputable def rmay_t0 (P : Program) (N : List ByteArray) (I : List (ByteArray × ByteArray)) (i : Nat) : Br PO :=
(.test (decide ((↑i : Int) < (↑N.length : Int)))
  (.test (decide (0 ≤ (↑i : Int)) && decide ((↑i : Int) < (↑N.length : Int)))
    (.test (!nameP (N.getD (↑i : Int).toNat default))
      (.leaf (.fin ⟨Ex.ret, true, [some (AV.v (Value.bool false))], []⟩))
      (.leaf (.at 1 (ct P 26 1).1 (ct P 26 1).2 ⟨Ex.normal, true, [some (AV.ptr 65536 0 0), some (AV.s (Value.int IntKind.i64 (Int.ofNat i))), some (AV.v (Value.int IntKind.i64 (0)))], [OS.o (AO.cells [AV.fz (eL N) N.length [TK.str], AV.fz (eL I) I.length [TK.str, TK.str]] 2 0 true false)]⟩))
    )
    .no
  )
  (.leaf (.at 2 (ct P 26 2).1 (ct P 26 2).2 ⟨Ex.normal, true, [some (AV.ptr 65536 0 0), some (AV.v (Value.int IntKind.i64 (0)))], [OS.o (AO.cells [AV.fz (eL N) N.length [TK.str], AV.fz (eL I) I.length [TK.str, TK.str]] 2 0 true false)]⟩))
)
theorem rmay_h0 (N : List ByteArray) (I : List (ByteArray × ByteArray)) (i : Nat) (j : Nat → Value) : (ev Tryd.prog teX noS 3000 noL 3000 .normal (hd Tryd.prog 26 0) (mkE (rmay_cf 0) (rmay_v0 N I i) j) (mkH openB (rmay_o0 N I i))).map (lookP Tryd.prog (resOf Tryd.prog 26) [] rmay_cf) = rmay_t0 Tryd.prog N I i := by kernel_rfl
def rmay_v1 (N : List ByteArray) (I : List (ByteArray × ByteArray)) (i k : Nat) : List AV := [.ptr 65536 0 0, .s (.int .i64 i), .s (.int .i64 k)]
def rmay_o1 (N : List ByteArray) (I : List (ByteArray × ByteArray)) (i k : Nat) : List AO := [stO N I]
noncomputable def rmay_t1 (P : Program) (N : List ByteArray) (I : List (ByteArray × ByteArray)) (i k : Nat) : Br PO :=
(.test (decide ((↑k : Int) < (↑i : Int)))
  (.test (decide (0 ≤ (↑k : Int)) && decide ((↑k : Int) < (↑N.length : Int)))
    (.test (decide (0 ≤ (↑i : Int)) && decide ((↑i : Int) < (↑N.length : Int)))
      (.test ((N.getD (↑k : Int).toNat default).toList == (N.getD (↑i : Int).toNat default).toList)
        (.leaf (.fin ⟨Ex.ret, true, [some (AV.v (Value.bool false))], []⟩))
        (.leaf (.at 1 (ct P 26 1).1 (ct P 26 1).2 ⟨Ex.normal, true, [some (AV.ptr 65536 0 0), some (AV.s (Value.int IntKind.i64 (Int.ofNat i))), some (AV.s (Value.int IntKind.i64 (IntKind.i64.wrap ((↑k : Int) + 1))))], [OS.o (AO.cells [AV.fz (eL N) N.length [TK.str], AV.fz (eL I) I.length [TK.str, TK.str]] 2 0 true false)]⟩))
      )
      .no
    )
    .no
  )
  (.leaf (.at 0 (ct P 26 0).1 (ct P 26 0).2 ⟨Ex.normal, true, [some (AV.ptr 65536 0 0), some (AV.s (Value.int IntKind.i64 (IntKind.i64.wrap ((↑i : Int) + 1))))], [OS.o (AO.cells [AV.fz (eL N) N.length [TK.str], AV.fz (eL I) I.length [TK.str, TK.str]] 2 0 true false)]⟩))
)
theorem rmay_h1 (N : List ByteArray) (I : List (ByteArray × ByteArray)) (i k : Nat) (j : Nat → Value) : (ev Tryd.prog teX noS 3000 noL 3000 .normal (hd Tryd.prog 26 1) (mkE (rmay_cf 1) (rmay_v1 N I i k) j) (mkH openB (rmay_o1 N I i k))).map (lookP Tryd.prog (resOf Tryd.prog 26) [] rmay_cf) = rmay_t1 Tryd.prog N I i k := by kernel_rfl
def rmay_v2 (N : List ByteArray) (I : List (ByteArray × ByteArray)) (i : Nat) : List AV := [.ptr 65536 0 0, .s (.int .i64 i)]
def rmay_o2 (N : List ByteArray) (I : List (ByteArray × ByteArray)) (i : Nat) : List AO := [stO N I]
noncomputable def rmay_t2 (P : Program) (N : List ByteArray) (I : List (ByteArray × ByteArray)) (i : Nat) : Br PO :=
(.test (decide ((↑i : Int) < (↑I.length : Int)))
  (.test (decide (0 ≤ (↑i : Int)) && decide ((↑i : Int) < (↑I.length : Int)))
    (.test (decide (0 ≤ (↑i : Int)) && decide ((↑i : Int) < (↑I.length : Int)))
      (.test ((I.getD (↑i : Int).toNat default).fst.toList == (I.getD (↑i : Int).toNat default).snd.toList)
        (.leaf (.fin ⟨Ex.ret, true, [some (AV.v (Value.bool false))], []⟩))
        (.test (decide (0 ≤ (↑i : Int)) && decide ((↑i : Int) < (↑I.length : Int)))
          (.test (!inL (I.getD (↑i : Int).toNat default).fst (dL ByteArray (eL N) N.length))
            (.leaf (.fin ⟨Ex.ret, true, [some (AV.v (Value.bool false))], []⟩))
            (.test (decide (0 ≤ (↑i : Int)) && decide ((↑i : Int) < (↑I.length : Int)))
              (.test (!inL (I.getD (↑i : Int).toNat default).snd (dL ByteArray (eL N) N.length))
                (.leaf (.fin ⟨Ex.ret, true, [some (AV.v (Value.bool false))], []⟩))
                (.leaf (.at 3 (ct P 26 3).1 (ct P 26 3).2 ⟨Ex.normal, true, [some (AV.ptr 65536 0 0), some (AV.s (Value.int IntKind.i64 (Int.ofNat i))), some (AV.v (Value.int IntKind.i64 (0)))], [OS.o (AO.cells [AV.fz (eL N) N.length [TK.str], AV.fz (eL I) I.length [TK.str, TK.str]] 2 0 true false)]⟩))
              )
              .no
            )
          )
          .no
        )
      )
      .no
    )
    .no
  )
  (.leaf (.fin ⟨Ex.ret, true, [some (AV.v (Value.bool true))], []⟩))
)
theorem rmay_h2 (N : List ByteArray) (I : List (ByteArray × ByteArray)) (i : Nat) (j : Nat → Value) : (ev Tryd.prog teX noS 3000 noL 3000 .normal (hd Tryd.prog 26 2) (mkE (rmay_cf 2) (rmay_v2 N I i) j) (mkH openB (rmay_o2 N I i))).map (lookP Tryd.prog (resOf Tryd.prog 26) [] rmay_cf) = rmay_t2 Tryd.prog N I i := by kernel_rfl
def rmay_v3 (N : List ByteArray) (I : List (ByteArray × ByteArray)) (i k : Nat) : List AV := [.ptr 65536 0 0, .s (.int .i64 i), .s (.int .i64 k)]
def rmay_o3 (N : List ByteArray) (I : List (ByteArray × ByteArray)) (i k : Nat) : List AO := [stO N I]
noncomputable def rmay_t3 (P : Program) (N : List ByteArray) (I : List (ByteArray × ByteArray)) (i k : Nat) : Br PO :=
(.test (decide ((↑k : Int) < (↑i : Int)))
  (.test (decide (0 ≤ (↑k : Int)) && decide ((↑k : Int) < (↑I.length : Int)))
    (.test (decide (0 ≤ (↑i : Int)) && decide ((↑i : Int) < (↑I.length : Int)))
      (.test ((I.getD (↑k : Int).toNat default).fst.toList == (I.getD (↑i : Int).toNat default).fst.toList && ((I.getD (↑k : Int).toNat default).snd.toList == (I.getD (↑i : Int).toNat default).snd.toList && true))
        (.leaf (.fin ⟨Ex.ret, true, [some (AV.v (Value.bool false))], []⟩))
        (.leaf (.at 3 (ct P 26 3).1 (ct P 26 3).2 ⟨Ex.normal, true, [some (AV.ptr 65536 0 0), some (AV.s (Value.int IntKind.i64 (Int.ofNat i))), some (AV.s (Value.int IntKind.i64 (IntKind.i64.wrap ((↑k : Int) + 1))))], [OS.o (AO.cells [AV.fz (eL N) N.length [TK.str], AV.fz (eL I) I.length [TK.str, TK.str]] 2 0 true false)]⟩))
      )
      .no
    )
    .no
  )
  (.leaf (.at 2 (ct P 26 2).1 (ct P 26 2).2 ⟨Ex.normal, true, [some (AV.ptr 65536 0 0), some (AV.s (Value.int IntKind.i64 (IntKind.i64.wrap ((↑i : Int) + 1))))], [OS.o (AO.cells [AV.fz (eL N) N.length [TK.str], AV.fz (eL I) I.length [TK.str, TK.str]] 2 0 true false)]⟩))
)
theorem rmay_h3 (N : List ByteArray) (I : List (ByteArray × ByteArray)) (i k : Nat) (j : Nat → Value) : (ev Tryd.prog teX noS 3000 noL 3000 .normal (hd Tryd.prog 26 3) (mkE (rmay_cf 3) (rmay_v3 N I i k) j) (mkH openB (rmay_o3 N I i k))).map (lookP Tryd.prog (resOf Tryd.prog 26) [] rmay_cf) = rmay_t3 Tryd.prog N I i k := by kernel_rfl

inductive MyS where
  | a (i : Nat)
  | b (i k : Nat)
  | c (i : Nat)
  | d (i k : Nat)
def MyS.pc : MyS → Nat
  | .a _ => 0
  | .b _ _ => 1
  | .c _ => 2
  | .d _ _ => 3
def MyV (N : List ByteArray) (I : List (ByteArray × ByteArray)) : MyS → List AV
  | .a i => rmay_v0 N I i
  | .b i k => rmay_v1 N I i k
  | .c i => rmay_v2 N I i
  | .d i k => rmay_v3 N I i k
def MyO (N : List ByteArray) (I : List (ByteArray × ByteArray)) : MyS → List AO
  | .a i => rmay_o0 N I i
  | .b i k => rmay_o1 N I i k
  | .c i => rmay_o2 N I i
  | .d i k => rmay_o3 N I i k
noncomputable def MyT (P : Program) (N : List ByteArray) (I : List (ByteArray × ByteArray)) : MyS → Br PO
  | .a i => rmay_t0 P N I i
  | .b i k => rmay_t1 P N I i k
  | .c i => rmay_t2 P N I i
  | .d i k => rmay_t3 P N I i k
def MyM (n m : Nat) : MyS → Nat × Nat
  | .a i => (2 * (n - i) + 2 * m + 6, 0)
  | .b i k => (2 * (n - i) + 2 * m + 5, i - k)
  | .c i => (2 * (m - i) + 1, 0)
  | .d i k => (2 * (m - i), i - k)
structure MyB (N : List ByteArray) : Prop where
  l : 1 ≤ N.length
  u : N.length ≤ 16
  r : N.getD 0 default = rootB
def prOk (N : List ByteArray) (p : ByteArray × ByteArray) : Prop := p.1 ≠ p.2 ∧ p.1 ∈ N ∧ p.2 ∈ N
def MyJ (N : List ByteArray) (I : List (ByteArray × ByteArray)) : MyS → Prop
  | .a i => MyB N ∧ i ≤ N.length ∧ (∀ k, k < i → nameP (N.getD k default) = true) ∧ (N.take i).Nodup
  | .b i k => MyB N ∧ i < N.length ∧ (∀ k, k < i + 1 → nameP (N.getD k default) = true) ∧ (N.take i).Nodup ∧ k ≤ i ∧ ∀ q, q < k → N.getD q default ≠ N.getD i default
  | .c i => MyB N ∧ (∀ x ∈ N, nameP x = true) ∧ N.Nodup ∧ i ≤ I.length ∧ (∀ k, k < i → prOk N (I.getD k default)) ∧ (I.take i).Nodup
  | .d i k => MyB N ∧ (∀ x ∈ N, nameP x = true) ∧ N.Nodup ∧ i < I.length ∧ (∀ k, k < i + 1 → prOk N (I.getD k default)) ∧ (I.take i).Nodup ∧ k ≤ i ∧ ∀ q, q < k → I.getD q default ≠ I.getD i default
theorem mem_take {α : Type} [Inhabited α] {L : List α} {i : Nat} {x : α} (hi : i ≤ L.length) (h : x ∈ L.take i) : ∃ q, q < i ∧ L.getD q default = x := by
  obtain ⟨q, hq, rfl⟩ := List.getElem_of_mem h
  have : q < i := by simp at hq; omega
  refine ⟨q, this, ?_⟩
  rw [List.getElem_take]
  simp [List.getD_eq_getElem?_getD, show q < L.length by omega]
theorem take_mem {α : Type} [Inhabited α] {L : List α} {i q : Nat} (hi : i ≤ L.length) (h : q < i) : L.getD q default ∈ L.take i := by
  have e : (L.take i)[q]'(by simp; omega) = L.getD q default := by
    rw [List.getElem_take]; simp [List.getD_eq_getElem?_getD, show q < L.length by omega]
  rw [← e]; exact List.getElem_mem _
theorem rmay_ok (N : List ByteArray) (I : List (ByteArray × ByteArray)) : OCalls Tryd.prog 26 (rmay_a N I) (.s (.bool (mayP N I))) [] := OCalls.bnd fun hb => by
  have hLI : I.length ≤ 9223372036854775807 := hb.1.2.1
  have no : (mayP N I = true → False) → Goes ⟨.ret, true, [some (.v (.bool false))], []⟩ [.s (.bool (mayP N I))] [] := fun h => ⟨rfl, (.cons _ _ _ _ (by rw [show mayP N I = false from by cases hx : mayP N I with | false => rfl | true => exact (h hx).elim]; exact .vs _) .nil), .nil⟩
  refine floyd ev_mix ev_ok teX_ok noSO (by kernel_rfl) [] rmay_cf (MyM N.length I.length) MyS.pc (MyV N I) (MyO N I) (MyJ N I) (MyT _ N I) (rmay_t _ N I) (rmay_h N I) (fun s j => by cases s; exact rmay_h0 N I _ j; exact rmay_h1 N I _ _ j; exact rmay_h2 N I _ j; exact rmay_h3 N I _ _ j) ?_ ?_
  · refine hSd (fun h => no fun hm => ?_) fun h => hSd (fun h2 => no fun hm => ?_) fun h2 => hT (by simp; omega) (hSbn (fun h3 => no fun hm => ?_) fun h3 => ?_)
    · have := (mayP_get hm).1; omega
    · have := (mayP_get hm).1; omega
    · exact h3 (mayP_get hm).2.1
    · exact ⟨.a 0, ⟨⟨by omega, by omega, h3⟩, Nat.zero_le _, fun k hk => absurd hk (Nat.not_lt_zero k), by simp⟩, rfl, rfl, rfl, (.cons _ _ _ _ (.refl _) (.cons _ _ _ _ (.vs _) .nil)), .cons _ _ _ _ (st_le N I _ _) .nil⟩
  · intro s hs
    cases s with
    | a i =>
      obtain ⟨hB, hi, hn, hd⟩ := hs
      have hu := hB.u
      refine hSd (fun h => ?_) fun h => ?_
      · have h : i < N.length := by omega
        refine hSi h ⟨fun h2 => no fun hm => ?_, fun h2 => ?_⟩
        · rw [Bool.not_eq_true'] at h2
          have := (mayP_get hm).2.2.2.2.1 _ (getD_mem h)
          exact absurd (this.symm.trans h2) (by simp)
        · rw [Bool.not_eq_false'] at h2
          exact ⟨.b i 0, ⟨hB, h, upto_next hn h2, hd, Nat.zero_le _, fun q hq => absurd hq (Nat.not_lt_zero q)⟩, rel_l (by omega), rfl, rfl, rfl, (.cons _ _ _ _ (.refl _) (.cons _ _ _ _ (.refl _) (.cons _ _ _ _ (.vs _) .nil))), .cons _ _ _ _ (st_le N I _ _) .nil⟩
      · have h : i = N.length := by omega
        subst h
        refine ⟨.c 0, ⟨hB, fun x hx => ?_, by simpa using hd, Nat.zero_le _, fun k hk => absurd hk (Nat.not_lt_zero k), by simp⟩, rel_l (by omega), rfl, rfl, rfl, (.cons _ _ _ _ (.refl _) (.cons _ _ _ _ (.vs _) .nil)), .cons _ _ _ _ (st_le N I _ _) .nil⟩
        obtain ⟨k, hk, rfl⟩ := mem_getD hx
        exact hn k hk
    | b i k =>
      obtain ⟨hB, hi, hn, hd, hk, hq⟩ := hs
      have hu := hB.u
      refine hSd (fun h => ?_) fun h => ?_
      · have h : k < i := by omega
        refine hSi (show k < N.length by omega) (hSi hi (hSb (fun h2 => no fun hm => ?_) fun h2 => ?_))
        · exact nodup_hit hi (by rw [← show N.getD k default = N.getD i default from h2]; exact take_mem (by omega) h) (mayP_get hm).2.2.1
        · exact ⟨.b i (k + 1), ⟨hB, hi, hn, hd, by omega, upto_next hq h2⟩, rel_r (by omega), rfl, rfl, rfl, (.cons _ _ _ _ (.refl _) (.cons _ _ _ _ (.refl _) (.cons _ _ _ _ (.ofEq (by rw [wrap_lt (by omega) (by omega)]; rfl)) .nil))), .cons _ _ _ _ (st_le N I _ _) .nil⟩
      · have h : k = i := by omega
        subst h
        refine ⟨.a (k + 1), ⟨hB, by omega, hn, nodup_next hi hd fun hm => ?_⟩, rel_l (by omega), rfl, rfl, rfl, (.cons _ _ _ _ (.refl _) (.cons _ _ _ _ (.ofEq (by rw [wrap_lt (by omega) (by omega)]; rfl)) .nil)), .cons _ _ _ _ (st_le N I _ _) .nil⟩
        obtain ⟨q, h1, h2⟩ := mem_take (by omega) hm
        exact hq q h1 h2
    | c i =>
      obtain ⟨hB, hnm, hnd, hi, hp, hd⟩ := hs
      refine hSd (fun h => ?_) fun h => ?_
      · have h : i < I.length := by omega
        have get : mayP N I = true → prOk N (I.getD i default) := fun hm => (mayP_get hm).2.2.2.2.2 _ (getD_mem h)
        refine hSi h (hSi h (hSb (fun h2 => no fun hm => (get hm).1 h2) fun h2 => hSi h ⟨fun h3 => no fun hm => ?_, fun h3 => hSi h ⟨fun h4 => no fun hm => ?_, fun h4 => ?_⟩⟩))
        · rw [dL_eL, Bool.not_eq_true', inL_no] at h3
          exact h3 (get hm).2.1
        · rw [dL_eL, Bool.not_eq_true', inL_no] at h4
          exact h4 (get hm).2.2
        · rw [dL_eL, Bool.not_eq_false', inL_iff] at h3 h4
          exact ⟨.d i 0, ⟨hB, hnm, hnd, h, upto_next hp ⟨h2, h3, h4⟩, hd, Nat.zero_le _, fun q hq => absurd hq (Nat.not_lt_zero q)⟩, rel_l (by omega), rfl, rfl, rfl, (.cons _ _ _ _ (.refl _) (.cons _ _ _ _ (.refl _) (.cons _ _ _ _ (.vs _) .nil))), .cons _ _ _ _ (st_le N I _ _) .nil⟩
      · have h : i = I.length := by omega
        subst h
        have hM : mayP N I = true := mayP_mk ⟨⟨hB.l, hB.u⟩, hB.r, hnd, by simpa using hd, hnm, fun p hx => by obtain ⟨k, hk, rfl⟩ := mem_getD hx; exact hp k hk⟩
        exact ⟨rfl, (.cons _ _ _ _ (by rw [hM]; exact .vs _) .nil), .nil⟩
    | d i k =>
      obtain ⟨hB, hnm, hnd, hi, hp, hd, hk, hq⟩ := hs
      refine hSd (fun h => ?_) fun h => ?_
      · have h : k < i := by omega
        refine hSi (show k < I.length by omega) (hSi hi ⟨fun h2 => no fun hm => ?_, fun h2 => ?_⟩)
        · rw [ba_eq3, decide_eq_true_eq] at h2
          exact nodup_hit hi (by rw [← show I.getD k default = I.getD i default from h2]; exact take_mem (by omega) h) (mayP_get hm).2.2.2.1
        · rw [ba_eq3, decide_eq_false_iff_not] at h2
          exact ⟨.d i (k + 1), ⟨hB, hnm, hnd, hi, hp, hd, by omega, upto_next hq h2⟩, rel_r (by omega), rfl, rfl, rfl, (.cons _ _ _ _ (.refl _) (.cons _ _ _ _ (.refl _) (.cons _ _ _ _ (.ofEq (by rw [wrap_lt (by omega) (by omega)]; rfl)) .nil))), .cons _ _ _ _ (st_le N I _ _) .nil⟩
      · have h : k = i := by omega
        subst h
        refine ⟨.c (k + 1), ⟨hB, hnm, hnd, by omega, hp, nodup_next hi hd fun hm => ?_⟩, rel_l (by omega), rfl, rfl, rfl, (.cons _ _ _ _ (.refl _) (.cons _ _ _ _ (.ofEq (by rw [wrap_lt (by omega) (by omega)]; rfl)) .nil)), .cons _ _ _ _ (st_le N I _ _) .nil⟩
        obtain ⟨q, h1, h2⟩ := mem_take (by omega) hm
        exact hq q h1 h2
def rmayX : SumBr := oX 26 fun
  | [v] => match stV v with
    | some ((f, n), (g, m)) => some (.leaf (.s (.bool (mayP (dL _ f n) (dL _ g m))), []))
    | _ => none
  | _ => none
theorem rmayX_ok : SumGO Tryd.prog (sumS rmayX) := oX_ok (by kernel_rfl) fun xs B r h hB => by
  split at h
  · split at h
    · rename_i v f n g m hv
      cases h
      cases hB
      exact (rmay_ok (dL _ f n) (dL _ g m)).leS fun m ys ⟨y, r, e, h1, h2⟩ => by
        letI : Fz := ⟨m, false⟩
        exact ⟨y, r, e, stV_rel rfl hv h1, h2⟩
    · cases h
  · cases h
end Go.Proofs.YtffcaapbmkaceaaDoor
end
