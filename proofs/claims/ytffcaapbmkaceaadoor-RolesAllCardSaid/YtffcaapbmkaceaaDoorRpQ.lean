/- The statement RolesAll, walked. No condition. -/
import Derived.Test.YtffcaapbmkaceaaDoorRpR
namespace Go.Proofs.YtffcaapbmkaceaaDoor
open Ev Go.RowKit
set_option maxRecDepth 100000
set_option linter.unusedVariables false
def ral_cf : Nat → Cfg := cfL [mkC 90 [1, 2, 3, 7, 8] [(3, []), (7, [])]]
def ral_a (N : List ByteArray) (I : List (ByteArray × ByteArray)) (who nm : ByteArray) : List AV := [stA N I, .s (.string who), .s (.string nm)]
noncomputable def ral_t (P : Program) (N : List ByteArray) (I : List (ByteArray × ByteArray)) (who nm : ByteArray) : Br PO :=
(.test (longP (dL ByteArray (eL N) N.length) (dL (ByteArray × ByteArray) (eL I) I.length))
  (.leaf (.fin ⟨Ex.ret, true, [some (AV.s (Value.bool true))], []⟩))
  (.test (decide ((↑who.size : Int) > 200))
    (.leaf (.fin ⟨Ex.ret, true, [some (AV.s (Value.bool true))], []⟩))
    (.test (decide ((↑nm.size : Int) > 200))
      (.leaf (.fin ⟨Ex.ret, true, [some (AV.s (Value.bool true))], []⟩))
      (.test (false)
        (.leaf (.fin ⟨Ex.ret, true, [some (AV.s (Value.bool true))], []⟩))
        (.test (!mayP (dL ByteArray (eL N) N.length) (dL (ByteArray × ByteArray) (eL I) I.length))
          (.leaf (.fin ⟨Ex.ret, true, [some (AV.v (Value.bool true))], []⟩))
          (.leaf (.at 0 (ct P 5 0).1 (ct P 5 0).2 ⟨Ex.normal, true, [some (AV.s (Value.string who)), some (AV.s (Value.string nm)), some (AV.ptr 65536 0 0), some (AV.v (Value.slice none 0 0)), some (AV.v (Value.int IntKind.i64 (0)))], [OS.o (AO.cells [AV.fz (eL N) N.length [TK.str], AV.fz (eL I) I.length [TK.str, TK.str]] 2 65536 true false), OS.nil]⟩))
        )
      )
    )
  )
)
theorem ral_h (N : List ByteArray) (I : List (ByteArray × ByteArray)) (who nm : ByteArray) : (ev Tryd.prog roX2 awakeS 3000 noL 3000 .normal [.c 0 (codeOf Tryd.prog 5)] (params (ral_a N I who nm)) Ev.start).map (lookP Tryd.prog (resOf Tryd.prog 5) [] ral_cf) = ral_t Tryd.prog N I who nm := by kernel_rfl
def ral_v0 (N : List ByteArray) (I : List (ByteArray × ByteArray)) (who nm : ByteArray) (A : List ByteArray) (i : Nat) : List AV := [.s (.string who), .s (.string nm), .ptr 65536 0 0, .osl 65537 A.length, .s (.int .i64 i)]
def ral_o0 (N : List ByteArray) (I : List (ByteArray × ByteArray)) (who nm : ByteArray) (A : List ByteArray) (i : Nat) : List AO := [stO N I, .rows (eL A) A.length [.str]]
noncomputable def ral_t0 (P : Program) (N : List ByteArray) (I : List (ByteArray × ByteArray)) (who nm : ByteArray) (A : List ByteArray) (i : Nat) : Br PO :=
(.test (decide ((↑i : Int) < (↑N.length : Int)))
  (.test (decide (0 ≤ (↑i : Int)) && decide ((↑i : Int) < (↑N.length : Int)))
    (.test (N.length.ble 1000000)
      (.test (isP (dL ByteArray (eL N) N.length) (dL (ByteArray × ByteArray) (eL I) I.length) who (N.getD (↑i : Int).toNat default))
        (.test (decide (0 ≤ (↑i : Int)) && decide ((↑i : Int) < (↑N.length : Int)))
          (.test (A.length.beq A.length && (true && (small (1 + A.length) && small (Tryd.prog.types[9].bytes * (1 + A.length)))))
            (.leaf (.at 0 (ct P 5 0).1 (ct P 5 0).2 ⟨Ex.normal, true, [some (AV.s (Value.string who)), some (AV.s (Value.string nm)), some (AV.ptr 65536 0 0), some (AV.osl 65537 (A.length + 1)), some (AV.s (Value.int IntKind.i64 (IntKind.i64.wrap ((↑i : Int) + 1))))], [OS.o (AO.cells [AV.fz (eL N) N.length [TK.str], AV.fz (eL I) I.length [TK.str, TK.str]] 2 0 true false), OS.o (AO.rows (catD (eL A) A.length (listD [D.v (Value.string (N.getD (↑i : Int).toNat default))] [TK.str].length)) (A.length + 1) [TK.str])]⟩))
            .no
          )
          .no
        )
        (.leaf (.at 0 (ct P 5 0).1 (ct P 5 0).2 ⟨Ex.normal, true, [some (AV.s (Value.string who)), some (AV.s (Value.string nm)), some (AV.ptr 65536 0 0), some (AV.osl 65537 A.length), some (AV.s (Value.int IntKind.i64 (IntKind.i64.wrap ((↑i : Int) + 1))))], [OS.o (AO.cells [AV.fz (eL N) N.length [TK.str], AV.fz (eL I) I.length [TK.str, TK.str]] 2 0 true false), OS.o (AO.rows (eL A) A.length [TK.str])]⟩))
      )
      .no
    )
    .no
  )
  (.test (N.length.ble 1000000)
    (.test ((allP (dL ByteArray (eL N) N.length) (dL (ByteArray × ByteArray) (eL I) I.length) who).length.ble (allP (dL ByteArray (eL N) N.length) (dL (ByteArray × ByteArray) (eL I) I.length) who).length)
      (.test (A.length.ble A.length)
        (.test (!decide (dL ByteArray (eL (allP (dL ByteArray (eL N) N.length) (dL (ByteArray × ByteArray) (eL I) I.length) who)) (allP (dL ByteArray (eL N) N.length) (dL (ByteArray × ByteArray) (eL I) I.length) who).length = dL ByteArray (eL A) A.length))
          (.leaf (.fin ⟨Ex.ret, true, [some (AV.v (Value.bool false))], []⟩))
          (.test (!nameP nm)
            (.leaf (.fin ⟨Ex.ret, true, [some (AV.v (Value.bool true))], []⟩))
            (.test (!mayP (dL ByteArray (eL N) N.length) (dL (ByteArray × ByteArray) (eL I) I.length))
              (.leaf (.fin ⟨Ex.ret, true, [some (AV.v (Value.bool true))], []⟩))
              (.test (decide (idxS (dL ByteArray (eL N) N.length) nm ≥ 0))
                (.leaf (.fin ⟨Ex.ret, true, [some (AV.v (Value.bool true))], []⟩))
                (.test ((↑N.length : Int) == 16)
                  (.leaf (.fin ⟨Ex.ret, true, [some (AV.v (Value.bool true))], []⟩))
                  (.test (N.length.ble 1000000)
                    (.test (N.length.beq N.length && (true && (small (1 + N.length) && small (Tryd.prog.types[9].bytes * (1 + N.length)))))
                      (.test (I.length.ble 1000000)
                        (.test ((N.length + 1).ble (N.length + 1))
                          (.test (I.length.ble I.length)
                            (.test ((N.length + 1).ble 1000000)
                              (.test ((allP (dL ByteArray (catD (eL N) N.length (listD [D.v (Value.string nm)] [TK.str].length)) (N.length + 1)) (dL (ByteArray × ByteArray) (eL I) I.length) nm).length.ble (allP (dL ByteArray (catD (eL N) N.length (listD [D.v (Value.string nm)] [TK.str].length)) (N.length + 1)) (dL (ByteArray × ByteArray) (eL I) I.length) nm).length)
                                (.test (decide   (dL ByteArray (eL (allP (dL ByteArray (catD (eL N) N.length (listD [D.v (Value.string nm)] [TK.str].length)) (N.length + 1)) (dL (ByteArray × ByteArray) (eL I) I.length) nm)) (allP (dL ByteArray (catD (eL N) N.length (listD [D.v (Value.string nm)] [TK.str].length)) (N.length + 1)) (dL (ByteArray × ByteArray) (eL I) I.length) nm).length =     dL ByteArray (listD [D.v (Value.string nm)] [TK.str].length) 1))
                                  (.test (who.toList == nm.toList)
                                    (.test ((N.length + 1).ble (N.length + 1))
                                      (.test (I.length.ble I.length)
                                        (.leaf (.fin ⟨Ex.ret, true, [some (AV.s (Value.bool (mayP (dL ByteArray (catD (eL N) N.length (listD [D.v (Value.string nm)] [TK.str].length)) (N.length + 1)) (dL (ByteArray × ByteArray) (eL I) I.length))))], []⟩))
                                        .no
                                      )
                                      .no
                                    )
                                    (.test ((N.length + 1).ble (N.length + 1))
                                      (.test (I.length.ble I.length)
                                        (.test ((N.length + 1).ble 1000000)
                                          (.test ((allP (dL ByteArray (catD (eL N) N.length (listD [D.v (Value.string nm)] [TK.str].length)) (N.length + 1)) (dL (ByteArray × ByteArray) (eL I) I.length) who).length.ble (allP (dL ByteArray (catD (eL N) N.length (listD [D.v (Value.string nm)] [TK.str].length)) (N.length + 1)) (dL (ByteArray × ByteArray) (eL I) I.length) who).length)
                                            (.test (A.length.ble A.length)
                                              (.test (decide (dL ByteArray (eL (allP (dL ByteArray (catD (eL N) N.length (listD [D.v (Value.string nm)] [TK.str].length)) (N.length + 1)) (dL (ByteArray × ByteArray) (eL I) I.length) who)) (allP (dL ByteArray (catD (eL N) N.length (listD [D.v (Value.string nm)] [TK.str].length)) (N.length + 1)) (dL (ByteArray × ByteArray) (eL I) I.length) who).length = dL ByteArray (eL A) A.length))
                                                (.test ((N.length + 1).ble (N.length + 1))
                                                  (.test (I.length.ble I.length)
                                                    (.leaf (.fin ⟨Ex.ret, true, [some (AV.s (Value.bool (mayP (dL ByteArray (catD (eL N) N.length (listD [D.v (Value.string nm)] [TK.str].length)) (N.length + 1)) (dL (ByteArray × ByteArray) (eL I) I.length))))], []⟩))
                                                    .no
                                                  )
                                                  .no
                                                )
                                                (.leaf (.fin ⟨Ex.ret, true, [some (AV.v (Value.bool false))], []⟩))
                                              )
                                              .no
                                            )
                                            .no
                                          )
                                          .no
                                        )
                                        .no
                                      )
                                      .no
                                    )
                                  )
                                  (.leaf (.fin ⟨Ex.ret, true, [some (AV.v (Value.bool false))], []⟩))
                                )
                                .no
                              )
                              .no
                            )
                            .no
                          )
                          .no
                        )
                        .no
                      )
                      .no
                    )
                    .no
                  )
                )
              )
            )
          )
        )
        .no
      )
      .no
    )
    .no
  )
)
theorem ral_h0 (N : List ByteArray) (I : List (ByteArray × ByteArray)) (who nm : ByteArray) (A : List ByteArray) (i : Nat) (j : Nat → Value) : (ev Tryd.prog roX2 awakeS 3000 noL 3000 .normal (hd Tryd.prog 5 0) (mkE (ral_cf 0) (ral_v0 N I who nm A i) j) (mkH openB (ral_o0 N I who nm A i))).map (lookP Tryd.prog (resOf Tryd.prog 5) [] ral_cf) = ral_t0 Tryd.prog N I who nm A i := by kernel_rfl

theorem ral_ok (N : List ByteArray) (I : List (ByteArray × ByteArray)) (who nm : ByteArray) : OCalls Tryd.prog 5 (ral_a N I who nm) (.s (.bool true)) [] := by
  have hB : Tryd.prog.types[9].bytes = 16 := by kernel_rfl
  have yev : Goes ⟨.ret, true, [some (.v (.bool true))], []⟩ [.s (.bool true)] [] := ⟨rfl, (.cons _ _ _ _ (.vs _) .nil), .nil⟩
  have yes : ∀ x, x = true → Goes ⟨.ret, true, [some (.s (.bool x))], []⟩ [.s (.bool true)] [] := fun x hx => ⟨rfl, (.cons _ _ _ _ (.ofEq (by rw [hx])) .nil), .nil⟩
  refine floyd ev_mix ev_ok roX2_ok awakeS_ok (by kernel_rfl) [] ral_cf (fun i => N.length - i) (fun _ => 0) (fun i => ral_v0 N I who nm ((N.take i).filter (isP N I who)) i) (fun i => ral_o0 N I who nm ((N.take i).filter (isP N I who)) i) (fun i => (mayP N I = true ∧ N.length ≤ 40 ∧ I.length ≤ 60) ∧ i ≤ N.length) (fun i => ral_t0 _ N I who nm ((N.take i).filter (isP N I who)) i) (ral_t _ N I who nm) (ral_h N I who nm) (fun i j => ral_h0 N I who nm _ i j) ?_ ?_
  · unfold ral_t
    rw [dL_eL, dL_eL]
    refine ⟨fun _ => yes _ rfl, fun hl => ?_⟩
    obtain ⟨hN, hI⟩ := longP_no hl
    refine ⟨fun _ => yes _ rfl, fun _ => ⟨fun _ => yes _ rfl, fun _ => ⟨fun h => (by cases h), fun _ => ⟨fun _ => yev, fun hm => ?_⟩⟩⟩⟩
    exact ⟨0, ⟨⟨by simpa using hm, hN, hI⟩, Nat.zero_le _⟩, rfl, rfl, rfl, (.cons _ _ _ _ (.refl _) (.cons _ _ _ _ (.refl _) (.cons _ _ _ _ (.refl _) (.cons _ _ _ _ (.nilv _) (.cons _ _ _ _ (.vs _) .nil))))), .cons _ _ _ _ (st_le N I _ _) (.cons _ _ _ _ (.nil _ _) .nil)⟩
  · intro i ⟨⟨hm, hN, hI⟩, hi⟩
    obtain ⟨_, _, h4, _⟩ := mayP_get hm
    obtain ⟨A, hA⟩ : ∃ A, A = (N.take i).filter (isP N I who) := ⟨_, rfl⟩
    have hlen : A.length ≤ i := by rw [hA]; refine Nat.le_trans (List.length_filter_le _ _) ?_; simp; omega
    have hnext : i < N.length → (N.take (i + 1)).filter (isP N I who) = A ++ [N.getD i default].filter (isP N I who) := fun h => by rw [take_snoc h, List.filter_append, ← hA]
    rw [← hA]
    unfold ral_t0
    simp only [dL_eL, dL_name, dL_one, idxS_ge]
    refine ⟨fun h => ?_, fun h => ?_⟩
    · have h : i < N.length := by simpa using h
      refine hT (idx_ok h) (hT (ble_yes (by omega)) ⟨fun h1 => hT (idx_ok h) (hT (app_ok (k := 16) hB (by omega) (by omega)) ?_), fun h1 => ?_⟩)
      · have hn := hnext h
        have h1 : isP N I who (N.getD i default) = true := h1
        rw [List.filter_cons_of_pos h1, List.filter_nil] at hn
        have hl : (A ++ [N.getD i default]).length = A.length + 1 := by simp
        refine ⟨i + 1, ⟨⟨hm, hN, hI⟩, by omega⟩, rel_nat (by omega), rfl, rfl, ?_⟩
        rw [hn]
        exact ⟨rfl, (.cons _ _ _ _ (.refl _) (.cons _ _ _ _ (.refl _) (.cons _ _ _ _ (.refl _) (.cons _ _ _ _ (.ofEq (by rw [hl])) (.cons _ _ _ _ (.ofEq (by rw [wrap_lt (by omega) (by omega)]; rfl)) .nil))))), .cons _ _ _ _ (st_le N I _ _) (.cons _ _ _ _ (OLe.snoc (x := N.getD i default) fun c hc => by have : c = 0 := (by simp [Rec.ks] at hc; omega); subst this; rfl) .nil)⟩
      · have hn := hnext h
        have h1 : ¬ isP N I who (N.getD i default) = true := by rw [show isP N I who (N.getD i default) = false from h1]; simp
        rw [List.filter_cons_of_neg h1, List.filter_nil, List.append_nil] at hn
        refine ⟨i + 1, ⟨⟨hm, hN, hI⟩, by omega⟩, rel_nat (by omega), rfl, rfl, ?_⟩
        rw [hn]
        exact ⟨rfl, (.cons _ _ _ _ (.refl _) (.cons _ _ _ _ (.refl _) (.cons _ _ _ _ (.refl _) (.cons _ _ _ _ (.refl _) (.cons _ _ _ _ (.ofEq (by rw [wrap_lt (by omega) (by omega)]; rfl)) .nil))))), .cons _ _ _ _ (st_le N I _ _) (.cons _ _ _ _ (OLe.same _ _ _) .nil)⟩
    · have h : i = N.length := by have : ¬ i < N.length := (by simpa using h); omega
      have hA' : A = allP N I who := by rw [hA, h, List.take_length, allP_filter h4]
      refine hT (ble_yes (by omega)) (hT (ble_yes (Nat.le_refl _)) (hT (ble_yes (Nat.le_refl _)) (hF (by rw [← hA']; simp) ⟨fun _ => yev, fun hn => ⟨fun _ => yev, fun _ => ⟨fun _ => yev, fun hx => ⟨fun _ => yev, fun h16 => ?_⟩⟩⟩⟩)))
      have hx := inL_no.1 hx
      have hn : nameP nm = true := by simpa using hn
      have h16 : N.length ≠ 16 := by simp at h16; omega
      have hM : mayP (N ++ [nm]) I = true := mayP_name hm hn hx h16
      refine hT (ble_yes (by omega)) (hT (app_ok (k := 16) hB (by omega) (by omega)) (hT (ble_yes (by omega)) (hT (ble_yes (Nat.le_refl _)) (hT (ble_yes (Nat.le_refl _)) (hT (ble_yes (by omega)) (hT (ble_yes (Nat.le_refl _)) (hT (by rw [allP_new hm hx]; simp) ⟨fun _ => ?_, fun hw => ?_⟩)))))))
      · exact hT (ble_yes (Nat.le_refl _)) (hT (ble_yes (Nat.le_refl _)) (yes _ hM))
      · rw [ba_eq, decide_eq_false_iff_not] at hw
        exact hT (ble_yes (Nat.le_refl _)) (hT (ble_yes (Nat.le_refl _)) (hT (ble_yes (by omega)) (hT (ble_yes (Nat.le_refl _)) (hT (ble_yes (Nat.le_refl _)) (hT (by rw [allP_old hm hx hw, ← hA']; simp) (hT (ble_yes (Nat.le_refl _)) (hT (ble_yes (Nat.le_refl _)) (yes _ hM))))))))
end Go.Proofs.YtffcaapbmkaceaaDoor
