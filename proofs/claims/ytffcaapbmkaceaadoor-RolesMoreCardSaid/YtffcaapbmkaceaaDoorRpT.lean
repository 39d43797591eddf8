/- The statement RolesMore, walked. No condition. -/
import Derived.Test.YtffcaapbmkaceaaDoorRpP
import Derived.Test.YtffcaapbmkaceaaDoorRpU
namespace Go.Proofs.YtffcaapbmkaceaaDoor
open Ev Go.RowKit
set_option maxRecDepth 100000
set_option linter.unusedVariables false
noncomputable def roX3 : SumBr := orX delX roX2
theorem roX3_ok : SumGO Tryd.prog (sumS roX3) := orX_open delX_ok roX2_ok
def rmo_cf : Nat → Cfg := cfL []
def rmo_a (N : List ByteArray) (I : List (ByteArray × ByteArray)) (who of a b : ByteArray) : List AV := [stA N I, .s (.string who), .s (.string of), .s (.string a), .s (.string b)]
noncomputable def rmo_t (P : Program) (N : List ByteArray) (I : List (ByteArray × ByteArray)) (who of a b : ByteArray) : Br PO :=
(.test (longP (dL ByteArray (eL N) N.length) (dL (ByteArray × ByteArray) (eL I) I.length))
  (.leaf (.fin ⟨Ex.ret, true, [some (AV.s (Value.bool true))], []⟩))
  (.test (decide ((↑who.size : Int) > 200))
    (.leaf (.fin ⟨Ex.ret, true, [some (AV.s (Value.bool true))], []⟩))
    (.test (decide ((↑of.size : Int) > 200))
      (.leaf (.fin ⟨Ex.ret, true, [some (AV.s (Value.bool true))], []⟩))
      (.test (decide ((↑a.size : Int) > 200))
        (.leaf (.fin ⟨Ex.ret, true, [some (AV.s (Value.bool true))], []⟩))
        (.test (decide ((↑b.size : Int) > 200))
          (.leaf (.fin ⟨Ex.ret, true, [some (AV.s (Value.bool true))], []⟩))
          (.test (false)
            (.leaf (.fin ⟨Ex.ret, true, [some (AV.s (Value.bool true))], []⟩))
            (.test (!mayP (dL ByteArray (eL N) N.length) (dL (ByteArray × ByteArray) (eL I) I.length))
              (.leaf (.fin ⟨Ex.ret, true, [some (AV.v (Value.bool true))], []⟩))
              (.test (who.toList == of.toList)
                (.leaf (.fin ⟨Ex.ret, true, [some (AV.v (Value.bool true))], []⟩))
                (.test (!decide (idxS (dL ByteArray (eL N) N.length) who ≥ 0))
                  (.leaf (.fin ⟨Ex.ret, true, [some (AV.v (Value.bool true))], []⟩))
                  (.test (!decide (idxS (dL ByteArray (eL N) N.length) of ≥ 0))
                    (.leaf (.fin ⟨Ex.ret, true, [some (AV.v (Value.bool true))], []⟩))
                    (.test (decide (idxS (dL (ByteArray × ByteArray) (eL I) I.length) (who, of) ≥ 0))
                      (.leaf (.fin ⟨Ex.ret, true, [some (AV.v (Value.bool true))], []⟩))
                      (.test (N.length.ble 1000000)
                        (.test (I.length.ble 1000000)
                          (.test (I.length.beq I.length && (true && (small (1 + I.length) && small (Tryd.prog.types[36].bytes * (1 + I.length)))))
                            (.test (N.length.ble N.length)
                              (.test ((I.length + 1).ble (I.length + 1))
                                (.test (!mayP (dL ByteArray (eL N) N.length) (dL (ByteArray × ByteArray) (catD (eL I) I.length (listD [D.v (Value.string who), D.v (Value.string of)] [TK.str, TK.str].length)) (I.length + 1)))
                                  (.leaf (.fin ⟨Ex.ret, true, [some (AV.v (Value.bool false))], []⟩))
                                  (.test ((I.length + 1).ble (I.length + 1))
                                    (.test (decide (idxS (dL (ByteArray × ByteArray) (catD (eL I) I.length (listD [D.v (Value.string who), D.v (Value.string of)] [TK.str, TK.str].length)) (I.length + 1)) (who, of) < 0))
                                      (.leaf (.fin ⟨Ex.ret, true, [some (AV.v (Value.bool false))], []⟩))
                                      (.test (N.length.ble N.length)
                                        (.test (N.length.ble 1000000)
                                          (.test ((I.length + 1).ble (I.length + 1))
                                            (.test ((I.length + 1).ble 1000000)
                                              (.test (decide (0 ≤ idxS (dL (ByteArray × ByteArray) (catD (eL I) I.length (listD [D.v (Value.string who), D.v (Value.string of)] [TK.str, TK.str].length)) (I.length + 1)) (who, of)) &&     decide (idxS (dL (ByteArray × ByteArray) (catD (eL I) I.length (listD [D.v (Value.string who), D.v (Value.string of)] [TK.str, TK.str].length)) (I.length + 1)) (who, of) < IntKind.i64.wrap (idxS (dL (ByteArray × ByteArray) (catD (eL I) I.length (listD [D.v (Value.string who), D.v (Value.string of)] [TK.str, TK.str].length)) (I.length + 1)) (who, of) + 1)) &&   (decide (IntKind.i64.wrap (idxS (dL (ByteArray × ByteArray) (catD (eL I) I.length (listD [D.v (Value.string who), D.v (Value.string of)] [TK.str, TK.str].length)) (I.length + 1)) (who, of) + 1) ≤ (↑(I.length + 1) : Int)) && (I.length + 1).beq (I.length + 1)))
                                                (.test (N.length.ble N.length)
                                                  (.test (decide (dL ByteArray (eL N) N.length = dL ByteArray (eL N) N.length))
                                                    (.test ((I.length + 1 - (IntKind.i64.wrap (idxS (dL (ByteArray × ByteArray) (catD (eL I) I.length (listD [D.v (Value.string who), D.v (Value.string of)] [TK.str, TK.str].length)) (I.length + 1)) (who, of) + 1) - idxS (dL (ByteArray × ByteArray) (catD (eL I) I.length (listD [D.v (Value.string who), D.v (Value.string of)] [TK.str, TK.str].length)) (I.length + 1)) (who, of)).toNat).ble   (I.length + 1 - (IntKind.i64.wrap (idxS (dL (ByteArray × ByteArray) (catD (eL I) I.length (listD [D.v (Value.string who), D.v (Value.string of)] [TK.str, TK.str].length)) (I.length + 1)) (who, of) + 1) - idxS (dL (ByteArray × ByteArray) (catD (eL I) I.length (listD [D.v (Value.string who), D.v (Value.string of)] [TK.str, TK.str].length)) (I.length + 1)) (who, of)).toNat))
                                                      (.test (!decide     (dL (ByteArray × ByteArray)         (cutD (catD (eL I) I.length (listD [D.v (Value.string who), D.v (Value.string of)] [TK.str, TK.str].length)) (idxS (dL (ByteArray × ByteArray) (catD (eL I) I.length (listD [D.v (Value.string who), D.v (Value.string of)] [TK.str, TK.str].length)) (I.length + 1)) (who, of)).toNat           (IntKind.i64.wrap (idxS (dL (ByteArray × ByteArray) (catD (eL I) I.length (listD [D.v (Value.string who), D.v (Value.string of)] [TK.str, TK.str].length)) (I.length + 1)) (who, of) + 1) - idxS (dL (ByteArray × ByteArray) (catD (eL I) I.length (listD [D.v (Value.string who), D.v (Value.string of)] [TK.str, TK.str].length)) (I.length + 1)) (who, of)).toNat)         (I.length + 1 - (IntKind.i64.wrap (idxS (dL (ByteArray × ByteArray) (catD (eL I) I.length (listD [D.v (Value.string who), D.v (Value.string of)] [TK.str, TK.str].length)) (I.length + 1)) (who, of) + 1) - idxS (dL (ByteArray × ByteArray) (catD (eL I) I.length (listD [D.v (Value.string who), D.v (Value.string of)] [TK.str, TK.str].length)) (I.length + 1)) (who, of)).toNat) =       dL (ByteArray × ByteArray) (eL I) I.length))
                                                        (.leaf (.fin ⟨Ex.ret, true, [some (AV.v (Value.bool false))], []⟩))
                                                        (.test (N.length.ble N.length)
                                                          (.test ((I.length + 1).ble (I.length + 1))
                                                            (.test (!mayP (dL ByteArray (eL N) N.length) (dL (ByteArray × ByteArray) (catD (eL I) I.length (listD [D.v (Value.string who), D.v (Value.string of)] [TK.str, TK.str].length)) (I.length + 1)))
                                                              (.leaf (.fin ⟨Ex.ret, true, [some (AV.v (Value.bool false))], []⟩))
                                                              (.test (N.length.ble N.length)
                                                                (.test ((I.length + 1).ble (I.length + 1))
                                                                  (.test (N.length.ble 1000000)
                                                                    (.test (N.length.ble 1000000)
                                                                      (.test (isP (dL ByteArray (eL N) N.length) (dL (ByteArray × ByteArray) (eL I) I.length) a b)
                                                                        (.leaf (.fin ⟨Ex.ret, true, [some (AV.s (Value.bool (isP (dL ByteArray (eL N) N.length) (dL (ByteArray × ByteArray) (catD (eL I) I.length (listD [D.v (Value.string who), D.v (Value.string of)] [TK.str, TK.str].length)) (I.length + 1)) a b == true)))], []⟩))
                                                                        (.test (N.length.ble 1000000)
                                                                          (.test (isP (dL ByteArray (eL N) N.length) (dL (ByteArray × ByteArray) (eL I) I.length) a who)
                                                                            (.test (N.length.ble 1000000)
                                                                              (.leaf (.fin ⟨Ex.ret, true, [some (AV.s (Value.bool (isP (dL ByteArray (eL N) N.length) (dL (ByteArray × ByteArray) (catD (eL I) I.length (listD [D.v (Value.string who), D.v (Value.string of)] [TK.str, TK.str].length)) (I.length + 1)) a b == isP (dL ByteArray (eL N) N.length) (dL (ByteArray × ByteArray) (eL I) I.length) of b)))], []⟩))
                                                                              .no
                                                                            )
                                                                            (.leaf (.fin ⟨Ex.ret, true, [some (AV.s (Value.bool (isP (dL ByteArray (eL N) N.length) (dL (ByteArray × ByteArray) (catD (eL I) I.length (listD [D.v (Value.string who), D.v (Value.string of)] [TK.str, TK.str].length)) (I.length + 1)) a b == false)))], []⟩))
                                                                          )
                                                                          .no
                                                                        )
                                                                      )
                                                                      .no
                                                                    )
                                                                    .no
                                                                  )
                                                                  .no
                                                                )
                                                                .no
                                                              )
                                                            )
                                                            .no
                                                          )
                                                          .no
                                                        )
                                                      )
                                                      .no
                                                    )
                                                    (.leaf (.fin ⟨Ex.ret, true, [some (AV.v (Value.bool false))], []⟩))
                                                  )
                                                  .no
                                                )
                                                .no
                                              )
                                              .no
                                            )
                                            .no
                                          )
                                          .no
                                        )
                                        .no
                                      )
                                    )
                                    .no
                                  )
                                )
                                .no
                              )
                              .no
                            )
                            .no
                          )
                          .no
                        )
                        .no
                      )
                    )
                  )
                )
              )
            )
          )
        )
      )
    )
  )
)
theorem rmo_h (N : List ByteArray) (I : List (ByteArray × ByteArray)) (who of a b : ByteArray) : (ev Tryd.prog roX3 awakeS 3000 noL 3000 .normal [.c 0 (codeOf Tryd.prog 6)] (params (rmo_a N I who of a b)) Ev.start).map (lookP Tryd.prog (resOf Tryd.prog 6) [] rmo_cf) = rmo_t Tryd.prog N I who of a b := by kernel_rfl

theorem rmo_ok (N : List ByteArray) (I : List (ByteArray × ByteArray)) (who to a b : ByteArray) : OCalls Tryd.prog 6 (rmo_a N I who to a b) (.s (.bool true)) [] := by
  have hB : Tryd.prog.types[36].bytes = 32 := by kernel_rfl
  have yev : Goes ⟨.ret, true, [some (.v (.bool true))], []⟩ [.s (.bool true)] [] := ⟨rfl, (.cons _ _ _ _ (.vs _) .nil), .nil⟩
  have yes : ∀ x, x = true → Goes ⟨.ret, true, [some (.s (.bool x))], []⟩ [.s (.bool true)] [] := fun x hx => ⟨rfl, (.cons _ _ _ _ (.ofEq (by rw [hx])) .nil), .nil⟩
  refine floyd0 ev_mix ev_ok roX3_ok awakeS_ok (by kernel_rfl) [] rmo_cf (rmo_t _ N I who to a b) (rmo_h N I who to a b) ?_
  unfold rmo_t
  simp only [dL_eL, dL_pair]
  refine ⟨fun _ => yes _ rfl, fun hl => ⟨fun _ => yes _ rfl, fun _ => ⟨fun _ => yes _ rfl, fun _ => ⟨fun _ => yes _ rfl, fun _ => ⟨fun _ => yes _ rfl, fun _ => ⟨fun _ => yes _ rfl, fun _ => ⟨fun _ => yev, fun hm => ⟨fun _ => yev, fun hne => ⟨fun _ => yev, fun hw => ⟨fun _ => yev, fun ht => ⟨fun _ => yev, fun hx => ?_⟩⟩⟩⟩⟩⟩⟩⟩⟩⟩⟩
  obtain ⟨hN, hI⟩ := longP_no hl
  have hm : mayP N I = true := by simpa using hm
  rw [ba_eq, decide_eq_false_iff_not] at hne
  rw [idxS_ge, Bool.not_eq_false', inL_iff] at hw ht
  rw [idxS_ge, inL_no] at hx
  have e1 := idxS_snoc hx
  have e2 : IntKind.i64.wrap ((I.length : Int) + 1) = (I.length : Int) + 1 := wrap_lt (by omega) (by omega)
  have e3 : ((I.length : Int) + 1 - I.length).toNat = 1 := by omega
  simp only [e1, e2, e3, Int.toNat_natCast, Nat.add_sub_cancel, dL_cut]
  have hM := mayP_pair hm hne hw ht hx
  refine hT (ble_yes (by omega)) (hT (ble_yes (by omega)) (hT (app_ok (k := 32) hB (by omega) (by omega)) (hT (ble_yes (Nat.le_refl _)) (hT (ble_yes (Nat.le_refl _)) (hF (by rw [hM]; rfl) (hT (ble_yes (Nat.le_refl _)) (hF (by simp) (hT (ble_yes (Nat.le_refl _)) (hT (ble_yes (by omega)) (hT (ble_yes (Nat.le_refl _)) (hT (ble_yes (by omega)) (hT ?_ (hT (ble_yes (Nat.le_refl _)) (hT (by simp) (hT (ble_yes (Nat.le_refl _)) (hF (by simp) (hT (ble_yes (Nat.le_refl _)) (hT (ble_yes (Nat.le_refl _)) (hF (by rw [hM]; rfl) (hT (ble_yes (Nat.le_refl _)) (hT (ble_yes (Nat.le_refl _)) (hT (ble_yes (by omega)) (hT (ble_yes (by omega)) ⟨fun h => ?_, fun h => hT (ble_yes (by omega)) ⟨fun h2 => hT (ble_yes (by omega)) ?_, fun h2 => ?_⟩⟩)))))))))))))))))))))))
  · simp only [Bool.and_eq_true, decide_eq_true_eq]
    refine ⟨⟨by omega, by omega⟩, by omega, by simp⟩
  · exact yes _ (by rw [isP_pair hw ht, show isP N I a b = true from h]; rfl)
  · exact yes _ (by rw [isP_pair hw ht, show isP N I a b = false from h, show isP N I a who = true from h2]; simp)
  · exact yes _ (by rw [isP_pair hw ht, show isP N I a b = false from h, show isP N I a who = false from h2]; rfl)
end Go.Proofs.YtffcaapbmkaceaaDoor
