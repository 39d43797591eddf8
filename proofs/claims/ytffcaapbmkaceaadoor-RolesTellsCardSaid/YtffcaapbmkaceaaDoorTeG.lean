/- The statement RolesTells, walked. No condition. -/
import Derived.Test.YtffcaapbmkaceaaDoorMg22
import Derived.Test.YtffcaapbmkaceaaDoorMg11
namespace Go.Proofs.YtffcaapbmkaceaaDoor
open Ev Go.RowKit
set_option maxRecDepth 100000
set_option linter.unusedVariables false
noncomputable def teX3 : SumBr := orX lsameX (orX rleaveX (orX rallX (orX rsameX (orX delX (orX roX2 teX2)))))
theorem teX3_ok : SumGO Tryd.prog (sumS teX3) := orX_open lsameX_ok (orX_open rleaveX_ok (orX_open rallX_ok (orX_open rsameX_ok (orX_open delX_ok (orX_open roX2_ok teX2_ok)))))
def rte_cf : Nat → Cfg := cfA [(1000004, mkC 175 [1, 2, 3, 7] [(3, []), (7, []), (7, [0]), (7, [1])]), (1000008, mkC 175 [1, 2, 3, 7, 8, 10] [(3, []), (7, []), (7, [0]), (7, [1]), (8, []), (10, [])]), (1000012, mkC 175 [1, 2, 3, 7, 8, 10] [(3, []), (7, []), (7, [0]), (7, [1]), (8, []), (10, [])]), (1000016, mkC 175 [1, 2, 3, 7] [(3, []), (7, []), (7, [0]), (7, [1])]), (0, mkC 175 [1, 2, 3, 7, 12, 13, 14] [(3, []), (7, []), (7, [0]), (7, [1]), (12, [])])]
def rte_a (N : List ByteArray) (I : List (ByteArray × ByteArray)) (who to : ByteArray) : List AV := [stA N I, .s (.string who), .s (.string to)]
noncomputable def rte_t (P : Program) (N : List ByteArray) (I : List (ByteArray × ByteArray)) (who to : ByteArray) : Br PO :=
(.test (longP (dL ByteArray (eL N) N.length) (dL (ByteArray × ByteArray) (eL I) I.length))
  (.leaf (.fin ⟨Ex.ret, true, [some (AV.s (Value.bool true))], []⟩))
  (.test (decide ((↑who.size : Int) > 200))
    (.leaf (.fin ⟨Ex.ret, true, [some (AV.s (Value.bool true))], []⟩))
    (.test (decide ((↑to.size : Int) > 200))
      (.leaf (.fin ⟨Ex.ret, true, [some (AV.s (Value.bool true))], []⟩))
      (.test (small N.length && small (Tryd.prog.types[9].bytes * N.length))
        (.test (small I.length && small (Tryd.prog.types[36].bytes * I.length))
          (.leaf (.at 1000004 (ct2 P 7 1000004).1 (ct2 P 7 1000004).2 ⟨Ex.normal, true, [some (AV.s (Value.string who)), some (AV.s (Value.string to)), some (AV.ptr 65536 0 0), some (AV.ptr 65537 0 0)], [OS.o (AO.cells [AV.fz (eL N) N.length [TK.str], AV.fz (eL I) I.length [TK.str, TK.str]] 2 65536 true false), OS.o (AO.cells [AV.osl 65538 N.length, AV.osl 65539 I.length] 2 65541 true false), OS.o (AO.rows (eL N) N.length [TK.str]), OS.o (AO.rows (eL I) I.length [TK.str, TK.str])]⟩))
          .no
        )
        .no
      )
    )
  )
)
theorem rte_h (N : List ByteArray) (I : List (ByteArray × ByteArray)) (who to : ByteArray) : (ev2 Tryd.prog teX3 awakeS 3000 (fun i => ([4, 8, 12, 16] : List Nat).any (Nat.beq i)) 3000 .normal [.c 0 (codeOf Tryd.prog 7)] (params (rte_a N I who to)) Ev.start).map (lookP Tryd.prog (resOf Tryd.prog 7) [] rte_cf) = rte_t Tryd.prog N I who to := by kernel_rfl
def rte_vR4 (N : List ByteArray) (I : List (ByteArray × ByteArray)) (who to : ByteArray) : List AV := [.s (.string who), .s (.string to), .ptr 65536 0 0, .ptr 65537 0 0]
def rte_oR4 (N : List ByteArray) (I : List (ByteArray × ByteArray)) (who to : ByteArray) : List AO := [stO N I, .cells [.osl 65538 N.length, .osl 65539 I.length] 2 0 true false, .rows (eL N) N.length [.str], .rows (eL I) I.length [.str, .str]]
noncomputable def rte_tR4 (P : Program) (N : List ByteArray) (I : List (ByteArray × ByteArray)) (who to : ByteArray) : Br PO :=
(.test (!nameP who)
  (.test (!nameP who)
    (.test (N.length.ble N.length)
      (.test (I.length.ble I.length)
        (.test (!sameP (dL ByteArray (eL N) N.length) (dL (ByteArray × ByteArray) (eL I) I.length) (dL ByteArray (eL N) N.length) (dL (ByteArray × ByteArray) (eL I) I.length))
          (.leaf (.fin ⟨Ex.ret, true, [some (AV.v (Value.bool false))], []⟩))
          (.test (N.length.ble N.length)
            (.test (I.length.ble I.length)
              (.test (!sameP (dL ByteArray (eL N) N.length) (dL (ByteArray × ByteArray) (eL I) I.length) (dL ByteArray (eL N) N.length) (dL (ByteArray × ByteArray) (eL I) I.length))
                (.leaf (.fin ⟨Ex.ret, true, [some (AV.v (Value.bool false))], []⟩))
                (.leaf (.at 1000008 (ct2 P 7 1000008).1 (ct2 P 7 1000008).2 ⟨Ex.normal, true, [some (AV.s (Value.string who)), some (AV.s (Value.string to)), some (AV.ptr 65536 0 0), some (AV.ptr 65537 0 0), some (AV.ptr 65540 0 0), some (AV.ptr 65541 0 0)], [OS.o (AO.cells [AV.fz (eL N) N.length [TK.str], AV.fz (eL I) I.length [TK.str, TK.str]] 2 0 true false), OS.o (AO.cells [AV.osl 65538 N.length, AV.osl 65539 I.length] 2 0 true false), OS.o (AO.rows (eL N) N.length [TK.str]), OS.o (AO.rows (eL I) I.length [TK.str, TK.str]), OS.o (AO.cells [AV.fz (eL N) N.length [TK.str], AV.fz (eL I) I.length [TK.str, TK.str]] 2 65542 true false), OS.o (AO.cells [AV.osl 65538 N.length, AV.osl 65539 I.length] 2 65545 true false)]⟩))
              )
              .no
            )
            .no
          )
        )
        .no
      )
      .no
    )
    (.test (N.length.ble N.length)
      (.test (I.length.ble I.length)
        (.test (!mayP (dL ByteArray (eL N) N.length) (dL (ByteArray × ByteArray) (eL I) I.length))
          (.test (N.length.ble N.length)
            (.test (I.length.ble I.length)
              (.test (!sameP (dL ByteArray (eL N) N.length) (dL (ByteArray × ByteArray) (eL I) I.length) (dL ByteArray (eL N) N.length) (dL (ByteArray × ByteArray) (eL I) I.length))
                (.leaf (.fin ⟨Ex.ret, true, [some (AV.v (Value.bool false))], []⟩))
                (.test (N.length.ble N.length)
                  (.test (I.length.ble I.length)
                    (.test (!sameP (dL ByteArray (eL N) N.length) (dL (ByteArray × ByteArray) (eL I) I.length) (dL ByteArray (eL N) N.length) (dL (ByteArray × ByteArray) (eL I) I.length))
                      (.leaf (.fin ⟨Ex.ret, true, [some (AV.v (Value.bool false))], []⟩))
                      (.leaf (.at 1000008 (ct2 P 7 1000008).1 (ct2 P 7 1000008).2 ⟨Ex.normal, true, [some (AV.s (Value.string who)), some (AV.s (Value.string to)), some (AV.ptr 65536 0 0), some (AV.ptr 65537 0 0), some (AV.ptr 65540 0 0), some (AV.ptr 65541 0 0)], [OS.o (AO.cells [AV.fz (eL N) N.length [TK.str], AV.fz (eL I) I.length [TK.str, TK.str]] 2 0 true false), OS.o (AO.cells [AV.osl 65538 N.length, AV.osl 65539 I.length] 2 0 true false), OS.o (AO.rows (eL N) N.length [TK.str]), OS.o (AO.rows (eL I) I.length [TK.str, TK.str]), OS.o (AO.cells [AV.fz (eL N) N.length [TK.str], AV.fz (eL I) I.length [TK.str, TK.str]] 2 65542 true false), OS.o (AO.cells [AV.osl 65538 N.length, AV.osl 65539 I.length] 2 65545 true false)]⟩))
                    )
                    .no
                  )
                  .no
                )
              )
              .no
            )
            .no
          )
          (.test (N.length.ble N.length)
            (.test (I.length.ble I.length)
              (.test (inL who (dL ByteArray (eL N) N.length))
                (.leaf (.fin ⟨Ex.ret, true, [some (AV.v (Value.bool false))], []⟩))
                (.test ((↑N.length : Int) == 16)
                  (.leaf (.fin ⟨Ex.ret, true, [some (AV.v (Value.bool false))], []⟩))
                  (.test (N.length.ble N.length && (small N.length && small (Tryd.prog.types[9].bytes * N.length)))
                    (.test (I.length.ble I.length && (small I.length && small (Tryd.prog.types[36].bytes * I.length)))
                      (.test (N.length.beq N.length && (true && (small (1 + N.length) && small (Tryd.prog.types[9].bytes * (1 + N.length)))))
                        (.leaf (.fin ⟨Ex.ret, true, [some (AV.v (Value.bool false))], []⟩))
                        .no
                      )
                      .no
                    )
                    .no
                  )
                )
              )
              .no
            )
            .no
          )
        )
        .no
      )
      .no
    )
  )
  (.test (!mayP (dL ByteArray (eL N) N.length) (dL (ByteArray × ByteArray) (eL I) I.length))
    (.test (!nameP who)
      (.test (N.length.ble N.length)
        (.test (I.length.ble I.length)
          (.test (!sameP (dL ByteArray (eL N) N.length) (dL (ByteArray × ByteArray) (eL I) I.length) (dL ByteArray (eL N) N.length) (dL (ByteArray × ByteArray) (eL I) I.length))
            (.leaf (.fin ⟨Ex.ret, true, [some (AV.v (Value.bool false))], []⟩))
            (.test (N.length.ble N.length)
              (.test (I.length.ble I.length)
                (.test (!sameP (dL ByteArray (eL N) N.length) (dL (ByteArray × ByteArray) (eL I) I.length) (dL ByteArray (eL N) N.length) (dL (ByteArray × ByteArray) (eL I) I.length))
                  (.leaf (.fin ⟨Ex.ret, true, [some (AV.v (Value.bool false))], []⟩))
                  (.leaf (.at 1000008 (ct2 P 7 1000008).1 (ct2 P 7 1000008).2 ⟨Ex.normal, true, [some (AV.s (Value.string who)), some (AV.s (Value.string to)), some (AV.ptr 65536 0 0), some (AV.ptr 65537 0 0), some (AV.ptr 65540 0 0), some (AV.ptr 65541 0 0)], [OS.o (AO.cells [AV.fz (eL N) N.length [TK.str], AV.fz (eL I) I.length [TK.str, TK.str]] 2 0 true false), OS.o (AO.cells [AV.osl 65538 N.length, AV.osl 65539 I.length] 2 0 true false), OS.o (AO.rows (eL N) N.length [TK.str]), OS.o (AO.rows (eL I) I.length [TK.str, TK.str]), OS.o (AO.cells [AV.fz (eL N) N.length [TK.str], AV.fz (eL I) I.length [TK.str, TK.str]] 2 65542 true false), OS.o (AO.cells [AV.osl 65538 N.length, AV.osl 65539 I.length] 2 65545 true false)]⟩))
                )
                .no
              )
              .no
            )
          )
          .no
        )
        .no
      )
      (.test (N.length.ble N.length)
        (.test (I.length.ble I.length)
          (.test (!mayP (dL ByteArray (eL N) N.length) (dL (ByteArray × ByteArray) (eL I) I.length))
            (.test (N.length.ble N.length)
              (.test (I.length.ble I.length)
                (.test (!sameP (dL ByteArray (eL N) N.length) (dL (ByteArray × ByteArray) (eL I) I.length) (dL ByteArray (eL N) N.length) (dL (ByteArray × ByteArray) (eL I) I.length))
                  (.leaf (.fin ⟨Ex.ret, true, [some (AV.v (Value.bool false))], []⟩))
                  (.test (N.length.ble N.length)
                    (.test (I.length.ble I.length)
                      (.test (!sameP (dL ByteArray (eL N) N.length) (dL (ByteArray × ByteArray) (eL I) I.length) (dL ByteArray (eL N) N.length) (dL (ByteArray × ByteArray) (eL I) I.length))
                        (.leaf (.fin ⟨Ex.ret, true, [some (AV.v (Value.bool false))], []⟩))
                        (.leaf (.at 1000008 (ct2 P 7 1000008).1 (ct2 P 7 1000008).2 ⟨Ex.normal, true, [some (AV.s (Value.string who)), some (AV.s (Value.string to)), some (AV.ptr 65536 0 0), some (AV.ptr 65537 0 0), some (AV.ptr 65540 0 0), some (AV.ptr 65541 0 0)], [OS.o (AO.cells [AV.fz (eL N) N.length [TK.str], AV.fz (eL I) I.length [TK.str, TK.str]] 2 0 true false), OS.o (AO.cells [AV.osl 65538 N.length, AV.osl 65539 I.length] 2 0 true false), OS.o (AO.rows (eL N) N.length [TK.str]), OS.o (AO.rows (eL I) I.length [TK.str, TK.str]), OS.o (AO.cells [AV.fz (eL N) N.length [TK.str], AV.fz (eL I) I.length [TK.str, TK.str]] 2 65542 true false), OS.o (AO.cells [AV.osl 65538 N.length, AV.osl 65539 I.length] 2 65545 true false)]⟩))
                      )
                      .no
                    )
                    .no
                  )
                )
                .no
              )
              .no
            )
            (.test (N.length.ble N.length)
              (.test (I.length.ble I.length)
                (.test (inL who (dL ByteArray (eL N) N.length))
                  (.leaf (.fin ⟨Ex.ret, true, [some (AV.v (Value.bool false))], []⟩))
                  (.test ((↑N.length : Int) == 16)
                    (.leaf (.fin ⟨Ex.ret, true, [some (AV.v (Value.bool false))], []⟩))
                    (.test (N.length.ble N.length && (small N.length && small (Tryd.prog.types[9].bytes * N.length)))
                      (.test (I.length.ble I.length && (small I.length && small (Tryd.prog.types[36].bytes * I.length)))
                        (.test (N.length.beq N.length && (true && (small (1 + N.length) && small (Tryd.prog.types[9].bytes * (1 + N.length)))))
                          (.leaf (.fin ⟨Ex.ret, true, [some (AV.v (Value.bool false))], []⟩))
                          .no
                        )
                        .no
                      )
                      .no
                    )
                  )
                )
                .no
              )
              .no
            )
          )
          .no
        )
        .no
      )
    )
    (.test (decide (idxS (dL ByteArray (eL N) N.length) who ≥ 0))
      (.test (!nameP who)
        (.leaf (.fin ⟨Ex.ret, true, [some (AV.v (Value.bool false))], []⟩))
        (.test (N.length.ble N.length)
          (.test (I.length.ble I.length)
            (.test (!mayP (dL ByteArray (eL N) N.length) (dL (ByteArray × ByteArray) (eL I) I.length))
              (.leaf (.fin ⟨Ex.ret, true, [some (AV.v (Value.bool false))], []⟩))
              (.test (N.length.ble N.length)
                (.test (I.length.ble I.length)
                  (.test (inL who (dL ByteArray (eL N) N.length))
                    (.test (N.length.ble N.length)
                      (.test (I.length.ble I.length)
                        (.test (!sameP (dL ByteArray (eL N) N.length) (dL (ByteArray × ByteArray) (eL I) I.length) (dL ByteArray (eL N) N.length) (dL (ByteArray × ByteArray) (eL I) I.length))
                          (.leaf (.fin ⟨Ex.ret, true, [some (AV.v (Value.bool false))], []⟩))
                          (.test (N.length.ble N.length)
                            (.test (I.length.ble I.length)
                              (.test (!sameP (dL ByteArray (eL N) N.length) (dL (ByteArray × ByteArray) (eL I) I.length) (dL ByteArray (eL N) N.length) (dL (ByteArray × ByteArray) (eL I) I.length))
                                (.leaf (.fin ⟨Ex.ret, true, [some (AV.v (Value.bool false))], []⟩))
                                (.leaf (.at 1000008 (ct2 P 7 1000008).1 (ct2 P 7 1000008).2 ⟨Ex.normal, true, [some (AV.s (Value.string who)), some (AV.s (Value.string to)), some (AV.ptr 65536 0 0), some (AV.ptr 65537 0 0), some (AV.ptr 65540 0 0), some (AV.ptr 65541 0 0)], [OS.o (AO.cells [AV.fz (eL N) N.length [TK.str], AV.fz (eL I) I.length [TK.str, TK.str]] 2 0 true false), OS.o (AO.cells [AV.osl 65538 N.length, AV.osl 65539 I.length] 2 0 true false), OS.o (AO.rows (eL N) N.length [TK.str]), OS.o (AO.rows (eL I) I.length [TK.str, TK.str]), OS.o (AO.cells [AV.fz (eL N) N.length [TK.str], AV.fz (eL I) I.length [TK.str, TK.str]] 2 65543 true false), OS.o (AO.cells [AV.osl 65538 N.length, AV.osl 65539 I.length] 2 65546 true false)]⟩))
                              )
                              .no
                            )
                            .no
                          )
                        )
                        .no
                      )
                      .no
                    )
                    (.test ((↑N.length : Int) == 16)
                      (.leaf (.fin ⟨Ex.ret, true, [some (AV.v (Value.bool false))], []⟩))
                      (.test (N.length.ble N.length && (small N.length && small (Tryd.prog.types[9].bytes * N.length)))
                        (.test (I.length.ble I.length && (small I.length && small (Tryd.prog.types[36].bytes * I.length)))
                          (.test (N.length.beq N.length && (true && (small (1 + N.length) && small (Tryd.prog.types[9].bytes * (1 + N.length)))))
                            (.leaf (.fin ⟨Ex.ret, true, [some (AV.v (Value.bool false))], []⟩))
                            .no
                          )
                          .no
                        )
                        .no
                      )
                    )
                  )
                  .no
                )
                .no
              )
            )
            .no
          )
          .no
        )
      )
      (.test ((↑N.length : Int) == 16)
        (.test (!nameP who)
          (.leaf (.fin ⟨Ex.ret, true, [some (AV.v (Value.bool false))], []⟩))
          (.test (N.length.ble N.length)
            (.test (I.length.ble I.length)
              (.test (!mayP (dL ByteArray (eL N) N.length) (dL (ByteArray × ByteArray) (eL I) I.length))
                (.leaf (.fin ⟨Ex.ret, true, [some (AV.v (Value.bool false))], []⟩))
                (.test (N.length.ble N.length)
                  (.test (I.length.ble I.length)
                    (.test (inL who (dL ByteArray (eL N) N.length))
                      (.leaf (.fin ⟨Ex.ret, true, [some (AV.v (Value.bool false))], []⟩))
                      (.test ((↑N.length : Int) == 16)
                        (.test (N.length.ble N.length)
                          (.test (I.length.ble I.length)
                            (.test (!sameP (dL ByteArray (eL N) N.length) (dL (ByteArray × ByteArray) (eL I) I.length) (dL ByteArray (eL N) N.length) (dL (ByteArray × ByteArray) (eL I) I.length))
                              (.leaf (.fin ⟨Ex.ret, true, [some (AV.v (Value.bool false))], []⟩))
                              (.test (N.length.ble N.length)
                                (.test (I.length.ble I.length)
                                  (.test (!sameP (dL ByteArray (eL N) N.length) (dL (ByteArray × ByteArray) (eL I) I.length) (dL ByteArray (eL N) N.length) (dL (ByteArray × ByteArray) (eL I) I.length))
                                    (.leaf (.fin ⟨Ex.ret, true, [some (AV.v (Value.bool false))], []⟩))
                                    (.leaf (.at 1000008 (ct2 P 7 1000008).1 (ct2 P 7 1000008).2 ⟨Ex.normal, true, [some (AV.s (Value.string who)), some (AV.s (Value.string to)), some (AV.ptr 65536 0 0), some (AV.ptr 65537 0 0), some (AV.ptr 65540 0 0), some (AV.ptr 65541 0 0)], [OS.o (AO.cells [AV.fz (eL N) N.length [TK.str], AV.fz (eL I) I.length [TK.str, TK.str]] 2 0 true false), OS.o (AO.cells [AV.osl 65538 N.length, AV.osl 65539 I.length] 2 0 true false), OS.o (AO.rows (eL N) N.length [TK.str]), OS.o (AO.rows (eL I) I.length [TK.str, TK.str]), OS.o (AO.cells [AV.fz (eL N) N.length [TK.str], AV.fz (eL I) I.length [TK.str, TK.str]] 2 65543 true false), OS.o (AO.cells [AV.osl 65538 N.length, AV.osl 65539 I.length] 2 65546 true false)]⟩))
                                  )
                                  .no
                                )
                                .no
                              )
                            )
                            .no
                          )
                          .no
                        )
                        (.test (N.length.ble N.length && (small N.length && small (Tryd.prog.types[9].bytes * N.length)))
                          (.test (I.length.ble I.length && (small I.length && small (Tryd.prog.types[36].bytes * I.length)))
                            (.test (N.length.beq N.length && (true && (small (1 + N.length) && small (Tryd.prog.types[9].bytes * (1 + N.length)))))
                              (.leaf (.fin ⟨Ex.ret, true, [some (AV.v (Value.bool false))], []⟩))
                              .no
                            )
                            .no
                          )
                          .no
                        )
                      )
                    )
                    .no
                  )
                  .no
                )
              )
              .no
            )
            .no
          )
        )
        (.test (N.length.ble 1000000)
          (.test (N.length.beq N.length && (true && (small (1 + N.length) && small (Tryd.prog.types[9].bytes * (1 + N.length)))))
            (.test (I.length.ble 1000000)
              (.test (!nameP who)
                (.test (N.length.beq N.length && I.length.beq I.length && ((N.length + 1).beq (N.length + 1) && I.length.beq I.length))
                  (.test ((N.length + 1).ble 1000000 && I.length.ble 1000000)
                    (.test (true)
                      (.leaf (.fin ⟨Ex.ret, true, [some (AV.v (Value.bool false))], []⟩))
                      (.test (N.length.ble (dL ByteArray (eL N) N.length).length)
                        (.test (I.length.ble (dL (ByteArray × ByteArray) (eL I) I.length).length)
                          (.test (!sameP (dL ByteArray (eL N) N.length) (dL (ByteArray × ByteArray) (eL I) I.length) (dL ByteArray (eL (dL ByteArray (eL N) N.length)) N.length) (dL (ByteArray × ByteArray) (eL (dL (ByteArray × ByteArray) (eL I) I.length)) I.length))
                            (.leaf (.fin ⟨Ex.ret, true, [some (AV.v (Value.bool false))], []⟩))
                            (.leaf (.at 1000008 (ct2 P 7 1000008).1 (ct2 P 7 1000008).2 ⟨Ex.normal, true, [some (AV.s (Value.string who)), some (AV.s (Value.string to)), some (AV.ptr 65536 0 0), some (AV.ptr 65537 0 0), some (AV.ptr 65540 0 0), some (AV.ptr 65541 0 0)], [OS.o (AO.cells [AV.fz (eL N) N.length [TK.str], AV.fz (eL I) I.length [TK.str, TK.str]] 2 0 true false), OS.o (AO.cells [AV.osl 65538 N.length, AV.osl 65539 I.length] 2 0 true false), OS.o (AO.rows (eL (dL ByteArray (eL N) N.length)) (dL ByteArray (eL N) N.length).length [TK.str]), OS.o (AO.rows (eL (dL (ByteArray × ByteArray) (eL I) I.length)) (dL (ByteArray × ByteArray) (eL I) I.length).length [TK.str, TK.str]), OS.o (AO.cells [AV.xs, AV.xs] 2 65547 true false), OS.o (AO.cells [AV.osl 65538 N.length, AV.osl 65539 I.length] 2 65550 true false)]⟩))
                          )
                          .no
                        )
                        .no
                      )
                    )
                    .no
                  )
                  .no
                )
                (.test (N.length.ble N.length)
                  (.test (I.length.ble I.length)
                    (.test (!mayP (dL ByteArray (eL N) N.length) (dL (ByteArray × ByteArray) (eL I) I.length))
                      (.test (N.length.beq N.length && I.length.beq I.length && ((N.length + 1).beq (N.length + 1) && I.length.beq I.length))
                        (.test ((N.length + 1).ble 1000000 && I.length.ble 1000000)
                          (.test (true)
                            (.leaf (.fin ⟨Ex.ret, true, [some (AV.v (Value.bool false))], []⟩))
                            (.test (N.length.ble (dL ByteArray (eL N) N.length).length)
                              (.test (I.length.ble (dL (ByteArray × ByteArray) (eL I) I.length).length)
                                (.test (!sameP (dL ByteArray (eL N) N.length) (dL (ByteArray × ByteArray) (eL I) I.length) (dL ByteArray (eL (dL ByteArray (eL N) N.length)) N.length) (dL (ByteArray × ByteArray) (eL (dL (ByteArray × ByteArray) (eL I) I.length)) I.length))
                                  (.leaf (.fin ⟨Ex.ret, true, [some (AV.v (Value.bool false))], []⟩))
                                  (.leaf (.at 1000008 (ct2 P 7 1000008).1 (ct2 P 7 1000008).2 ⟨Ex.normal, true, [some (AV.s (Value.string who)), some (AV.s (Value.string to)), some (AV.ptr 65536 0 0), some (AV.ptr 65537 0 0), some (AV.ptr 65540 0 0), some (AV.ptr 65541 0 0)], [OS.o (AO.cells [AV.fz (eL N) N.length [TK.str], AV.fz (eL I) I.length [TK.str, TK.str]] 2 0 true false), OS.o (AO.cells [AV.osl 65538 N.length, AV.osl 65539 I.length] 2 0 true false), OS.o (AO.rows (eL (dL ByteArray (eL N) N.length)) (dL ByteArray (eL N) N.length).length [TK.str]), OS.o (AO.rows (eL (dL (ByteArray × ByteArray) (eL I) I.length)) (dL (ByteArray × ByteArray) (eL I) I.length).length [TK.str, TK.str]), OS.o (AO.cells [AV.xs, AV.xs] 2 65547 true false), OS.o (AO.cells [AV.osl 65538 N.length, AV.osl 65539 I.length] 2 65550 true false)]⟩))
                                )
                                .no
                              )
                              .no
                            )
                          )
                          .no
                        )
                        .no
                      )
                      (.test (N.length.ble N.length)
                        (.test (I.length.ble I.length)
                          (.test (inL who (dL ByteArray (eL N) N.length))
                            (.test (N.length.beq N.length && I.length.beq I.length && ((N.length + 1).beq (N.length + 1) && I.length.beq I.length))
                              (.test ((N.length + 1).ble 1000000 && I.length.ble 1000000)
                                (.test (true)
                                  (.leaf (.fin ⟨Ex.ret, true, [some (AV.v (Value.bool false))], []⟩))
                                  (.test (N.length.ble (dL ByteArray (eL N) N.length).length)
                                    (.test (I.length.ble (dL (ByteArray × ByteArray) (eL I) I.length).length)
                                      (.test (!sameP (dL ByteArray (eL N) N.length) (dL (ByteArray × ByteArray) (eL I) I.length) (dL ByteArray (eL (dL ByteArray (eL N) N.length)) N.length) (dL (ByteArray × ByteArray) (eL (dL (ByteArray × ByteArray) (eL I) I.length)) I.length))
                                        (.leaf (.fin ⟨Ex.ret, true, [some (AV.v (Value.bool false))], []⟩))
                                        (.leaf (.at 1000008 (ct2 P 7 1000008).1 (ct2 P 7 1000008).2 ⟨Ex.normal, true, [some (AV.s (Value.string who)), some (AV.s (Value.string to)), some (AV.ptr 65536 0 0), some (AV.ptr 65537 0 0), some (AV.ptr 65540 0 0), some (AV.ptr 65541 0 0)], [OS.o (AO.cells [AV.fz (eL N) N.length [TK.str], AV.fz (eL I) I.length [TK.str, TK.str]] 2 0 true false), OS.o (AO.cells [AV.osl 65538 N.length, AV.osl 65539 I.length] 2 0 true false), OS.o (AO.rows (eL (dL ByteArray (eL N) N.length)) (dL ByteArray (eL N) N.length).length [TK.str]), OS.o (AO.rows (eL (dL (ByteArray × ByteArray) (eL I) I.length)) (dL (ByteArray × ByteArray) (eL I) I.length).length [TK.str, TK.str]), OS.o (AO.cells [AV.xs, AV.xs] 2 65547 true false), OS.o (AO.cells [AV.osl 65538 N.length, AV.osl 65539 I.length] 2 65550 true false)]⟩))
                                      )
                                      .no
                                    )
                                    .no
                                  )
                                )
                                .no
                              )
                              .no
                            )
                            (.test ((↑N.length : Int) == 16)
                              (.test (N.length.beq N.length && I.length.beq I.length && ((N.length + 1).beq (N.length + 1) && I.length.beq I.length))
                                (.test ((N.length + 1).ble 1000000 && I.length.ble 1000000)
                                  (.test (true)
                                    (.leaf (.fin ⟨Ex.ret, true, [some (AV.v (Value.bool false))], []⟩))
                                    (.test (N.length.ble (dL ByteArray (eL N) N.length).length)
                                      (.test (I.length.ble (dL (ByteArray × ByteArray) (eL I) I.length).length)
                                        (.test (!sameP (dL ByteArray (eL N) N.length) (dL (ByteArray × ByteArray) (eL I) I.length) (dL ByteArray (eL (dL ByteArray (eL N) N.length)) N.length) (dL (ByteArray × ByteArray) (eL (dL (ByteArray × ByteArray) (eL I) I.length)) I.length))
                                          (.leaf (.fin ⟨Ex.ret, true, [some (AV.v (Value.bool false))], []⟩))
                                          (.leaf (.at 1000008 (ct2 P 7 1000008).1 (ct2 P 7 1000008).2 ⟨Ex.normal, true, [some (AV.s (Value.string who)), some (AV.s (Value.string to)), some (AV.ptr 65536 0 0), some (AV.ptr 65537 0 0), some (AV.ptr 65540 0 0), some (AV.ptr 65541 0 0)], [OS.o (AO.cells [AV.fz (eL N) N.length [TK.str], AV.fz (eL I) I.length [TK.str, TK.str]] 2 0 true false), OS.o (AO.cells [AV.osl 65538 N.length, AV.osl 65539 I.length] 2 0 true false), OS.o (AO.rows (eL (dL ByteArray (eL N) N.length)) (dL ByteArray (eL N) N.length).length [TK.str]), OS.o (AO.rows (eL (dL (ByteArray × ByteArray) (eL I) I.length)) (dL (ByteArray × ByteArray) (eL I) I.length).length [TK.str, TK.str]), OS.o (AO.cells [AV.xs, AV.xs] 2 65547 true false), OS.o (AO.cells [AV.osl 65538 N.length, AV.osl 65539 I.length] 2 65550 true false)]⟩))
                                        )
                                        .no
                                      )
                                      .no
                                    )
                                  )
                                  .no
                                )
                                .no
                              )
                              (.test (N.length.ble N.length && (small N.length && small (Tryd.prog.types[9].bytes * N.length)))
                                (.test (I.length.ble I.length && (small I.length && small (Tryd.prog.types[36].bytes * I.length)))
                                  (.test (N.length.beq N.length && (true && (small (1 + N.length) && small (Tryd.prog.types[9].bytes * (1 + N.length)))))
                                    (.test ((N.length + 1).beq (N.length + 1) && I.length.beq I.length && ((N.length + 1).beq (N.length + 1) && I.length.beq I.length))
                                      (.test ((N.length + 1).ble 1000000 && I.length.ble 1000000)
                                        (.test (!lsP (dL ByteArray (catD (eL N) N.length (listD [D.v (Value.string who)] [TK.str].length)) (N.length + 1)) (dL (ByteArray × ByteArray) (eL I) I.length) (dL ByteArray (catD (eL N) N.length (listD [D.v (Value.string who)] [TK.str].length)) (N.length + 1)) (dL (ByteArray × ByteArray) (eL I) I.length) 0)
                                          (.leaf (.fin ⟨Ex.ret, true, [some (AV.v (Value.bool false))], []⟩))
                                          (.test (N.length.ble N.length)
                                            (.test (I.length.ble I.length)
                                              (.test (!sameP (dL ByteArray (eL N) N.length) (dL (ByteArray × ByteArray) (eL I) I.length) (dL ByteArray (eL N) N.length) (dL (ByteArray × ByteArray) (eL I) I.length))
                                                (.leaf (.fin ⟨Ex.ret, true, [some (AV.v (Value.bool false))], []⟩))
                                                (.leaf (.at 1000008 (ct2 P 7 1000008).1 (ct2 P 7 1000008).2 ⟨Ex.normal, true, [some (AV.s (Value.string who)), some (AV.s (Value.string to)), some (AV.ptr 65536 0 0), some (AV.ptr 65537 0 0), some (AV.ptr 65540 0 0), some (AV.ptr 65541 0 0)], [OS.o (AO.cells [AV.fz (eL N) N.length [TK.str], AV.fz (eL I) I.length [TK.str, TK.str]] 2 0 true false), OS.o (AO.cells [AV.osl 65538 N.length, AV.osl 65539 I.length] 2 0 true false), OS.o (AO.rows (eL N) N.length [TK.str]), OS.o (AO.rows (eL I) I.length [TK.str, TK.str]), OS.o (AO.cells [AV.xs, AV.xs] 2 65547 true false), OS.o (AO.cells [AV.xs, AV.xs] 2 65559 true false)]⟩))
                                              )
                                              .no
                                            )
                                            .no
                                          )
                                        )
                                        .no
                                      )
                                      .no
                                    )
                                    .no
                                  )
                                  .no
                                )
                                .no
                              )
                            )
                          )
                          .no
                        )
                        .no
                      )
                    )
                    .no
                  )
                  .no
                )
              )
              .no
            )
            .no
          )
          .no
        )
      )
    )
  )
)
theorem rte_hR4 (N : List ByteArray) (I : List (ByteArray × ByteArray)) (who to : ByteArray) (j : Nat → Value) : (from2 Tryd.prog teX3 awakeS 3000 (fun i => ([4, 8, 12, 16] : List Nat).any (Nat.beq i)) 3000 7 1000004 (mkE (rte_cf 1000004) (rte_vR4 N I who to) j) (mkH openB (rte_oR4 N I who to))).map (lookP Tryd.prog (resOf Tryd.prog 7) [] rte_cf) = rte_tR4 Tryd.prog N I who to := by kernel_rfl
def rte_vR8 (N : List ByteArray) (I : List (ByteArray × ByteArray)) (who to : ByteArray) : List AV := [.s (.string who), .s (.string to), .ptr 65536 0 0, .ptr 65537 0 0, .ptr 65540 0 0, .ptr 65541 0 0]
def rte_oR8 (N : List ByteArray) (I : List (ByteArray × ByteArray)) (who to : ByteArray) : List AO := [stO N I, .cells [.osl 65538 N.length, .osl 65539 I.length] 2 0 true false, .rows (eL N) N.length [.str], .rows (eL I) I.length [.str, .str], .cells [.xs, .xs] 2 0 true false, .cells [.xs, .xs] 2 0 true false]
noncomputable def rte_tR8 (P : Program) (N : List ByteArray) (I : List (ByteArray × ByteArray)) (who to : ByteArray) : Br PO :=
(.test (!mayP (dL ByteArray (eL N) N.length) (dL (ByteArray × ByteArray) (eL I) I.length))
  (.test (N.length.ble N.length)
    (.test (I.length.ble I.length)
      (.test (!mayP (dL ByteArray (eL N) N.length) (dL (ByteArray × ByteArray) (eL I) I.length))
        (.test (N.length.ble N.length)
          (.test (I.length.ble I.length)
            (.test (!sameP (dL ByteArray (eL N) N.length) (dL (ByteArray × ByteArray) (eL I) I.length) (dL ByteArray (eL N) N.length) (dL (ByteArray × ByteArray) (eL I) I.length))
              (.leaf (.fin ⟨Ex.ret, true, [some (AV.v (Value.bool false))], []⟩))
              (.test (N.length.ble N.length)
                (.test (I.length.ble I.length)
                  (.test (!sameP (dL ByteArray (eL N) N.length) (dL (ByteArray × ByteArray) (eL I) I.length) (dL ByteArray (eL N) N.length) (dL (ByteArray × ByteArray) (eL I) I.length))
                    (.leaf (.fin ⟨Ex.ret, true, [some (AV.v (Value.bool false))], []⟩))
                    (.leaf (.at 1000012 (ct2 P 7 1000012).1 (ct2 P 7 1000012).2 ⟨Ex.normal, true, [some (AV.s (Value.string who)), some (AV.s (Value.string to)), some (AV.ptr 65536 0 0), some (AV.ptr 65537 0 0), some (AV.ptr 65540 0 0), some (AV.ptr 65541 0 0)], [OS.o (AO.cells [AV.fz (eL N) N.length [TK.str], AV.fz (eL I) I.length [TK.str, TK.str]] 2 0 true false), OS.o (AO.cells [AV.osl 65538 N.length, AV.osl 65539 I.length] 2 0 true false), OS.o (AO.rows (eL N) N.length [TK.str]), OS.o (AO.rows (eL I) I.length [TK.str, TK.str]), OS.o (AO.cells [AV.fz (eL N) N.length [TK.str], AV.fz (eL I) I.length [TK.str, TK.str]] 2 0 true false), OS.o (AO.cells [AV.osl 65538 N.length, AV.osl 65539 I.length] 2 0 true false)]⟩))
                  )
                  .no
                )
                .no
              )
            )
            .no
          )
          .no
        )
        (.test (who.toList == to.toList)
          (.test (N.length.ble N.length)
            (.test (I.length.ble I.length)
              (.test (!sameP (dL ByteArray (eL N) N.length) (dL (ByteArray × ByteArray) (eL I) I.length) (dL ByteArray (eL N) N.length) (dL (ByteArray × ByteArray) (eL I) I.length))
                (.leaf (.fin ⟨Ex.ret, true, [some (AV.v (Value.bool false))], []⟩))
                (.test (N.length.ble N.length)
                  (.test (I.length.ble I.length)
                    (.test (!sameP (dL ByteArray (eL N) N.length) (dL (ByteArray × ByteArray) (eL I) I.length) (dL ByteArray (eL N) N.length) (dL (ByteArray × ByteArray) (eL I) I.length))
                      (.leaf (.fin ⟨Ex.ret, true, [some (AV.v (Value.bool false))], []⟩))
                      (.leaf (.at 1000012 (ct2 P 7 1000012).1 (ct2 P 7 1000012).2 ⟨Ex.normal, true, [some (AV.s (Value.string who)), some (AV.s (Value.string to)), some (AV.ptr 65536 0 0), some (AV.ptr 65537 0 0), some (AV.ptr 65540 0 0), some (AV.ptr 65541 0 0)], [OS.o (AO.cells [AV.fz (eL N) N.length [TK.str], AV.fz (eL I) I.length [TK.str, TK.str]] 2 0 true false), OS.o (AO.cells [AV.osl 65538 N.length, AV.osl 65539 I.length] 2 0 true false), OS.o (AO.rows (eL N) N.length [TK.str]), OS.o (AO.rows (eL I) I.length [TK.str, TK.str]), OS.o (AO.cells [AV.fz (eL N) N.length [TK.str], AV.fz (eL I) I.length [TK.str, TK.str]] 2 0 true false), OS.o (AO.cells [AV.osl 65538 N.length, AV.osl 65539 I.length] 2 0 true false)]⟩))
                    )
                    .no
                  )
                  .no
                )
              )
              .no
            )
            .no
          )
          (.test (N.length.ble N.length)
            (.test (I.length.ble I.length)
              (.test (!inL who (dL ByteArray (eL N) N.length))
                (.leaf (.fin ⟨Ex.ret, true, [some (AV.v (Value.bool false))], []⟩))
                (.test (N.length.ble N.length)
                  (.test (I.length.ble I.length)
                    (.test (!inL to (dL ByteArray (eL N) N.length))
                      (.leaf (.fin ⟨Ex.ret, true, [some (AV.v (Value.bool false))], []⟩))
                      (.test (N.length.ble N.length)
                        (.test (I.length.ble I.length)
                          (.test (decide (idxS (dL (ByteArray × ByteArray) (eL I) I.length) (who, to) ≥ 0))
                            (.leaf (.fin ⟨Ex.ret, true, [some (AV.v (Value.bool false))], []⟩))
                            (.test (N.length.ble N.length && (small N.length && small (Tryd.prog.types[9].bytes * N.length)))
                              (.test (I.length.ble I.length && (small I.length && small (Tryd.prog.types[36].bytes * I.length)))
                                (.test (I.length.beq I.length && (true && (small (1 + I.length) && small (Tryd.prog.types[36].bytes * (1 + I.length)))))
                                  (.leaf (.fin ⟨Ex.ret, true, [some (AV.v (Value.bool false))], []⟩))
                                  .no
                                )
                                .no
                              )
                              .no
                            )
                          )
                          .no
                        )
                        .no
                      )
                    )
                    .no
                  )
                  .no
                )
              )
              .no
            )
            .no
          )
        )
      )
      .no
    )
    .no
  )
  (.test (who.toList == to.toList)
    (.test (N.length.ble N.length)
      (.test (I.length.ble I.length)
        (.test (!mayP (dL ByteArray (eL N) N.length) (dL (ByteArray × ByteArray) (eL I) I.length))
          (.test (N.length.ble N.length)
            (.test (I.length.ble I.length)
              (.test (!sameP (dL ByteArray (eL N) N.length) (dL (ByteArray × ByteArray) (eL I) I.length) (dL ByteArray (eL N) N.length) (dL (ByteArray × ByteArray) (eL I) I.length))
                (.leaf (.fin ⟨Ex.ret, true, [some (AV.v (Value.bool false))], []⟩))
                (.test (N.length.ble N.length)
                  (.test (I.length.ble I.length)
                    (.test (!sameP (dL ByteArray (eL N) N.length) (dL (ByteArray × ByteArray) (eL I) I.length) (dL ByteArray (eL N) N.length) (dL (ByteArray × ByteArray) (eL I) I.length))
                      (.leaf (.fin ⟨Ex.ret, true, [some (AV.v (Value.bool false))], []⟩))
                      (.leaf (.at 1000012 (ct2 P 7 1000012).1 (ct2 P 7 1000012).2 ⟨Ex.normal, true, [some (AV.s (Value.string who)), some (AV.s (Value.string to)), some (AV.ptr 65536 0 0), some (AV.ptr 65537 0 0), some (AV.ptr 65540 0 0), some (AV.ptr 65541 0 0)], [OS.o (AO.cells [AV.fz (eL N) N.length [TK.str], AV.fz (eL I) I.length [TK.str, TK.str]] 2 0 true false), OS.o (AO.cells [AV.osl 65538 N.length, AV.osl 65539 I.length] 2 0 true false), OS.o (AO.rows (eL N) N.length [TK.str]), OS.o (AO.rows (eL I) I.length [TK.str, TK.str]), OS.o (AO.cells [AV.fz (eL N) N.length [TK.str], AV.fz (eL I) I.length [TK.str, TK.str]] 2 0 true false), OS.o (AO.cells [AV.osl 65538 N.length, AV.osl 65539 I.length] 2 0 true false)]⟩))
                    )
                    .no
                  )
                  .no
                )
              )
              .no
            )
            .no
          )
          (.test (who.toList == to.toList)
            (.test (N.length.ble N.length)
              (.test (I.length.ble I.length)
                (.test (!sameP (dL ByteArray (eL N) N.length) (dL (ByteArray × ByteArray) (eL I) I.length) (dL ByteArray (eL N) N.length) (dL (ByteArray × ByteArray) (eL I) I.length))
                  (.leaf (.fin ⟨Ex.ret, true, [some (AV.v (Value.bool false))], []⟩))
                  (.test (N.length.ble N.length)
                    (.test (I.length.ble I.length)
                      (.test (!sameP (dL ByteArray (eL N) N.length) (dL (ByteArray × ByteArray) (eL I) I.length) (dL ByteArray (eL N) N.length) (dL (ByteArray × ByteArray) (eL I) I.length))
                        (.leaf (.fin ⟨Ex.ret, true, [some (AV.v (Value.bool false))], []⟩))
                        (.leaf (.at 1000012 (ct2 P 7 1000012).1 (ct2 P 7 1000012).2 ⟨Ex.normal, true, [some (AV.s (Value.string who)), some (AV.s (Value.string to)), some (AV.ptr 65536 0 0), some (AV.ptr 65537 0 0), some (AV.ptr 65540 0 0), some (AV.ptr 65541 0 0)], [OS.o (AO.cells [AV.fz (eL N) N.length [TK.str], AV.fz (eL I) I.length [TK.str, TK.str]] 2 0 true false), OS.o (AO.cells [AV.osl 65538 N.length, AV.osl 65539 I.length] 2 0 true false), OS.o (AO.rows (eL N) N.length [TK.str]), OS.o (AO.rows (eL I) I.length [TK.str, TK.str]), OS.o (AO.cells [AV.fz (eL N) N.length [TK.str], AV.fz (eL I) I.length [TK.str, TK.str]] 2 0 true false), OS.o (AO.cells [AV.osl 65538 N.length, AV.osl 65539 I.length] 2 0 true false)]⟩))
                      )
                      .no
                    )
                    .no
                  )
                )
                .no
              )
              .no
            )
            (.test (N.length.ble N.length)
              (.test (I.length.ble I.length)
                (.test (!inL who (dL ByteArray (eL N) N.length))
                  (.leaf (.fin ⟨Ex.ret, true, [some (AV.v (Value.bool false))], []⟩))
                  (.test (N.length.ble N.length)
                    (.test (I.length.ble I.length)
                      (.test (!inL to (dL ByteArray (eL N) N.length))
                        (.leaf (.fin ⟨Ex.ret, true, [some (AV.v (Value.bool false))], []⟩))
                        (.test (N.length.ble N.length)
                          (.test (I.length.ble I.length)
                            (.test (decide (idxS (dL (ByteArray × ByteArray) (eL I) I.length) (who, to) ≥ 0))
                              (.leaf (.fin ⟨Ex.ret, true, [some (AV.v (Value.bool false))], []⟩))
                              (.test (N.length.ble N.length && (small N.length && small (Tryd.prog.types[9].bytes * N.length)))
                                (.test (I.length.ble I.length && (small I.length && small (Tryd.prog.types[36].bytes * I.length)))
                                  (.test (I.length.beq I.length && (true && (small (1 + I.length) && small (Tryd.prog.types[36].bytes * (1 + I.length)))))
                                    (.leaf (.fin ⟨Ex.ret, true, [some (AV.v (Value.bool false))], []⟩))
                                    .no
                                  )
                                  .no
                                )
                                .no
                              )
                            )
                            .no
                          )
                          .no
                        )
                      )
                      .no
                    )
                    .no
                  )
                )
                .no
              )
              .no
            )
          )
        )
        .no
      )
      .no
    )
    (.test (!decide (idxS (dL ByteArray (eL N) N.length) who ≥ 0))
      (.test (N.length.ble N.length)
        (.test (I.length.ble I.length)
          (.test (!mayP (dL ByteArray (eL N) N.length) (dL (ByteArray × ByteArray) (eL I) I.length))
            (.leaf (.fin ⟨Ex.ret, true, [some (AV.v (Value.bool false))], []⟩))
            (.test (who.toList == to.toList)
              (.leaf (.fin ⟨Ex.ret, true, [some (AV.v (Value.bool false))], []⟩))
              (.test (N.length.ble N.length)
                (.test (I.length.ble I.length)
                  (.test (!inL who (dL ByteArray (eL N) N.length))
                    (.test (N.length.ble N.length)
                      (.test (I.length.ble I.length)
                        (.test (!sameP (dL ByteArray (eL N) N.length) (dL (ByteArray × ByteArray) (eL I) I.length) (dL ByteArray (eL N) N.length) (dL (ByteArray × ByteArray) (eL I) I.length))
                          (.leaf (.fin ⟨Ex.ret, true, [some (AV.v (Value.bool false))], []⟩))
                          (.test (N.length.ble N.length)
                            (.test (I.length.ble I.length)
                              (.test (!sameP (dL ByteArray (eL N) N.length) (dL (ByteArray × ByteArray) (eL I) I.length) (dL ByteArray (eL N) N.length) (dL (ByteArray × ByteArray) (eL I) I.length))
                                (.leaf (.fin ⟨Ex.ret, true, [some (AV.v (Value.bool false))], []⟩))
                                (.leaf (.at 1000012 (ct2 P 7 1000012).1 (ct2 P 7 1000012).2 ⟨Ex.normal, true, [some (AV.s (Value.string who)), some (AV.s (Value.string to)), some (AV.ptr 65536 0 0), some (AV.ptr 65537 0 0), some (AV.ptr 65540 0 0), some (AV.ptr 65541 0 0)], [OS.o (AO.cells [AV.fz (eL N) N.length [TK.str], AV.fz (eL I) I.length [TK.str, TK.str]] 2 0 true false), OS.o (AO.cells [AV.osl 65538 N.length, AV.osl 65539 I.length] 2 0 true false), OS.o (AO.rows (eL N) N.length [TK.str]), OS.o (AO.rows (eL I) I.length [TK.str, TK.str]), OS.o (AO.cells [AV.fz (eL N) N.length [TK.str], AV.fz (eL I) I.length [TK.str, TK.str]] 2 0 true false), OS.o (AO.cells [AV.osl 65538 N.length, AV.osl 65539 I.length] 2 0 true false)]⟩))
                              )
                              .no
                            )
                            .no
                          )
                        )
                        .no
                      )
                      .no
                    )
                    (.test (N.length.ble N.length)
                      (.test (I.length.ble I.length)
                        (.test (!inL to (dL ByteArray (eL N) N.length))
                          (.test (N.length.ble N.length)
                            (.test (I.length.ble I.length)
                              (.test (!sameP (dL ByteArray (eL N) N.length) (dL (ByteArray × ByteArray) (eL I) I.length) (dL ByteArray (eL N) N.length) (dL (ByteArray × ByteArray) (eL I) I.length))
                                (.leaf (.fin ⟨Ex.ret, true, [some (AV.v (Value.bool false))], []⟩))
                                (.test (N.length.ble N.length)
                                  (.test (I.length.ble I.length)
                                    (.test (!sameP (dL ByteArray (eL N) N.length) (dL (ByteArray × ByteArray) (eL I) I.length) (dL ByteArray (eL N) N.length) (dL (ByteArray × ByteArray) (eL I) I.length))
                                      (.leaf (.fin ⟨Ex.ret, true, [some (AV.v (Value.bool false))], []⟩))
                                      (.leaf (.at 1000012 (ct2 P 7 1000012).1 (ct2 P 7 1000012).2 ⟨Ex.normal, true, [some (AV.s (Value.string who)), some (AV.s (Value.string to)), some (AV.ptr 65536 0 0), some (AV.ptr 65537 0 0), some (AV.ptr 65540 0 0), some (AV.ptr 65541 0 0)], [OS.o (AO.cells [AV.fz (eL N) N.length [TK.str], AV.fz (eL I) I.length [TK.str, TK.str]] 2 0 true false), OS.o (AO.cells [AV.osl 65538 N.length, AV.osl 65539 I.length] 2 0 true false), OS.o (AO.rows (eL N) N.length [TK.str]), OS.o (AO.rows (eL I) I.length [TK.str, TK.str]), OS.o (AO.cells [AV.fz (eL N) N.length [TK.str], AV.fz (eL I) I.length [TK.str, TK.str]] 2 0 true false), OS.o (AO.cells [AV.osl 65538 N.length, AV.osl 65539 I.length] 2 0 true false)]⟩))
                                    )
                                    .no
                                  )
                                  .no
                                )
                              )
                              .no
                            )
                            .no
                          )
                          (.test (N.length.ble N.length)
                            (.test (I.length.ble I.length)
                              (.test (decide (idxS (dL (ByteArray × ByteArray) (eL I) I.length) (who, to) ≥ 0))
                                (.leaf (.fin ⟨Ex.ret, true, [some (AV.v (Value.bool false))], []⟩))
                                (.test (N.length.ble N.length && (small N.length && small (Tryd.prog.types[9].bytes * N.length)))
                                  (.test (I.length.ble I.length && (small I.length && small (Tryd.prog.types[36].bytes * I.length)))
                                    (.test (I.length.beq I.length && (true && (small (1 + I.length) && small (Tryd.prog.types[36].bytes * (1 + I.length)))))
                                      (.leaf (.fin ⟨Ex.ret, true, [some (AV.v (Value.bool false))], []⟩))
                                      .no
                                    )
                                    .no
                                  )
                                  .no
                                )
                              )
                              .no
                            )
                            .no
                          )
                        )
                        .no
                      )
                      .no
                    )
                  )
                  .no
                )
                .no
              )
            )
          )
          .no
        )
        .no
      )
      (.test (!decide (idxS (dL ByteArray (eL N) N.length) to ≥ 0))
        (.test (N.length.ble N.length)
          (.test (I.length.ble I.length)
            (.test (!mayP (dL ByteArray (eL N) N.length) (dL (ByteArray × ByteArray) (eL I) I.length))
              (.leaf (.fin ⟨Ex.ret, true, [some (AV.v (Value.bool false))], []⟩))
              (.test (who.toList == to.toList)
                (.leaf (.fin ⟨Ex.ret, true, [some (AV.v (Value.bool false))], []⟩))
                (.test (N.length.ble N.length)
                  (.test (I.length.ble I.length)
                    (.test (!inL who (dL ByteArray (eL N) N.length))
                      (.test (N.length.ble N.length)
                        (.test (I.length.ble I.length)
                          (.test (!sameP (dL ByteArray (eL N) N.length) (dL (ByteArray × ByteArray) (eL I) I.length) (dL ByteArray (eL N) N.length) (dL (ByteArray × ByteArray) (eL I) I.length))
                            (.leaf (.fin ⟨Ex.ret, true, [some (AV.v (Value.bool false))], []⟩))
                            (.test (N.length.ble N.length)
                              (.test (I.length.ble I.length)
                                (.test (!sameP (dL ByteArray (eL N) N.length) (dL (ByteArray × ByteArray) (eL I) I.length) (dL ByteArray (eL N) N.length) (dL (ByteArray × ByteArray) (eL I) I.length))
                                  (.leaf (.fin ⟨Ex.ret, true, [some (AV.v (Value.bool false))], []⟩))
                                  (.leaf (.at 1000012 (ct2 P 7 1000012).1 (ct2 P 7 1000012).2 ⟨Ex.normal, true, [some (AV.s (Value.string who)), some (AV.s (Value.string to)), some (AV.ptr 65536 0 0), some (AV.ptr 65537 0 0), some (AV.ptr 65540 0 0), some (AV.ptr 65541 0 0)], [OS.o (AO.cells [AV.fz (eL N) N.length [TK.str], AV.fz (eL I) I.length [TK.str, TK.str]] 2 0 true false), OS.o (AO.cells [AV.osl 65538 N.length, AV.osl 65539 I.length] 2 0 true false), OS.o (AO.rows (eL N) N.length [TK.str]), OS.o (AO.rows (eL I) I.length [TK.str, TK.str]), OS.o (AO.cells [AV.fz (eL N) N.length [TK.str], AV.fz (eL I) I.length [TK.str, TK.str]] 2 0 true false), OS.o (AO.cells [AV.osl 65538 N.length, AV.osl 65539 I.length] 2 0 true false)]⟩))
                                )
                                .no
                              )
                              .no
                            )
                          )
                          .no
                        )
                        .no
                      )
                      (.test (N.length.ble N.length)
                        (.test (I.length.ble I.length)
                          (.test (!inL to (dL ByteArray (eL N) N.length))
                            (.test (N.length.ble N.length)
                              (.test (I.length.ble I.length)
                                (.test (!sameP (dL ByteArray (eL N) N.length) (dL (ByteArray × ByteArray) (eL I) I.length) (dL ByteArray (eL N) N.length) (dL (ByteArray × ByteArray) (eL I) I.length))
                                  (.leaf (.fin ⟨Ex.ret, true, [some (AV.v (Value.bool false))], []⟩))
                                  (.test (N.length.ble N.length)
                                    (.test (I.length.ble I.length)
                                      (.test (!sameP (dL ByteArray (eL N) N.length) (dL (ByteArray × ByteArray) (eL I) I.length) (dL ByteArray (eL N) N.length) (dL (ByteArray × ByteArray) (eL I) I.length))
                                        (.leaf (.fin ⟨Ex.ret, true, [some (AV.v (Value.bool false))], []⟩))
                                        (.leaf (.at 1000012 (ct2 P 7 1000012).1 (ct2 P 7 1000012).2 ⟨Ex.normal, true, [some (AV.s (Value.string who)), some (AV.s (Value.string to)), some (AV.ptr 65536 0 0), some (AV.ptr 65537 0 0), some (AV.ptr 65540 0 0), some (AV.ptr 65541 0 0)], [OS.o (AO.cells [AV.fz (eL N) N.length [TK.str], AV.fz (eL I) I.length [TK.str, TK.str]] 2 0 true false), OS.o (AO.cells [AV.osl 65538 N.length, AV.osl 65539 I.length] 2 0 true false), OS.o (AO.rows (eL N) N.length [TK.str]), OS.o (AO.rows (eL I) I.length [TK.str, TK.str]), OS.o (AO.cells [AV.fz (eL N) N.length [TK.str], AV.fz (eL I) I.length [TK.str, TK.str]] 2 0 true false), OS.o (AO.cells [AV.osl 65538 N.length, AV.osl 65539 I.length] 2 0 true false)]⟩))
                                      )
                                      .no
                                    )
                                    .no
                                  )
                                )
                                .no
                              )
                              .no
                            )
                            (.test (N.length.ble N.length)
                              (.test (I.length.ble I.length)
                                (.test (decide (idxS (dL (ByteArray × ByteArray) (eL I) I.length) (who, to) ≥ 0))
                                  (.leaf (.fin ⟨Ex.ret, true, [some (AV.v (Value.bool false))], []⟩))
                                  (.test (N.length.ble N.length && (small N.length && small (Tryd.prog.types[9].bytes * N.length)))
                                    (.test (I.length.ble I.length && (small I.length && small (Tryd.prog.types[36].bytes * I.length)))
                                      (.test (I.length.beq I.length && (true && (small (1 + I.length) && small (Tryd.prog.types[36].bytes * (1 + I.length)))))
                                        (.leaf (.fin ⟨Ex.ret, true, [some (AV.v (Value.bool false))], []⟩))
                                        .no
                                      )
                                      .no
                                    )
                                    .no
                                  )
                                )
                                .no
                              )
                              .no
                            )
                          )
                          .no
                        )
                        .no
                      )
                    )
                    .no
                  )
                  .no
                )
              )
            )
            .no
          )
          .no
        )
        (.test (decide (idxS (dL (ByteArray × ByteArray) (eL I) I.length) (who, to) ≥ 0))
          (.test (N.length.ble N.length)
            (.test (I.length.ble I.length)
              (.test (!mayP (dL ByteArray (eL N) N.length) (dL (ByteArray × ByteArray) (eL I) I.length))
                (.leaf (.fin ⟨Ex.ret, true, [some (AV.v (Value.bool false))], []⟩))
                (.test (who.toList == to.toList)
                  (.leaf (.fin ⟨Ex.ret, true, [some (AV.v (Value.bool false))], []⟩))
                  (.test (N.length.ble N.length)
                    (.test (I.length.ble I.length)
                      (.test (!inL who (dL ByteArray (eL N) N.length))
                        (.leaf (.fin ⟨Ex.ret, true, [some (AV.v (Value.bool false))], []⟩))
                        (.test (N.length.ble N.length)
                          (.test (I.length.ble I.length)
                            (.test (!inL to (dL ByteArray (eL N) N.length))
                              (.leaf (.fin ⟨Ex.ret, true, [some (AV.v (Value.bool false))], []⟩))
                              (.test (N.length.ble N.length)
                                (.test (I.length.ble I.length)
                                  (.test (decide (idxS (dL (ByteArray × ByteArray) (eL I) I.length) (who, to) ≥ 0))
                                    (.test (N.length.ble N.length)
                                      (.test (I.length.ble I.length)
                                        (.test (!sameP (dL ByteArray (eL N) N.length) (dL (ByteArray × ByteArray) (eL I) I.length) (dL ByteArray (eL N) N.length) (dL (ByteArray × ByteArray) (eL I) I.length))
                                          (.leaf (.fin ⟨Ex.ret, true, [some (AV.v (Value.bool false))], []⟩))
                                          (.test (N.length.ble N.length)
                                            (.test (I.length.ble I.length)
                                              (.test (!sameP (dL ByteArray (eL N) N.length) (dL (ByteArray × ByteArray) (eL I) I.length) (dL ByteArray (eL N) N.length) (dL (ByteArray × ByteArray) (eL I) I.length))
                                                (.leaf (.fin ⟨Ex.ret, true, [some (AV.v (Value.bool false))], []⟩))
                                                (.leaf (.at 1000012 (ct2 P 7 1000012).1 (ct2 P 7 1000012).2 ⟨Ex.normal, true, [some (AV.s (Value.string who)), some (AV.s (Value.string to)), some (AV.ptr 65536 0 0), some (AV.ptr 65537 0 0), some (AV.ptr 65540 0 0), some (AV.ptr 65541 0 0)], [OS.o (AO.cells [AV.fz (eL N) N.length [TK.str], AV.fz (eL I) I.length [TK.str, TK.str]] 2 0 true false), OS.o (AO.cells [AV.osl 65538 N.length, AV.osl 65539 I.length] 2 0 true false), OS.o (AO.rows (eL N) N.length [TK.str]), OS.o (AO.rows (eL I) I.length [TK.str, TK.str]), OS.o (AO.cells [AV.fz (eL N) N.length [TK.str], AV.fz (eL I) I.length [TK.str, TK.str]] 2 0 true false), OS.o (AO.cells [AV.osl 65538 N.length, AV.osl 65539 I.length] 2 0 true false)]⟩))
                                              )
                                              .no
                                            )
                                            .no
                                          )
                                        )
                                        .no
                                      )
                                      .no
                                    )
                                    (.test (N.length.ble N.length && (small N.length && small (Tryd.prog.types[9].bytes * N.length)))
                                      (.test (I.length.ble I.length && (small I.length && small (Tryd.prog.types[36].bytes * I.length)))
                                        (.test (I.length.beq I.length && (true && (small (1 + I.length) && small (Tryd.prog.types[36].bytes * (1 + I.length)))))
                                          (.leaf (.fin ⟨Ex.ret, true, [some (AV.v (Value.bool false))], []⟩))
                                          .no
                                        )
                                        .no
                                      )
                                      .no
                                    )
                                  )
                                  .no
                                )
                                .no
                              )
                            )
                            .no
                          )
                          .no
                        )
                      )
                      .no
                    )
                    .no
                  )
                )
              )
              .no
            )
            .no
          )
          (.test (N.length.ble 1000000)
            (.test (I.length.ble 1000000)
              (.test (I.length.beq I.length && (true && (small (1 + I.length) && small (Tryd.prog.types[36].bytes * (1 + I.length)))))
                (.test (N.length.ble N.length)
                  (.test (I.length.ble I.length)
                    (.test (!mayP (dL ByteArray (eL N) N.length) (dL (ByteArray × ByteArray) (eL I) I.length))
                      (.test (N.length.beq N.length && I.length.beq I.length && (N.length.beq N.length && (I.length + 1).beq (I.length + 1)))
                        (.test (N.length.ble 1000000 && (I.length + 1).ble 1000000)
                          (.test (true)
                            (.leaf (.fin ⟨Ex.ret, true, [some (AV.v (Value.bool false))], []⟩))
                            (.test (N.length.ble (dL ByteArray (eL N) N.length).length)
                              (.test (I.length.ble (dL (ByteArray × ByteArray) (eL I) I.length).length)
                                (.test (!sameP (dL ByteArray (eL N) N.length) (dL (ByteArray × ByteArray) (eL I) I.length) (dL ByteArray (eL (dL ByteArray (eL N) N.length)) N.length) (dL (ByteArray × ByteArray) (eL (dL (ByteArray × ByteArray) (eL I) I.length)) I.length))
                                  (.leaf (.fin ⟨Ex.ret, true, [some (AV.v (Value.bool false))], []⟩))
                                  (.leaf (.at 1000012 (ct2 P 7 1000012).1 (ct2 P 7 1000012).2 ⟨Ex.normal, true, [some (AV.s (Value.string who)), some (AV.s (Value.string to)), some (AV.ptr 65536 0 0), some (AV.ptr 65537 0 0), some (AV.ptr 65540 0 0), some (AV.ptr 65541 0 0)], [OS.o (AO.cells [AV.fz (eL N) N.length [TK.str], AV.fz (eL I) I.length [TK.str, TK.str]] 2 0 true false), OS.o (AO.cells [AV.osl 65538 N.length, AV.osl 65539 I.length] 2 0 true false), OS.o (AO.rows (eL (dL ByteArray (eL N) N.length)) (dL ByteArray (eL N) N.length).length [TK.str]), OS.o (AO.rows (eL (dL (ByteArray × ByteArray) (eL I) I.length)) (dL (ByteArray × ByteArray) (eL I) I.length).length [TK.str, TK.str]), OS.o (AO.cells [AV.xs, AV.xs] 2 0 true false), OS.o (AO.cells [AV.osl 65538 N.length, AV.osl 65539 I.length] 2 0 true false)]⟩))
                                )
                                .no
                              )
                              .no
                            )
                          )
                          .no
                        )
                        .no
                      )
                      (.test (who.toList == to.toList)
                        (.test (N.length.beq N.length && I.length.beq I.length && (N.length.beq N.length && (I.length + 1).beq (I.length + 1)))
                          (.test (N.length.ble 1000000 && (I.length + 1).ble 1000000)
                            (.test (true)
                              (.leaf (.fin ⟨Ex.ret, true, [some (AV.v (Value.bool false))], []⟩))
                              (.test (N.length.ble (dL ByteArray (eL N) N.length).length)
                                (.test (I.length.ble (dL (ByteArray × ByteArray) (eL I) I.length).length)
                                  (.test (!sameP (dL ByteArray (eL N) N.length) (dL (ByteArray × ByteArray) (eL I) I.length) (dL ByteArray (eL (dL ByteArray (eL N) N.length)) N.length) (dL (ByteArray × ByteArray) (eL (dL (ByteArray × ByteArray) (eL I) I.length)) I.length))
                                    (.leaf (.fin ⟨Ex.ret, true, [some (AV.v (Value.bool false))], []⟩))
                                    (.leaf (.at 1000012 (ct2 P 7 1000012).1 (ct2 P 7 1000012).2 ⟨Ex.normal, true, [some (AV.s (Value.string who)), some (AV.s (Value.string to)), some (AV.ptr 65536 0 0), some (AV.ptr 65537 0 0), some (AV.ptr 65540 0 0), some (AV.ptr 65541 0 0)], [OS.o (AO.cells [AV.fz (eL N) N.length [TK.str], AV.fz (eL I) I.length [TK.str, TK.str]] 2 0 true false), OS.o (AO.cells [AV.osl 65538 N.length, AV.osl 65539 I.length] 2 0 true false), OS.o (AO.rows (eL (dL ByteArray (eL N) N.length)) (dL ByteArray (eL N) N.length).length [TK.str]), OS.o (AO.rows (eL (dL (ByteArray × ByteArray) (eL I) I.length)) (dL (ByteArray × ByteArray) (eL I) I.length).length [TK.str, TK.str]), OS.o (AO.cells [AV.xs, AV.xs] 2 0 true false), OS.o (AO.cells [AV.osl 65538 N.length, AV.osl 65539 I.length] 2 0 true false)]⟩))
                                  )
                                  .no
                                )
                                .no
                              )
                            )
                            .no
                          )
                          .no
                        )
                        (.test (N.length.ble N.length)
                          (.test (I.length.ble I.length)
                            (.test (!inL who (dL ByteArray (eL N) N.length))
                              (.test (N.length.beq N.length && I.length.beq I.length && (N.length.beq N.length && (I.length + 1).beq (I.length + 1)))
                                (.test (N.length.ble 1000000 && (I.length + 1).ble 1000000)
                                  (.test (true)
                                    (.leaf (.fin ⟨Ex.ret, true, [some (AV.v (Value.bool false))], []⟩))
                                    (.test (N.length.ble (dL ByteArray (eL N) N.length).length)
                                      (.test (I.length.ble (dL (ByteArray × ByteArray) (eL I) I.length).length)
                                        (.test (!sameP (dL ByteArray (eL N) N.length) (dL (ByteArray × ByteArray) (eL I) I.length) (dL ByteArray (eL (dL ByteArray (eL N) N.length)) N.length) (dL (ByteArray × ByteArray) (eL (dL (ByteArray × ByteArray) (eL I) I.length)) I.length))
                                          (.leaf (.fin ⟨Ex.ret, true, [some (AV.v (Value.bool false))], []⟩))
                                          (.leaf (.at 1000012 (ct2 P 7 1000012).1 (ct2 P 7 1000012).2 ⟨Ex.normal, true, [some (AV.s (Value.string who)), some (AV.s (Value.string to)), some (AV.ptr 65536 0 0), some (AV.ptr 65537 0 0), some (AV.ptr 65540 0 0), some (AV.ptr 65541 0 0)], [OS.o (AO.cells [AV.fz (eL N) N.length [TK.str], AV.fz (eL I) I.length [TK.str, TK.str]] 2 0 true false), OS.o (AO.cells [AV.osl 65538 N.length, AV.osl 65539 I.length] 2 0 true false), OS.o (AO.rows (eL (dL ByteArray (eL N) N.length)) (dL ByteArray (eL N) N.length).length [TK.str]), OS.o (AO.rows (eL (dL (ByteArray × ByteArray) (eL I) I.length)) (dL (ByteArray × ByteArray) (eL I) I.length).length [TK.str, TK.str]), OS.o (AO.cells [AV.xs, AV.xs] 2 0 true false), OS.o (AO.cells [AV.osl 65538 N.length, AV.osl 65539 I.length] 2 0 true false)]⟩))
                                        )
                                        .no
                                      )
                                      .no
                                    )
                                  )
                                  .no
                                )
                                .no
                              )
                              (.test (N.length.ble N.length)
                                (.test (I.length.ble I.length)
                                  (.test (!inL to (dL ByteArray (eL N) N.length))
                                    (.test (N.length.beq N.length && I.length.beq I.length && (N.length.beq N.length && (I.length + 1).beq (I.length + 1)))
                                      (.test (N.length.ble 1000000 && (I.length + 1).ble 1000000)
                                        (.test (true)
                                          (.leaf (.fin ⟨Ex.ret, true, [some (AV.v (Value.bool false))], []⟩))
                                          (.test (N.length.ble (dL ByteArray (eL N) N.length).length)
                                            (.test (I.length.ble (dL (ByteArray × ByteArray) (eL I) I.length).length)
                                              (.test (!sameP (dL ByteArray (eL N) N.length) (dL (ByteArray × ByteArray) (eL I) I.length) (dL ByteArray (eL (dL ByteArray (eL N) N.length)) N.length) (dL (ByteArray × ByteArray) (eL (dL (ByteArray × ByteArray) (eL I) I.length)) I.length))
                                                (.leaf (.fin ⟨Ex.ret, true, [some (AV.v (Value.bool false))], []⟩))
                                                (.leaf (.at 1000012 (ct2 P 7 1000012).1 (ct2 P 7 1000012).2 ⟨Ex.normal, true, [some (AV.s (Value.string who)), some (AV.s (Value.string to)), some (AV.ptr 65536 0 0), some (AV.ptr 65537 0 0), some (AV.ptr 65540 0 0), some (AV.ptr 65541 0 0)], [OS.o (AO.cells [AV.fz (eL N) N.length [TK.str], AV.fz (eL I) I.length [TK.str, TK.str]] 2 0 true false), OS.o (AO.cells [AV.osl 65538 N.length, AV.osl 65539 I.length] 2 0 true false), OS.o (AO.rows (eL (dL ByteArray (eL N) N.length)) (dL ByteArray (eL N) N.length).length [TK.str]), OS.o (AO.rows (eL (dL (ByteArray × ByteArray) (eL I) I.length)) (dL (ByteArray × ByteArray) (eL I) I.length).length [TK.str, TK.str]), OS.o (AO.cells [AV.xs, AV.xs] 2 0 true false), OS.o (AO.cells [AV.osl 65538 N.length, AV.osl 65539 I.length] 2 0 true false)]⟩))
                                              )
                                              .no
                                            )
                                            .no
                                          )
                                        )
                                        .no
                                      )
                                      .no
                                    )
                                    (.test (N.length.ble N.length)
                                      (.test (I.length.ble I.length)
                                        (.test (decide (idxS (dL (ByteArray × ByteArray) (eL I) I.length) (who, to) ≥ 0))
                                          (.test (N.length.beq N.length && I.length.beq I.length && (N.length.beq N.length && (I.length + 1).beq (I.length + 1)))
                                            (.test (N.length.ble 1000000 && (I.length + 1).ble 1000000)
                                              (.test (true)
                                                (.leaf (.fin ⟨Ex.ret, true, [some (AV.v (Value.bool false))], []⟩))
                                                (.test (N.length.ble (dL ByteArray (eL N) N.length).length)
                                                  (.test (I.length.ble (dL (ByteArray × ByteArray) (eL I) I.length).length)
                                                    (.test (!sameP (dL ByteArray (eL N) N.length) (dL (ByteArray × ByteArray) (eL I) I.length) (dL ByteArray (eL (dL ByteArray (eL N) N.length)) N.length) (dL (ByteArray × ByteArray) (eL (dL (ByteArray × ByteArray) (eL I) I.length)) I.length))
                                                      (.leaf (.fin ⟨Ex.ret, true, [some (AV.v (Value.bool false))], []⟩))
                                                      (.leaf (.at 1000012 (ct2 P 7 1000012).1 (ct2 P 7 1000012).2 ⟨Ex.normal, true, [some (AV.s (Value.string who)), some (AV.s (Value.string to)), some (AV.ptr 65536 0 0), some (AV.ptr 65537 0 0), some (AV.ptr 65540 0 0), some (AV.ptr 65541 0 0)], [OS.o (AO.cells [AV.fz (eL N) N.length [TK.str], AV.fz (eL I) I.length [TK.str, TK.str]] 2 0 true false), OS.o (AO.cells [AV.osl 65538 N.length, AV.osl 65539 I.length] 2 0 true false), OS.o (AO.rows (eL (dL ByteArray (eL N) N.length)) (dL ByteArray (eL N) N.length).length [TK.str]), OS.o (AO.rows (eL (dL (ByteArray × ByteArray) (eL I) I.length)) (dL (ByteArray × ByteArray) (eL I) I.length).length [TK.str, TK.str]), OS.o (AO.cells [AV.xs, AV.xs] 2 0 true false), OS.o (AO.cells [AV.osl 65538 N.length, AV.osl 65539 I.length] 2 0 true false)]⟩))
                                                    )
                                                    .no
                                                  )
                                                  .no
                                                )
                                              )
                                              .no
                                            )
                                            .no
                                          )
                                          (.test (N.length.ble N.length && (small N.length && small (Tryd.prog.types[9].bytes * N.length)))
                                            (.test (I.length.ble I.length && (small I.length && small (Tryd.prog.types[36].bytes * I.length)))
                                              (.test (I.length.beq I.length && (true && (small (1 + I.length) && small (Tryd.prog.types[36].bytes * (1 + I.length)))))
                                                (.test (N.length.beq N.length && (I.length + 1).beq (I.length + 1) && (N.length.beq N.length && (I.length + 1).beq (I.length + 1)))
                                                  (.test (N.length.ble 1000000 && (I.length + 1).ble 1000000)
                                                    (.test (!lsP (dL ByteArray (eL N) N.length) (dL (ByteArray × ByteArray) (catD (eL I) I.length (listD [D.v (Value.string who), D.v (Value.string to)] [TK.str, TK.str].length)) (I.length + 1)) (dL ByteArray (eL N) N.length) (dL (ByteArray × ByteArray) (catD (eL I) I.length (listD [D.v (Value.string who), D.v (Value.string to)] [TK.str, TK.str].length)) (I.length + 1)) 0)
                                                      (.leaf (.fin ⟨Ex.ret, true, [some (AV.v (Value.bool false))], []⟩))
                                                      (.test (N.length.ble N.length)
                                                        (.test (I.length.ble I.length)
                                                          (.test (!sameP (dL ByteArray (eL N) N.length) (dL (ByteArray × ByteArray) (eL I) I.length) (dL ByteArray (eL N) N.length) (dL (ByteArray × ByteArray) (eL I) I.length))
                                                            (.leaf (.fin ⟨Ex.ret, true, [some (AV.v (Value.bool false))], []⟩))
                                                            (.leaf (.at 1000012 (ct2 P 7 1000012).1 (ct2 P 7 1000012).2 ⟨Ex.normal, true, [some (AV.s (Value.string who)), some (AV.s (Value.string to)), some (AV.ptr 65536 0 0), some (AV.ptr 65537 0 0), some (AV.ptr 65540 0 0), some (AV.ptr 65541 0 0)], [OS.o (AO.cells [AV.fz (eL N) N.length [TK.str], AV.fz (eL I) I.length [TK.str, TK.str]] 2 0 true false), OS.o (AO.cells [AV.osl 65538 N.length, AV.osl 65539 I.length] 2 0 true false), OS.o (AO.rows (eL N) N.length [TK.str]), OS.o (AO.rows (eL I) I.length [TK.str, TK.str]), OS.o (AO.cells [AV.xs, AV.xs] 2 0 true false), OS.o (AO.cells [AV.xs, AV.xs] 2 0 true false)]⟩))
                                                          )
                                                          .no
                                                        )
                                                        .no
                                                      )
                                                    )
                                                    .no
                                                  )
                                                  .no
                                                )
                                                .no
                                              )
                                              .no
                                            )
                                            .no
                                          )
                                        )
                                        .no
                                      )
                                      .no
                                    )
                                  )
                                  .no
                                )
                                .no
                              )
                            )
                            .no
                          )
                          .no
                        )
                      )
                    )
                    .no
                  )
                  .no
                )
                .no
              )
              .no
            )
            .no
          )
        )
      )
    )
  )
)
theorem rte_hR8 (N : List ByteArray) (I : List (ByteArray × ByteArray)) (who to : ByteArray) (j : Nat → Value) : (from2 Tryd.prog teX3 awakeS 3000 (fun i => ([4, 8, 12, 16] : List Nat).any (Nat.beq i)) 3000 7 1000008 (mkE (rte_cf 1000008) (rte_vR8 N I who to) j) (mkH openB (rte_oR8 N I who to))).map (lookP Tryd.prog (resOf Tryd.prog 7) [] rte_cf) = rte_tR8 Tryd.prog N I who to := by kernel_rfl
def rte_vR12 (N : List ByteArray) (I : List (ByteArray × ByteArray)) (who to : ByteArray) : List AV := [.s (.string who), .s (.string to), .ptr 65536 0 0, .ptr 65537 0 0, .ptr 65540 0 0, .ptr 65541 0 0]
def rte_oR12 (N : List ByteArray) (I : List (ByteArray × ByteArray)) (who to : ByteArray) : List AO := [stO N I, .cells [.osl 65538 N.length, .osl 65539 I.length] 2 0 true false, .rows (eL N) N.length [.str], .rows (eL I) I.length [.str, .str], .cells [.xs, .xs] 2 0 true false, .cells [.xs, .xs] 2 0 true false]
noncomputable def rte_tR12 (P : Program) (N : List ByteArray) (I : List (ByteArray × ByteArray)) (who to : ByteArray) : Br PO :=
(.test (!mayP (dL ByteArray (eL N) N.length) (dL (ByteArray × ByteArray) (eL I) I.length))
  (.test (N.length.beq N.length && I.length.beq I.length && (N.length.ble 1000000 && I.length.ble 1000000))
    (.test (!mayP (dL ByteArray (eL N) N.length) (dL (ByteArray × ByteArray) (eL I) I.length))
      (.test ((dL ByteArray (eL N) N.length).length.ble (dL ByteArray (eL N) N.length).length)
        (.test ((dL (ByteArray × ByteArray) (eL I) I.length).length.ble (dL (ByteArray × ByteArray) (eL I) I.length).length)
          (.test (!sameP (dL ByteArray (eL N) N.length) (dL (ByteArray × ByteArray) (eL I) I.length) (dL ByteArray (eL (dL ByteArray (eL N) N.length)) (dL ByteArray (eL N) N.length).length) (dL (ByteArray × ByteArray) (eL (dL (ByteArray × ByteArray) (eL I) I.length)) (dL (ByteArray × ByteArray) (eL I) I.length).length))
            (.leaf (.fin ⟨Ex.ret, true, [some (AV.v (Value.bool false))], []⟩))
            (.test (N.length.ble (dL ByteArray (eL N) N.length).length)
              (.test (I.length.ble (dL (ByteArray × ByteArray) (eL I) I.length).length)
                (.test (!sameP (dL ByteArray (eL N) N.length) (dL (ByteArray × ByteArray) (eL I) I.length) (dL ByteArray (eL (dL ByteArray (eL N) N.length)) N.length) (dL (ByteArray × ByteArray) (eL (dL (ByteArray × ByteArray) (eL I) I.length)) I.length))
                  (.leaf (.fin ⟨Ex.ret, true, [some (AV.v (Value.bool false))], []⟩))
                  (.leaf (.at 1000016 (ct2 P 7 1000016).1 (ct2 P 7 1000016).2 ⟨Ex.normal, true, [some (AV.s (Value.string who)), some (AV.s (Value.string to)), some (AV.ptr 65536 0 0), some (AV.ptr 65537 0 0)], [OS.o (AO.cells [AV.fz (eL N) N.length [TK.str], AV.fz (eL I) I.length [TK.str, TK.str]] 2 0 true false), OS.o (AO.cells [AV.osl 65538 N.length, AV.osl 65539 I.length] 2 0 true false), OS.o (AO.rows (eL (dL ByteArray (eL N) N.length)) (dL ByteArray (eL N) N.length).length [TK.str]), OS.o (AO.rows (eL (dL (ByteArray × ByteArray) (eL I) I.length)) (dL (ByteArray × ByteArray) (eL I) I.length).length [TK.str, TK.str])]⟩))
                )
                .no
              )
              .no
            )
          )
          .no
        )
        .no
      )
      (.test (decide (idxS (dL (ByteArray × ByteArray) (eL I) I.length) (who, to) < 0))
        (.leaf (.fin ⟨Ex.ret, true, [some (AV.v (Value.bool false))], []⟩))
        (.leaf (.fin ⟨Ex.ret, true, [some (AV.v (Value.bool false))], []⟩))
      )
    )
    .no
  )
  (.test (decide (idxS (dL (ByteArray × ByteArray) (eL I) I.length) (who, to) < 0))
    (.test (N.length.beq N.length && I.length.beq I.length && (N.length.ble 1000000 && I.length.ble 1000000))
      (.test (!mayP (dL ByteArray (eL N) N.length) (dL (ByteArray × ByteArray) (eL I) I.length))
        (.leaf (.fin ⟨Ex.ret, true, [some (AV.v (Value.bool false))], []⟩))
        (.test (decide (idxS (dL (ByteArray × ByteArray) (eL I) I.length) (who, to) < 0))
          (.test ((dL ByteArray (eL N) N.length).length.ble (dL ByteArray (eL N) N.length).length)
            (.test ((dL (ByteArray × ByteArray) (eL I) I.length).length.ble (dL (ByteArray × ByteArray) (eL I) I.length).length)
              (.test (!sameP (dL ByteArray (eL N) N.length) (dL (ByteArray × ByteArray) (eL I) I.length) (dL ByteArray (eL (dL ByteArray (eL N) N.length)) (dL ByteArray (eL N) N.length).length) (dL (ByteArray × ByteArray) (eL (dL (ByteArray × ByteArray) (eL I) I.length)) (dL (ByteArray × ByteArray) (eL I) I.length).length))
                (.leaf (.fin ⟨Ex.ret, true, [some (AV.v (Value.bool false))], []⟩))
                (.test (N.length.ble (dL ByteArray (eL N) N.length).length)
                  (.test (I.length.ble (dL (ByteArray × ByteArray) (eL I) I.length).length)
                    (.test (!sameP (dL ByteArray (eL N) N.length) (dL (ByteArray × ByteArray) (eL I) I.length) (dL ByteArray (eL (dL ByteArray (eL N) N.length)) N.length) (dL (ByteArray × ByteArray) (eL (dL (ByteArray × ByteArray) (eL I) I.length)) I.length))
                      (.leaf (.fin ⟨Ex.ret, true, [some (AV.v (Value.bool false))], []⟩))
                      (.leaf (.at 1000016 (ct2 P 7 1000016).1 (ct2 P 7 1000016).2 ⟨Ex.normal, true, [some (AV.s (Value.string who)), some (AV.s (Value.string to)), some (AV.ptr 65536 0 0), some (AV.ptr 65537 0 0)], [OS.o (AO.cells [AV.fz (eL N) N.length [TK.str], AV.fz (eL I) I.length [TK.str, TK.str]] 2 0 true false), OS.o (AO.cells [AV.osl 65538 N.length, AV.osl 65539 I.length] 2 0 true false), OS.o (AO.rows (eL (dL ByteArray (eL N) N.length)) (dL ByteArray (eL N) N.length).length [TK.str]), OS.o (AO.rows (eL (dL (ByteArray × ByteArray) (eL I) I.length)) (dL (ByteArray × ByteArray) (eL I) I.length).length [TK.str, TK.str])]⟩))
                    )
                    .no
                  )
                  .no
                )
              )
              .no
            )
            .no
          )
          (.leaf (.fin ⟨Ex.ret, true, [some (AV.v (Value.bool false))], []⟩))
        )
      )
      .no
    )
    (.test (N.length.ble 1000000)
      (.test (I.length.ble 1000000)
        (.test (decide (0 ≤ idxS (dL (ByteArray × ByteArray) (eL I) I.length) (who, to)) && decide (idxS (dL (ByteArray × ByteArray) (eL I) I.length) (who, to) < IntKind.i64.wrap (idxS (dL (ByteArray × ByteArray) (eL I) I.length) (who, to) + 1)) && (decide (IntKind.i64.wrap (idxS (dL (ByteArray × ByteArray) (eL I) I.length) (who, to) + 1) ≤ (↑I.length : Int)) && I.length.beq I.length))
          (.test (N.length.beq N.length && I.length.beq I.length && (N.length.ble 1000000 && I.length.ble 1000000))
            (.test (!mayP (dL ByteArray (eL N) N.length) (dL (ByteArray × ByteArray) (eL I) I.length))
              (.test ((dL ByteArray (eL N) N.length).length.beq (dL ByteArray (eL N) N.length).length && (dL (ByteArray × ByteArray) (eL I) I.length).length.beq (dL (ByteArray × ByteArray) (eL I) I.length).length &&   (N.length.beq N.length && (I.length - (IntKind.i64.wrap (idxS (dL (ByteArray × ByteArray) (eL I) I.length) (who, to) + 1) - idxS (dL (ByteArray × ByteArray) (eL I) I.length) (who, to)).toNat).beq (I.length - (IntKind.i64.wrap (idxS (dL (ByteArray × ByteArray) (eL I) I.length) (who, to) + 1) - idxS (dL (ByteArray × ByteArray) (eL I) I.length) (who, to)).toNat)))
                (.test (N.length.ble 1000000 && (I.length - (IntKind.i64.wrap (idxS (dL (ByteArray × ByteArray) (eL I) I.length) (who, to) + 1) - idxS (dL (ByteArray × ByteArray) (eL I) I.length) (who, to)).toNat).ble 1000000)
                  (.test (true)
                    (.leaf (.fin ⟨Ex.ret, true, [some (AV.v (Value.bool false))], []⟩))
                    (.test (N.length.ble (dL ByteArray (eL (dL ByteArray (eL N) N.length)) (dL ByteArray (eL N) N.length).length).length)
                      (.test (I.length.ble (dL (ByteArray × ByteArray) (eL (dL (ByteArray × ByteArray) (eL I) I.length)) (dL (ByteArray × ByteArray) (eL I) I.length).length).length)
                        (.test (!sameP (dL ByteArray (eL N) N.length) (dL (ByteArray × ByteArray) (eL I) I.length) (dL ByteArray (eL (dL ByteArray (eL (dL ByteArray (eL N) N.length)) (dL ByteArray (eL N) N.length).length)) N.length) (dL (ByteArray × ByteArray) (eL (dL (ByteArray × ByteArray) (eL (dL (ByteArray × ByteArray) (eL I) I.length)) (dL (ByteArray × ByteArray) (eL I) I.length).length)) I.length))
                          (.leaf (.fin ⟨Ex.ret, true, [some (AV.v (Value.bool false))], []⟩))
                          (.leaf (.at 1000016 (ct2 P 7 1000016).1 (ct2 P 7 1000016).2 ⟨Ex.normal, true, [some (AV.s (Value.string who)), some (AV.s (Value.string to)), some (AV.ptr 65536 0 0), some (AV.ptr 65537 0 0)], [OS.o (AO.cells [AV.fz (eL N) N.length [TK.str], AV.fz (eL I) I.length [TK.str, TK.str]] 2 0 true false), OS.o (AO.cells [AV.osl 65538 N.length, AV.osl 65539 I.length] 2 0 true false), OS.o (AO.rows (eL (dL ByteArray (eL (dL ByteArray (eL N) N.length)) (dL ByteArray (eL N) N.length).length)) (dL ByteArray (eL (dL ByteArray (eL N) N.length)) (dL ByteArray (eL N) N.length).length).length [TK.str]), OS.o (AO.rows (eL (dL (ByteArray × ByteArray) (eL (dL (ByteArray × ByteArray) (eL I) I.length)) (dL (ByteArray × ByteArray) (eL I) I.length).length)) (dL (ByteArray × ByteArray) (eL (dL (ByteArray × ByteArray) (eL I) I.length)) (dL (ByteArray × ByteArray) (eL I) I.length).length).length [TK.str, TK.str])]⟩))
                        )
                        .no
                      )
                      .no
                    )
                  )
                  .no
                )
                .no
              )
              (.test (decide (idxS (dL (ByteArray × ByteArray) (eL I) I.length) (who, to) < 0))
                (.test ((dL ByteArray (eL N) N.length).length.beq (dL ByteArray (eL N) N.length).length && (dL (ByteArray × ByteArray) (eL I) I.length).length.beq (dL (ByteArray × ByteArray) (eL I) I.length).length &&   (N.length.beq N.length && (I.length - (IntKind.i64.wrap (idxS (dL (ByteArray × ByteArray) (eL I) I.length) (who, to) + 1) - idxS (dL (ByteArray × ByteArray) (eL I) I.length) (who, to)).toNat).beq (I.length - (IntKind.i64.wrap (idxS (dL (ByteArray × ByteArray) (eL I) I.length) (who, to) + 1) - idxS (dL (ByteArray × ByteArray) (eL I) I.length) (who, to)).toNat)))
                  (.test (N.length.ble 1000000 && (I.length - (IntKind.i64.wrap (idxS (dL (ByteArray × ByteArray) (eL I) I.length) (who, to) + 1) - idxS (dL (ByteArray × ByteArray) (eL I) I.length) (who, to)).toNat).ble 1000000)
                    (.test (true)
                      (.leaf (.fin ⟨Ex.ret, true, [some (AV.v (Value.bool false))], []⟩))
                      (.test (N.length.ble (dL ByteArray (eL (dL ByteArray (eL N) N.length)) (dL ByteArray (eL N) N.length).length).length)
                        (.test (I.length.ble (dL (ByteArray × ByteArray) (eL (dL (ByteArray × ByteArray) (eL I) I.length)) (dL (ByteArray × ByteArray) (eL I) I.length).length).length)
                          (.test (!sameP (dL ByteArray (eL N) N.length) (dL (ByteArray × ByteArray) (eL I) I.length) (dL ByteArray (eL (dL ByteArray (eL (dL ByteArray (eL N) N.length)) (dL ByteArray (eL N) N.length).length)) N.length) (dL (ByteArray × ByteArray) (eL (dL (ByteArray × ByteArray) (eL (dL (ByteArray × ByteArray) (eL I) I.length)) (dL (ByteArray × ByteArray) (eL I) I.length).length)) I.length))
                            (.leaf (.fin ⟨Ex.ret, true, [some (AV.v (Value.bool false))], []⟩))
                            (.leaf (.at 1000016 (ct2 P 7 1000016).1 (ct2 P 7 1000016).2 ⟨Ex.normal, true, [some (AV.s (Value.string who)), some (AV.s (Value.string to)), some (AV.ptr 65536 0 0), some (AV.ptr 65537 0 0)], [OS.o (AO.cells [AV.fz (eL N) N.length [TK.str], AV.fz (eL I) I.length [TK.str, TK.str]] 2 0 true false), OS.o (AO.cells [AV.osl 65538 N.length, AV.osl 65539 I.length] 2 0 true false), OS.o (AO.rows (eL (dL ByteArray (eL (dL ByteArray (eL N) N.length)) (dL ByteArray (eL N) N.length).length)) (dL ByteArray (eL (dL ByteArray (eL N) N.length)) (dL ByteArray (eL N) N.length).length).length [TK.str]), OS.o (AO.rows (eL (dL (ByteArray × ByteArray) (eL (dL (ByteArray × ByteArray) (eL I) I.length)) (dL (ByteArray × ByteArray) (eL I) I.length).length)) (dL (ByteArray × ByteArray) (eL (dL (ByteArray × ByteArray) (eL I) I.length)) (dL (ByteArray × ByteArray) (eL I) I.length).length).length [TK.str, TK.str])]⟩))
                          )
                          .no
                        )
                        .no
                      )
                    )
                    .no
                  )
                  .no
                )
                (.test ((dL ByteArray (eL N) N.length).length.beq (dL ByteArray (eL N) N.length).length && (lvP (dL (ByteArray × ByteArray) (eL I) I.length) (idxS (dL (ByteArray × ByteArray) (eL I) I.length) (who, to)).toNat).length.beq (lvP (dL (ByteArray × ByteArray) (eL I) I.length) (idxS (dL (ByteArray × ByteArray) (eL I) I.length) (who, to)).toNat).length &&   (N.length.beq N.length && (I.length - (IntKind.i64.wrap (idxS (dL (ByteArray × ByteArray) (eL I) I.length) (who, to) + 1) - idxS (dL (ByteArray × ByteArray) (eL I) I.length) (who, to)).toNat).beq (I.length - (IntKind.i64.wrap (idxS (dL (ByteArray × ByteArray) (eL I) I.length) (who, to) + 1) - idxS (dL (ByteArray × ByteArray) (eL I) I.length) (who, to)).toNat)))
                  (.test (N.length.ble 1000000 && (I.length - (IntKind.i64.wrap (idxS (dL (ByteArray × ByteArray) (eL I) I.length) (who, to) + 1) - idxS (dL (ByteArray × ByteArray) (eL I) I.length) (who, to)).toNat).ble 1000000)
                    (.test (!lsP (dL ByteArray (eL N) N.length)     (dL (ByteArray × ByteArray) (cutD (eL I) (idxS (dL (ByteArray × ByteArray) (eL I) I.length) (who, to)).toNat (IntKind.i64.wrap (idxS (dL (ByteArray × ByteArray) (eL I) I.length) (who, to) + 1) - idxS (dL (ByteArray × ByteArray) (eL I) I.length) (who, to)).toNat)       (I.length - (IntKind.i64.wrap (idxS (dL (ByteArray × ByteArray) (eL I) I.length) (who, to) + 1) - idxS (dL (ByteArray × ByteArray) (eL I) I.length) (who, to)).toNat))     (dL ByteArray (eL (dL ByteArray (eL N) N.length)) (dL ByteArray (eL N) N.length).length) (dL (ByteArray × ByteArray) (eL (lvP (dL (ByteArray × ByteArray) (eL I) I.length) (idxS (dL (ByteArray × ByteArray) (eL I) I.length) (who, to)).toNat)) (lvP (dL (ByteArray × ByteArray) (eL I) I.length) (idxS (dL (ByteArray × ByteArray) (eL I) I.length) (who, to)).toNat).length) 0)
                      (.leaf (.fin ⟨Ex.ret, true, [some (AV.v (Value.bool false))], []⟩))
                      (.test (N.length.ble (dL ByteArray (eL N) N.length).length)
                        (.test (I.length.ble (dL (ByteArray × ByteArray) (eL I) I.length).length)
                          (.test (!sameP (dL ByteArray (eL N) N.length) (dL (ByteArray × ByteArray) (eL I) I.length) (dL ByteArray (eL (dL ByteArray (eL N) N.length)) N.length) (dL (ByteArray × ByteArray) (eL (dL (ByteArray × ByteArray) (eL I) I.length)) I.length))
                            (.leaf (.fin ⟨Ex.ret, true, [some (AV.v (Value.bool false))], []⟩))
                            (.leaf (.at 1000016 (ct2 P 7 1000016).1 (ct2 P 7 1000016).2 ⟨Ex.normal, true, [some (AV.s (Value.string who)), some (AV.s (Value.string to)), some (AV.ptr 65536 0 0), some (AV.ptr 65537 0 0)], [OS.o (AO.cells [AV.fz (eL N) N.length [TK.str], AV.fz (eL I) I.length [TK.str, TK.str]] 2 0 true false), OS.o (AO.cells [AV.osl 65538 N.length, AV.osl 65539 I.length] 2 0 true false), OS.o (AO.rows (eL (dL ByteArray (eL N) N.length)) (dL ByteArray (eL N) N.length).length [TK.str]), OS.o (AO.rows (eL (dL (ByteArray × ByteArray) (eL I) I.length)) (dL (ByteArray × ByteArray) (eL I) I.length).length [TK.str, TK.str])]⟩))
                          )
                          .no
                        )
                        .no
                      )
                    )
                    .no
                  )
                  .no
                )
              )
            )
            .no
          )
          .no
        )
        .no
      )
      .no
    )
  )
)
theorem rte_hR12 (N : List ByteArray) (I : List (ByteArray × ByteArray)) (who to : ByteArray) (j : Nat → Value) : (from2 Tryd.prog teX3 awakeS 3000 (fun i => ([4, 8, 12, 16] : List Nat).any (Nat.beq i)) 3000 7 1000012 (mkE (rte_cf 1000012) (rte_vR12 N I who to) j) (mkH openB (rte_oR12 N I who to))).map (lookP Tryd.prog (resOf Tryd.prog 7) [] rte_cf) = rte_tR12 Tryd.prog N I who to := by kernel_rfl
def rte_vR16 (N : List ByteArray) (I : List (ByteArray × ByteArray)) (who to : ByteArray) : List AV := [.s (.string who), .s (.string to), .ptr 65536 0 0, .ptr 65537 0 0]
def rte_oR16 (N : List ByteArray) (I : List (ByteArray × ByteArray)) (who to : ByteArray) : List AO := [stO N I, .cells [.osl 65538 N.length, .osl 65539 I.length] 2 0 true false, .rows (eL N) N.length [.str], .rows (eL I) I.length [.str, .str]]
noncomputable def rte_tR16 (P : Program) (N : List ByteArray) (I : List (ByteArray × ByteArray)) (who to : ByteArray) : Br PO :=
(.test (N.length.ble 1000000)
  (.test (N.length.ble N.length)
    (.test (I.length.ble I.length)
      (.test (N.length.ble 1000000)
        (.test ((allP (dL ByteArray (eL N) N.length) (dL (ByteArray × ByteArray) (eL I) I.length) who).length.ble (allP (dL ByteArray (eL N) N.length) (dL (ByteArray × ByteArray) (eL I) I.length) who).length)
          (.test ((allP (dL ByteArray (eL N) N.length) (dL (ByteArray × ByteArray) (eL I) I.length) who).length.ble (allP (dL ByteArray (eL N) N.length) (dL (ByteArray × ByteArray) (eL I) I.length) who).length)
            (.leaf (.at 0 (ct2 P 7 0).1 (ct2 P 7 0).2 ⟨Ex.normal, true, [some (AV.s (Value.string who)), some (AV.s (Value.string to)), some (AV.ptr 65536 0 0), some (AV.ptr 65537 0 0), some (AV.osl 65540 (allP (dL ByteArray (eL N) N.length) (dL (ByteArray × ByteArray) (eL I) I.length) who).length), some   (AV.s     (Value.bool       (decide         (dL ByteArray (eL (allP (dL ByteArray (eL N) N.length) (dL (ByteArray × ByteArray) (eL I) I.length) who)) (allP (dL ByteArray (eL N) N.length) (dL (ByteArray × ByteArray) (eL I) I.length) who).length =           dL ByteArray (eL (allP (dL ByteArray (eL N) N.length) (dL (ByteArray × ByteArray) (eL I) I.length) who)) (allP (dL ByteArray (eL N) N.length) (dL (ByteArray × ByteArray) (eL I) I.length) who).length)))), some (AV.v (Value.int IntKind.i64 (0)))], [OS.o (AO.cells [AV.fz (eL N) N.length [TK.str], AV.fz (eL I) I.length [TK.str, TK.str]] 2 0 true false), OS.o (AO.cells [AV.osl 65538 N.length, AV.osl 65539 I.length] 2 0 true false), OS.o (AO.rows (eL N) N.length [TK.str]), OS.o (AO.rows (eL I) I.length [TK.str, TK.str]), OS.o (AO.rows (eL (allP (dL ByteArray (eL N) N.length) (dL (ByteArray × ByteArray) (eL I) I.length) who)) (allP (dL ByteArray (eL N) N.length) (dL (ByteArray × ByteArray) (eL I) I.length) who).length [TK.str])]⟩))
            .no
          )
          .no
        )
        .no
      )
      .no
    )
    .no
  )
  .no
)
theorem rte_hR16 (N : List ByteArray) (I : List (ByteArray × ByteArray)) (who to : ByteArray) (j : Nat → Value) : (from2 Tryd.prog teX3 awakeS 3000 (fun i => ([4, 8, 12, 16] : List Nat).any (Nat.beq i)) 3000 7 1000016 (mkE (rte_cf 1000016) (rte_vR16 N I who to) j) (mkH openB (rte_oR16 N I who to))).map (lookP Tryd.prog (resOf Tryd.prog 7) [] rte_cf) = rte_tR16 Tryd.prog N I who to := by kernel_rfl
def rte_v0 (N : List ByteArray) (I : List (ByteArray × ByteArray)) (who to : ByteArray) (L : List ByteArray) (ok : Bool) (i : Nat) : List AV := [.s (.string who), .s (.string to), .ptr 65536 0 0, .ptr 65537 0 0, .osl 65540 L.length, .s (.bool ok), .s (.int .i64 i)]
def rte_o0 (N : List ByteArray) (I : List (ByteArray × ByteArray)) (who to : ByteArray) (L : List ByteArray) (ok : Bool) (i : Nat) : List AO := [stO N I, .cells [.osl 65538 N.length, .osl 65539 I.length] 2 0 true false, .rows (eL N) N.length [.str], .rows (eL I) I.length [.str, .str], .rows (eL L) L.length [.str]]
noncomputable def rte_t0 (P : Program) (N : List ByteArray) (I : List (ByteArray × ByteArray)) (who to : ByteArray) (L : List ByteArray) (ok : Bool) (i : Nat) : Br PO :=
(.test (decide ((↑i : Int) < (↑L.length : Int)))
  (.test (decide (0 ≤ (↑i : Int)) && decide ((↑i : Int) < (↑L.length : Int)))
    (.test ((↑i : Int).toNat.blt L.length)
      (.leaf (.at 0 (ct2 P 7 0).1 (ct2 P 7 0).2 ⟨Ex.normal, true, [some (AV.s (Value.string who)), some (AV.s (Value.string to)), some (AV.ptr 65536 0 0), some (AV.ptr 65537 0 0), some (AV.osl 65540 L.length), some (AV.s (Value.bool ok)), some (AV.s (Value.int IntKind.i64 (IntKind.i64.wrap ((↑i : Int) + 1))))], [OS.o (AO.cells [AV.fz (eL N) N.length [TK.str], AV.fz (eL I) I.length [TK.str, TK.str]] 2 0 true false), OS.o (AO.cells [AV.osl 65538 N.length, AV.osl 65539 I.length] 2 0 true false), OS.o (AO.rows (eL N) N.length [TK.str]), OS.o (AO.rows (eL I) I.length [TK.str, TK.str]), OS.o (AO.rows (updD (eL L) (↑i : Int).toNat 0 [D.v (Value.string (⟨#[115, 112, 111, 105, 108, 116]⟩ : ByteArray))]) L.length [TK.str])]⟩))
      .no
    )
    .no
  )
  (.test (ok)
    (.test (N.length.ble N.length)
      (.test (I.length.ble I.length)
        (.test (mayP (dL ByteArray (eL N) N.length) (dL (ByteArray × ByteArray) (eL I) I.length) == mayP (dL ByteArray (eL N) N.length) (dL (ByteArray × ByteArray) (eL I) I.length))
          (.test (N.length.ble N.length)
            (.test (I.length.ble I.length)
              (.test (decide (idxS (dL ByteArray (eL N) N.length) who ≥ 0) == inL who (dL ByteArray (eL N) N.length))
                (.test (N.length.ble 1000000)
                  (.test (N.length.ble N.length)
                    (.test (I.length.ble I.length)
                      (.test (N.length.ble 1000000)
                        (.test (isP (dL ByteArray (eL N) N.length) (dL (ByteArray × ByteArray) (eL I) I.length) who to == isP (dL ByteArray (eL N) N.length) (dL (ByteArray × ByteArray) (eL I) I.length) who to)
                          (.test (N.length.ble N.length)
                            (.test (I.length.ble I.length)
                              (.test (sameP (dL ByteArray (eL N) N.length) (dL (ByteArray × ByteArray) (eL I) I.length) (dL ByteArray (eL N) N.length) (dL (ByteArray × ByteArray) (eL I) I.length))
                                (.test (decide (dL ByteArray (eL N) N.length = dL ByteArray (listD [D.v (Value.string (⟨#[114, 111, 111, 116]⟩ : ByteArray))] [TK.str].length) 1))
                                  (.test (N.length.ble N.length)
                                    (.test (I.length.ble I.length)
                                      (.test (decide (dL (ByteArray × ByteArray) (eL I) I.length = dL (ByteArray × ByteArray) (fun x x_1 => D.v undef) 0) == sameP (dL ByteArray (eL N) N.length) (dL (ByteArray × ByteArray) (eL I) I.length) (dL ByteArray (listD [D.v (Value.string (⟨#[114, 111, 111, 116]⟩ : ByteArray))] [TK.str].length) 1) (dL (ByteArray × ByteArray) (fun x x_1 => D.v undef) 0))
                                        (.leaf (.fin ⟨Ex.ret, true, [some (AV.s (Value.bool true))], []⟩))
                                        (.leaf (.fin ⟨Ex.ret, true, [some (AV.v (Value.bool false))], []⟩))
                                      )
                                      .no
                                    )
                                    .no
                                  )
                                  (.test (N.length.ble N.length)
                                    (.test (I.length.ble I.length)
                                      (.test (false == sameP (dL ByteArray (eL N) N.length) (dL (ByteArray × ByteArray) (eL I) I.length) (dL ByteArray (listD [D.v (Value.string (⟨#[114, 111, 111, 116]⟩ : ByteArray))] [TK.str].length) 1) (dL (ByteArray × ByteArray) (fun x x_1 => D.v undef) 0))
                                        (.leaf (.fin ⟨Ex.ret, true, [some (AV.s (Value.bool true))], []⟩))
                                        (.leaf (.fin ⟨Ex.ret, true, [some (AV.v (Value.bool false))], []⟩))
                                      )
                                      .no
                                    )
                                    .no
                                  )
                                )
                                (.leaf (.fin ⟨Ex.ret, true, [some (AV.v (Value.bool false))], []⟩))
                              )
                              .no
                            )
                            .no
                          )
                          (.leaf (.fin ⟨Ex.ret, true, [some (AV.v (Value.bool false))], []⟩))
                        )
                        .no
                      )
                      .no
                    )
                    .no
                  )
                  .no
                )
                (.leaf (.fin ⟨Ex.ret, true, [some (AV.v (Value.bool false))], []⟩))
              )
              .no
            )
            .no
          )
          (.leaf (.fin ⟨Ex.ret, true, [some (AV.v (Value.bool false))], []⟩))
        )
        .no
      )
      .no
    )
    (.leaf (.fin ⟨Ex.ret, true, [some (AV.v (Value.bool false))], []⟩))
  )
)
theorem rte_h0 (N : List ByteArray) (I : List (ByteArray × ByteArray)) (who to : ByteArray) (L : List ByteArray) (ok : Bool) (i : Nat) (j : Nat → Value) : (from2 Tryd.prog teX3 awakeS 3000 (fun i => ([4, 8, 12, 16] : List Nat).any (Nat.beq i)) 3000 7 0 (mkE (rte_cf 0) (rte_v0 N I who to L ok i) j) (mkH openB (rte_o0 N I who to L ok i))).map (lookP Tryd.prog (resOf Tryd.prog 7) [] rte_cf) = rte_t0 Tryd.prog N I who to L ok i := by kernel_rfl


inductive RtS where
  | r4
  | r8
  | r12
  | r16
  | l (L : List ByteArray) (i : Nat)
def RtS.pc : RtS → Nat
  | .r4 => 1000004
  | .r8 => 1000008
  | .r12 => 1000012
  | .r16 => 1000016
  | .l _ _ => 0
section
variable (N : List ByteArray) (I : List (ByteArray × ByteArray)) (who to : ByteArray)
def RtV : RtS → List AV
  | .r4 => rte_vR4 N I who to
  | .r8 => rte_vR8 N I who to
  | .r12 => rte_vR12 N I who to
  | .r16 => rte_vR16 N I who to
  | .l L i => rte_v0 N I who to L true i
def RtO : RtS → List AO
  | .r4 => rte_oR4 N I who to
  | .r8 => rte_oR8 N I who to
  | .r12 => rte_oR12 N I who to
  | .r16 => rte_oR16 N I who to
  | .l L i => rte_o0 N I who to L true i
noncomputable def RtT (P : Program) : RtS → Br PO
  | .r4 => rte_tR4 P N I who to
  | .r8 => rte_tR8 P N I who to
  | .r12 => rte_tR12 P N I who to
  | .r16 => rte_tR16 P N I who to
  | .l L i => rte_t0 P N I who to L true i
def RtJ : RtS → Prop
  | .l L i => (N.length ≤ 40 ∧ I.length ≤ 60) ∧ i ≤ L.length ∧ L.length ≤ 40
  | _ => N.length ≤ 40 ∧ I.length ≤ 60
end
def RtM : RtS → Nat × Nat
  | .r4 => (4, 0)
  | .r8 => (3, 0)
  | .r12 => (2, 0)
  | .r16 => (1, 0)
  | .l L i => (0, L.length - i)
theorem HT {α : Type} {K : α → Prop} {t e : Br α} : (Br.test true t e).Holds K = t.Holds K := propext ⟨fun h => h.1 rfl, hSt⟩
theorem HF {α : Type} {K : α → Prop} {t e : Br α} : (Br.test false t e).Holds K = e.Holds K := propext ⟨fun h => h.2 rfl, hSf⟩
theorem ble_self (n : Nat) : Nat.ble n n = true := ble_yes (Nat.le_refl _)
theorem sameP_self (N : List ByteArray) (I : List (ByteArray × ByteArray)) : sameP N I N I = true := by simp [sameP]
theorem lsP_self (N : List ByteArray) (I : List (ByteArray × ByteArray)) : lsP N I N I 0 = true := by simp [lsP, sameP_self]
def RtK (N : List ByteArray) (I : List (ByteArray × ByteArray)) (who to : ByteArray) (s : RtS) (o : PO) : Prop := match o with
  | .fin o => Goes o [.s (.bool true)] []
  | .at b c fr o => ∃ s', RtJ N I s' ∧ WellFoundedRelation.rel (RtM s') (RtM s) ∧ s'.pc = b ∧ (c, fr) = ct2 Tryd.prog 7 b ∧ Goes o (RtV N I who to s') (RtO N I who to s')
theorem rte_g4 (N : List ByteArray) (I : List (ByteArray × ByteArray)) (who to : ByteArray) (hN : N.length ≤ 40) (hI : I.length ≤ 60) : (rte_tR4 Tryd.prog N I who to).Holds (RtK N I who to .r4) := by
  have hB : Tryd.prog.types[9].bytes = 16 := by kernel_rfl
  have hB2 : Tryd.prog.types[36].bytes = 32 := by kernel_rfl
  have a1 : small N.length = true := small_ok (by omega)
  have a2 : small I.length = true := small_ok (by omega)
  have a3 : small (16 * N.length) = true := small_ok (by omega)
  have a4 : small (32 * I.length) = true := small_ok (by omega)
  have a5 : small (1 + N.length) = true := small_ok (by omega)
  have a6 : small (16 * (1 + N.length)) = true := small_ok (by omega)
  have b1 : Nat.ble N.length 1000000 = true := ble_yes (by omega)
  have b2 : Nat.ble I.length 1000000 = true := ble_yes (by omega)
  have b3 : Nat.ble (N.length + 1) 1000000 = true := ble_yes (by omega)
  have hJ : RtJ N I .r8 := ⟨hN, hI⟩
  unfold rte_tR4
  simp only [dL_eL, dL_name, sameP_self, lsP_self, ble_self, Nat.beq_refl, hB, hB2, a1, a2, a3, a4, a5, a6, b1, b2, b3, idxS_ge, Bool.and_self, Bool.not_true, HT, HF]
  cases h1 : nameP who <;> cases h2 : mayP N I <;> cases h3 : inL who N <;> cases h4 : ((N.length : Int) == 16) <;> simp only [Bool.not_true, Bool.not_false, HT, HF] <;>
    exact ⟨.r8, hJ, rel_l (by omega), rfl, rfl, rfl, (.cons _ _ _ _ (.refl _) (.cons _ _ _ _ (.refl _) (.cons _ _ _ _ (.refl _) (.cons _ _ _ _ (.refl _) (.cons _ _ _ _ (.refl _) (.cons _ _ _ _ (.refl _) .nil)))))), (.cons _ _ _ _ (by first | exact OLe.same _ _ _ | exact OLe.cells _ _ _ _ _ _ _ (Les.refl _) | exact OLe.cells _ _ _ _ _ _ _ (.cons _ _ _ _ (.xsf _ _ _) (.cons _ _ _ _ (.xsf _ _ _) .nil)) | exact OLe.cells _ _ _ _ _ _ _ (.cons _ _ _ _ (.xso _ _) (.cons _ _ _ _ (.xso _ _) .nil)) | exact OLe.list' (α := ByteArray) | exact OLe.list' (α := ByteArray × ByteArray) | exact OLe.nil _ _) (.cons _ _ _ _ (by first | exact OLe.same _ _ _ | exact OLe.cells _ _ _ _ _ _ _ (Les.refl _) | exact OLe.cells _ _ _ _ _ _ _ (.cons _ _ _ _ (.xsf _ _ _) (.cons _ _ _ _ (.xsf _ _ _) .nil)) | exact OLe.cells _ _ _ _ _ _ _ (.cons _ _ _ _ (.xso _ _) (.cons _ _ _ _ (.xso _ _) .nil)) | exact OLe.list' (α := ByteArray) | exact OLe.list' (α := ByteArray × ByteArray) | exact OLe.nil _ _) (.cons _ _ _ _ (by first | exact OLe.same _ _ _ | exact OLe.cells _ _ _ _ _ _ _ (Les.refl _) | exact OLe.cells _ _ _ _ _ _ _ (.cons _ _ _ _ (.xsf _ _ _) (.cons _ _ _ _ (.xsf _ _ _) .nil)) | exact OLe.cells _ _ _ _ _ _ _ (.cons _ _ _ _ (.xso _ _) (.cons _ _ _ _ (.xso _ _) .nil)) | exact OLe.list' (α := ByteArray) | exact OLe.list' (α := ByteArray × ByteArray) | exact OLe.nil _ _) (.cons _ _ _ _ (by first | exact OLe.same _ _ _ | exact OLe.cells _ _ _ _ _ _ _ (Les.refl _) | exact OLe.cells _ _ _ _ _ _ _ (.cons _ _ _ _ (.xsf _ _ _) (.cons _ _ _ _ (.xsf _ _ _) .nil)) | exact OLe.cells _ _ _ _ _ _ _ (.cons _ _ _ _ (.xso _ _) (.cons _ _ _ _ (.xso _ _) .nil)) | exact OLe.list' (α := ByteArray) | exact OLe.list' (α := ByteArray × ByteArray) | exact OLe.nil _ _) (.cons _ _ _ _ (by first | exact OLe.same _ _ _ | exact OLe.cells _ _ _ _ _ _ _ (Les.refl _) | exact OLe.cells _ _ _ _ _ _ _ (.cons _ _ _ _ (.xsf _ _ _) (.cons _ _ _ _ (.xsf _ _ _) .nil)) | exact OLe.cells _ _ _ _ _ _ _ (.cons _ _ _ _ (.xso _ _) (.cons _ _ _ _ (.xso _ _) .nil)) | exact OLe.list' (α := ByteArray) | exact OLe.list' (α := ByteArray × ByteArray) | exact OLe.nil _ _) (.cons _ _ _ _ (by first | exact OLe.same _ _ _ | exact OLe.cells _ _ _ _ _ _ _ (Les.refl _) | exact OLe.cells _ _ _ _ _ _ _ (.cons _ _ _ _ (.xsf _ _ _) (.cons _ _ _ _ (.xsf _ _ _) .nil)) | exact OLe.cells _ _ _ _ _ _ _ (.cons _ _ _ _ (.xso _ _) (.cons _ _ _ _ (.xso _ _) .nil)) | exact OLe.list' (α := ByteArray) | exact OLe.list' (α := ByteArray × ByteArray) | exact OLe.nil _ _) .nil))))))⟩
theorem rte_g8 (N : List ByteArray) (I : List (ByteArray × ByteArray)) (who to : ByteArray) (hN : N.length ≤ 40) (hI : I.length ≤ 60) : (rte_tR8 Tryd.prog N I who to).Holds (RtK N I who to .r8) := by
  have hB : Tryd.prog.types[9].bytes = 16 := by kernel_rfl
  have hB2 : Tryd.prog.types[36].bytes = 32 := by kernel_rfl
  have a1 : small N.length = true := small_ok (by omega)
  have a2 : small I.length = true := small_ok (by omega)
  have a3 : small (16 * N.length) = true := small_ok (by omega)
  have a4 : small (32 * I.length) = true := small_ok (by omega)
  have a5 : small (1 + I.length) = true := small_ok (by omega)
  have a6 : small (32 * (1 + I.length)) = true := small_ok (by omega)
  have b1 : Nat.ble N.length 1000000 = true := ble_yes (by omega)
  have b2 : Nat.ble I.length 1000000 = true := ble_yes (by omega)
  have b3 : Nat.ble (I.length + 1) 1000000 = true := ble_yes (by omega)
  have hJ : RtJ N I .r12 := ⟨hN, hI⟩
  unfold rte_tR8
  simp only [dL_eL, dL_pair, sameP_self, lsP_self, ble_self, Nat.beq_refl, hB, hB2, a1, a2, a3, a4, a5, a6, b1, b2, b3, idxS_ge, Bool.and_self, Bool.not_true, HT, HF]
  cases h1 : (who.toList == to.toList) <;> cases h2 : mayP N I <;> cases h3 : inL who N <;> cases h4 : inL to N <;> cases h5 : inL (who, to) I <;> simp only [Bool.not_true, Bool.not_false, HT, HF] <;>
    exact ⟨.r12, hJ, rel_l (by omega), rfl, rfl, rfl, (.cons _ _ _ _ (.refl _) (.cons _ _ _ _ (.refl _) (.cons _ _ _ _ (.refl _) (.cons _ _ _ _ (.refl _) (.cons _ _ _ _ (.refl _) (.cons _ _ _ _ (.refl _) .nil)))))), (.cons _ _ _ _ (by first | exact OLe.same _ _ _ | exact OLe.cells _ _ _ _ _ _ _ (Les.refl _) | exact OLe.cells _ _ _ _ _ _ _ (.cons _ _ _ _ (.xsf _ _ _) (.cons _ _ _ _ (.xsf _ _ _) .nil)) | exact OLe.cells _ _ _ _ _ _ _ (.cons _ _ _ _ (.xso _ _) (.cons _ _ _ _ (.xso _ _) .nil)) | exact OLe.list' (α := ByteArray) | exact OLe.list' (α := ByteArray × ByteArray) | exact OLe.nil _ _) (.cons _ _ _ _ (by first | exact OLe.same _ _ _ | exact OLe.cells _ _ _ _ _ _ _ (Les.refl _) | exact OLe.cells _ _ _ _ _ _ _ (.cons _ _ _ _ (.xsf _ _ _) (.cons _ _ _ _ (.xsf _ _ _) .nil)) | exact OLe.cells _ _ _ _ _ _ _ (.cons _ _ _ _ (.xso _ _) (.cons _ _ _ _ (.xso _ _) .nil)) | exact OLe.list' (α := ByteArray) | exact OLe.list' (α := ByteArray × ByteArray) | exact OLe.nil _ _) (.cons _ _ _ _ (by first | exact OLe.same _ _ _ | exact OLe.cells _ _ _ _ _ _ _ (Les.refl _) | exact OLe.cells _ _ _ _ _ _ _ (.cons _ _ _ _ (.xsf _ _ _) (.cons _ _ _ _ (.xsf _ _ _) .nil)) | exact OLe.cells _ _ _ _ _ _ _ (.cons _ _ _ _ (.xso _ _) (.cons _ _ _ _ (.xso _ _) .nil)) | exact OLe.list' (α := ByteArray) | exact OLe.list' (α := ByteArray × ByteArray) | exact OLe.nil _ _) (.cons _ _ _ _ (by first | exact OLe.same _ _ _ | exact OLe.cells _ _ _ _ _ _ _ (Les.refl _) | exact OLe.cells _ _ _ _ _ _ _ (.cons _ _ _ _ (.xsf _ _ _) (.cons _ _ _ _ (.xsf _ _ _) .nil)) | exact OLe.cells _ _ _ _ _ _ _ (.cons _ _ _ _ (.xso _ _) (.cons _ _ _ _ (.xso _ _) .nil)) | exact OLe.list' (α := ByteArray) | exact OLe.list' (α := ByteArray × ByteArray) | exact OLe.nil _ _) (.cons _ _ _ _ (by first | exact OLe.same _ _ _ | exact OLe.cells _ _ _ _ _ _ _ (Les.refl _) | exact OLe.cells _ _ _ _ _ _ _ (.cons _ _ _ _ (.xsf _ _ _) (.cons _ _ _ _ (.xsf _ _ _) .nil)) | exact OLe.cells _ _ _ _ _ _ _ (.cons _ _ _ _ (.xso _ _) (.cons _ _ _ _ (.xso _ _) .nil)) | exact OLe.list' (α := ByteArray) | exact OLe.list' (α := ByteArray × ByteArray) | exact OLe.nil _ _) (.cons _ _ _ _ (by first | exact OLe.same _ _ _ | exact OLe.cells _ _ _ _ _ _ _ (Les.refl _) | exact OLe.cells _ _ _ _ _ _ _ (.cons _ _ _ _ (.xsf _ _ _) (.cons _ _ _ _ (.xsf _ _ _) .nil)) | exact OLe.cells _ _ _ _ _ _ _ (.cons _ _ _ _ (.xso _ _) (.cons _ _ _ _ (.xso _ _) .nil)) | exact OLe.list' (α := ByteArray) | exact OLe.list' (α := ByteArray × ByteArray) | exact OLe.nil _ _) .nil))))))⟩
theorem dL_cut1 (I : List (ByteArray × ByteArray)) {a : Nat} (h : a < I.length) : dL (ByteArray × ByteArray) (cutD (eL I) a 1) (I.length - 1) = lvP I a := by
  have hl : (lvP I a).length = I.length - 1 := by unfold lvP; simp; omega
  rw [← hl]
  refine (dL_congr fun i hi => ?_).trans (dL_eL (lvP I a))
  funext c
  unfold cutD eL
  congr 1
  unfold lvP
  simp only [List.getD_eq_getElem?_getD]
  by_cases c : i < a
  · rw [show Nat.blt i a = true by simpa using c, List.getElem?_append_left (by simp; omega)]
    simp [c]
  · rw [blt_no c, List.getElem?_append_right (by simp; omega)]
    simp only [cond_false, List.length_take, List.getElem?_drop, Nat.min_eq_left (Nat.le_of_lt h)]
    rw [show a + 1 + (i - a) = i + 1 by omega]
theorem rte_g12 (N : List ByteArray) (I : List (ByteArray × ByteArray)) (who to : ByteArray) (hN : N.length ≤ 40) (hI : I.length ≤ 60) : (rte_tR12 Tryd.prog N I who to).Holds (RtK N I who to .r12) := by
  have b1 : Nat.ble N.length 1000000 = true := ble_yes (by omega)
  have b2 : Nat.ble I.length 1000000 = true := ble_yes (by omega)
  have b3 : Nat.ble (I.length - 1) 1000000 = true := ble_yes (by omega)
  have hJ : RtJ N I .r16 := ⟨hN, hI⟩
  unfold rte_tR12
  rcases idxS_cases I (who, to) with h | ⟨a, h, ha⟩
  · have h0 : decide (idxS I (who, to) < 0) = true := decide_eq_true h
    simp only [dL_eL, sameP_self, lsP_self, ble_self, Nat.beq_refl, h0, b1, b2, Bool.and_self, Bool.not_true, HT, HF]
    cases h2 : mayP N I <;> simp only [Bool.not_true, Bool.not_false, HT, HF] <;>
      exact ⟨.r16, hJ, rel_l (by omega), rfl, rfl, rfl, (.cons _ _ _ _ (.refl _) (.cons _ _ _ _ (.refl _) (.cons _ _ _ _ (.refl _) (.cons _ _ _ _ (.refl _) .nil)))), (.cons _ _ _ _ (by first | exact OLe.same _ _ _ | exact OLe.cells _ _ _ _ _ _ _ (Les.refl _) | exact OLe.cells _ _ _ _ _ _ _ (.cons _ _ _ _ (.xsf _ _ _) (.cons _ _ _ _ (.xsf _ _ _) .nil)) | exact OLe.cells _ _ _ _ _ _ _ (.cons _ _ _ _ (.xso _ _) (.cons _ _ _ _ (.xso _ _) .nil)) | exact OLe.list' (α := ByteArray) | exact OLe.list' (α := ByteArray × ByteArray) | exact OLe.nil _ _) (.cons _ _ _ _ (by first | exact OLe.same _ _ _ | exact OLe.cells _ _ _ _ _ _ _ (Les.refl _) | exact OLe.cells _ _ _ _ _ _ _ (.cons _ _ _ _ (.xsf _ _ _) (.cons _ _ _ _ (.xsf _ _ _) .nil)) | exact OLe.cells _ _ _ _ _ _ _ (.cons _ _ _ _ (.xso _ _) (.cons _ _ _ _ (.xso _ _) .nil)) | exact OLe.list' (α := ByteArray) | exact OLe.list' (α := ByteArray × ByteArray) | exact OLe.nil _ _) (.cons _ _ _ _ (by first | exact OLe.same _ _ _ | exact OLe.cells _ _ _ _ _ _ _ (Les.refl _) | exact OLe.cells _ _ _ _ _ _ _ (.cons _ _ _ _ (.xsf _ _ _) (.cons _ _ _ _ (.xsf _ _ _) .nil)) | exact OLe.cells _ _ _ _ _ _ _ (.cons _ _ _ _ (.xso _ _) (.cons _ _ _ _ (.xso _ _) .nil)) | exact OLe.list' (α := ByteArray) | exact OLe.list' (α := ByteArray × ByteArray) | exact OLe.nil _ _) (.cons _ _ _ _ (by first | exact OLe.same _ _ _ | exact OLe.cells _ _ _ _ _ _ _ (Les.refl _) | exact OLe.cells _ _ _ _ _ _ _ (.cons _ _ _ _ (.xsf _ _ _) (.cons _ _ _ _ (.xsf _ _ _) .nil)) | exact OLe.cells _ _ _ _ _ _ _ (.cons _ _ _ _ (.xso _ _) (.cons _ _ _ _ (.xso _ _) .nil)) | exact OLe.list' (α := ByteArray) | exact OLe.list' (α := ByteArray × ByteArray) | exact OLe.nil _ _) .nil))))⟩
  · have h0 : decide ((a : Int) < 0) = false := decide_eq_false (by omega)
    have h1 : decide (0 ≤ (a : Int)) = true := decide_eq_true (by omega)
    have h2 : decide ((a : Int) < (a : Int) + 1) = true := decide_eq_true (by omega)
    have h3 : decide ((a : Int) + 1 ≤ (I.length : Int)) = true := decide_eq_true (by omega)
    have e1 : IntKind.i64.wrap ((a : Int) + 1) = (a : Int) + 1 := wrap_lt (by omega) (by omega)
    have e2 : ((a : Int) + 1 - a).toNat = 1 := by omega
    simp only [dL_eL, h, e1, e2, Int.toNat_natCast, dL_cut1 I ha, sameP_self, lsP_self, ble_self, Nat.beq_refl, h0, h1, h2, h3, b1, b2, b3, Bool.and_self, Bool.not_true, HT, HF]
    cases h2 : mayP N I <;> simp only [Bool.not_true, Bool.not_false, HT, HF] <;>
      exact ⟨.r16, hJ, rel_l (by omega), rfl, rfl, rfl, (.cons _ _ _ _ (.refl _) (.cons _ _ _ _ (.refl _) (.cons _ _ _ _ (.refl _) (.cons _ _ _ _ (.refl _) .nil)))), (.cons _ _ _ _ (by first | exact OLe.same _ _ _ | exact OLe.cells _ _ _ _ _ _ _ (Les.refl _) | exact OLe.cells _ _ _ _ _ _ _ (.cons _ _ _ _ (.xsf _ _ _) (.cons _ _ _ _ (.xsf _ _ _) .nil)) | exact OLe.cells _ _ _ _ _ _ _ (.cons _ _ _ _ (.xso _ _) (.cons _ _ _ _ (.xso _ _) .nil)) | exact OLe.list' (α := ByteArray) | exact OLe.list' (α := ByteArray × ByteArray) | exact OLe.nil _ _) (.cons _ _ _ _ (by first | exact OLe.same _ _ _ | exact OLe.cells _ _ _ _ _ _ _ (Les.refl _) | exact OLe.cells _ _ _ _ _ _ _ (.cons _ _ _ _ (.xsf _ _ _) (.cons _ _ _ _ (.xsf _ _ _) .nil)) | exact OLe.cells _ _ _ _ _ _ _ (.cons _ _ _ _ (.xso _ _) (.cons _ _ _ _ (.xso _ _) .nil)) | exact OLe.list' (α := ByteArray) | exact OLe.list' (α := ByteArray × ByteArray) | exact OLe.nil _ _) (.cons _ _ _ _ (by first | exact OLe.same _ _ _ | exact OLe.cells _ _ _ _ _ _ _ (Les.refl _) | exact OLe.cells _ _ _ _ _ _ _ (.cons _ _ _ _ (.xsf _ _ _) (.cons _ _ _ _ (.xsf _ _ _) .nil)) | exact OLe.cells _ _ _ _ _ _ _ (.cons _ _ _ _ (.xso _ _) (.cons _ _ _ _ (.xso _ _) .nil)) | exact OLe.list' (α := ByteArray) | exact OLe.list' (α := ByteArray × ByteArray) | exact OLe.nil _ _) (.cons _ _ _ _ (by first | exact OLe.same _ _ _ | exact OLe.cells _ _ _ _ _ _ _ (Les.refl _) | exact OLe.cells _ _ _ _ _ _ _ (.cons _ _ _ _ (.xsf _ _ _) (.cons _ _ _ _ (.xsf _ _ _) .nil)) | exact OLe.cells _ _ _ _ _ _ _ (.cons _ _ _ _ (.xso _ _) (.cons _ _ _ _ (.xso _ _) .nil)) | exact OLe.list' (α := ByteArray) | exact OLe.list' (α := ByteArray × ByteArray) | exact OLe.nil _ _) .nil))))⟩
theorem allP_len (N : List ByteArray) (I : List (ByteArray × ByteArray)) (who : ByteArray) : (allP N I who).length ≤ N.length := by
  have := allF_len N I who N []
  unfold allP
  simpa using this
theorem rte_ok (N : List ByteArray) (I : List (ByteArray × ByteArray)) (who to : ByteArray) : OCalls Tryd.prog 7 (rte_a N I who to) (.s (.bool true)) [] := by
  have hB : Tryd.prog.types[9].bytes = 16 := by kernel_rfl
  have hB2 : Tryd.prog.types[36].bytes = 32 := by kernel_rfl
  have yes : ∀ x, x = true → Goes ⟨.ret, true, [some (.s (.bool x))], []⟩ [.s (.bool true)] [] := fun x hx => ⟨rfl, (.cons _ _ _ _ (.ofEq (by rw [hx])) .nil), .nil⟩
  refine floyd2 ev_mix ev_ok teX3_ok awakeS_ok (by kernel_rfl) [] rte_cf RtM RtS.pc (RtV N I who to) (RtO N I who to) (RtJ N I) (RtT N I who to _) (rte_t _ N I who to) (rte_h N I who to) (fun s j => by cases s; exact rte_hR4 N I who to j; exact rte_hR8 N I who to j; exact rte_hR12 N I who to j; exact rte_hR16 N I who to j; exact rte_h0 N I who to _ _ _ j) ?_ ?_
  · unfold rte_t
    simp only [dL_eL]
    refine ⟨fun _ => yes _ rfl, fun hl => ⟨fun _ => yes _ rfl, fun _ => ⟨fun _ => yes _ rfl, fun _ => ?_⟩⟩⟩
    obtain ⟨hN, hI⟩ := longP_no hl
    have a1 : small N.length = true := small_ok (by omega)
    have a2 : small I.length = true := small_ok (by omega)
    have a3 : small (16 * N.length) = true := small_ok (by omega)
    have a4 : small (32 * I.length) = true := small_ok (by omega)
    simp only [hB, hB2, a1, a2, a3, a4, Bool.and_self, HT]
    exact ⟨.r4, ⟨hN, hI⟩, rfl, rfl, rfl, (.cons _ _ _ _ (.refl _) (.cons _ _ _ _ (.refl _) (.cons _ _ _ _ (.refl _) (.cons _ _ _ _ (.refl _) .nil)))), (.cons _ _ _ _ (by first | exact OLe.same _ _ _ | exact OLe.cells _ _ _ _ _ _ _ (Les.refl _) | exact OLe.cells _ _ _ _ _ _ _ (.cons _ _ _ _ (.xsf _ _ _) (.cons _ _ _ _ (.xsf _ _ _) .nil)) | exact OLe.cells _ _ _ _ _ _ _ (.cons _ _ _ _ (.xso _ _) (.cons _ _ _ _ (.xso _ _) .nil)) | exact OLe.list' (α := ByteArray) | exact OLe.list' (α := ByteArray × ByteArray) | exact OLe.nil _ _) (.cons _ _ _ _ (by first | exact OLe.same _ _ _ | exact OLe.cells _ _ _ _ _ _ _ (Les.refl _) | exact OLe.cells _ _ _ _ _ _ _ (.cons _ _ _ _ (.xsf _ _ _) (.cons _ _ _ _ (.xsf _ _ _) .nil)) | exact OLe.cells _ _ _ _ _ _ _ (.cons _ _ _ _ (.xso _ _) (.cons _ _ _ _ (.xso _ _) .nil)) | exact OLe.list' (α := ByteArray) | exact OLe.list' (α := ByteArray × ByteArray) | exact OLe.nil _ _) (.cons _ _ _ _ (by first | exact OLe.same _ _ _ | exact OLe.cells _ _ _ _ _ _ _ (Les.refl _) | exact OLe.cells _ _ _ _ _ _ _ (.cons _ _ _ _ (.xsf _ _ _) (.cons _ _ _ _ (.xsf _ _ _) .nil)) | exact OLe.cells _ _ _ _ _ _ _ (.cons _ _ _ _ (.xso _ _) (.cons _ _ _ _ (.xso _ _) .nil)) | exact OLe.list' (α := ByteArray) | exact OLe.list' (α := ByteArray × ByteArray) | exact OLe.nil _ _) (.cons _ _ _ _ (by first | exact OLe.same _ _ _ | exact OLe.cells _ _ _ _ _ _ _ (Les.refl _) | exact OLe.cells _ _ _ _ _ _ _ (.cons _ _ _ _ (.xsf _ _ _) (.cons _ _ _ _ (.xsf _ _ _) .nil)) | exact OLe.cells _ _ _ _ _ _ _ (.cons _ _ _ _ (.xso _ _) (.cons _ _ _ _ (.xso _ _) .nil)) | exact OLe.list' (α := ByteArray) | exact OLe.list' (α := ByteArray × ByteArray) | exact OLe.nil _ _) .nil))))⟩
  · intro s hs
    cases s with
    | r4 => exact rte_g4 N I who to hs.1 hs.2
    | r8 => exact rte_g8 N I who to hs.1 hs.2
    | r12 => exact rte_g12 N I who to hs.1 hs.2
    | r16 =>
      have hN : N.length ≤ 40 := hs.1
      have b1 : Nat.ble N.length 1000000 = true := ble_yes (by omega)
      show (rte_tR16 Tryd.prog N I who to).Holds _
      unfold rte_tR16
      simp only [dL_eL, ble_self, b1, HT, decide_true]
      exact ⟨.l (allP N I who) 0, ⟨hs, Nat.zero_le _, Nat.le_trans (allP_len _ _ _) hN⟩, rel_l (by omega), rfl, rfl, rfl, (.cons _ _ _ _ (.refl _) (.cons _ _ _ _ (.refl _) (.cons _ _ _ _ (.refl _) (.cons _ _ _ _ (.refl _) (.cons _ _ _ _ (.refl _) (.cons _ _ _ _ (.refl _) (.cons _ _ _ _ (.vs _) .nil))))))), (.cons _ _ _ _ (by first | exact OLe.same _ _ _ | exact OLe.cells _ _ _ _ _ _ _ (Les.refl _) | exact OLe.cells _ _ _ _ _ _ _ (.cons _ _ _ _ (.xsf _ _ _) (.cons _ _ _ _ (.xsf _ _ _) .nil)) | exact OLe.cells _ _ _ _ _ _ _ (.cons _ _ _ _ (.xso _ _) (.cons _ _ _ _ (.xso _ _) .nil)) | exact OLe.list' (α := ByteArray) | exact OLe.list' (α := ByteArray × ByteArray) | exact OLe.nil _ _) (.cons _ _ _ _ (by first | exact OLe.same _ _ _ | exact OLe.cells _ _ _ _ _ _ _ (Les.refl _) | exact OLe.cells _ _ _ _ _ _ _ (.cons _ _ _ _ (.xsf _ _ _) (.cons _ _ _ _ (.xsf _ _ _) .nil)) | exact OLe.cells _ _ _ _ _ _ _ (.cons _ _ _ _ (.xso _ _) (.cons _ _ _ _ (.xso _ _) .nil)) | exact OLe.list' (α := ByteArray) | exact OLe.list' (α := ByteArray × ByteArray) | exact OLe.nil _ _) (.cons _ _ _ _ (by first | exact OLe.same _ _ _ | exact OLe.cells _ _ _ _ _ _ _ (Les.refl _) | exact OLe.cells _ _ _ _ _ _ _ (.cons _ _ _ _ (.xsf _ _ _) (.cons _ _ _ _ (.xsf _ _ _) .nil)) | exact OLe.cells _ _ _ _ _ _ _ (.cons _ _ _ _ (.xso _ _) (.cons _ _ _ _ (.xso _ _) .nil)) | exact OLe.list' (α := ByteArray) | exact OLe.list' (α := ByteArray × ByteArray) | exact OLe.nil _ _) (.cons _ _ _ _ (by first | exact OLe.same _ _ _ | exact OLe.cells _ _ _ _ _ _ _ (Les.refl _) | exact OLe.cells _ _ _ _ _ _ _ (.cons _ _ _ _ (.xsf _ _ _) (.cons _ _ _ _ (.xsf _ _ _) .nil)) | exact OLe.cells _ _ _ _ _ _ _ (.cons _ _ _ _ (.xso _ _) (.cons _ _ _ _ (.xso _ _) .nil)) | exact OLe.list' (α := ByteArray) | exact OLe.list' (α := ByteArray × ByteArray) | exact OLe.nil _ _) (.cons _ _ _ _ (by first | exact OLe.same _ _ _ | exact OLe.cells _ _ _ _ _ _ _ (Les.refl _) | exact OLe.cells _ _ _ _ _ _ _ (.cons _ _ _ _ (.xsf _ _ _) (.cons _ _ _ _ (.xsf _ _ _) .nil)) | exact OLe.cells _ _ _ _ _ _ _ (.cons _ _ _ _ (.xso _ _) (.cons _ _ _ _ (.xso _ _) .nil)) | exact OLe.list' (α := ByteArray) | exact OLe.list' (α := ByteArray × ByteArray) | exact OLe.nil _ _) .nil)))))⟩
    | l L i =>
      obtain ⟨⟨hN, hI⟩, hi, hL⟩ := hs
      have b1 : Nat.ble N.length 1000000 = true := ble_yes (by omega)
      show (rte_t0 Tryd.prog N I who to L true i).Holds _
      unfold rte_t0
      refine hSd (fun h => ?_) fun h => ?_
      · have h : i < L.length := by omega
        refine hSi h (hT (by simpa using h) ?_)
        obtain ⟨F, hF⟩ : ∃ F, F = updD (eL L) (i : Int).toNat 0 [D.v (Value.string (⟨#[115, 112, 111, 105, 108, 116]⟩ : ByteArray))] := ⟨_, rfl⟩
        have hl : (dL ByteArray F L.length).length = L.length := dL_length _ _
        refine ⟨.l (dL ByteArray F L.length) (i + 1), ⟨⟨hN, hI⟩, by rw [hl]; omega, by rw [hl]; exact hL⟩, rel_r (by rw [hl]; omega), rfl, rfl, rfl, (.cons _ _ _ _ (.refl _) (.cons _ _ _ _ (.refl _) (.cons _ _ _ _ (.refl _) (.cons _ _ _ _ (.refl _) (.cons _ _ _ _ (.ofEq (by rw [hl])) (.cons _ _ _ _ (.refl _) (.cons _ _ _ _ (.ofEq (by rw [wrap_lt (by omega) (by omega)]; rfl)) .nil))))))), ?_⟩
        rw [← hF]
        exact (.cons _ _ _ _ (by first | exact OLe.same _ _ _ | exact OLe.cells _ _ _ _ _ _ _ (Les.refl _) | exact OLe.cells _ _ _ _ _ _ _ (.cons _ _ _ _ (.xsf _ _ _) (.cons _ _ _ _ (.xsf _ _ _) .nil)) | exact OLe.cells _ _ _ _ _ _ _ (.cons _ _ _ _ (.xso _ _) (.cons _ _ _ _ (.xso _ _) .nil)) | exact OLe.list' (α := ByteArray) | exact OLe.list' (α := ByteArray × ByteArray) | exact OLe.nil _ _) (.cons _ _ _ _ (by first | exact OLe.same _ _ _ | exact OLe.cells _ _ _ _ _ _ _ (Les.refl _) | exact OLe.cells _ _ _ _ _ _ _ (.cons _ _ _ _ (.xsf _ _ _) (.cons _ _ _ _ (.xsf _ _ _) .nil)) | exact OLe.cells _ _ _ _ _ _ _ (.cons _ _ _ _ (.xso _ _) (.cons _ _ _ _ (.xso _ _) .nil)) | exact OLe.list' (α := ByteArray) | exact OLe.list' (α := ByteArray × ByteArray) | exact OLe.nil _ _) (.cons _ _ _ _ (by first | exact OLe.same _ _ _ | exact OLe.cells _ _ _ _ _ _ _ (Les.refl _) | exact OLe.cells _ _ _ _ _ _ _ (.cons _ _ _ _ (.xsf _ _ _) (.cons _ _ _ _ (.xsf _ _ _) .nil)) | exact OLe.cells _ _ _ _ _ _ _ (.cons _ _ _ _ (.xso _ _) (.cons _ _ _ _ (.xso _ _) .nil)) | exact OLe.list' (α := ByteArray) | exact OLe.list' (α := ByteArray × ByteArray) | exact OLe.nil _ _) (.cons _ _ _ _ (by first | exact OLe.same _ _ _ | exact OLe.cells _ _ _ _ _ _ _ (Les.refl _) | exact OLe.cells _ _ _ _ _ _ _ (.cons _ _ _ _ (.xsf _ _ _) (.cons _ _ _ _ (.xsf _ _ _) .nil)) | exact OLe.cells _ _ _ _ _ _ _ (.cons _ _ _ _ (.xso _ _) (.cons _ _ _ _ (.xso _ _) .nil)) | exact OLe.list' (α := ByteArray) | exact OLe.list' (α := ByteArray × ByteArray) | exact OLe.nil _ _) (.cons _ _ _ _ (by first | exact OLe.same _ _ _ | exact OLe.cells _ _ _ _ _ _ _ (Les.refl _) | exact OLe.cells _ _ _ _ _ _ _ (.cons _ _ _ _ (.xsf _ _ _) (.cons _ _ _ _ (.xsf _ _ _) .nil)) | exact OLe.cells _ _ _ _ _ _ _ (.cons _ _ _ _ (.xso _ _) (.cons _ _ _ _ (.xso _ _) .nil)) | exact OLe.list' (α := ByteArray) | exact OLe.list' (α := ByteArray × ByteArray) | exact OLe.nil _ _) .nil)))))
      · simp only [dL_eL, sameP_self, ble_self, b1, idxS_ge, beq_self_eq_true, HT]
        cases h1 : decide (N = dL ByteArray (listD [D.v (Value.string (⟨#[114, 111, 111, 116]⟩ : ByteArray))] [TK.str].length) 1) <;> simp only [HT, HF, sameP, h1, Bool.true_and, Bool.false_and, beq_self_eq_true] <;> exact yes _ rfl
end Go.Proofs.YtffcaapbmkaceaaDoor
