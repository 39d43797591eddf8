/- The statement ExprNamed, walked. No condition. -/
import Derived.Test.YtengccmjlaejfaaMg18
import Derived.Test.YtengccmjlaejfaaMg14
section
namespace Go.Proofs.Ytengccmjlaejfaa
open Ev Go.RowKit
set_option maxRecDepth 100000
set_option linter.unusedVariables false
noncomputable def lgX : SumBr := obX Try.prog 9 (AKs.cons aTr AKs.nil) fun z => .leaf (.s (.bool (decide (sizeF z.1 500 > 500))), [])
noncomputable def evX : SumBr := obX Try.prog 12 (AKs.cons aTr (AKs.cons (aL Vl) AKs.nil)) fun z => .leaf (resA2 (evalF z.2.1 z.1), [])
noncomputable def enX : SumBr := orX lgX (orX evX clX)
theorem enX_ok : SumGO Try.prog (sumS enX) := orX_open (obX_ok (by kernel_rfl)) (orX_open (obX_ok (by kernel_rfl)) (obX_ok (by kernel_rfl)))
def en_cf : Nat → Cfg := cfL [mkC 116 [1, 3, 7, 8] [(3, []), (7, []), (8, [])], mkC 116 [1, 3, 7, 8, 9] [(3, []), (7, []), (8, [])]]
def en_a (t : Tr) (a b : List Vl) : List AV := [trO t, .fz (eL a) a.length vks, .fz (eL b) b.length vks]
noncomputable def en_t (P : Program) (t : Tr) (a b : List Vl) : Br PO :=
(.test (false)
  (.leaf (.fin ⟨Ex.ret, true, [some (AV.s (Value.bool true))], []⟩))
  (.ob (ObE (trO t)   (trA (trD (trO t))))
    (.ob (ObC Try.prog 9 [trA (trD (trO t))]   (AV.s (Value.bool (decide (sizeF (trD (trO t)) (500) > 500)))) [])
      (.test (decide (sizeF (trD (trO t)) (500) > 500))
        (.leaf (.fin ⟨Ex.ret, true, [some (AV.s (Value.bool true))], []⟩))
        (.test (decide ((↑a.length : Int) > 500))
          (.leaf (.fin ⟨Ex.ret, true, [some (AV.s (Value.bool true))], []⟩))
          (.test (decide ((↑b.length : Int) > 500))
            (.leaf (.fin ⟨Ex.ret, true, [some (AV.s (Value.bool true))], []⟩))
            (.ob (ObE (trO t)   (trA (trD (trO t))))
              (.ob (ObC Try.prog 10 [trA (trD (trO t))]   (AV.osl 65536 (colsF (trD (trO t))).length)   [iR (colsF (trD (trO t)))])
                (.test (small b.length && small (Try.prog.types[23].bytes * b.length))
                  (.leaf (.at 0 (ct P 3 0).1 (ct P 3 0).2 ⟨Ex.normal, true, [some (AV.fz (eL a) a.length vks), some (AV.ptr 65536 0 0), some (AV.osl 65537 (colsF (trD (trO t))).length), some (AV.osl 65538 b.length)], [OS.o (AO.cells [AV.s (Value.int IntKind.u8 t.op), AV.s (Value.int IntKind.u8 t.k), AV.s (Value.int IntKind.i64 t.vn), AV.s (Value.int IntKind.i64 t.hi), AV.s (Value.string t.t), AV.s (Value.int IntKind.i64 t.n), AV.fz (eT t.args) t.args.length ksE] 7 65536 true false), OS.o   (AO.rows (eL (colsF (trD (trO t))))     (colsF (trD (trO t))).length [TK.int IntKind.i64]), OS.o (AO.rows (eL b) b.length vks)]⟩))
                  .no
                )
              )
            )
          )
        )
      )
    )
  )
)
theorem en_h (t : Tr) (a b : List Vl) : (ev Try.prog enX worksS 3000 noL 3000 .normal [.c 0 (codeOf Try.prog 3)] (params (en_a t a b)) Ev.start).map (lookP Try.prog (resOf Try.prog 3) [] en_cf) = en_t Try.prog t a b := by kernel_rfl
def en_v0 (t : Tr) (a b : List Vl) (M : List Vl) : List AV := [.fz (eL a) a.length vks, .ptr 65536 0 0, .osl 65537 (colsF t).length, .osl 65538 M.length]
def en_o0 (t : Tr) (a b : List Vl) (M : List Vl) : List AO := [boxE t, iR (colsF t), vR M]
noncomputable def en_t0 (P : Program) (t : Tr) (a b : List Vl) (M : List Vl) : Br PO :=
(.test (decide ((↑M.length : Int) < (↑a.length : Int)))
  (.test (M.length.beq M.length && (true && (small (1 + M.length) && small (Try.prog.types[23].bytes * (1 + M.length)))))
    (.leaf (.at 0 (ct P 3 0).1 (ct P 3 0).2 ⟨Ex.normal, true, [some (AV.fz (eL a) a.length vks), some (AV.ptr 65536 0 0), some (AV.osl 65537 (colsF t).length), some (AV.osl 65538 (M.length + 1))], [OS.o (AO.cells [AV.s (Value.int IntKind.u8 t.op), AV.s (Value.int IntKind.u8 t.k), AV.s (Value.int IntKind.i64 t.vn), AV.s (Value.int IntKind.i64 t.hi), AV.s (Value.string t.t), AV.s (Value.int IntKind.i64 t.n), AV.fz (eT t.args) t.args.length ksE] 7 0 true false), OS.o (AO.rows (eL (colsF t)) (colsF t).length [TK.int IntKind.i64]), OS.o (AO.rows (catD (eL M) M.length (listD [D.v (Value.int IntKind.u8 (1)), D.v (Value.int IntKind.i64 (7)), D.v (Value.int IntKind.i64 (0)), D.v (Value.string (⟨#[]⟩ : ByteArray))] 4)) (M.length + 1) vks)]⟩))
    .no
  )
  (.test (decide (0 ≤ (↑a.length : Int)) && decide ((↑a.length : Int) ≤ (↑M.length : Int)))
    (.leaf (.at 1 (ct P 3 1).1 (ct P 3 1).2 ⟨Ex.normal, true, [some (AV.fz (eL a) a.length vks), some (AV.ptr 65536 0 0), some (AV.osl 65537 (colsF t).length), some (AV.osl 65538 (↑a.length : Int).toNat), some (AV.v (Value.int IntKind.i64 (0)))], [OS.o (AO.cells [AV.s (Value.int IntKind.u8 t.op), AV.s (Value.int IntKind.u8 t.k), AV.s (Value.int IntKind.i64 t.vn), AV.s (Value.int IntKind.i64 t.hi), AV.s (Value.string t.t), AV.s (Value.int IntKind.i64 t.n), AV.fz (eT t.args) t.args.length ksE] 7 0 true false), OS.o (AO.rows (eL (colsF t)) (colsF t).length [TK.int IntKind.i64]), OS.o (AO.rows (eL M) M.length vks)]⟩))
    .no
  )
)
theorem en_h0 (t : Tr) (a b : List Vl) (M : List Vl) (j : Nat → Value) : (ev Try.prog enX worksS 3000 noL 3000 .normal (hd Try.prog 3 0) (mkE (en_cf 0) (en_v0 t a b M) j) (mkH openB (en_o0 t a b M))).map (lookP Try.prog (resOf Try.prog 3) [] en_cf) = en_t0 Try.prog t a b M := by kernel_rfl
def en_v1 (t : Tr) (a b : List Vl) (M : List Vl) (i : Nat) : List AV := [.fz (eL a) a.length vks, .ptr 65536 0 0, .osl 65537 (colsF t).length, .osl 65538 a.length, .s (.int .i64 i)]
def en_o1 (t : Tr) (a b : List Vl) (M : List Vl) (i : Nat) : List AO := [boxE t, iR (colsF t), vR M]
noncomputable def en_t1 (P : Program) (t : Tr) (a b : List Vl) (M : List Vl) (i : Nat) : Br PO :=
(.test (decide ((↑i : Int) < (↑(colsF t).length : Int)))
  (.test (decide ((↑i : Int) > 0))
    (.test (decide (0 ≤ (↑i : Int)) && decide ((↑i : Int) < (↑(colsF t).length : Int)))
      (.test ((↑i : Int).toNat.blt (colsF t).length)
        (.test (decide (0 ≤ IntKind.i64.wrap ((↑i : Int) - 1)) && decide (IntKind.i64.wrap ((↑i : Int) - 1) < (↑(colsF t).length : Int)))
          (.test ((IntKind.i64.wrap ((↑i : Int) - 1)).toNat.blt (colsF t).length)
            (.test (decide ((colsF t).getD (↑i : Int).toNat default ≤ (colsF t).getD (IntKind.i64.wrap ((↑i : Int) - 1)).toNat default))
              (.leaf (.fin ⟨Ex.ret, true, [some (AV.v (Value.bool false))], []⟩))
              (.test (decide (0 ≤ (↑i : Int)) && decide ((↑i : Int) < (↑(colsF t).length : Int)))
                (.test ((↑i : Int).toNat.blt (colsF t).length)
                  (.test (decide ((colsF t).getD (↑i : Int).toNat default ≥ 0))
                    (.test (decide (0 ≤ (↑i : Int)) && decide ((↑i : Int) < (↑(colsF t).length : Int)))
                      (.test ((↑i : Int).toNat.blt (colsF t).length)
                        (.test (decide ((colsF t).getD (↑i : Int).toNat default < (↑a.length : Int)))
                          (.test (decide (0 ≤ (↑i : Int)) && decide ((↑i : Int) < (↑(colsF t).length : Int)))
                            (.test ((↑i : Int).toNat.blt (colsF t).length)
                              (.test (decide (0 ≤ (↑i : Int)) && decide ((↑i : Int) < (↑(colsF t).length : Int)))
                                (.test ((↑i : Int).toNat.blt (colsF t).length)
                                  (.test (decide (0 ≤ (colsF t).getD (↑i : Int).toNat default) && decide ((colsF t).getD (↑i : Int).toNat default < (↑a.length : Int)))
                                    (.test (decide (0 ≤ (colsF t).getD (↑i : Int).toNat default) && decide ((colsF t).getD (↑i : Int).toNat default < (↑a.length : Int)))
                                      (.test (((colsF t).getD (↑i : Int).toNat default).toNat.blt M.length)
                                        (.leaf (.at 1 (ct P 3 1).1 (ct P 3 1).2 ⟨Ex.normal, true, [some (AV.fz (eL a) a.length vks), some (AV.ptr 65536 0 0), some (AV.osl 65537 (colsF t).length), some (AV.osl 65538 a.length), some (AV.s (Value.int IntKind.i64 (IntKind.i64.wrap ((↑i : Int) + 1))))], [OS.o (AO.cells [AV.s (Value.int IntKind.u8 t.op), AV.s (Value.int IntKind.u8 t.k), AV.s (Value.int IntKind.i64 t.vn), AV.s (Value.int IntKind.i64 t.hi), AV.s (Value.string t.t), AV.s (Value.int IntKind.i64 t.n), AV.fz (eT t.args) t.args.length ksE] 7 0 true false), OS.o (AO.rows (eL (colsF t)) (colsF t).length [TK.int IntKind.i64]), OS.o   (AO.rows     (updD (eL M) ((colsF t).getD (↑i : Int).toNat default).toNat 0       [D.v (Value.int IntKind.u8 (a.getD ((colsF t).getD (↑i : Int).toNat default).toNat default).k), D.v (Value.int IntKind.i64 (a.getD ((colsF t).getD (↑i : Int).toNat default).toNat default).n), D.v (Value.int IntKind.i64 (a.getD ((colsF t).getD (↑i : Int).toNat default).toNat default).hi), D.v (Value.string (a.getD ((colsF t).getD (↑i : Int).toNat default).toNat default).t)])     M.length vks)]⟩))
                                        .no
                                      )
                                      .no
                                    )
                                    .no
                                  )
                                  .no
                                )
                                .no
                              )
                              .no
                            )
                            .no
                          )
                          (.leaf (.at 1 (ct P 3 1).1 (ct P 3 1).2 ⟨Ex.normal, true, [some (AV.fz (eL a) a.length vks), some (AV.ptr 65536 0 0), some (AV.osl 65537 (colsF t).length), some (AV.osl 65538 a.length), some (AV.s (Value.int IntKind.i64 (IntKind.i64.wrap ((↑i : Int) + 1))))], [OS.o (AO.cells [AV.s (Value.int IntKind.u8 t.op), AV.s (Value.int IntKind.u8 t.k), AV.s (Value.int IntKind.i64 t.vn), AV.s (Value.int IntKind.i64 t.hi), AV.s (Value.string t.t), AV.s (Value.int IntKind.i64 t.n), AV.fz (eT t.args) t.args.length ksE] 7 0 true false), OS.o (AO.rows (eL (colsF t)) (colsF t).length [TK.int IntKind.i64]), OS.o (AO.rows (eL M) M.length vks)]⟩))
                        )
                        .no
                      )
                      .no
                    )
                    (.leaf (.at 1 (ct P 3 1).1 (ct P 3 1).2 ⟨Ex.normal, true, [some (AV.fz (eL a) a.length vks), some (AV.ptr 65536 0 0), some (AV.osl 65537 (colsF t).length), some (AV.osl 65538 a.length), some (AV.s (Value.int IntKind.i64 (IntKind.i64.wrap ((↑i : Int) + 1))))], [OS.o (AO.cells [AV.s (Value.int IntKind.u8 t.op), AV.s (Value.int IntKind.u8 t.k), AV.s (Value.int IntKind.i64 t.vn), AV.s (Value.int IntKind.i64 t.hi), AV.s (Value.string t.t), AV.s (Value.int IntKind.i64 t.n), AV.fz (eT t.args) t.args.length ksE] 7 0 true false), OS.o (AO.rows (eL (colsF t)) (colsF t).length [TK.int IntKind.i64]), OS.o (AO.rows (eL M) M.length vks)]⟩))
                  )
                  .no
                )
                .no
              )
            )
            .no
          )
          .no
        )
        .no
      )
      .no
    )
    (.test (decide (0 ≤ (↑i : Int)) && decide ((↑i : Int) < (↑(colsF t).length : Int)))
      (.test ((↑i : Int).toNat.blt (colsF t).length)
        (.test (decide ((colsF t).getD (↑i : Int).toNat default ≥ 0))
          (.test (decide (0 ≤ (↑i : Int)) && decide ((↑i : Int) < (↑(colsF t).length : Int)))
            (.test ((↑i : Int).toNat.blt (colsF t).length)
              (.test (decide ((colsF t).getD (↑i : Int).toNat default < (↑a.length : Int)))
                (.test (decide (0 ≤ (↑i : Int)) && decide ((↑i : Int) < (↑(colsF t).length : Int)))
                  (.test ((↑i : Int).toNat.blt (colsF t).length)
                    (.test (decide (0 ≤ (↑i : Int)) && decide ((↑i : Int) < (↑(colsF t).length : Int)))
                      (.test ((↑i : Int).toNat.blt (colsF t).length)
                        (.test (decide (0 ≤ (colsF t).getD (↑i : Int).toNat default) && decide ((colsF t).getD (↑i : Int).toNat default < (↑a.length : Int)))
                          (.test (decide (0 ≤ (colsF t).getD (↑i : Int).toNat default) && decide ((colsF t).getD (↑i : Int).toNat default < (↑a.length : Int)))
                            (.test (((colsF t).getD (↑i : Int).toNat default).toNat.blt M.length)
                              (.leaf (.at 1 (ct P 3 1).1 (ct P 3 1).2 ⟨Ex.normal, true, [some (AV.fz (eL a) a.length vks), some (AV.ptr 65536 0 0), some (AV.osl 65537 (colsF t).length), some (AV.osl 65538 a.length), some (AV.s (Value.int IntKind.i64 (IntKind.i64.wrap ((↑i : Int) + 1))))], [OS.o (AO.cells [AV.s (Value.int IntKind.u8 t.op), AV.s (Value.int IntKind.u8 t.k), AV.s (Value.int IntKind.i64 t.vn), AV.s (Value.int IntKind.i64 t.hi), AV.s (Value.string t.t), AV.s (Value.int IntKind.i64 t.n), AV.fz (eT t.args) t.args.length ksE] 7 0 true false), OS.o (AO.rows (eL (colsF t)) (colsF t).length [TK.int IntKind.i64]), OS.o   (AO.rows     (updD (eL M) ((colsF t).getD (↑i : Int).toNat default).toNat 0       [D.v (Value.int IntKind.u8 (a.getD ((colsF t).getD (↑i : Int).toNat default).toNat default).k), D.v (Value.int IntKind.i64 (a.getD ((colsF t).getD (↑i : Int).toNat default).toNat default).n), D.v (Value.int IntKind.i64 (a.getD ((colsF t).getD (↑i : Int).toNat default).toNat default).hi), D.v (Value.string (a.getD ((colsF t).getD (↑i : Int).toNat default).toNat default).t)])     M.length vks)]⟩))
                              .no
                            )
                            .no
                          )
                          .no
                        )
                        .no
                      )
                      .no
                    )
                    .no
                  )
                  .no
                )
                (.leaf (.at 1 (ct P 3 1).1 (ct P 3 1).2 ⟨Ex.normal, true, [some (AV.fz (eL a) a.length vks), some (AV.ptr 65536 0 0), some (AV.osl 65537 (colsF t).length), some (AV.osl 65538 a.length), some (AV.s (Value.int IntKind.i64 (IntKind.i64.wrap ((↑i : Int) + 1))))], [OS.o (AO.cells [AV.s (Value.int IntKind.u8 t.op), AV.s (Value.int IntKind.u8 t.k), AV.s (Value.int IntKind.i64 t.vn), AV.s (Value.int IntKind.i64 t.hi), AV.s (Value.string t.t), AV.s (Value.int IntKind.i64 t.n), AV.fz (eT t.args) t.args.length ksE] 7 0 true false), OS.o (AO.rows (eL (colsF t)) (colsF t).length [TK.int IntKind.i64]), OS.o (AO.rows (eL M) M.length vks)]⟩))
              )
              .no
            )
            .no
          )
          (.leaf (.at 1 (ct P 3 1).1 (ct P 3 1).2 ⟨Ex.normal, true, [some (AV.fz (eL a) a.length vks), some (AV.ptr 65536 0 0), some (AV.osl 65537 (colsF t).length), some (AV.osl 65538 a.length), some (AV.s (Value.int IntKind.i64 (IntKind.i64.wrap ((↑i : Int) + 1))))], [OS.o (AO.cells [AV.s (Value.int IntKind.u8 t.op), AV.s (Value.int IntKind.u8 t.k), AV.s (Value.int IntKind.i64 t.vn), AV.s (Value.int IntKind.i64 t.hi), AV.s (Value.string t.t), AV.s (Value.int IntKind.i64 t.n), AV.fz (eT t.args) t.args.length ksE] 7 0 true false), OS.o (AO.rows (eL (colsF t)) (colsF t).length [TK.int IntKind.i64]), OS.o (AO.rows (eL M) M.length vks)]⟩))
        )
        .no
      )
      .no
    )
  )
  (.ob (ObE (trO t)   (trA (trD (trO t))))
    (.ob (ObC Try.prog 12 [trA (trD (trO t)), AV.fz (eL (dL Vl (eL a) a.length)) (dL Vl (eL a) a.length).length (Rec.ks Vl)]   (AV.tup     [vlA (evalF (dL Vl (eL a) a.length) (trD (trO t))).fst,       AV.s (Value.int IntKind.i64 (evalF (dL Vl (eL a) a.length) (trD (trO t))).snd)])   [])
      (.test (a.length.ble M.length)
        (.ob (ObE (trO t)   (trA (trD (trO t))))
          (.ob (ObC Try.prog 12 [trA (trD (trO t)), AV.fz (eL (dL Vl (eL M) a.length)) (dL Vl (eL M) a.length).length (Rec.ks Vl)]   (AV.tup     [vlA (evalF (dL Vl (eL M) a.length) (trD (trO t))).fst,       AV.s (Value.int IntKind.i64 (evalF (dL Vl (eL M) a.length) (trD (trO t))).snd)])   [])
            (.test ((evalF (dL Vl (eL a) a.length) (trD (trO t))).fst.k ==     (evalF (dL Vl (eL M) a.length) (trD (trO t))).fst.k &&   ((evalF (dL Vl (eL a) a.length) (trD (trO t))).fst.n ==       (evalF (dL Vl (eL M) a.length) (trD (trO t))).fst.n &&     ((evalF (dL Vl (eL a) a.length) (trD (trO t))).fst.hi ==         (evalF (dL Vl (eL M) a.length) (trD (trO t))).fst.hi &&       ((evalF (dL Vl (eL a) a.length) (trD (trO t))).fst.t.toList ==           (evalF (dL Vl (eL M) a.length) (trD (trO t))).fst.t.toList &&         true))))
              (.leaf (.fin ⟨Ex.ret, true, [some   (AV.s     (Value.bool       ((evalF (dL Vl (eL a) a.length) (trD (trO t))).snd ==         (evalF (dL Vl (eL M) a.length) (trD (trO t))).snd)))], []⟩))
              (.leaf (.fin ⟨Ex.ret, true, [some (AV.v (Value.bool false))], []⟩))
            )
          )
        )
        .no
      )
    )
  )
)
theorem en_h1 (t : Tr) (a b : List Vl) (M : List Vl) (i : Nat) (j : Nat → Value) : (ev Try.prog enX worksS 3000 noL 3000 .normal (hd Try.prog 3 1) (mkE (en_cf 1) (en_v1 t a b M i) j) (mkH openB (en_o1 t a b M i))).map (lookP Try.prog (resOf Try.prog 3) [] en_cf) = en_t1 Try.prog t a b M i := by kernel_rfl

inductive EnS where
  | a (M : List Vl)
  | b (M : List Vl) (i : Nat)
def EnV (t : Tr) (a b : List Vl) : EnS → List AV
  | .a M => en_v0 t a b M
  | .b M i => en_v1 t a b M i
def EnO (t : Tr) (a b : List Vl) : EnS → List AO
  | .a M => en_o0 t a b M
  | .b M i => en_o1 t a b M i
noncomputable def EnT (P : Program) (t : Tr) (a b : List Vl) : EnS → Br PO
  | .a M => en_t0 P t a b M
  | .b M i => en_t1 P t a b M i
def EnJ (t : Tr) (a : List Vl) : EnS → Prop
  | .a M => (cntF t ≤ 500 ∧ a.length ≤ 500) ∧ M.length ≤ 500
  | .b M i => (cntF t ≤ 500 ∧ a.length ≤ 500) ∧ (a.length ≤ M.length ∧ i ≤ (colsF t).length) ∧ ∀ j, j < i → 0 ≤ (colsF t).getD j default → (colsF t).getD j default < (a.length : Int) → M.getD ((colsF t).getD j default).toNat default = a.getD ((colsF t).getD j default).toNat default
def EnM (t : Tr) (a : List Vl) : EnS → Nat × Nat
  | .a M => (1, a.length - M.length)
  | .b _ i => (0, (colsF t).length - i)
theorem en_ok (t : Tr) (a b : List Vl) : OCalls Try.prog 3 [trA t, .fz (eL a) a.length vks, .fz (eL b) b.length vks] (.s (.bool true)) [] := by
  have hB : Try.prog.types[23].bytes = 40 := by kernel_rfl
  have yes : ∀ x, x = true → Goes ⟨.ret, true, [some (.s (.bool x))], []⟩ [.s (.bool true)] [] := fun x hx => ⟨rfl, (.cons _ _ _ _ (.ofEq (by rw [hx])) .nil), .nil⟩
  refine OCalls.le (args := en_a t a b) ?_ (.cons _ _ _ _ (trO_le t) (Les.refl _))
  refine floyd ev_mix ev_ok enX_ok worksS_ok (by kernel_rfl) [] en_cf (EnM t a) (fun s => match s with | .a _ => 0 | .b _ _ => 1) (EnV t a b) (EnO t a b) (EnJ t a) (EnT _ t a b) (en_t _ t a b) (en_h t a b) (fun s j => by cases s; exact en_h0 t a b _ j; exact en_h1 t a b _ _ j) ?_ ?_
  · unfold en_t
    simp only [trD_B]
    refine hSf (hOB (hO ⟨lg_ok _⟩ (hSd (fun _ => yes _ rfl) fun ht => hSd (fun _ => yes _ rfl) fun ha => hSd (fun _ => yes _ rfl) fun hb => ?_)))
    have hc : cntF t ≤ 500 := by
      have := (sizeF_iff t 500).2
      rcases Int.lt_or_le 500 (cntF t : Int) with c | c
      · exact absurd (this c) ht
      · omega
    refine hOB (hO ⟨cl_ok t (by omega)⟩ (hT (by rw [hB, small_ok (by omega), small_ok (by omega)]; rfl) ?_))
    exact ⟨.a b, ⟨⟨hc, by omega⟩, by omega⟩, rfl, rfl, rfl, (.cons _ _ _ _ (.refl _) (.cons _ _ _ _ (.refl _) (.cons _ _ _ _ (.refl _) (.cons _ _ _ _ (.refl _) .nil)))), .cons _ _ _ _ (box_le t _ _) (.cons _ _ _ _ (OLe.same _ _ _) (.cons _ _ _ _ (OLe.same _ _ _) .nil))⟩
  · intro s hs
    cases s with
    | a M =>
      obtain ⟨⟨hc, ha⟩, hM⟩ := hs
      show (en_t0 Try.prog t a b M).Holds _
      unfold en_t0
      refine hSd (fun h => hT (app_ok (k := 40) hB (by omega) (by omega)) ?_) fun h => hT (by simp; omega) ?_
      · exact ⟨.a (M ++ [⟨1, 7, 0, ⟨#[]⟩⟩]), ⟨⟨hc, ha⟩, by simp; omega⟩, rel_r (by simp; omega), rfl, rfl, rfl, (.cons _ _ _ _ (.refl _) (.cons _ _ _ _ (.refl _) (.cons _ _ _ _ (.refl _) (.cons _ _ _ _ (.ofEq (by simp)) .nil)))), .cons _ _ _ _ (box_le t _ _) (.cons _ _ _ _ (OLe.same _ _ _) (.cons _ _ _ _ (vl_snoc M ⟨1, 7, 0, ⟨#[]⟩⟩) .nil))⟩
      · exact ⟨.b M 0, ⟨⟨hc, ha⟩, ⟨by omega, Nat.zero_le _⟩, fun j hj => absurd hj (Nat.not_lt_zero j)⟩, rel_l (by omega), rfl, rfl, rfl, (.cons _ _ _ _ (.refl _) (.cons _ _ _ _ (.refl _) (.cons _ _ _ _ (.refl _) (.cons _ _ _ _ (.refl _) (.cons _ _ _ _ (.vs _) .nil))))), .cons _ _ _ _ (box_le t _ _) (.cons _ _ _ _ (OLe.same _ _ _) (.cons _ _ _ _ (OLe.same _ _ _) .nil))⟩
    | b M i =>
      obtain ⟨⟨hc, ha⟩, ⟨hM, hi⟩, hj⟩ := hs
      have hcl : (colsF t).length ≤ 500 := by
        have h1 := compact_len (sortI (namF t))
        have h2 := sortI_len (namF t)
        have h3 := namF_len t
        have h4 : (colsF t).length ≤ (sortI (namF t)).length := h1
        omega
      show (en_t1 Try.prog t a b M i).Holds _
      by_cases h : i < (colsF t).length
      · have hpw := (colsF_facts t).1
        have next : ∀ M', a.length ≤ M'.length → (∀ j, j < i → 0 ≤ (colsF t).getD j default → (colsF t).getD j default < (a.length : Int) → M'.getD ((colsF t).getD j default).toNat default = a.getD ((colsF t).getD j default).toNat default) → (0 ≤ (colsF t).getD i default → (colsF t).getD i default < (a.length : Int) → M'.getD ((colsF t).getD i default).toNat default = a.getD ((colsF t).getD i default).toNat default) → EnJ t a (.b M' (i + 1)) := fun M' h1 h2 h3 => ⟨⟨hc, ha⟩, ⟨h1, by omega⟩, fun j hj' => by
          by_cases e : j = i
          · subst e; exact h3
          · exact h2 j (by omega)⟩
        have hcut : ∀ M' : List Vl, ∀ o, OLe o (vR M') → ∀ w, Le w (.s (.int .i64 ((i + 1 : Nat) : Int))) → Goes ⟨.normal, true, [some (.fz (eL a) a.length vks), some (.ptr 65536 0 0), some (.osl 65537 (colsF t).length), some (.osl 65538 a.length), some w], [.o (boxE t), .o (.rows (eL (colsF t)) (colsF t).length [.int .i64]), o]⟩ (EnV t a b (.b M' (i + 1))) (EnO t a b (.b M' (i + 1))) := fun M' o ho w hw => ⟨rfl, (.cons _ _ _ _ (.refl _) (.cons _ _ _ _ (.refl _) (.cons _ _ _ _ (.refl _) (.cons _ _ _ _ (.refl _) (.cons _ _ _ _ hw .nil))))), .cons _ _ _ _ (box_le t _ _) (.cons _ _ _ _ (OLe.same _ _ _) (.cons _ _ _ _ ho .nil))⟩
        have hwi : IntKind.i64.wrap ((i : Int) + 1) = ((i + 1 : Nat) : Int) := by rw [wrap_lt (by omega) (by omega)]; rfl
        have go1 : (∃ s', EnJ t a s' ∧ WellFoundedRelation.rel (EnM t a s') (EnM t a (.b M i)) ∧ (match s' with | .a _ => 0 | .b _ _ => 1) = 1 ∧ ((ct Try.prog 3 1).1, (ct Try.prog 3 1).2) = ct Try.prog 3 1 ∧ Goes ⟨.normal, true, [some (.fz (eL a) a.length vks), some (.ptr 65536 0 0), some (.osl 65537 (colsF t).length), some (.osl 65538 a.length), some (.s (.int .i64 ((i + 1 : Nat) : Int)))], [.o (boxE t), .o (.rows (eL (colsF t)) (colsF t).length [.int .i64]), .o (.rows (eL M) M.length vks)]⟩ (EnV t a b s') (EnO t a b s')) ∨ (0 ≤ (colsF t).getD i default ∧ (colsF t).getD i default < (a.length : Int)) := by
          by_cases c : 0 ≤ (colsF t).getD i default ∧ (colsF t).getD i default < (a.length : Int)
          · exact .inr c
          · exact .inl ⟨.b M (i + 1), next M hM hj (fun h1 h2 => absurd ⟨h1, h2⟩ c), rel_r (by omega), rfl, rfl, hcut M _ (OLe.same _ _ _) _ (.refl _)⟩
        unfold en_t1
        simp only [Int.toNat_natCast, hwi]
        have hlt : Nat.blt i (colsF t).length = true := by simpa using h
        have hix : (decide (0 ≤ (i : Int)) && decide ((i : Int) < ((colsF t).length : Int))) = true := idx_ok h
        simp only [hlt, hix]
        refine hSd (fun _ => ?_) fun h' => absurd (by omega) h'
        have upd : (0 ≤ (colsF t).getD i default ∧ (colsF t).getD i default < (a.length : Int)) → EnJ t a (.b (M.set ((colsF t).getD i default).toNat (a.getD ((colsF t).getD i default).toNat default)) (i + 1)) := fun c => next _ (by rw [List.length_set]; exact hM) (fun j hj' h1 h2 => by
            by_cases e : ((colsF t).getD j default).toNat = ((colsF t).getD i default).toNat
            · rw [e, set_same (by omega)]
            · rw [set_other e]; exact hj j hj' h1 h2) fun h1 h2 => by rw [set_same (by omega)]
        have fin2 : ∀ c : (0 ≤ (colsF t).getD i default ∧ (colsF t).getD i default < (a.length : Int)), Nat.blt ((colsF t).getD i default).toNat M.length = true := fun c => blt_yes (by omega)
        have hp : (i : Int) > 0 → ¬ (colsF t).getD i default ≤ (colsF t).getD (IntKind.i64.wrap ((i : Int) - 1)).toNat default ∧ (decide (0 ≤ IntKind.i64.wrap ((i : Int) - 1)) && decide (IntKind.i64.wrap ((i : Int) - 1) < ((colsF t).length : Int))) = true ∧ Nat.blt (IntKind.i64.wrap ((i : Int) - 1)).toNat (colsF t).length = true := fun hi0 => by
          rw [wrap_lt (by omega) (by omega)]
          have e : ((i : Int) - 1).toNat = i - 1 := by omega
          rw [e]
          have := List.pairwise_iff_getElem.1 hpw (i - 1) i (by omega) h (by omega)
          refine ⟨?_, by simp; omega, by simp; omega⟩
          simp only [List.getD_eq_getElem?_getD, List.getElem?_eq_getElem h, List.getElem?_eq_getElem (show i - 1 < (colsF t).length by omega), Option.getD_some]
          omega
        have fin3 : ∀ c : (0 ≤ (colsF t).getD i default ∧ (colsF t).getD i default < (a.length : Int)), (decide (0 ≤ (colsF t).getD i default) && decide ((colsF t).getD i default < (a.length : Int))) = true := fun c => by simp; exact c
        refine hSd (fun hi0 => hSt ?_) fun hi0 => ?_
        · obtain ⟨q1, q2, q3⟩ := hp hi0
          refine hSt (hT q2 (hT q3 (hSd (fun x => absurd x q1) fun _ => hSt (hSt (hSd (fun c1 => hSt (hSt (hSd (fun c2 => hSt (hSt (hSt (hSt (hT (fin3 ⟨c1, c2⟩) (hT (fin3 ⟨c1, c2⟩) (hT (fin2 ⟨c1, c2⟩) ?_))))))) fun c2 => ?_))) fun c1 => ?_)))))
          · exact ⟨.b _ (i + 1), upd ⟨c1, c2⟩, rel_r (by omega), rfl, rfl, hcut _ _ (vl_set M _ _ (by omega)) _ (.refl _)⟩
          · exact go1.resolve_right fun x => c2 x.2
          · exact go1.resolve_right fun x => c1 x.1
        · refine hSt (hSt (hSd (fun c1 => hSt (hSt (hSd (fun c2 => hSt (hSt (hSt (hSt (hT (fin3 ⟨c1, c2⟩) (hT (fin3 ⟨c1, c2⟩) (hT (fin2 ⟨c1, c2⟩) ?_))))))) fun c2 => ?_))) fun c1 => ?_))
          · exact ⟨.b _ (i + 1), upd ⟨c1, c2⟩, rel_r (by omega), rfl, rfl, hcut _ _ (vl_set M _ _ (by omega)) _ (.refl _)⟩
          · exact go1.resolve_right fun x => c2 x.2
          · exact go1.resolve_right fun x => c1 x.1
      · have hi' : i = (colsF t).length := by omega
        have hd := dL_take M a.length hM
        have hE : evalF a t = evalF (M.take a.length) t := evalF_congr (by simp; omega) fun n hn h0 h1 => by
          rw [getD_take M _ _ (by omega)]
          obtain ⟨j, hjl, hje⟩ := List.getElem_of_mem (((colsF_facts t).2 n).2 hn)
          have := hj j (by omega)
          rw [show (colsF t).getD j default = n by rw [List.getD_eq_getElem?_getD, List.getElem?_eq_getElem hjl]; exact hje] at this
          exact (this h0 h1).symm
        unfold en_t1
        refine hSd (fun x => by omega) fun _ => ?_
        have hl : (M.take a.length).length = a.length := by simp; omega
        simp only [trD_B, dL_eL, hd, ← hE, beq_self_eq_true, Bool.and_true]
        refine hOB (hO ⟨va_ok t a⟩ (hT (ble_yes hM) (hOB (hO ⟨?_⟩ (hSt (yes _ rfl))))))
        rw [hE]
        exact va_ok t (M.take a.length)
end Go.Proofs.Ytengccmjlaejfaa
end
section
namespace Go.Proofs.Ytengccmjlaejfaa
open Ev Go.RowKit
set_option linter.unusedVariables false
def ofV (b : Bool) : Vl := ⟨2, if b then 1 else 0, 0, ⟨#[]⟩⟩
def okB (v : Vl) : Prop := v.k = 2 ∨ v.k = 0
instance (v : Vl) : Decidable (okB v) := inferInstanceAs (Decidable (_ ∨ _))
theorem notR_eq (v : Vl) : xnotR v = if v.k = 2 then (ofV (decide (v.n = 0)), 0) else if v.k = 0 then (default, 0) else (default, 60) := by
  by_cases h2 : v.k = 2
  · by_cases hn : v.n = 0
    · simp [xnotR, xnot_t, vOf, brV, resP, resC, vlOf, scI, scS, ofV, bne, h2, hn]
    · have bn : (v.n == 0) = false := beq_false_of_ne hn
      simp [xnotR, xnot_t, vOf, brV, resP, resC, vlOf, scI, scS, ofV, bne, h2, hn, bn]
  · by_cases h0 : v.k = 0
    · simp [xnotR, xnot_t, vOf, brV, resP, resC, vlOf, scI, scS, ofV, bne, h0]; rfl
    · have b2 : (v.k == 2) = false := beq_false_of_ne h2
      have b0 : (v.k == 0) = false := beq_false_of_ne h0
      simp [xnotR, xnot_t, vOf, brV, resP, resC, vlOf, scI, scS, ofV, bne, h2, h0, b2, b0]; rfl
def joinS (d : Bool) (a b : Vl) : Vl × Int := if okB a ∧ okB b then (if (a.k = 2 ∧ decide (a.n ≠ 0) = d) ∨ (b.k = 2 ∧ decide (b.n ≠ 0) = d) then (ofV d, 0) else if a.k = 0 ∨ b.k = 0 then (default, 0) else (ofV (!d), 0)) else (default, 60)
theorem andR_eq (a b : Vl) : xandR a b = joinS false a b := by
  by_cases a2 : a.k = 2
  · by_cases an : a.n = 0
    · by_cases b2 : b.k = 2
      · by_cases bn : b.n = 0
        · simp [xandR, xand_t, vOf, brV, resP, resC, vlOf, scI, scS, ofV, bne, joinS, okB, a2, an, b2, bn] <;> try rfl
        · have bm : (b.n == 0) = false := beq_false_of_ne bn
          simp [xandR, xand_t, vOf, brV, resP, resC, vlOf, scI, scS, ofV, bne, joinS, okB, a2, an, b2, bn, bm] <;> try rfl
      · have bp : (b.k == 2) = false := beq_false_of_ne b2
        by_cases b0 : b.k = 0
        · simp [xandR, xand_t, vOf, brV, resP, resC, vlOf, scI, scS, ofV, bne, joinS, okB, a2, an, b0] <;> try rfl
        · have bq : (b.k == 0) = false := beq_false_of_ne b0
          simp [xandR, xand_t, vOf, brV, resP, resC, vlOf, scI, scS, ofV, bne, joinS, okB, a2, an, b2, b0, bp, bq] <;> try rfl
    · have am : (a.n == 0) = false := beq_false_of_ne an
      by_cases b2 : b.k = 2
      · by_cases bn : b.n = 0
        · simp [xandR, xand_t, vOf, brV, resP, resC, vlOf, scI, scS, ofV, bne, joinS, okB, a2, an, am, b2, bn] <;> try rfl
        · have bm : (b.n == 0) = false := beq_false_of_ne bn
          simp [xandR, xand_t, vOf, brV, resP, resC, vlOf, scI, scS, ofV, bne, joinS, okB, a2, an, am, b2, bn, bm] <;> try rfl
      · have bp : (b.k == 2) = false := beq_false_of_ne b2
        by_cases b0 : b.k = 0
        · simp [xandR, xand_t, vOf, brV, resP, resC, vlOf, scI, scS, ofV, bne, joinS, okB, a2, an, am, b0] <;> try rfl
        · have bq : (b.k == 0) = false := beq_false_of_ne b0
          simp [xandR, xand_t, vOf, brV, resP, resC, vlOf, scI, scS, ofV, bne, joinS, okB, a2, an, am, b2, b0, bp, bq] <;> try rfl
  · have ap : (a.k == 2) = false := beq_false_of_ne a2
    by_cases a0 : a.k = 0
    · by_cases b2 : b.k = 2
      · by_cases bn : b.n = 0
        · simp [xandR, xand_t, vOf, brV, resP, resC, vlOf, scI, scS, ofV, bne, joinS, okB, a0, b2, bn] <;> try rfl
        · have bm : (b.n == 0) = false := beq_false_of_ne bn
          simp [xandR, xand_t, vOf, brV, resP, resC, vlOf, scI, scS, ofV, bne, joinS, okB, a0, b2, bn, bm] <;> try rfl
      · have bp : (b.k == 2) = false := beq_false_of_ne b2
        by_cases b0 : b.k = 0
        · simp [xandR, xand_t, vOf, brV, resP, resC, vlOf, scI, scS, ofV, bne, joinS, okB, a0, b0] <;> try rfl
        · have bq : (b.k == 0) = false := beq_false_of_ne b0
          simp [xandR, xand_t, vOf, brV, resP, resC, vlOf, scI, scS, ofV, bne, joinS, okB, a0, b2, b0, bp, bq] <;> try rfl
    · have aq : (a.k == 0) = false := beq_false_of_ne a0
      by_cases b2 : b.k = 2
      · by_cases bn : b.n = 0
        · simp [xandR, xand_t, vOf, brV, resP, resC, vlOf, scI, scS, ofV, bne, joinS, okB, a2, a0, ap, aq, b2, bn] <;> try rfl
        · have bm : (b.n == 0) = false := beq_false_of_ne bn
          simp [xandR, xand_t, vOf, brV, resP, resC, vlOf, scI, scS, ofV, bne, joinS, okB, a2, a0, ap, aq, b2, bn, bm] <;> try rfl
      · have bp : (b.k == 2) = false := beq_false_of_ne b2
        by_cases b0 : b.k = 0
        · simp [xandR, xand_t, vOf, brV, resP, resC, vlOf, scI, scS, ofV, bne, joinS, okB, a2, a0, ap, aq, b0] <;> try rfl
        · have bq : (b.k == 0) = false := beq_false_of_ne b0
          simp [xandR, xand_t, vOf, brV, resP, resC, vlOf, scI, scS, ofV, bne, joinS, okB, a2, a0, ap, aq, b2, b0, bp, bq] <;> try rfl
theorem orR_eq (a b : Vl) : xorR a b = joinS true a b := by
  by_cases a2 : a.k = 2
  · by_cases an : a.n = 0
    · by_cases b2 : b.k = 2
      · by_cases bn : b.n = 0
        · simp [xorR, xor_t, vOf, brV, resP, resC, vlOf, scI, scS, ofV, bne, joinS, okB, a2, an, b2, bn] <;> try rfl
        · have bm : (b.n == 0) = false := beq_false_of_ne bn
          simp [xorR, xor_t, vOf, brV, resP, resC, vlOf, scI, scS, ofV, bne, joinS, okB, a2, an, b2, bn, bm] <;> try rfl
      · have bp : (b.k == 2) = false := beq_false_of_ne b2
        by_cases b0 : b.k = 0
        · simp [xorR, xor_t, vOf, brV, resP, resC, vlOf, scI, scS, ofV, bne, joinS, okB, a2, an, b0] <;> try rfl
        · have bq : (b.k == 0) = false := beq_false_of_ne b0
          simp [xorR, xor_t, vOf, brV, resP, resC, vlOf, scI, scS, ofV, bne, joinS, okB, a2, an, b2, b0, bp, bq] <;> try rfl
    · have am : (a.n == 0) = false := beq_false_of_ne an
      by_cases b2 : b.k = 2
      · by_cases bn : b.n = 0
        · simp [xorR, xor_t, vOf, brV, resP, resC, vlOf, scI, scS, ofV, bne, joinS, okB, a2, an, am, b2, bn] <;> try rfl
        · have bm : (b.n == 0) = false := beq_false_of_ne bn
          simp [xorR, xor_t, vOf, brV, resP, resC, vlOf, scI, scS, ofV, bne, joinS, okB, a2, an, am, b2, bn, bm] <;> try rfl
      · have bp : (b.k == 2) = false := beq_false_of_ne b2
        by_cases b0 : b.k = 0
        · simp [xorR, xor_t, vOf, brV, resP, resC, vlOf, scI, scS, ofV, bne, joinS, okB, a2, an, am, b0] <;> try rfl
        · have bq : (b.k == 0) = false := beq_false_of_ne b0
          simp [xorR, xor_t, vOf, brV, resP, resC, vlOf, scI, scS, ofV, bne, joinS, okB, a2, an, am, b2, b0, bp, bq] <;> try rfl
  · have ap : (a.k == 2) = false := beq_false_of_ne a2
    by_cases a0 : a.k = 0
    · by_cases b2 : b.k = 2
      · by_cases bn : b.n = 0
        · simp [xorR, xor_t, vOf, brV, resP, resC, vlOf, scI, scS, ofV, bne, joinS, okB, a0, b2, bn] <;> try rfl
        · have bm : (b.n == 0) = false := beq_false_of_ne bn
          simp [xorR, xor_t, vOf, brV, resP, resC, vlOf, scI, scS, ofV, bne, joinS, okB, a0, b2, bn, bm] <;> try rfl
      · have bp : (b.k == 2) = false := beq_false_of_ne b2
        by_cases b0 : b.k = 0
        · simp [xorR, xor_t, vOf, brV, resP, resC, vlOf, scI, scS, ofV, bne, joinS, okB, a0, b0] <;> try rfl
        · have bq : (b.k == 0) = false := beq_false_of_ne b0
          simp [xorR, xor_t, vOf, brV, resP, resC, vlOf, scI, scS, ofV, bne, joinS, okB, a0, b2, b0, bp, bq] <;> try rfl
    · have aq : (a.k == 0) = false := beq_false_of_ne a0
      by_cases b2 : b.k = 2
      · by_cases bn : b.n = 0
        · simp [xorR, xor_t, vOf, brV, resP, resC, vlOf, scI, scS, ofV, bne, joinS, okB, a2, a0, ap, aq, b2, bn] <;> try rfl
        · have bm : (b.n == 0) = false := beq_false_of_ne bn
          simp [xorR, xor_t, vOf, brV, resP, resC, vlOf, scI, scS, ofV, bne, joinS, okB, a2, a0, ap, aq, b2, bn, bm] <;> try rfl
      · have bp : (b.k == 2) = false := beq_false_of_ne b2
        by_cases b0 : b.k = 0
        · simp [xorR, xor_t, vOf, brV, resP, resC, vlOf, scI, scS, ofV, bne, joinS, okB, a2, a0, ap, aq, b0] <;> try rfl
        · have bq : (b.k == 0) = false := beq_false_of_ne b0
          simp [xorR, xor_t, vOf, brV, resP, resC, vlOf, scI, scS, ofV, bne, joinS, okB, a2, a0, ap, aq, b2, b0, bp, bq] <;> try rfl
/-- Not of And is Or of the Nots. -/
theorem morgan (a b : Vl) : ((xnotR a).2 = 0 ↔ okB a) ∧ ((xandR a b).2 = 0 ↔ okB a ∧ okB b) ∧ ((xorR a b).2 = 0 ↔ okB a ∧ okB b) ∧ (okB a → okB b → okB (xandR a b).1 ∧ okB (xnotR a).1 ∧ xnotR (xandR a b).1 = xorR (xnotR a).1 (xnotR b).1) := by
  simp only [notR_eq, andR_eq, orR_eq]
  refine ⟨?_, ?_, ?_, fun ha hb => ?_⟩
  · by_cases h2 : a.k = 2
    · simp [okB, h2]
    · by_cases h0 : a.k = 0 <;> simp [okB, h2, h0]
  · unfold joinS
    split
    · rename_i h; simp only [h, and_self, iff_true]; split; rfl; split <;> rfl
    · rename_i h; simp only [h, iff_false]; simp
  · unfold joinS
    split
    · rename_i h; simp only [h, and_self, iff_true]; split; rfl; split <;> rfl
    · rename_i h; simp only [h, iff_false]; simp
  · rcases ha with ha | ha <;> rcases hb with hb | hb
    · by_cases an : a.n = 0 <;> by_cases bn : b.n = 0 <;> simp [joinS, okB, ofV, ha, hb, an, bn]
    · by_cases an : a.n = 0 <;> simp [joinS, okB, ofV, ha, hb, an] <;> decide
    · by_cases bn : b.n = 0 <;> simp [joinS, okB, ofV, ha, hb, bn] <;> decide
    · simp [joinS, okB, ofV, ha, hb] <;> decide
end Go.Proofs.Ytengccmjlaejfaa
end
section
namespace Go.Proofs.Ytengccmjlaejfaa
open Ev Go.RowKit
set_option linter.unusedVariables false
theorem evalF_in {row : List Vl} {t : Tr} (hm : mayF t = true) (hi : ∀ n ∈ namF t, n < (row.length : Int)) : evalF row t = if (tellF row t).2 = 0 then tellF row t else (default, (tellF row t).2) := by
  unfold evalF
  rw [if_pos ((formF_iff t _).2 ⟨hm, hi⟩)]
theorem evalF_out {row : List Vl} {t : Tr} (hi : ¬ ∀ n ∈ namF t, n < (row.length : Int)) : evalF row t = (default, 4) := by
  unfold evalF
  rw [if_neg (fun h => hi ((formF_iff t _).1 h).2)]
theorem evalF_in2 {row : List Vl} {t : Tr} (hm : mayF t = true) (hi : ∀ n ∈ namF t, n < (row.length : Int)) : (evalF row t).2 = (tellF row t).2 ∧ ((tellF row t).2 = 0 → (evalF row t).1 = (tellF row t).1) := by
  rw [evalF_in hm hi]
  constructor
  · split <;> rfl
  · intro h; rw [if_pos h]
theorem namF_one (a : Tr) : namF (oneT 4 a) = namF a := by
  rw [namF_eq]
  show [] ++ namLs [a] = _
  rw [namLs_cons, namLs_nil]; simp
theorem namF_two {op : Int} (h : op ≠ 2) (a b : Tr) : namF (twoT op a b) = namF a ++ namF b := by
  rw [namF_eq]
  have : (twoT op a b).op = op := rfl
  rw [this, if_neg h]
  show [] ++ namLs [a, b] = _
  rw [namLs_cons, namLs_cons, namLs_nil]; simp
theorem tellF_one (row : List Vl) (a : Tr) : tellF row (oneT 4 a) = if (tellF row a).2 = 0 then xnotR (tellF row a).1 else (default, (tellF row a).2) := by
  rw [tellF_eq]
  have h : (oneT 4 a).args = [a] := rfl
  rw [h, tellLs_cons, tellLs_nil]
  unfold finT
  by_cases e : (tellF row a).2 = 0
  · simp only [if_pos e]
    rfl
  · simp only [if_neg e]
theorem tellF_and (row : List Vl) (a b : Tr) : tellF row (twoT 11 a b) = if (tellF row a).2 = 0 then (if (tellF row b).2 = 0 then xandR (tellF row a).1 (tellF row b).1 else (default, (tellF row b).2)) else (default, (tellF row a).2) := by
  rw [tellF_eq]
  have h : (twoT 11 a b).args = [a, b] := rfl
  rw [h, tellLs_cons, tellLs_cons, tellLs_nil]
  unfold finT
  by_cases e : (tellF row a).2 = 0
  · by_cases e2 : (tellF row b).2 = 0
    · simp only [if_pos e, if_pos e2]
      rfl
    · simp only [if_pos e, if_neg e2]
  · simp only [if_neg e]
theorem tellF_or (row : List Vl) (a b : Tr) : tellF row (twoT 12 a b) = if (tellF row a).2 = 0 then (if (tellF row b).2 = 0 then xorR (tellF row a).1 (tellF row b).1 else (default, (tellF row b).2)) else (default, (tellF row a).2) := by
  rw [tellF_eq]
  have h : (twoT 12 a b).args = [a, b] := rfl
  rw [h, tellLs_cons, tellLs_cons, tellLs_nil]
  unfold finT
  by_cases e : (tellF row a).2 = 0
  · by_cases e2 : (tellF row b).2 = 0
    · simp only [if_pos e, if_pos e2]
      rfl
    · simp only [if_pos e, if_neg e2]
  · simp only [if_neg e]
/-- What the five answers say. -/
structure Five (a b : Tr) (row : List Vl) : Prop where
  bad : (evalF row a).2 ≠ 0 ∨ (evalF row b).2 ≠ 0 → (evalF row (oneT 4 (twoT 11 a b))).2 ≠ 0 ∧ (evalF row (twoT 12 (oneT 4 a) (oneT 4 b))).2 ≠ 0 ∧ (evalF row (twoT 12 b a)).2 ≠ 0
  err : (evalF row a).2 ≠ 0 → (evalF row (oneT 4 (twoT 11 a b))).2 = (evalF row a).2 ∨ ((evalF row b).2 = 4 ∧ (evalF row (oneT 4 (twoT 11 a b))).2 = (evalF row b).2)
  good : (evalF row a).2 = 0 → (evalF row b).2 = 0 → ((evalF row (oneT 4 (twoT 11 a b))).2 = 0 ↔ (evalF row (twoT 12 (oneT 4 a) (oneT 4 b))).2 = 0) ∧ ((evalF row (oneT 4 (twoT 11 a b))).2 = 0 ↔ (evalF row (twoT 12 b a)).2 = 0) ∧ ((evalF row (oneT 4 (twoT 11 a b))).2 = 0 → (evalF row (oneT 4 (twoT 11 a b))).1 = (evalF row (twoT 12 (oneT 4 a) (oneT 4 b))).1)
theorem five {a b : Tr} {row : List Vl} (h1 : mayF (oneT 4 (twoT 11 a b)) = true) (h2 : mayF (twoT 11 (oneT 4 a) (oneT 4 b)) = true) : Five a b row := by
  have m1 : mayF (twoT 11 a b) = true := mayF_arg h1 (by simp [oneT])
  have ma : mayF a = true := mayF_arg m1 (by simp [twoT])
  have mb : mayF b = true := mayF_arg m1 (by simp [twoT])
  have mo : mayF (twoT 12 (oneT 4 a) (oneT 4 b)) = true := (mayF_two (op := 12) rfl _ _).2 ((mayF_two (op := 11) rfl _ _).1 h2)
  have mr : mayF (twoT 12 b a) = true := by
    obtain ⟨⟨x, y⟩, z, w, u⟩ := (mayF_two (op := 11) rfl _ _).1 m1
    exact (mayF_two (op := 12) rfl _ _).2 ⟨⟨y, x⟩, by omega, u, w⟩
  have n1 : namF (oneT 4 (twoT 11 a b)) = namF a ++ namF b := by rw [namF_one, namF_two (by decide)]
  have n2 : namF (twoT 12 (oneT 4 a) (oneT 4 b)) = namF a ++ namF b := by rw [namF_two (by decide), namF_one, namF_one]
  have n3 : namF (twoT 12 b a) = namF b ++ namF a := by rw [namF_two (by decide)]
  by_cases ia : ∀ n ∈ namF a, n < (row.length : Int)
  · by_cases ib : ∀ n ∈ namF b, n < (row.length : Int)
    · have iab : ∀ n ∈ namF a ++ namF b, n < (row.length : Int) := fun n hn => (List.mem_append.1 hn).elim (ia n) (ib n)
      have iba : ∀ n ∈ namF b ++ namF a, n < (row.length : Int) := fun n hn => (List.mem_append.1 hn).elim (ib n) (ia n)
      obtain ⟨ea, va⟩ := evalF_in2 ma ia
      obtain ⟨eb, vb⟩ := evalF_in2 mb ib
      obtain ⟨e1, v1⟩ := evalF_in2 h1 (n1 ▸ iab)
      obtain ⟨e2, v2⟩ := evalF_in2 mo (n2 ▸ iab)
      obtain ⟨e3, v3⟩ := evalF_in2 mr (n3 ▸ iba)
      rw [tellF_one, tellF_and] at e1 v1
      rw [tellF_or, tellF_one, tellF_one] at e2 v2
      rw [tellF_or] at e3 v3
      constructor
      · intro h
        rw [e1, e2, e3]
        rw [ea, eb] at h
        by_cases ha : (tellF row a).2 = 0
        · have hb : (tellF row b).2 ≠ 0 := h.resolve_left fun x => x ha
          refine ⟨?_, ?_, ?_⟩
          · simp only [if_pos ha, if_neg hb]; exact hb
          · simp only [if_pos ha, if_neg hb]
            split
            · exact hb
            · rename_i h; exact h
          · simp only [if_neg hb]; exact hb
        · refine ⟨?_, ?_, ?_⟩
          · simp only [if_neg ha]; exact ha
          · simp only [if_neg ha]; exact ha
          · by_cases hb : (tellF row b).2 = 0
            · simp only [if_pos hb, if_neg ha]; exact ha
            · simp only [if_neg hb]; exact hb
      · intro h
        left
        rw [ea] at h ⊢
        rw [e1]
        simp only [if_neg h]
      · intro ha hb
        rw [ea] at ha
        rw [eb] at hb
        simp only [if_pos ha, if_pos hb] at e1 v1 e2 v2 e3 v3
        obtain ⟨p1, p2, p3, p4⟩ := morgan (tellF row a).1 (tellF row b).1
        obtain ⟨q1, q2, q3, q4⟩ := morgan (tellF row b).1 (tellF row a).1
        have r1 := (morgan (xandR (tellF row a).1 (tellF row b).1).1 default).1
        have s3 := (morgan (xnotR (tellF row a).1).1 (xnotR (tellF row b).1).1).2.2.1
        by_cases oa : okB (tellF row a).1
        · by_cases ob : okB (tellF row b).1
          · obtain ⟨t1, t2, t3⟩ := p4 oa ob
            obtain ⟨t4, t5, t6⟩ := q4 ob oa
            have z1 := p2.2 ⟨oa, ob⟩
            have z2 := p1.2 oa
            have z3 := q1.2 ob
            simp only [if_pos z1] at e1 v1
            simp only [if_pos z2, if_pos z3] at e2 v2
            have w1 := r1.2 t1
            have w2 := s3.2 ⟨t2, t5⟩
            have w3 := q3.2 ⟨ob, oa⟩
            rw [e1, e2, e3]
            refine ⟨⟨fun _ => w2, fun _ => w1⟩, ⟨fun _ => w3, fun _ => w1⟩, fun _ => ?_⟩
            rw [v1 w1, v2 w2, t3]
          · have z1 : ¬ (xandR (tellF row a).1 (tellF row b).1).2 = 0 := fun h => ob (p2.1 h).2
            have z3 : ¬ (xnotR (tellF row b).1).2 = 0 := fun h => ob (q1.1 h)
            have z4 : ¬ (xorR (tellF row b).1 (tellF row a).1).2 = 0 := fun h => ob (q3.1 h).1
            have z2 := p1.2 oa
            simp only [if_neg z1] at e1 v1
            simp only [if_pos z2, if_neg z3] at e2 v2
            rw [e1, e2, e3]
            exact ⟨⟨fun h => absurd h z1, fun h => absurd h z3⟩, ⟨fun h => absurd h z1, fun h => absurd h z4⟩, fun h => absurd h z1⟩
        · have z1 : ¬ (xandR (tellF row a).1 (tellF row b).1).2 = 0 := fun h => oa (p2.1 h).1
          have z2 : ¬ (xnotR (tellF row a).1).2 = 0 := fun h => oa (p1.1 h)
          have z4 : ¬ (xorR (tellF row b).1 (tellF row a).1).2 = 0 := fun h => oa (q3.1 h).2
          simp only [if_neg z1] at e1 v1
          simp only [if_neg z2] at e2 v2
          rw [e1, e2, e3]
          exact ⟨⟨fun h => absurd h z1, fun h => absurd h z2⟩, ⟨fun h => absurd h z1, fun h => absurd h z4⟩, fun h => absurd h z1⟩
    · have o1 : evalF row (oneT 4 (twoT 11 a b)) = (default, 4) := evalF_out fun h => ib fun n hn => h n (by rw [n1]; exact List.mem_append.2 (.inr hn))
      have o2 : evalF row (twoT 12 (oneT 4 a) (oneT 4 b)) = (default, 4) := evalF_out fun h => ib fun n hn => h n (by rw [n2]; exact List.mem_append.2 (.inr hn))
      have o3 : evalF row (twoT 12 b a) = (default, 4) := evalF_out fun h => ib fun n hn => h n (by rw [n3]; exact List.mem_append.2 (.inl hn))
      have o4 : evalF row b = (default, 4) := evalF_out ib
      constructor
      · intro _; rw [o1, o2, o3]; decide
      · intro _; right; rw [o1, o4]; exact ⟨rfl, rfl⟩
      · intro _ h; rw [o4] at h; exact absurd h (by decide)
  · have o1 : evalF row (oneT 4 (twoT 11 a b)) = (default, 4) := evalF_out fun h => ia fun n hn => h n (by rw [n1]; exact List.mem_append.2 (.inl hn))
    have o2 : evalF row (twoT 12 (oneT 4 a) (oneT 4 b)) = (default, 4) := evalF_out fun h => ia fun n hn => h n (by rw [n2]; exact List.mem_append.2 (.inl hn))
    have o3 : evalF row (twoT 12 b a) = (default, 4) := evalF_out fun h => ia fun n hn => h n (by rw [n3]; exact List.mem_append.2 (.inr hn))
    have o4 : evalF row a = (default, 4) := evalF_out ia
    constructor
    · intro _; rw [o1, o2, o3]; decide
    · intro _; left; rw [o1, o4]
    · intro h; rw [o4] at h; exact absurd h (by decide)
end Go.Proofs.Ytengccmjlaejfaa
end
section
namespace Go.Proofs.Ytengccmjlaejfaa
open Ev Go.RowKit
set_option maxRecDepth 100000
set_option linter.unusedVariables false
noncomputable def etX : SumBr := orX lgX (orX evX maX)
theorem etX_ok : SumGO Try.prog (sumS etX) := orX_open (obX_ok (by kernel_rfl)) (orX_open (obX_ok (by kernel_rfl)) (obX_ok (by kernel_rfl)))
def et_cf : Nat → Cfg := cfL []
def et_a (a b : Tr) (row : List Vl) : List AV := [trO a, trO b, .fz (eL row) row.length vks]
noncomputable def et_t (P : Program) (a b : Tr) (row : List Vl) : Br PO :=
(.test (false)
  (.leaf (.fin ⟨Ex.ret, true, [some (AV.s (Value.bool true))], []⟩))
  (.ob (ObE (trO a)   (trA (trD (trO a))))
    (.ob (ObC Try.prog 9 [trA (trD (trO a))]   (AV.s (Value.bool (decide (sizeF (trD (trO a)) (500) > 500)))) [])
      (.test (decide (sizeF (trD (trO a)) (500) > 500))
        (.leaf (.fin ⟨Ex.ret, true, [some (AV.s (Value.bool true))], []⟩))
        (.ob (ObE (trO b)   (trA (trD (trO b))))
          (.ob (ObC Try.prog 9 [trA (trD (trO b))]   (AV.s (Value.bool (decide (sizeF (trD (trO b)) (500) > 500)))) [])
            (.test (decide (sizeF (trD (trO b)) (500) > 500))
              (.leaf (.fin ⟨Ex.ret, true, [some (AV.s (Value.bool true))], []⟩))
              (.test (decide ((↑row.length : Int) > 500))
                (.leaf (.fin ⟨Ex.ret, true, [some (AV.s (Value.bool true))], []⟩))
                (.ob (ObE   (wtA (.nd 4 [.nd 11 [.raw a, .raw b]]))   (trA     (trD       (wtA (.nd 4 [.nd 11 [.raw a, .raw b]])))))
                  (.ob (ObC Try.prog 14   [trA       (trD         (wtA (.nd 4 [.nd 11 [.raw a, .raw b]])))]   (AV.s     (Value.bool       (mayF         (trD           (wtA (.nd 4 [.nd 11 [.raw a, .raw b]]))))))   [])
                    (.test (!mayF     (trD       (wtA (.nd 4 [.nd 11 [.raw a, .raw b]]))))
                      (.leaf (.fin ⟨Ex.ret, true, [some (AV.s (Value.bool true))], []⟩))
                      (.ob (ObE   (wtA (.nd 11 [.nd 4 [.raw a], .nd 4 [.raw b]]))   (trA     (trD       (wtA (.nd 11 [.nd 4 [.raw a], .nd 4 [.raw b]])))))
                        (.ob (ObC Try.prog 14   [trA       (trD         (wtA (.nd 11 [.nd 4 [.raw a], .nd 4 [.raw b]])))]   (AV.s     (Value.bool       (mayF         (trD           (wtA (.nd 11 [.nd 4 [.raw a], .nd 4 [.raw b]]))))))   [])
                          (.test (!mayF     (trD       (wtA (.nd 11 [.nd 4 [.raw a], .nd 4 [.raw b]]))))
                            (.leaf (.fin ⟨Ex.ret, true, [some (AV.s (Value.bool true))], []⟩))
                            (.ob (ObE (trO a)   (trA (trD (trO a))))
                              (.ob (ObC Try.prog 12 [trA (trD (trO a)), AV.fz (eL (dL Vl (eL row) row.length)) (dL Vl (eL row) row.length).length (Rec.ks Vl)]   (AV.tup     [vlA (evalF (dL Vl (eL row) row.length) (trD (trO a))).fst,       AV.s (Value.int IntKind.i64 (evalF (dL Vl (eL row) row.length) (trD (trO a))).snd)])   [])
                                (.ob (ObE (trO b)   (trA (trD (trO b))))
                                  (.ob (ObC Try.prog 12 [trA (trD (trO b)), AV.fz (eL (dL Vl (eL row) row.length)) (dL Vl (eL row) row.length).length (Rec.ks Vl)]   (AV.tup     [vlA (evalF (dL Vl (eL row) row.length) (trD (trO b))).fst,       AV.s (Value.int IntKind.i64 (evalF (dL Vl (eL row) row.length) (trD (trO b))).snd)])   [])
                                    (.ob (ObE   (wtA (.nd 4 [.nd 11 [.raw a, .raw b]]))   (trA     (trD       (wtA (.nd 4 [.nd 11 [.raw a, .raw b]])))))
                                      (.ob (ObC Try.prog 12   [trA       (trD         (wtA (.nd 4 [.nd 11 [.raw a, .raw b]]))),     AV.fz (eL (dL Vl (eL row) row.length)) (dL Vl (eL row) row.length).length (Rec.ks Vl)]   (AV.tup     [vlA         (evalF (dL Vl (eL row) row.length)             (trD               (wtA (.nd 4 [.nd 11 [.raw a, .raw b]])))).fst,       AV.s         (Value.int IntKind.i64           (evalF (dL Vl (eL row) row.length)               (trD                 (wtA (.nd 4 [.nd 11 [.raw a, .raw b]])))).snd)])   [])
                                        (.ob (ObE   (wtA (.nd 12 [.nd 4 [.raw a], .nd 4 [.raw b]]))   (trA     (trD       (wtA (.nd 12 [.nd 4 [.raw a], .nd 4 [.raw b]])))))
                                          (.ob (ObC Try.prog 12   [trA       (trD         (wtA (.nd 12 [.nd 4 [.raw a], .nd 4 [.raw b]]))),     AV.fz (eL (dL Vl (eL row) row.length)) (dL Vl (eL row) row.length).length (Rec.ks Vl)]   (AV.tup     [vlA         (evalF (dL Vl (eL row) row.length)             (trD               (wtA (.nd 12 [.nd 4 [.raw a], .nd 4 [.raw b]])))).fst,       AV.s         (Value.int IntKind.i64           (evalF (dL Vl (eL row) row.length)               (trD                 (wtA (.nd 12 [.nd 4 [.raw a], .nd 4 [.raw b]])))).snd)])   [])
                                            (.ob (ObE   (wtA (.nd 12 [.raw b, .raw a]))   (trA     (trD       (wtA (.nd 12 [.raw b, .raw a])))))
                                              (.ob (ObC Try.prog 12   [trA       (trD         (wtA (.nd 12 [.raw b, .raw a]))),     AV.fz (eL (dL Vl (eL row) row.length)) (dL Vl (eL row) row.length).length (Rec.ks Vl)]   (AV.tup     [vlA         (evalF (dL Vl (eL row) row.length)             (trD               (wtA (.nd 12 [.raw b, .raw a])))).fst,       AV.s         (Value.int IntKind.i64           (evalF (dL Vl (eL row) row.length)               (trD                 (wtA (.nd 12 [.raw b, .raw a])))).snd)])   [])
                                                (.test ((evalF (dL Vl (eL row) row.length) (trD (trO a))).snd != 0)
                                                  (.test ((evalF (dL Vl (eL row) row.length)       (trD         (wtA (.nd 4 [.nd 11 [.raw a, .raw b]])))).snd !=   0)
                                                    (.test ((evalF (dL Vl (eL row) row.length)       (trD         (wtA (.nd 12 [.nd 4 [.raw a], .nd 4 [.raw b]])))).snd !=   0)
                                                      (.test ((evalF (dL Vl (eL row) row.length)       (trD         (wtA (.nd 12 [.raw b, .raw a])))).snd !=   0)
                                                        (.test ((evalF (dL Vl (eL row) row.length) (trD (trO a))).snd == 0)
                                                          (.leaf (.fin ⟨Ex.ret, true, [some (AV.v (Value.bool true))], []⟩))
                                                          (.test ((evalF (dL Vl (eL row) row.length)       (trD         (wtA (.nd 4 [.nd 11 [.raw a, .raw b]])))).snd ==   (evalF (dL Vl (eL row) row.length) (trD (trO a))).snd)
                                                            (.leaf (.fin ⟨Ex.ret, true, [some (AV.v (Value.bool true))], []⟩))
                                                            (.test ((evalF (dL Vl (eL row) row.length) (trD (trO b))).snd == 4)
                                                              (.leaf (.fin ⟨Ex.ret, true, [some   (AV.s     (Value.bool       ((evalF (dL Vl (eL row) row.length)             (trD               (wtA (.nd 4 [.nd 11 [.raw a, .raw b]])))).snd ==         (evalF (dL Vl (eL row) row.length) (trD (trO b))).snd)))], []⟩))
                                                              (.leaf (.fin ⟨Ex.ret, true, [some (AV.v (Value.bool false))], []⟩))
                                                            )
                                                          )
                                                        )
                                                        (.leaf (.fin ⟨Ex.ret, true, [some (AV.v (Value.bool false))], []⟩))
                                                      )
                                                      (.leaf (.fin ⟨Ex.ret, true, [some (AV.v (Value.bool false))], []⟩))
                                                    )
                                                    (.leaf (.fin ⟨Ex.ret, true, [some (AV.v (Value.bool false))], []⟩))
                                                  )
                                                  (.test ((evalF (dL Vl (eL row) row.length) (trD (trO b))).snd != 0)
                                                    (.test ((evalF (dL Vl (eL row) row.length)       (trD         (wtA (.nd 4 [.nd 11 [.raw a, .raw b]])))).snd !=   0)
                                                      (.test ((evalF (dL Vl (eL row) row.length)       (trD         (wtA (.nd 12 [.nd 4 [.raw a], .nd 4 [.raw b]])))).snd !=   0)
                                                        (.test ((evalF (dL Vl (eL row) row.length)       (trD         (wtA (.nd 12 [.raw b, .raw a])))).snd !=   0)
                                                          (.test ((evalF (dL Vl (eL row) row.length) (trD (trO a))).snd == 0)
                                                            (.leaf (.fin ⟨Ex.ret, true, [some (AV.v (Value.bool true))], []⟩))
                                                            (.test ((evalF (dL Vl (eL row) row.length)       (trD         (wtA (.nd 4 [.nd 11 [.raw a, .raw b]])))).snd ==   (evalF (dL Vl (eL row) row.length) (trD (trO a))).snd)
                                                              (.leaf (.fin ⟨Ex.ret, true, [some (AV.v (Value.bool true))], []⟩))
                                                              (.test ((evalF (dL Vl (eL row) row.length) (trD (trO b))).snd == 4)
                                                                (.leaf (.fin ⟨Ex.ret, true, [some   (AV.s     (Value.bool       ((evalF (dL Vl (eL row) row.length)             (trD               (wtA (.nd 4 [.nd 11 [.raw a, .raw b]])))).snd ==         (evalF (dL Vl (eL row) row.length) (trD (trO b))).snd)))], []⟩))
                                                                (.leaf (.fin ⟨Ex.ret, true, [some (AV.v (Value.bool false))], []⟩))
                                                              )
                                                            )
                                                          )
                                                          (.leaf (.fin ⟨Ex.ret, true, [some (AV.v (Value.bool false))], []⟩))
                                                        )
                                                        (.leaf (.fin ⟨Ex.ret, true, [some (AV.v (Value.bool false))], []⟩))
                                                      )
                                                      (.leaf (.fin ⟨Ex.ret, true, [some (AV.v (Value.bool false))], []⟩))
                                                    )
                                                    (.test (((evalF (dL Vl (eL row) row.length)         (trD           (wtA (.nd 4 [.nd 11 [.raw a, .raw b]])))).snd ==     0) ==   ((evalF (dL Vl (eL row) row.length)         (trD           (wtA (.nd 12 [.nd 4 [.raw a], .nd 4 [.raw b]])))).snd ==     0))
                                                      (.test ((evalF (dL Vl (eL row) row.length)       (trD         (wtA (.nd 4 [.nd 11 [.raw a, .raw b]])))).snd !=   0)
                                                        (.leaf (.fin ⟨Ex.ret, true, [some   (AV.s     (Value.bool       (((evalF (dL Vl (eL row) row.length)               (trD                 (wtA (.nd 4 [.nd 11 [.raw a, .raw b]])))).snd ==           0) ==         ((evalF (dL Vl (eL row) row.length)               (trD                 (wtA (.nd 12 [.raw b, .raw a])))).snd ==           0))))], []⟩))
                                                        (.test ((evalF (dL Vl (eL row) row.length)           (trD             (wtA (.nd 4 [.nd 11 [.raw a, .raw b]])))).fst.k ==     (evalF (dL Vl (eL row) row.length)           (trD             (wtA (.nd 12 [.nd 4 [.raw a], .nd 4 [.raw b]])))).fst.k &&   ((evalF (dL Vl (eL row) row.length)             (trD               (wtA (.nd 4 [.nd 11 [.raw a, .raw b]])))).fst.n ==       (evalF (dL Vl (eL row) row.length)             (trD               (wtA (.nd 12 [.nd 4 [.raw a], .nd 4 [.raw b]])))).fst.n &&     ((evalF (dL Vl (eL row) row.length)               (trD                 (wtA (.nd 4 [.nd 11 [.raw a, .raw b]])))).fst.hi ==         (evalF (dL Vl (eL row) row.length)               (trD                 (wtA (.nd 12 [.nd 4 [.raw a], .nd 4 [.raw b]])))).fst.hi &&       ((evalF (dL Vl (eL row) row.length)                   (trD                     (wtA (.nd 4 [.nd 11 [.raw a, .raw b]])))).fst.t.toList ==           (evalF (dL Vl (eL row) row.length)                   (trD                     (wtA (.nd 12 [.nd 4 [.raw a], .nd 4 [.raw b]])))).fst.t.toList &&         true))))
                                                          (.leaf (.fin ⟨Ex.ret, true, [some   (AV.s     (Value.bool       (((evalF (dL Vl (eL row) row.length)               (trD                 (wtA (.nd 4 [.nd 11 [.raw a, .raw b]])))).snd ==           0) ==         ((evalF (dL Vl (eL row) row.length)               (trD                 (wtA (.nd 12 [.raw b, .raw a])))).snd ==           0))))], []⟩))
                                                          (.leaf (.fin ⟨Ex.ret, true, [some (AV.v (Value.bool false))], []⟩))
                                                        )
                                                      )
                                                      (.leaf (.fin ⟨Ex.ret, true, [some (AV.v (Value.bool false))], []⟩))
                                                    )
                                                  )
                                                )
                                              )
                                            )
                                          )
                                        )
                                      )
                                    )
                                  )
                                )
                              )
                            )
                          )
                        )
                      )
                    )
                  )
                )
              )
            )
          )
        )
      )
    )
  )
)
theorem et_h (a b : Tr) (row : List Vl) : (ev Try.prog etX worksS 3000 noL 3000 .normal [.c 0 (codeOf Try.prog 5)] (params (et_a a b row)) Ev.start).map (lookP Try.prog (resOf Try.prog 5) [] et_cf) = et_t Try.prog a b row := by kernel_rfl

theorem w_na (a b : Tr) : wtT (.nd 4 [.nd 11 [.raw a, .raw b]]) = oneT 4 (twoT 11 a b) := rfl
theorem w_an (a b : Tr) : wtT (.nd 11 [.nd 4 [.raw a], .nd 4 [.raw b]]) = twoT 11 (oneT 4 a) (oneT 4 b) := rfl
theorem w_on (a b : Tr) : wtT (.nd 12 [.nd 4 [.raw a], .nd 4 [.raw b]]) = twoT 12 (oneT 4 a) (oneT 4 b) := rfl
theorem w_or (a b : Tr) : wtT (.nd 12 [.raw b, .raw a]) = twoT 12 b a := rfl
theorem same_bits {x y : Vl} (h : x = y) : (x.k == y.k && (x.n == y.n && (x.hi == y.hi && (x.t.toList == y.t.toList && true)))) = true := by subst h; simp
theorem et_ok (a b : Tr) (row : List Vl) : OCalls Try.prog 5 [trA a, trA b, .fz (eL row) row.length vks] (.s (.bool true)) [] := by
  have yev : Goes ⟨.ret, true, [some (.v (.bool true))], []⟩ [.s (.bool true)] [] := ⟨rfl, (.cons _ _ _ _ (.vs _) .nil), .nil⟩
  have yes : ∀ x, x = true → Goes ⟨.ret, true, [some (.s (.bool x))], []⟩ [.s (.bool true)] [] := fun x hx => ⟨rfl, (.cons _ _ _ _ (.ofEq (by rw [hx])) .nil), .nil⟩
  refine OCalls.le (args := et_a a b row) ?_ (.cons _ _ _ _ (trO_le a) (.cons _ _ _ _ (trO_le b) (Les.refl _)))
  refine floyd0 ev_mix ev_ok etX_ok worksS_ok (by kernel_rfl) [] et_cf (et_t _ a b row) (et_h a b row) ?_
  unfold et_t
  simp only [trD_B, dL_eL, wt_D, w_na, w_an, w_on, w_or]
  refine hSf (hOB (hO ⟨lg_ok _⟩ (hSd (fun _ => yes _ rfl) fun _ => hOB (hO ⟨lg_ok _⟩ (hSd (fun _ => yes _ rfl) fun _ => hSd (fun _ => yes _ rfl) fun _ => ?_)))))
  refine hOW (hO ⟨may_ok _⟩ (hS (fun _ => yes _ rfl) fun h1 => ?_))
  refine hOW (hO ⟨may_ok _⟩ (hS (fun _ => yes _ rfl) fun h2 => ?_))
  have h1 : mayF (oneT 4 (twoT 11 a b)) = true := by simpa using h1
  have h2 : mayF (twoT 11 (oneT 4 a) (oneT 4 b)) = true := by simpa using h2
  obtain ⟨bad, err, good⟩ := five (row := row) h1 h2
  refine hOB (hO ⟨va_ok _ row⟩ (hOB (hO ⟨va_ok _ row⟩ (hOW (hO ⟨va_ok _ row⟩ (hOW (hO ⟨va_ok _ row⟩ (hOW (hO ⟨va_ok _ row⟩ ?_)))))))))
  generalize evalF row a = f at *
  generalize evalF row b = g at *
  generalize evalF row (oneT 4 (twoT 11 a b)) = h at *
  generalize evalF row (twoT 12 (oneT 4 a) (oneT 4 b)) = i at *
  generalize evalF row (twoT 12 b a) = j at *
  clear h1 h2
  refine hS (fun c => ?_) fun c => ?_
  · have c : f.2 ≠ 0 := by simpa using c
    obtain ⟨b1, b2, b3⟩ := bad (.inl c)
    have e := err c
    refine hT (by simpa using b1) (hT (by simpa using b2) (hT (by simpa using b3) ?_))
    refine hS (fun _ => yev) fun _ => hS (fun _ => yev) fun x => ?_
    have x : h.2 ≠ f.2 := by simpa using x
    obtain ⟨e1, e2⟩ := e.resolve_left x
    exact hT (by simpa using e1) (yes _ (by simpa using e2))
  · have c : f.2 = 0 := by simpa using c
    refine hS (fun d => ?_) fun d => ?_
    · have d : g.2 ≠ 0 := by simpa using d
      obtain ⟨b1, b2, b3⟩ := bad (.inr d)
      exact hT (by simpa using b1) (hT (by simpa using b2) (hT (by simpa using b3) (hT (by simpa using c) yev)))
    · have d : g.2 = 0 := by simpa using d
      obtain ⟨g1, g2, g3⟩ := good c d
      have t1 : ((h.2 == 0) == (i.2 == 0)) = true := by
        by_cases z : h.2 = 0
        · simp [z, g1.1 z]
        · have z' : i.2 ≠ 0 := fun y => z (g1.2 y)
          rw [beq_false_of_ne z, beq_false_of_ne z']; rfl
      have t2 : ((h.2 == 0) == (j.2 == 0)) = true := by
        by_cases z : h.2 = 0
        · simp [z, g2.1 z]
        · have z' : j.2 ≠ 0 := fun y => z (g2.2 y)
          rw [beq_false_of_ne z, beq_false_of_ne z']; rfl
      refine hT t1 (hS (fun _ => yes _ t2) fun z => hT (same_bits (g3 (by simpa using z))) (yes _ t2))
end Go.Proofs.Ytengccmjlaejfaa
end
