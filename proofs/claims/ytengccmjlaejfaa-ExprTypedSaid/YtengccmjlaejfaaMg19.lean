/- The statement ExprNamed, walked. No condition. -/
import Derived.Test.YtengccmjlaejfaaMg18
import Derived.Test.YtengccmjlaejfaaMg14
section
namespace Go.Proofs.Ytengccmjlaejfaa
open Ev Go.RowKit
set_option maxRecDepth 100000
set_option linter.unusedVariables false
noncomputable def lgX : SumBr := obX Try.prog 9 (AKs.cons aTr AKs.nil) fun z => .leaf (.s (.bool (decide (sizeF z.1 500 > 500))), [])
noncomputable def evX : SumBr := obX Try.prog 12 (AKs.cons aTr (AKs.cons (aL Vl) AKs.nil)) fun z => .leaf (resA2 (evalF z.2.1 z.1), [])
noncomputable def enX : SumBr := orX lgX (orX evX clX)
theorem enX_ok : SumGO Try.prog (sumS enX) := orX_open (obX_ok (by kernel_rfl)) (orX_open (obX_ok (by kernel_rfl)) (obX_ok (by kernel_rfl)))
def en_cf : Nat → Cfg := cfL [mkC 116 [1, 3, 7, 8] [(3, []), (7, []), (8, [])], mkC 116 [1, 3, 7, 8, 9] [(3, []), (7, []), (8, [])]]
def en_a (t : Tr) (a b : List Vl) : List AV := [trO t, .fz (eL a) a.length vks, .fz (eL b) b.length vks]
noncomputable def en_t (P : Program) (t : Tr) (a b : List Vl) : Br PO :=
(.test (false)
  (.leaf (.fin ⟨Ex.ret, true, [some (AV.s (Value.bool true))], []⟩))
  (.ob (ObE (trO t)   (trA (trD (trO t))))
    (.ob (ObC Try.prog 9 [trA (trD (trO t))]   (AV.s (Value.bool (decide (sizeF (trD (trO t)) (500) > 500)))) [])
      (.test (decide (sizeF (trD (trO t)) (500) > 500))
        (.leaf (.fin ⟨Ex.ret, true, [some (AV.s (Value.bool true))], []⟩))
        (.test (decide ((↑a.length : Int) > 500))
          (.leaf (.fin ⟨Ex.ret, true, [some (AV.s (Value.bool true))], []⟩))
          (.test (decide ((↑b.length : Int) > 500))
            (.leaf (.fin ⟨Ex.ret, true, [some (AV.s (Value.bool true))], []⟩))
            (.ob (ObE (trO t)   (trA (trD (trO t))))
              (.ob (ObC Try.prog 10 [trA (trD (trO t))]   (AV.osl 65536 (colsF (trD (trO t))).length)   [iR (colsF (trD (trO t)))])
                (.test (small b.length && small (Try.prog.types[23].bytes * b.length))
                  (.leaf (.at 0 (ct P 3 0).1 (ct P 3 0).2 ⟨Ex.normal, true, [some (AV.fz (eL a) a.length vks), some (AV.ptr 65536 0 0), some (AV.osl 65537 (colsF (trD (trO t))).length), some (AV.osl 65538 b.length)], [OS.o (AO.cells [AV.s (Value.int IntKind.u8 t.op), AV.s (Value.int IntKind.u8 t.k), AV.s (Value.int IntKind.i64 t.vn), AV.s (Value.int IntKind.i64 t.hi), AV.s (Value.string t.t), AV.s (Value.int IntKind.i64 t.n), AV.fz (eT t.args) t.args.length ksE] 7 65536 true false), OS.o   (AO.rows (eL (colsF (trD (trO t))))     (colsF (trD (trO t))).length [TK.int IntKind.i64]), OS.o (AO.rows (eL b) b.length vks)]⟩))
                  .no
                )
              )
            )
          )
        )
      )
    )
  )
)
theorem en_h (t : Tr) (a b : List Vl) : (ev Try.prog enX worksS 3000 noL 3000 .normal [.c 0 (codeOf Try.prog 3)] (params (en_a t a b)) Ev.start).map (lookP Try.prog (resOf Try.prog 3) [] en_cf) = en_t Try.prog t a b := by kernel_rfl
def en_v0 (t : Tr) (a b : List Vl) (M : List Vl) : List AV := [.fz (eL a) a.length vks, .ptr 65536 0 0, .osl 65537 (colsF t).length, .osl 65538 M.length]
def en_o0 (t : Tr) (a b : List Vl) (M : List Vl) : List AO := [boxE t, iR (colsF t), vR M]
noncomputable def en_t0 (P : Program) (t : Tr) (a b : List Vl) (M : List Vl) : Br PO :=
(.test (decide ((↑M.length : Int) < (↑a.length : Int)))
  (.test (M.length.beq M.length && (true && (small (1 + M.length) && small (Try.prog.types[23].bytes * (1 + M.length)))))
    (.leaf (.at 0 (ct P 3 0).1 (ct P 3 0).2 ⟨Ex.normal, true, [some (AV.fz (eL a) a.length vks), some (AV.ptr 65536 0 0), some (AV.osl 65537 (colsF t).length), some (AV.osl 65538 (M.length + 1))], [OS.o (AO.cells [AV.s (Value.int IntKind.u8 t.op), AV.s (Value.int IntKind.u8 t.k), AV.s (Value.int IntKind.i64 t.vn), AV.s (Value.int IntKind.i64 t.hi), AV.s (Value.string t.t), AV.s (Value.int IntKind.i64 t.n), AV.fz (eT t.args) t.args.length ksE] 7 0 true false), OS.o (AO.rows (eL (colsF t)) (colsF t).length [TK.int IntKind.i64]), OS.o (AO.rows (catD (eL M) M.length (listD [D.v (Value.int IntKind.u8 (1)), D.v (Value.int IntKind.i64 (7)), D.v (Value.int IntKind.i64 (0)), D.v (Value.string (⟨#[]⟩ : ByteArray))] 4)) (M.length + 1) vks)]⟩))
    .no
  )
  (.test (decide (0 ≤ (↑a.length : Int)) && decide ((↑a.length : Int) ≤ (↑M.length : Int)))
    (.leaf (.at 1 (ct P 3 1).1 (ct P 3 1).2 ⟨Ex.normal, true, [some (AV.fz (eL a) a.length vks), some (AV.ptr 65536 0 0), some (AV.osl 65537 (colsF t).length), some (AV.osl 65538 (↑a.length : Int).toNat), some (AV.v (Value.int IntKind.i64 (0)))], [OS.o (AO.cells [AV.s (Value.int IntKind.u8 t.op), AV.s (Value.int IntKind.u8 t.k), AV.s (Value.int IntKind.i64 t.vn), AV.s (Value.int IntKind.i64 t.hi), AV.s (Value.string t.t), AV.s (Value.int IntKind.i64 t.n), AV.fz (eT t.args) t.args.length ksE] 7 0 true false), OS.o (AO.rows (eL (colsF t)) (colsF t).length [TK.int IntKind.i64]), OS.o (AO.rows (eL M) M.length vks)]⟩))
    .no
  )
)
theorem en_h0 (t : Tr) (a b : List Vl) (M : List Vl) (j : Nat → Value) : (ev Try.prog enX worksS 3000 noL 3000 .normal (hd Try.prog 3 0) (mkE (en_cf 0) (en_v0 t a b M) j) (mkH openB (en_o0 t a b M))).map (lookP Try.prog (resOf Try.prog 3) [] en_cf) = en_t0 Try.prog t a b M := by kernel_rfl
def en_v1 (t : Tr) (a b : List Vl) (M : List Vl) (i : Nat) : List AV := [.fz (eL a) a.length vks, .ptr 65536 0 0, .osl 65537 (colsF t).length, .osl 65538 a.length, .s (.int .i64 i)]
def en_o1 (t : Tr) (a b : List Vl) (M : List Vl) (i : Nat) : List AO := [boxE t, iR (colsF t), vR M]
noncomputable def en_t1 (P : Program) (t : Tr) (a b : List Vl) (M : List Vl) (i : Nat) : Br PO :=
(.test (decide ((↑i : Int) < (↑(colsF t).length : Int)))
  (.test (decide ((↑i : Int) > 0))
    (.test (decide (0 ≤ (↑i : Int)) && decide ((↑i : Int) < (↑(colsF t).length : Int)))
      (.test ((↑i : Int).toNat.blt (colsF t).length)
        (.test (decide (0 ≤ IntKind.i64.wrap ((↑i : Int) - 1)) && decide (IntKind.i64.wrap ((↑i : Int) - 1) < (↑(colsF t).length : Int)))
          (.test ((IntKind.i64.wrap ((↑i : Int) - 1)).toNat.blt (colsF t).length)
            (.test (decide ((colsF t).getD (↑i : Int).toNat default ≤ (colsF t).getD (IntKind.i64.wrap ((↑i : Int) - 1)).toNat default))
              (.leaf (.fin ⟨Ex.ret, true, [some (AV.v (Value.bool false))], []⟩))
              (.test (decide (0 ≤ (↑i : Int)) && decide ((↑i : Int) < (↑(colsF t).length : Int)))
                (.test ((↑i : Int).toNat.blt (colsF t).length)
                  (.test (decide ((colsF t).getD (↑i : Int).toNat default ≥ 0))
                    (.test (decide (0 ≤ (↑i : Int)) && decide ((↑i : Int) < (↑(colsF t).length : Int)))
                      (.test ((↑i : Int).toNat.blt (colsF t).length)
                        (.test (decide ((colsF t).getD (↑i : Int).toNat default < (↑a.length : Int)))
                          (.test (decide (0 ≤ (↑i : Int)) && decide ((↑i : Int) < (↑(colsF t).length : Int)))
                            (.test ((↑i : Int).toNat.blt (colsF t).length)
                              (.test (decide (0 ≤ (↑i : Int)) && decide ((↑i : Int) < (↑(colsF t).length : Int)))
                                (.test ((↑i : Int).toNat.blt (colsF t).length)
                                  (.test (decide (0 ≤ (colsF t).getD (↑i : Int).toNat default) && decide ((colsF t).getD (↑i : Int).toNat default < (↑a.length : Int)))
                                    (.test (decide (0 ≤ (colsF t).getD (↑i : Int).toNat default) && decide ((colsF t).getD (↑i : Int).toNat default < (↑a.length : Int)))
                                      (.test (((colsF t).getD (↑i : Int).toNat default).toNat.blt M.length)
                                        (.leaf (.at 1 (ct P 3 1).1 (ct P 3 1).2 ⟨Ex.normal, true, [some (AV.fz (eL a) a.length vks), some (AV.ptr 65536 0 0), some (AV.osl 65537 (colsF t).length), some (AV.osl 65538 a.length), some (AV.s (Value.int IntKind.i64 (IntKind.i64.wrap ((↑i : Int) + 1))))], [OS.o (AO.cells [AV.s (Value.int IntKind.u8 t.op), AV.s (Value.int IntKind.u8 t.k), AV.s (Value.int IntKind.i64 t.vn), AV.s (Value.int IntKind.i64 t.hi), AV.s (Value.string t.t), AV.s (Value.int IntKind.i64 t.n), AV.fz (eT t.args) t.args.length ksE] 7 0 true false), OS.o (AO.rows (eL (colsF t)) (colsF t).length [TK.int IntKind.i64]), OS.o   (AO.rows     (updD (eL M) ((colsF t).getD (↑i : Int).toNat default).toNat 0       [D.v (Value.int IntKind.u8 (a.getD ((colsF t).getD (↑i : Int).toNat default).toNat default).k), D.v (Value.int IntKind.i64 (a.getD ((colsF t).getD (↑i : Int).toNat default).toNat default).n), D.v (Value.int IntKind.i64 (a.getD ((colsF t).getD (↑i : Int).toNat default).toNat default).hi), D.v (Value.string (a.getD ((colsF t).getD (↑i : Int).toNat default).toNat default).t)])     M.length vks)]⟩))
                                        .no
                                      )
                                      .no
                                    )
                                    .no
                                  )
                                  .no
                                )
                                .no
                              )
                              .no
                            )
                            .no
                          )
                          (.leaf (.at 1 (ct P 3 1).1 (ct P 3 1).2 ⟨Ex.normal, true, [some (AV.fz (eL a) a.length vks), some (AV.ptr 65536 0 0), some (AV.osl 65537 (colsF t).length), some (AV.osl 65538 a.length), some (AV.s (Value.int IntKind.i64 (IntKind.i64.wrap ((↑i : Int) + 1))))], [OS.o (AO.cells [AV.s (Value.int IntKind.u8 t.op), AV.s (Value.int IntKind.u8 t.k), AV.s (Value.int IntKind.i64 t.vn), AV.s (Value.int IntKind.i64 t.hi), AV.s (Value.string t.t), AV.s (Value.int IntKind.i64 t.n), AV.fz (eT t.args) t.args.length ksE] 7 0 true false), OS.o (AO.rows (eL (colsF t)) (colsF t).length [TK.int IntKind.i64]), OS.o (AO.rows (eL M) M.length vks)]⟩))
                        )
                        .no
                      )
                      .no
                    )
                    (.leaf (.at 1 (ct P 3 1).1 (ct P 3 1).2 ⟨Ex.normal, true, [some (AV.fz (eL a) a.length vks), some (AV.ptr 65536 0 0), some (AV.osl 65537 (colsF t).length), some (AV.osl 65538 a.length), some (AV.s (Value.int IntKind.i64 (IntKind.i64.wrap ((↑i : Int) + 1))))], [OS.o (AO.cells [AV.s (Value.int IntKind.u8 t.op), AV.s (Value.int IntKind.u8 t.k), AV.s (Value.int IntKind.i64 t.vn), AV.s (Value.int IntKind.i64 t.hi), AV.s (Value.string t.t), AV.s (Value.int IntKind.i64 t.n), AV.fz (eT t.args) t.args.length ksE] 7 0 true false), OS.o (AO.rows (eL (colsF t)) (colsF t).length [TK.int IntKind.i64]), OS.o (AO.rows (eL M) M.length vks)]⟩))
                  )
                  .no
                )
                .no
              )
            )
            .no
          )
          .no
        )
        .no
      )
      .no
    )
    (.test (decide (0 ≤ (↑i : Int)) && decide ((↑i : Int) < (↑(colsF t).length : Int)))
      (.test ((↑i : Int).toNat.blt (colsF t).length)
        (.test (decide ((colsF t).getD (↑i : Int).toNat default ≥ 0))
          (.test (decide (0 ≤ (↑i : Int)) && decide ((↑i : Int) < (↑(colsF t).length : Int)))
            (.test ((↑i : Int).toNat.blt (colsF t).length)
              (.test (decide ((colsF t).getD (↑i : Int).toNat default < (↑a.length : Int)))
                (.test (decide (0 ≤ (↑i : Int)) && decide ((↑i : Int) < (↑(colsF t).length : Int)))
                  (.test ((↑i : Int).toNat.blt (colsF t).length)
                    (.test (decide (0 ≤ (↑i : Int)) && decide ((↑i : Int) < (↑(colsF t).length : Int)))
                      (.test ((↑i : Int).toNat.blt (colsF t).length)
                        (.test (decide (0 ≤ (colsF t).getD (↑i : Int).toNat default) && decide ((colsF t).getD (↑i : Int).toNat default < (↑a.length : Int)))
                          (.test (decide (0 ≤ (colsF t).getD (↑i : Int).toNat default) && decide ((colsF t).getD (↑i : Int).toNat default < (↑a.length : Int)))
                            (.test (((colsF t).getD (↑i : Int).toNat default).toNat.blt M.length)
                              (.leaf (.at 1 (ct P 3 1).1 (ct P 3 1).2 ⟨Ex.normal, true, [some (AV.fz (eL a) a.length vks), some (AV.ptr 65536 0 0), some (AV.osl 65537 (colsF t).length), some (AV.osl 65538 a.length), some (AV.s (Value.int IntKind.i64 (IntKind.i64.wrap ((↑i : Int) + 1))))], [OS.o (AO.cells [AV.s (Value.int IntKind.u8 t.op), AV.s (Value.int IntKind.u8 t.k), AV.s (Value.int IntKind.i64 t.vn), AV.s (Value.int IntKind.i64 t.hi), AV.s (Value.string t.t), AV.s (Value.int IntKind.i64 t.n), AV.fz (eT t.args) t.args.length ksE] 7 0 true false), OS.o (AO.rows (eL (colsF t)) (colsF t).length [TK.int IntKind.i64]), OS.o   (AO.rows     (updD (eL M) ((colsF t).getD (↑i : Int).toNat default).toNat 0       [D.v (Value.int IntKind.u8 (a.getD ((colsF t).getD (↑i : Int).toNat default).toNat default).k), D.v (Value.int IntKind.i64 (a.getD ((colsF t).getD (↑i : Int).toNat default).toNat default).n), D.v (Value.int IntKind.i64 (a.getD ((colsF t).getD (↑i : Int).toNat default).toNat default).hi), D.v (Value.string (a.getD ((colsF t).getD (↑i : Int).toNat default).toNat default).t)])     M.length vks)]⟩))
                              .no
                            )
                            .no
                          )
                          .no
                        )
                        .no
                      )
                      .no
                    )
                    .no
                  )
                  .no
                )
                (.leaf (.at 1 (ct P 3 1).1 (ct P 3 1).2 ⟨Ex.normal, true, [some (AV.fz (eL a) a.length vks), some (AV.ptr 65536 0 0), some (AV.osl 65537 (colsF t).length), some (AV.osl 65538 a.length), some (AV.s (Value.int IntKind.i64 (IntKind.i64.wrap ((↑i : Int) + 1))))], [OS.o (AO.cells [AV.s (Value.int IntKind.u8 t.op), AV.s (Value.int IntKind.u8 t.k), AV.s (Value.int IntKind.i64 t.vn), AV.s (Value.int IntKind.i64 t.hi), AV.s (Value.string t.t), AV.s (Value.int IntKind.i64 t.n), AV.fz (eT t.args) t.args.length ksE] 7 0 true false), OS.o (AO.rows (eL (colsF t)) (colsF t).length [TK.int IntKind.i64]), OS.o (AO.rows (eL M) M.length vks)]⟩))
              )
              .no
            )
            .no
          )
          (.leaf (.at 1 (ct P 3 1).1 (ct P 3 1).2 ⟨Ex.normal, true, [some (AV.fz (eL a) a.length vks), some (AV.ptr 65536 0 0), some (AV.osl 65537 (colsF t).length), some (AV.osl 65538 a.length), some (AV.s (Value.int IntKind.i64 (IntKind.i64.wrap ((↑i : Int) + 1))))], [OS.o (AO.cells [AV.s (Value.int IntKind.u8 t.op), AV.s (Value.int IntKind.u8 t.k), AV.s (Value.int IntKind.i64 t.vn), AV.s (Value.int IntKind.i64 t.hi), AV.s (Value.string t.t), AV.s (Value.int IntKind.i64 t.n), AV.fz (eT t.args) t.args.length ksE] 7 0 true false), OS.o (AO.rows (eL (colsF t)) (colsF t).length [TK.int IntKind.i64]), OS.o (AO.rows (eL M) M.length vks)]⟩))
        )
        .no
      )
      .no
    )
  )
  (.ob (ObE (trO t)   (trA (trD (trO t))))
    (.ob (ObC Try.prog 12 [trA (trD (trO t)), AV.fz (eL (dL Vl (eL a) a.length)) (dL Vl (eL a) a.length).length (Rec.ks Vl)]   (AV.tup     [vlA (evalF (dL Vl (eL a) a.length) (trD (trO t))).fst,       AV.s (Value.int IntKind.i64 (evalF (dL Vl (eL a) a.length) (trD (trO t))).snd)])   [])
      (.test (a.length.ble M.length)
        (.ob (ObE (trO t)   (trA (trD (trO t))))
          (.ob (ObC Try.prog 12 [trA (trD (trO t)), AV.fz (eL (dL Vl (eL M) a.length)) (dL Vl (eL M) a.length).length (Rec.ks Vl)]   (AV.tup     [vlA (evalF (dL Vl (eL M) a.length) (trD (trO t))).fst,       AV.s (Value.int IntKind.i64 (evalF (dL Vl (eL M) a.length) (trD (trO t))).snd)])   [])
            (.test ((evalF (dL Vl (eL a) a.length) (trD (trO t))).fst.k ==     (evalF (dL Vl (eL M) a.length) (trD (trO t))).fst.k &&   ((evalF (dL Vl (eL a) a.length) (trD (trO t))).fst.n ==       (evalF (dL Vl (eL M) a.length) (trD (trO t))).fst.n &&     ((evalF (dL Vl (eL a) a.length) (trD (trO t))).fst.hi ==         (evalF (dL Vl (eL M) a.length) (trD (trO t))).fst.hi &&       ((evalF (dL Vl (eL a) a.length) (trD (trO t))).fst.t.toList ==           (evalF (dL Vl (eL M) a.length) (trD (trO t))).fst.t.toList &&         true))))
              (.leaf (.fin ⟨Ex.ret, true, [some   (AV.s     (Value.bool       ((evalF (dL Vl (eL a) a.length) (trD (trO t))).snd ==         (evalF (dL Vl (eL M) a.length) (trD (trO t))).snd)))], []⟩))
              (.leaf (.fin ⟨Ex.ret, true, [some (AV.v (Value.bool false))], []⟩))
            )
          )
        )
        .no
      )
    )
  )
)
theorem en_h1 (t : Tr) (a b : List Vl) (M : List Vl) (i : Nat) (j : Nat → Value) : (ev Try.prog enX worksS 3000 noL 3000 .normal (hd Try.prog 3 1) (mkE (en_cf 1) (en_v1 t a b M i) j) (mkH openB (en_o1 t a b M i))).map (lookP Try.prog (resOf Try.prog 3) [] en_cf) = en_t1 Try.prog t a b M i := by kernel_rfl

inductive EnS where
  | a (M : List Vl)
  | b (M : List Vl) (i : Nat)
def EnV (t : Tr) (a b : List Vl) : EnS → List AV
  | .a M => en_v0 t a b M
  | .b M i => en_v1 t a b M i
def EnO (t : Tr) (a b : List Vl) : EnS → List AO
  | .a M => en_o0 t a b M
  | .b M i => en_o1 t a b M i
noncomputable def EnT (P : Program) (t : Tr) (a b : List Vl) : EnS → Br PO
  | .a M => en_t0 P t a b M
  | .b M i => en_t1 P t a b M i
def EnJ (t : Tr) (a : List Vl) : EnS → Prop
  | .a M => (cntF t ≤ 500 ∧ a.length ≤ 500) ∧ M.length ≤ 500
  | .b M i => (cntF t ≤ 500 ∧ a.length ≤ 500) ∧ (a.length ≤ M.length ∧ i ≤ (colsF t).length) ∧ ∀ j, j < i → 0 ≤ (colsF t).getD j default → (colsF t).getD j default < (a.length : Int) → M.getD ((colsF t).getD j default).toNat default = a.getD ((colsF t).getD j default).toNat default
def EnM (t : Tr) (a : List Vl) : EnS → Nat × Nat
  | .a M => (1, a.length - M.length)
  | .b _ i => (0, (colsF t).length - i)
theorem en_ok (t : Tr) (a b : List Vl) : OCalls Try.prog 3 [trA t, .fz (eL a) a.length vks, .fz (eL b) b.length vks] (.s (.bool true)) [] := by
  have hB : Try.prog.types[23].bytes = 40 := by kernel_rfl
  have yes : ∀ x, x = true → Goes ⟨.ret, true, [some (.s (.bool x))], []⟩ [.s (.bool true)] [] := fun x hx => ⟨rfl, (.cons _ _ _ _ (.ofEq (by rw [hx])) .nil), .nil⟩
  refine OCalls.le (args := en_a t a b) ?_ (.cons _ _ _ _ (trO_le t) (Les.refl _))
  refine floyd ev_mix ev_ok enX_ok worksS_ok (by kernel_rfl) [] en_cf (EnM t a) (fun s => match s with | .a _ => 0 | .b _ _ => 1) (EnV t a b) (EnO t a b) (EnJ t a) (EnT _ t a b) (en_t _ t a b) (en_h t a b) (fun s j => by cases s; exact en_h0 t a b _ j; exact en_h1 t a b _ _ j) ?_ ?_
  · unfold en_t
    simp only [trD_B]
    refine hSf (hOB (hO ⟨lg_ok _⟩ (hSd (fun _ => yes _ rfl) fun ht => hSd (fun _ => yes _ rfl) fun ha => hSd (fun _ => yes _ rfl) fun hb => ?_)))
    have hc : cntF t ≤ 500 := by
      have := (sizeF_iff t 500).2
      rcases Int.lt_or_le 500 (cntF t : Int) with c | c
      · exact absurd (this c) ht
      · omega
    refine hOB (hO ⟨cl_ok t (by omega)⟩ (hT (by rw [hB, small_ok (by omega), small_ok (by omega)]; rfl) ?_))
    exact ⟨.a b, ⟨⟨hc, by omega⟩, by omega⟩, rfl, rfl, rfl, (.cons _ _ _ _ (.refl _) (.cons _ _ _ _ (.refl _) (.cons _ _ _ _ (.refl _) (.cons _ _ _ _ (.refl _) .nil)))), .cons _ _ _ _ (box_le t _ _) (.cons _ _ _ _ (OLe.same _ _ _) (.cons _ _ _ _ (OLe.same _ _ _) .nil))⟩
  · intro s hs
    cases s with
    | a M =>
      obtain ⟨⟨hc, ha⟩, hM⟩ := hs
      show (en_t0 Try.prog t a b M).Holds _
      unfold en_t0
      refine hSd (fun h => hT (app_ok (k := 40) hB (by omega) (by omega)) ?_) fun h => hT (by simp; omega) ?_
      · exact ⟨.a (M ++ [⟨1, 7, 0, ⟨#[]⟩⟩]), ⟨⟨hc, ha⟩, by simp; omega⟩, rel_r (by simp; omega), rfl, rfl, rfl, (.cons _ _ _ _ (.refl _) (.cons _ _ _ _ (.refl _) (.cons _ _ _ _ (.refl _) (.cons _ _ _ _ (.ofEq (by simp)) .nil)))), .cons _ _ _ _ (box_le t _ _) (.cons _ _ _ _ (OLe.same _ _ _) (.cons _ _ _ _ (vl_snoc M ⟨1, 7, 0, ⟨#[]⟩⟩) .nil))⟩
      · exact ⟨.b M 0, ⟨⟨hc, ha⟩, ⟨by omega, Nat.zero_le _⟩, fun j hj => absurd hj (Nat.not_lt_zero j)⟩, rel_l (by omega), rfl, rfl, rfl, (.cons _ _ _ _ (.refl _) (.cons _ _ _ _ (.refl _) (.cons _ _ _ _ (.refl _) (.cons _ _ _ _ (.refl _) (.cons _ _ _ _ (.vs _) .nil))))), .cons _ _ _ _ (box_le t _ _) (.cons _ _ _ _ (OLe.same _ _ _) (.cons _ _ _ _ (OLe.same _ _ _) .nil))⟩
    | b M i =>
      obtain ⟨⟨hc, ha⟩, ⟨hM, hi⟩, hj⟩ := hs
      have hcl : (colsF t).length ≤ 500 := by
        have h1 := compact_len (sortI (namF t))
        have h2 := sortI_len (namF t)
        have h3 := namF_len t
        have h4 : (colsF t).length ≤ (sortI (namF t)).length := h1
        omega
      show (en_t1 Try.prog t a b M i).Holds _
      by_cases h : i < (colsF t).length
      · have hpw := (colsF_facts t).1
        have next : ∀ M', a.length ≤ M'.length → (∀ j, j < i → 0 ≤ (colsF t).getD j default → (colsF t).getD j default < (a.length : Int) → M'.getD ((colsF t).getD j default).toNat default = a.getD ((colsF t).getD j default).toNat default) → (0 ≤ (colsF t).getD i default → (colsF t).getD i default < (a.length : Int) → M'.getD ((colsF t).getD i default).toNat default = a.getD ((colsF t).getD i default).toNat default) → EnJ t a (.b M' (i + 1)) := fun M' h1 h2 h3 => ⟨⟨hc, ha⟩, ⟨h1, by omega⟩, fun j hj' => by
          by_cases e : j = i
          · subst e; exact h3
          · exact h2 j (by omega)⟩
        have hcut : ∀ M' : List Vl, ∀ o, OLe o (vR M') → ∀ w, Le w (.s (.int .i64 ((i + 1 : Nat) : Int))) → Goes ⟨.normal, true, [some (.fz (eL a) a.length vks), some (.ptr 65536 0 0), some (.osl 65537 (colsF t).length), some (.osl 65538 a.length), some w], [.o (boxE t), .o (.rows (eL (colsF t)) (colsF t).length [.int .i64]), o]⟩ (EnV t a b (.b M' (i + 1))) (EnO t a b (.b M' (i + 1))) := fun M' o ho w hw => ⟨rfl, (.cons _ _ _ _ (.refl _) (.cons _ _ _ _ (.refl _) (.cons _ _ _ _ (.refl _) (.cons _ _ _ _ (.refl _) (.cons _ _ _ _ hw .nil))))), .cons _ _ _ _ (box_le t _ _) (.cons _ _ _ _ (OLe.same _ _ _) (.cons _ _ _ _ ho .nil))⟩
        have hwi : IntKind.i64.wrap ((i : Int) + 1) = ((i + 1 : Nat) : Int) := by rw [wrap_lt (by omega) (by omega)]; rfl
        have go1 : (∃ s', EnJ t a s' ∧ WellFoundedRelation.rel (EnM t a s') (EnM t a (.b M i)) ∧ (match s' with | .a _ => 0 | .b _ _ => 1) = 1 ∧ ((ct Try.prog 3 1).1, (ct Try.prog 3 1).2) = ct Try.prog 3 1 ∧ Goes ⟨.normal, true, [some (.fz (eL a) a.length vks), some (.ptr 65536 0 0), some (.osl 65537 (colsF t).length), some (.osl 65538 a.length), some (.s (.int .i64 ((i + 1 : Nat) : Int)))], [.o (boxE t), .o (.rows (eL (colsF t)) (colsF t).length [.int .i64]), .o (.rows (eL M) M.length vks)]⟩ (EnV t a b s') (EnO t a b s')) ∨ (0 ≤ (colsF t).getD i default ∧ (colsF t).getD i default < (a.length : Int)) := by
          by_cases c : 0 ≤ (colsF t).getD i default ∧ (colsF t).getD i default < (a.length : Int)
          · exact .inr c
          · exact .inl ⟨.b M (i + 1), next M hM hj (fun h1 h2 => absurd ⟨h1, h2⟩ c), rel_r (by omega), rfl, rfl, hcut M _ (OLe.same _ _ _) _ (.refl _)⟩
        unfold en_t1
        simp only [Int.toNat_natCast, hwi]
        have hlt : Nat.blt i (colsF t).length = true := by simpa using h
        have hix : (decide (0 ≤ (i : Int)) && decide ((i : Int) < ((colsF t).length : Int))) = true := idx_ok h
        simp only [hlt, hix]
        refine hSd (fun _ => ?_) fun h' => absurd (by omega) h'
        have upd : (0 ≤ (colsF t).getD i default ∧ (colsF t).getD i default < (a.length : Int)) → EnJ t a (.b (M.set ((colsF t).getD i default).toNat (a.getD ((colsF t).getD i default).toNat default)) (i + 1)) := fun c => next _ (by rw [List.length_set]; exact hM) (fun j hj' h1 h2 => by
            by_cases e : ((colsF t).getD j default).toNat = ((colsF t).getD i default).toNat
            · rw [e, set_same (by omega)]
            · rw [set_other e]; exact hj j hj' h1 h2) fun h1 h2 => by rw [set_same (by omega)]
        have fin2 : ∀ c : (0 ≤ (colsF t).getD i default ∧ (colsF t).getD i default < (a.length : Int)), Nat.blt ((colsF t).getD i default).toNat M.length = true := fun c => blt_yes (by omega)
        have hp : (i : Int) > 0 → ¬ (colsF t).getD i default ≤ (colsF t).getD (IntKind.i64.wrap ((i : Int) - 1)).toNat default ∧ (decide (0 ≤ IntKind.i64.wrap ((i : Int) - 1)) && decide (IntKind.i64.wrap ((i : Int) - 1) < ((colsF t).length : Int))) = true ∧ Nat.blt (IntKind.i64.wrap ((i : Int) - 1)).toNat (colsF t).length = true := fun hi0 => by
          rw [wrap_lt (by omega) (by omega)]
          have e : ((i : Int) - 1).toNat = i - 1 := by omega
          rw [e]
          have := List.pairwise_iff_getElem.1 hpw (i - 1) i (by omega) h (by omega)
          refine ⟨?_, by simp; omega, by simp; omega⟩
          simp only [List.getD_eq_getElem?_getD, List.getElem?_eq_getElem h, List.getElem?_eq_getElem (show i - 1 < (colsF t).length by omega), Option.getD_some]
          omega
        have fin3 : ∀ c : (0 ≤ (colsF t).getD i default ∧ (colsF t).getD i default < (a.length : Int)), (decide (0 ≤ (colsF t).getD i default) && decide ((colsF t).getD i default < (a.length : Int))) = true := fun c => by simp; exact c
        refine hSd (fun hi0 => hSt ?_) fun hi0 => ?_
        · obtain ⟨q1, q2, q3⟩ := hp hi0
          refine hSt (hT q2 (hT q3 (hSd (fun x => absurd x q1) fun _ => hSt (hSt (hSd (fun c1 => hSt (hSt (hSd (fun c2 => hSt (hSt (hSt (hSt (hT (fin3 ⟨c1, c2⟩) (hT (fin3 ⟨c1, c2⟩) (hT (fin2 ⟨c1, c2⟩) ?_))))))) fun c2 => ?_))) fun c1 => ?_)))))
          · exact ⟨.b _ (i + 1), upd ⟨c1, c2⟩, rel_r (by omega), rfl, rfl, hcut _ _ (vl_set M _ _ (by omega)) _ (.refl _)⟩
          · exact go1.resolve_right fun x => c2 x.2
          · exact go1.resolve_right fun x => c1 x.1
        · refine hSt (hSt (hSd (fun c1 => hSt (hSt (hSd (fun c2 => hSt (hSt (hSt (hSt (hT (fin3 ⟨c1, c2⟩) (hT (fin3 ⟨c1, c2⟩) (hT (fin2 ⟨c1, c2⟩) ?_))))))) fun c2 => ?_))) fun c1 => ?_))
          · exact ⟨.b _ (i + 1), upd ⟨c1, c2⟩, rel_r (by omega), rfl, rfl, hcut _ _ (vl_set M _ _ (by omega)) _ (.refl _)⟩
          · exact go1.resolve_right fun x => c2 x.2
          · exact go1.resolve_right fun x => c1 x.1
      · have hi' : i = (colsF t).length := by omega
        have hd := dL_take M a.length hM
        have hE : evalF a t = evalF (M.take a.length) t := evalF_congr (by simp; omega) fun n hn h0 h1 => by
          rw [getD_take M _ _ (by omega)]
          obtain ⟨j, hjl, hje⟩ := List.getElem_of_mem (((colsF_facts t).2 n).2 hn)
          have := hj j (by omega)
          rw [show (colsF t).getD j default = n by rw [List.getD_eq_getElem?_getD, List.getElem?_eq_getElem hjl]; exact hje] at this
          exact (this h0 h1).symm
        unfold en_t1
        refine hSd (fun x => by omega) fun _ => ?_
        have hl : (M.take a.length).length = a.length := by simp; omega
        simp only [trD_B, dL_eL, hd, ← hE, beq_self_eq_true, Bool.and_true]
        refine hOB (hO ⟨va_ok t a⟩ (hT (ble_yes hM) (hOB (hO ⟨?_⟩ (hSt (yes _ rfl))))))
        rw [hE]
        exact va_ok t (M.take a.length)
end Go.Proofs.Ytengccmjlaejfaa
end
section
namespace Go.Proofs.Ytengccmjlaejfaa
open Ev Go.RowKit
set_option linter.unusedVariables false
def ofV (b : Bool) : Vl := ⟨2, if b then 1 else 0, 0, ⟨#[]⟩⟩
def okB (v : Vl) : Prop := v.k = 2 ∨ v.k = 0
instance (v : Vl) : Decidable (okB v) := inferInstanceAs (Decidable (_ ∨ _))
theorem notR_eq (v : Vl) : xnotR v = if v.k = 2 then (ofV (decide (v.n = 0)), 0) else if v.k = 0 then (default, 0) else (default, 60) := by
  by_cases h2 : v.k = 2
  · by_cases hn : v.n = 0
    · simp [xnotR, xnot_t, vOf, brV, resP, resC, vlOf, scI, scS, ofV, bne, h2, hn]
    · have bn : (v.n == 0) = false := beq_false_of_ne hn
      simp [xnotR, xnot_t, vOf, brV, resP, resC, vlOf, scI, scS, ofV, bne, h2, hn, bn]
  · by_cases h0 : v.k = 0
    · simp [xnotR, xnot_t, vOf, brV, resP, resC, vlOf, scI, scS, ofV, bne, h0]; rfl
    · have b2 : (v.k == 2) = false := beq_false_of_ne h2
      have b0 : (v.k == 0) = false := beq_false_of_ne h0
      simp [xnotR, xnot_t, vOf, brV, resP, resC, vlOf, scI, scS, ofV, bne, h2, h0, b2, b0]; rfl
def joinS (d : Bool) (a b : Vl) : Vl × Int := if okB a ∧ okB b then (if (a.k = 2 ∧ decide (a.n ≠ 0) = d) ∨ (b.k = 2 ∧ decide (b.n ≠ 0) = d) then (ofV d, 0) else if a.k = 0 ∨ b.k = 0 then (default, 0) else (ofV (!d), 0)) else (default, 60)
theorem andR_eq (a b : Vl) : xandR a b = joinS false a b := by
  by_cases a2 : a.k = 2
  · by_cases an : a.n = 0
    · by_cases b2 : b.k = 2
      · by_cases bn : b.n = 0
        · simp [xandR, xand_t, vOf, brV, resP, resC, vlOf, scI, scS, ofV, bne, joinS, okB, a2, an, b2, bn] <;> try rfl
        · have bm : (b.n == 0) = false := beq_false_of_ne bn
          simp [xandR, xand_t, vOf, brV, resP, resC, vlOf, scI, scS, ofV, bne, joinS, okB, a2, an, b2, bn, bm] <;> try rfl
      · have bp : (b.k == 2) = false := beq_false_of_ne b2
        by_cases b0 : b.k = 0
        · simp [xandR, xand_t, vOf, brV, resP, resC, vlOf, scI, scS, ofV, bne, joinS, okB, a2, an, b0] <;> try rfl
        · have bq : (b.k == 0) = false := beq_false_of_ne b0
          simp [xandR, xand_t, vOf, brV, resP, resC, vlOf, scI, scS, ofV, bne, joinS, okB, a2, an, b2, b0, bp, bq] <;> try rfl
    · have am : (a.n == 0) = false := beq_false_of_ne an
      by_cases b2 : b.k = 2
      · by_cases bn : b.n = 0
        · simp [xandR, xand_t, vOf, brV, resP, resC, vlOf, scI, scS, ofV, bne, joinS, okB, a2, an, am, b2, bn] <;> try rfl
        · have bm : (b.n == 0) = false := beq_false_of_ne bn
          simp [xandR, xand_t, vOf, brV, resP, resC, vlOf, scI, scS, ofV, bne, joinS, okB, a2, an, am, b2, bn, bm] <;> try rfl
      · have bp : (b.k == 2) = false := beq_false_of_ne b2
        by_cases b0 : b.k = 0
        · simp [xandR, xand_t, vOf, brV, resP, resC, vlOf, scI, scS, ofV, bne, joinS, okB, a2, an, am, b0] <;> try rfl
        · have bq : (b.k == 0) = false := beq_false_of_ne b0
          simp [xandR, xand_t, vOf, brV, resP, resC, vlOf, scI, scS, ofV, bne, joinS, okB, a2, an, am, b2, b0, bp, bq] <;> try rfl
  · have ap : (a.k == 2) = false := beq_false_of_ne a2
    by_cases a0 : a.k = 0
    · by_cases b2 : b.k = 2
      · by_cases bn : b.n = 0
        · simp [xandR, xand_t, vOf, brV, resP, resC, vlOf, scI, scS, ofV, bne, joinS, okB, a0, b2, bn] <;> try rfl
        · have bm : (b.n == 0) = false := beq_false_of_ne bn
          simp [xandR, xand_t, vOf, brV, resP, resC, vlOf, scI, scS, ofV, bne, joinS, okB, a0, b2, bn, bm] <;> try rfl
      · have bp : (b.k == 2) = false := beq_false_of_ne b2
        by_cases b0 : b.k = 0
        · simp [xandR, xand_t, vOf, brV, resP, resC, vlOf, scI, scS, ofV, bne, joinS, okB, a0, b0] <;> try rfl
        · have bq : (b.k == 0) = false := beq_false_of_ne b0
          simp [xandR, xand_t, vOf, brV, resP, resC, vlOf, scI, scS, ofV, bne, joinS, okB, a0, b2, b0, bp, bq] <;> try rfl
    · have aq : (a.k == 0) = false := beq_false_of_ne a0
      by_cases b2 : b.k = 2
      · by_cases bn : b.n = 0
        · simp [xandR, xand_t, vOf, brV, resP, resC, vlOf, scI, scS, ofV, bne, joinS, okB, a2, a0, ap, aq, b2, bn] <;> try rfl
        · have bm : (b.n == 0) = false := beq_false_of_ne bn
          simp [xandR, xand_t, vOf, brV, resP, resC, vlOf, scI, scS, ofV, bne, joinS, okB, a2, a0, ap, aq, b2, bn, bm] <;> try rfl
      · have bp : (b.k == 2) = false := beq_false_of_ne b2
        by_cases b0 : b.k = 0
        · simp [xandR, xand_t, vOf, brV, resP, resC, vlOf, scI, scS, ofV, bne, joinS, okB, a2, a0, ap, aq, b0] <;> try rfl
        · have bq : (b.k == 0) = false := beq_false_of_ne b0
          simp [xandR, xand_t, vOf, brV, resP, resC, vlOf, scI, scS, ofV, bne, joinS, okB, a2, a0, ap, aq, b2, b0, bp, bq] <;> try rfl
theorem orR_eq (a b : Vl) : xorR a b = joinS true a b := by
  by_cases a2 : a.k = 2
  · by_cases an : a.n = 0
    · by_cases b2 : b.k = 2
      · by_cases bn : b.n = 0
        · simp [xorR, xor_t, vOf, brV, resP, resC, vlOf, scI, scS, ofV, bne, joinS, okB, a2, an, b2, bn] <;> try rfl
        · have bm : (b.n == 0) = false := beq_false_of_ne bn
          simp [xorR, xor_t, vOf, brV, resP, resC, vlOf, scI, scS, ofV, bne, joinS, okB, a2, an, b2, bn, bm] <;> try rfl
      · have bp : (b.k == 2) = false := beq_false_of_ne b2
        by_cases b0 : b.k = 0
        · simp [xorR, xor_t, vOf, brV, resP, resC, vlOf, scI, scS, ofV, bne, joinS, okB, a2, an, b0] <;> try rfl
        · have bq : (b.k == 0) = false := beq_false_of_ne b0
          simp [xorR, xor_t, vOf, brV, resP, resC, vlOf, scI, scS, ofV, bne, joinS, okB, a2, an, b2, b0, bp, bq] <;> try rfl
    · have am : (a.n == 0) = false := beq_false_of_ne an
      by_cases b2 : b.k = 2
      · by_cases bn : b.n = 0
        · simp [xorR, xor_t, vOf, brV, resP, resC, vlOf, scI, scS, ofV, bne, joinS, okB, a2, an, am, b2, bn] <;> try rfl
        · have bm : (b.n == 0) = false := beq_false_of_ne bn
          simp [xorR, xor_t, vOf, brV, resP, resC, vlOf, scI, scS, ofV, bne, joinS, okB, a2, an, am, b2, bn, bm] <;> try rfl
      · have bp : (b.k == 2) = false := beq_false_of_ne b2
        by_cases b0 : b.k = 0
        · simp [xorR, xor_t, vOf, brV, resP, resC, vlOf, scI, scS, ofV, bne, joinS, okB, a2, an, am, b0] <;> try rfl
        · have bq : (b.k == 0) = false := beq_false_of_ne b0
          simp [xorR, xor_t, vOf, brV, resP, resC, vlOf, scI, scS, ofV, bne, joinS, okB, a2, an, am, b2, b0, bp, bq] <;> try rfl
  · have ap : (a.k == 2) = false := beq_false_of_ne a2
    by_cases a0 : a.k = 0
    · by_cases b2 : b.k = 2
      · by_cases bn : b.n = 0
        · simp [xorR, xor_t, vOf, brV, resP, resC, vlOf, scI, scS, ofV, bne, joinS, okB, a0, b2, bn] <;> try rfl
        · have bm : (b.n == 0) = false := beq_false_of_ne bn
          simp [xorR, xor_t, vOf, brV, resP, resC, vlOf, scI, scS, ofV, bne, joinS, okB, a0, b2, bn, bm] <;> try rfl
      · have bp : (b.k == 2) = false := beq_false_of_ne b2
        by_cases b0 : b.k = 0
        · simp [xorR, xor_t, vOf, brV, resP, resC, vlOf, scI, scS, ofV, bne, joinS, okB, a0, b0] <;> try rfl
        · have bq : (b.k == 0) = false := beq_false_of_ne b0
          simp [xorR, xor_t, vOf, brV, resP, resC, vlOf, scI, scS, ofV, bne, joinS, okB, a0, b2, b0, bp, bq] <;> try rfl
    · have aq : (a.k == 0) = false := beq_false_of_ne a0
      by_cases b2 : b.k = 2
      · by_cases bn : b.n = 0
        · simp [xorR, xor_t, vOf, brV, resP, resC, vlOf, scI, scS, ofV, bne, joinS, okB, a2, a0, ap, aq, b2, bn] <;> try rfl
        · have bm : (b.n == 0) = false := beq_false_of_ne bn
          simp [xorR, xor_t, vOf, brV, resP, resC, vlOf, scI, scS, ofV, bne, joinS, okB, a2, a0, ap, aq, b2, bn, bm] <;> try rfl
      · have bp : (b.k == 2) = false := beq_false_of_ne b2
        by_cases b0 : b.k = 0
        · simp [xorR, xor_t, vOf, brV, resP, resC, vlOf, scI, scS, ofV, bne, joinS, okB, a2, a0, ap, aq, b0] <;> try rfl
        · have bq : (b.k == 0) = false := beq_false_of_ne b0
          simp [xorR, xor_t, vOf, brV, resP, resC, vlOf, scI, scS, ofV, bne, joinS, okB, a2, a0, ap, aq, b2, b0, bp, bq] <;> try rfl
/-- Not of And is Or of the Nots. -/
theorem morgan (a b : Vl) : ((xnotR a).2 = 0 ↔ okB a) ∧ ((xandR a b).2 = 0 ↔ okB a ∧ okB b) ∧ ((xorR a b).2 = 0 ↔ okB a ∧ okB b) ∧ (okB a → okB b → okB (xandR a b).1 ∧ okB (xnotR a).1 ∧ xnotR (xandR a b).1 = xorR (xnotR a).1 (xnotR b).1) := by
  simp only [notR_eq, andR_eq, orR_eq]
  refine ⟨?_, ?_, ?_, fun ha hb => ?_⟩
  · by_cases h2 : a.k = 2
    · simp [okB, h2]
    · by_cases h0 : a.k = 0 <;> simp [okB, h2, h0]
  · unfold joinS
    split
    · rename_i h; simp only [h, and_self, iff_true]; split; rfl; split <;> rfl
    · rename_i h; simp only [h, iff_false]; simp
  · unfold joinS
    split
    · rename_i h; simp only [h, and_self, iff_true]; split; rfl; split <;> rfl
    · rename_i h; simp only [h, iff_false]; simp
  · rcases ha with ha | ha <;> rcases hb with hb | hb
    · by_cases an : a.n = 0 <;> by_cases bn : b.n = 0 <;> simp [joinS, okB, ofV, ha, hb, an, bn]
    · by_cases an : a.n = 0 <;> simp [joinS, okB, ofV, ha, hb, an] <;> decide
    · by_cases bn : b.n = 0 <;> simp [joinS, okB, ofV, ha, hb, bn] <;> decide
    · simp [joinS, okB, ofV, ha, hb] <;> decide
end Go.Proofs.Ytengccmjlaejfaa
end
section
namespace Go.Proofs.Ytengccmjlaejfaa
open Ev Go.RowKit
set_option maxRecDepth 100000
set_option linter.unusedVariables false
theorem brV_q {Q : Vl × Int → Prop} : ∀ {B : Br PO} {z : Vl × Int}, brV B = some z → (B.Holds fun p => ∀ z, resP p = some z → Q z) → Q z
  | .no, _, h, _ => by cases h
  | .leaf p, z, hz, h => h z hz
  | .test b t e, z, hz, h => by
    cases b with
    | true => exact brV_q (B := t) hz (h.1 rfl)
    | false => exact brV_q (B := e) hz (h.2 rfl)
  | .ob _ _, _, h, _ => by cases h
theorem vOf_q {B : Br PO} {Q : Vl × Int → Prop} (ho : okV B = true) (h : B.Holds fun p => ∀ z, resP p = some z → Q z) : Q (vOf B) := by
  obtain ⟨z, hz⟩ := okV_some ho
  unfold vOf
  rw [hz]
  exact brV_q hz h
theorem leaf1 {Q : Vl × Int → Prop} {k n hi e : Int} {t : ByteArray} (h : Q (⟨k, n, hi, t⟩, e)) : ∀ z, resP (.fin ⟨.ret, true, [some (.v (.tuple { toList := [.agg { toList := [.int .u8 k, .int .i64 n, .int .i64 hi, .string t] }, .int .i64 e] }))], []⟩) = some z → Q z := fun z hz => by
  have hz : some ((⟨k, n, hi, t⟩ : Vl), e) = some z := hz
  cases hz; exact h
theorem leaf2 {Q : Vl × Int → Prop} {k n hi e : Int} {t : ByteArray} (h : Q (⟨k, n, hi, t⟩, e)) : ∀ z, resP (.fin ⟨.ret, true, [some (.tup [.agg [.v (.int .u8 k), .s (.int .i64 n), .v (.int .i64 hi), .v (.string t)], .v (.int .i64 e)])], []⟩) = some z → Q z := fun z hz => by
  have hz : some ((⟨k, n, hi, t⟩ : Vl), e) = some z := hz
  cases hz; exact h
def Err3 (z : Vl × Int) : Prop := z.2 = 0 ∨ z.2 = 60 ∨ z.2 = 61
def nulZ (z : Vl × Int) : Prop := z.2 = 0 ∧ z.1 = ⟨0, 0, 0, ⟨#[]⟩⟩
def intZ (z : Vl × Int) : Prop := z.2 = 0 ∧ z.1.k = 1 ∧ z.1.hi = 0 ∧ z.1.t = ⟨#[]⟩
def booZ (z : Vl × Int) : Prop := z.2 = 0 ∧ z.1.k = 2 ∧ (z.1.n = 0 ∨ z.1.n = 1) ∧ z.1.hi = 0 ∧ z.1.t = ⟨#[]⟩
def QN (a : Vl) (z : Vl × Int) : Prop := Err3 z ∧ (a.k = 0 → nulZ z) ∧ (a.k = 1 → intZ z ∨ z.2 = 61)
def QA (a b : Vl) (z : Vl × Int) : Prop := Err3 z ∧ ((a.k = 0 ∨ a.k = 1) → (b.k = 0 ∨ b.k = 1) → ((a.k = 0 ∨ b.k = 0) → nulZ z) ∧ (a.k = 1 → b.k = 1 → intZ z ∨ z.2 = 61))
def QB (c : Prop) (a b : Vl) (z : Vl × Int) : Prop := Err3 z ∧ (c → ((a.k = 0 ∨ b.k = 0) → nulZ z) ∧ (a.k ≠ 0 → b.k ≠ 0 → booZ z))
def kM (a b : Vl) : Prop := (a.k = 0 ∨ a.k = 4) ∧ (b.k = 0 ∨ b.k = 4)
def kS (a b : Vl) : Prop := (a.k = 0 ∨ b.k = 0 ∨ a.k = b.k)
theorem neg_q (a : Vl) : QN a (xnegR a) := vOf_q (by kernel_rfl) (by
  unfold xneg_t
  repeat' refine hS (fun _ => ?_) fun _ => ?_
  all_goals first
    | refine leaf1 ?_
    | refine leaf2 ?_
  all_goals simp_all [QN, Err3, nulZ, intZ])
theorem add_q (a b : Vl) : QA a b (xaddR a b) := vOf_q (by kernel_rfl) (by
  unfold xadd_t
  repeat' refine hS (fun _ => ?_) fun _ => ?_
  all_goals first
    | refine leaf1 ?_
    | refine leaf2 ?_
  all_goals simp_all [QA, Err3, nulZ, intZ])
theorem sub_q (a b : Vl) : QA a b (xsubR a b) := vOf_q (by kernel_rfl) (by
  unfold xsub_t
  repeat' refine hS (fun _ => ?_) fun _ => ?_
  all_goals first
    | refine leaf1 ?_
    | refine leaf2 ?_
  all_goals simp_all [QA, Err3, nulZ, intZ])
theorem mul_q (a b : Vl) : QA a b (xmulR a b) := vOf_q (by kernel_rfl) (by
  unfold xmul_t
  repeat' refine hS (fun _ => ?_) fun _ => ?_
  all_goals first
    | refine leaf1 ?_
    | refine leaf2 ?_
  all_goals simp_all [QA, Err3, nulZ, intZ])
theorem meet_q (a b : Vl) : QB (kM a b) a b (xmeetR a b) := vOf_q (by kernel_rfl) (by
  unfold xmeet_t
  repeat' refine hS (fun _ => ?_) fun _ => ?_
  all_goals first
    | refine leaf1 ?_
    | refine leaf2 ?_
  all_goals simp_all [QB, kM, Err3, nulZ, booZ])
theorem equ_q (a b : Vl) : QB (kS a b) a b (xequR a b) := vOf_q (by kernel_rfl) (by
  unfold xequ_t
  repeat' refine hS (fun _ => ?_) fun _ => ?_
  all_goals first
    | refine leaf1 ?_
    | refine leaf2 ?_
  all_goals simp_all [QB, kS, Err3, nulZ, booZ])
theorem les_q (a b : Vl) : QB (kS a b) a b (xlesR a b) := vOf_q (by kernel_rfl) (by
  unfold xles_t
  repeat' refine hS (fun _ => ?_) fun _ => ?_
  all_goals first
    | refine leaf1 ?_
    | refine leaf2 ?_
  all_goals simp_all [QB, kS, Err3, nulZ, booZ])
end Go.Proofs.Ytengccmjlaejfaa
end
