/- The statement RuleSame, walked. No condition. -/
import Derived.Test.YtengccmjlaejfaaDoorMg24
import Derived.Test.YtengccmjlaejfaaDoorRuA
namespace Go.Proofs.YtengccmjlaejfaaDoor
open Ev Go.RowKit
set_option maxRecDepth 100000
set_option linter.unusedVariables false
noncomputable def aRq : AK Ru where
  dec := aRu.dec
  can := ruA
  pre := aRu.pre
  ok := aRu.ok
def aTq : AK Ta where
  dec := aTa.dec
  can := taA
  pre := aTa.pre
  ok := aTa.ok
noncomputable def wiX : SumBr := obX Tryd.prog 12 (AKs.cons aTq AKs.nil) fun z => .leaf (.s (.bool (wiF z.1)), [])
noncomputable def loX : SumBr := obX Tryd.prog 13 (AKs.cons aRq AKs.nil) fun z => .leaf (.s (.bool (loF z.1)), [])
noncomputable def fitX : SumBr := obX Tryd.prog 10 (AKs.cons aRq (AKs.cons aTq (AKs.cons aRq (AKs.cons aTq AKs.nil)))) fun z => .leaf (.s (.int .i64 (fitF z.1 z.2.1 z.2.2.1 z.2.2.2.1)), [])
noncomputable def smrX : SumBr := obX Tryd.prog 15 (AKs.cons aRq (AKs.cons aRq AKs.nil)) fun z => .leaf (.s (.bool (saF z.1 z.2.1)), [])
noncomputable def smtX : SumBr := obX Tryd.prog 16 (AKs.cons aTq (AKs.cons aTq AKs.nil)) fun z => .leaf (.s (.bool (stF z.1 z.2.1)), [])
noncomputable def mtaX : SumBr := obX Tryd.prog 9 (AKs.cons aTq AKs.nil) fun z => .leaf (.s (.bool (mtF z.1)), [])
noncomputable def baX : SumBr := orX wiX (orX loX (orX fitX mtaX))
noncomputable def rsaX : SumBr := orX baX (orX smrX smtX)
theorem baX_ok : SumGO Tryd.prog (sumS baX) := orX_open (obX_ok (by kernel_rfl)) (orX_open (obX_ok (by kernel_rfl)) (orX_open (obX_ok (by kernel_rfl)) (obX_ok (by kernel_rfl))))
theorem rsaX_ok : SumGO Tryd.prog (sumS rsaX) := orX_open baX_ok (orX_open (obX_ok (by kernel_rfl)) (obX_ok (by kernel_rfl)))
def rsa_cf : Nat → Cfg := cfL []
def rsa_a (a b : Ru) (t u : Ta) : List AV := [ruO a, ruO b, taA t, taA u]
noncomputable def rsa_t (P : Program) (a b : Ru) (t u : Ta) : Br PO :=
(.ob (ObC Tryd.prog 12 [taA { nm := t.nm, cols := dL Cl (eL t.cols) t.cols.length, ow := t.ow }] (AV.s (Value.bool (wiF { nm := t.nm, cols := dL Cl (eL t.cols) t.cols.length, ow := t.ow }))) [])
  (.test (wiF { nm := t.nm, cols := dL Cl (eL t.cols) t.cols.length, ow := t.ow })
    (.leaf (.fin ⟨Ex.ret, true, [some (AV.s (Value.bool true))], []⟩))
    (.ob (ObC Tryd.prog 12 [taA { nm := u.nm, cols := dL Cl (eL u.cols) u.cols.length, ow := u.ow }] (AV.s (Value.bool (wiF { nm := u.nm, cols := dL Cl (eL u.cols) u.cols.length, ow := u.ow }))) [])
      (.test (wiF { nm := u.nm, cols := dL Cl (eL u.cols) u.cols.length, ow := u.ow })
        (.leaf (.fin ⟨Ex.ret, true, [some (AV.s (Value.bool true))], []⟩))
        (.ob (ObE (trO a.ex)   (trA (trD (trO a.ex))))
          (.ob (ObC Tryd.prog 13   [ruA       { k := a.k, nm := a.nm, tb := a.tb, cols := dL Int (eL a.cols) a.cols.length, ex := trD (trO a.ex), rf := a.rf, od := a.od,         ou := a.ou, lt := a.lt, vd := a.vd }]   (AV.s     (Value.bool       (loF         { k := a.k, nm := a.nm, tb := a.tb, cols := dL Int (eL a.cols) a.cols.length, ex := trD (trO a.ex), rf := a.rf,           od := a.od, ou := a.ou, lt := a.lt, vd := a.vd })))   [])
            (.test (loF   { k := a.k, nm := a.nm, tb := a.tb, cols := dL Int (eL a.cols) a.cols.length, ex := trD (trO a.ex), rf := a.rf, od := a.od,     ou := a.ou, lt := a.lt, vd := a.vd })
              (.leaf (.fin ⟨Ex.ret, true, [some (AV.s (Value.bool true))], []⟩))
              (.ob (ObE (trO b.ex)   (trA (trD (trO b.ex))))
                (.ob (ObC Tryd.prog 13   [ruA       { k := b.k, nm := b.nm, tb := b.tb, cols := dL Int (eL b.cols) b.cols.length, ex := trD (trO b.ex), rf := b.rf, od := b.od,         ou := b.ou, lt := b.lt, vd := b.vd }]   (AV.s     (Value.bool       (loF         { k := b.k, nm := b.nm, tb := b.tb, cols := dL Int (eL b.cols) b.cols.length, ex := trD (trO b.ex), rf := b.rf,           od := b.od, ou := b.ou, lt := b.lt, vd := b.vd })))   [])
                  (.test (loF   { k := b.k, nm := b.nm, tb := b.tb, cols := dL Int (eL b.cols) b.cols.length, ex := trD (trO b.ex), rf := b.rf, od := b.od,     ou := b.ou, lt := b.lt, vd := b.vd })
                    (.leaf (.fin ⟨Ex.ret, true, [some (AV.s (Value.bool true))], []⟩))
                    (.test (false)
                      (.leaf (.fin ⟨Ex.ret, true, [some (AV.s (Value.bool true))], []⟩))
                      (.ob (ObE (trO a.ex)   (trA (trD (trO a.ex))))
                        (.ob (ObE (trO a.ex)   (trA (trD (trO a.ex))))
                          (.ob (ObC Tryd.prog 15   [ruA       { k := a.k, nm := a.nm, tb := a.tb, cols := dL Int (eL a.cols) a.cols.length, ex := trD (trO a.ex), rf := a.rf, od := a.od,         ou := a.ou, lt := a.lt, vd := a.vd },     ruA       { k := a.k, nm := a.nm, tb := a.tb, cols := dL Int (eL a.cols) a.cols.length, ex := trD (trO a.ex), rf := a.rf, od := a.od,         ou := a.ou, lt := a.lt, vd := a.vd }]   (AV.s     (Value.bool       (saF         { k := a.k, nm := a.nm, tb := a.tb, cols := dL Int (eL a.cols) a.cols.length, ex := trD (trO a.ex), rf := a.rf,           od := a.od, ou := a.ou, lt := a.lt, vd := a.vd }         { k := a.k, nm := a.nm, tb := a.tb, cols := dL Int (eL a.cols) a.cols.length, ex := trD (trO a.ex), rf := a.rf,           od := a.od, ou := a.ou, lt := a.lt, vd := a.vd })))   [])
                            (.test (!saF     { k := a.k, nm := a.nm, tb := a.tb, cols := dL Int (eL a.cols) a.cols.length, ex := trD (trO a.ex), rf := a.rf, od := a.od,       ou := a.ou, lt := a.lt, vd := a.vd }     { k := a.k, nm := a.nm, tb := a.tb, cols := dL Int (eL a.cols) a.cols.length, ex := trD (trO a.ex), rf := a.rf, od := a.od,       ou := a.ou, lt := a.lt, vd := a.vd })
                              (.leaf (.fin ⟨Ex.ret, true, [some (AV.v (Value.bool false))], []⟩))
                              (.ob (ObC Tryd.prog 16 [taA { nm := t.nm, cols := dL Cl (eL t.cols) t.cols.length, ow := t.ow }, taA { nm := t.nm, cols := dL Cl (eL t.cols) t.cols.length, ow := t.ow }] (AV.s (Value.bool (stF { nm := t.nm, cols := dL Cl (eL t.cols) t.cols.length, ow := t.ow } { nm := t.nm, cols := dL Cl (eL t.cols) t.cols.length, ow := t.ow }))) [])
                                (.test (!stF { nm := t.nm, cols := dL Cl (eL t.cols) t.cols.length, ow := t.ow } { nm := t.nm, cols := dL Cl (eL t.cols) t.cols.length, ow := t.ow })
                                  (.leaf (.fin ⟨Ex.ret, true, [some (AV.v (Value.bool false))], []⟩))
                                  (.ob (ObE (trO a.ex)   (trA (trD (trO a.ex))))
                                    (.ob (ObE (trO b.ex)   (trA (trD (trO b.ex))))
                                      (.ob (ObC Tryd.prog 15   [ruA       { k := a.k, nm := a.nm, tb := a.tb, cols := dL Int (eL a.cols) a.cols.length, ex := trD (trO a.ex), rf := a.rf, od := a.od,         ou := a.ou, lt := a.lt, vd := a.vd },     ruA       { k := b.k, nm := b.nm, tb := b.tb, cols := dL Int (eL b.cols) b.cols.length, ex := trD (trO b.ex), rf := b.rf, od := b.od,         ou := b.ou, lt := b.lt, vd := b.vd }]   (AV.s     (Value.bool       (saF         { k := a.k, nm := a.nm, tb := a.tb, cols := dL Int (eL a.cols) a.cols.length, ex := trD (trO a.ex), rf := a.rf,           od := a.od, ou := a.ou, lt := a.lt, vd := a.vd }         { k := b.k, nm := b.nm, tb := b.tb, cols := dL Int (eL b.cols) b.cols.length, ex := trD (trO b.ex), rf := b.rf,           od := b.od, ou := b.ou, lt := b.lt, vd := b.vd })))   [])
                                        (.ob (ObE (trO b.ex)   (trA (trD (trO b.ex))))
                                          (.ob (ObE (trO a.ex)   (trA (trD (trO a.ex))))
                                            (.ob (ObC Tryd.prog 15   [ruA       { k := b.k, nm := b.nm, tb := b.tb, cols := dL Int (eL b.cols) b.cols.length, ex := trD (trO b.ex), rf := b.rf, od := b.od,         ou := b.ou, lt := b.lt, vd := b.vd },     ruA       { k := a.k, nm := a.nm, tb := a.tb, cols := dL Int (eL a.cols) a.cols.length, ex := trD (trO a.ex), rf := a.rf, od := a.od,         ou := a.ou, lt := a.lt, vd := a.vd }]   (AV.s     (Value.bool       (saF         { k := b.k, nm := b.nm, tb := b.tb, cols := dL Int (eL b.cols) b.cols.length, ex := trD (trO b.ex), rf := b.rf,           od := b.od, ou := b.ou, lt := b.lt, vd := b.vd }         { k := a.k, nm := a.nm, tb := a.tb, cols := dL Int (eL a.cols) a.cols.length, ex := trD (trO a.ex), rf := a.rf,           od := a.od, ou := a.ou, lt := a.lt, vd := a.vd })))   [])
                                              (.test (!saF       { k := a.k, nm := a.nm, tb := a.tb, cols := dL Int (eL a.cols) a.cols.length, ex := trD (trO a.ex), rf := a.rf, od := a.od,         ou := a.ou, lt := a.lt, vd := a.vd }       { k := b.k, nm := b.nm, tb := b.tb, cols := dL Int (eL b.cols) b.cols.length, ex := trD (trO b.ex), rf := b.rf, od := b.od,         ou := b.ou, lt := b.lt, vd := b.vd } ==     saF       { k := b.k, nm := b.nm, tb := b.tb, cols := dL Int (eL b.cols) b.cols.length, ex := trD (trO b.ex), rf := b.rf, od := b.od,         ou := b.ou, lt := b.lt, vd := b.vd }       { k := a.k, nm := a.nm, tb := a.tb, cols := dL Int (eL a.cols) a.cols.length, ex := trD (trO a.ex), rf := a.rf, od := a.od,         ou := a.ou, lt := a.lt, vd := a.vd })
                                                (.leaf (.fin ⟨Ex.ret, true, [some (AV.v (Value.bool false))], []⟩))
                                                (.ob (ObC Tryd.prog 16 [taA { nm := t.nm, cols := dL Cl (eL t.cols) t.cols.length, ow := t.ow }, taA { nm := u.nm, cols := dL Cl (eL u.cols) u.cols.length, ow := u.ow }] (AV.s (Value.bool (stF { nm := t.nm, cols := dL Cl (eL t.cols) t.cols.length, ow := t.ow } { nm := u.nm, cols := dL Cl (eL u.cols) u.cols.length, ow := u.ow }))) [])
                                                  (.ob (ObC Tryd.prog 16 [taA { nm := u.nm, cols := dL Cl (eL u.cols) u.cols.length, ow := u.ow }, taA { nm := t.nm, cols := dL Cl (eL t.cols) t.cols.length, ow := t.ow }] (AV.s (Value.bool (stF { nm := u.nm, cols := dL Cl (eL u.cols) u.cols.length, ow := u.ow } { nm := t.nm, cols := dL Cl (eL t.cols) t.cols.length, ow := t.ow }))) [])
                                                    (.test (!stF { nm := t.nm, cols := dL Cl (eL t.cols) t.cols.length, ow := t.ow } { nm := u.nm, cols := dL Cl (eL u.cols) u.cols.length, ow := u.ow } == stF { nm := u.nm, cols := dL Cl (eL u.cols) u.cols.length, ow := u.ow } { nm := t.nm, cols := dL Cl (eL t.cols) t.cols.length, ow := t.ow })
                                                      (.leaf (.fin ⟨Ex.ret, true, [some (AV.v (Value.bool false))], []⟩))
                                                      (.ob (ObE (trO a.ex)   (trA (trD (trO a.ex))))
                                                        (.ob (ObE (trO b.ex)   (trA (trD (trO b.ex))))
                                                          (.ob (ObC Tryd.prog 15   [ruA       { k := a.k, nm := a.nm, tb := a.tb, cols := dL Int (eL a.cols) a.cols.length, ex := trD (trO a.ex), rf := a.rf, od := a.od,         ou := a.ou, lt := a.lt, vd := a.vd },     ruA       { k := b.k, nm := b.nm, tb := b.tb, cols := dL Int (eL b.cols) b.cols.length, ex := trD (trO b.ex), rf := b.rf, od := b.od,         ou := b.ou, lt := b.lt, vd := b.vd }]   (AV.s     (Value.bool       (saF         { k := a.k, nm := a.nm, tb := a.tb, cols := dL Int (eL a.cols) a.cols.length, ex := trD (trO a.ex), rf := a.rf,           od := a.od, ou := a.ou, lt := a.lt, vd := a.vd }         { k := b.k, nm := b.nm, tb := b.tb, cols := dL Int (eL b.cols) b.cols.length, ex := trD (trO b.ex), rf := b.rf,           od := b.od, ou := b.ou, lt := b.lt, vd := b.vd })))   [])
                                                            (.test (saF   { k := a.k, nm := a.nm, tb := a.tb, cols := dL Int (eL a.cols) a.cols.length, ex := trD (trO a.ex), rf := a.rf, od := a.od,     ou := a.ou, lt := a.lt, vd := a.vd }   { k := b.k, nm := b.nm, tb := b.tb, cols := dL Int (eL b.cols) b.cols.length, ex := trD (trO b.ex), rf := b.rf, od := b.od,     ou := b.ou, lt := b.lt, vd := b.vd })
                                                              (.ob (ObE (trO a.ex)   (trA (trD (trO a.ex))))
                                                                (.ob (ObE (trO b.ex)   (trA (trD (trO b.ex))))
                                                                  (.ob (ObC Tryd.prog 10   [ruA       { k := a.k, nm := a.nm, tb := a.tb, cols := dL Int (eL a.cols) a.cols.length, ex := trD (trO a.ex), rf := a.rf, od := a.od,         ou := a.ou, lt := a.lt, vd := a.vd },     taA { nm := t.nm, cols := dL Cl (eL t.cols) t.cols.length, ow := t.ow },     ruA       { k := b.k, nm := b.nm, tb := b.tb, cols := dL Int (eL b.cols) b.cols.length, ex := trD (trO b.ex), rf := b.rf, od := b.od,         ou := b.ou, lt := b.lt, vd := b.vd },     taA { nm := u.nm, cols := dL Cl (eL u.cols) u.cols.length, ow := u.ow }]   (AV.s     (Value.int IntKind.i64       (fitF         { k := a.k, nm := a.nm, tb := a.tb, cols := dL Int (eL a.cols) a.cols.length, ex := trD (trO a.ex), rf := a.rf,           od := a.od, ou := a.ou, lt := a.lt, vd := a.vd }         { nm := t.nm, cols := dL Cl (eL t.cols) t.cols.length, ow := t.ow }         { k := b.k, nm := b.nm, tb := b.tb, cols := dL Int (eL b.cols) b.cols.length, ex := trD (trO b.ex), rf := b.rf,           od := b.od, ou := b.ou, lt := b.lt, vd := b.vd }         { nm := u.nm, cols := dL Cl (eL u.cols) u.cols.length, ow := u.ow })))   [])
                                                                    (.ob (ObE (trO b.ex)   (trA (trD (trO b.ex))))
                                                                      (.ob (ObE (trO a.ex)   (trA (trD (trO a.ex))))
                                                                        (.ob (ObC Tryd.prog 10   [ruA       { k := b.k, nm := b.nm, tb := b.tb, cols := dL Int (eL b.cols) b.cols.length, ex := trD (trO b.ex), rf := b.rf, od := b.od,         ou := b.ou, lt := b.lt, vd := b.vd },     taA { nm := t.nm, cols := dL Cl (eL t.cols) t.cols.length, ow := t.ow },     ruA       { k := a.k, nm := a.nm, tb := a.tb, cols := dL Int (eL a.cols) a.cols.length, ex := trD (trO a.ex), rf := a.rf, od := a.od,         ou := a.ou, lt := a.lt, vd := a.vd },     taA { nm := u.nm, cols := dL Cl (eL u.cols) u.cols.length, ow := u.ow }]   (AV.s     (Value.int IntKind.i64       (fitF         { k := b.k, nm := b.nm, tb := b.tb, cols := dL Int (eL b.cols) b.cols.length, ex := trD (trO b.ex), rf := b.rf,           od := b.od, ou := b.ou, lt := b.lt, vd := b.vd }         { nm := t.nm, cols := dL Cl (eL t.cols) t.cols.length, ow := t.ow }         { k := a.k, nm := a.nm, tb := a.tb, cols := dL Int (eL a.cols) a.cols.length, ex := trD (trO a.ex), rf := a.rf,           od := a.od, ou := a.ou, lt := a.lt, vd := a.vd }         { nm := u.nm, cols := dL Cl (eL u.cols) u.cols.length, ow := u.ow })))   [])
                                                                          (.test (fitF     { k := a.k, nm := a.nm, tb := a.tb, cols := dL Int (eL a.cols) a.cols.length, ex := trD (trO a.ex), rf := a.rf, od := a.od,       ou := a.ou, lt := a.lt, vd := a.vd }     { nm := t.nm, cols := dL Cl (eL t.cols) t.cols.length, ow := t.ow }     { k := b.k, nm := b.nm, tb := b.tb, cols := dL Int (eL b.cols) b.cols.length, ex := trD (trO b.ex), rf := b.rf, od := b.od,       ou := b.ou, lt := b.lt, vd := b.vd }     { nm := u.nm, cols := dL Cl (eL u.cols) u.cols.length, ow := u.ow } !=   fitF     { k := b.k, nm := b.nm, tb := b.tb, cols := dL Int (eL b.cols) b.cols.length, ex := trD (trO b.ex), rf := b.rf, od := b.od,       ou := b.ou, lt := b.lt, vd := b.vd }     { nm := t.nm, cols := dL Cl (eL t.cols) t.cols.length, ow := t.ow }     { k := a.k, nm := a.nm, tb := a.tb, cols := dL Int (eL a.cols) a.cols.length, ex := trD (trO a.ex), rf := a.rf, od := a.od,       ou := a.ou, lt := a.lt, vd := a.vd }     { nm := u.nm, cols := dL Cl (eL u.cols) u.cols.length, ow := u.ow })
                                                                            (.leaf (.fin ⟨Ex.ret, true, [some (AV.v (Value.bool false))], []⟩))
                                                                            (.ob (ObC Tryd.prog 16 [taA { nm := t.nm, cols := dL Cl (eL t.cols) t.cols.length, ow := t.ow }, taA { nm := u.nm, cols := dL Cl (eL u.cols) u.cols.length, ow := u.ow }] (AV.s (Value.bool (stF { nm := t.nm, cols := dL Cl (eL t.cols) t.cols.length, ow := t.ow } { nm := u.nm, cols := dL Cl (eL u.cols) u.cols.length, ow := u.ow }))) [])
                                                                              (.test (stF { nm := t.nm, cols := dL Cl (eL t.cols) t.cols.length, ow := t.ow } { nm := u.nm, cols := dL Cl (eL u.cols) u.cols.length, ow := u.ow })
                                                                                (.ob (ObE (trO a.ex)   (trA (trD (trO a.ex))))
                                                                                  (.ob (ObE (trO b.ex)   (trA (trD (trO b.ex))))
                                                                                    (.ob (ObC Tryd.prog 10   [ruA       { k := a.k, nm := a.nm, tb := a.tb, cols := dL Int (eL a.cols) a.cols.length, ex := trD (trO a.ex), rf := a.rf, od := a.od,         ou := a.ou, lt := a.lt, vd := a.vd },     taA { nm := t.nm, cols := dL Cl (eL t.cols) t.cols.length, ow := t.ow },     ruA       { k := b.k, nm := b.nm, tb := b.tb, cols := dL Int (eL b.cols) b.cols.length, ex := trD (trO b.ex), rf := b.rf, od := b.od,         ou := b.ou, lt := b.lt, vd := b.vd },     taA { nm := u.nm, cols := dL Cl (eL u.cols) u.cols.length, ow := u.ow }]   (AV.s     (Value.int IntKind.i64       (fitF         { k := a.k, nm := a.nm, tb := a.tb, cols := dL Int (eL a.cols) a.cols.length, ex := trD (trO a.ex), rf := a.rf,           od := a.od, ou := a.ou, lt := a.lt, vd := a.vd }         { nm := t.nm, cols := dL Cl (eL t.cols) t.cols.length, ow := t.ow }         { k := b.k, nm := b.nm, tb := b.tb, cols := dL Int (eL b.cols) b.cols.length, ex := trD (trO b.ex), rf := b.rf,           od := b.od, ou := b.ou, lt := b.lt, vd := b.vd }         { nm := u.nm, cols := dL Cl (eL u.cols) u.cols.length, ow := u.ow })))   [])
                                                                                      (.ob (ObE (trO a.ex)   (trA (trD (trO a.ex))))
                                                                                        (.ob (ObE (trO b.ex)   (trA (trD (trO b.ex))))
                                                                                          (.ob (ObC Tryd.prog 10   [ruA       { k := a.k, nm := a.nm, tb := a.tb, cols := dL Int (eL a.cols) a.cols.length, ex := trD (trO a.ex), rf := a.rf, od := a.od,         ou := a.ou, lt := a.lt, vd := a.vd },     taA { nm := u.nm, cols := dL Cl (eL u.cols) u.cols.length, ow := u.ow },     ruA       { k := b.k, nm := b.nm, tb := b.tb, cols := dL Int (eL b.cols) b.cols.length, ex := trD (trO b.ex), rf := b.rf, od := b.od,         ou := b.ou, lt := b.lt, vd := b.vd },     taA { nm := t.nm, cols := dL Cl (eL t.cols) t.cols.length, ow := t.ow }]   (AV.s     (Value.int IntKind.i64       (fitF         { k := a.k, nm := a.nm, tb := a.tb, cols := dL Int (eL a.cols) a.cols.length, ex := trD (trO a.ex), rf := a.rf,           od := a.od, ou := a.ou, lt := a.lt, vd := a.vd }         { nm := u.nm, cols := dL Cl (eL u.cols) u.cols.length, ow := u.ow }         { k := b.k, nm := b.nm, tb := b.tb, cols := dL Int (eL b.cols) b.cols.length, ex := trD (trO b.ex), rf := b.rf,           od := b.od, ou := b.ou, lt := b.lt, vd := b.vd }         { nm := t.nm, cols := dL Cl (eL t.cols) t.cols.length, ow := t.ow })))   [])
                                                                                            (.test (fitF     { k := a.k, nm := a.nm, tb := a.tb, cols := dL Int (eL a.cols) a.cols.length, ex := trD (trO a.ex), rf := a.rf, od := a.od,       ou := a.ou, lt := a.lt, vd := a.vd }     { nm := t.nm, cols := dL Cl (eL t.cols) t.cols.length, ow := t.ow }     { k := b.k, nm := b.nm, tb := b.tb, cols := dL Int (eL b.cols) b.cols.length, ex := trD (trO b.ex), rf := b.rf, od := b.od,       ou := b.ou, lt := b.lt, vd := b.vd }     { nm := u.nm, cols := dL Cl (eL u.cols) u.cols.length, ow := u.ow } !=   fitF     { k := a.k, nm := a.nm, tb := a.tb, cols := dL Int (eL a.cols) a.cols.length, ex := trD (trO a.ex), rf := a.rf, od := a.od,       ou := a.ou, lt := a.lt, vd := a.vd }     { nm := u.nm, cols := dL Cl (eL u.cols) u.cols.length, ow := u.ow }     { k := b.k, nm := b.nm, tb := b.tb, cols := dL Int (eL b.cols) b.cols.length, ex := trD (trO b.ex), rf := b.rf, od := b.od,       ou := b.ou, lt := b.lt, vd := b.vd }     { nm := t.nm, cols := dL Cl (eL t.cols) t.cols.length, ow := t.ow })
                                                                                              (.leaf (.fin ⟨Ex.ret, true, [some (AV.v (Value.bool false))], []⟩))
                                                                                              (.ob (ObC Tryd.prog 9 [taA { nm := t.nm, cols := dL Cl (eL t.cols) t.cols.length, ow := t.ow }] (AV.s (Value.bool (mtF { nm := t.nm, cols := dL Cl (eL t.cols) t.cols.length, ow := t.ow }))) [])
                                                                                                (.ob (ObC Tryd.prog 9 [taA { nm := u.nm, cols := dL Cl (eL u.cols) u.cols.length, ow := u.ow }] (AV.s (Value.bool (mtF { nm := u.nm, cols := dL Cl (eL u.cols) u.cols.length, ow := u.ow }))) [])
                                                                                                  (.test (!mtF { nm := t.nm, cols := dL Cl (eL t.cols) t.cols.length, ow := t.ow } == mtF { nm := u.nm, cols := dL Cl (eL u.cols) u.cols.length, ow := u.ow })
                                                                                                    (.leaf (.fin ⟨Ex.ret, true, [some (AV.v (Value.bool false))], []⟩))
                                                                                                    (.test (decide ((↑a.nm.size : Int) + (↑(⟨#[120]⟩ : ByteArray).size : Int) ≤ 9223372036854775807))
                                                                                                      (.test (decide ((↑t.nm.size : Int) + (↑(⟨#[120]⟩ : ByteArray).size : Int) ≤ 9223372036854775807))
                                                                                                        (.ob (ObE (trO a.ex)   (trA (trD (trO a.ex))))
                                                                                                          (.ob (ObE (trO a.ex)   (trA (trD (trO a.ex))))
                                                                                                            (.ob (ObC Tryd.prog 15   [ruA       { k := a.k, nm := a.nm, tb := a.tb, cols := dL Int (eL a.cols) a.cols.length, ex := trD (trO a.ex), rf := a.rf, od := a.od,         ou := a.ou, lt := a.lt, vd := a.vd },     ruA       { k := a.k, nm := a.nm ++ (⟨#[120]⟩ : ByteArray), tb := a.tb, cols := dL Int (eL a.cols) a.cols.length, ex := trD (trO a.ex),         rf := a.rf, od := a.od, ou := a.ou, lt := a.lt, vd := a.vd }]   (AV.s     (Value.bool       (saF         { k := a.k, nm := a.nm, tb := a.tb, cols := dL Int (eL a.cols) a.cols.length, ex := trD (trO a.ex), rf := a.rf,           od := a.od, ou := a.ou, lt := a.lt, vd := a.vd }         { k := a.k, nm := a.nm ++ (⟨#[120]⟩ : ByteArray), tb := a.tb, cols := dL Int (eL a.cols) a.cols.length, ex := trD (trO a.ex),           rf := a.rf, od := a.od, ou := a.ou, lt := a.lt, vd := a.vd })))   [])
                                                                                                              (.test (!saF     { k := a.k, nm := a.nm, tb := a.tb, cols := dL Int (eL a.cols) a.cols.length, ex := trD (trO a.ex), rf := a.rf, od := a.od,       ou := a.ou, lt := a.lt, vd := a.vd }     { k := a.k, nm := a.nm ++ (⟨#[120]⟩ : ByteArray), tb := a.tb, cols := dL Int (eL a.cols) a.cols.length, ex := trD (trO a.ex),       rf := a.rf, od := a.od, ou := a.ou, lt := a.lt, vd := a.vd })
                                                                                                                (.ob (ObC Tryd.prog 16 [taA { nm := t.nm, cols := dL Cl (eL t.cols) t.cols.length, ow := t.ow }, taA { nm := t.nm ++ (⟨#[120]⟩ : ByteArray), cols := dL Cl (eL t.cols) t.cols.length, ow := t.ow }] (AV.s (Value.bool (stF { nm := t.nm, cols := dL Cl (eL t.cols) t.cols.length, ow := t.ow } { nm := t.nm ++ (⟨#[120]⟩ : ByteArray), cols := dL Cl (eL t.cols) t.cols.length, ow := t.ow }))) [])
                                                                                                                  (.leaf (.fin ⟨Ex.ret, true, [some (AV.s (Value.bool !stF { nm := t.nm, cols := dL Cl (eL t.cols) t.cols.length, ow := t.ow } { nm := t.nm ++ (⟨#[120]⟩ : ByteArray), cols := dL Cl (eL t.cols) t.cols.length, ow := t.ow }))], []⟩))
                                                                                                                )
                                                                                                                (.leaf (.fin ⟨Ex.ret, true, [some (AV.v (Value.bool false))], []⟩))
                                                                                                              )
                                                                                                            )
                                                                                                          )
                                                                                                        )
                                                                                                        .no
                                                                                                      )
                                                                                                      .no
                                                                                                    )
                                                                                                  )
                                                                                                )
                                                                                              )
                                                                                            )
                                                                                          )
                                                                                        )
                                                                                      )
                                                                                    )
                                                                                  )
                                                                                )
                                                                                (.test (decide ((↑a.nm.size : Int) + (↑(⟨#[120]⟩ : ByteArray).size : Int) ≤ 9223372036854775807))
                                                                                  (.test (decide ((↑t.nm.size : Int) + (↑(⟨#[120]⟩ : ByteArray).size : Int) ≤ 9223372036854775807))
                                                                                    (.ob (ObE (trO a.ex)   (trA (trD (trO a.ex))))
                                                                                      (.ob (ObE (trO a.ex)   (trA (trD (trO a.ex))))
                                                                                        (.ob (ObC Tryd.prog 15   [ruA       { k := a.k, nm := a.nm, tb := a.tb, cols := dL Int (eL a.cols) a.cols.length, ex := trD (trO a.ex), rf := a.rf, od := a.od,         ou := a.ou, lt := a.lt, vd := a.vd },     ruA       { k := a.k, nm := a.nm ++ (⟨#[120]⟩ : ByteArray), tb := a.tb, cols := dL Int (eL a.cols) a.cols.length, ex := trD (trO a.ex),         rf := a.rf, od := a.od, ou := a.ou, lt := a.lt, vd := a.vd }]   (AV.s     (Value.bool       (saF         { k := a.k, nm := a.nm, tb := a.tb, cols := dL Int (eL a.cols) a.cols.length, ex := trD (trO a.ex), rf := a.rf,           od := a.od, ou := a.ou, lt := a.lt, vd := a.vd }         { k := a.k, nm := a.nm ++ (⟨#[120]⟩ : ByteArray), tb := a.tb, cols := dL Int (eL a.cols) a.cols.length, ex := trD (trO a.ex),           rf := a.rf, od := a.od, ou := a.ou, lt := a.lt, vd := a.vd })))   [])
                                                                                          (.test (!saF     { k := a.k, nm := a.nm, tb := a.tb, cols := dL Int (eL a.cols) a.cols.length, ex := trD (trO a.ex), rf := a.rf, od := a.od,       ou := a.ou, lt := a.lt, vd := a.vd }     { k := a.k, nm := a.nm ++ (⟨#[120]⟩ : ByteArray), tb := a.tb, cols := dL Int (eL a.cols) a.cols.length, ex := trD (trO a.ex),       rf := a.rf, od := a.od, ou := a.ou, lt := a.lt, vd := a.vd })
                                                                                            (.ob (ObC Tryd.prog 16 [taA { nm := t.nm, cols := dL Cl (eL t.cols) t.cols.length, ow := t.ow }, taA { nm := t.nm ++ (⟨#[120]⟩ : ByteArray), cols := dL Cl (eL t.cols) t.cols.length, ow := t.ow }] (AV.s (Value.bool (stF { nm := t.nm, cols := dL Cl (eL t.cols) t.cols.length, ow := t.ow } { nm := t.nm ++ (⟨#[120]⟩ : ByteArray), cols := dL Cl (eL t.cols) t.cols.length, ow := t.ow }))) [])
                                                                                              (.leaf (.fin ⟨Ex.ret, true, [some (AV.s (Value.bool !stF { nm := t.nm, cols := dL Cl (eL t.cols) t.cols.length, ow := t.ow } { nm := t.nm ++ (⟨#[120]⟩ : ByteArray), cols := dL Cl (eL t.cols) t.cols.length, ow := t.ow }))], []⟩))
                                                                                            )
                                                                                            (.leaf (.fin ⟨Ex.ret, true, [some (AV.v (Value.bool false))], []⟩))
                                                                                          )
                                                                                        )
                                                                                      )
                                                                                    )
                                                                                    .no
                                                                                  )
                                                                                  .no
                                                                                )
                                                                              )
                                                                            )
                                                                          )
                                                                        )
                                                                      )
                                                                    )
                                                                  )
                                                                )
                                                              )
                                                              (.ob (ObC Tryd.prog 16 [taA { nm := t.nm, cols := dL Cl (eL t.cols) t.cols.length, ow := t.ow }, taA { nm := u.nm, cols := dL Cl (eL u.cols) u.cols.length, ow := u.ow }] (AV.s (Value.bool (stF { nm := t.nm, cols := dL Cl (eL t.cols) t.cols.length, ow := t.ow } { nm := u.nm, cols := dL Cl (eL u.cols) u.cols.length, ow := u.ow }))) [])
                                                                (.test (stF { nm := t.nm, cols := dL Cl (eL t.cols) t.cols.length, ow := t.ow } { nm := u.nm, cols := dL Cl (eL u.cols) u.cols.length, ow := u.ow })
                                                                  (.ob (ObE (trO a.ex)   (trA (trD (trO a.ex))))
                                                                    (.ob (ObE (trO b.ex)   (trA (trD (trO b.ex))))
                                                                      (.ob (ObC Tryd.prog 10   [ruA       { k := a.k, nm := a.nm, tb := a.tb, cols := dL Int (eL a.cols) a.cols.length, ex := trD (trO a.ex), rf := a.rf, od := a.od,         ou := a.ou, lt := a.lt, vd := a.vd },     taA { nm := t.nm, cols := dL Cl (eL t.cols) t.cols.length, ow := t.ow },     ruA       { k := b.k, nm := b.nm, tb := b.tb, cols := dL Int (eL b.cols) b.cols.length, ex := trD (trO b.ex), rf := b.rf, od := b.od,         ou := b.ou, lt := b.lt, vd := b.vd },     taA { nm := u.nm, cols := dL Cl (eL u.cols) u.cols.length, ow := u.ow }]   (AV.s     (Value.int IntKind.i64       (fitF         { k := a.k, nm := a.nm, tb := a.tb, cols := dL Int (eL a.cols) a.cols.length, ex := trD (trO a.ex), rf := a.rf,           od := a.od, ou := a.ou, lt := a.lt, vd := a.vd }         { nm := t.nm, cols := dL Cl (eL t.cols) t.cols.length, ow := t.ow }         { k := b.k, nm := b.nm, tb := b.tb, cols := dL Int (eL b.cols) b.cols.length, ex := trD (trO b.ex), rf := b.rf,           od := b.od, ou := b.ou, lt := b.lt, vd := b.vd }         { nm := u.nm, cols := dL Cl (eL u.cols) u.cols.length, ow := u.ow })))   [])
                                                                        (.ob (ObE (trO a.ex)   (trA (trD (trO a.ex))))
                                                                          (.ob (ObE (trO b.ex)   (trA (trD (trO b.ex))))
                                                                            (.ob (ObC Tryd.prog 10   [ruA       { k := a.k, nm := a.nm, tb := a.tb, cols := dL Int (eL a.cols) a.cols.length, ex := trD (trO a.ex), rf := a.rf, od := a.od,         ou := a.ou, lt := a.lt, vd := a.vd },     taA { nm := u.nm, cols := dL Cl (eL u.cols) u.cols.length, ow := u.ow },     ruA       { k := b.k, nm := b.nm, tb := b.tb, cols := dL Int (eL b.cols) b.cols.length, ex := trD (trO b.ex), rf := b.rf, od := b.od,         ou := b.ou, lt := b.lt, vd := b.vd },     taA { nm := t.nm, cols := dL Cl (eL t.cols) t.cols.length, ow := t.ow }]   (AV.s     (Value.int IntKind.i64       (fitF         { k := a.k, nm := a.nm, tb := a.tb, cols := dL Int (eL a.cols) a.cols.length, ex := trD (trO a.ex), rf := a.rf,           od := a.od, ou := a.ou, lt := a.lt, vd := a.vd }         { nm := u.nm, cols := dL Cl (eL u.cols) u.cols.length, ow := u.ow }         { k := b.k, nm := b.nm, tb := b.tb, cols := dL Int (eL b.cols) b.cols.length, ex := trD (trO b.ex), rf := b.rf,           od := b.od, ou := b.ou, lt := b.lt, vd := b.vd }         { nm := t.nm, cols := dL Cl (eL t.cols) t.cols.length, ow := t.ow })))   [])
                                                                              (.test (fitF     { k := a.k, nm := a.nm, tb := a.tb, cols := dL Int (eL a.cols) a.cols.length, ex := trD (trO a.ex), rf := a.rf, od := a.od,       ou := a.ou, lt := a.lt, vd := a.vd }     { nm := t.nm, cols := dL Cl (eL t.cols) t.cols.length, ow := t.ow }     { k := b.k, nm := b.nm, tb := b.tb, cols := dL Int (eL b.cols) b.cols.length, ex := trD (trO b.ex), rf := b.rf, od := b.od,       ou := b.ou, lt := b.lt, vd := b.vd }     { nm := u.nm, cols := dL Cl (eL u.cols) u.cols.length, ow := u.ow } !=   fitF     { k := a.k, nm := a.nm, tb := a.tb, cols := dL Int (eL a.cols) a.cols.length, ex := trD (trO a.ex), rf := a.rf, od := a.od,       ou := a.ou, lt := a.lt, vd := a.vd }     { nm := u.nm, cols := dL Cl (eL u.cols) u.cols.length, ow := u.ow }     { k := b.k, nm := b.nm, tb := b.tb, cols := dL Int (eL b.cols) b.cols.length, ex := trD (trO b.ex), rf := b.rf, od := b.od,       ou := b.ou, lt := b.lt, vd := b.vd }     { nm := t.nm, cols := dL Cl (eL t.cols) t.cols.length, ow := t.ow })
                                                                                (.leaf (.fin ⟨Ex.ret, true, [some (AV.v (Value.bool false))], []⟩))
                                                                                (.ob (ObC Tryd.prog 9 [taA { nm := t.nm, cols := dL Cl (eL t.cols) t.cols.length, ow := t.ow }] (AV.s (Value.bool (mtF { nm := t.nm, cols := dL Cl (eL t.cols) t.cols.length, ow := t.ow }))) [])
                                                                                  (.ob (ObC Tryd.prog 9 [taA { nm := u.nm, cols := dL Cl (eL u.cols) u.cols.length, ow := u.ow }] (AV.s (Value.bool (mtF { nm := u.nm, cols := dL Cl (eL u.cols) u.cols.length, ow := u.ow }))) [])
                                                                                    (.test (!mtF { nm := t.nm, cols := dL Cl (eL t.cols) t.cols.length, ow := t.ow } == mtF { nm := u.nm, cols := dL Cl (eL u.cols) u.cols.length, ow := u.ow })
                                                                                      (.leaf (.fin ⟨Ex.ret, true, [some (AV.v (Value.bool false))], []⟩))
                                                                                      (.test (decide ((↑a.nm.size : Int) + (↑(⟨#[120]⟩ : ByteArray).size : Int) ≤ 9223372036854775807))
                                                                                        (.test (decide ((↑t.nm.size : Int) + (↑(⟨#[120]⟩ : ByteArray).size : Int) ≤ 9223372036854775807))
                                                                                          (.ob (ObE (trO a.ex)   (trA (trD (trO a.ex))))
                                                                                            (.ob (ObE (trO a.ex)   (trA (trD (trO a.ex))))
                                                                                              (.ob (ObC Tryd.prog 15   [ruA       { k := a.k, nm := a.nm, tb := a.tb, cols := dL Int (eL a.cols) a.cols.length, ex := trD (trO a.ex), rf := a.rf, od := a.od,         ou := a.ou, lt := a.lt, vd := a.vd },     ruA       { k := a.k, nm := a.nm ++ (⟨#[120]⟩ : ByteArray), tb := a.tb, cols := dL Int (eL a.cols) a.cols.length, ex := trD (trO a.ex),         rf := a.rf, od := a.od, ou := a.ou, lt := a.lt, vd := a.vd }]   (AV.s     (Value.bool       (saF         { k := a.k, nm := a.nm, tb := a.tb, cols := dL Int (eL a.cols) a.cols.length, ex := trD (trO a.ex), rf := a.rf,           od := a.od, ou := a.ou, lt := a.lt, vd := a.vd }         { k := a.k, nm := a.nm ++ (⟨#[120]⟩ : ByteArray), tb := a.tb, cols := dL Int (eL a.cols) a.cols.length, ex := trD (trO a.ex),           rf := a.rf, od := a.od, ou := a.ou, lt := a.lt, vd := a.vd })))   [])
                                                                                                (.test (!saF     { k := a.k, nm := a.nm, tb := a.tb, cols := dL Int (eL a.cols) a.cols.length, ex := trD (trO a.ex), rf := a.rf, od := a.od,       ou := a.ou, lt := a.lt, vd := a.vd }     { k := a.k, nm := a.nm ++ (⟨#[120]⟩ : ByteArray), tb := a.tb, cols := dL Int (eL a.cols) a.cols.length, ex := trD (trO a.ex),       rf := a.rf, od := a.od, ou := a.ou, lt := a.lt, vd := a.vd })
                                                                                                  (.ob (ObC Tryd.prog 16 [taA { nm := t.nm, cols := dL Cl (eL t.cols) t.cols.length, ow := t.ow }, taA { nm := t.nm ++ (⟨#[120]⟩ : ByteArray), cols := dL Cl (eL t.cols) t.cols.length, ow := t.ow }] (AV.s (Value.bool (stF { nm := t.nm, cols := dL Cl (eL t.cols) t.cols.length, ow := t.ow } { nm := t.nm ++ (⟨#[120]⟩ : ByteArray), cols := dL Cl (eL t.cols) t.cols.length, ow := t.ow }))) [])
                                                                                                    (.leaf (.fin ⟨Ex.ret, true, [some (AV.s (Value.bool !stF { nm := t.nm, cols := dL Cl (eL t.cols) t.cols.length, ow := t.ow } { nm := t.nm ++ (⟨#[120]⟩ : ByteArray), cols := dL Cl (eL t.cols) t.cols.length, ow := t.ow }))], []⟩))
                                                                                                  )
                                                                                                  (.leaf (.fin ⟨Ex.ret, true, [some (AV.v (Value.bool false))], []⟩))
                                                                                                )
                                                                                              )
                                                                                            )
                                                                                          )
                                                                                          .no
                                                                                        )
                                                                                        .no
                                                                                      )
                                                                                    )
                                                                                  )
                                                                                )
                                                                              )
                                                                            )
                                                                          )
                                                                        )
                                                                      )
                                                                    )
                                                                  )
                                                                  (.test (decide ((↑a.nm.size : Int) + (↑(⟨#[120]⟩ : ByteArray).size : Int) ≤ 9223372036854775807))
                                                                    (.test (decide ((↑t.nm.size : Int) + (↑(⟨#[120]⟩ : ByteArray).size : Int) ≤ 9223372036854775807))
                                                                      (.ob (ObE (trO a.ex)   (trA (trD (trO a.ex))))
                                                                        (.ob (ObE (trO a.ex)   (trA (trD (trO a.ex))))
                                                                          (.ob (ObC Tryd.prog 15   [ruA       { k := a.k, nm := a.nm, tb := a.tb, cols := dL Int (eL a.cols) a.cols.length, ex := trD (trO a.ex), rf := a.rf, od := a.od,         ou := a.ou, lt := a.lt, vd := a.vd },     ruA       { k := a.k, nm := a.nm ++ (⟨#[120]⟩ : ByteArray), tb := a.tb, cols := dL Int (eL a.cols) a.cols.length, ex := trD (trO a.ex),         rf := a.rf, od := a.od, ou := a.ou, lt := a.lt, vd := a.vd }]   (AV.s     (Value.bool       (saF         { k := a.k, nm := a.nm, tb := a.tb, cols := dL Int (eL a.cols) a.cols.length, ex := trD (trO a.ex), rf := a.rf,           od := a.od, ou := a.ou, lt := a.lt, vd := a.vd }         { k := a.k, nm := a.nm ++ (⟨#[120]⟩ : ByteArray), tb := a.tb, cols := dL Int (eL a.cols) a.cols.length, ex := trD (trO a.ex),           rf := a.rf, od := a.od, ou := a.ou, lt := a.lt, vd := a.vd })))   [])
                                                                            (.test (!saF     { k := a.k, nm := a.nm, tb := a.tb, cols := dL Int (eL a.cols) a.cols.length, ex := trD (trO a.ex), rf := a.rf, od := a.od,       ou := a.ou, lt := a.lt, vd := a.vd }     { k := a.k, nm := a.nm ++ (⟨#[120]⟩ : ByteArray), tb := a.tb, cols := dL Int (eL a.cols) a.cols.length, ex := trD (trO a.ex),       rf := a.rf, od := a.od, ou := a.ou, lt := a.lt, vd := a.vd })
                                                                              (.ob (ObC Tryd.prog 16 [taA { nm := t.nm, cols := dL Cl (eL t.cols) t.cols.length, ow := t.ow }, taA { nm := t.nm ++ (⟨#[120]⟩ : ByteArray), cols := dL Cl (eL t.cols) t.cols.length, ow := t.ow }] (AV.s (Value.bool (stF { nm := t.nm, cols := dL Cl (eL t.cols) t.cols.length, ow := t.ow } { nm := t.nm ++ (⟨#[120]⟩ : ByteArray), cols := dL Cl (eL t.cols) t.cols.length, ow := t.ow }))) [])
                                                                                (.leaf (.fin ⟨Ex.ret, true, [some (AV.s (Value.bool !stF { nm := t.nm, cols := dL Cl (eL t.cols) t.cols.length, ow := t.ow } { nm := t.nm ++ (⟨#[120]⟩ : ByteArray), cols := dL Cl (eL t.cols) t.cols.length, ow := t.ow }))], []⟩))
                                                                              )
                                                                              (.leaf (.fin ⟨Ex.ret, true, [some (AV.v (Value.bool false))], []⟩))
                                                                            )
                                                                          )
                                                                        )
                                                                      )
                                                                      .no
                                                                    )
                                                                    .no
                                                                  )
                                                                )
                                                              )
                                                            )
                                                          )
                                                        )
                                                      )
                                                    )
                                                  )
                                                )
                                              )
                                            )
                                          )
                                        )
                                      )
                                    )
                                  )
                                )
                              )
                            )
                          )
                        )
                      )
                    )
                  )
                )
              )
            )
          )
        )
      )
    )
  )
)
theorem rsa_h (a b : Ru) (t u : Ta) : (ev Tryd.prog rsaX awakeS 3000 noL 3000 .normal [.c 0 (codeOf Tryd.prog 6)] (params (rsa_a a b t u)) Ev.start).map (lookP Tryd.prog (resOf Tryd.prog 6) [] rsa_cf) = rsa_t Tryd.prog a b t u := by kernel_rfl

theorem ru_eta (r : Ru) : (⟨r.k, r.nm, r.tb, r.cols, r.ex, r.rf, r.od, r.ou, r.lt, r.vd⟩ : Ru) = r := rfl
theorem ta_eta (t : Ta) : (⟨t.nm, t.cols, t.ow⟩ : Ta) = t := rfl
open Classical in
theorem saF_iff {a b : Ru} : saF a b = true ↔ a = b := by unfold saF; exact decide_eq_true_iff
open Classical in
theorem stF_iff {a b : Ta} : stF a b = true ↔ a = b := by unfold stF; exact decide_eq_true_iff
theorem loF_nm {r : Ru} (h : loF r = false) : r.nm.size ≤ 200 := by
  unfold loF at h
  simp only [Bool.or_eq_false_iff, decide_eq_false_iff_not] at h
  omega
theorem wiF_nm {t : Ta} (h : wiF t = false) : t.nm.size ≤ 200 := by
  unfold wiF at h
  rw [decide_eq_false_iff_not] at h
  apply Classical.byContradiction
  exact fun c => h (.inr (.inl (by omega)))
theorem ba_app1 (s : ByteArray) : s ≠ s ++ (⟨#[120]⟩ : ByteArray) := fun h => by
  have := congrArg ByteArray.size h
  rw [ByteArray.size_append] at this
  have e : (⟨#[120]⟩ : ByteArray).size = 1 := rfl
  omega
theorem rsa_ok (a b : Ru) (t u : Ta) : OCalls Tryd.prog 6 [ruA a, ruA b, taA t, taA u] (.s (.bool true)) [] := by
  have yev : ∀ x, x = true → Goes ⟨.ret, true, [some (.v (.bool x))], []⟩ [.s (.bool true)] [] := fun x hx => ⟨rfl, (.cons _ _ _ _ (leBv hx.symm) .nil), .nil⟩
  have yes : ∀ x, x = true → Goes ⟨.ret, true, [some (.s (.bool x))], []⟩ [.s (.bool true)] [] := fun x hx => ⟨rfl, (.cons _ _ _ _ (leBs hx.symm) .nil), .nil⟩
  refine OCalls.le (args := rsa_a a b t u) ?_ (.cons _ _ _ _ (ruO_le a) (.cons _ _ _ _ (ruO_le b) (Les.refl _)))
  refine floyd0 ev_mix ev_ok rsaX_ok awakeS_ok (by kernel_rfl) [] rsa_cf (rsa_t _ a b t u) (rsa_h a b t u) ?_
  unfold rsa_t
  simp only [trD_B, dL_eL, ru_eta, ta_eta]
  have e1 : saF a a = true := saF_iff.2 rfl
  have e2 : stF t t = true := stF_iff.2 rfl
  have e3 : saF b a = saF a b := Bool.eq_iff_iff.2 (saF_iff.trans (eq_comm.trans saF_iff.symm))
  have e4 : stF u t = stF t u := Bool.eq_iff_iff.2 (stF_iff.trans (eq_comm.trans stF_iff.symm))
  have e5 : saF a b = true → fitF b t a u = fitF a t b u := fun h => by rw [saF_iff.1 h]
  have e6 : stF t u = true → fitF a u b t = fitF a t b u ∧ mtF u = mtF t := fun h => by rw [stF_iff.1 h]; exact ⟨rfl, rfl⟩
  have e8 : saF a ⟨a.k, a.nm ++ (⟨#[120]⟩ : ByteArray), a.tb, a.cols, a.ex, a.rf, a.od, a.ou, a.lt, a.vd⟩ = false := by
    cases h : saF a ⟨a.k, a.nm ++ (⟨#[120]⟩ : ByteArray), a.tb, a.cols, a.ex, a.rf, a.od, a.ou, a.lt, a.vd⟩ with
    | false => rfl
    | true => exact absurd (congrArg Ru.nm (saF_iff.1 h)) (ba_app1 a.nm)
  have e9 : stF t ⟨t.nm ++ (⟨#[120]⟩ : ByteArray), t.cols, t.ow⟩ = false := by
    cases h : stF t ⟨t.nm ++ (⟨#[120]⟩ : ByteArray), t.cols, t.ow⟩ with
    | false => rfl
    | true => exact absurd (congrArg Ta.nm (stF_iff.1 h)) (ba_app1 t.nm)
  have s1 : loF a = false → decide ((a.nm.size : Int) + ((⟨#[120]⟩ : ByteArray).size : Int) ≤ 9223372036854775807) = true := fun h => by
    have := loF_nm h
    have e : (⟨#[120]⟩ : ByteArray).size = 1 := rfl
    exact decide_eq_true (by omega)
  have s2 : wiF t = false → decide ((t.nm.size : Int) + ((⟨#[120]⟩ : ByteArray).size : Int) ≤ 9223372036854775807) = true := fun h => by
    have := wiF_nm h
    have e : (⟨#[120]⟩ : ByteArray).size = 1 := rfl
    exact decide_eq_true (by omega)
  generalize decide ((a.nm.size : Int) + ((⟨#[120]⟩ : ByteArray).size : Int) ≤ 9223372036854775807) = d1 at s1 ⊢
  generalize decide ((t.nm.size : Int) + ((⟨#[120]⟩ : ByteArray).size : Int) ≤ 9223372036854775807) = d2 at s2 ⊢
  repeat' first
    | refine hO ⟨wi_ok _⟩ ?_
    | refine hO ⟨lo_ok _⟩ ?_
    | refine hO ⟨sa_ok _ _⟩ ?_
    | refine hO ⟨st_ok _ _⟩ ?_
    | refine hO ⟨fi_ok _ _ _ _⟩ ?_
    | refine hO ⟨mt_ok _⟩ ?_
    | refine hOB ?_
    | refine hS (fun _ => ?_) fun _ => ?_
  all_goals first
    | exact yes _ rfl
    | refine yev _ ?_
    | refine yes _ ?_
    | exfalso
  all_goals clear yev yes
  all_goals simp_all
end Go.Proofs.YtengccmjlaejfaaDoor
