/- The statement RuleSame, walked. No condition. -/
import Derived.Test.YtengccmjlaejfaaDoorMg25
import Derived.Test.YtengccmjlaejfaaDoorRuA
section
namespace Go.Proofs.YtengccmjlaejfaaDoor
open Ev Go.RowKit
set_option maxRecDepth 100000
set_option linter.unusedVariables false
noncomputable def aRq : AK Ru where
  dec := aRu.dec
  can := ruA
  pre := aRu.pre
  ok := aRu.ok
def aTq : AK Ta where
  dec := aTa.dec
  can := taA
  pre := aTa.pre
  ok := aTa.ok
noncomputable def wiX : SumBr := obX Tryd.prog 12 (AKs.cons aTq AKs.nil) fun z => .leaf (.s (.bool (wiF z.1)), [])
noncomputable def loX : SumBr := obX Tryd.prog 13 (AKs.cons aRq AKs.nil) fun z => .leaf (.s (.bool (loF z.1)), [])
noncomputable def fitX : SumBr := obX Tryd.prog 10 (AKs.cons aRq (AKs.cons aTq (AKs.cons aRq (AKs.cons aTq AKs.nil)))) fun z => .leaf (.s (.int .i64 (fitF z.1 z.2.1 z.2.2.1 z.2.2.2.1)), [])
noncomputable def smrX : SumBr := obX Tryd.prog 15 (AKs.cons aRq (AKs.cons aRq AKs.nil)) fun z => .leaf (.s (.bool (saF z.1 z.2.1)), [])
noncomputable def smtX : SumBr := obX Tryd.prog 16 (AKs.cons aTq (AKs.cons aTq AKs.nil)) fun z => .leaf (.s (.bool (stF z.1 z.2.1)), [])
noncomputable def mtaX : SumBr := obX Tryd.prog 9 (AKs.cons aTq AKs.nil) fun z => .leaf (.s (.bool (mtF z.1)), [])
noncomputable def baX : SumBr := orX wiX (orX loX (orX fitX mtaX))
noncomputable def rsaX : SumBr := orX baX (orX smrX smtX)
theorem baX_ok : SumGO Tryd.prog (sumS baX) := orX_open (obX_ok (by kernel_rfl)) (orX_open (obX_ok (by kernel_rfl)) (orX_open (obX_ok (by kernel_rfl)) (obX_ok (by kernel_rfl))))
theorem rsaX_ok : SumGO Tryd.prog (sumS rsaX) := orX_open baX_ok (orX_open (obX_ok (by kernel_rfl)) (obX_ok (by kernel_rfl)))
def rsa_cf : Nat → Cfg := cfL []
def rsa_a (a b : Ru) (t u : Ta) : List AV := [ruO a, ruO b, taA t, taA u]
noncomputable def rsa_t (P : Program) (a b : Ru) (t u : Ta) : Br PO :=
(.ob (ObC Tryd.prog 12 [taA { nm := t.nm, cols := dL Cl (eL t.cols) t.cols.length, ow := t.ow }] (AV.s (Value.bool (wiF { nm := t.nm, cols := dL Cl (eL t.cols) t.cols.length, ow := t.ow }))) [])
  (.test (wiF { nm := t.nm, cols := dL Cl (eL t.cols) t.cols.length, ow := t.ow })
    (.leaf (.fin ⟨Ex.ret, true, [some (AV.s (Value.bool true))], []⟩))
    (.ob (ObC Tryd.prog 12 [taA { nm := u.nm, cols := dL Cl (eL u.cols) u.cols.length, ow := u.ow }] (AV.s (Value.bool (wiF { nm := u.nm, cols := dL Cl (eL u.cols) u.cols.length, ow := u.ow }))) [])
      (.test (wiF { nm := u.nm, cols := dL Cl (eL u.cols) u.cols.length, ow := u.ow })
        (.leaf (.fin ⟨Ex.ret, true, [some (AV.s (Value.bool true))], []⟩))
        (.ob (ObE (trO a.ex)   (trA (trD (trO a.ex))))
          (.ob (ObC Tryd.prog 13   [ruA       { k := a.k, nm := a.nm, tb := a.tb, cols := dL Int (eL a.cols) a.cols.length, ex := trD (trO a.ex), rf := a.rf, od := a.od,         ou := a.ou, lt := a.lt, vd := a.vd }]   (AV.s     (Value.bool       (loF         { k := a.k, nm := a.nm, tb := a.tb, cols := dL Int (eL a.cols) a.cols.length, ex := trD (trO a.ex), rf := a.rf,           od := a.od, ou := a.ou, lt := a.lt, vd := a.vd })))   [])
            (.test (loF   { k := a.k, nm := a.nm, tb := a.tb, cols := dL Int (eL a.cols) a.cols.length, ex := trD (trO a.ex), rf := a.rf, od := a.od,     ou := a.ou, lt := a.lt, vd := a.vd })
              (.leaf (.fin ⟨Ex.ret, true, [some (AV.s (Value.bool true))], []⟩))
              (.ob (ObE (trO b.ex)   (trA (trD (trO b.ex))))
                (.ob (ObC Tryd.prog 13   [ruA       { k := b.k, nm := b.nm, tb := b.tb, cols := dL Int (eL b.cols) b.cols.length, ex := trD (trO b.ex), rf := b.rf, od := b.od,         ou := b.ou, lt := b.lt, vd := b.vd }]   (AV.s     (Value.bool       (loF         { k := b.k, nm := b.nm, tb := b.tb, cols := dL Int (eL b.cols) b.cols.length, ex := trD (trO b.ex), rf := b.rf,           od := b.od, ou := b.ou, lt := b.lt, vd := b.vd })))   [])
                  (.test (loF   { k := b.k, nm := b.nm, tb := b.tb, cols := dL Int (eL b.cols) b.cols.length, ex := trD (trO b.ex), rf := b.rf, od := b.od,     ou := b.ou, lt := b.lt, vd := b.vd })
                    (.leaf (.fin ⟨Ex.ret, true, [some (AV.s (Value.bool true))], []⟩))
                    (.test (false)
                      (.leaf (.fin ⟨Ex.ret, true, [some (AV.s (Value.bool true))], []⟩))
                      (.ob (ObE (trO a.ex)   (trA (trD (trO a.ex))))
                        (.ob (ObE (trO a.ex)   (trA (trD (trO a.ex))))
                          (.ob (ObC Tryd.prog 15   [ruA       { k := a.k, nm := a.nm, tb := a.tb, cols := dL Int (eL a.cols) a.cols.length, ex := trD (trO a.ex), rf := a.rf, od := a.od,         ou := a.ou, lt := a.lt, vd := a.vd },     ruA       { k := a.k, nm := a.nm, tb := a.tb, cols := dL Int (eL a.cols) a.cols.length, ex := trD (trO a.ex), rf := a.rf, od := a.od,         ou := a.ou, lt := a.lt, vd := a.vd }]   (AV.s     (Value.bool       (saF         { k := a.k, nm := a.nm, tb := a.tb, cols := dL Int (eL a.cols) a.cols.length, ex := trD (trO a.ex), rf := a.rf,           od := a.od, ou := a.ou, lt := a.lt, vd := a.vd }         { k := a.k, nm := a.nm, tb := a.tb, cols := dL Int (eL a.cols) a.cols.length, ex := trD (trO a.ex), rf := a.rf,           od := a.od, ou := a.ou, lt := a.lt, vd := a.vd })))   [])
                            (.test (!saF     { k := a.k, nm := a.nm, tb := a.tb, cols := dL Int (eL a.cols) a.cols.length, ex := trD (trO a.ex), rf := a.rf, od := a.od,       ou := a.ou, lt := a.lt, vd := a.vd }     { k := a.k, nm := a.nm, tb := a.tb, cols := dL Int (eL a.cols) a.cols.length, ex := trD (trO a.ex), rf := a.rf, od := a.od,       ou := a.ou, lt := a.lt, vd := a.vd })
                              (.leaf (.fin ⟨Ex.ret, true, [some (AV.v (Value.bool false))], []⟩))
                              (.ob (ObC Tryd.prog 16 [taA { nm := t.nm, cols := dL Cl (eL t.cols) t.cols.length, ow := t.ow }, taA { nm := t.nm, cols := dL Cl (eL t.cols) t.cols.length, ow := t.ow }] (AV.s (Value.bool (stF { nm := t.nm, cols := dL Cl (eL t.cols) t.cols.length, ow := t.ow } { nm := t.nm, cols := dL Cl (eL t.cols) t.cols.length, ow := t.ow }))) [])
                                (.test (!stF { nm := t.nm, cols := dL Cl (eL t.cols) t.cols.length, ow := t.ow } { nm := t.nm, cols := dL Cl (eL t.cols) t.cols.length, ow := t.ow })
                                  (.leaf (.fin ⟨Ex.ret, true, [some (AV.v (Value.bool false))], []⟩))
                                  (.ob (ObE (trO a.ex)   (trA (trD (trO a.ex))))
                                    (.ob (ObE (trO b.ex)   (trA (trD (trO b.ex))))
                                      (.ob (ObC Tryd.prog 15   [ruA       { k := a.k, nm := a.nm, tb := a.tb, cols := dL Int (eL a.cols) a.cols.length, ex := trD (trO a.ex), rf := a.rf, od := a.od,         ou := a.ou, lt := a.lt, vd := a.vd },     ruA       { k := b.k, nm := b.nm, tb := b.tb, cols := dL Int (eL b.cols) b.cols.length, ex := trD (trO b.ex), rf := b.rf, od := b.od,         ou := b.ou, lt := b.lt, vd := b.vd }]   (AV.s     (Value.bool       (saF         { k := a.k, nm := a.nm, tb := a.tb, cols := dL Int (eL a.cols) a.cols.length, ex := trD (trO a.ex), rf := a.rf,           od := a.od, ou := a.ou, lt := a.lt, vd := a.vd }         { k := b.k, nm := b.nm, tb := b.tb, cols := dL Int (eL b.cols) b.cols.length, ex := trD (trO b.ex), rf := b.rf,           od := b.od, ou := b.ou, lt := b.lt, vd := b.vd })))   [])
                                        (.ob (ObE (trO b.ex)   (trA (trD (trO b.ex))))
                                          (.ob (ObE (trO a.ex)   (trA (trD (trO a.ex))))
                                            (.ob (ObC Tryd.prog 15   [ruA       { k := b.k, nm := b.nm, tb := b.tb, cols := dL Int (eL b.cols) b.cols.length, ex := trD (trO b.ex), rf := b.rf, od := b.od,         ou := b.ou, lt := b.lt, vd := b.vd },     ruA       { k := a.k, nm := a.nm, tb := a.tb, cols := dL Int (eL a.cols) a.cols.length, ex := trD (trO a.ex), rf := a.rf, od := a.od,         ou := a.ou, lt := a.lt, vd := a.vd }]   (AV.s     (Value.bool       (saF         { k := b.k, nm := b.nm, tb := b.tb, cols := dL Int (eL b.cols) b.cols.length, ex := trD (trO b.ex), rf := b.rf,           od := b.od, ou := b.ou, lt := b.lt, vd := b.vd }         { k := a.k, nm := a.nm, tb := a.tb, cols := dL Int (eL a.cols) a.cols.length, ex := trD (trO a.ex), rf := a.rf,           od := a.od, ou := a.ou, lt := a.lt, vd := a.vd })))   [])
                                              (.test (!saF       { k := a.k, nm := a.nm, tb := a.tb, cols := dL Int (eL a.cols) a.cols.length, ex := trD (trO a.ex), rf := a.rf, od := a.od,         ou := a.ou, lt := a.lt, vd := a.vd }       { k := b.k, nm := b.nm, tb := b.tb, cols := dL Int (eL b.cols) b.cols.length, ex := trD (trO b.ex), rf := b.rf, od := b.od,         ou := b.ou, lt := b.lt, vd := b.vd } ==     saF       { k := b.k, nm := b.nm, tb := b.tb, cols := dL Int (eL b.cols) b.cols.length, ex := trD (trO b.ex), rf := b.rf, od := b.od,         ou := b.ou, lt := b.lt, vd := b.vd }       { k := a.k, nm := a.nm, tb := a.tb, cols := dL Int (eL a.cols) a.cols.length, ex := trD (trO a.ex), rf := a.rf, od := a.od,         ou := a.ou, lt := a.lt, vd := a.vd })
                                                (.leaf (.fin ⟨Ex.ret, true, [some (AV.v (Value.bool false))], []⟩))
                                                (.ob (ObC Tryd.prog 16 [taA { nm := t.nm, cols := dL Cl (eL t.cols) t.cols.length, ow := t.ow }, taA { nm := u.nm, cols := dL Cl (eL u.cols) u.cols.length, ow := u.ow }] (AV.s (Value.bool (stF { nm := t.nm, cols := dL Cl (eL t.cols) t.cols.length, ow := t.ow } { nm := u.nm, cols := dL Cl (eL u.cols) u.cols.length, ow := u.ow }))) [])
                                                  (.ob (ObC Tryd.prog 16 [taA { nm := u.nm, cols := dL Cl (eL u.cols) u.cols.length, ow := u.ow }, taA { nm := t.nm, cols := dL Cl (eL t.cols) t.cols.length, ow := t.ow }] (AV.s (Value.bool (stF { nm := u.nm, cols := dL Cl (eL u.cols) u.cols.length, ow := u.ow } { nm := t.nm, cols := dL Cl (eL t.cols) t.cols.length, ow := t.ow }))) [])
                                                    (.test (!stF { nm := t.nm, cols := dL Cl (eL t.cols) t.cols.length, ow := t.ow } { nm := u.nm, cols := dL Cl (eL u.cols) u.cols.length, ow := u.ow } == stF { nm := u.nm, cols := dL Cl (eL u.cols) u.cols.length, ow := u.ow } { nm := t.nm, cols := dL Cl (eL t.cols) t.cols.length, ow := t.ow })
                                                      (.leaf (.fin ⟨Ex.ret, true, [some (AV.v (Value.bool false))], []⟩))
                                                      (.ob (ObE (trO a.ex)   (trA (trD (trO a.ex))))
                                                        (.ob (ObE (trO b.ex)   (trA (trD (trO b.ex))))
                                                          (.ob (ObC Tryd.prog 15   [ruA       { k := a.k, nm := a.nm, tb := a.tb, cols := dL Int (eL a.cols) a.cols.length, ex := trD (trO a.ex), rf := a.rf, od := a.od,         ou := a.ou, lt := a.lt, vd := a.vd },     ruA       { k := b.k, nm := b.nm, tb := b.tb, cols := dL Int (eL b.cols) b.cols.length, ex := trD (trO b.ex), rf := b.rf, od := b.od,         ou := b.ou, lt := b.lt, vd := b.vd }]   (AV.s     (Value.bool       (saF         { k := a.k, nm := a.nm, tb := a.tb, cols := dL Int (eL a.cols) a.cols.length, ex := trD (trO a.ex), rf := a.rf,           od := a.od, ou := a.ou, lt := a.lt, vd := a.vd }         { k := b.k, nm := b.nm, tb := b.tb, cols := dL Int (eL b.cols) b.cols.length, ex := trD (trO b.ex), rf := b.rf,           od := b.od, ou := b.ou, lt := b.lt, vd := b.vd })))   [])
                                                            (.test (saF   { k := a.k, nm := a.nm, tb := a.tb, cols := dL Int (eL a.cols) a.cols.length, ex := trD (trO a.ex), rf := a.rf, od := a.od,     ou := a.ou, lt := a.lt, vd := a.vd }   { k := b.k, nm := b.nm, tb := b.tb, cols := dL Int (eL b.cols) b.cols.length, ex := trD (trO b.ex), rf := b.rf, od := b.od,     ou := b.ou, lt := b.lt, vd := b.vd })
                                                              (.ob (ObE (trO a.ex)   (trA (trD (trO a.ex))))
                                                                (.ob (ObE (trO b.ex)   (trA (trD (trO b.ex))))
                                                                  (.ob (ObC Tryd.prog 10   [ruA       { k := a.k, nm := a.nm, tb := a.tb, cols := dL Int (eL a.cols) a.cols.length, ex := trD (trO a.ex), rf := a.rf, od := a.od,         ou := a.ou, lt := a.lt, vd := a.vd },     taA { nm := t.nm, cols := dL Cl (eL t.cols) t.cols.length, ow := t.ow },     ruA       { k := b.k, nm := b.nm, tb := b.tb, cols := dL Int (eL b.cols) b.cols.length, ex := trD (trO b.ex), rf := b.rf, od := b.od,         ou := b.ou, lt := b.lt, vd := b.vd },     taA { nm := u.nm, cols := dL Cl (eL u.cols) u.cols.length, ow := u.ow }]   (AV.s     (Value.int IntKind.i64       (fitF         { k := a.k, nm := a.nm, tb := a.tb, cols := dL Int (eL a.cols) a.cols.length, ex := trD (trO a.ex), rf := a.rf,           od := a.od, ou := a.ou, lt := a.lt, vd := a.vd }         { nm := t.nm, cols := dL Cl (eL t.cols) t.cols.length, ow := t.ow }         { k := b.k, nm := b.nm, tb := b.tb, cols := dL Int (eL b.cols) b.cols.length, ex := trD (trO b.ex), rf := b.rf,           od := b.od, ou := b.ou, lt := b.lt, vd := b.vd }         { nm := u.nm, cols := dL Cl (eL u.cols) u.cols.length, ow := u.ow })))   [])
                                                                    (.ob (ObE (trO b.ex)   (trA (trD (trO b.ex))))
                                                                      (.ob (ObE (trO a.ex)   (trA (trD (trO a.ex))))
                                                                        (.ob (ObC Tryd.prog 10   [ruA       { k := b.k, nm := b.nm, tb := b.tb, cols := dL Int (eL b.cols) b.cols.length, ex := trD (trO b.ex), rf := b.rf, od := b.od,         ou := b.ou, lt := b.lt, vd := b.vd },     taA { nm := t.nm, cols := dL Cl (eL t.cols) t.cols.length, ow := t.ow },     ruA       { k := a.k, nm := a.nm, tb := a.tb, cols := dL Int (eL a.cols) a.cols.length, ex := trD (trO a.ex), rf := a.rf, od := a.od,         ou := a.ou, lt := a.lt, vd := a.vd },     taA { nm := u.nm, cols := dL Cl (eL u.cols) u.cols.length, ow := u.ow }]   (AV.s     (Value.int IntKind.i64       (fitF         { k := b.k, nm := b.nm, tb := b.tb, cols := dL Int (eL b.cols) b.cols.length, ex := trD (trO b.ex), rf := b.rf,           od := b.od, ou := b.ou, lt := b.lt, vd := b.vd }         { nm := t.nm, cols := dL Cl (eL t.cols) t.cols.length, ow := t.ow }         { k := a.k, nm := a.nm, tb := a.tb, cols := dL Int (eL a.cols) a.cols.length, ex := trD (trO a.ex), rf := a.rf,           od := a.od, ou := a.ou, lt := a.lt, vd := a.vd }         { nm := u.nm, cols := dL Cl (eL u.cols) u.cols.length, ow := u.ow })))   [])
                                                                          (.test (fitF     { k := a.k, nm := a.nm, tb := a.tb, cols := dL Int (eL a.cols) a.cols.length, ex := trD (trO a.ex), rf := a.rf, od := a.od,       ou := a.ou, lt := a.lt, vd := a.vd }     { nm := t.nm, cols := dL Cl (eL t.cols) t.cols.length, ow := t.ow }     { k := b.k, nm := b.nm, tb := b.tb, cols := dL Int (eL b.cols) b.cols.length, ex := trD (trO b.ex), rf := b.rf, od := b.od,       ou := b.ou, lt := b.lt, vd := b.vd }     { nm := u.nm, cols := dL Cl (eL u.cols) u.cols.length, ow := u.ow } !=   fitF     { k := b.k, nm := b.nm, tb := b.tb, cols := dL Int (eL b.cols) b.cols.length, ex := trD (trO b.ex), rf := b.rf, od := b.od,       ou := b.ou, lt := b.lt, vd := b.vd }     { nm := t.nm, cols := dL Cl (eL t.cols) t.cols.length, ow := t.ow }     { k := a.k, nm := a.nm, tb := a.tb, cols := dL Int (eL a.cols) a.cols.length, ex := trD (trO a.ex), rf := a.rf, od := a.od,       ou := a.ou, lt := a.lt, vd := a.vd }     { nm := u.nm, cols := dL Cl (eL u.cols) u.cols.length, ow := u.ow })
                                                                            (.leaf (.fin ⟨Ex.ret, true, [some (AV.v (Value.bool false))], []⟩))
                                                                            (.ob (ObC Tryd.prog 16 [taA { nm := t.nm, cols := dL Cl (eL t.cols) t.cols.length, ow := t.ow }, taA { nm := u.nm, cols := dL Cl (eL u.cols) u.cols.length, ow := u.ow }] (AV.s (Value.bool (stF { nm := t.nm, cols := dL Cl (eL t.cols) t.cols.length, ow := t.ow } { nm := u.nm, cols := dL Cl (eL u.cols) u.cols.length, ow := u.ow }))) [])
                                                                              (.test (stF { nm := t.nm, cols := dL Cl (eL t.cols) t.cols.length, ow := t.ow } { nm := u.nm, cols := dL Cl (eL u.cols) u.cols.length, ow := u.ow })
                                                                                (.ob (ObE (trO a.ex)   (trA (trD (trO a.ex))))
                                                                                  (.ob (ObE (trO b.ex)   (trA (trD (trO b.ex))))
                                                                                    (.ob (ObC Tryd.prog 10   [ruA       { k := a.k, nm := a.nm, tb := a.tb, cols := dL Int (eL a.cols) a.cols.length, ex := trD (trO a.ex), rf := a.rf, od := a.od,         ou := a.ou, lt := a.lt, vd := a.vd },     taA { nm := t.nm, cols := dL Cl (eL t.cols) t.cols.length, ow := t.ow },     ruA       { k := b.k, nm := b.nm, tb := b.tb, cols := dL Int (eL b.cols) b.cols.length, ex := trD (trO b.ex), rf := b.rf, od := b.od,         ou := b.ou, lt := b.lt, vd := b.vd },     taA { nm := u.nm, cols := dL Cl (eL u.cols) u.cols.length, ow := u.ow }]   (AV.s     (Value.int IntKind.i64       (fitF         { k := a.k, nm := a.nm, tb := a.tb, cols := dL Int (eL a.cols) a.cols.length, ex := trD (trO a.ex), rf := a.rf,           od := a.od, ou := a.ou, lt := a.lt, vd := a.vd }         { nm := t.nm, cols := dL Cl (eL t.cols) t.cols.length, ow := t.ow }         { k := b.k, nm := b.nm, tb := b.tb, cols := dL Int (eL b.cols) b.cols.length, ex := trD (trO b.ex), rf := b.rf,           od := b.od, ou := b.ou, lt := b.lt, vd := b.vd }         { nm := u.nm, cols := dL Cl (eL u.cols) u.cols.length, ow := u.ow })))   [])
                                                                                      (.ob (ObE (trO a.ex)   (trA (trD (trO a.ex))))
                                                                                        (.ob (ObE (trO b.ex)   (trA (trD (trO b.ex))))
                                                                                          (.ob (ObC Tryd.prog 10   [ruA       { k := a.k, nm := a.nm, tb := a.tb, cols := dL Int (eL a.cols) a.cols.length, ex := trD (trO a.ex), rf := a.rf, od := a.od,         ou := a.ou, lt := a.lt, vd := a.vd },     taA { nm := u.nm, cols := dL Cl (eL u.cols) u.cols.length, ow := u.ow },     ruA       { k := b.k, nm := b.nm, tb := b.tb, cols := dL Int (eL b.cols) b.cols.length, ex := trD (trO b.ex), rf := b.rf, od := b.od,         ou := b.ou, lt := b.lt, vd := b.vd },     taA { nm := t.nm, cols := dL Cl (eL t.cols) t.cols.length, ow := t.ow }]   (AV.s     (Value.int IntKind.i64       (fitF         { k := a.k, nm := a.nm, tb := a.tb, cols := dL Int (eL a.cols) a.cols.length, ex := trD (trO a.ex), rf := a.rf,           od := a.od, ou := a.ou, lt := a.lt, vd := a.vd }         { nm := u.nm, cols := dL Cl (eL u.cols) u.cols.length, ow := u.ow }         { k := b.k, nm := b.nm, tb := b.tb, cols := dL Int (eL b.cols) b.cols.length, ex := trD (trO b.ex), rf := b.rf,           od := b.od, ou := b.ou, lt := b.lt, vd := b.vd }         { nm := t.nm, cols := dL Cl (eL t.cols) t.cols.length, ow := t.ow })))   [])
                                                                                            (.test (fitF     { k := a.k, nm := a.nm, tb := a.tb, cols := dL Int (eL a.cols) a.cols.length, ex := trD (trO a.ex), rf := a.rf, od := a.od,       ou := a.ou, lt := a.lt, vd := a.vd }     { nm := t.nm, cols := dL Cl (eL t.cols) t.cols.length, ow := t.ow }     { k := b.k, nm := b.nm, tb := b.tb, cols := dL Int (eL b.cols) b.cols.length, ex := trD (trO b.ex), rf := b.rf, od := b.od,       ou := b.ou, lt := b.lt, vd := b.vd }     { nm := u.nm, cols := dL Cl (eL u.cols) u.cols.length, ow := u.ow } !=   fitF     { k := a.k, nm := a.nm, tb := a.tb, cols := dL Int (eL a.cols) a.cols.length, ex := trD (trO a.ex), rf := a.rf, od := a.od,       ou := a.ou, lt := a.lt, vd := a.vd }     { nm := u.nm, cols := dL Cl (eL u.cols) u.cols.length, ow := u.ow }     { k := b.k, nm := b.nm, tb := b.tb, cols := dL Int (eL b.cols) b.cols.length, ex := trD (trO b.ex), rf := b.rf, od := b.od,       ou := b.ou, lt := b.lt, vd := b.vd }     { nm := t.nm, cols := dL Cl (eL t.cols) t.cols.length, ow := t.ow })
                                                                                              (.leaf (.fin ⟨Ex.ret, true, [some (AV.v (Value.bool false))], []⟩))
                                                                                              (.ob (ObC Tryd.prog 9 [taA { nm := t.nm, cols := dL Cl (eL t.cols) t.cols.length, ow := t.ow }] (AV.s (Value.bool (mtF { nm := t.nm, cols := dL Cl (eL t.cols) t.cols.length, ow := t.ow }))) [])
                                                                                                (.ob (ObC Tryd.prog 9 [taA { nm := u.nm, cols := dL Cl (eL u.cols) u.cols.length, ow := u.ow }] (AV.s (Value.bool (mtF { nm := u.nm, cols := dL Cl (eL u.cols) u.cols.length, ow := u.ow }))) [])
                                                                                                  (.test (!mtF { nm := t.nm, cols := dL Cl (eL t.cols) t.cols.length, ow := t.ow } == mtF { nm := u.nm, cols := dL Cl (eL u.cols) u.cols.length, ow := u.ow })
                                                                                                    (.leaf (.fin ⟨Ex.ret, true, [some (AV.v (Value.bool false))], []⟩))
                                                                                                    (.test (decide ((↑a.nm.size : Int) + (↑(⟨#[120]⟩ : ByteArray).size : Int) ≤ 9223372036854775807))
                                                                                                      (.test (decide ((↑t.nm.size : Int) + (↑(⟨#[120]⟩ : ByteArray).size : Int) ≤ 9223372036854775807))
                                                                                                        (.ob (ObE (trO a.ex)   (trA (trD (trO a.ex))))
                                                                                                          (.ob (ObE (trO a.ex)   (trA (trD (trO a.ex))))
                                                                                                            (.ob (ObC Tryd.prog 15   [ruA       { k := a.k, nm := a.nm, tb := a.tb, cols := dL Int (eL a.cols) a.cols.length, ex := trD (trO a.ex), rf := a.rf, od := a.od,         ou := a.ou, lt := a.lt, vd := a.vd },     ruA       { k := a.k, nm := a.nm ++ (⟨#[120]⟩ : ByteArray), tb := a.tb, cols := dL Int (eL a.cols) a.cols.length, ex := trD (trO a.ex),         rf := a.rf, od := a.od, ou := a.ou, lt := a.lt, vd := a.vd }]   (AV.s     (Value.bool       (saF         { k := a.k, nm := a.nm, tb := a.tb, cols := dL Int (eL a.cols) a.cols.length, ex := trD (trO a.ex), rf := a.rf,           od := a.od, ou := a.ou, lt := a.lt, vd := a.vd }         { k := a.k, nm := a.nm ++ (⟨#[120]⟩ : ByteArray), tb := a.tb, cols := dL Int (eL a.cols) a.cols.length, ex := trD (trO a.ex),           rf := a.rf, od := a.od, ou := a.ou, lt := a.lt, vd := a.vd })))   [])
                                                                                                              (.test (!saF     { k := a.k, nm := a.nm, tb := a.tb, cols := dL Int (eL a.cols) a.cols.length, ex := trD (trO a.ex), rf := a.rf, od := a.od,       ou := a.ou, lt := a.lt, vd := a.vd }     { k := a.k, nm := a.nm ++ (⟨#[120]⟩ : ByteArray), tb := a.tb, cols := dL Int (eL a.cols) a.cols.length, ex := trD (trO a.ex),       rf := a.rf, od := a.od, ou := a.ou, lt := a.lt, vd := a.vd })
                                                                                                                (.ob (ObC Tryd.prog 16 [taA { nm := t.nm, cols := dL Cl (eL t.cols) t.cols.length, ow := t.ow }, taA { nm := t.nm ++ (⟨#[120]⟩ : ByteArray), cols := dL Cl (eL t.cols) t.cols.length, ow := t.ow }] (AV.s (Value.bool (stF { nm := t.nm, cols := dL Cl (eL t.cols) t.cols.length, ow := t.ow } { nm := t.nm ++ (⟨#[120]⟩ : ByteArray), cols := dL Cl (eL t.cols) t.cols.length, ow := t.ow }))) [])
                                                                                                                  (.leaf (.fin ⟨Ex.ret, true, [some (AV.s (Value.bool !stF { nm := t.nm, cols := dL Cl (eL t.cols) t.cols.length, ow := t.ow } { nm := t.nm ++ (⟨#[120]⟩ : ByteArray), cols := dL Cl (eL t.cols) t.cols.length, ow := t.ow }))], []⟩))
                                                                                                                )
                                                                                                                (.leaf (.fin ⟨Ex.ret, true, [some (AV.v (Value.bool false))], []⟩))
                                                                                                              )
                                                                                                            )
                                                                                                          )
                                                                                                        )
                                                                                                        .no
                                                                                                      )
                                                                                                      .no
                                                                                                    )
                                                                                                  )
                                                                                                )
                                                                                              )
                                                                                            )
                                                                                          )
                                                                                        )
                                                                                      )
                                                                                    )
                                                                                  )
                                                                                )
                                                                                (.test (decide ((↑a.nm.size : Int) + (↑(⟨#[120]⟩ : ByteArray).size : Int) ≤ 9223372036854775807))
                                                                                  (.test (decide ((↑t.nm.size : Int) + (↑(⟨#[120]⟩ : ByteArray).size : Int) ≤ 9223372036854775807))
                                                                                    (.ob (ObE (trO a.ex)   (trA (trD (trO a.ex))))
                                                                                      (.ob (ObE (trO a.ex)   (trA (trD (trO a.ex))))
                                                                                        (.ob (ObC Tryd.prog 15   [ruA       { k := a.k, nm := a.nm, tb := a.tb, cols := dL Int (eL a.cols) a.cols.length, ex := trD (trO a.ex), rf := a.rf, od := a.od,         ou := a.ou, lt := a.lt, vd := a.vd },     ruA       { k := a.k, nm := a.nm ++ (⟨#[120]⟩ : ByteArray), tb := a.tb, cols := dL Int (eL a.cols) a.cols.length, ex := trD (trO a.ex),         rf := a.rf, od := a.od, ou := a.ou, lt := a.lt, vd := a.vd }]   (AV.s     (Value.bool       (saF         { k := a.k, nm := a.nm, tb := a.tb, cols := dL Int (eL a.cols) a.cols.length, ex := trD (trO a.ex), rf := a.rf,           od := a.od, ou := a.ou, lt := a.lt, vd := a.vd }         { k := a.k, nm := a.nm ++ (⟨#[120]⟩ : ByteArray), tb := a.tb, cols := dL Int (eL a.cols) a.cols.length, ex := trD (trO a.ex),           rf := a.rf, od := a.od, ou := a.ou, lt := a.lt, vd := a.vd })))   [])
                                                                                          (.test (!saF     { k := a.k, nm := a.nm, tb := a.tb, cols := dL Int (eL a.cols) a.cols.length, ex := trD (trO a.ex), rf := a.rf, od := a.od,       ou := a.ou, lt := a.lt, vd := a.vd }     { k := a.k, nm := a.nm ++ (⟨#[120]⟩ : ByteArray), tb := a.tb, cols := dL Int (eL a.cols) a.cols.length, ex := trD (trO a.ex),       rf := a.rf, od := a.od, ou := a.ou, lt := a.lt, vd := a.vd })
                                                                                            (.ob (ObC Tryd.prog 16 [taA { nm := t.nm, cols := dL Cl (eL t.cols) t.cols.length, ow := t.ow }, taA { nm := t.nm ++ (⟨#[120]⟩ : ByteArray), cols := dL Cl (eL t.cols) t.cols.length, ow := t.ow }] (AV.s (Value.bool (stF { nm := t.nm, cols := dL Cl (eL t.cols) t.cols.length, ow := t.ow } { nm := t.nm ++ (⟨#[120]⟩ : ByteArray), cols := dL Cl (eL t.cols) t.cols.length, ow := t.ow }))) [])
                                                                                              (.leaf (.fin ⟨Ex.ret, true, [some (AV.s (Value.bool !stF { nm := t.nm, cols := dL Cl (eL t.cols) t.cols.length, ow := t.ow } { nm := t.nm ++ (⟨#[120]⟩ : ByteArray), cols := dL Cl (eL t.cols) t.cols.length, ow := t.ow }))], []⟩))
                                                                                            )
                                                                                            (.leaf (.fin ⟨Ex.ret, true, [some (AV.v (Value.bool false))], []⟩))
                                                                                          )
                                                                                        )
                                                                                      )
                                                                                    )
                                                                                    .no
                                                                                  )
                                                                                  .no
                                                                                )
                                                                              )
                                                                            )
                                                                          )
                                                                        )
                                                                      )
                                                                    )
                                                                  )
                                                                )
                                                              )
                                                              (.ob (ObC Tryd.prog 16 [taA { nm := t.nm, cols := dL Cl (eL t.cols) t.cols.length, ow := t.ow }, taA { nm := u.nm, cols := dL Cl (eL u.cols) u.cols.length, ow := u.ow }] (AV.s (Value.bool (stF { nm := t.nm, cols := dL Cl (eL t.cols) t.cols.length, ow := t.ow } { nm := u.nm, cols := dL Cl (eL u.cols) u.cols.length, ow := u.ow }))) [])
                                                                (.test (stF { nm := t.nm, cols := dL Cl (eL t.cols) t.cols.length, ow := t.ow } { nm := u.nm, cols := dL Cl (eL u.cols) u.cols.length, ow := u.ow })
                                                                  (.ob (ObE (trO a.ex)   (trA (trD (trO a.ex))))
                                                                    (.ob (ObE (trO b.ex)   (trA (trD (trO b.ex))))
                                                                      (.ob (ObC Tryd.prog 10   [ruA       { k := a.k, nm := a.nm, tb := a.tb, cols := dL Int (eL a.cols) a.cols.length, ex := trD (trO a.ex), rf := a.rf, od := a.od,         ou := a.ou, lt := a.lt, vd := a.vd },     taA { nm := t.nm, cols := dL Cl (eL t.cols) t.cols.length, ow := t.ow },     ruA       { k := b.k, nm := b.nm, tb := b.tb, cols := dL Int (eL b.cols) b.cols.length, ex := trD (trO b.ex), rf := b.rf, od := b.od,         ou := b.ou, lt := b.lt, vd := b.vd },     taA { nm := u.nm, cols := dL Cl (eL u.cols) u.cols.length, ow := u.ow }]   (AV.s     (Value.int IntKind.i64       (fitF         { k := a.k, nm := a.nm, tb := a.tb, cols := dL Int (eL a.cols) a.cols.length, ex := trD (trO a.ex), rf := a.rf,           od := a.od, ou := a.ou, lt := a.lt, vd := a.vd }         { nm := t.nm, cols := dL Cl (eL t.cols) t.cols.length, ow := t.ow }         { k := b.k, nm := b.nm, tb := b.tb, cols := dL Int (eL b.cols) b.cols.length, ex := trD (trO b.ex), rf := b.rf,           od := b.od, ou := b.ou, lt := b.lt, vd := b.vd }         { nm := u.nm, cols := dL Cl (eL u.cols) u.cols.length, ow := u.ow })))   [])
                                                                        (.ob (ObE (trO a.ex)   (trA (trD (trO a.ex))))
                                                                          (.ob (ObE (trO b.ex)   (trA (trD (trO b.ex))))
                                                                            (.ob (ObC Tryd.prog 10   [ruA       { k := a.k, nm := a.nm, tb := a.tb, cols := dL Int (eL a.cols) a.cols.length, ex := trD (trO a.ex), rf := a.rf, od := a.od,         ou := a.ou, lt := a.lt, vd := a.vd },     taA { nm := u.nm, cols := dL Cl (eL u.cols) u.cols.length, ow := u.ow },     ruA       { k := b.k, nm := b.nm, tb := b.tb, cols := dL Int (eL b.cols) b.cols.length, ex := trD (trO b.ex), rf := b.rf, od := b.od,         ou := b.ou, lt := b.lt, vd := b.vd },     taA { nm := t.nm, cols := dL Cl (eL t.cols) t.cols.length, ow := t.ow }]   (AV.s     (Value.int IntKind.i64       (fitF         { k := a.k, nm := a.nm, tb := a.tb, cols := dL Int (eL a.cols) a.cols.length, ex := trD (trO a.ex), rf := a.rf,           od := a.od, ou := a.ou, lt := a.lt, vd := a.vd }         { nm := u.nm, cols := dL Cl (eL u.cols) u.cols.length, ow := u.ow }         { k := b.k, nm := b.nm, tb := b.tb, cols := dL Int (eL b.cols) b.cols.length, ex := trD (trO b.ex), rf := b.rf,           od := b.od, ou := b.ou, lt := b.lt, vd := b.vd }         { nm := t.nm, cols := dL Cl (eL t.cols) t.cols.length, ow := t.ow })))   [])
                                                                              (.test (fitF     { k := a.k, nm := a.nm, tb := a.tb, cols := dL Int (eL a.cols) a.cols.length, ex := trD (trO a.ex), rf := a.rf, od := a.od,       ou := a.ou, lt := a.lt, vd := a.vd }     { nm := t.nm, cols := dL Cl (eL t.cols) t.cols.length, ow := t.ow }     { k := b.k, nm := b.nm, tb := b.tb, cols := dL Int (eL b.cols) b.cols.length, ex := trD (trO b.ex), rf := b.rf, od := b.od,       ou := b.ou, lt := b.lt, vd := b.vd }     { nm := u.nm, cols := dL Cl (eL u.cols) u.cols.length, ow := u.ow } !=   fitF     { k := a.k, nm := a.nm, tb := a.tb, cols := dL Int (eL a.cols) a.cols.length, ex := trD (trO a.ex), rf := a.rf, od := a.od,       ou := a.ou, lt := a.lt, vd := a.vd }     { nm := u.nm, cols := dL Cl (eL u.cols) u.cols.length, ow := u.ow }     { k := b.k, nm := b.nm, tb := b.tb, cols := dL Int (eL b.cols) b.cols.length, ex := trD (trO b.ex), rf := b.rf, od := b.od,       ou := b.ou, lt := b.lt, vd := b.vd }     { nm := t.nm, cols := dL Cl (eL t.cols) t.cols.length, ow := t.ow })
                                                                                (.leaf (.fin ⟨Ex.ret, true, [some (AV.v (Value.bool false))], []⟩))
                                                                                (.ob (ObC Tryd.prog 9 [taA { nm := t.nm, cols := dL Cl (eL t.cols) t.cols.length, ow := t.ow }] (AV.s (Value.bool (mtF { nm := t.nm, cols := dL Cl (eL t.cols) t.cols.length, ow := t.ow }))) [])
                                                                                  (.ob (ObC Tryd.prog 9 [taA { nm := u.nm, cols := dL Cl (eL u.cols) u.cols.length, ow := u.ow }] (AV.s (Value.bool (mtF { nm := u.nm, cols := dL Cl (eL u.cols) u.cols.length, ow := u.ow }))) [])
                                                                                    (.test (!mtF { nm := t.nm, cols := dL Cl (eL t.cols) t.cols.length, ow := t.ow } == mtF { nm := u.nm, cols := dL Cl (eL u.cols) u.cols.length, ow := u.ow })
                                                                                      (.leaf (.fin ⟨Ex.ret, true, [some (AV.v (Value.bool false))], []⟩))
                                                                                      (.test (decide ((↑a.nm.size : Int) + (↑(⟨#[120]⟩ : ByteArray).size : Int) ≤ 9223372036854775807))
                                                                                        (.test (decide ((↑t.nm.size : Int) + (↑(⟨#[120]⟩ : ByteArray).size : Int) ≤ 9223372036854775807))
                                                                                          (.ob (ObE (trO a.ex)   (trA (trD (trO a.ex))))
                                                                                            (.ob (ObE (trO a.ex)   (trA (trD (trO a.ex))))
                                                                                              (.ob (ObC Tryd.prog 15   [ruA       { k := a.k, nm := a.nm, tb := a.tb, cols := dL Int (eL a.cols) a.cols.length, ex := trD (trO a.ex), rf := a.rf, od := a.od,         ou := a.ou, lt := a.lt, vd := a.vd },     ruA       { k := a.k, nm := a.nm ++ (⟨#[120]⟩ : ByteArray), tb := a.tb, cols := dL Int (eL a.cols) a.cols.length, ex := trD (trO a.ex),         rf := a.rf, od := a.od, ou := a.ou, lt := a.lt, vd := a.vd }]   (AV.s     (Value.bool       (saF         { k := a.k, nm := a.nm, tb := a.tb, cols := dL Int (eL a.cols) a.cols.length, ex := trD (trO a.ex), rf := a.rf,           od := a.od, ou := a.ou, lt := a.lt, vd := a.vd }         { k := a.k, nm := a.nm ++ (⟨#[120]⟩ : ByteArray), tb := a.tb, cols := dL Int (eL a.cols) a.cols.length, ex := trD (trO a.ex),           rf := a.rf, od := a.od, ou := a.ou, lt := a.lt, vd := a.vd })))   [])
                                                                                                (.test (!saF     { k := a.k, nm := a.nm, tb := a.tb, cols := dL Int (eL a.cols) a.cols.length, ex := trD (trO a.ex), rf := a.rf, od := a.od,       ou := a.ou, lt := a.lt, vd := a.vd }     { k := a.k, nm := a.nm ++ (⟨#[120]⟩ : ByteArray), tb := a.tb, cols := dL Int (eL a.cols) a.cols.length, ex := trD (trO a.ex),       rf := a.rf, od := a.od, ou := a.ou, lt := a.lt, vd := a.vd })
                                                                                                  (.ob (ObC Tryd.prog 16 [taA { nm := t.nm, cols := dL Cl (eL t.cols) t.cols.length, ow := t.ow }, taA { nm := t.nm ++ (⟨#[120]⟩ : ByteArray), cols := dL Cl (eL t.cols) t.cols.length, ow := t.ow }] (AV.s (Value.bool (stF { nm := t.nm, cols := dL Cl (eL t.cols) t.cols.length, ow := t.ow } { nm := t.nm ++ (⟨#[120]⟩ : ByteArray), cols := dL Cl (eL t.cols) t.cols.length, ow := t.ow }))) [])
                                                                                                    (.leaf (.fin ⟨Ex.ret, true, [some (AV.s (Value.bool !stF { nm := t.nm, cols := dL Cl (eL t.cols) t.cols.length, ow := t.ow } { nm := t.nm ++ (⟨#[120]⟩ : ByteArray), cols := dL Cl (eL t.cols) t.cols.length, ow := t.ow }))], []⟩))
                                                                                                  )
                                                                                                  (.leaf (.fin ⟨Ex.ret, true, [some (AV.v (Value.bool false))], []⟩))
                                                                                                )
                                                                                              )
                                                                                            )
                                                                                          )
                                                                                          .no
                                                                                        )
                                                                                        .no
                                                                                      )
                                                                                    )
                                                                                  )
                                                                                )
                                                                              )
                                                                            )
                                                                          )
                                                                        )
                                                                      )
                                                                    )
                                                                  )
                                                                  (.test (decide ((↑a.nm.size : Int) + (↑(⟨#[120]⟩ : ByteArray).size : Int) ≤ 9223372036854775807))
                                                                    (.test (decide ((↑t.nm.size : Int) + (↑(⟨#[120]⟩ : ByteArray).size : Int) ≤ 9223372036854775807))
                                                                      (.ob (ObE (trO a.ex)   (trA (trD (trO a.ex))))
                                                                        (.ob (ObE (trO a.ex)   (trA (trD (trO a.ex))))
                                                                          (.ob (ObC Tryd.prog 15   [ruA       { k := a.k, nm := a.nm, tb := a.tb, cols := dL Int (eL a.cols) a.cols.length, ex := trD (trO a.ex), rf := a.rf, od := a.od,         ou := a.ou, lt := a.lt, vd := a.vd },     ruA       { k := a.k, nm := a.nm ++ (⟨#[120]⟩ : ByteArray), tb := a.tb, cols := dL Int (eL a.cols) a.cols.length, ex := trD (trO a.ex),         rf := a.rf, od := a.od, ou := a.ou, lt := a.lt, vd := a.vd }]   (AV.s     (Value.bool       (saF         { k := a.k, nm := a.nm, tb := a.tb, cols := dL Int (eL a.cols) a.cols.length, ex := trD (trO a.ex), rf := a.rf,           od := a.od, ou := a.ou, lt := a.lt, vd := a.vd }         { k := a.k, nm := a.nm ++ (⟨#[120]⟩ : ByteArray), tb := a.tb, cols := dL Int (eL a.cols) a.cols.length, ex := trD (trO a.ex),           rf := a.rf, od := a.od, ou := a.ou, lt := a.lt, vd := a.vd })))   [])
                                                                            (.test (!saF     { k := a.k, nm := a.nm, tb := a.tb, cols := dL Int (eL a.cols) a.cols.length, ex := trD (trO a.ex), rf := a.rf, od := a.od,       ou := a.ou, lt := a.lt, vd := a.vd }     { k := a.k, nm := a.nm ++ (⟨#[120]⟩ : ByteArray), tb := a.tb, cols := dL Int (eL a.cols) a.cols.length, ex := trD (trO a.ex),       rf := a.rf, od := a.od, ou := a.ou, lt := a.lt, vd := a.vd })
                                                                              (.ob (ObC Tryd.prog 16 [taA { nm := t.nm, cols := dL Cl (eL t.cols) t.cols.length, ow := t.ow }, taA { nm := t.nm ++ (⟨#[120]⟩ : ByteArray), cols := dL Cl (eL t.cols) t.cols.length, ow := t.ow }] (AV.s (Value.bool (stF { nm := t.nm, cols := dL Cl (eL t.cols) t.cols.length, ow := t.ow } { nm := t.nm ++ (⟨#[120]⟩ : ByteArray), cols := dL Cl (eL t.cols) t.cols.length, ow := t.ow }))) [])
                                                                                (.leaf (.fin ⟨Ex.ret, true, [some (AV.s (Value.bool !stF { nm := t.nm, cols := dL Cl (eL t.cols) t.cols.length, ow := t.ow } { nm := t.nm ++ (⟨#[120]⟩ : ByteArray), cols := dL Cl (eL t.cols) t.cols.length, ow := t.ow }))], []⟩))
                                                                              )
                                                                              (.leaf (.fin ⟨Ex.ret, true, [some (AV.v (Value.bool false))], []⟩))
                                                                            )
                                                                          )
                                                                        )
                                                                      )
                                                                      .no
                                                                    )
                                                                    .no
                                                                  )
                                                                )
                                                              )
                                                            )
                                                          )
                                                        )
                                                      )
                                                    )
                                                  )
                                                )
                                              )
                                            )
                                          )
                                        )
                                      )
                                    )
                                  )
                                )
                              )
                            )
                          )
                        )
                      )
                    )
                  )
                )
              )
            )
          )
        )
      )
    )
  )
)
theorem rsa_h (a b : Ru) (t u : Ta) : (ev Tryd.prog rsaX awakeS 3000 noL 3000 .normal [.c 0 (codeOf Tryd.prog 6)] (params (rsa_a a b t u)) Ev.start).map (lookP Tryd.prog (resOf Tryd.prog 6) [] rsa_cf) = rsa_t Tryd.prog a b t u := by kernel_rfl

theorem ru_eta (r : Ru) : (⟨r.k, r.nm, r.tb, r.cols, r.ex, r.rf, r.od, r.ou, r.lt, r.vd⟩ : Ru) = r := rfl
theorem ta_eta (t : Ta) : (⟨t.nm, t.cols, t.ow⟩ : Ta) = t := rfl
open Classical in
theorem saF_iff {a b : Ru} : saF a b = true ↔ a = b := by unfold saF; exact decide_eq_true_iff
open Classical in
theorem stF_iff {a b : Ta} : stF a b = true ↔ a = b := by unfold stF; exact decide_eq_true_iff
theorem loF_nm {r : Ru} (h : loF r = false) : r.nm.size ≤ 200 := by
  unfold loF at h
  simp only [Bool.or_eq_false_iff, decide_eq_false_iff_not] at h
  omega
theorem wiF_nm {t : Ta} (h : wiF t = false) : t.nm.size ≤ 200 := by
  unfold wiF at h
  rw [decide_eq_false_iff_not] at h
  apply Classical.byContradiction
  exact fun c => h (.inr (.inl (by omega)))
theorem ba_app1 (s : ByteArray) : s ≠ s ++ (⟨#[120]⟩ : ByteArray) := fun h => by
  have := congrArg ByteArray.size h
  rw [ByteArray.size_append] at this
  have e : (⟨#[120]⟩ : ByteArray).size = 1 := rfl
  omega
theorem rsa_ok (a b : Ru) (t u : Ta) : OCalls Tryd.prog 6 [ruA a, ruA b, taA t, taA u] (.s (.bool true)) [] := by
  have yev : ∀ x, x = true → Goes ⟨.ret, true, [some (.v (.bool x))], []⟩ [.s (.bool true)] [] := fun x hx => ⟨rfl, (.cons _ _ _ _ (leBv hx.symm) .nil), .nil⟩
  have yes : ∀ x, x = true → Goes ⟨.ret, true, [some (.s (.bool x))], []⟩ [.s (.bool true)] [] := fun x hx => ⟨rfl, (.cons _ _ _ _ (leBs hx.symm) .nil), .nil⟩
  refine OCalls.le (args := rsa_a a b t u) ?_ (.cons _ _ _ _ (ruO_le a) (.cons _ _ _ _ (ruO_le b) (Les.refl _)))
  refine floyd0 ev_mix ev_ok rsaX_ok awakeS_ok (by kernel_rfl) [] rsa_cf (rsa_t _ a b t u) (rsa_h a b t u) ?_
  unfold rsa_t
  simp only [trD_B, dL_eL, ru_eta, ta_eta]
  have e1 : saF a a = true := saF_iff.2 rfl
  have e2 : stF t t = true := stF_iff.2 rfl
  have e3 : saF b a = saF a b := Bool.eq_iff_iff.2 (saF_iff.trans (eq_comm.trans saF_iff.symm))
  have e4 : stF u t = stF t u := Bool.eq_iff_iff.2 (stF_iff.trans (eq_comm.trans stF_iff.symm))
  have e5 : saF a b = true → fitF b t a u = fitF a t b u := fun h => by rw [saF_iff.1 h]
  have e6 : stF t u = true → fitF a u b t = fitF a t b u ∧ mtF u = mtF t := fun h => by rw [stF_iff.1 h]; exact ⟨rfl, rfl⟩
  have e8 : saF a ⟨a.k, a.nm ++ (⟨#[120]⟩ : ByteArray), a.tb, a.cols, a.ex, a.rf, a.od, a.ou, a.lt, a.vd⟩ = false := by
    cases h : saF a ⟨a.k, a.nm ++ (⟨#[120]⟩ : ByteArray), a.tb, a.cols, a.ex, a.rf, a.od, a.ou, a.lt, a.vd⟩ with
    | false => rfl
    | true => exact absurd (congrArg Ru.nm (saF_iff.1 h)) (ba_app1 a.nm)
  have e9 : stF t ⟨t.nm ++ (⟨#[120]⟩ : ByteArray), t.cols, t.ow⟩ = false := by
    cases h : stF t ⟨t.nm ++ (⟨#[120]⟩ : ByteArray), t.cols, t.ow⟩ with
    | false => rfl
    | true => exact absurd (congrArg Ta.nm (stF_iff.1 h)) (ba_app1 t.nm)
  have s1 : loF a = false → decide ((a.nm.size : Int) + ((⟨#[120]⟩ : ByteArray).size : Int) ≤ 9223372036854775807) = true := fun h => by
    have := loF_nm h
    have e : (⟨#[120]⟩ : ByteArray).size = 1 := rfl
    exact decide_eq_true (by omega)
  have s2 : wiF t = false → decide ((t.nm.size : Int) + ((⟨#[120]⟩ : ByteArray).size : Int) ≤ 9223372036854775807) = true := fun h => by
    have := wiF_nm h
    have e : (⟨#[120]⟩ : ByteArray).size = 1 := rfl
    exact decide_eq_true (by omega)
  generalize decide ((a.nm.size : Int) + ((⟨#[120]⟩ : ByteArray).size : Int) ≤ 9223372036854775807) = d1 at s1 ⊢
  generalize decide ((t.nm.size : Int) + ((⟨#[120]⟩ : ByteArray).size : Int) ≤ 9223372036854775807) = d2 at s2 ⊢
  repeat' first
    | refine hO ⟨wi_ok _⟩ ?_
    | refine hO ⟨lo_ok _⟩ ?_
    | refine hO ⟨sa_ok _ _⟩ ?_
    | refine hO ⟨st_ok _ _⟩ ?_
    | refine hO ⟨fi_ok _ _ _ _⟩ ?_
    | refine hO ⟨mt_ok _⟩ ?_
    | refine hOB ?_
    | refine hS (fun _ => ?_) fun _ => ?_
  all_goals first
    | exact yes _ rfl
    | refine yev _ ?_
    | refine yes _ ?_
    | exfalso
  all_goals clear yev yes
  all_goals simp_all
end Go.Proofs.YtengccmjlaejfaaDoor
end
section
namespace Go.Proofs.YtengccmjlaejfaaDoor
open Ev Go.RowKit
set_option maxRecDepth 100000
set_option linter.unusedVariables false
def clA (c : Cl) : AV := .agg [.s (.string c.nm), .s (.int .u8 c.ty), .s (.int .u8 c.by1.k), .s (.int .i64 c.by1.n), .s (.int .i64 c.by1.hi), .s (.string c.by1.t)]
def rle_cf : Nat → Cfg := cfL []
def rle_a (t : Ta) (at1 : Int) (r u : Ru) (o : Ta) (more : Cl) : List AV := [taA t, .s (.int .i64 at1), ruO r, ruO u, taA o, clA more]
noncomputable def rle_t (P : Program) (t : Ta) (at1 : Int) (r u : Ru) (o : Ta) (more : Cl) : Br PO :=
(.ob (ObC Tryd.prog 12 [taA { nm := t.nm, cols := dL Cl (eL t.cols) t.cols.length, ow := t.ow }] (AV.s (Value.bool (wiF { nm := t.nm, cols := dL Cl (eL t.cols) t.cols.length, ow := t.ow }))) [])
  (.test (wiF { nm := t.nm, cols := dL Cl (eL t.cols) t.cols.length, ow := t.ow })
    (.leaf (.fin ⟨Ex.ret, true, [some (AV.s (Value.bool true))], []⟩))
    (.ob (ObC Tryd.prog 12 [taA { nm := o.nm, cols := dL Cl (eL o.cols) o.cols.length, ow := o.ow }] (AV.s (Value.bool (wiF { nm := o.nm, cols := dL Cl (eL o.cols) o.cols.length, ow := o.ow }))) [])
      (.test (wiF { nm := o.nm, cols := dL Cl (eL o.cols) o.cols.length, ow := o.ow })
        (.leaf (.fin ⟨Ex.ret, true, [some (AV.s (Value.bool true))], []⟩))
        (.ob (ObE (trO r.ex)   (trA (trD (trO r.ex))))
          (.ob (ObC Tryd.prog 13   [ruA       { k := r.k, nm := r.nm, tb := r.tb, cols := dL Int (eL r.cols) r.cols.length, ex := trD (trO r.ex), rf := r.rf, od := r.od,         ou := r.ou, lt := r.lt, vd := r.vd }]   (AV.s     (Value.bool       (loF         { k := r.k, nm := r.nm, tb := r.tb, cols := dL Int (eL r.cols) r.cols.length, ex := trD (trO r.ex), rf := r.rf,           od := r.od, ou := r.ou, lt := r.lt, vd := r.vd })))   [])
            (.test (loF   { k := r.k, nm := r.nm, tb := r.tb, cols := dL Int (eL r.cols) r.cols.length, ex := trD (trO r.ex), rf := r.rf, od := r.od,     ou := r.ou, lt := r.lt, vd := r.vd })
              (.leaf (.fin ⟨Ex.ret, true, [some (AV.s (Value.bool true))], []⟩))
              (.ob (ObE (trO u.ex)   (trA (trD (trO u.ex))))
                (.ob (ObC Tryd.prog 13   [ruA       { k := u.k, nm := u.nm, tb := u.tb, cols := dL Int (eL u.cols) u.cols.length, ex := trD (trO u.ex), rf := u.rf, od := u.od,         ou := u.ou, lt := u.lt, vd := u.vd }]   (AV.s     (Value.bool       (loF         { k := u.k, nm := u.nm, tb := u.tb, cols := dL Int (eL u.cols) u.cols.length, ex := trD (trO u.ex), rf := u.rf,           od := u.od, ou := u.ou, lt := u.lt, vd := u.vd })))   [])
                  (.test (loF   { k := u.k, nm := u.nm, tb := u.tb, cols := dL Int (eL u.cols) u.cols.length, ex := trD (trO u.ex), rf := u.rf, od := u.od,     ou := u.ou, lt := u.lt, vd := u.vd })
                    (.leaf (.fin ⟨Ex.ret, true, [some (AV.s (Value.bool true))], []⟩))
                    (.test (decide ((↑more.nm.size : Int) > 200))
                      (.leaf (.fin ⟨Ex.ret, true, [some (AV.s (Value.bool true))], []⟩))
                      (.test (decide ((↑more.by1.t.size : Int) > 1000))
                        (.leaf (.fin ⟨Ex.ret, true, [some (AV.s (Value.bool true))], []⟩))
                        (.test (false)
                          (.leaf (.fin ⟨Ex.ret, true, [some (AV.s (Value.bool true))], []⟩))
                          (.ob (ObC Tryd.prog 9 [taA { nm := t.nm, cols := dL Cl (eL t.cols) t.cols.length, ow := t.ow }] (AV.s (Value.bool (mtF { nm := t.nm, cols := dL Cl (eL t.cols) t.cols.length, ow := t.ow }))) [])
                            (.test (mtF { nm := t.nm, cols := dL Cl (eL t.cols) t.cols.length, ow := t.ow })
                              (.test (decide ((↑t.cols.length : Int) > 1))
                                (.test (decide (IntKind.u64.wrap (↑t.cols.length : Int) ≠ 0))
                                  (.test (decide (0 ≤ 0) && decide (0 ≤ IntKind.i64.wrap ((IntKind.u64.wrap at1).tmod (IntKind.u64.wrap (↑t.cols.length : Int)))) && decide (IntKind.i64.wrap ((IntKind.u64.wrap at1).tmod (IntKind.u64.wrap (↑t.cols.length : Int))) ≤ (↑t.cols.length : Int)))
                                    (.test (small (IntKind.i64.wrap ((IntKind.u64.wrap at1).tmod (IntKind.u64.wrap (↑t.cols.length : Int))) - 0).toNat && small (Tryd.prog.types[33].bytes * (IntKind.i64.wrap ((IntKind.u64.wrap at1).tmod (IntKind.u64.wrap (↑t.cols.length : Int))) - 0).toNat))
                                      (.test (decide (0 ≤ IntKind.i64.wrap (IntKind.i64.wrap ((IntKind.u64.wrap at1).tmod (IntKind.u64.wrap (↑t.cols.length : Int))) + 1)) && decide (IntKind.i64.wrap (IntKind.i64.wrap ((IntKind.u64.wrap at1).tmod (IntKind.u64.wrap (↑t.cols.length : Int))) + 1) ≤ (↑t.cols.length : Int)) && decide ((↑t.cols.length : Int) ≤ (↑t.cols.length : Int)))
                                        (.test ((IntKind.i64.wrap ((IntKind.u64.wrap at1).tmod (IntKind.u64.wrap (↑t.cols.length : Int))) - 0).toNat.beq (IntKind.i64.wrap ((IntKind.u64.wrap at1).tmod (IntKind.u64.wrap (↑t.cols.length : Int))) - 0).toNat &&   (true &&     (small (((↑t.cols.length : Int) - IntKind.i64.wrap (IntKind.i64.wrap ((IntKind.u64.wrap at1).tmod (IntKind.u64.wrap (↑t.cols.length : Int))) + 1)).toNat + (IntKind.i64.wrap ((IntKind.u64.wrap at1).tmod (IntKind.u64.wrap (↑t.cols.length : Int))) - 0).toNat) &&       small (Tryd.prog.types[33].bytes * (((↑t.cols.length : Int) - IntKind.i64.wrap (IntKind.i64.wrap ((IntKind.u64.wrap at1).tmod (IntKind.u64.wrap (↑t.cols.length : Int))) + 1)).toNat + (IntKind.i64.wrap ((IntKind.u64.wrap at1).tmod (IntKind.u64.wrap (↑t.cols.length : Int))) - 0).toNat)))))
                                          (.test (((IntKind.i64.wrap ((IntKind.u64.wrap at1).tmod (IntKind.u64.wrap (↑t.cols.length : Int))) - 0).toNat + ((↑t.cols.length : Int) - IntKind.i64.wrap (IntKind.i64.wrap ((IntKind.u64.wrap at1).tmod (IntKind.u64.wrap (↑t.cols.length : Int))) + 1)).toNat).ble   ((IntKind.i64.wrap ((IntKind.u64.wrap at1).tmod (IntKind.u64.wrap (↑t.cols.length : Int))) - 0).toNat + ((↑t.cols.length : Int) - IntKind.i64.wrap (IntKind.i64.wrap ((IntKind.u64.wrap at1).tmod (IntKind.u64.wrap (↑t.cols.length : Int))) + 1)).toNat))
                                            (.ob (ObC Tryd.prog 9   [taA       { nm := t.nm,         cols :=           dL Cl (catD (shiftD (eL t.cols) 0) (IntKind.i64.wrap ((IntKind.u64.wrap at1).tmod (IntKind.u64.wrap (↑t.cols.length : Int))) - 0).toNat (shiftD (eL t.cols) (IntKind.i64.wrap (IntKind.i64.wrap ((IntKind.u64.wrap at1).tmod (IntKind.u64.wrap (↑t.cols.length : Int))) + 1)).toNat))             ((IntKind.i64.wrap ((IntKind.u64.wrap at1).tmod (IntKind.u64.wrap (↑t.cols.length : Int))) - 0).toNat + ((↑t.cols.length : Int) - IntKind.i64.wrap (IntKind.i64.wrap ((IntKind.u64.wrap at1).tmod (IntKind.u64.wrap (↑t.cols.length : Int))) + 1)).toNat),         ow := t.ow }]   (AV.s     (Value.bool       (mtF         { nm := t.nm,           cols :=             dL Cl (catD (shiftD (eL t.cols) 0) (IntKind.i64.wrap ((IntKind.u64.wrap at1).tmod (IntKind.u64.wrap (↑t.cols.length : Int))) - 0).toNat (shiftD (eL t.cols) (IntKind.i64.wrap (IntKind.i64.wrap ((IntKind.u64.wrap at1).tmod (IntKind.u64.wrap (↑t.cols.length : Int))) + 1)).toNat))               ((IntKind.i64.wrap ((IntKind.u64.wrap at1).tmod (IntKind.u64.wrap (↑t.cols.length : Int))) - 0).toNat + ((↑t.cols.length : Int) - IntKind.i64.wrap (IntKind.i64.wrap ((IntKind.u64.wrap at1).tmod (IntKind.u64.wrap (↑t.cols.length : Int))) + 1)).toNat),           ow := t.ow })))   [])
                                              (.test (!mtF     { nm := t.nm,       cols :=         dL Cl (catD (shiftD (eL t.cols) 0) (IntKind.i64.wrap ((IntKind.u64.wrap at1).tmod (IntKind.u64.wrap (↑t.cols.length : Int))) - 0).toNat (shiftD (eL t.cols) (IntKind.i64.wrap (IntKind.i64.wrap ((IntKind.u64.wrap at1).tmod (IntKind.u64.wrap (↑t.cols.length : Int))) + 1)).toNat))           ((IntKind.i64.wrap ((IntKind.u64.wrap at1).tmod (IntKind.u64.wrap (↑t.cols.length : Int))) - 0).toNat + ((↑t.cols.length : Int) - IntKind.i64.wrap (IntKind.i64.wrap ((IntKind.u64.wrap at1).tmod (IntKind.u64.wrap (↑t.cols.length : Int))) + 1)).toNat),       ow := t.ow })
                                                (.leaf (.fin ⟨Ex.ret, true, [some (AV.v (Value.bool false))], []⟩))
                                                (.ob (ObE (trO r.ex)   (trA (trD (trO r.ex))))
                                                  (.ob (ObE (trO u.ex)   (trA (trD (trO u.ex))))
                                                    (.ob (ObC Tryd.prog 10   [ruA       { k := r.k, nm := r.nm, tb := r.tb, cols := dL Int (eL r.cols) r.cols.length, ex := trD (trO r.ex), rf := r.rf, od := r.od,         ou := r.ou, lt := r.lt, vd := r.vd },     taA { nm := t.nm, cols := dL Cl (eL t.cols) t.cols.length, ow := t.ow },     ruA       { k := u.k, nm := u.nm, tb := u.tb, cols := dL Int (eL u.cols) u.cols.length, ex := trD (trO u.ex), rf := u.rf, od := u.od,         ou := u.ou, lt := u.lt, vd := u.vd },     taA { nm := o.nm, cols := dL Cl (eL o.cols) o.cols.length, ow := o.ow }]   (AV.s     (Value.int IntKind.i64       (fitF         { k := r.k, nm := r.nm, tb := r.tb, cols := dL Int (eL r.cols) r.cols.length, ex := trD (trO r.ex), rf := r.rf,           od := r.od, ou := r.ou, lt := r.lt, vd := r.vd }         { nm := t.nm, cols := dL Cl (eL t.cols) t.cols.length, ow := t.ow }         { k := u.k, nm := u.nm, tb := u.tb, cols := dL Int (eL u.cols) u.cols.length, ex := trD (trO u.ex), rf := u.rf,           od := u.od, ou := u.ou, lt := u.lt, vd := u.vd }         { nm := o.nm, cols := dL Cl (eL o.cols) o.cols.length, ow := o.ow })))   [])
                                                      (.test (fitF     { k := r.k, nm := r.nm, tb := r.tb, cols := dL Int (eL r.cols) r.cols.length, ex := trD (trO r.ex), rf := r.rf, od := r.od,       ou := r.ou, lt := r.lt, vd := r.vd }     { nm := t.nm, cols := dL Cl (eL t.cols) t.cols.length, ow := t.ow }     { k := u.k, nm := u.nm, tb := u.tb, cols := dL Int (eL u.cols) u.cols.length, ex := trD (trO u.ex), rf := u.rf, od := u.od,       ou := u.ou, lt := u.lt, vd := u.vd }     { nm := o.nm, cols := dL Cl (eL o.cols) o.cols.length, ow := o.ow } !=   0)
                                                        (.leaf (.fin ⟨Ex.ret, true, [some (AV.v (Value.bool true))], []⟩))
                                                        (.test (small t.cols.length && small (Tryd.prog.types[33].bytes * t.cols.length))
                                                          (.test (t.cols.length.beq t.cols.length && (true && (small (1 + t.cols.length) && small (Tryd.prog.types[33].bytes * (1 + t.cols.length)))))
                                                            (.test ((t.cols.length + 1).ble (t.cols.length + 1))
                                                              (.ob (ObE (trO r.ex)   (trA (trD (trO r.ex))))
                                                                (.ob (ObE (trO u.ex)   (trA (trD (trO u.ex))))
                                                                  (.ob (ObC Tryd.prog 10   [ruA       { k := r.k, nm := r.nm, tb := r.tb, cols := dL Int (eL r.cols) r.cols.length, ex := trD (trO r.ex), rf := r.rf, od := r.od,         ou := r.ou, lt := r.lt, vd := r.vd },     taA { nm := t.nm, cols := dL Cl (catD (eL t.cols) t.cols.length (listD [D.v (Value.string more.nm), D.v (Value.int IntKind.u8 more.ty), D.v (Value.int IntKind.u8 more.by1.k), D.v (Value.int IntKind.i64 more.by1.n), D.v (Value.int IntKind.i64 more.by1.hi), D.v (Value.string more.by1.t)] 6)) (t.cols.length + 1), ow := t.ow },     ruA       { k := u.k, nm := u.nm, tb := u.tb, cols := dL Int (eL u.cols) u.cols.length, ex := trD (trO u.ex), rf := u.rf, od := u.od,         ou := u.ou, lt := u.lt, vd := u.vd },     taA { nm := o.nm, cols := dL Cl (eL o.cols) o.cols.length, ow := o.ow }]   (AV.s     (Value.int IntKind.i64       (fitF         { k := r.k, nm := r.nm, tb := r.tb, cols := dL Int (eL r.cols) r.cols.length, ex := trD (trO r.ex), rf := r.rf,           od := r.od, ou := r.ou, lt := r.lt, vd := r.vd }         { nm := t.nm, cols := dL Cl (catD (eL t.cols) t.cols.length (listD [D.v (Value.string more.nm), D.v (Value.int IntKind.u8 more.ty), D.v (Value.int IntKind.u8 more.by1.k), D.v (Value.int IntKind.i64 more.by1.n), D.v (Value.int IntKind.i64 more.by1.hi), D.v (Value.string more.by1.t)] 6)) (t.cols.length + 1), ow := t.ow }         { k := u.k, nm := u.nm, tb := u.tb, cols := dL Int (eL u.cols) u.cols.length, ex := trD (trO u.ex), rf := u.rf,           od := u.od, ou := u.ou, lt := u.lt, vd := u.vd }         { nm := o.nm, cols := dL Cl (eL o.cols) o.cols.length, ow := o.ow })))   [])
                                                                    (.leaf (.fin ⟨Ex.ret, true, [some   (AV.s     (Value.bool       (fitF           { k := r.k, nm := r.nm, tb := r.tb, cols := dL Int (eL r.cols) r.cols.length, ex := trD (trO r.ex), rf := r.rf,             od := r.od, ou := r.ou, lt := r.lt, vd := r.vd }           { nm := t.nm, cols := dL Cl (catD (eL t.cols) t.cols.length (listD [D.v (Value.string more.nm), D.v (Value.int IntKind.u8 more.ty), D.v (Value.int IntKind.u8 more.by1.k), D.v (Value.int IntKind.i64 more.by1.n), D.v (Value.int IntKind.i64 more.by1.hi), D.v (Value.string more.by1.t)] 6)) (t.cols.length + 1), ow := t.ow }           { k := u.k, nm := u.nm, tb := u.tb, cols := dL Int (eL u.cols) u.cols.length, ex := trD (trO u.ex), rf := u.rf,             od := u.od, ou := u.ou, lt := u.lt, vd := u.vd }           { nm := o.nm, cols := dL Cl (eL o.cols) o.cols.length, ow := o.ow } ==         0)))], []⟩))
                                                                  )
                                                                )
                                                              )
                                                              .no
                                                            )
                                                            .no
                                                          )
                                                          .no
                                                        )
                                                      )
                                                    )
                                                  )
                                                )
                                              )
                                            )
                                            .no
                                          )
                                          .no
                                        )
                                        .no
                                      )
                                      .no
                                    )
                                    .no
                                  )
                                  .no
                                )
                                (.ob (ObE (trO r.ex)   (trA (trD (trO r.ex))))
                                  (.ob (ObE (trO u.ex)   (trA (trD (trO u.ex))))
                                    (.ob (ObC Tryd.prog 10   [ruA       { k := r.k, nm := r.nm, tb := r.tb, cols := dL Int (eL r.cols) r.cols.length, ex := trD (trO r.ex), rf := r.rf, od := r.od,         ou := r.ou, lt := r.lt, vd := r.vd },     taA { nm := t.nm, cols := dL Cl (eL t.cols) t.cols.length, ow := t.ow },     ruA       { k := u.k, nm := u.nm, tb := u.tb, cols := dL Int (eL u.cols) u.cols.length, ex := trD (trO u.ex), rf := u.rf, od := u.od,         ou := u.ou, lt := u.lt, vd := u.vd },     taA { nm := o.nm, cols := dL Cl (eL o.cols) o.cols.length, ow := o.ow }]   (AV.s     (Value.int IntKind.i64       (fitF         { k := r.k, nm := r.nm, tb := r.tb, cols := dL Int (eL r.cols) r.cols.length, ex := trD (trO r.ex), rf := r.rf,           od := r.od, ou := r.ou, lt := r.lt, vd := r.vd }         { nm := t.nm, cols := dL Cl (eL t.cols) t.cols.length, ow := t.ow }         { k := u.k, nm := u.nm, tb := u.tb, cols := dL Int (eL u.cols) u.cols.length, ex := trD (trO u.ex), rf := u.rf,           od := u.od, ou := u.ou, lt := u.lt, vd := u.vd }         { nm := o.nm, cols := dL Cl (eL o.cols) o.cols.length, ow := o.ow })))   [])
                                      (.test (fitF     { k := r.k, nm := r.nm, tb := r.tb, cols := dL Int (eL r.cols) r.cols.length, ex := trD (trO r.ex), rf := r.rf, od := r.od,       ou := r.ou, lt := r.lt, vd := r.vd }     { nm := t.nm, cols := dL Cl (eL t.cols) t.cols.length, ow := t.ow }     { k := u.k, nm := u.nm, tb := u.tb, cols := dL Int (eL u.cols) u.cols.length, ex := trD (trO u.ex), rf := u.rf, od := u.od,       ou := u.ou, lt := u.lt, vd := u.vd }     { nm := o.nm, cols := dL Cl (eL o.cols) o.cols.length, ow := o.ow } !=   0)
                                        (.leaf (.fin ⟨Ex.ret, true, [some (AV.v (Value.bool true))], []⟩))
                                        (.test (small t.cols.length && small (Tryd.prog.types[33].bytes * t.cols.length))
                                          (.test (t.cols.length.beq t.cols.length && (true && (small (1 + t.cols.length) && small (Tryd.prog.types[33].bytes * (1 + t.cols.length)))))
                                            (.test ((t.cols.length + 1).ble (t.cols.length + 1))
                                              (.ob (ObE (trO r.ex)   (trA (trD (trO r.ex))))
                                                (.ob (ObE (trO u.ex)   (trA (trD (trO u.ex))))
                                                  (.ob (ObC Tryd.prog 10   [ruA       { k := r.k, nm := r.nm, tb := r.tb, cols := dL Int (eL r.cols) r.cols.length, ex := trD (trO r.ex), rf := r.rf, od := r.od,         ou := r.ou, lt := r.lt, vd := r.vd },     taA { nm := t.nm, cols := dL Cl (catD (eL t.cols) t.cols.length (listD [D.v (Value.string more.nm), D.v (Value.int IntKind.u8 more.ty), D.v (Value.int IntKind.u8 more.by1.k), D.v (Value.int IntKind.i64 more.by1.n), D.v (Value.int IntKind.i64 more.by1.hi), D.v (Value.string more.by1.t)] 6)) (t.cols.length + 1), ow := t.ow },     ruA       { k := u.k, nm := u.nm, tb := u.tb, cols := dL Int (eL u.cols) u.cols.length, ex := trD (trO u.ex), rf := u.rf, od := u.od,         ou := u.ou, lt := u.lt, vd := u.vd },     taA { nm := o.nm, cols := dL Cl (eL o.cols) o.cols.length, ow := o.ow }]   (AV.s     (Value.int IntKind.i64       (fitF         { k := r.k, nm := r.nm, tb := r.tb, cols := dL Int (eL r.cols) r.cols.length, ex := trD (trO r.ex), rf := r.rf,           od := r.od, ou := r.ou, lt := r.lt, vd := r.vd }         { nm := t.nm, cols := dL Cl (catD (eL t.cols) t.cols.length (listD [D.v (Value.string more.nm), D.v (Value.int IntKind.u8 more.ty), D.v (Value.int IntKind.u8 more.by1.k), D.v (Value.int IntKind.i64 more.by1.n), D.v (Value.int IntKind.i64 more.by1.hi), D.v (Value.string more.by1.t)] 6)) (t.cols.length + 1), ow := t.ow }         { k := u.k, nm := u.nm, tb := u.tb, cols := dL Int (eL u.cols) u.cols.length, ex := trD (trO u.ex), rf := u.rf,           od := u.od, ou := u.ou, lt := u.lt, vd := u.vd }         { nm := o.nm, cols := dL Cl (eL o.cols) o.cols.length, ow := o.ow })))   [])
                                                    (.leaf (.fin ⟨Ex.ret, true, [some   (AV.s     (Value.bool       (fitF           { k := r.k, nm := r.nm, tb := r.tb, cols := dL Int (eL r.cols) r.cols.length, ex := trD (trO r.ex), rf := r.rf,             od := r.od, ou := r.ou, lt := r.lt, vd := r.vd }           { nm := t.nm, cols := dL Cl (catD (eL t.cols) t.cols.length (listD [D.v (Value.string more.nm), D.v (Value.int IntKind.u8 more.ty), D.v (Value.int IntKind.u8 more.by1.k), D.v (Value.int IntKind.i64 more.by1.n), D.v (Value.int IntKind.i64 more.by1.hi), D.v (Value.string more.by1.t)] 6)) (t.cols.length + 1), ow := t.ow }           { k := u.k, nm := u.nm, tb := u.tb, cols := dL Int (eL u.cols) u.cols.length, ex := trD (trO u.ex), rf := u.rf,             od := u.od, ou := u.ou, lt := u.lt, vd := u.vd }           { nm := o.nm, cols := dL Cl (eL o.cols) o.cols.length, ow := o.ow } ==         0)))], []⟩))
                                                  )
                                                )
                                              )
                                              .no
                                            )
                                            .no
                                          )
                                          .no
                                        )
                                      )
                                    )
                                  )
                                )
                              )
                              (.ob (ObE (trO r.ex)   (trA (trD (trO r.ex))))
                                (.ob (ObE (trO u.ex)   (trA (trD (trO u.ex))))
                                  (.ob (ObC Tryd.prog 10   [ruA       { k := r.k, nm := r.nm, tb := r.tb, cols := dL Int (eL r.cols) r.cols.length, ex := trD (trO r.ex), rf := r.rf, od := r.od,         ou := r.ou, lt := r.lt, vd := r.vd },     taA { nm := t.nm, cols := dL Cl (eL t.cols) t.cols.length, ow := t.ow },     ruA       { k := u.k, nm := u.nm, tb := u.tb, cols := dL Int (eL u.cols) u.cols.length, ex := trD (trO u.ex), rf := u.rf, od := u.od,         ou := u.ou, lt := u.lt, vd := u.vd },     taA { nm := o.nm, cols := dL Cl (eL o.cols) o.cols.length, ow := o.ow }]   (AV.s     (Value.int IntKind.i64       (fitF         { k := r.k, nm := r.nm, tb := r.tb, cols := dL Int (eL r.cols) r.cols.length, ex := trD (trO r.ex), rf := r.rf,           od := r.od, ou := r.ou, lt := r.lt, vd := r.vd }         { nm := t.nm, cols := dL Cl (eL t.cols) t.cols.length, ow := t.ow }         { k := u.k, nm := u.nm, tb := u.tb, cols := dL Int (eL u.cols) u.cols.length, ex := trD (trO u.ex), rf := u.rf,           od := u.od, ou := u.ou, lt := u.lt, vd := u.vd }         { nm := o.nm, cols := dL Cl (eL o.cols) o.cols.length, ow := o.ow })))   [])
                                    (.test (fitF     { k := r.k, nm := r.nm, tb := r.tb, cols := dL Int (eL r.cols) r.cols.length, ex := trD (trO r.ex), rf := r.rf, od := r.od,       ou := r.ou, lt := r.lt, vd := r.vd }     { nm := t.nm, cols := dL Cl (eL t.cols) t.cols.length, ow := t.ow }     { k := u.k, nm := u.nm, tb := u.tb, cols := dL Int (eL u.cols) u.cols.length, ex := trD (trO u.ex), rf := u.rf, od := u.od,       ou := u.ou, lt := u.lt, vd := u.vd }     { nm := o.nm, cols := dL Cl (eL o.cols) o.cols.length, ow := o.ow } !=   0)
                                      (.leaf (.fin ⟨Ex.ret, true, [some (AV.v (Value.bool true))], []⟩))
                                      (.test (small t.cols.length && small (Tryd.prog.types[33].bytes * t.cols.length))
                                        (.test (t.cols.length.beq t.cols.length && (true && (small (1 + t.cols.length) && small (Tryd.prog.types[33].bytes * (1 + t.cols.length)))))
                                          (.test ((t.cols.length + 1).ble (t.cols.length + 1))
                                            (.ob (ObE (trO r.ex)   (trA (trD (trO r.ex))))
                                              (.ob (ObE (trO u.ex)   (trA (trD (trO u.ex))))
                                                (.ob (ObC Tryd.prog 10   [ruA       { k := r.k, nm := r.nm, tb := r.tb, cols := dL Int (eL r.cols) r.cols.length, ex := trD (trO r.ex), rf := r.rf, od := r.od,         ou := r.ou, lt := r.lt, vd := r.vd },     taA { nm := t.nm, cols := dL Cl (catD (eL t.cols) t.cols.length (listD [D.v (Value.string more.nm), D.v (Value.int IntKind.u8 more.ty), D.v (Value.int IntKind.u8 more.by1.k), D.v (Value.int IntKind.i64 more.by1.n), D.v (Value.int IntKind.i64 more.by1.hi), D.v (Value.string more.by1.t)] 6)) (t.cols.length + 1), ow := t.ow },     ruA       { k := u.k, nm := u.nm, tb := u.tb, cols := dL Int (eL u.cols) u.cols.length, ex := trD (trO u.ex), rf := u.rf, od := u.od,         ou := u.ou, lt := u.lt, vd := u.vd },     taA { nm := o.nm, cols := dL Cl (eL o.cols) o.cols.length, ow := o.ow }]   (AV.s     (Value.int IntKind.i64       (fitF         { k := r.k, nm := r.nm, tb := r.tb, cols := dL Int (eL r.cols) r.cols.length, ex := trD (trO r.ex), rf := r.rf,           od := r.od, ou := r.ou, lt := r.lt, vd := r.vd }         { nm := t.nm, cols := dL Cl (catD (eL t.cols) t.cols.length (listD [D.v (Value.string more.nm), D.v (Value.int IntKind.u8 more.ty), D.v (Value.int IntKind.u8 more.by1.k), D.v (Value.int IntKind.i64 more.by1.n), D.v (Value.int IntKind.i64 more.by1.hi), D.v (Value.string more.by1.t)] 6)) (t.cols.length + 1), ow := t.ow }         { k := u.k, nm := u.nm, tb := u.tb, cols := dL Int (eL u.cols) u.cols.length, ex := trD (trO u.ex), rf := u.rf,           od := u.od, ou := u.ou, lt := u.lt, vd := u.vd }         { nm := o.nm, cols := dL Cl (eL o.cols) o.cols.length, ow := o.ow })))   [])
                                                  (.leaf (.fin ⟨Ex.ret, true, [some   (AV.s     (Value.bool       (fitF           { k := r.k, nm := r.nm, tb := r.tb, cols := dL Int (eL r.cols) r.cols.length, ex := trD (trO r.ex), rf := r.rf,             od := r.od, ou := r.ou, lt := r.lt, vd := r.vd }           { nm := t.nm, cols := dL Cl (catD (eL t.cols) t.cols.length (listD [D.v (Value.string more.nm), D.v (Value.int IntKind.u8 more.ty), D.v (Value.int IntKind.u8 more.by1.k), D.v (Value.int IntKind.i64 more.by1.n), D.v (Value.int IntKind.i64 more.by1.hi), D.v (Value.string more.by1.t)] 6)) (t.cols.length + 1), ow := t.ow }           { k := u.k, nm := u.nm, tb := u.tb, cols := dL Int (eL u.cols) u.cols.length, ex := trD (trO u.ex), rf := u.rf,             od := u.od, ou := u.ou, lt := u.lt, vd := u.vd }           { nm := o.nm, cols := dL Cl (eL o.cols) o.cols.length, ow := o.ow } ==         0)))], []⟩))
                                                )
                                              )
                                            )
                                            .no
                                          )
                                          .no
                                        )
                                        .no
                                      )
                                    )
                                  )
                                )
                              )
                            )
                          )
                        )
                      )
                    )
                  )
                )
              )
            )
          )
        )
      )
    )
  )
)
theorem rle_h (t : Ta) (at1 : Int) (r u : Ru) (o : Ta) (more : Cl) : (ev Tryd.prog baX awakeS 3000 noL 3000 .normal [.c 0 (codeOf Tryd.prog 4)] (params (rle_a t at1 r u o more)) Ev.start).map (lookP Tryd.prog (resOf Tryd.prog 4) [] rle_cf) = rle_t Tryd.prog t at1 r u o more := by kernel_rfl

theorem dL_cat {α : Type} [Inhabited α] [Rec α] (f g : Nat → Nat → D) (n m : Nat) : dL α (catD f n g) (n + m) = dL α f n ++ dL α g m := by
  apply List.ext_getElem
  · simp [dL]
  · intro i h1 h2
    have h1' : i < n + m := by simpa [dL] using h1
    by_cases c : i < n
    · rw [List.getElem_append_left (by simpa [dL] using c)]
      have hb : Nat.blt i n = true := by rw [Nat.blt_eq]; exact c
      have e : catD f n g i = f i := by funext x; simp only [catD, hb, cond_true]
      simp [dL, e]
    · rw [List.getElem_append_right (by simp [dL]; omega)]
      have hb : Nat.blt i n = false := by rw [← Bool.not_eq_true, Nat.blt_eq]; exact c
      have e : catD f n g i = g (i - n) := by funext x; simp only [catD, hb, cond_false]
      simp [dL, e]
theorem dL_sh {α : Type} [Inhabited α] [Rec α] (M : List α) (a m : Nat) (h : a + m ≤ M.length) : dL α (shiftD (eL M) a) m = (M.drop a).take m := by
  apply List.ext_getElem
  · simp [dL]; omega
  · intro i h1 h2
    have h1' : i < m := by simpa [dL] using h1
    simp only [dL, List.getElem_map, List.getElem_range]
    show (Rec.dec (eL M (i + a)) : α) = _
    rw [show (Rec.dec (eL M (i + a)) : α) = M.getD (i + a) default from Rec.dec_enc _, List.getElem_take, List.getElem_drop]
    rw [List.getD_eq_getElem?_getD, List.getElem?_eq_getElem (by omega), Option.getD_some]
    congr 1; omega
def moreD (c : Cl) : List D := [.v (.string c.nm), .v (.int .u8 c.ty), .v (.int .u8 c.by1.k), .v (.int .i64 c.by1.n), .v (.int .i64 c.by1.hi), .v (.string c.by1.t)]
theorem dL_more (M : List Cl) (c : Cl) : dL Cl (catD (eL M) M.length (listD (moreD c) 6)) (M.length + 1) = M ++ [c] := by
  rw [dL_cat, dL_eL]; rfl
theorem dL_less (M : List Cl) (k : Nat) (h : k < M.length) : dL Cl (catD (shiftD (eL M) 0) k (shiftD (eL M) (k + 1))) (k + (M.length - (k + 1))) = M.take k ++ M.drop (k + 1) := by
  rw [dL_cat, dL_takeC M k (by omega), dL_sh M (k + 1) _ (by omega)]
  congr 1
  rw [List.take_of_length_le (by simp)]
theorem u64_nat (n : Nat) (h : n ≤ 1000) : IntKind.u64.wrap (n : Int) = n := by
  have e : IntKind.u64.wrap (n : Int) = (n : Int) % 18446744073709551616 := rfl
  rw [e]; omega
theorem idx_k (z : Int) (n : Nat) (h0 : 0 < n) (h : n ≤ 1000) : ∃ k : Nat, k < n ∧ IntKind.i64.wrap ((IntKind.u64.wrap z).tmod (IntKind.u64.wrap n)) = (k : Int) := by
  rw [u64_nat n h]
  have e : IntKind.u64.wrap z = z % 18446744073709551616 := rfl
  have p : 0 ≤ IntKind.u64.wrap z := by rw [e]; omega
  have a1 := Int.tmod_nonneg (n : Int) p
  have a2 := Int.tmod_lt_of_pos (IntKind.u64.wrap z) (show (0 : Int) < n by omega)
  generalize (IntKind.u64.wrap z).tmod n = q at a1 a2 ⊢
  refine ⟨q.toNat, by omega, ?_⟩
  rw [wrap_lt (by omega) (by omega)]; omega
theorem wiF_len {t : Ta} (h : wiF t = false) : t.cols.length ≤ 40 := by
  unfold wiF at h
  rw [decide_eq_false_iff_not] at h
  apply Classical.byContradiction
  exact fun c => h (.inl (by omega))
theorem colB : Tryd.prog.types[33].bytes = 64 := by kernel_rfl
theorem more_t {m : Nat} (h : m ≤ 40) : (small m && small (Tryd.prog.types[33].bytes * m)) = true := by
  rw [colB, small_ok (by omega), small_ok (by omega)]; rfl
theorem rle_ok (t : Ta) (at1 : Int) (r u : Ru) (o : Ta) (more : Cl) : OCalls Tryd.prog 4 [taA t, .s (.int .i64 at1), ruA r, ruA u, taA o, clA more] (.s (.bool true)) [] := by
  have yev : ∀ x, x = true → Goes ⟨.ret, true, [some (.v (.bool x))], []⟩ [.s (.bool true)] [] := fun x hx => ⟨rfl, (.cons _ _ _ _ (leBv hx.symm) .nil), .nil⟩
  have yes : ∀ x, x = true → Goes ⟨.ret, true, [some (.s (.bool x))], []⟩ [.s (.bool true)] [] := fun x hx => ⟨rfl, (.cons _ _ _ _ (leBs hx.symm) .nil), .nil⟩
  refine OCalls.le (args := rle_a t at1 r u o more) ?_ (.cons _ _ _ _ (.refl _) (.cons _ _ _ _ (.refl _) (.cons _ _ _ _ (ruO_le r) (.cons _ _ _ _ (ruO_le u) (Les.refl _)))))
  refine floyd0 ev_mix ev_ok baX_ok awakeS_ok (by kernel_rfl) [] rle_cf (rle_t _ t at1 r u o more) (rle_h t at1 r u o more) ?_
  unfold rle_t
  have em := dL_more t.cols more
  unfold moreD at em
  simp only [trD_B, dL_eL, em, ru_eta, ta_eta]
  refine hO ⟨wi_ok _⟩ (hS (fun _ => yes _ rfl) fun w1 => hO ⟨wi_ok _⟩ (hS (fun _ => yes _ rfl) fun w2 => hOB (hO ⟨lo_ok _⟩ (hS (fun _ => yes _ rfl) fun _ => hOB (hO ⟨lo_ok _⟩ (hS (fun _ => yes _ rfl) fun _ => hS (fun _ => yes _ rfl) fun _ => hS (fun _ => yes _ rfl) fun _ => hS (fun _ => yes _ rfl) fun _ => hO ⟨mt_ok _⟩ ?_))))))
  have hN := wiF_len w1
  have tail : ∀ {K : PO → Prop}, (∀ o, Goes o [.s (.bool true)] [] → K (.fin o)) → True := fun _ => trivial
  refine hS (fun m1 => hSd (fun m2 => ?_) fun m2 => ?_) fun m1 => ?_
  · obtain ⟨k, hk, hK⟩ := idx_k at1 t.cols.length (by omega) (by omega)
    have e0 : ((k : Int) + 1) = ((k + 1 : Nat) : Int) := by omega
    have e1 : IntKind.i64.wrap ((k : Int) + 1) = ((k + 1 : Nat) : Int) := by rw [wrap_lt (by omega) (by omega)]; omega
    have e2 : ((t.cols.length : Int) - ((k + 1 : Nat) : Int)).toNat = t.cols.length - (k + 1) := by omega
    simp only [hK, e1, e2, Int.sub_zero, Int.toNat_natCast, dL_less t.cols k hk]
    refine hT (decide_eq_true (by rw [u64_nat _ (by omega)]; omega)) (hT (by simp; omega) (hT (more_t (by omega)) (hT (by simp; omega) (hT ?_ (hT (ble_yes (Nat.le_refl _)) (hO ⟨mt_ok _⟩ ?_))))))
    · exact app_ok (k := 64) colB (by omega) (by omega)
    · refine hS (fun h => yev _ ?_) fun _ => ?_
      · rw [mt_less m1 (by omega) k hk] at h; cases h
      · refine hOB (hOB (hO ⟨fi_ok _ _ _ _⟩ (hS (fun _ => yev _ rfl) fun h0 => hT (more_t (by omega)) (hT ?_ (hT (ble_yes (Nat.le_refl _)) (hOB (hOB (hO ⟨fi_ok _ _ _ _⟩ (yes _ ?_)))))))))
        · exact app_ok (k := 64) colB (by omega) (by omega)
        · rw [fit_more more (bne_eq_false_iff_eq.1 h0)]; rfl
  · refine hOB (hOB (hO ⟨fi_ok _ _ _ _⟩ (hS (fun _ => yev _ rfl) fun h0 => hT (more_t (by omega)) (hT ?_ (hT (ble_yes (Nat.le_refl _)) (hOB (hOB (hO ⟨fi_ok _ _ _ _⟩ (yes _ ?_)))))))))
    · exact app_ok (k := 64) colB (by omega) (by omega)
    · rw [fit_more more (bne_eq_false_iff_eq.1 h0)]; rfl
  · refine hOB (hOB (hO ⟨fi_ok _ _ _ _⟩ (hS (fun _ => yev _ rfl) fun h0 => hT (more_t (by omega)) (hT ?_ (hT (ble_yes (Nat.le_refl _)) (hOB (hOB (hO ⟨fi_ok _ _ _ _⟩ (yes _ ?_)))))))))
    · exact app_ok (k := 64) colB (by omega) (by omega)
    · rw [fit_more more (bne_eq_false_iff_eq.1 h0)]; rfl
end Go.Proofs.YtengccmjlaejfaaDoor
end
