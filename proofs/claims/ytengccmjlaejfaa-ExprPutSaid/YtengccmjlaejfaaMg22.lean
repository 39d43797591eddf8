/- What an expression is over a row: the program's tell, Eval, Yes. No condition. -/
import Derived.Test.YtengccmjlaejfaaMg20
import Derived.Test.YtengccmjlaejfaaMg19
section
namespace Go.Proofs.Ytengccmjlaejfaa
open Ev Go.RowKit
set_option maxRecDepth 100000
set_option linter.unusedVariables false
abbrev vks : List TK := [.int .u8, .int .i64, .int .i64, .str]
def k1 : AKs (Vl × Unit) := AKs.cons aV AKs.nil
def k2 : AKs (Vl × (Vl × Unit)) := AKs.cons aV (AKs.cons aV AKs.nil)
noncomputable def snegX : SumBr := plX 46 k1 fun z => (resA2 (xnegR z.1), [])
noncomputable def snotX : SumBr := plX 47 k1 fun z => (resA2 (xnotR z.1), [])
noncomputable def saddX : SumBr := plX 67 k2 fun z => (resA2 (xaddR z.1 z.2.1), [])
noncomputable def ssubX : SumBr := plX 62 k2 fun z => (resA2 (xsubR z.1 z.2.1), [])
noncomputable def smulX : SumBr := plX 68 k2 fun z => (resA2 (xmulR z.1 z.2.1), [])
noncomputable def sequX : SumBr := plX 69 k2 fun z => (resA2 (xequR z.1 z.2.1), [])
noncomputable def slesX : SumBr := plX 70 k2 fun z => (resA2 (xlesR z.1 z.2.1), [])
noncomputable def sandX : SumBr := plX 71 k2 fun z => (resA2 (xandR z.1 z.2.1), [])
noncomputable def sorX : SumBr := plX 72 k2 fun z => (resA2 (xorR z.1 z.2.1), [])
noncomputable def smeetX : SumBr := plX 73 k2 fun z => (resA2 (xmeetR z.1 z.2.1), [])
noncomputable def lgsX : SumBr := orX snegX (orX snotX (orX saddX (orX ssubX (orX smulX (orX sequX (orX slesX (orX sandX (orX sorX (smeetX)))))))))
noncomputable def bothF (op : Int) (a b : Vl) : Vl × Int := if op = 6 then xaddR a b else if op = 7 then xsubR a b else if op = 8 then xmulR a b else if op = 9 then xequR a b else if op = 10 then xlesR a b else if op = 11 then xandR a b else if op = 12 then xorR a b else xmeetR a b
noncomputable def opT (op : Int) (v : Vl) (n : Int) (row : List Vl) (x y : Vl) : Vl × Int := if op = 1 then (v, 0) else if op = 2 then (row.getD n.toNat default, 0) else if op = 3 then xnegR x else if op = 4 then xnotR x else if op = 5 then (⟨2, if x.k = 0 then 1 else 0, 0, ⟨#[]⟩⟩, 0) else bothF op x y
noncomputable def finT (op : Int) (v : Vl) (n : Int) (row : List Vl) (z : List Vl × Int) : Vl × Int := if z.2 = 0 then opT op v n row (z.1.getD 0 default) (z.1.getD 1 default) else (default, z.2)
mutual
noncomputable def tellF (row : List Vl) : Tr → Vl × Int
  | ⟨op, k, vn, hi, t, n, as1⟩ => finT op ⟨k, vn, hi, t⟩ n row (tellLs row as1)
noncomputable def tellLs (row : List Vl) : List Tr → List Vl × Int
  | [] => ([], 0)
  | a :: r => if (tellF row a).2 = 0 then ((tellF row a).1 :: (tellLs row r).1, (tellLs row r).2) else ([], (tellF row a).2)
end
noncomputable def teX : SumBr := obX Try.prog 34 (AKs.cons aTr (AKs.cons (aL Vl) AKs.nil)) fun z => .leaf (resA2 (tellF z.2.1 z.1), [])
noncomputable def tlX : SumBr := orX teX lgsX
def zO : AO := .cells [.v (.int .u8 0), .v (.int .i64 0), .v (.int .i64 0), .v (.string ⟨#[]⟩)] 4 0 true false
theorem k1_free : k1.Free := free_cons (fun _ _ => rfl) free_nil
theorem k2_free : k2.Free := free_cons (fun _ _ => rfl) (free_cons (fun _ _ => rfl) free_nil)
theorem lgsX_ok : SumGO Try.prog (sumS lgsX) := (orX_open (plX_ok (by kernel_rfl) k1_free fun z => xneg_ok z.1) (orX_open (plX_ok (by kernel_rfl) k1_free fun z => xnot_ok z.1) (orX_open (plX_ok (by kernel_rfl) k2_free fun z => xadd_ok z.1 z.2.1) (orX_open (plX_ok (by kernel_rfl) k2_free fun z => xsub_ok z.1 z.2.1) (orX_open (plX_ok (by kernel_rfl) k2_free fun z => xmul_ok z.1 z.2.1) (orX_open (plX_ok (by kernel_rfl) k2_free fun z => xequ_ok z.1 z.2.1) (orX_open (plX_ok (by kernel_rfl) k2_free fun z => xles_ok z.1 z.2.1) (orX_open (plX_ok (by kernel_rfl) k2_free fun z => xand_ok z.1 z.2.1) (orX_open (plX_ok (by kernel_rfl) k2_free fun z => xor_ok z.1 z.2.1) (plX_ok (by kernel_rfl) k2_free fun z => xmeet_ok z.1 z.2.1))))))))))
theorem tlX_ok : SumGO Try.prog (sumS tlX) := orX_open (obX_ok (by kernel_rfl)) lgsX_ok
def tl_cf : Nat → Cfg := cfL [mkC 75 [1, 2, 4, 6, 12, 13, 14] [(2, []), (4, []), (6, [])], mkC 75 [1, 2, 4, 6, 12, 13, 14] [(2, []), (4, []), (6, [])], mkC 75 [1, 2, 4, 6, 12, 13, 14] [(2, []), (4, []), (6, [])]]
def tl_a (t : Tr) (row : List Vl) : List AV := [trO t, .fz (eL row) row.length vks]
noncomputable def tl_t (P : Program) (t : Tr) (row : List Vl) : Br PO :=
(.leaf (.at 0 (ct P 34 0).1 (ct P 34 0).2 ⟨Ex.normal, true, [some (AV.fz (eL row) row.length vks), some (AV.ptr 65536 0 0), some (AV.ptr 65537 0 0), some (AV.ptr 65538 0 0), some (AV.fz (eT t.args) t.args.length ksE), some (AV.s (Value.int IntKind.i64 (Int.ofNat t.args.length))), some (AV.v (Value.int IntKind.i64 (0)))], [OS.o (AO.cells [AV.s (Value.int IntKind.u8 t.op), AV.s (Value.int IntKind.u8 t.k), AV.s (Value.int IntKind.i64 t.vn), AV.s (Value.int IntKind.i64 t.hi), AV.s (Value.string t.t), AV.s (Value.int IntKind.i64 t.n), AV.fz (eT t.args) t.args.length ksE] 7 65536 true false), OS.o (AO.cells [AV.v (Value.int IntKind.u8 (0)), AV.v (Value.int IntKind.i64 (0)), AV.v (Value.int IntKind.i64 (0)), AV.v (Value.string (⟨#[]⟩ : ByteArray))] 4 65537 true false), OS.o (AO.cells [AV.v (Value.int IntKind.u8 (0)), AV.v (Value.int IntKind.i64 (0)), AV.v (Value.int IntKind.i64 (0)), AV.v (Value.string (⟨#[]⟩ : ByteArray)), AV.v (Value.int IntKind.u8 (0)), AV.v (Value.int IntKind.i64 (0)), AV.v (Value.int IntKind.i64 (0)), AV.v (Value.string (⟨#[]⟩ : ByteArray))] 8 65538 true false)]⟩))
theorem tl_h (t : Tr) (row : List Vl) : (ev Try.prog tlX cmpS 3000 noL 3000 .normal [.c 0 (codeOf Try.prog 34)] (params (tl_a t row)) Ev.start).map (lookP Try.prog (resOf Try.prog 34) [] tl_cf) = tl_t Try.prog t row := by kernel_rfl
def tl_v0a (t : Tr) (row : List Vl) (x y : Vl) : List AV := [.fz (eL row) row.length vks, .ptr 65536 0 0, .ptr 65537 0 0, .ptr 65538 0 0, .fz (eT t.args) t.args.length ksE, .s (.int .i64 t.args.length), .v (.int .i64 0)]
def tl_o0a (t : Tr) (row : List Vl) (x y : Vl) : List AO := [boxE t, zO, .cells [.s (.int .u8 x.k), .s (.int .i64 x.n), .s (.int .i64 x.hi), .s (.string x.t), .s (.int .u8 y.k), .s (.int .i64 y.n), .s (.int .i64 y.hi), .s (.string y.t)] 8 0 true false]
noncomputable def tl_t0a (P : Program) (t : Tr) (row : List Vl) (x y : Vl) : Br PO :=
(.test (decide (0 < (↑t.args.length : Int)))
  (.test (decide (0 ≤ 0) && decide (0 < (↑t.args.length : Int)))
    (.ob (ObE   (trA (t.args.getD (Int.toNat 0) default))   (trA     (trD       (trA (t.args.getD (Int.toNat 0) default)))))
      (.ob (ObC Try.prog 34   [trA       (trD         (trA (t.args.getD (Int.toNat 0) default))),     AV.fz (eL (dL Vl (eL row) row.length)) (dL Vl (eL row) row.length).length (Rec.ks Vl)]   (AV.tup     [vlA         (tellF (dL Vl (eL row) row.length)             (trD               (trA (t.args.getD (Int.toNat 0) default)))).fst,       AV.s         (Value.int IntKind.i64           (tellF (dL Vl (eL row) row.length)               (trD                 (trA (t.args.getD (Int.toNat 0) default)))).snd)])   [])
        (.test ((tellF (dL Vl (eL row) row.length)       (trD         (trA (t.args.getD (Int.toNat 0) default)))).snd !=   0)
          (.leaf (.fin ⟨Ex.ret, true, [some   (AV.tup     [AV.v (Value.agg { toList := [Value.int IntKind.u8 (0), Value.int IntKind.i64 (0), Value.int IntKind.i64 (0), Value.string (⟨#[]⟩ : ByteArray)] }),       AV.s         (Value.int IntKind.i64           (tellF (dL Vl (eL row) row.length)               (trD                 (trA (t.args.getD (Int.toNat 0) default)))).snd)])], []⟩))
          (.leaf (.at 0 (ct P 34 0).1 (ct P 34 0).2 ⟨Ex.normal, true, [some (AV.fz (eL row) row.length vks), some (AV.ptr 65536 0 0), some (AV.ptr 65537 0 0), some (AV.ptr 65538 0 0), some (AV.fz (eT t.args) t.args.length ksE), some (AV.s (Value.int IntKind.i64 (Int.ofNat t.args.length))), some (AV.v (Value.int IntKind.i64 (1)))], [OS.o (AO.cells [AV.s (Value.int IntKind.u8 t.op), AV.s (Value.int IntKind.u8 t.k), AV.s (Value.int IntKind.i64 t.vn), AV.s (Value.int IntKind.i64 t.hi), AV.s (Value.string t.t), AV.s (Value.int IntKind.i64 t.n), AV.fz (eT t.args) t.args.length ksE] 7 0 true false), OS.o (AO.cells [AV.v (Value.int IntKind.u8 (0)), AV.v (Value.int IntKind.i64 (0)), AV.v (Value.int IntKind.i64 (0)), AV.v (Value.string (⟨#[]⟩ : ByteArray))] 4 0 true false), OS.o   (AO.cells     [AV.s         (Value.int IntKind.u8           (tellF (dL Vl (eL row) row.length)                 (trD                   (trA (t.args.getD (Int.toNat 0) default)))).fst.k),       AV.s         (Value.int IntKind.i64           (tellF (dL Vl (eL row) row.length)                 (trD                   (trA (t.args.getD (Int.toNat 0) default)))).fst.n),       AV.s         (Value.int IntKind.i64           (tellF (dL Vl (eL row) row.length)                 (trD                   (trA (t.args.getD (Int.toNat 0) default)))).fst.hi),       AV.s         (Value.string           (tellF (dL Vl (eL row) row.length)                 (trD                   (trA (t.args.getD (Int.toNat 0) default)))).fst.t),       AV.s (Value.int IntKind.u8 y.k), AV.s (Value.int IntKind.i64 y.n), AV.s (Value.int IntKind.i64 y.hi), AV.s (Value.string y.t)]     8 0 true false)]⟩))
        )
      )
    )
    .no
  )
  (.test (t.op == 1)
    (.leaf (.fin ⟨Ex.ret, true, [some (AV.tup [AV.agg [AV.s (Value.int IntKind.u8 t.k), AV.s (Value.int IntKind.i64 t.vn), AV.s (Value.int IntKind.i64 t.hi), AV.s (Value.string t.t)], AV.v (Value.int IntKind.i64 (0))])], []⟩))
    (.test (t.op == 2)
      (.test (decide (0 ≤ t.n) && decide (t.n < (↑row.length : Int)))
        (.leaf (.fin ⟨Ex.ret, true, [some (AV.tup [AV.agg [AV.s (Value.int IntKind.u8 (row.getD t.n.toNat default).k), AV.s (Value.int IntKind.i64 (row.getD t.n.toNat default).n), AV.s (Value.int IntKind.i64 (row.getD t.n.toNat default).hi), AV.s (Value.string (row.getD t.n.toNat default).t)], AV.v (Value.int IntKind.i64 (0))])], []⟩))
        .no
      )
      (.test (t.op == 3)
        (.leaf (.fin ⟨Ex.ret, true, [some   (AV.tup     [AV.agg [AV.s (Value.int IntKind.u8 (xnegR { k := x.k, n := x.n, hi := x.hi, t := x.t }).fst.k), AV.s (Value.int IntKind.i64 (xnegR { k := x.k, n := x.n, hi := x.hi, t := x.t }).fst.n), AV.s (Value.int IntKind.i64 (xnegR { k := x.k, n := x.n, hi := x.hi, t := x.t }).fst.hi), AV.s (Value.string (xnegR { k := x.k, n := x.n, hi := x.hi, t := x.t }).fst.t)],       AV.s (Value.int IntKind.i64 (xnegR { k := x.k, n := x.n, hi := x.hi, t := x.t }).snd)])], []⟩))
        (.test (t.op == 4)
          (.leaf (.fin ⟨Ex.ret, true, [some   (AV.tup     [AV.agg [AV.s (Value.int IntKind.u8 (xnotR { k := x.k, n := x.n, hi := x.hi, t := x.t }).fst.k), AV.s (Value.int IntKind.i64 (xnotR { k := x.k, n := x.n, hi := x.hi, t := x.t }).fst.n), AV.s (Value.int IntKind.i64 (xnotR { k := x.k, n := x.n, hi := x.hi, t := x.t }).fst.hi), AV.s (Value.string (xnotR { k := x.k, n := x.n, hi := x.hi, t := x.t }).fst.t)],       AV.s (Value.int IntKind.i64 (xnotR { k := x.k, n := x.n, hi := x.hi, t := x.t }).snd)])], []⟩))
          (.test (t.op == 5)
            (.test (x.k == 0)
              (.leaf (.fin ⟨Ex.ret, true, [some (AV.v (Value.tuple { toList := [Value.agg { toList := [Value.int IntKind.u8 (2), Value.int IntKind.i64 (1), Value.int IntKind.i64 (0), Value.string (⟨#[]⟩ : ByteArray)] }, Value.int IntKind.i64 (0)] }))], []⟩))
              (.leaf (.fin ⟨Ex.ret, true, [some (AV.v (Value.tuple { toList := [Value.agg { toList := [Value.int IntKind.u8 (2), Value.int IntKind.i64 (0), Value.int IntKind.i64 (0), Value.string (⟨#[]⟩ : ByteArray)] }, Value.int IntKind.i64 (0)] }))], []⟩))
            )
            (.test (t.op == 6)
              (.leaf (.fin ⟨Ex.ret, true, [some   (AV.tup     [AV.agg         [AV.s (Value.int IntKind.u8 (xaddR { k := x.k, n := x.n, hi := x.hi, t := x.t } { k := y.k, n := y.n, hi := y.hi, t := y.t }).fst.k), AV.s (Value.int IntKind.i64 (xaddR { k := x.k, n := x.n, hi := x.hi, t := x.t } { k := y.k, n := y.n, hi := y.hi, t := y.t }).fst.n),           AV.s (Value.int IntKind.i64 (xaddR { k := x.k, n := x.n, hi := x.hi, t := x.t } { k := y.k, n := y.n, hi := y.hi, t := y.t }).fst.hi), AV.s (Value.string (xaddR { k := x.k, n := x.n, hi := x.hi, t := x.t } { k := y.k, n := y.n, hi := y.hi, t := y.t }).fst.t)],       AV.s (Value.int IntKind.i64 (xaddR { k := x.k, n := x.n, hi := x.hi, t := x.t } { k := y.k, n := y.n, hi := y.hi, t := y.t }).snd)])], []⟩))
              (.test (t.op == 7)
                (.leaf (.fin ⟨Ex.ret, true, [some   (AV.tup     [AV.agg         [AV.s (Value.int IntKind.u8 (xsubR { k := x.k, n := x.n, hi := x.hi, t := x.t } { k := y.k, n := y.n, hi := y.hi, t := y.t }).fst.k), AV.s (Value.int IntKind.i64 (xsubR { k := x.k, n := x.n, hi := x.hi, t := x.t } { k := y.k, n := y.n, hi := y.hi, t := y.t }).fst.n),           AV.s (Value.int IntKind.i64 (xsubR { k := x.k, n := x.n, hi := x.hi, t := x.t } { k := y.k, n := y.n, hi := y.hi, t := y.t }).fst.hi), AV.s (Value.string (xsubR { k := x.k, n := x.n, hi := x.hi, t := x.t } { k := y.k, n := y.n, hi := y.hi, t := y.t }).fst.t)],       AV.s (Value.int IntKind.i64 (xsubR { k := x.k, n := x.n, hi := x.hi, t := x.t } { k := y.k, n := y.n, hi := y.hi, t := y.t }).snd)])], []⟩))
                (.test (t.op == 8)
                  (.leaf (.fin ⟨Ex.ret, true, [some   (AV.tup     [AV.agg         [AV.s (Value.int IntKind.u8 (xmulR { k := x.k, n := x.n, hi := x.hi, t := x.t } { k := y.k, n := y.n, hi := y.hi, t := y.t }).fst.k), AV.s (Value.int IntKind.i64 (xmulR { k := x.k, n := x.n, hi := x.hi, t := x.t } { k := y.k, n := y.n, hi := y.hi, t := y.t }).fst.n),           AV.s (Value.int IntKind.i64 (xmulR { k := x.k, n := x.n, hi := x.hi, t := x.t } { k := y.k, n := y.n, hi := y.hi, t := y.t }).fst.hi), AV.s (Value.string (xmulR { k := x.k, n := x.n, hi := x.hi, t := x.t } { k := y.k, n := y.n, hi := y.hi, t := y.t }).fst.t)],       AV.s (Value.int IntKind.i64 (xmulR { k := x.k, n := x.n, hi := x.hi, t := x.t } { k := y.k, n := y.n, hi := y.hi, t := y.t }).snd)])], []⟩))
                  (.test (t.op == 9)
                    (.leaf (.fin ⟨Ex.ret, true, [some   (AV.tup     [AV.agg         [AV.s (Value.int IntKind.u8 (xequR { k := x.k, n := x.n, hi := x.hi, t := x.t } { k := y.k, n := y.n, hi := y.hi, t := y.t }).fst.k), AV.s (Value.int IntKind.i64 (xequR { k := x.k, n := x.n, hi := x.hi, t := x.t } { k := y.k, n := y.n, hi := y.hi, t := y.t }).fst.n),           AV.s (Value.int IntKind.i64 (xequR { k := x.k, n := x.n, hi := x.hi, t := x.t } { k := y.k, n := y.n, hi := y.hi, t := y.t }).fst.hi), AV.s (Value.string (xequR { k := x.k, n := x.n, hi := x.hi, t := x.t } { k := y.k, n := y.n, hi := y.hi, t := y.t }).fst.t)],       AV.s (Value.int IntKind.i64 (xequR { k := x.k, n := x.n, hi := x.hi, t := x.t } { k := y.k, n := y.n, hi := y.hi, t := y.t }).snd)])], []⟩))
                    (.test (t.op == 10)
                      (.leaf (.fin ⟨Ex.ret, true, [some   (AV.tup     [AV.agg         [AV.s (Value.int IntKind.u8 (xlesR { k := x.k, n := x.n, hi := x.hi, t := x.t } { k := y.k, n := y.n, hi := y.hi, t := y.t }).fst.k), AV.s (Value.int IntKind.i64 (xlesR { k := x.k, n := x.n, hi := x.hi, t := x.t } { k := y.k, n := y.n, hi := y.hi, t := y.t }).fst.n),           AV.s (Value.int IntKind.i64 (xlesR { k := x.k, n := x.n, hi := x.hi, t := x.t } { k := y.k, n := y.n, hi := y.hi, t := y.t }).fst.hi), AV.s (Value.string (xlesR { k := x.k, n := x.n, hi := x.hi, t := x.t } { k := y.k, n := y.n, hi := y.hi, t := y.t }).fst.t)],       AV.s (Value.int IntKind.i64 (xlesR { k := x.k, n := x.n, hi := x.hi, t := x.t } { k := y.k, n := y.n, hi := y.hi, t := y.t }).snd)])], []⟩))
                      (.test (t.op == 11)
                        (.leaf (.fin ⟨Ex.ret, true, [some   (AV.tup     [AV.agg         [AV.s (Value.int IntKind.u8 (xandR { k := x.k, n := x.n, hi := x.hi, t := x.t } { k := y.k, n := y.n, hi := y.hi, t := y.t }).fst.k), AV.s (Value.int IntKind.i64 (xandR { k := x.k, n := x.n, hi := x.hi, t := x.t } { k := y.k, n := y.n, hi := y.hi, t := y.t }).fst.n),           AV.s (Value.int IntKind.i64 (xandR { k := x.k, n := x.n, hi := x.hi, t := x.t } { k := y.k, n := y.n, hi := y.hi, t := y.t }).fst.hi), AV.s (Value.string (xandR { k := x.k, n := x.n, hi := x.hi, t := x.t } { k := y.k, n := y.n, hi := y.hi, t := y.t }).fst.t)],       AV.s (Value.int IntKind.i64 (xandR { k := x.k, n := x.n, hi := x.hi, t := x.t } { k := y.k, n := y.n, hi := y.hi, t := y.t }).snd)])], []⟩))
                        (.test (t.op == 12)
                          (.leaf (.fin ⟨Ex.ret, true, [some   (AV.tup     [AV.agg         [AV.s (Value.int IntKind.u8 (xorR { k := x.k, n := x.n, hi := x.hi, t := x.t } { k := y.k, n := y.n, hi := y.hi, t := y.t }).fst.k), AV.s (Value.int IntKind.i64 (xorR { k := x.k, n := x.n, hi := x.hi, t := x.t } { k := y.k, n := y.n, hi := y.hi, t := y.t }).fst.n),           AV.s (Value.int IntKind.i64 (xorR { k := x.k, n := x.n, hi := x.hi, t := x.t } { k := y.k, n := y.n, hi := y.hi, t := y.t }).fst.hi), AV.s (Value.string (xorR { k := x.k, n := x.n, hi := x.hi, t := x.t } { k := y.k, n := y.n, hi := y.hi, t := y.t }).fst.t)],       AV.s (Value.int IntKind.i64 (xorR { k := x.k, n := x.n, hi := x.hi, t := x.t } { k := y.k, n := y.n, hi := y.hi, t := y.t }).snd)])], []⟩))
                          (.leaf (.fin ⟨Ex.ret, true, [some   (AV.tup     [AV.agg         [AV.s (Value.int IntKind.u8 (xmeetR { k := x.k, n := x.n, hi := x.hi, t := x.t } { k := y.k, n := y.n, hi := y.hi, t := y.t }).fst.k), AV.s (Value.int IntKind.i64 (xmeetR { k := x.k, n := x.n, hi := x.hi, t := x.t } { k := y.k, n := y.n, hi := y.hi, t := y.t }).fst.n),           AV.s (Value.int IntKind.i64 (xmeetR { k := x.k, n := x.n, hi := x.hi, t := x.t } { k := y.k, n := y.n, hi := y.hi, t := y.t }).fst.hi), AV.s (Value.string (xmeetR { k := x.k, n := x.n, hi := x.hi, t := x.t } { k := y.k, n := y.n, hi := y.hi, t := y.t }).fst.t)],       AV.s (Value.int IntKind.i64 (xmeetR { k := x.k, n := x.n, hi := x.hi, t := x.t } { k := y.k, n := y.n, hi := y.hi, t := y.t }).snd)])], []⟩))
                        )
                      )
                    )
                  )
                )
              )
            )
          )
        )
      )
    )
  )
)
theorem tl_h0a (t : Tr) (row : List Vl) (x y : Vl) (j : Nat → Value) : (ev Try.prog tlX cmpS 3000 noL 3000 .normal (hd Try.prog 34 0) (mkE (tl_cf 0) (tl_v0a t row x y) j) (mkH openB (tl_o0a t row x y))).map (lookP Try.prog (resOf Try.prog 34) [] tl_cf) = tl_t0a Try.prog t row x y := by kernel_rfl
def tl_v0b (t : Tr) (row : List Vl) (x y : Vl) : List AV := [.fz (eL row) row.length vks, .ptr 65536 0 0, .ptr 65537 0 0, .ptr 65538 0 0, .fz (eT t.args) t.args.length ksE, .s (.int .i64 t.args.length), .v (.int .i64 1)]
def tl_o0b (t : Tr) (row : List Vl) (x y : Vl) : List AO := [boxE t, zO, .cells [.s (.int .u8 x.k), .s (.int .i64 x.n), .s (.int .i64 x.hi), .s (.string x.t), .s (.int .u8 y.k), .s (.int .i64 y.n), .s (.int .i64 y.hi), .s (.string y.t)] 8 0 true false]
noncomputable def tl_t0b (P : Program) (t : Tr) (row : List Vl) (x y : Vl) : Br PO :=
(.test (decide (1 < (↑t.args.length : Int)))
  (.test (decide (0 ≤ 1) && decide (1 < (↑t.args.length : Int)))
    (.ob (ObE   (trA (t.args.getD (Int.toNat 1) default))   (trA     (trD       (trA (t.args.getD (Int.toNat 1) default)))))
      (.ob (ObC Try.prog 34   [trA       (trD         (trA (t.args.getD (Int.toNat 1) default))),     AV.fz (eL (dL Vl (eL row) row.length)) (dL Vl (eL row) row.length).length (Rec.ks Vl)]   (AV.tup     [vlA         (tellF (dL Vl (eL row) row.length)             (trD               (trA (t.args.getD (Int.toNat 1) default)))).fst,       AV.s         (Value.int IntKind.i64           (tellF (dL Vl (eL row) row.length)               (trD                 (trA (t.args.getD (Int.toNat 1) default)))).snd)])   [])
        (.test ((tellF (dL Vl (eL row) row.length)       (trD         (trA (t.args.getD (Int.toNat 1) default)))).snd !=   0)
          (.leaf (.fin ⟨Ex.ret, true, [some   (AV.tup     [AV.v (Value.agg { toList := [Value.int IntKind.u8 (0), Value.int IntKind.i64 (0), Value.int IntKind.i64 (0), Value.string (⟨#[]⟩ : ByteArray)] }),       AV.s         (Value.int IntKind.i64           (tellF (dL Vl (eL row) row.length)               (trD                 (trA (t.args.getD (Int.toNat 1) default)))).snd)])], []⟩))
          (.leaf (.at 0 (ct P 34 0).1 (ct P 34 0).2 ⟨Ex.normal, true, [some (AV.fz (eL row) row.length vks), some (AV.ptr 65536 0 0), some (AV.ptr 65537 0 0), some (AV.ptr 65538 0 0), some (AV.fz (eT t.args) t.args.length ksE), some (AV.s (Value.int IntKind.i64 (Int.ofNat t.args.length))), some (AV.v (Value.int IntKind.i64 (2)))], [OS.o (AO.cells [AV.s (Value.int IntKind.u8 t.op), AV.s (Value.int IntKind.u8 t.k), AV.s (Value.int IntKind.i64 t.vn), AV.s (Value.int IntKind.i64 t.hi), AV.s (Value.string t.t), AV.s (Value.int IntKind.i64 t.n), AV.fz (eT t.args) t.args.length ksE] 7 0 true false), OS.o (AO.cells [AV.v (Value.int IntKind.u8 (0)), AV.v (Value.int IntKind.i64 (0)), AV.v (Value.int IntKind.i64 (0)), AV.v (Value.string (⟨#[]⟩ : ByteArray))] 4 0 true false), OS.o   (AO.cells     [AV.s (Value.int IntKind.u8 x.k), AV.s (Value.int IntKind.i64 x.n), AV.s (Value.int IntKind.i64 x.hi), AV.s (Value.string x.t),       AV.s         (Value.int IntKind.u8           (tellF (dL Vl (eL row) row.length)                 (trD                   (trA (t.args.getD (Int.toNat 1) default)))).fst.k),       AV.s         (Value.int IntKind.i64           (tellF (dL Vl (eL row) row.length)                 (trD                   (trA (t.args.getD (Int.toNat 1) default)))).fst.n),       AV.s         (Value.int IntKind.i64           (tellF (dL Vl (eL row) row.length)                 (trD                   (trA (t.args.getD (Int.toNat 1) default)))).fst.hi),       AV.s         (Value.string           (tellF (dL Vl (eL row) row.length)                 (trD                   (trA (t.args.getD (Int.toNat 1) default)))).fst.t)]     8 0 true false)]⟩))
        )
      )
    )
    .no
  )
  (.test (t.op == 1)
    (.leaf (.fin ⟨Ex.ret, true, [some (AV.tup [AV.agg [AV.s (Value.int IntKind.u8 t.k), AV.s (Value.int IntKind.i64 t.vn), AV.s (Value.int IntKind.i64 t.hi), AV.s (Value.string t.t)], AV.v (Value.int IntKind.i64 (0))])], []⟩))
    (.test (t.op == 2)
      (.test (decide (0 ≤ t.n) && decide (t.n < (↑row.length : Int)))
        (.leaf (.fin ⟨Ex.ret, true, [some (AV.tup [AV.agg [AV.s (Value.int IntKind.u8 (row.getD t.n.toNat default).k), AV.s (Value.int IntKind.i64 (row.getD t.n.toNat default).n), AV.s (Value.int IntKind.i64 (row.getD t.n.toNat default).hi), AV.s (Value.string (row.getD t.n.toNat default).t)], AV.v (Value.int IntKind.i64 (0))])], []⟩))
        .no
      )
      (.test (t.op == 3)
        (.leaf (.fin ⟨Ex.ret, true, [some   (AV.tup     [AV.agg [AV.s (Value.int IntKind.u8 (xnegR { k := x.k, n := x.n, hi := x.hi, t := x.t }).fst.k), AV.s (Value.int IntKind.i64 (xnegR { k := x.k, n := x.n, hi := x.hi, t := x.t }).fst.n), AV.s (Value.int IntKind.i64 (xnegR { k := x.k, n := x.n, hi := x.hi, t := x.t }).fst.hi), AV.s (Value.string (xnegR { k := x.k, n := x.n, hi := x.hi, t := x.t }).fst.t)],       AV.s (Value.int IntKind.i64 (xnegR { k := x.k, n := x.n, hi := x.hi, t := x.t }).snd)])], []⟩))
        (.test (t.op == 4)
          (.leaf (.fin ⟨Ex.ret, true, [some   (AV.tup     [AV.agg [AV.s (Value.int IntKind.u8 (xnotR { k := x.k, n := x.n, hi := x.hi, t := x.t }).fst.k), AV.s (Value.int IntKind.i64 (xnotR { k := x.k, n := x.n, hi := x.hi, t := x.t }).fst.n), AV.s (Value.int IntKind.i64 (xnotR { k := x.k, n := x.n, hi := x.hi, t := x.t }).fst.hi), AV.s (Value.string (xnotR { k := x.k, n := x.n, hi := x.hi, t := x.t }).fst.t)],       AV.s (Value.int IntKind.i64 (xnotR { k := x.k, n := x.n, hi := x.hi, t := x.t }).snd)])], []⟩))
          (.test (t.op == 5)
            (.test (x.k == 0)
              (.leaf (.fin ⟨Ex.ret, true, [some (AV.v (Value.tuple { toList := [Value.agg { toList := [Value.int IntKind.u8 (2), Value.int IntKind.i64 (1), Value.int IntKind.i64 (0), Value.string (⟨#[]⟩ : ByteArray)] }, Value.int IntKind.i64 (0)] }))], []⟩))
              (.leaf (.fin ⟨Ex.ret, true, [some (AV.v (Value.tuple { toList := [Value.agg { toList := [Value.int IntKind.u8 (2), Value.int IntKind.i64 (0), Value.int IntKind.i64 (0), Value.string (⟨#[]⟩ : ByteArray)] }, Value.int IntKind.i64 (0)] }))], []⟩))
            )
            (.test (t.op == 6)
              (.leaf (.fin ⟨Ex.ret, true, [some   (AV.tup     [AV.agg         [AV.s (Value.int IntKind.u8 (xaddR { k := x.k, n := x.n, hi := x.hi, t := x.t } { k := y.k, n := y.n, hi := y.hi, t := y.t }).fst.k), AV.s (Value.int IntKind.i64 (xaddR { k := x.k, n := x.n, hi := x.hi, t := x.t } { k := y.k, n := y.n, hi := y.hi, t := y.t }).fst.n),           AV.s (Value.int IntKind.i64 (xaddR { k := x.k, n := x.n, hi := x.hi, t := x.t } { k := y.k, n := y.n, hi := y.hi, t := y.t }).fst.hi), AV.s (Value.string (xaddR { k := x.k, n := x.n, hi := x.hi, t := x.t } { k := y.k, n := y.n, hi := y.hi, t := y.t }).fst.t)],       AV.s (Value.int IntKind.i64 (xaddR { k := x.k, n := x.n, hi := x.hi, t := x.t } { k := y.k, n := y.n, hi := y.hi, t := y.t }).snd)])], []⟩))
              (.test (t.op == 7)
                (.leaf (.fin ⟨Ex.ret, true, [some   (AV.tup     [AV.agg         [AV.s (Value.int IntKind.u8 (xsubR { k := x.k, n := x.n, hi := x.hi, t := x.t } { k := y.k, n := y.n, hi := y.hi, t := y.t }).fst.k), AV.s (Value.int IntKind.i64 (xsubR { k := x.k, n := x.n, hi := x.hi, t := x.t } { k := y.k, n := y.n, hi := y.hi, t := y.t }).fst.n),           AV.s (Value.int IntKind.i64 (xsubR { k := x.k, n := x.n, hi := x.hi, t := x.t } { k := y.k, n := y.n, hi := y.hi, t := y.t }).fst.hi), AV.s (Value.string (xsubR { k := x.k, n := x.n, hi := x.hi, t := x.t } { k := y.k, n := y.n, hi := y.hi, t := y.t }).fst.t)],       AV.s (Value.int IntKind.i64 (xsubR { k := x.k, n := x.n, hi := x.hi, t := x.t } { k := y.k, n := y.n, hi := y.hi, t := y.t }).snd)])], []⟩))
                (.test (t.op == 8)
                  (.leaf (.fin ⟨Ex.ret, true, [some   (AV.tup     [AV.agg         [AV.s (Value.int IntKind.u8 (xmulR { k := x.k, n := x.n, hi := x.hi, t := x.t } { k := y.k, n := y.n, hi := y.hi, t := y.t }).fst.k), AV.s (Value.int IntKind.i64 (xmulR { k := x.k, n := x.n, hi := x.hi, t := x.t } { k := y.k, n := y.n, hi := y.hi, t := y.t }).fst.n),           AV.s (Value.int IntKind.i64 (xmulR { k := x.k, n := x.n, hi := x.hi, t := x.t } { k := y.k, n := y.n, hi := y.hi, t := y.t }).fst.hi), AV.s (Value.string (xmulR { k := x.k, n := x.n, hi := x.hi, t := x.t } { k := y.k, n := y.n, hi := y.hi, t := y.t }).fst.t)],       AV.s (Value.int IntKind.i64 (xmulR { k := x.k, n := x.n, hi := x.hi, t := x.t } { k := y.k, n := y.n, hi := y.hi, t := y.t }).snd)])], []⟩))
                  (.test (t.op == 9)
                    (.leaf (.fin ⟨Ex.ret, true, [some   (AV.tup     [AV.agg         [AV.s (Value.int IntKind.u8 (xequR { k := x.k, n := x.n, hi := x.hi, t := x.t } { k := y.k, n := y.n, hi := y.hi, t := y.t }).fst.k), AV.s (Value.int IntKind.i64 (xequR { k := x.k, n := x.n, hi := x.hi, t := x.t } { k := y.k, n := y.n, hi := y.hi, t := y.t }).fst.n),           AV.s (Value.int IntKind.i64 (xequR { k := x.k, n := x.n, hi := x.hi, t := x.t } { k := y.k, n := y.n, hi := y.hi, t := y.t }).fst.hi), AV.s (Value.string (xequR { k := x.k, n := x.n, hi := x.hi, t := x.t } { k := y.k, n := y.n, hi := y.hi, t := y.t }).fst.t)],       AV.s (Value.int IntKind.i64 (xequR { k := x.k, n := x.n, hi := x.hi, t := x.t } { k := y.k, n := y.n, hi := y.hi, t := y.t }).snd)])], []⟩))
                    (.test (t.op == 10)
                      (.leaf (.fin ⟨Ex.ret, true, [some   (AV.tup     [AV.agg         [AV.s (Value.int IntKind.u8 (xlesR { k := x.k, n := x.n, hi := x.hi, t := x.t } { k := y.k, n := y.n, hi := y.hi, t := y.t }).fst.k), AV.s (Value.int IntKind.i64 (xlesR { k := x.k, n := x.n, hi := x.hi, t := x.t } { k := y.k, n := y.n, hi := y.hi, t := y.t }).fst.n),           AV.s (Value.int IntKind.i64 (xlesR { k := x.k, n := x.n, hi := x.hi, t := x.t } { k := y.k, n := y.n, hi := y.hi, t := y.t }).fst.hi), AV.s (Value.string (xlesR { k := x.k, n := x.n, hi := x.hi, t := x.t } { k := y.k, n := y.n, hi := y.hi, t := y.t }).fst.t)],       AV.s (Value.int IntKind.i64 (xlesR { k := x.k, n := x.n, hi := x.hi, t := x.t } { k := y.k, n := y.n, hi := y.hi, t := y.t }).snd)])], []⟩))
                      (.test (t.op == 11)
                        (.leaf (.fin ⟨Ex.ret, true, [some   (AV.tup     [AV.agg         [AV.s (Value.int IntKind.u8 (xandR { k := x.k, n := x.n, hi := x.hi, t := x.t } { k := y.k, n := y.n, hi := y.hi, t := y.t }).fst.k), AV.s (Value.int IntKind.i64 (xandR { k := x.k, n := x.n, hi := x.hi, t := x.t } { k := y.k, n := y.n, hi := y.hi, t := y.t }).fst.n),           AV.s (Value.int IntKind.i64 (xandR { k := x.k, n := x.n, hi := x.hi, t := x.t } { k := y.k, n := y.n, hi := y.hi, t := y.t }).fst.hi), AV.s (Value.string (xandR { k := x.k, n := x.n, hi := x.hi, t := x.t } { k := y.k, n := y.n, hi := y.hi, t := y.t }).fst.t)],       AV.s (Value.int IntKind.i64 (xandR { k := x.k, n := x.n, hi := x.hi, t := x.t } { k := y.k, n := y.n, hi := y.hi, t := y.t }).snd)])], []⟩))
                        (.test (t.op == 12)
                          (.leaf (.fin ⟨Ex.ret, true, [some   (AV.tup     [AV.agg         [AV.s (Value.int IntKind.u8 (xorR { k := x.k, n := x.n, hi := x.hi, t := x.t } { k := y.k, n := y.n, hi := y.hi, t := y.t }).fst.k), AV.s (Value.int IntKind.i64 (xorR { k := x.k, n := x.n, hi := x.hi, t := x.t } { k := y.k, n := y.n, hi := y.hi, t := y.t }).fst.n),           AV.s (Value.int IntKind.i64 (xorR { k := x.k, n := x.n, hi := x.hi, t := x.t } { k := y.k, n := y.n, hi := y.hi, t := y.t }).fst.hi), AV.s (Value.string (xorR { k := x.k, n := x.n, hi := x.hi, t := x.t } { k := y.k, n := y.n, hi := y.hi, t := y.t }).fst.t)],       AV.s (Value.int IntKind.i64 (xorR { k := x.k, n := x.n, hi := x.hi, t := x.t } { k := y.k, n := y.n, hi := y.hi, t := y.t }).snd)])], []⟩))
                          (.leaf (.fin ⟨Ex.ret, true, [some   (AV.tup     [AV.agg         [AV.s (Value.int IntKind.u8 (xmeetR { k := x.k, n := x.n, hi := x.hi, t := x.t } { k := y.k, n := y.n, hi := y.hi, t := y.t }).fst.k), AV.s (Value.int IntKind.i64 (xmeetR { k := x.k, n := x.n, hi := x.hi, t := x.t } { k := y.k, n := y.n, hi := y.hi, t := y.t }).fst.n),           AV.s (Value.int IntKind.i64 (xmeetR { k := x.k, n := x.n, hi := x.hi, t := x.t } { k := y.k, n := y.n, hi := y.hi, t := y.t }).fst.hi), AV.s (Value.string (xmeetR { k := x.k, n := x.n, hi := x.hi, t := x.t } { k := y.k, n := y.n, hi := y.hi, t := y.t }).fst.t)],       AV.s (Value.int IntKind.i64 (xmeetR { k := x.k, n := x.n, hi := x.hi, t := x.t } { k := y.k, n := y.n, hi := y.hi, t := y.t }).snd)])], []⟩))
                        )
                      )
                    )
                  )
                )
              )
            )
          )
        )
      )
    )
  )
)
theorem tl_h0b (t : Tr) (row : List Vl) (x y : Vl) (j : Nat → Value) : (ev Try.prog tlX cmpS 3000 noL 3000 .normal (hd Try.prog 34 0) (mkE (tl_cf 0) (tl_v0b t row x y) j) (mkH openB (tl_o0b t row x y))).map (lookP Try.prog (resOf Try.prog 34) [] tl_cf) = tl_t0b Try.prog t row x y := by kernel_rfl
def tl_v0c (t : Tr) (row : List Vl) (x y : Vl) : List AV := [.fz (eL row) row.length vks, .ptr 65536 0 0, .ptr 65537 0 0, .ptr 65538 0 0, .fz (eT t.args) t.args.length ksE, .s (.int .i64 t.args.length), .v (.int .i64 2)]
def tl_o0c (t : Tr) (row : List Vl) (x y : Vl) : List AO := [boxE t, zO, .cells [.s (.int .u8 x.k), .s (.int .i64 x.n), .s (.int .i64 x.hi), .s (.string x.t), .s (.int .u8 y.k), .s (.int .i64 y.n), .s (.int .i64 y.hi), .s (.string y.t)] 8 0 true false]
noncomputable def tl_t0c (P : Program) (t : Tr) (row : List Vl) (x y : Vl) : Br PO :=
(.test (decide (2 < (↑t.args.length : Int)))
  (.test (decide (0 ≤ 2) && decide (2 < (↑t.args.length : Int)))
    (.ob (ObE   (trA (t.args.getD (Int.toNat 2) default))   (trA     (trD       (trA (t.args.getD (Int.toNat 2) default)))))
      (.ob (ObC Try.prog 34   [trA       (trD         (trA (t.args.getD (Int.toNat 2) default))),     AV.fz (eL (dL Vl (eL row) row.length)) (dL Vl (eL row) row.length).length (Rec.ks Vl)]   (AV.tup     [vlA         (tellF (dL Vl (eL row) row.length)             (trD               (trA (t.args.getD (Int.toNat 2) default)))).fst,       AV.s         (Value.int IntKind.i64           (tellF (dL Vl (eL row) row.length)               (trD                 (trA (t.args.getD (Int.toNat 2) default)))).snd)])   [])
        (.test ((tellF (dL Vl (eL row) row.length)       (trD         (trA (t.args.getD (Int.toNat 2) default)))).snd !=   0)
          (.leaf (.fin ⟨Ex.ret, true, [some   (AV.tup     [AV.v (Value.agg { toList := [Value.int IntKind.u8 (0), Value.int IntKind.i64 (0), Value.int IntKind.i64 (0), Value.string (⟨#[]⟩ : ByteArray)] }),       AV.s         (Value.int IntKind.i64           (tellF (dL Vl (eL row) row.length)               (trD                 (trA (t.args.getD (Int.toNat 2) default)))).snd)])], []⟩))
          .no
        )
      )
    )
    .no
  )
  (.test (t.op == 1)
    (.leaf (.fin ⟨Ex.ret, true, [some (AV.tup [AV.agg [AV.s (Value.int IntKind.u8 t.k), AV.s (Value.int IntKind.i64 t.vn), AV.s (Value.int IntKind.i64 t.hi), AV.s (Value.string t.t)], AV.v (Value.int IntKind.i64 (0))])], []⟩))
    (.test (t.op == 2)
      (.test (decide (0 ≤ t.n) && decide (t.n < (↑row.length : Int)))
        (.leaf (.fin ⟨Ex.ret, true, [some (AV.tup [AV.agg [AV.s (Value.int IntKind.u8 (row.getD t.n.toNat default).k), AV.s (Value.int IntKind.i64 (row.getD t.n.toNat default).n), AV.s (Value.int IntKind.i64 (row.getD t.n.toNat default).hi), AV.s (Value.string (row.getD t.n.toNat default).t)], AV.v (Value.int IntKind.i64 (0))])], []⟩))
        .no
      )
      (.test (t.op == 3)
        (.leaf (.fin ⟨Ex.ret, true, [some   (AV.tup     [AV.agg [AV.s (Value.int IntKind.u8 (xnegR { k := x.k, n := x.n, hi := x.hi, t := x.t }).fst.k), AV.s (Value.int IntKind.i64 (xnegR { k := x.k, n := x.n, hi := x.hi, t := x.t }).fst.n), AV.s (Value.int IntKind.i64 (xnegR { k := x.k, n := x.n, hi := x.hi, t := x.t }).fst.hi), AV.s (Value.string (xnegR { k := x.k, n := x.n, hi := x.hi, t := x.t }).fst.t)],       AV.s (Value.int IntKind.i64 (xnegR { k := x.k, n := x.n, hi := x.hi, t := x.t }).snd)])], []⟩))
        (.test (t.op == 4)
          (.leaf (.fin ⟨Ex.ret, true, [some   (AV.tup     [AV.agg [AV.s (Value.int IntKind.u8 (xnotR { k := x.k, n := x.n, hi := x.hi, t := x.t }).fst.k), AV.s (Value.int IntKind.i64 (xnotR { k := x.k, n := x.n, hi := x.hi, t := x.t }).fst.n), AV.s (Value.int IntKind.i64 (xnotR { k := x.k, n := x.n, hi := x.hi, t := x.t }).fst.hi), AV.s (Value.string (xnotR { k := x.k, n := x.n, hi := x.hi, t := x.t }).fst.t)],       AV.s (Value.int IntKind.i64 (xnotR { k := x.k, n := x.n, hi := x.hi, t := x.t }).snd)])], []⟩))
          (.test (t.op == 5)
            (.test (x.k == 0)
              (.leaf (.fin ⟨Ex.ret, true, [some (AV.v (Value.tuple { toList := [Value.agg { toList := [Value.int IntKind.u8 (2), Value.int IntKind.i64 (1), Value.int IntKind.i64 (0), Value.string (⟨#[]⟩ : ByteArray)] }, Value.int IntKind.i64 (0)] }))], []⟩))
              (.leaf (.fin ⟨Ex.ret, true, [some (AV.v (Value.tuple { toList := [Value.agg { toList := [Value.int IntKind.u8 (2), Value.int IntKind.i64 (0), Value.int IntKind.i64 (0), Value.string (⟨#[]⟩ : ByteArray)] }, Value.int IntKind.i64 (0)] }))], []⟩))
            )
            (.test (t.op == 6)
              (.leaf (.fin ⟨Ex.ret, true, [some   (AV.tup     [AV.agg         [AV.s (Value.int IntKind.u8 (xaddR { k := x.k, n := x.n, hi := x.hi, t := x.t } { k := y.k, n := y.n, hi := y.hi, t := y.t }).fst.k), AV.s (Value.int IntKind.i64 (xaddR { k := x.k, n := x.n, hi := x.hi, t := x.t } { k := y.k, n := y.n, hi := y.hi, t := y.t }).fst.n),           AV.s (Value.int IntKind.i64 (xaddR { k := x.k, n := x.n, hi := x.hi, t := x.t } { k := y.k, n := y.n, hi := y.hi, t := y.t }).fst.hi), AV.s (Value.string (xaddR { k := x.k, n := x.n, hi := x.hi, t := x.t } { k := y.k, n := y.n, hi := y.hi, t := y.t }).fst.t)],       AV.s (Value.int IntKind.i64 (xaddR { k := x.k, n := x.n, hi := x.hi, t := x.t } { k := y.k, n := y.n, hi := y.hi, t := y.t }).snd)])], []⟩))
              (.test (t.op == 7)
                (.leaf (.fin ⟨Ex.ret, true, [some   (AV.tup     [AV.agg         [AV.s (Value.int IntKind.u8 (xsubR { k := x.k, n := x.n, hi := x.hi, t := x.t } { k := y.k, n := y.n, hi := y.hi, t := y.t }).fst.k), AV.s (Value.int IntKind.i64 (xsubR { k := x.k, n := x.n, hi := x.hi, t := x.t } { k := y.k, n := y.n, hi := y.hi, t := y.t }).fst.n),           AV.s (Value.int IntKind.i64 (xsubR { k := x.k, n := x.n, hi := x.hi, t := x.t } { k := y.k, n := y.n, hi := y.hi, t := y.t }).fst.hi), AV.s (Value.string (xsubR { k := x.k, n := x.n, hi := x.hi, t := x.t } { k := y.k, n := y.n, hi := y.hi, t := y.t }).fst.t)],       AV.s (Value.int IntKind.i64 (xsubR { k := x.k, n := x.n, hi := x.hi, t := x.t } { k := y.k, n := y.n, hi := y.hi, t := y.t }).snd)])], []⟩))
                (.test (t.op == 8)
                  (.leaf (.fin ⟨Ex.ret, true, [some   (AV.tup     [AV.agg         [AV.s (Value.int IntKind.u8 (xmulR { k := x.k, n := x.n, hi := x.hi, t := x.t } { k := y.k, n := y.n, hi := y.hi, t := y.t }).fst.k), AV.s (Value.int IntKind.i64 (xmulR { k := x.k, n := x.n, hi := x.hi, t := x.t } { k := y.k, n := y.n, hi := y.hi, t := y.t }).fst.n),           AV.s (Value.int IntKind.i64 (xmulR { k := x.k, n := x.n, hi := x.hi, t := x.t } { k := y.k, n := y.n, hi := y.hi, t := y.t }).fst.hi), AV.s (Value.string (xmulR { k := x.k, n := x.n, hi := x.hi, t := x.t } { k := y.k, n := y.n, hi := y.hi, t := y.t }).fst.t)],       AV.s (Value.int IntKind.i64 (xmulR { k := x.k, n := x.n, hi := x.hi, t := x.t } { k := y.k, n := y.n, hi := y.hi, t := y.t }).snd)])], []⟩))
                  (.test (t.op == 9)
                    (.leaf (.fin ⟨Ex.ret, true, [some   (AV.tup     [AV.agg         [AV.s (Value.int IntKind.u8 (xequR { k := x.k, n := x.n, hi := x.hi, t := x.t } { k := y.k, n := y.n, hi := y.hi, t := y.t }).fst.k), AV.s (Value.int IntKind.i64 (xequR { k := x.k, n := x.n, hi := x.hi, t := x.t } { k := y.k, n := y.n, hi := y.hi, t := y.t }).fst.n),           AV.s (Value.int IntKind.i64 (xequR { k := x.k, n := x.n, hi := x.hi, t := x.t } { k := y.k, n := y.n, hi := y.hi, t := y.t }).fst.hi), AV.s (Value.string (xequR { k := x.k, n := x.n, hi := x.hi, t := x.t } { k := y.k, n := y.n, hi := y.hi, t := y.t }).fst.t)],       AV.s (Value.int IntKind.i64 (xequR { k := x.k, n := x.n, hi := x.hi, t := x.t } { k := y.k, n := y.n, hi := y.hi, t := y.t }).snd)])], []⟩))
                    (.test (t.op == 10)
                      (.leaf (.fin ⟨Ex.ret, true, [some   (AV.tup     [AV.agg         [AV.s (Value.int IntKind.u8 (xlesR { k := x.k, n := x.n, hi := x.hi, t := x.t } { k := y.k, n := y.n, hi := y.hi, t := y.t }).fst.k), AV.s (Value.int IntKind.i64 (xlesR { k := x.k, n := x.n, hi := x.hi, t := x.t } { k := y.k, n := y.n, hi := y.hi, t := y.t }).fst.n),           AV.s (Value.int IntKind.i64 (xlesR { k := x.k, n := x.n, hi := x.hi, t := x.t } { k := y.k, n := y.n, hi := y.hi, t := y.t }).fst.hi), AV.s (Value.string (xlesR { k := x.k, n := x.n, hi := x.hi, t := x.t } { k := y.k, n := y.n, hi := y.hi, t := y.t }).fst.t)],       AV.s (Value.int IntKind.i64 (xlesR { k := x.k, n := x.n, hi := x.hi, t := x.t } { k := y.k, n := y.n, hi := y.hi, t := y.t }).snd)])], []⟩))
                      (.test (t.op == 11)
                        (.leaf (.fin ⟨Ex.ret, true, [some   (AV.tup     [AV.agg         [AV.s (Value.int IntKind.u8 (xandR { k := x.k, n := x.n, hi := x.hi, t := x.t } { k := y.k, n := y.n, hi := y.hi, t := y.t }).fst.k), AV.s (Value.int IntKind.i64 (xandR { k := x.k, n := x.n, hi := x.hi, t := x.t } { k := y.k, n := y.n, hi := y.hi, t := y.t }).fst.n),           AV.s (Value.int IntKind.i64 (xandR { k := x.k, n := x.n, hi := x.hi, t := x.t } { k := y.k, n := y.n, hi := y.hi, t := y.t }).fst.hi), AV.s (Value.string (xandR { k := x.k, n := x.n, hi := x.hi, t := x.t } { k := y.k, n := y.n, hi := y.hi, t := y.t }).fst.t)],       AV.s (Value.int IntKind.i64 (xandR { k := x.k, n := x.n, hi := x.hi, t := x.t } { k := y.k, n := y.n, hi := y.hi, t := y.t }).snd)])], []⟩))
                        (.test (t.op == 12)
                          (.leaf (.fin ⟨Ex.ret, true, [some   (AV.tup     [AV.agg         [AV.s (Value.int IntKind.u8 (xorR { k := x.k, n := x.n, hi := x.hi, t := x.t } { k := y.k, n := y.n, hi := y.hi, t := y.t }).fst.k), AV.s (Value.int IntKind.i64 (xorR { k := x.k, n := x.n, hi := x.hi, t := x.t } { k := y.k, n := y.n, hi := y.hi, t := y.t }).fst.n),           AV.s (Value.int IntKind.i64 (xorR { k := x.k, n := x.n, hi := x.hi, t := x.t } { k := y.k, n := y.n, hi := y.hi, t := y.t }).fst.hi), AV.s (Value.string (xorR { k := x.k, n := x.n, hi := x.hi, t := x.t } { k := y.k, n := y.n, hi := y.hi, t := y.t }).fst.t)],       AV.s (Value.int IntKind.i64 (xorR { k := x.k, n := x.n, hi := x.hi, t := x.t } { k := y.k, n := y.n, hi := y.hi, t := y.t }).snd)])], []⟩))
                          (.leaf (.fin ⟨Ex.ret, true, [some   (AV.tup     [AV.agg         [AV.s (Value.int IntKind.u8 (xmeetR { k := x.k, n := x.n, hi := x.hi, t := x.t } { k := y.k, n := y.n, hi := y.hi, t := y.t }).fst.k), AV.s (Value.int IntKind.i64 (xmeetR { k := x.k, n := x.n, hi := x.hi, t := x.t } { k := y.k, n := y.n, hi := y.hi, t := y.t }).fst.n),           AV.s (Value.int IntKind.i64 (xmeetR { k := x.k, n := x.n, hi := x.hi, t := x.t } { k := y.k, n := y.n, hi := y.hi, t := y.t }).fst.hi), AV.s (Value.string (xmeetR { k := x.k, n := x.n, hi := x.hi, t := x.t } { k := y.k, n := y.n, hi := y.hi, t := y.t }).fst.t)],       AV.s (Value.int IntKind.i64 (xmeetR { k := x.k, n := x.n, hi := x.hi, t := x.t } { k := y.k, n := y.n, hi := y.hi, t := y.t }).snd)])], []⟩))
                        )
                      )
                    )
                  )
                )
              )
            )
          )
        )
      )
    )
  )
)
theorem tl_h0c (t : Tr) (row : List Vl) (x y : Vl) (j : Nat → Value) : (ev Try.prog tlX cmpS 3000 noL 3000 .normal (hd Try.prog 34 0) (mkE (tl_cf 0) (tl_v0c t row x y) j) (mkH openB (tl_o0c t row x y))).map (lookP Try.prog (resOf Try.prog 34) [] tl_cf) = tl_t0c Try.prog t row x y := by kernel_rfl

theorem tellF_eq (row : List Vl) (t : Tr) : tellF row t = finT t.op t.v t.n row (tellLs row t.args) := by obtain ⟨_, _, _, _, _, _, as1⟩ := t; simp only [tellF]; rfl
theorem tellLs_nil (row : List Vl) : tellLs row [] = ([], 0) := by simp only [tellLs]
theorem tellLs_cons (row : List Vl) (a : Tr) (r : List Tr) : tellLs row (a :: r) = if (tellF row a).2 = 0 then ((tellF row a).1 :: (tellLs row r).1, (tellLs row r).2) else ([], (tellF row a).2) := by simp only [tellLs]
inductive TlS where
  | a
  | b (x : Vl)
  | c (x y : Vl)
def TlV (t : Tr) (row : List Vl) : TlS → List AV
  | .a => tl_v0a t row default default
  | .b x => tl_v0b t row x default
  | .c x y => tl_v0c t row x y
def TlO (t : Tr) (row : List Vl) : TlS → List AO
  | .a => tl_o0a t row default default
  | .b x => tl_o0b t row x default
  | .c x y => tl_o0c t row x y
noncomputable def TlT (P : Program) (t : Tr) (row : List Vl) : TlS → Br PO
  | .a => tl_t0a P t row default default
  | .b x => tl_t0b P t row x default
  | .c x y => tl_t0c P t row x y
def TlJ (t : Tr) (row : List Vl) : TlS → Prop
  | .a => True
  | .b x => ∃ a r, t.args = a :: r ∧ tellF row a = (x, 0)
  | .c x y => ∃ a b r, t.args = a :: b :: r ∧ tellF row a = (x, 0) ∧ tellF row b = (y, 0)
def TlM : TlS → Nat
  | .a => 2
  | .b _ => 1
  | .c _ _ => 0
/-- Behind the Args: by the operation. -/
noncomputable def tlTail (t : Tr) (row : List Vl) (x y : Vl) : Br PO := match tl_t0c Try.prog t row x y with
  | .test _ _ e => e
  | _ => .no
theorem tl_tail {t : Tr} {row : List Vl} {x y : Vl} (hcol : t.op = 2 → 0 ≤ t.n ∧ t.n < (row.length : Int)) (K : PO → Prop) (hK : ∀ z, Le z (resA2 (opT t.op t.v t.n row x y)) → K (.fin ⟨.ret, true, [some z], []⟩)) : (tlTail t row x y).Holds K := by
  have fin := hK
  unfold tlTail tl_t0c
  simp only []
  refine hSe (fun h => fin _ (resC_le (by unfold opT; rw [if_pos h]; rfl))) fun h1 => ?_
  refine hSe (fun h => hT (by simp only [Bool.and_eq_true, decide_eq_true_eq]; exact hcol h) (fin _ (resC_le (by unfold opT; rw [if_neg h1, if_pos h]; rfl)))) fun h2 => ?_
  refine hSe (fun h => fin _ (resC_le (by unfold opT; rw [if_neg h1, if_neg h2, if_pos h]; rfl))) fun h3 => ?_
  refine hSe (fun h => fin _ (resC_le (by unfold opT; rw [if_neg h1, if_neg h2, if_neg h3, if_pos h]; rfl))) fun h4 => ?_
  refine hSe (fun h => hSe (fun g => fin _ (resC_le (by unfold opT; rw [if_neg h1, if_neg h2, if_neg h3, if_neg h4, if_pos h, if_pos g]; rfl))) fun g => fin _ (resC_le (by unfold opT; rw [if_neg h1, if_neg h2, if_neg h3, if_neg h4, if_pos h, if_neg g]; rfl))) fun h5 => ?_
  have e : opT t.op t.v t.n row x y = bothF t.op x y := by unfold opT; rw [if_neg h1, if_neg h2, if_neg h3, if_neg h4, if_neg h5]
  rw [e] at fin
  refine hSe (fun h => fin _ (resC_le (by unfold bothF; rw [if_pos h]; rfl))) fun h6 => ?_
  refine hSe (fun h => fin _ (resC_le (by unfold bothF; rw [if_neg h6, if_pos h]; rfl))) fun h7 => ?_
  refine hSe (fun h => fin _ (resC_le (by unfold bothF; rw [if_neg h6, if_neg h7, if_pos h]; rfl))) fun h8 => ?_
  refine hSe (fun h => fin _ (resC_le (by unfold bothF; rw [if_neg h6, if_neg h7, if_neg h8, if_pos h]; rfl))) fun h9 => ?_
  refine hSe (fun h => fin _ (resC_le (by unfold bothF; rw [if_neg h6, if_neg h7, if_neg h8, if_neg h9, if_pos h]; rfl))) fun h10 => ?_
  refine hSe (fun h => fin _ (resC_le (by unfold bothF; rw [if_neg h6, if_neg h7, if_neg h8, if_neg h9, if_neg h10, if_pos h]; rfl))) fun h11 => ?_
  refine hSe (fun h => fin _ (resC_le (by unfold bothF; rw [if_neg h6, if_neg h7, if_neg h8, if_neg h9, if_neg h10, if_neg h11, if_pos h]; rfl))) fun h12 => ?_
  exact fin _ (resC_le (by unfold bothF; rw [if_neg h6, if_neg h7, if_neg h8, if_neg h9, if_neg h10, if_neg h11, if_neg h12]; rfl))
theorem hT1 {α : Type} {K : α → Prop} {b : Bool} {t e : Br α} (hb : b = true) (h : t.Holds K) : (Br.test b t e).Holds K := hT hb h
theorem namLs_mem : ∀ {L : List Tr} {a : Tr} {n : Int}, a ∈ L → n ∈ namF a → n ∈ namLs L
  | [], _, _, h, _ => by simp at h
  | b :: L, a, n, h, hn => by
    rw [namLs_cons, List.mem_append]
    rcases List.mem_cons.1 h with rfl | h
    · exact .inl hn
    · exact .inr (namLs_mem h hn)
theorem argsF_le (op : Int) : argsF op ≤ 2 := by
  unfold argsF
  repeat' split
  all_goals omega
theorem nodeF_get {t : Tr} (h : nodeF t = true) : (t.args.length : Int) = argsF t.op ∧ (t.op = 1 ∨ t.v = zVl) ∧ (t.op = 2 ∨ t.n = 0) ∧ 0 ≤ t.n ∧ vmayF t.v = true := by
  unfold nodeF at h
  simpa using h
theorem allF_get {t : Tr} (h : allF t = true) : nodeF t = true ∧ ∀ a ∈ t.args, allF a = true := by
  rw [allF_eq, Bool.and_eq_true] at h
  exact ⟨h.1, fun a ha => allLs_mem ha h.2⟩
theorem tl_ok (row : List Vl) (t : Tr) : allF t = true → (∀ n ∈ namF t, n < (row.length : Int)) → OCalls Try.prog 34 [trA t, .fz (eL row) row.length vks] (resA2 (tellF row t)) [] := by
  induction t using Tr.ind with
  | h t ih =>
  intro ha hc
  obtain ⟨hn, hall⟩ := allF_get ha
  obtain ⟨hlen, _, _, hn0, _⟩ := nodeF_get hn
  have hle : t.args.length ≤ 2 := by have := argsF_le t.op; omega
  have hsub : ∀ a ∈ t.args, ∀ n ∈ namF a, n < (row.length : Int) := fun a h n hx => hc n (by rw [namF_eq, List.mem_append]; exact .inr (namLs_mem h hx))
  have hcol : t.op = 2 → 0 ≤ t.n ∧ t.n < (row.length : Int) := fun h => ⟨hn0, hc _ (by rw [namF_eq, if_pos h]; simp)⟩
  have iha : ∀ a ∈ t.args, OCalls Try.prog 34 [trA a, .fz (eL row) row.length vks] (resA2 (tellF row a)) [] := fun a h => ih a h (hall a h) (hsub a h)
  have hT := tellF_eq row t
  refine OCalls.le (args := tl_a t row) ?_ (.cons _ _ _ _ (trO_le t) (Les.refl _))
  have fin : ∀ z, Le z (resA2 (tellF row t)) → Goes ⟨.ret, true, [some z], []⟩ [resA2 (tellF row t)] [] := fun z hz => ⟨rfl, .cons _ _ _ _ hz .nil, .nil⟩
  refine floyd ev_mix ev_ok tlX_ok cmpS_ok (by kernel_rfl) [] tl_cf TlM (fun _ => 0) (TlV t row) (TlO t row) (TlJ t row) (TlT _ t row) (tl_t _ t row) (tl_h t row) (fun s j => by cases s; exact tl_h0a t row _ _ j; exact tl_h0b t row _ _ j; exact tl_h0c t row _ _ j) ?_ ?_
  · exact ⟨.a, trivial, rfl, rfl, rfl, (.cons _ _ _ _ (.refl _) (.cons _ _ _ _ (.refl _) (.cons _ _ _ _ (.refl _) (.cons _ _ _ _ (.refl _) (.cons _ _ _ _ (.refl _) (.cons _ _ _ _ (.refl _) (.cons _ _ _ _ (.refl _) .nil))))))), .cons _ _ _ _ (box_le t _ _) (.cons _ _ _ _ (.cells _ _ _ _ _ _ _ (Les.refl _)) (.cons _ _ _ _ (.cells _ _ _ _ _ _ _ (.cons _ _ _ _ (.vs _) (.cons _ _ _ _ (.vs _) (.cons _ _ _ _ (.vs _) (.cons _ _ _ _ (.vs _) (.cons _ _ _ _ (.vs _) (.cons _ _ _ _ (.vs _) (.cons _ _ _ _ (.vs _) (.cons _ _ _ _ (.vs _) .nil))))))))) .nil))⟩
  · intro s hs
    cases s with
    | a =>
      show (tl_t0a Try.prog t row default default).Holds _
      unfold tl_t0a
      simp only [show Int.toNat 0 = 0 from rfl, trD_A, dL_eL]
      refine hSd (fun h => ?_) fun h => ?_
      · obtain ⟨a, r, har⟩ : ∃ a r, t.args = a :: r := by
          cases hx : t.args with
          | nil => rw [hx] at h; simp at h
          | cons a r => exact ⟨a, r, rfl⟩
        have hg : t.args.getD 0 default = a := by rw [har]; rfl
        have hm : a ∈ t.args := by rw [har]; simp
        rw [hg]
        refine hT1 (by simpa using h) (hOA (hO ⟨iha a hm⟩ ⟨fun h2 => ?_, fun h2 => ?_⟩))
        · have h2 : (tellF row a).2 ≠ 0 := by simpa using h2
          exact fin _ (resC_le (by rw [hT, har, tellLs_cons, if_neg h2]; unfold finT; rw [if_neg h2]; rfl))
        · have h2 : (tellF row a).2 = 0 := by simpa using h2
          exact ⟨.b (tellF row a).1, ⟨a, r, har, by rw [← h2]⟩, rel_nat (by simp only [TlM]; omega), rfl, rfl, rfl, (.cons _ _ _ _ (.refl _) (.cons _ _ _ _ (.refl _) (.cons _ _ _ _ (.refl _) (.cons _ _ _ _ (.refl _) (.cons _ _ _ _ (.refl _) (.cons _ _ _ _ (.refl _) (.cons _ _ _ _ (.refl _) .nil))))))), (.cons _ _ _ _ (by first | exact OLe.same _ _ _ | exact OLe.cells _ _ _ _ _ _ _ (Les.refl _) | exact OLe.cells _ _ _ _ _ _ _ (.cons _ _ _ _ (.xsf _ _ _) (.cons _ _ _ _ (.xsf _ _ _) .nil)) | exact OLe.cells _ _ _ _ _ _ _ (.cons _ _ _ _ (.xso _ _) (.cons _ _ _ _ (.xso _ _) .nil)) |  exact OLe.nil _ _) (.cons _ _ _ _ (by first | exact OLe.same _ _ _ | exact OLe.cells _ _ _ _ _ _ _ (Les.refl _) | exact OLe.cells _ _ _ _ _ _ _ (.cons _ _ _ _ (.xsf _ _ _) (.cons _ _ _ _ (.xsf _ _ _) .nil)) | exact OLe.cells _ _ _ _ _ _ _ (.cons _ _ _ _ (.xso _ _) (.cons _ _ _ _ (.xso _ _) .nil)) |  exact OLe.nil _ _) (.cons _ _ _ _ (by first | exact OLe.same _ _ _ | exact OLe.cells _ _ _ _ _ _ _ (Les.refl _) | exact OLe.cells _ _ _ _ _ _ _ (.cons _ _ _ _ (.xsf _ _ _) (.cons _ _ _ _ (.xsf _ _ _) .nil)) | exact OLe.cells _ _ _ _ _ _ _ (.cons _ _ _ _ (.xso _ _) (.cons _ _ _ _ (.xso _ _) .nil)) |  exact OLe.nil _ _) .nil)))⟩
      · have har : t.args = [] := List.length_eq_zero_iff.1 (by omega)
        refine tl_tail (x := default) (y := default) hcol _ fun z hz => fin _ ?_
        rw [hT, har, tellLs_nil]
        exact hz
    | b x =>
      obtain ⟨a, r, har, hx⟩ := hs
      show (tl_t0b Try.prog t row x default).Holds _
      unfold tl_t0b
      simp only [show Int.toNat 1 = 1 from rfl, trD_A, dL_eL]
      refine hSd (fun h => ?_) fun h => ?_
      · obtain ⟨b, r', rfl⟩ : ∃ b r', r = b :: r' := by
          cases r with
          | nil => rw [har] at h; simp at h
          | cons b r' => exact ⟨b, r', rfl⟩
        have hg : t.args.getD 1 default = b := by rw [har]; rfl
        have hm : b ∈ t.args := by rw [har]; simp
        rw [hg]
        refine hT1 (by simpa using h) (hOA (hO ⟨iha b hm⟩ ⟨fun h2 => ?_, fun h2 => ?_⟩))
        · have h2 : (tellF row b).2 ≠ 0 := by simpa using h2
          exact fin _ (resC_le (by rw [hT, har, tellLs_cons, hx, if_pos rfl, tellLs_cons, if_neg h2]; unfold finT; rw [if_neg h2]; rfl))
        · have h2 : (tellF row b).2 = 0 := by simpa using h2
          exact ⟨.c x (tellF row b).1, ⟨a, b, r', har, hx, by rw [← h2]⟩, rel_nat (by simp only [TlM]; omega), rfl, rfl, rfl, (.cons _ _ _ _ (.refl _) (.cons _ _ _ _ (.refl _) (.cons _ _ _ _ (.refl _) (.cons _ _ _ _ (.refl _) (.cons _ _ _ _ (.refl _) (.cons _ _ _ _ (.refl _) (.cons _ _ _ _ (.refl _) .nil))))))), (.cons _ _ _ _ (by first | exact OLe.same _ _ _ | exact OLe.cells _ _ _ _ _ _ _ (Les.refl _) | exact OLe.cells _ _ _ _ _ _ _ (.cons _ _ _ _ (.xsf _ _ _) (.cons _ _ _ _ (.xsf _ _ _) .nil)) | exact OLe.cells _ _ _ _ _ _ _ (.cons _ _ _ _ (.xso _ _) (.cons _ _ _ _ (.xso _ _) .nil)) |  exact OLe.nil _ _) (.cons _ _ _ _ (by first | exact OLe.same _ _ _ | exact OLe.cells _ _ _ _ _ _ _ (Les.refl _) | exact OLe.cells _ _ _ _ _ _ _ (.cons _ _ _ _ (.xsf _ _ _) (.cons _ _ _ _ (.xsf _ _ _) .nil)) | exact OLe.cells _ _ _ _ _ _ _ (.cons _ _ _ _ (.xso _ _) (.cons _ _ _ _ (.xso _ _) .nil)) |  exact OLe.nil _ _) (.cons _ _ _ _ (by first | exact OLe.same _ _ _ | exact OLe.cells _ _ _ _ _ _ _ (Les.refl _) | exact OLe.cells _ _ _ _ _ _ _ (.cons _ _ _ _ (.xsf _ _ _) (.cons _ _ _ _ (.xsf _ _ _) .nil)) | exact OLe.cells _ _ _ _ _ _ _ (.cons _ _ _ _ (.xso _ _) (.cons _ _ _ _ (.xso _ _) .nil)) |  exact OLe.nil _ _) .nil)))⟩
      · have hr : r = [] := by
          rw [har] at h
          cases r with
          | nil => rfl
          | cons b r' => simp at h; omega
        subst hr
        refine tl_tail (x := x) (y := default) hcol _ fun z hz => fin _ ?_
        rw [hT, har, tellLs_cons, hx, if_pos rfl, tellLs_nil]
        exact hz
    | c x y =>
      obtain ⟨a, b, r, har, hx, hy⟩ := hs
      show (tl_t0c Try.prog t row x y).Holds _
      have hr : r = [] := by
        rw [har] at hle
        cases r with
        | nil => rfl
        | cons b r' => simp at hle
      subst hr
      refine ⟨fun h => ?_, fun _ => ?_⟩
      · have h : (2 : Int) < t.args.length := by simpa using h
        omega
      · refine tl_tail (x := x) (y := y) hcol _ fun z hz => fin _ ?_
        rw [hT, har, tellLs_cons, hx, if_pos rfl, tellLs_cons, hy, if_pos rfl, tellLs_nil]
        exact hz
end Go.Proofs.Ytengccmjlaejfaa
end
section
namespace Go.Proofs.Ytengccmjlaejfaa
open Ev Go.RowKit
set_option maxRecDepth 100000
set_option linter.unusedVariables false
noncomputable def evalF (row : List Vl) (t : Tr) : Vl × Int := if formF t row.length = true then (if (tellF row t).2 = 0 then tellF row t else (default, (tellF row t).2)) else (default, 4)
noncomputable def fmX2 : SumBr := obX Try.prog 33 (AKs.cons aTr (AKs.cons (aI .i64) AKs.nil)) fun z => .leaf (.s (.bool (formF z.1 z.2.1)), [])
noncomputable def vaX : SumBr := orX fmX2 teX
theorem vaX_ok : SumGO Try.prog (sumS vaX) := orX_open (obX_ok (by kernel_rfl)) (obX_ok (by kernel_rfl))
def va_cf : Nat → Cfg := cfL []
def va_a (t : Tr) (row : List Vl) : List AV := [trO t, .fz (eL row) row.length vks]
noncomputable def va_t (P : Program) (t : Tr) (row : List Vl) : Br PO :=
(.ob (ObE (trO t)   (trA (trD (trO t))))
  (.ob (ObC Try.prog 33 [trA (trD (trO t)), AV.s (Value.int IntKind.i64 (Int.ofNat row.length))]   (AV.s (Value.bool (formF (trD (trO t)) (Int.ofNat row.length)))) [])
    (.test (!formF (trD (trO t)) (Int.ofNat row.length))
      (.leaf (.fin ⟨Ex.ret, true, [some (AV.v (Value.tuple { toList := [Value.agg { toList := [Value.int IntKind.u8 (0), Value.int IntKind.i64 (0), Value.int IntKind.i64 (0), Value.string (⟨#[]⟩ : ByteArray)] }, Value.int IntKind.i64 (4)] }))], []⟩))
      (.ob (ObE (trO t)   (trA (trD (trO t))))
        (.ob (ObC Try.prog 34 [trA (trD (trO t)), AV.fz (eL (dL Vl (eL row) row.length)) (dL Vl (eL row) row.length).length (Rec.ks Vl)]   (AV.tup     [vlA (tellF (dL Vl (eL row) row.length) (trD (trO t))).fst,       AV.s (Value.int IntKind.i64 (tellF (dL Vl (eL row) row.length) (trD (trO t))).snd)])   [])
          (.test ((tellF (dL Vl (eL row) row.length) (trD (trO t))).snd != 0)
            (.leaf (.fin ⟨Ex.ret, true, [some   (AV.tup     [AV.v (Value.agg { toList := [Value.int IntKind.u8 (0), Value.int IntKind.i64 (0), Value.int IntKind.i64 (0), Value.string (⟨#[]⟩ : ByteArray)] }),       AV.s (Value.int IntKind.i64 (tellF (dL Vl (eL row) row.length) (trD (trO t))).snd)])], []⟩))
            (.leaf (.fin ⟨Ex.ret, true, [some   (AV.tup     [AV.agg         [AV.s (Value.int IntKind.u8 (tellF (dL Vl (eL row) row.length) (trD (trO t))).fst.k),           AV.s (Value.int IntKind.i64 (tellF (dL Vl (eL row) row.length) (trD (trO t))).fst.n),           AV.s (Value.int IntKind.i64 (tellF (dL Vl (eL row) row.length) (trD (trO t))).fst.hi),           AV.s (Value.string (tellF (dL Vl (eL row) row.length) (trD (trO t))).fst.t)],       AV.v (Value.int IntKind.i64 (0))])], []⟩))
          )
        )
      )
    )
  )
)
theorem va_h (t : Tr) (row : List Vl) : (ev Try.prog vaX noS 3000 noL 3000 .normal [.c 0 (codeOf Try.prog 12)] (params (va_a t row)) Ev.start).map (lookP Try.prog (resOf Try.prog 12) [] va_cf) = va_t Try.prog t row := by kernel_rfl

theorem va_ok (t : Tr) (row : List Vl) : OCalls Try.prog 12 [trA t, .fz (eL row) row.length vks] (resA2 (evalF row t)) [] := by
  refine OCalls.le (args := va_a t row) ?_ (.cons _ _ _ _ (trO_le t) (Les.refl _))
  have fin : ∀ z, Le z (resA2 (evalF row t)) → Goes ⟨.ret, true, [some z], []⟩ [resA2 (evalF row t)] [] := fun z hz => ⟨rfl, .cons _ _ _ _ hz .nil, .nil⟩
  refine floyd0 ev_mix ev_ok vaX_ok noSQ (by kernel_rfl) [] va_cf (va_t _ t row) (va_h t row) ?_
  unfold va_t
  simp only [trD_B, dL_eL, Int.ofNat_eq_natCast]
  refine hOB (hO ⟨fm_ok t _⟩ ⟨fun h => fin _ (resC_le ?_), fun h => hOB (hO ⟨tl_ok row t ?_ ?_⟩ ⟨fun h2 => fin _ (resC_le ?_), fun h2 => fin _ (resC_le ?_)⟩)⟩)
  · have h : formF t row.length = false := by simpa using h
    unfold evalF
    rw [if_neg (by rw [h]; simp)]; rfl
  · have h : formF t row.length = true := by simpa using h
    exact ((mayF_iff t).1 ((formF_iff t _).1 h).1).1
  · have h : formF t row.length = true := by simpa using h
    exact ((formF_iff t _).1 h).2
  · have h : formF t row.length = true := by simpa using h
    have h2 : (tellF row t).2 ≠ 0 := by simpa using h2
    unfold evalF
    rw [if_pos h, if_neg h2]; rfl
  · have h : formF t row.length = true := by simpa using h
    have h2 : (tellF row t).2 = 0 := by simpa using h2
    unfold evalF
    rw [if_pos h, if_pos h2]
    show some ((tellF row t).1, (0 : Int)) = _
    rw [← h2]
end Go.Proofs.Ytengccmjlaejfaa
end
