/- What type an expression has over columns (where Eval is not loaded): the program's Fits, asked, Type. No condition. -/
import Derived.Test.YtengccmjlaejfaaDoorMg17
import Derived.Test.YtengccmjlaejfaaDoorMg12
namespace Go.Proofs.YtengccmjlaejfaaDoor
open Ev Go.RowKit
set_option maxRecDepth 100000
set_option linter.unusedVariables false
def scB : AV → Option Bool
  | .v (.bool z) => some z
  | .s (.bool z) => some z
  | _ => none
def fitsF (v : Vl) (k : Int) : Bool := decide (1 ≤ k) && (decide (k ≤ 4) && (vmayF v && (decide (v.k = 0) || decide (v.k = k))))
def askF (op : Int) : Int := if op = 3 ∨ op = 6 ∨ op = 7 ∨ op = 8 then 1 else if op = 4 ∨ op = 11 ∨ op = 12 then 2 else if op = 13 then 4 else 0
structure TyS where
  w : Int
  no : Bool
  f : Bool
def stepT (op : Int) (s : TyS) (z : Int × Bool) : TyS :=
  let w := if s.w = 0 ∧ (op = 9 ∨ op = 10) then z.1 else s.w
  ⟨w, s.no || decide (z.1 = 0), z.2 && (decide (z.1 = w) || (decide (z.1 = 0) || decide (w = 0)))⟩
def finY (op : Int) (s : TyS) : Int × Bool := (if s.no = true ∧ op ≠ 5 ∧ op ≠ 11 ∧ op ≠ 12 then 0 else if askF op = 1 then 1 else 2, s.f)
mutual
noncomputable def tyG (cols : List Cl) : Tr → Bool → Int × Bool
  | ⟨op, k, vn, hi, t, n, as1⟩, f => if op = 1 then (k, f) else if op = 2 then ((cols.getD n.toNat default).ty, f) else finY op (tyLs cols op as1 ⟨askF op, false, f⟩)
noncomputable def tyLs (cols : List Cl) (op : Int) : List Tr → TyS → TyS
  | [], s => s
  | a :: r, s => tyLs cols op r (stepT op s (tyG cols a s.f))
end
noncomputable def typeF (cols : List Cl) (t : Tr) : Int × Int := if formF t cols.length = true then (if (tyG cols t true).2 = true then ((tyG cols t true).1, 0) else (0, 60)) else (0, 4)
def resI2 (z : Int × Int) : AV := .tup [.s (.int .u8 z.1), .s (.int .i64 z.2)]
def colsO (cols : List Cl) : AO := .cells [.fz (eL cols) cols.length cks] 1 0 true false
def selfT : AO := .cells [.fn 58 [.ptr 65536 0 0, .ptr 65537 0 0, .ptr 65538 0 0]] 1 0 true false
def fitO (b : Bool) : AO := .cells [.s (.bool b)] 1 0 true false
noncomputable def fmX2 : SumBr := obX Tryd.prog 57 (AKs.cons aTr (AKs.cons (aI .i64) AKs.nil)) fun z => .leaf (.s (.bool (formF z.1 z.2.1)), [])
noncomputable def vmX3 : SumBr := obX Tryd.prog 21 (AKs.cons aV AKs.nil) fun z => .leaf (.s (.bool (vmayF z.1)), [])
noncomputable def ftX : SumBr := obX Tryd.prog 22 (AKs.cons aV (AKs.cons (aI .u8) AKs.nil)) fun z => .leaf (.s (.bool (fitsF z.1 z.2.1)), [])
noncomputable def akX : SumBr := obX Tryd.prog 59 (AKs.cons (aI .u8) AKs.nil) fun z => .leaf (.s (.int .u8 (askF z.1)), [])
noncomputable def tgX : SumBr := obW Tryd.prog 58 [(1, []), (2, []), (3, [])] [] (AKs.cons aTr (AKs.cons aX (AKs.cons aX (AKs.cons aX AKs.nil)))) fun z oss => match oss with
  | [.o (.cells [cv] _ _ _ false), .o (.cells [fv] _ _ _ false), .o (.cells [bv] _ _ _ false)] => match (aL Cl).dec cv with
    | some cols => match scB bv with
      | some b => some ([colsO cols, selfT, fitO b], .leaf (.s (.int .u8 (tyG cols z.1 b).1), [colsO cols, selfT, fitO (tyG cols z.1 b).2]))
      | none => none
    | none => none
  | _ => none
noncomputable def tySX : SumBr := orX akX tgX
noncomputable def tyFX : SumBr := orX fmX2 tgX
theorem vmX3_ok : SumGO Tryd.prog (sumS vmX3) := obX_ok (by kernel_rfl)
theorem ftX_ok : SumGO Tryd.prog (sumS ftX) := obX_ok (by kernel_rfl)
theorem tgX_ok : SumGO Tryd.prog (sumS tgX) := obW_ok (by kernel_rfl)
theorem tySX_ok : SumGO Tryd.prog (sumS tySX) := orX_open (obX_ok (by kernel_rfl)) tgX_ok
theorem tyFX_ok : SumGO Tryd.prog (sumS tyFX) := orX_open (obX_ok (by kernel_rfl)) tgX_ok
def ft_cf : Nat → Cfg := cfL []
def ft_a (v : Vl) (k : Int) : List AV := [vlA v, .s (.int .u8 k)]
noncomputable def ft_t (P : Program) (v : Vl) (k : Int) : Br PO :=
(.test (decide (k ≥ 1))
  (.test (decide (k ≤ 4))
    (.ob (ObC Tryd.prog 21 [vlA { k := v.k, n := v.n, hi := v.hi, t := v.t }] (AV.s (Value.bool (vmayF { k := v.k, n := v.n, hi := v.hi, t := v.t }))) [])
      (.test (vmayF { k := v.k, n := v.n, hi := v.hi, t := v.t })
        (.test (v.k == 0)
          (.leaf (.fin ⟨Ex.ret, true, [some (AV.v (Value.bool true))], []⟩))
          (.leaf (.fin ⟨Ex.ret, true, [some (AV.s (Value.bool (v.k == k)))], []⟩))
        )
        (.leaf (.fin ⟨Ex.ret, true, [some (AV.v (Value.bool false))], []⟩))
      )
    )
    (.leaf (.fin ⟨Ex.ret, true, [some (AV.v (Value.bool false))], []⟩))
  )
  (.leaf (.fin ⟨Ex.ret, true, [some (AV.v (Value.bool false))], []⟩))
)
theorem ft_h (v : Vl) (k : Int) : (ev Tryd.prog vmX3 noS 3000 noL 3000 .normal [.c 0 (codeOf Tryd.prog 22)] (params (ft_a v k)) Ev.start).map (lookP Tryd.prog (resOf Tryd.prog 22) [] ft_cf) = ft_t Tryd.prog v k := by kernel_rfl

def ak_cf : Nat → Cfg := cfL []
def ak_a (op : Int) : List AV := [.s (.int .u8 op)]
noncomputable def ak_t (P : Program) (op : Int) : Br PO :=
(.test (op == 3)
  (.test (op == 3)
    (.leaf (.fin ⟨Ex.ret, true, [some (AV.v (Value.int IntKind.u8 (1)))], []⟩))
    (.test (op == 4)
      (.test (op == 4)
        (.leaf (.fin ⟨Ex.ret, true, [some (AV.v (Value.int IntKind.u8 (2)))], []⟩))
        (.test (op == 13)
          (.leaf (.fin ⟨Ex.ret, true, [some (AV.v (Value.int IntKind.u8 (4)))], []⟩))
          (.leaf (.fin ⟨Ex.ret, true, [some (AV.v (Value.int IntKind.u8 (0)))], []⟩))
        )
      )
      (.test (op == 11)
        (.test (op == 11)
          (.leaf (.fin ⟨Ex.ret, true, [some (AV.v (Value.int IntKind.u8 (2)))], []⟩))
          (.test (op == 13)
            (.leaf (.fin ⟨Ex.ret, true, [some (AV.v (Value.int IntKind.u8 (4)))], []⟩))
            (.leaf (.fin ⟨Ex.ret, true, [some (AV.v (Value.int IntKind.u8 (0)))], []⟩))
          )
        )
        (.test (op == 12)
          (.leaf (.fin ⟨Ex.ret, true, [some (AV.v (Value.int IntKind.u8 (2)))], []⟩))
          (.test (op == 13)
            (.leaf (.fin ⟨Ex.ret, true, [some (AV.v (Value.int IntKind.u8 (4)))], []⟩))
            (.leaf (.fin ⟨Ex.ret, true, [some (AV.v (Value.int IntKind.u8 (0)))], []⟩))
          )
        )
      )
    )
  )
  (.test (op == 6)
    (.test (op == 6)
      (.leaf (.fin ⟨Ex.ret, true, [some (AV.v (Value.int IntKind.u8 (1)))], []⟩))
      (.test (op == 4)
        (.test (op == 4)
          (.leaf (.fin ⟨Ex.ret, true, [some (AV.v (Value.int IntKind.u8 (2)))], []⟩))
          (.test (op == 13)
            (.leaf (.fin ⟨Ex.ret, true, [some (AV.v (Value.int IntKind.u8 (4)))], []⟩))
            (.leaf (.fin ⟨Ex.ret, true, [some (AV.v (Value.int IntKind.u8 (0)))], []⟩))
          )
        )
        (.test (op == 11)
          (.test (op == 11)
            (.leaf (.fin ⟨Ex.ret, true, [some (AV.v (Value.int IntKind.u8 (2)))], []⟩))
            (.test (op == 13)
              (.leaf (.fin ⟨Ex.ret, true, [some (AV.v (Value.int IntKind.u8 (4)))], []⟩))
              (.leaf (.fin ⟨Ex.ret, true, [some (AV.v (Value.int IntKind.u8 (0)))], []⟩))
            )
          )
          (.test (op == 12)
            (.leaf (.fin ⟨Ex.ret, true, [some (AV.v (Value.int IntKind.u8 (2)))], []⟩))
            (.test (op == 13)
              (.leaf (.fin ⟨Ex.ret, true, [some (AV.v (Value.int IntKind.u8 (4)))], []⟩))
              (.leaf (.fin ⟨Ex.ret, true, [some (AV.v (Value.int IntKind.u8 (0)))], []⟩))
            )
          )
        )
      )
    )
    (.test (op == 7)
      (.test (op == 7)
        (.leaf (.fin ⟨Ex.ret, true, [some (AV.v (Value.int IntKind.u8 (1)))], []⟩))
        (.test (op == 4)
          (.test (op == 4)
            (.leaf (.fin ⟨Ex.ret, true, [some (AV.v (Value.int IntKind.u8 (2)))], []⟩))
            (.test (op == 13)
              (.leaf (.fin ⟨Ex.ret, true, [some (AV.v (Value.int IntKind.u8 (4)))], []⟩))
              (.leaf (.fin ⟨Ex.ret, true, [some (AV.v (Value.int IntKind.u8 (0)))], []⟩))
            )
          )
          (.test (op == 11)
            (.test (op == 11)
              (.leaf (.fin ⟨Ex.ret, true, [some (AV.v (Value.int IntKind.u8 (2)))], []⟩))
              (.test (op == 13)
                (.leaf (.fin ⟨Ex.ret, true, [some (AV.v (Value.int IntKind.u8 (4)))], []⟩))
                (.leaf (.fin ⟨Ex.ret, true, [some (AV.v (Value.int IntKind.u8 (0)))], []⟩))
              )
            )
            (.test (op == 12)
              (.leaf (.fin ⟨Ex.ret, true, [some (AV.v (Value.int IntKind.u8 (2)))], []⟩))
              (.test (op == 13)
                (.leaf (.fin ⟨Ex.ret, true, [some (AV.v (Value.int IntKind.u8 (4)))], []⟩))
                (.leaf (.fin ⟨Ex.ret, true, [some (AV.v (Value.int IntKind.u8 (0)))], []⟩))
              )
            )
          )
        )
      )
      (.test (op == 8)
        (.leaf (.fin ⟨Ex.ret, true, [some (AV.v (Value.int IntKind.u8 (1)))], []⟩))
        (.test (op == 4)
          (.test (op == 4)
            (.leaf (.fin ⟨Ex.ret, true, [some (AV.v (Value.int IntKind.u8 (2)))], []⟩))
            (.test (op == 13)
              (.leaf (.fin ⟨Ex.ret, true, [some (AV.v (Value.int IntKind.u8 (4)))], []⟩))
              (.leaf (.fin ⟨Ex.ret, true, [some (AV.v (Value.int IntKind.u8 (0)))], []⟩))
            )
          )
          (.test (op == 11)
            (.test (op == 11)
              (.leaf (.fin ⟨Ex.ret, true, [some (AV.v (Value.int IntKind.u8 (2)))], []⟩))
              (.test (op == 13)
                (.leaf (.fin ⟨Ex.ret, true, [some (AV.v (Value.int IntKind.u8 (4)))], []⟩))
                (.leaf (.fin ⟨Ex.ret, true, [some (AV.v (Value.int IntKind.u8 (0)))], []⟩))
              )
            )
            (.test (op == 12)
              (.leaf (.fin ⟨Ex.ret, true, [some (AV.v (Value.int IntKind.u8 (2)))], []⟩))
              (.test (op == 13)
                (.leaf (.fin ⟨Ex.ret, true, [some (AV.v (Value.int IntKind.u8 (4)))], []⟩))
                (.leaf (.fin ⟨Ex.ret, true, [some (AV.v (Value.int IntKind.u8 (0)))], []⟩))
              )
            )
          )
        )
      )
    )
  )
)
theorem ak_h (op : Int) : (ev Tryd.prog noX noS 3000 noL 3000 .normal [.c 0 (codeOf Tryd.prog 59)] (params (ak_a op)) Ev.start).map (lookP Tryd.prog (resOf Tryd.prog 59) [] ak_cf) = ak_t Tryd.prog op := by kernel_rfl

def tg_cf : Nat → Cfg := cfL [mkC 94 [2, 3, 4, 6, 7, 30, 31, 32] [(4, [])]]
def tg_a (t : Tr) (cols : List Cl) (b : Bool) : List AV := [trO t, .ptr 65536 0 0, .ptr 65537 0 0, .ptr 65538 0 0]
noncomputable def tg_t (P : Program) (t : Tr) (cols : List Cl) (b : Bool) : Br PO :=
(.test (t.op == 1)
  (.leaf (.fin ⟨Ex.ret, true, [some (AV.s (Value.int IntKind.u8 t.k))], [OS.o (AO.cells [AV.fz (eL cols) cols.length cks] 1 0 true false), OS.o (AO.cells [AV.fn 58 [AV.ptr 65536 0 0, AV.ptr 65537 0 0, AV.ptr 65538 0 0]] 1 0 true false), OS.o (AO.cells [AV.s (Value.bool b)] 1 0 true false)]⟩))
  (.test (t.op == 2)
    (.test (decide (0 ≤ t.n) && decide (t.n < (↑cols.length : Int)))
      (.leaf (.fin ⟨Ex.ret, true, [some (AV.s (Value.int IntKind.u8 (cols.getD t.n.toNat default).ty))], [OS.o (AO.cells [AV.fz (eL cols) cols.length cks] 1 0 true false), OS.o (AO.cells [AV.fn 58 [AV.ptr 65536 0 0, AV.ptr 65537 0 0, AV.ptr 65538 0 0]] 1 0 true false), OS.o (AO.cells [AV.s (Value.bool b)] 1 0 true false)]⟩))
      .no
    )
    (.ob (ObC Tryd.prog 59 [AV.s (Value.int IntKind.u8 t.op)] (AV.s (Value.int IntKind.u8 (askF t.op))) [])
      (.leaf (.at 0 (ct P 58 0).1 (ct P 58 0).2 ⟨Ex.normal, true, [some (AV.ptr 65537 0 0), some (AV.ptr 65538 0 0), some (AV.ptr 65539 0 0), some (AV.s (Value.int IntKind.u8 (askF t.op))), some (AV.v (Value.bool false)), some (AV.fz (eT t.args) t.args.length ksE), some (AV.s (Value.int IntKind.i64 (Int.ofNat t.args.length))), some (AV.v (Value.int IntKind.i64 (0)))], [OS.o (AO.cells [AV.fz (eL cols) cols.length cks] 1 0 true false), OS.o (AO.cells [AV.fn 58 [AV.ptr 65536 0 0, AV.ptr 65537 0 0, AV.ptr 65538 0 0]] 1 0 true false), OS.o (AO.cells [AV.s (Value.bool b)] 1 0 true false), OS.o (AO.cells [AV.s (Value.int IntKind.u8 t.op), AV.s (Value.int IntKind.u8 t.k), AV.s (Value.int IntKind.i64 t.vn), AV.s (Value.int IntKind.i64 t.hi), AV.s (Value.string t.t), AV.s (Value.int IntKind.i64 t.n), AV.fz (eT t.args) t.args.length ksE] 7 65539 true false)]⟩))
    )
  )
)
def tg_i (t : Tr) (cols : List Cl) (b : Bool) : List AO := [colsO cols, selfT, fitO b]
theorem tg_h (t : Tr) (cols : List Cl) (b : Bool) : (ev Tryd.prog tySX noS 3000 noL 3000 .normal [.c 0 (codeOf Tryd.prog 58)] (params (tg_a t cols b)) (mkH openB (tg_i t cols b))).map (lookW Tryd.prog 65539 3 (resOf Tryd.prog 58) [] [] tg_cf) = tg_t Tryd.prog t cols b := by kernel_rfl
def tg_v0 (t : Tr) (cols : List Cl) (b : Bool) (s : TyS) (i : Nat) : List AV := [.ptr 65537 0 0, .ptr 65538 0 0, .ptr 65539 0 0, .s (.int .u8 s.w), .s (.bool s.no), .fz (eT t.args) t.args.length ksE, .s (.int .i64 t.args.length), .s (.int .i64 i)]
def tg_o0 (t : Tr) (cols : List Cl) (b : Bool) (s : TyS) (i : Nat) : List AO := [colsO cols, selfT, fitO s.f, boxE t]
noncomputable def tg_t0 (P : Program) (t : Tr) (cols : List Cl) (b : Bool) (s : TyS) (i : Nat) : Br PO :=
(.test (decide ((↑i : Int) < (↑t.args.length : Int)))
  (.test (decide (0 ≤ (↑i : Int)) && decide ((↑i : Int) < (↑t.args.length : Int)))
    (.ob (ObE   (trA (t.args.getD (↑i : Int).toNat default))   (trA     (trD       (trA (t.args.getD (↑i : Int).toNat default)))))
      (.ob (ObO [OS.o (AO.cells [AV.fz (eL cols) cols.length cks] 1 0 true false), OS.o (AO.cells [AV.fn 58 [AV.ptr 65536 0 0, AV.ptr 65537 0 0, AV.ptr 65538 0 0]] 1 0 true false), OS.o (AO.cells [AV.s (Value.bool s.f)] 1 0 true false)]   [AO.cells [AV.fz (eL (dL Cl (eL cols) cols.length)) (dL Cl (eL cols) cols.length).length cks] 1 0 true false, AO.cells [AV.fn 58 [AV.ptr 65536 0 0, AV.ptr 65537 0 0, AV.ptr 65538 0 0]] 1 0 true false, AO.cells [AV.s (Value.bool s.f)] 1 0 true false])
        (.ob (ObW Tryd.prog 3 58   [trA       (trD         (trA (t.args.getD (↑i : Int).toNat default))),     AV.ptr 65536 0 0, AV.ptr 65537 0 0, AV.ptr 65538 0 0]   [AO.cells [AV.fz (eL (dL Cl (eL cols) cols.length)) (dL Cl (eL cols) cols.length).length cks] 1 0 true false, AO.cells [AV.fn 58 [AV.ptr 65536 0 0, AV.ptr 65537 0 0, AV.ptr 65538 0 0]] 1 0 true false, AO.cells [AV.s (Value.bool s.f)] 1 0 true false]   (AV.s     (Value.int IntKind.u8       (tyG (dL Cl (eL cols) cols.length)           (trD             (trA (t.args.getD (↑i : Int).toNat default)))           s.f).fst))   [AO.cells [AV.fz (eL (dL Cl (eL cols) cols.length)) (dL Cl (eL cols) cols.length).length cks] 1 0 true false, AO.cells [AV.fn 58 [AV.ptr 65536 0 0, AV.ptr 65537 0 0, AV.ptr 65538 0 0]] 1 0 true false,     AO.cells       [AV.s           (Value.bool             (tyG (dL Cl (eL cols) cols.length)                 (trD                   (trA (t.args.getD (↑i : Int).toNat default)))                 s.f).snd)]       1 0 true false])
          (.test (s.no)
            (.test (s.w == 0)
              (.test (t.op == 9)
                (.test ((tyG (dL Cl (eL cols) cols.length)     (trD       (trA (t.args.getD (↑i : Int).toNat default)))     s.f).snd)
                  (.test ((tyG (dL Cl (eL cols) cols.length)       (trD         (trA (t.args.getD (↑i : Int).toNat default)))       s.f).fst ==   (tyG (dL Cl (eL cols) cols.length)       (trD         (trA (t.args.getD (↑i : Int).toNat default)))       s.f).fst)
                    (.leaf (.at 0 (ct P 58 0).1 (ct P 58 0).2 ⟨Ex.normal, true, [some (AV.ptr 65537 0 0), some (AV.ptr 65538 0 0), some (AV.ptr 65539 0 0), some   (AV.s     (Value.int IntKind.u8       (tyG (dL Cl (eL cols) cols.length)           (trD             (trA (t.args.getD (↑i : Int).toNat default)))           s.f).fst)), some (AV.v (Value.bool true)), some (AV.fz (eT t.args) t.args.length ksE), some (AV.s (Value.int IntKind.i64 (Int.ofNat t.args.length))), some (AV.s (Value.int IntKind.i64 (IntKind.i64.wrap ((↑i : Int) + 1))))], [OS.o (AO.cells [AV.fz (eL (dL Cl (eL cols) cols.length)) (dL Cl (eL cols) cols.length).length cks] 1 0 true false), OS.o (AO.cells [AV.fn 58 [AV.ptr 65536 0 0, AV.ptr 65537 0 0, AV.ptr 65538 0 0]] 1 0 true false), OS.o (AO.cells [AV.v (Value.bool true)] 1 0 true false), OS.o (AO.cells [AV.s (Value.int IntKind.u8 t.op), AV.s (Value.int IntKind.u8 t.k), AV.s (Value.int IntKind.i64 t.vn), AV.s (Value.int IntKind.i64 t.hi), AV.s (Value.string t.t), AV.s (Value.int IntKind.i64 t.n), AV.fz (eT t.args) t.args.length ksE] 7 0 true false)]⟩))
                    (.test ((tyG (dL Cl (eL cols) cols.length)       (trD         (trA (t.args.getD (↑i : Int).toNat default)))       s.f).fst ==   0)
                      (.leaf (.at 0 (ct P 58 0).1 (ct P 58 0).2 ⟨Ex.normal, true, [some (AV.ptr 65537 0 0), some (AV.ptr 65538 0 0), some (AV.ptr 65539 0 0), some   (AV.s     (Value.int IntKind.u8       (tyG (dL Cl (eL cols) cols.length)           (trD             (trA (t.args.getD (↑i : Int).toNat default)))           s.f).fst)), some (AV.v (Value.bool true)), some (AV.fz (eT t.args) t.args.length ksE), some (AV.s (Value.int IntKind.i64 (Int.ofNat t.args.length))), some (AV.s (Value.int IntKind.i64 (IntKind.i64.wrap ((↑i : Int) + 1))))], [OS.o (AO.cells [AV.fz (eL (dL Cl (eL cols) cols.length)) (dL Cl (eL cols) cols.length).length cks] 1 0 true false), OS.o (AO.cells [AV.fn 58 [AV.ptr 65536 0 0, AV.ptr 65537 0 0, AV.ptr 65538 0 0]] 1 0 true false), OS.o (AO.cells [AV.v (Value.bool true)] 1 0 true false), OS.o (AO.cells [AV.s (Value.int IntKind.u8 t.op), AV.s (Value.int IntKind.u8 t.k), AV.s (Value.int IntKind.i64 t.vn), AV.s (Value.int IntKind.i64 t.hi), AV.s (Value.string t.t), AV.s (Value.int IntKind.i64 t.n), AV.fz (eT t.args) t.args.length ksE] 7 0 true false)]⟩))
                      (.leaf (.at 0 (ct P 58 0).1 (ct P 58 0).2 ⟨Ex.normal, true, [some (AV.ptr 65537 0 0), some (AV.ptr 65538 0 0), some (AV.ptr 65539 0 0), some   (AV.s     (Value.int IntKind.u8       (tyG (dL Cl (eL cols) cols.length)           (trD             (trA (t.args.getD (↑i : Int).toNat default)))           s.f).fst)), some (AV.v (Value.bool true)), some (AV.fz (eT t.args) t.args.length ksE), some (AV.s (Value.int IntKind.i64 (Int.ofNat t.args.length))), some (AV.s (Value.int IntKind.i64 (IntKind.i64.wrap ((↑i : Int) + 1))))], [OS.o (AO.cells [AV.fz (eL (dL Cl (eL cols) cols.length)) (dL Cl (eL cols) cols.length).length cks] 1 0 true false), OS.o (AO.cells [AV.fn 58 [AV.ptr 65536 0 0, AV.ptr 65537 0 0, AV.ptr 65538 0 0]] 1 0 true false), OS.o   (AO.cells     [AV.s         (Value.bool           ((tyG (dL Cl (eL cols) cols.length)                 (trD                   (trA (t.args.getD (↑i : Int).toNat default)))                 s.f).fst ==             0))]     1 0 true false), OS.o (AO.cells [AV.s (Value.int IntKind.u8 t.op), AV.s (Value.int IntKind.u8 t.k), AV.s (Value.int IntKind.i64 t.vn), AV.s (Value.int IntKind.i64 t.hi), AV.s (Value.string t.t), AV.s (Value.int IntKind.i64 t.n), AV.fz (eT t.args) t.args.length ksE] 7 0 true false)]⟩))
                    )
                  )
                  (.leaf (.at 0 (ct P 58 0).1 (ct P 58 0).2 ⟨Ex.normal, true, [some (AV.ptr 65537 0 0), some (AV.ptr 65538 0 0), some (AV.ptr 65539 0 0), some   (AV.s     (Value.int IntKind.u8       (tyG (dL Cl (eL cols) cols.length)           (trD             (trA (t.args.getD (↑i : Int).toNat default)))           s.f).fst)), some (AV.v (Value.bool true)), some (AV.fz (eT t.args) t.args.length ksE), some (AV.s (Value.int IntKind.i64 (Int.ofNat t.args.length))), some (AV.s (Value.int IntKind.i64 (IntKind.i64.wrap ((↑i : Int) + 1))))], [OS.o (AO.cells [AV.fz (eL (dL Cl (eL cols) cols.length)) (dL Cl (eL cols) cols.length).length cks] 1 0 true false), OS.o (AO.cells [AV.fn 58 [AV.ptr 65536 0 0, AV.ptr 65537 0 0, AV.ptr 65538 0 0]] 1 0 true false), OS.o (AO.cells [AV.v (Value.bool false)] 1 0 true false), OS.o (AO.cells [AV.s (Value.int IntKind.u8 t.op), AV.s (Value.int IntKind.u8 t.k), AV.s (Value.int IntKind.i64 t.vn), AV.s (Value.int IntKind.i64 t.hi), AV.s (Value.string t.t), AV.s (Value.int IntKind.i64 t.n), AV.fz (eT t.args) t.args.length ksE] 7 0 true false)]⟩))
                )
                (.test (t.op == 10)
                  (.test ((tyG (dL Cl (eL cols) cols.length)     (trD       (trA (t.args.getD (↑i : Int).toNat default)))     s.f).snd)
                    (.test ((tyG (dL Cl (eL cols) cols.length)       (trD         (trA (t.args.getD (↑i : Int).toNat default)))       s.f).fst ==   (tyG (dL Cl (eL cols) cols.length)       (trD         (trA (t.args.getD (↑i : Int).toNat default)))       s.f).fst)
                      (.leaf (.at 0 (ct P 58 0).1 (ct P 58 0).2 ⟨Ex.normal, true, [some (AV.ptr 65537 0 0), some (AV.ptr 65538 0 0), some (AV.ptr 65539 0 0), some   (AV.s     (Value.int IntKind.u8       (tyG (dL Cl (eL cols) cols.length)           (trD             (trA (t.args.getD (↑i : Int).toNat default)))           s.f).fst)), some (AV.v (Value.bool true)), some (AV.fz (eT t.args) t.args.length ksE), some (AV.s (Value.int IntKind.i64 (Int.ofNat t.args.length))), some (AV.s (Value.int IntKind.i64 (IntKind.i64.wrap ((↑i : Int) + 1))))], [OS.o (AO.cells [AV.fz (eL (dL Cl (eL cols) cols.length)) (dL Cl (eL cols) cols.length).length cks] 1 0 true false), OS.o (AO.cells [AV.fn 58 [AV.ptr 65536 0 0, AV.ptr 65537 0 0, AV.ptr 65538 0 0]] 1 0 true false), OS.o (AO.cells [AV.v (Value.bool true)] 1 0 true false), OS.o (AO.cells [AV.s (Value.int IntKind.u8 t.op), AV.s (Value.int IntKind.u8 t.k), AV.s (Value.int IntKind.i64 t.vn), AV.s (Value.int IntKind.i64 t.hi), AV.s (Value.string t.t), AV.s (Value.int IntKind.i64 t.n), AV.fz (eT t.args) t.args.length ksE] 7 0 true false)]⟩))
                      (.test ((tyG (dL Cl (eL cols) cols.length)       (trD         (trA (t.args.getD (↑i : Int).toNat default)))       s.f).fst ==   0)
                        (.leaf (.at 0 (ct P 58 0).1 (ct P 58 0).2 ⟨Ex.normal, true, [some (AV.ptr 65537 0 0), some (AV.ptr 65538 0 0), some (AV.ptr 65539 0 0), some   (AV.s     (Value.int IntKind.u8       (tyG (dL Cl (eL cols) cols.length)           (trD             (trA (t.args.getD (↑i : Int).toNat default)))           s.f).fst)), some (AV.v (Value.bool true)), some (AV.fz (eT t.args) t.args.length ksE), some (AV.s (Value.int IntKind.i64 (Int.ofNat t.args.length))), some (AV.s (Value.int IntKind.i64 (IntKind.i64.wrap ((↑i : Int) + 1))))], [OS.o (AO.cells [AV.fz (eL (dL Cl (eL cols) cols.length)) (dL Cl (eL cols) cols.length).length cks] 1 0 true false), OS.o (AO.cells [AV.fn 58 [AV.ptr 65536 0 0, AV.ptr 65537 0 0, AV.ptr 65538 0 0]] 1 0 true false), OS.o (AO.cells [AV.v (Value.bool true)] 1 0 true false), OS.o (AO.cells [AV.s (Value.int IntKind.u8 t.op), AV.s (Value.int IntKind.u8 t.k), AV.s (Value.int IntKind.i64 t.vn), AV.s (Value.int IntKind.i64 t.hi), AV.s (Value.string t.t), AV.s (Value.int IntKind.i64 t.n), AV.fz (eT t.args) t.args.length ksE] 7 0 true false)]⟩))
                        (.leaf (.at 0 (ct P 58 0).1 (ct P 58 0).2 ⟨Ex.normal, true, [some (AV.ptr 65537 0 0), some (AV.ptr 65538 0 0), some (AV.ptr 65539 0 0), some   (AV.s     (Value.int IntKind.u8       (tyG (dL Cl (eL cols) cols.length)           (trD             (trA (t.args.getD (↑i : Int).toNat default)))           s.f).fst)), some (AV.v (Value.bool true)), some (AV.fz (eT t.args) t.args.length ksE), some (AV.s (Value.int IntKind.i64 (Int.ofNat t.args.length))), some (AV.s (Value.int IntKind.i64 (IntKind.i64.wrap ((↑i : Int) + 1))))], [OS.o (AO.cells [AV.fz (eL (dL Cl (eL cols) cols.length)) (dL Cl (eL cols) cols.length).length cks] 1 0 true false), OS.o (AO.cells [AV.fn 58 [AV.ptr 65536 0 0, AV.ptr 65537 0 0, AV.ptr 65538 0 0]] 1 0 true false), OS.o   (AO.cells     [AV.s         (Value.bool           ((tyG (dL Cl (eL cols) cols.length)                 (trD                   (trA (t.args.getD (↑i : Int).toNat default)))                 s.f).fst ==             0))]     1 0 true false), OS.o (AO.cells [AV.s (Value.int IntKind.u8 t.op), AV.s (Value.int IntKind.u8 t.k), AV.s (Value.int IntKind.i64 t.vn), AV.s (Value.int IntKind.i64 t.hi), AV.s (Value.string t.t), AV.s (Value.int IntKind.i64 t.n), AV.fz (eT t.args) t.args.length ksE] 7 0 true false)]⟩))
                      )
                    )
                    (.leaf (.at 0 (ct P 58 0).1 (ct P 58 0).2 ⟨Ex.normal, true, [some (AV.ptr 65537 0 0), some (AV.ptr 65538 0 0), some (AV.ptr 65539 0 0), some   (AV.s     (Value.int IntKind.u8       (tyG (dL Cl (eL cols) cols.length)           (trD             (trA (t.args.getD (↑i : Int).toNat default)))           s.f).fst)), some (AV.v (Value.bool true)), some (AV.fz (eT t.args) t.args.length ksE), some (AV.s (Value.int IntKind.i64 (Int.ofNat t.args.length))), some (AV.s (Value.int IntKind.i64 (IntKind.i64.wrap ((↑i : Int) + 1))))], [OS.o (AO.cells [AV.fz (eL (dL Cl (eL cols) cols.length)) (dL Cl (eL cols) cols.length).length cks] 1 0 true false), OS.o (AO.cells [AV.fn 58 [AV.ptr 65536 0 0, AV.ptr 65537 0 0, AV.ptr 65538 0 0]] 1 0 true false), OS.o (AO.cells [AV.v (Value.bool false)] 1 0 true false), OS.o (AO.cells [AV.s (Value.int IntKind.u8 t.op), AV.s (Value.int IntKind.u8 t.k), AV.s (Value.int IntKind.i64 t.vn), AV.s (Value.int IntKind.i64 t.hi), AV.s (Value.string t.t), AV.s (Value.int IntKind.i64 t.n), AV.fz (eT t.args) t.args.length ksE] 7 0 true false)]⟩))
                  )
                  (.test ((tyG (dL Cl (eL cols) cols.length)     (trD       (trA (t.args.getD (↑i : Int).toNat default)))     s.f).snd)
                    (.test ((tyG (dL Cl (eL cols) cols.length)       (trD         (trA (t.args.getD (↑i : Int).toNat default)))       s.f).fst ==   s.w)
                      (.leaf (.at 0 (ct P 58 0).1 (ct P 58 0).2 ⟨Ex.normal, true, [some (AV.ptr 65537 0 0), some (AV.ptr 65538 0 0), some (AV.ptr 65539 0 0), some (AV.s (Value.int IntKind.u8 s.w)), some (AV.v (Value.bool true)), some (AV.fz (eT t.args) t.args.length ksE), some (AV.s (Value.int IntKind.i64 (Int.ofNat t.args.length))), some (AV.s (Value.int IntKind.i64 (IntKind.i64.wrap ((↑i : Int) + 1))))], [OS.o (AO.cells [AV.fz (eL (dL Cl (eL cols) cols.length)) (dL Cl (eL cols) cols.length).length cks] 1 0 true false), OS.o (AO.cells [AV.fn 58 [AV.ptr 65536 0 0, AV.ptr 65537 0 0, AV.ptr 65538 0 0]] 1 0 true false), OS.o (AO.cells [AV.v (Value.bool true)] 1 0 true false), OS.o (AO.cells [AV.s (Value.int IntKind.u8 t.op), AV.s (Value.int IntKind.u8 t.k), AV.s (Value.int IntKind.i64 t.vn), AV.s (Value.int IntKind.i64 t.hi), AV.s (Value.string t.t), AV.s (Value.int IntKind.i64 t.n), AV.fz (eT t.args) t.args.length ksE] 7 0 true false)]⟩))
                      (.test ((tyG (dL Cl (eL cols) cols.length)       (trD         (trA (t.args.getD (↑i : Int).toNat default)))       s.f).fst ==   0)
                        (.leaf (.at 0 (ct P 58 0).1 (ct P 58 0).2 ⟨Ex.normal, true, [some (AV.ptr 65537 0 0), some (AV.ptr 65538 0 0), some (AV.ptr 65539 0 0), some (AV.s (Value.int IntKind.u8 s.w)), some (AV.v (Value.bool true)), some (AV.fz (eT t.args) t.args.length ksE), some (AV.s (Value.int IntKind.i64 (Int.ofNat t.args.length))), some (AV.s (Value.int IntKind.i64 (IntKind.i64.wrap ((↑i : Int) + 1))))], [OS.o (AO.cells [AV.fz (eL (dL Cl (eL cols) cols.length)) (dL Cl (eL cols) cols.length).length cks] 1 0 true false), OS.o (AO.cells [AV.fn 58 [AV.ptr 65536 0 0, AV.ptr 65537 0 0, AV.ptr 65538 0 0]] 1 0 true false), OS.o (AO.cells [AV.v (Value.bool true)] 1 0 true false), OS.o (AO.cells [AV.s (Value.int IntKind.u8 t.op), AV.s (Value.int IntKind.u8 t.k), AV.s (Value.int IntKind.i64 t.vn), AV.s (Value.int IntKind.i64 t.hi), AV.s (Value.string t.t), AV.s (Value.int IntKind.i64 t.n), AV.fz (eT t.args) t.args.length ksE] 7 0 true false)]⟩))
                        (.leaf (.at 0 (ct P 58 0).1 (ct P 58 0).2 ⟨Ex.normal, true, [some (AV.ptr 65537 0 0), some (AV.ptr 65538 0 0), some (AV.ptr 65539 0 0), some (AV.s (Value.int IntKind.u8 s.w)), some (AV.v (Value.bool true)), some (AV.fz (eT t.args) t.args.length ksE), some (AV.s (Value.int IntKind.i64 (Int.ofNat t.args.length))), some (AV.s (Value.int IntKind.i64 (IntKind.i64.wrap ((↑i : Int) + 1))))], [OS.o (AO.cells [AV.fz (eL (dL Cl (eL cols) cols.length)) (dL Cl (eL cols) cols.length).length cks] 1 0 true false), OS.o (AO.cells [AV.fn 58 [AV.ptr 65536 0 0, AV.ptr 65537 0 0, AV.ptr 65538 0 0]] 1 0 true false), OS.o (AO.cells [AV.s (Value.bool (s.w == 0))] 1 0 true false), OS.o (AO.cells [AV.s (Value.int IntKind.u8 t.op), AV.s (Value.int IntKind.u8 t.k), AV.s (Value.int IntKind.i64 t.vn), AV.s (Value.int IntKind.i64 t.hi), AV.s (Value.string t.t), AV.s (Value.int IntKind.i64 t.n), AV.fz (eT t.args) t.args.length ksE] 7 0 true false)]⟩))
                      )
                    )
                    (.leaf (.at 0 (ct P 58 0).1 (ct P 58 0).2 ⟨Ex.normal, true, [some (AV.ptr 65537 0 0), some (AV.ptr 65538 0 0), some (AV.ptr 65539 0 0), some (AV.s (Value.int IntKind.u8 s.w)), some (AV.v (Value.bool true)), some (AV.fz (eT t.args) t.args.length ksE), some (AV.s (Value.int IntKind.i64 (Int.ofNat t.args.length))), some (AV.s (Value.int IntKind.i64 (IntKind.i64.wrap ((↑i : Int) + 1))))], [OS.o (AO.cells [AV.fz (eL (dL Cl (eL cols) cols.length)) (dL Cl (eL cols) cols.length).length cks] 1 0 true false), OS.o (AO.cells [AV.fn 58 [AV.ptr 65536 0 0, AV.ptr 65537 0 0, AV.ptr 65538 0 0]] 1 0 true false), OS.o (AO.cells [AV.v (Value.bool false)] 1 0 true false), OS.o (AO.cells [AV.s (Value.int IntKind.u8 t.op), AV.s (Value.int IntKind.u8 t.k), AV.s (Value.int IntKind.i64 t.vn), AV.s (Value.int IntKind.i64 t.hi), AV.s (Value.string t.t), AV.s (Value.int IntKind.i64 t.n), AV.fz (eT t.args) t.args.length ksE] 7 0 true false)]⟩))
                  )
                )
              )
              (.test ((tyG (dL Cl (eL cols) cols.length)     (trD       (trA (t.args.getD (↑i : Int).toNat default)))     s.f).snd)
                (.test ((tyG (dL Cl (eL cols) cols.length)       (trD         (trA (t.args.getD (↑i : Int).toNat default)))       s.f).fst ==   s.w)
                  (.leaf (.at 0 (ct P 58 0).1 (ct P 58 0).2 ⟨Ex.normal, true, [some (AV.ptr 65537 0 0), some (AV.ptr 65538 0 0), some (AV.ptr 65539 0 0), some (AV.s (Value.int IntKind.u8 s.w)), some (AV.v (Value.bool true)), some (AV.fz (eT t.args) t.args.length ksE), some (AV.s (Value.int IntKind.i64 (Int.ofNat t.args.length))), some (AV.s (Value.int IntKind.i64 (IntKind.i64.wrap ((↑i : Int) + 1))))], [OS.o (AO.cells [AV.fz (eL (dL Cl (eL cols) cols.length)) (dL Cl (eL cols) cols.length).length cks] 1 0 true false), OS.o (AO.cells [AV.fn 58 [AV.ptr 65536 0 0, AV.ptr 65537 0 0, AV.ptr 65538 0 0]] 1 0 true false), OS.o (AO.cells [AV.v (Value.bool true)] 1 0 true false), OS.o (AO.cells [AV.s (Value.int IntKind.u8 t.op), AV.s (Value.int IntKind.u8 t.k), AV.s (Value.int IntKind.i64 t.vn), AV.s (Value.int IntKind.i64 t.hi), AV.s (Value.string t.t), AV.s (Value.int IntKind.i64 t.n), AV.fz (eT t.args) t.args.length ksE] 7 0 true false)]⟩))
                  (.test ((tyG (dL Cl (eL cols) cols.length)       (trD         (trA (t.args.getD (↑i : Int).toNat default)))       s.f).fst ==   0)
                    (.leaf (.at 0 (ct P 58 0).1 (ct P 58 0).2 ⟨Ex.normal, true, [some (AV.ptr 65537 0 0), some (AV.ptr 65538 0 0), some (AV.ptr 65539 0 0), some (AV.s (Value.int IntKind.u8 s.w)), some (AV.v (Value.bool true)), some (AV.fz (eT t.args) t.args.length ksE), some (AV.s (Value.int IntKind.i64 (Int.ofNat t.args.length))), some (AV.s (Value.int IntKind.i64 (IntKind.i64.wrap ((↑i : Int) + 1))))], [OS.o (AO.cells [AV.fz (eL (dL Cl (eL cols) cols.length)) (dL Cl (eL cols) cols.length).length cks] 1 0 true false), OS.o (AO.cells [AV.fn 58 [AV.ptr 65536 0 0, AV.ptr 65537 0 0, AV.ptr 65538 0 0]] 1 0 true false), OS.o (AO.cells [AV.v (Value.bool true)] 1 0 true false), OS.o (AO.cells [AV.s (Value.int IntKind.u8 t.op), AV.s (Value.int IntKind.u8 t.k), AV.s (Value.int IntKind.i64 t.vn), AV.s (Value.int IntKind.i64 t.hi), AV.s (Value.string t.t), AV.s (Value.int IntKind.i64 t.n), AV.fz (eT t.args) t.args.length ksE] 7 0 true false)]⟩))
                    (.leaf (.at 0 (ct P 58 0).1 (ct P 58 0).2 ⟨Ex.normal, true, [some (AV.ptr 65537 0 0), some (AV.ptr 65538 0 0), some (AV.ptr 65539 0 0), some (AV.s (Value.int IntKind.u8 s.w)), some (AV.v (Value.bool true)), some (AV.fz (eT t.args) t.args.length ksE), some (AV.s (Value.int IntKind.i64 (Int.ofNat t.args.length))), some (AV.s (Value.int IntKind.i64 (IntKind.i64.wrap ((↑i : Int) + 1))))], [OS.o (AO.cells [AV.fz (eL (dL Cl (eL cols) cols.length)) (dL Cl (eL cols) cols.length).length cks] 1 0 true false), OS.o (AO.cells [AV.fn 58 [AV.ptr 65536 0 0, AV.ptr 65537 0 0, AV.ptr 65538 0 0]] 1 0 true false), OS.o (AO.cells [AV.s (Value.bool (s.w == 0))] 1 0 true false), OS.o (AO.cells [AV.s (Value.int IntKind.u8 t.op), AV.s (Value.int IntKind.u8 t.k), AV.s (Value.int IntKind.i64 t.vn), AV.s (Value.int IntKind.i64 t.hi), AV.s (Value.string t.t), AV.s (Value.int IntKind.i64 t.n), AV.fz (eT t.args) t.args.length ksE] 7 0 true false)]⟩))
                  )
                )
                (.leaf (.at 0 (ct P 58 0).1 (ct P 58 0).2 ⟨Ex.normal, true, [some (AV.ptr 65537 0 0), some (AV.ptr 65538 0 0), some (AV.ptr 65539 0 0), some (AV.s (Value.int IntKind.u8 s.w)), some (AV.v (Value.bool true)), some (AV.fz (eT t.args) t.args.length ksE), some (AV.s (Value.int IntKind.i64 (Int.ofNat t.args.length))), some (AV.s (Value.int IntKind.i64 (IntKind.i64.wrap ((↑i : Int) + 1))))], [OS.o (AO.cells [AV.fz (eL (dL Cl (eL cols) cols.length)) (dL Cl (eL cols) cols.length).length cks] 1 0 true false), OS.o (AO.cells [AV.fn 58 [AV.ptr 65536 0 0, AV.ptr 65537 0 0, AV.ptr 65538 0 0]] 1 0 true false), OS.o (AO.cells [AV.v (Value.bool false)] 1 0 true false), OS.o (AO.cells [AV.s (Value.int IntKind.u8 t.op), AV.s (Value.int IntKind.u8 t.k), AV.s (Value.int IntKind.i64 t.vn), AV.s (Value.int IntKind.i64 t.hi), AV.s (Value.string t.t), AV.s (Value.int IntKind.i64 t.n), AV.fz (eT t.args) t.args.length ksE] 7 0 true false)]⟩))
              )
            )
            (.test (s.w == 0)
              (.test (t.op == 9)
                (.test ((tyG (dL Cl (eL cols) cols.length)     (trD       (trA (t.args.getD (↑i : Int).toNat default)))     s.f).snd)
                  (.test ((tyG (dL Cl (eL cols) cols.length)       (trD         (trA (t.args.getD (↑i : Int).toNat default)))       s.f).fst ==   (tyG (dL Cl (eL cols) cols.length)       (trD         (trA (t.args.getD (↑i : Int).toNat default)))       s.f).fst)
                    (.leaf (.at 0 (ct P 58 0).1 (ct P 58 0).2 ⟨Ex.normal, true, [some (AV.ptr 65537 0 0), some (AV.ptr 65538 0 0), some (AV.ptr 65539 0 0), some   (AV.s     (Value.int IntKind.u8       (tyG (dL Cl (eL cols) cols.length)           (trD             (trA (t.args.getD (↑i : Int).toNat default)))           s.f).fst)), some   (AV.s     (Value.bool       ((tyG (dL Cl (eL cols) cols.length)             (trD               (trA (t.args.getD (↑i : Int).toNat default)))             s.f).fst ==         0))), some (AV.fz (eT t.args) t.args.length ksE), some (AV.s (Value.int IntKind.i64 (Int.ofNat t.args.length))), some (AV.s (Value.int IntKind.i64 (IntKind.i64.wrap ((↑i : Int) + 1))))], [OS.o (AO.cells [AV.fz (eL (dL Cl (eL cols) cols.length)) (dL Cl (eL cols) cols.length).length cks] 1 0 true false), OS.o (AO.cells [AV.fn 58 [AV.ptr 65536 0 0, AV.ptr 65537 0 0, AV.ptr 65538 0 0]] 1 0 true false), OS.o (AO.cells [AV.v (Value.bool true)] 1 0 true false), OS.o (AO.cells [AV.s (Value.int IntKind.u8 t.op), AV.s (Value.int IntKind.u8 t.k), AV.s (Value.int IntKind.i64 t.vn), AV.s (Value.int IntKind.i64 t.hi), AV.s (Value.string t.t), AV.s (Value.int IntKind.i64 t.n), AV.fz (eT t.args) t.args.length ksE] 7 0 true false)]⟩))
                    (.test ((tyG (dL Cl (eL cols) cols.length)       (trD         (trA (t.args.getD (↑i : Int).toNat default)))       s.f).fst ==   0)
                      (.leaf (.at 0 (ct P 58 0).1 (ct P 58 0).2 ⟨Ex.normal, true, [some (AV.ptr 65537 0 0), some (AV.ptr 65538 0 0), some (AV.ptr 65539 0 0), some   (AV.s     (Value.int IntKind.u8       (tyG (dL Cl (eL cols) cols.length)           (trD             (trA (t.args.getD (↑i : Int).toNat default)))           s.f).fst)), some   (AV.s     (Value.bool       ((tyG (dL Cl (eL cols) cols.length)             (trD               (trA (t.args.getD (↑i : Int).toNat default)))             s.f).fst ==         0))), some (AV.fz (eT t.args) t.args.length ksE), some (AV.s (Value.int IntKind.i64 (Int.ofNat t.args.length))), some (AV.s (Value.int IntKind.i64 (IntKind.i64.wrap ((↑i : Int) + 1))))], [OS.o (AO.cells [AV.fz (eL (dL Cl (eL cols) cols.length)) (dL Cl (eL cols) cols.length).length cks] 1 0 true false), OS.o (AO.cells [AV.fn 58 [AV.ptr 65536 0 0, AV.ptr 65537 0 0, AV.ptr 65538 0 0]] 1 0 true false), OS.o (AO.cells [AV.v (Value.bool true)] 1 0 true false), OS.o (AO.cells [AV.s (Value.int IntKind.u8 t.op), AV.s (Value.int IntKind.u8 t.k), AV.s (Value.int IntKind.i64 t.vn), AV.s (Value.int IntKind.i64 t.hi), AV.s (Value.string t.t), AV.s (Value.int IntKind.i64 t.n), AV.fz (eT t.args) t.args.length ksE] 7 0 true false)]⟩))
                      (.leaf (.at 0 (ct P 58 0).1 (ct P 58 0).2 ⟨Ex.normal, true, [some (AV.ptr 65537 0 0), some (AV.ptr 65538 0 0), some (AV.ptr 65539 0 0), some   (AV.s     (Value.int IntKind.u8       (tyG (dL Cl (eL cols) cols.length)           (trD             (trA (t.args.getD (↑i : Int).toNat default)))           s.f).fst)), some   (AV.s     (Value.bool       ((tyG (dL Cl (eL cols) cols.length)             (trD               (trA (t.args.getD (↑i : Int).toNat default)))             s.f).fst ==         0))), some (AV.fz (eT t.args) t.args.length ksE), some (AV.s (Value.int IntKind.i64 (Int.ofNat t.args.length))), some (AV.s (Value.int IntKind.i64 (IntKind.i64.wrap ((↑i : Int) + 1))))], [OS.o (AO.cells [AV.fz (eL (dL Cl (eL cols) cols.length)) (dL Cl (eL cols) cols.length).length cks] 1 0 true false), OS.o (AO.cells [AV.fn 58 [AV.ptr 65536 0 0, AV.ptr 65537 0 0, AV.ptr 65538 0 0]] 1 0 true false), OS.o   (AO.cells     [AV.s         (Value.bool           ((tyG (dL Cl (eL cols) cols.length)                 (trD                   (trA (t.args.getD (↑i : Int).toNat default)))                 s.f).fst ==             0))]     1 0 true false), OS.o (AO.cells [AV.s (Value.int IntKind.u8 t.op), AV.s (Value.int IntKind.u8 t.k), AV.s (Value.int IntKind.i64 t.vn), AV.s (Value.int IntKind.i64 t.hi), AV.s (Value.string t.t), AV.s (Value.int IntKind.i64 t.n), AV.fz (eT t.args) t.args.length ksE] 7 0 true false)]⟩))
                    )
                  )
                  (.leaf (.at 0 (ct P 58 0).1 (ct P 58 0).2 ⟨Ex.normal, true, [some (AV.ptr 65537 0 0), some (AV.ptr 65538 0 0), some (AV.ptr 65539 0 0), some   (AV.s     (Value.int IntKind.u8       (tyG (dL Cl (eL cols) cols.length)           (trD             (trA (t.args.getD (↑i : Int).toNat default)))           s.f).fst)), some   (AV.s     (Value.bool       ((tyG (dL Cl (eL cols) cols.length)             (trD               (trA (t.args.getD (↑i : Int).toNat default)))             s.f).fst ==         0))), some (AV.fz (eT t.args) t.args.length ksE), some (AV.s (Value.int IntKind.i64 (Int.ofNat t.args.length))), some (AV.s (Value.int IntKind.i64 (IntKind.i64.wrap ((↑i : Int) + 1))))], [OS.o (AO.cells [AV.fz (eL (dL Cl (eL cols) cols.length)) (dL Cl (eL cols) cols.length).length cks] 1 0 true false), OS.o (AO.cells [AV.fn 58 [AV.ptr 65536 0 0, AV.ptr 65537 0 0, AV.ptr 65538 0 0]] 1 0 true false), OS.o (AO.cells [AV.v (Value.bool false)] 1 0 true false), OS.o (AO.cells [AV.s (Value.int IntKind.u8 t.op), AV.s (Value.int IntKind.u8 t.k), AV.s (Value.int IntKind.i64 t.vn), AV.s (Value.int IntKind.i64 t.hi), AV.s (Value.string t.t), AV.s (Value.int IntKind.i64 t.n), AV.fz (eT t.args) t.args.length ksE] 7 0 true false)]⟩))
                )
                (.test (t.op == 10)
                  (.test ((tyG (dL Cl (eL cols) cols.length)     (trD       (trA (t.args.getD (↑i : Int).toNat default)))     s.f).snd)
                    (.test ((tyG (dL Cl (eL cols) cols.length)       (trD         (trA (t.args.getD (↑i : Int).toNat default)))       s.f).fst ==   (tyG (dL Cl (eL cols) cols.length)       (trD         (trA (t.args.getD (↑i : Int).toNat default)))       s.f).fst)
                      (.leaf (.at 0 (ct P 58 0).1 (ct P 58 0).2 ⟨Ex.normal, true, [some (AV.ptr 65537 0 0), some (AV.ptr 65538 0 0), some (AV.ptr 65539 0 0), some   (AV.s     (Value.int IntKind.u8       (tyG (dL Cl (eL cols) cols.length)           (trD             (trA (t.args.getD (↑i : Int).toNat default)))           s.f).fst)), some   (AV.s     (Value.bool       ((tyG (dL Cl (eL cols) cols.length)             (trD               (trA (t.args.getD (↑i : Int).toNat default)))             s.f).fst ==         0))), some (AV.fz (eT t.args) t.args.length ksE), some (AV.s (Value.int IntKind.i64 (Int.ofNat t.args.length))), some (AV.s (Value.int IntKind.i64 (IntKind.i64.wrap ((↑i : Int) + 1))))], [OS.o (AO.cells [AV.fz (eL (dL Cl (eL cols) cols.length)) (dL Cl (eL cols) cols.length).length cks] 1 0 true false), OS.o (AO.cells [AV.fn 58 [AV.ptr 65536 0 0, AV.ptr 65537 0 0, AV.ptr 65538 0 0]] 1 0 true false), OS.o (AO.cells [AV.v (Value.bool true)] 1 0 true false), OS.o (AO.cells [AV.s (Value.int IntKind.u8 t.op), AV.s (Value.int IntKind.u8 t.k), AV.s (Value.int IntKind.i64 t.vn), AV.s (Value.int IntKind.i64 t.hi), AV.s (Value.string t.t), AV.s (Value.int IntKind.i64 t.n), AV.fz (eT t.args) t.args.length ksE] 7 0 true false)]⟩))
                      (.test ((tyG (dL Cl (eL cols) cols.length)       (trD         (trA (t.args.getD (↑i : Int).toNat default)))       s.f).fst ==   0)
                        (.leaf (.at 0 (ct P 58 0).1 (ct P 58 0).2 ⟨Ex.normal, true, [some (AV.ptr 65537 0 0), some (AV.ptr 65538 0 0), some (AV.ptr 65539 0 0), some   (AV.s     (Value.int IntKind.u8       (tyG (dL Cl (eL cols) cols.length)           (trD             (trA (t.args.getD (↑i : Int).toNat default)))           s.f).fst)), some   (AV.s     (Value.bool       ((tyG (dL Cl (eL cols) cols.length)             (trD               (trA (t.args.getD (↑i : Int).toNat default)))             s.f).fst ==         0))), some (AV.fz (eT t.args) t.args.length ksE), some (AV.s (Value.int IntKind.i64 (Int.ofNat t.args.length))), some (AV.s (Value.int IntKind.i64 (IntKind.i64.wrap ((↑i : Int) + 1))))], [OS.o (AO.cells [AV.fz (eL (dL Cl (eL cols) cols.length)) (dL Cl (eL cols) cols.length).length cks] 1 0 true false), OS.o (AO.cells [AV.fn 58 [AV.ptr 65536 0 0, AV.ptr 65537 0 0, AV.ptr 65538 0 0]] 1 0 true false), OS.o (AO.cells [AV.v (Value.bool true)] 1 0 true false), OS.o (AO.cells [AV.s (Value.int IntKind.u8 t.op), AV.s (Value.int IntKind.u8 t.k), AV.s (Value.int IntKind.i64 t.vn), AV.s (Value.int IntKind.i64 t.hi), AV.s (Value.string t.t), AV.s (Value.int IntKind.i64 t.n), AV.fz (eT t.args) t.args.length ksE] 7 0 true false)]⟩))
                        (.leaf (.at 0 (ct P 58 0).1 (ct P 58 0).2 ⟨Ex.normal, true, [some (AV.ptr 65537 0 0), some (AV.ptr 65538 0 0), some (AV.ptr 65539 0 0), some   (AV.s     (Value.int IntKind.u8       (tyG (dL Cl (eL cols) cols.length)           (trD             (trA (t.args.getD (↑i : Int).toNat default)))           s.f).fst)), some   (AV.s     (Value.bool       ((tyG (dL Cl (eL cols) cols.length)             (trD               (trA (t.args.getD (↑i : Int).toNat default)))             s.f).fst ==         0))), some (AV.fz (eT t.args) t.args.length ksE), some (AV.s (Value.int IntKind.i64 (Int.ofNat t.args.length))), some (AV.s (Value.int IntKind.i64 (IntKind.i64.wrap ((↑i : Int) + 1))))], [OS.o (AO.cells [AV.fz (eL (dL Cl (eL cols) cols.length)) (dL Cl (eL cols) cols.length).length cks] 1 0 true false), OS.o (AO.cells [AV.fn 58 [AV.ptr 65536 0 0, AV.ptr 65537 0 0, AV.ptr 65538 0 0]] 1 0 true false), OS.o   (AO.cells     [AV.s         (Value.bool           ((tyG (dL Cl (eL cols) cols.length)                 (trD                   (trA (t.args.getD (↑i : Int).toNat default)))                 s.f).fst ==             0))]     1 0 true false), OS.o (AO.cells [AV.s (Value.int IntKind.u8 t.op), AV.s (Value.int IntKind.u8 t.k), AV.s (Value.int IntKind.i64 t.vn), AV.s (Value.int IntKind.i64 t.hi), AV.s (Value.string t.t), AV.s (Value.int IntKind.i64 t.n), AV.fz (eT t.args) t.args.length ksE] 7 0 true false)]⟩))
                      )
                    )
                    (.leaf (.at 0 (ct P 58 0).1 (ct P 58 0).2 ⟨Ex.normal, true, [some (AV.ptr 65537 0 0), some (AV.ptr 65538 0 0), some (AV.ptr 65539 0 0), some   (AV.s     (Value.int IntKind.u8       (tyG (dL Cl (eL cols) cols.length)           (trD             (trA (t.args.getD (↑i : Int).toNat default)))           s.f).fst)), some   (AV.s     (Value.bool       ((tyG (dL Cl (eL cols) cols.length)             (trD               (trA (t.args.getD (↑i : Int).toNat default)))             s.f).fst ==         0))), some (AV.fz (eT t.args) t.args.length ksE), some (AV.s (Value.int IntKind.i64 (Int.ofNat t.args.length))), some (AV.s (Value.int IntKind.i64 (IntKind.i64.wrap ((↑i : Int) + 1))))], [OS.o (AO.cells [AV.fz (eL (dL Cl (eL cols) cols.length)) (dL Cl (eL cols) cols.length).length cks] 1 0 true false), OS.o (AO.cells [AV.fn 58 [AV.ptr 65536 0 0, AV.ptr 65537 0 0, AV.ptr 65538 0 0]] 1 0 true false), OS.o (AO.cells [AV.v (Value.bool false)] 1 0 true false), OS.o (AO.cells [AV.s (Value.int IntKind.u8 t.op), AV.s (Value.int IntKind.u8 t.k), AV.s (Value.int IntKind.i64 t.vn), AV.s (Value.int IntKind.i64 t.hi), AV.s (Value.string t.t), AV.s (Value.int IntKind.i64 t.n), AV.fz (eT t.args) t.args.length ksE] 7 0 true false)]⟩))
                  )
                  (.test ((tyG (dL Cl (eL cols) cols.length)     (trD       (trA (t.args.getD (↑i : Int).toNat default)))     s.f).snd)
                    (.test ((tyG (dL Cl (eL cols) cols.length)       (trD         (trA (t.args.getD (↑i : Int).toNat default)))       s.f).fst ==   s.w)
                      (.leaf (.at 0 (ct P 58 0).1 (ct P 58 0).2 ⟨Ex.normal, true, [some (AV.ptr 65537 0 0), some (AV.ptr 65538 0 0), some (AV.ptr 65539 0 0), some (AV.s (Value.int IntKind.u8 s.w)), some   (AV.s     (Value.bool       ((tyG (dL Cl (eL cols) cols.length)             (trD               (trA (t.args.getD (↑i : Int).toNat default)))             s.f).fst ==         0))), some (AV.fz (eT t.args) t.args.length ksE), some (AV.s (Value.int IntKind.i64 (Int.ofNat t.args.length))), some (AV.s (Value.int IntKind.i64 (IntKind.i64.wrap ((↑i : Int) + 1))))], [OS.o (AO.cells [AV.fz (eL (dL Cl (eL cols) cols.length)) (dL Cl (eL cols) cols.length).length cks] 1 0 true false), OS.o (AO.cells [AV.fn 58 [AV.ptr 65536 0 0, AV.ptr 65537 0 0, AV.ptr 65538 0 0]] 1 0 true false), OS.o (AO.cells [AV.v (Value.bool true)] 1 0 true false), OS.o (AO.cells [AV.s (Value.int IntKind.u8 t.op), AV.s (Value.int IntKind.u8 t.k), AV.s (Value.int IntKind.i64 t.vn), AV.s (Value.int IntKind.i64 t.hi), AV.s (Value.string t.t), AV.s (Value.int IntKind.i64 t.n), AV.fz (eT t.args) t.args.length ksE] 7 0 true false)]⟩))
                      (.test ((tyG (dL Cl (eL cols) cols.length)       (trD         (trA (t.args.getD (↑i : Int).toNat default)))       s.f).fst ==   0)
                        (.leaf (.at 0 (ct P 58 0).1 (ct P 58 0).2 ⟨Ex.normal, true, [some (AV.ptr 65537 0 0), some (AV.ptr 65538 0 0), some (AV.ptr 65539 0 0), some (AV.s (Value.int IntKind.u8 s.w)), some   (AV.s     (Value.bool       ((tyG (dL Cl (eL cols) cols.length)             (trD               (trA (t.args.getD (↑i : Int).toNat default)))             s.f).fst ==         0))), some (AV.fz (eT t.args) t.args.length ksE), some (AV.s (Value.int IntKind.i64 (Int.ofNat t.args.length))), some (AV.s (Value.int IntKind.i64 (IntKind.i64.wrap ((↑i : Int) + 1))))], [OS.o (AO.cells [AV.fz (eL (dL Cl (eL cols) cols.length)) (dL Cl (eL cols) cols.length).length cks] 1 0 true false), OS.o (AO.cells [AV.fn 58 [AV.ptr 65536 0 0, AV.ptr 65537 0 0, AV.ptr 65538 0 0]] 1 0 true false), OS.o (AO.cells [AV.v (Value.bool true)] 1 0 true false), OS.o (AO.cells [AV.s (Value.int IntKind.u8 t.op), AV.s (Value.int IntKind.u8 t.k), AV.s (Value.int IntKind.i64 t.vn), AV.s (Value.int IntKind.i64 t.hi), AV.s (Value.string t.t), AV.s (Value.int IntKind.i64 t.n), AV.fz (eT t.args) t.args.length ksE] 7 0 true false)]⟩))
                        (.leaf (.at 0 (ct P 58 0).1 (ct P 58 0).2 ⟨Ex.normal, true, [some (AV.ptr 65537 0 0), some (AV.ptr 65538 0 0), some (AV.ptr 65539 0 0), some (AV.s (Value.int IntKind.u8 s.w)), some   (AV.s     (Value.bool       ((tyG (dL Cl (eL cols) cols.length)             (trD               (trA (t.args.getD (↑i : Int).toNat default)))             s.f).fst ==         0))), some (AV.fz (eT t.args) t.args.length ksE), some (AV.s (Value.int IntKind.i64 (Int.ofNat t.args.length))), some (AV.s (Value.int IntKind.i64 (IntKind.i64.wrap ((↑i : Int) + 1))))], [OS.o (AO.cells [AV.fz (eL (dL Cl (eL cols) cols.length)) (dL Cl (eL cols) cols.length).length cks] 1 0 true false), OS.o (AO.cells [AV.fn 58 [AV.ptr 65536 0 0, AV.ptr 65537 0 0, AV.ptr 65538 0 0]] 1 0 true false), OS.o (AO.cells [AV.s (Value.bool (s.w == 0))] 1 0 true false), OS.o (AO.cells [AV.s (Value.int IntKind.u8 t.op), AV.s (Value.int IntKind.u8 t.k), AV.s (Value.int IntKind.i64 t.vn), AV.s (Value.int IntKind.i64 t.hi), AV.s (Value.string t.t), AV.s (Value.int IntKind.i64 t.n), AV.fz (eT t.args) t.args.length ksE] 7 0 true false)]⟩))
                      )
                    )
                    (.leaf (.at 0 (ct P 58 0).1 (ct P 58 0).2 ⟨Ex.normal, true, [some (AV.ptr 65537 0 0), some (AV.ptr 65538 0 0), some (AV.ptr 65539 0 0), some (AV.s (Value.int IntKind.u8 s.w)), some   (AV.s     (Value.bool       ((tyG (dL Cl (eL cols) cols.length)             (trD               (trA (t.args.getD (↑i : Int).toNat default)))             s.f).fst ==         0))), some (AV.fz (eT t.args) t.args.length ksE), some (AV.s (Value.int IntKind.i64 (Int.ofNat t.args.length))), some (AV.s (Value.int IntKind.i64 (IntKind.i64.wrap ((↑i : Int) + 1))))], [OS.o (AO.cells [AV.fz (eL (dL Cl (eL cols) cols.length)) (dL Cl (eL cols) cols.length).length cks] 1 0 true false), OS.o (AO.cells [AV.fn 58 [AV.ptr 65536 0 0, AV.ptr 65537 0 0, AV.ptr 65538 0 0]] 1 0 true false), OS.o (AO.cells [AV.v (Value.bool false)] 1 0 true false), OS.o (AO.cells [AV.s (Value.int IntKind.u8 t.op), AV.s (Value.int IntKind.u8 t.k), AV.s (Value.int IntKind.i64 t.vn), AV.s (Value.int IntKind.i64 t.hi), AV.s (Value.string t.t), AV.s (Value.int IntKind.i64 t.n), AV.fz (eT t.args) t.args.length ksE] 7 0 true false)]⟩))
                  )
                )
              )
              (.test ((tyG (dL Cl (eL cols) cols.length)     (trD       (trA (t.args.getD (↑i : Int).toNat default)))     s.f).snd)
                (.test ((tyG (dL Cl (eL cols) cols.length)       (trD         (trA (t.args.getD (↑i : Int).toNat default)))       s.f).fst ==   s.w)
                  (.leaf (.at 0 (ct P 58 0).1 (ct P 58 0).2 ⟨Ex.normal, true, [some (AV.ptr 65537 0 0), some (AV.ptr 65538 0 0), some (AV.ptr 65539 0 0), some (AV.s (Value.int IntKind.u8 s.w)), some   (AV.s     (Value.bool       ((tyG (dL Cl (eL cols) cols.length)             (trD               (trA (t.args.getD (↑i : Int).toNat default)))             s.f).fst ==         0))), some (AV.fz (eT t.args) t.args.length ksE), some (AV.s (Value.int IntKind.i64 (Int.ofNat t.args.length))), some (AV.s (Value.int IntKind.i64 (IntKind.i64.wrap ((↑i : Int) + 1))))], [OS.o (AO.cells [AV.fz (eL (dL Cl (eL cols) cols.length)) (dL Cl (eL cols) cols.length).length cks] 1 0 true false), OS.o (AO.cells [AV.fn 58 [AV.ptr 65536 0 0, AV.ptr 65537 0 0, AV.ptr 65538 0 0]] 1 0 true false), OS.o (AO.cells [AV.v (Value.bool true)] 1 0 true false), OS.o (AO.cells [AV.s (Value.int IntKind.u8 t.op), AV.s (Value.int IntKind.u8 t.k), AV.s (Value.int IntKind.i64 t.vn), AV.s (Value.int IntKind.i64 t.hi), AV.s (Value.string t.t), AV.s (Value.int IntKind.i64 t.n), AV.fz (eT t.args) t.args.length ksE] 7 0 true false)]⟩))
                  (.test ((tyG (dL Cl (eL cols) cols.length)       (trD         (trA (t.args.getD (↑i : Int).toNat default)))       s.f).fst ==   0)
                    (.leaf (.at 0 (ct P 58 0).1 (ct P 58 0).2 ⟨Ex.normal, true, [some (AV.ptr 65537 0 0), some (AV.ptr 65538 0 0), some (AV.ptr 65539 0 0), some (AV.s (Value.int IntKind.u8 s.w)), some   (AV.s     (Value.bool       ((tyG (dL Cl (eL cols) cols.length)             (trD               (trA (t.args.getD (↑i : Int).toNat default)))             s.f).fst ==         0))), some (AV.fz (eT t.args) t.args.length ksE), some (AV.s (Value.int IntKind.i64 (Int.ofNat t.args.length))), some (AV.s (Value.int IntKind.i64 (IntKind.i64.wrap ((↑i : Int) + 1))))], [OS.o (AO.cells [AV.fz (eL (dL Cl (eL cols) cols.length)) (dL Cl (eL cols) cols.length).length cks] 1 0 true false), OS.o (AO.cells [AV.fn 58 [AV.ptr 65536 0 0, AV.ptr 65537 0 0, AV.ptr 65538 0 0]] 1 0 true false), OS.o (AO.cells [AV.v (Value.bool true)] 1 0 true false), OS.o (AO.cells [AV.s (Value.int IntKind.u8 t.op), AV.s (Value.int IntKind.u8 t.k), AV.s (Value.int IntKind.i64 t.vn), AV.s (Value.int IntKind.i64 t.hi), AV.s (Value.string t.t), AV.s (Value.int IntKind.i64 t.n), AV.fz (eT t.args) t.args.length ksE] 7 0 true false)]⟩))
                    (.leaf (.at 0 (ct P 58 0).1 (ct P 58 0).2 ⟨Ex.normal, true, [some (AV.ptr 65537 0 0), some (AV.ptr 65538 0 0), some (AV.ptr 65539 0 0), some (AV.s (Value.int IntKind.u8 s.w)), some   (AV.s     (Value.bool       ((tyG (dL Cl (eL cols) cols.length)             (trD               (trA (t.args.getD (↑i : Int).toNat default)))             s.f).fst ==         0))), some (AV.fz (eT t.args) t.args.length ksE), some (AV.s (Value.int IntKind.i64 (Int.ofNat t.args.length))), some (AV.s (Value.int IntKind.i64 (IntKind.i64.wrap ((↑i : Int) + 1))))], [OS.o (AO.cells [AV.fz (eL (dL Cl (eL cols) cols.length)) (dL Cl (eL cols) cols.length).length cks] 1 0 true false), OS.o (AO.cells [AV.fn 58 [AV.ptr 65536 0 0, AV.ptr 65537 0 0, AV.ptr 65538 0 0]] 1 0 true false), OS.o (AO.cells [AV.s (Value.bool (s.w == 0))] 1 0 true false), OS.o (AO.cells [AV.s (Value.int IntKind.u8 t.op), AV.s (Value.int IntKind.u8 t.k), AV.s (Value.int IntKind.i64 t.vn), AV.s (Value.int IntKind.i64 t.hi), AV.s (Value.string t.t), AV.s (Value.int IntKind.i64 t.n), AV.fz (eT t.args) t.args.length ksE] 7 0 true false)]⟩))
                  )
                )
                (.leaf (.at 0 (ct P 58 0).1 (ct P 58 0).2 ⟨Ex.normal, true, [some (AV.ptr 65537 0 0), some (AV.ptr 65538 0 0), some (AV.ptr 65539 0 0), some (AV.s (Value.int IntKind.u8 s.w)), some   (AV.s     (Value.bool       ((tyG (dL Cl (eL cols) cols.length)             (trD               (trA (t.args.getD (↑i : Int).toNat default)))             s.f).fst ==         0))), some (AV.fz (eT t.args) t.args.length ksE), some (AV.s (Value.int IntKind.i64 (Int.ofNat t.args.length))), some (AV.s (Value.int IntKind.i64 (IntKind.i64.wrap ((↑i : Int) + 1))))], [OS.o (AO.cells [AV.fz (eL (dL Cl (eL cols) cols.length)) (dL Cl (eL cols) cols.length).length cks] 1 0 true false), OS.o (AO.cells [AV.fn 58 [AV.ptr 65536 0 0, AV.ptr 65537 0 0, AV.ptr 65538 0 0]] 1 0 true false), OS.o (AO.cells [AV.v (Value.bool false)] 1 0 true false), OS.o (AO.cells [AV.s (Value.int IntKind.u8 t.op), AV.s (Value.int IntKind.u8 t.k), AV.s (Value.int IntKind.i64 t.vn), AV.s (Value.int IntKind.i64 t.hi), AV.s (Value.string t.t), AV.s (Value.int IntKind.i64 t.n), AV.fz (eT t.args) t.args.length ksE] 7 0 true false)]⟩))
              )
            )
          )
        )
      )
    )
    .no
  )
  (.test (s.no)
    (.test (t.op != 5)
      (.test (t.op != 11)
        (.test (t.op != 12)
          (.leaf (.fin ⟨Ex.ret, true, [some (AV.v (Value.int IntKind.u8 (0)))], [OS.o (AO.cells [AV.fz (eL cols) cols.length cks] 1 0 true false), OS.o (AO.cells [AV.fn 58 [AV.ptr 65536 0 0, AV.ptr 65537 0 0, AV.ptr 65538 0 0]] 1 0 true false), OS.o (AO.cells [AV.s (Value.bool s.f)] 1 0 true false)]⟩))
          (.ob (ObC Tryd.prog 59 [AV.s (Value.int IntKind.u8 t.op)] (AV.s (Value.int IntKind.u8 (askF t.op))) [])
            (.test (askF t.op == 1)
              (.leaf (.fin ⟨Ex.ret, true, [some (AV.v (Value.int IntKind.u8 (1)))], [OS.o (AO.cells [AV.fz (eL cols) cols.length cks] 1 0 true false), OS.o (AO.cells [AV.fn 58 [AV.ptr 65536 0 0, AV.ptr 65537 0 0, AV.ptr 65538 0 0]] 1 0 true false), OS.o (AO.cells [AV.s (Value.bool s.f)] 1 0 true false)]⟩))
              (.leaf (.fin ⟨Ex.ret, true, [some (AV.v (Value.int IntKind.u8 (2)))], [OS.o (AO.cells [AV.fz (eL cols) cols.length cks] 1 0 true false), OS.o (AO.cells [AV.fn 58 [AV.ptr 65536 0 0, AV.ptr 65537 0 0, AV.ptr 65538 0 0]] 1 0 true false), OS.o (AO.cells [AV.s (Value.bool s.f)] 1 0 true false)]⟩))
            )
          )
        )
        (.ob (ObC Tryd.prog 59 [AV.s (Value.int IntKind.u8 t.op)] (AV.s (Value.int IntKind.u8 (askF t.op))) [])
          (.test (askF t.op == 1)
            (.leaf (.fin ⟨Ex.ret, true, [some (AV.v (Value.int IntKind.u8 (1)))], [OS.o (AO.cells [AV.fz (eL cols) cols.length cks] 1 0 true false), OS.o (AO.cells [AV.fn 58 [AV.ptr 65536 0 0, AV.ptr 65537 0 0, AV.ptr 65538 0 0]] 1 0 true false), OS.o (AO.cells [AV.s (Value.bool s.f)] 1 0 true false)]⟩))
            (.leaf (.fin ⟨Ex.ret, true, [some (AV.v (Value.int IntKind.u8 (2)))], [OS.o (AO.cells [AV.fz (eL cols) cols.length cks] 1 0 true false), OS.o (AO.cells [AV.fn 58 [AV.ptr 65536 0 0, AV.ptr 65537 0 0, AV.ptr 65538 0 0]] 1 0 true false), OS.o (AO.cells [AV.s (Value.bool s.f)] 1 0 true false)]⟩))
          )
        )
      )
      (.ob (ObC Tryd.prog 59 [AV.s (Value.int IntKind.u8 t.op)] (AV.s (Value.int IntKind.u8 (askF t.op))) [])
        (.test (askF t.op == 1)
          (.leaf (.fin ⟨Ex.ret, true, [some (AV.v (Value.int IntKind.u8 (1)))], [OS.o (AO.cells [AV.fz (eL cols) cols.length cks] 1 0 true false), OS.o (AO.cells [AV.fn 58 [AV.ptr 65536 0 0, AV.ptr 65537 0 0, AV.ptr 65538 0 0]] 1 0 true false), OS.o (AO.cells [AV.s (Value.bool s.f)] 1 0 true false)]⟩))
          (.leaf (.fin ⟨Ex.ret, true, [some (AV.v (Value.int IntKind.u8 (2)))], [OS.o (AO.cells [AV.fz (eL cols) cols.length cks] 1 0 true false), OS.o (AO.cells [AV.fn 58 [AV.ptr 65536 0 0, AV.ptr 65537 0 0, AV.ptr 65538 0 0]] 1 0 true false), OS.o (AO.cells [AV.s (Value.bool s.f)] 1 0 true false)]⟩))
        )
      )
    )
    (.ob (ObC Tryd.prog 59 [AV.s (Value.int IntKind.u8 t.op)] (AV.s (Value.int IntKind.u8 (askF t.op))) [])
      (.test (askF t.op == 1)
        (.leaf (.fin ⟨Ex.ret, true, [some (AV.v (Value.int IntKind.u8 (1)))], [OS.o (AO.cells [AV.fz (eL cols) cols.length cks] 1 0 true false), OS.o (AO.cells [AV.fn 58 [AV.ptr 65536 0 0, AV.ptr 65537 0 0, AV.ptr 65538 0 0]] 1 0 true false), OS.o (AO.cells [AV.s (Value.bool s.f)] 1 0 true false)]⟩))
        (.leaf (.fin ⟨Ex.ret, true, [some (AV.v (Value.int IntKind.u8 (2)))], [OS.o (AO.cells [AV.fz (eL cols) cols.length cks] 1 0 true false), OS.o (AO.cells [AV.fn 58 [AV.ptr 65536 0 0, AV.ptr 65537 0 0, AV.ptr 65538 0 0]] 1 0 true false), OS.o (AO.cells [AV.s (Value.bool s.f)] 1 0 true false)]⟩))
      )
    )
  )
)
theorem tg_h0 (t : Tr) (cols : List Cl) (b : Bool) (s : TyS) (i : Nat) (j : Nat → Value) : (ev Tryd.prog tySX noS 3000 noL 3000 .normal (hd Tryd.prog 58 0) (mkE (tg_cf 0) (tg_v0 t cols b s i) j) (mkW 65539 3 (tg_o0 t cols b s i))).map (lookW Tryd.prog 65539 3 (resOf Tryd.prog 58) [] [] tg_cf) = tg_t0 Tryd.prog t cols b s i := by kernel_rfl

def ty_cf : Nat → Cfg := cfL []
def ty_a (t : Tr) (cols : List Cl) : List AV := [trO t, .fz (eL cols) cols.length cks]
noncomputable def ty_t (P : Program) (t : Tr) (cols : List Cl) : Br PO :=
(.ob (ObE (trO t)   (trA (trD (trO t))))
  (.ob (ObC Tryd.prog 57 [trA (trD (trO t)), AV.s (Value.int IntKind.i64 (Int.ofNat cols.length))]   (AV.s (Value.bool (formF (trD (trO t)) (Int.ofNat cols.length)))) [])
    (.test (!formF (trD (trO t)) (Int.ofNat cols.length))
      (.leaf (.fin ⟨Ex.ret, true, [some (AV.v (Value.tuple { toList := [Value.int IntKind.u8 (0), Value.int IntKind.i64 (4)] }))], []⟩))
      (.ob (ObE (trO t)   (trA (trD (trO t))))
        (.ob (ObO [OS.o (AO.cells [AV.fz (eL cols) cols.length cks] 1 65537 true false), OS.o (AO.cells [AV.fn 58 [AV.ptr 65536 0 0, AV.ptr 65537 0 0, AV.ptr 65538 0 0]] 1 65539 true false), OS.o (AO.cells [AV.v (Value.bool true)] 1 65538 true false)]   [AO.cells [AV.fz (eL (dL Cl (eL cols) cols.length)) (dL Cl (eL cols) cols.length).length cks] 1 0 true false, AO.cells [AV.fn 58 [AV.ptr 65536 0 0, AV.ptr 65537 0 0, AV.ptr 65538 0 0]] 1 0 true false, AO.cells [AV.s (Value.bool true)] 1 0 true false])
          (.ob (ObW Tryd.prog 3 58 [trA (trD (trO t)), AV.ptr 65536 0 0, AV.ptr 65537 0 0, AV.ptr 65538 0 0]   [AO.cells [AV.fz (eL (dL Cl (eL cols) cols.length)) (dL Cl (eL cols) cols.length).length cks] 1 0 true false, AO.cells [AV.fn 58 [AV.ptr 65536 0 0, AV.ptr 65537 0 0, AV.ptr 65538 0 0]] 1 0 true false, AO.cells [AV.s (Value.bool true)] 1 0 true false]   (AV.s (Value.int IntKind.u8 (tyG (dL Cl (eL cols) cols.length) (trD (trO t)) true).fst))   [AO.cells [AV.fz (eL (dL Cl (eL cols) cols.length)) (dL Cl (eL cols) cols.length).length cks] 1 0 true false, AO.cells [AV.fn 58 [AV.ptr 65536 0 0, AV.ptr 65537 0 0, AV.ptr 65538 0 0]] 1 0 true false,     AO.cells [AV.s (Value.bool (tyG (dL Cl (eL cols) cols.length) (trD (trO t)) true).snd)] 1 0 true false])
            (.test (!(tyG (dL Cl (eL cols) cols.length) (trD (trO t)) true).snd)
              (.leaf (.fin ⟨Ex.ret, true, [some (AV.v (Value.tuple { toList := [Value.int IntKind.u8 (0), Value.int IntKind.i64 (60)] }))], []⟩))
              (.leaf (.fin ⟨Ex.ret, true, [some (AV.tup [AV.s (Value.int IntKind.u8 (tyG (dL Cl (eL cols) cols.length) (trD (trO t)) true).fst), AV.v (Value.int IntKind.i64 (0))])], []⟩))
            )
          )
        )
      )
    )
  )
)
theorem ty_h (t : Tr) (cols : List Cl) : (ev Tryd.prog tyFX noS 3000 noL 3000 .normal [.c 0 (codeOf Tryd.prog 44)] (params (ty_a t cols)) Ev.start).map (lookP Tryd.prog (resOf Tryd.prog 44) [] ty_cf) = ty_t Tryd.prog t cols := by kernel_rfl

theorem leBv {x y : Bool} (h : y = x) : Le (.v (.bool x)) (.s (.bool y)) := by subst h; exact .vs _
theorem leBs {x y : Bool} (h : y = x) : Le (.s (.bool x)) (.s (.bool y)) := by subst h; exact .refl _
theorem leIv {k : IntKind} {x y : Int} (h : y = x) : Le (.v (.int k x)) (.s (.int k y)) := by subst h; exact .vs _
theorem leIs {k : IntKind} {x y : Int} (h : y = x) : Le (.s (.int k x)) (.s (.int k y)) := by subst h; exact .refl _
theorem ft_ok (v : Vl) (k : Int) : OCalls Tryd.prog 22 [vlA v, .s (.int .u8 k)] (.s (.bool (fitsF v k))) [] := by
  have yv : ∀ x, fitsF v k = x → Goes ⟨.ret, true, [some (.v (.bool x))], []⟩ [.s (.bool (fitsF v k))] [] := fun x hx => ⟨rfl, .cons _ _ _ _ (leBv hx) .nil, .nil⟩
  have ys : ∀ x, fitsF v k = x → Goes ⟨.ret, true, [some (.s (.bool x))], []⟩ [.s (.bool (fitsF v k))] [] := fun x hx => ⟨rfl, .cons _ _ _ _ (leBs hx) .nil, .nil⟩
  refine floyd0 ev_mix ev_ok vmX3_ok noSQ (by kernel_rfl) [] ft_cf (ft_t _ v k) (ft_h v k) ?_
  unfold ft_t
  refine hSd (fun h1 => hSd (fun h2 => hO ⟨vm_ok _⟩ ⟨fun h3 => hSe (fun h4 => yv _ ?_) fun h4 => ys _ ?_, fun h3 => yv _ ?_⟩) fun h2 => yv _ ?_) fun h1 => yv _ ?_
  · have h3 : vmayF v = true := h3
    unfold fitsF; rw [h3, h4]; simp [h2]; omega
  · have h3 : vmayF v = true := h3
    unfold fitsF; rw [h3]; simp [h2, h4, show 1 ≤ k by omega]; rw [Bool.eq_iff_iff]; simp
  · have h3 : vmayF v = false := h3
    unfold fitsF; rw [h3]; simp
  · unfold fitsF; simp [h2]
  · unfold fitsF; simp [show ¬ 1 ≤ k by omega]
theorem ak_ok (op : Int) : OCalls Tryd.prog 59 [.s (.int .u8 op)] (.s (.int .u8 (askF op))) [] := by
  have yv : ∀ x, askF op = x → Goes ⟨.ret, true, [some (.v (.int .u8 x))], []⟩ [.s (.int .u8 (askF op))] [] := fun x hx => ⟨rfl, .cons _ _ _ _ (leIv hx) .nil, .nil⟩
  refine floyd0 ev_mix ev_ok noX_open noSQ (by kernel_rfl) [] ak_cf (ak_t _ op) (ak_h op) ?_
  unfold ak_t
  repeat' refine hSe (fun _ => ?_) fun _ => ?_
  all_goals first
    | exact yv _ (by simp_all [askF])
    | (exfalso; omega)
theorem tyG_eq (cols : List Cl) (t : Tr) (f : Bool) : tyG cols t f = if t.op = 1 then (t.k, f) else if t.op = 2 then ((cols.getD t.n.toNat default).ty, f) else finY t.op (tyLs cols t.op t.args ⟨askF t.op, false, f⟩) := by obtain ⟨_, _, _, _, _, _, as1⟩ := t; simp only [tyG]
theorem tyLs_nil (cols : List Cl) (op : Int) (s : TyS) : tyLs cols op [] s = s := by simp only [tyLs]
theorem tyLs_cons (cols : List Cl) (op : Int) (a : Tr) (r : List Tr) (s : TyS) : tyLs cols op (a :: r) s = tyLs cols op r (stepT op s (tyG cols a s.f)) := by simp only [tyLs]
theorem colsO_le (cols : List Cl) (fam : Nat) (tip : Bool) : OLe (.o (.cells [.fz (eL cols) cols.length cks] 1 fam tip false)) (colsO cols) := OLe.cells _ _ _ _ _ _ _ (Les.refl _)
theorem selfT_le (fam : Nat) (tip : Bool) : OLe (.o (.cells [.fn 58 [.ptr 65536 0 0, .ptr 65537 0 0, .ptr 65538 0 0]] 1 fam tip false)) selfT := OLe.cells _ _ _ _ _ _ _ (Les.refl _)
theorem fitO_le {x : AV} {b : Bool} {fam : Nat} {tip : Bool} (h : Le x (.s (.bool b))) : OLe (.o (.cells [x] 1 fam tip false)) (fitO b) := OLe.cells _ _ _ _ _ _ _ (.cons _ _ _ _ h .nil)
structure TyJ (t : Tr) (cols : List Cl) (b : Bool) (s : TyS) (i : Nat) : Prop where
  l : t.args.length ≤ 9223372036854775807
  il : i ≤ t.args.length
  e : tyG cols t b = finY t.op (tyLs cols t.op (t.args.drop i) s)
theorem tg_ok (cols : List Cl) (t : Tr) : allF t = true → (∀ n ∈ namF t, n < (cols.length : Int)) → ∀ b, OWCalls Tryd.prog 3 58 [trA t, .ptr 65536 0 0, .ptr 65537 0 0, .ptr 65538 0 0] [colsO cols, selfT, fitO b] (.s (.int .u8 (tyG cols t b).1)) [colsO cols, selfT, fitO (tyG cols t b).2] := by
  induction t using Tr.ind with
  | h t ih =>
  intro hall hcol b
  obtain ⟨hnode, hargs⟩ := allF_get hall
  refine OWCalls.le (args := tg_a t cols b) (OWCalls.bnd fun hb => ?_) (.cons _ _ _ _ (trO_le t) (Les.refl _))
  have hlen : t.args.length ≤ 9223372036854775807 := hb.1.2.2.2.2.2.2.1
  have eG := tyG_eq cols t b
  have fin : ∀ x z, Le x (.s (.int .u8 (tyG cols t b).1)) → Le z (.s (.bool (tyG cols t b).2)) → Goes ⟨.ret, true, [some x], [.o (.cells [.fz (eL cols) cols.length cks] 1 0 true false), .o (.cells [.fn 58 [.ptr 65536 0 0, .ptr 65537 0 0, .ptr 65538 0 0]] 1 0 true false), .o (.cells [z] 1 0 true false)]⟩ [.s (.int .u8 (tyG cols t b).1)] [colsO cols, selfT, fitO (tyG cols t b).2] := fun x z hx hz =>
    ⟨rfl, .cons _ _ _ _ hx .nil, .cons _ _ _ _ (colsO_le _ _ _) (.cons _ _ _ _ (selfT_le _ _) (.cons _ _ _ _ (fitO_le hz) .nil))⟩
  refine floydW ev_mix ev_ok tySX_ok noSQ (by kernel_rfl) 3 65539 rfl (by simp [tg_i]) [] [] tg_cf (fun s : TyS × Nat => t.args.length - s.2) (fun _ => 0) (fun s => tg_v0 t cols b s.1 s.2) (fun s => tg_o0 t cols b s.1 s.2) (fun s => TyJ t cols b s.1 s.2) (fun s => tg_t0 _ t cols b s.1 s.2) (tg_t _ t cols b) (tg_h t cols b) (fun s => tg_h0 t cols b s.1 s.2) ?_ ?_
  · unfold tg_t
    refine hSe (fun h1 => fin _ _ (leIs (by rw [eG, if_pos h1])) (leBs (by rw [eG, if_pos h1]))) fun h1 => hSe (fun h2 => hT ?_ (fin _ _ (leIs (by rw [eG, if_neg h1, if_pos h2])) (leBs (by rw [eG, if_neg h1, if_pos h2])))) fun h2 => hO ⟨ak_ok _⟩ ?_
    · have h3 := (nodeF_get hnode).2.2.2.1
      have h4 := hcol t.n (by rw [namF_eq, if_pos h2]; simp)
      simp [h3, h4]
    · exact ⟨(⟨askF t.op, false, b⟩, 0), ⟨hlen, Nat.zero_le _, by rw [eG, if_neg h1, if_neg h2]; rfl⟩, rfl, rfl, rfl, (.cons _ _ _ _ (.refl _) (.cons _ _ _ _ (.refl _) (.cons _ _ _ _ (.refl _) (.cons _ _ _ _ (.refl _) (.cons _ _ _ _ (.vs _) (.cons _ _ _ _ (.refl _) (.cons _ _ _ _ (.refl _) (.cons _ _ _ _ (.vs _) .nil)))))))), .cons _ _ _ _ (colsO_le _ _ _) (.cons _ _ _ _ (selfT_le _ _) (.cons _ _ _ _ (fitO_le (.refl _)) (.cons _ _ _ _ (box_le t _ _) .nil)))⟩
  · rintro ⟨s, i⟩ ⟨hl, hi, hs⟩
    simp only at hi hs
    unfold tg_t0
    simp only [Int.toNat_natCast, trD_A, dL_eL]
    refine hSd (fun h => hSi (by omega) (hOA (hO ⟨.cons _ _ _ _ (colsO_le _ _ _) (.cons _ _ _ _ (selfT_le _ _) (.cons _ _ _ _ (fitO_le (.refl _)) .nil))⟩ (hO ⟨ih _ (getD_mem (by omega)) (hargs _ (getD_mem (by omega))) (fun n hn => hcol n ?_) s.f⟩ ?_)))) fun h => ?_
    · rw [namF_eq, List.mem_append]
      exact .inr (namLs_mem (getD_mem (by omega)) hn)
    · have h : i < t.args.length := by omega
      have e := tyLs_cons cols t.op (t.args.getD i default) (t.args.drop (i + 1)) s
      rw [← drop_getD h] at e
      rw [e] at hs
      generalize tyG cols (t.args.getD i default) s.f = z at hs ⊢
      have go : ∀ x y u, Le x (.s (.int .u8 (stepT t.op s z).w)) → Le y (.s (.bool (stepT t.op s z).no)) → Le u (.s (.bool (stepT t.op s z).f)) → ∃ s' : TyS × Nat, TyJ t cols b s'.1 s'.2 ∧ WellFoundedRelation.rel (t.args.length - s'.2) (t.args.length - i) ∧ 0 = 0 ∧ ((ct Tryd.prog 58 0).1, (ct Tryd.prog 58 0).2) = ct Tryd.prog 58 0 ∧ Goes ⟨.normal, true, [some (.ptr 65537 0 0), some (.ptr 65538 0 0), some (.ptr 65539 0 0), some x, some y, some (.fz (eT t.args) t.args.length ksE), some (.s (.int .i64 (Int.ofNat t.args.length))), some (.s (.int .i64 (IntKind.i64.wrap ((i : Int) + 1))))], [.o (.cells [.fz (eL cols) cols.length cks] 1 0 true false), .o (.cells [.fn 58 [.ptr 65536 0 0, .ptr 65537 0 0, .ptr 65538 0 0]] 1 0 true false), .o (.cells [u] 1 0 true false), .o (boxE t)]⟩ (tg_v0 t cols b s'.1 s'.2) (tg_o0 t cols b s'.1 s'.2) := fun x y u hx hy hu =>
        ⟨(stepT t.op s z, i + 1), ⟨hl, by simp only; omega, hs⟩, rel_nat (by simp only; omega), rfl, rfl, rfl, .cons _ _ _ _ (.refl _) (.cons _ _ _ _ (.refl _) (.cons _ _ _ _ (.refl _) (.cons _ _ _ _ hx (.cons _ _ _ _ hy (.cons _ _ _ _ (.refl _) (.cons _ _ _ _ (.refl _) (.cons _ _ _ _ (.ofEq (by rw [wrap_lt (by omega) (by omega)]; rfl)) .nil))))))), .cons _ _ _ _ (colsO_le _ _ _) (.cons _ _ _ _ (selfT_le _ _) (.cons _ _ _ _ (fitO_le hu) (.cons _ _ _ _ (box_le t _ _) .nil)))⟩
      clear hs e ih hargs hcol hall hnode eG fin hb
      obtain ⟨w, no, f⟩ := s
      obtain ⟨ty, fz⟩ := z
      repeat' refine hS (fun _ => ?_) fun _ => ?_
      all_goals refine go _ _ _ ?_ ?_ ?_
      all_goals first
        | refine leIs ?_
        | refine leIv ?_
        | refine leBv ?_
        | refine leBs ?_
      all_goals clear go
      all_goals first
        | (simp_all [stepT]; done)
        | (show (no || decide (ty = 0)) = (ty == 0); rw [Bool.eq_iff_iff]; simp_all; done)
        | (exfalso; simp_all; done)
    · rw [List.drop_eq_nil_of_le (by omega), tyLs_nil] at hs
      rw [hs] at fin ⊢
      clear hs ih hargs hcol hall hnode eG hb
      obtain ⟨w, no, f⟩ := s
      repeat' first
        | refine hO ⟨ak_ok _⟩ ?_
        | refine hS (fun _ => ?_) fun _ => ?_
      all_goals refine fin _ _ ?_ ?_
      all_goals first
        | refine leIs ?_
        | refine leIv ?_
        | refine leBv ?_
        | refine leBs ?_
      all_goals clear fin
      all_goals first
        | rfl
        | (simp_all [finY]; done)
        | (exfalso; simp_all; done)
theorem ty_ok (t : Tr) (cols : List Cl) : OCalls Tryd.prog 44 [trA t, .fz (eL cols) cols.length cks] (resI2 (typeF cols t)) [] := by
  refine OCalls.le (args := ty_a t cols) ?_ (.cons _ _ _ _ (trO_le t) (Les.refl _))
  have fin : ∀ z, Le z (resI2 (typeF cols t)) → Goes ⟨.ret, true, [some z], []⟩ [resI2 (typeF cols t)] [] := fun z hz => ⟨rfl, .cons _ _ _ _ hz .nil, .nil⟩
  have vv : ∀ x y, typeF cols t = (x, y) → Le (.v (.tuple #[.int .u8 x, .int .i64 y])) (resI2 (typeF cols t)) := fun x y h => by rw [h]; exact .vtup _ _ (.cons _ _ _ _ (.vs _) (.cons _ _ _ _ (.vs _) .nil))
  refine floyd0 ev_mix ev_ok tyFX_ok noSQ (by kernel_rfl) [] ty_cf (ty_t _ t cols) (ty_h t cols) ?_
  unfold ty_t
  simp only [trD_B, dL_eL, Int.ofNat_eq_natCast]
  refine hOB (hO ⟨fm_ok t _⟩ ⟨fun h => fin _ (vv _ _ ?_), fun h => hOB (hO ⟨.cons _ _ _ _ (colsO_le _ _ _) (.cons _ _ _ _ (selfT_le _ _) (.cons _ _ _ _ (fitO_le (.vs _)) .nil))⟩ (hO ⟨tg_ok cols t ?_ ?_ true⟩ ⟨fun h2 => fin _ (vv _ _ ?_), fun h2 => fin _ ?_⟩))⟩)
  · have h : formF t cols.length = false := by simpa using h
    unfold typeF
    rw [if_neg (by rw [h]; simp)]
  · have h : formF t cols.length = true := by simpa using h
    exact ((mayF_iff t).1 ((formF_iff t _).1 h).1).1
  · have h : formF t cols.length = true := by simpa using h
    exact ((formF_iff t _).1 h).2
  · have h : formF t cols.length = true := by simpa using h
    have h2 : (tyG cols t true).2 = false := by simpa using h2
    unfold typeF
    rw [if_pos h, h2]; rfl
  · have h : formF t cols.length = true := by simpa using h
    have h2 : (tyG cols t true).2 = true := by simpa using h2
    unfold typeF
    rw [if_pos h, h2]
    exact .tup _ _ (.cons _ _ _ _ (.refl _) (.cons _ _ _ _ (.vs _) .nil))
end Go.Proofs.YtengccmjlaejfaaDoor
