/- A rule's columns: kind, check, refers; Name. No condition. -/
import Derived.Test.YtengccmjlaejfaaDoorRl1
import Derived.Test.YtengccmjlaejfaaDoorRlS
section
namespace Go.Proofs.YtengccmjlaejfaaDoor
open Ev Go.RowKit
set_option maxRecDepth 100000
set_option linter.unusedVariables false
def letB : ByteArray := ⟨#[97, 98, 99, 100, 101, 102, 103, 104, 105, 106, 107, 108, 109, 110, 111, 112, 113, 114, 115, 116, 117, 118, 119, 120, 121, 122]⟩
def othB : ByteArray := ⟨#[97, 98, 99, 100, 101, 102, 103, 104, 105, 106, 107, 108, 109, 110, 111, 112, 113, 114, 115, 116, 117, 118, 119, 120, 121, 122, 48, 49, 50, 51, 52, 53, 54, 55, 56, 57, 95]⟩
def hdB (s : ByteArray) : UInt8 := s.data.getD 0 0
noncomputable def ctX : SumBr := obX Tryd.prog 17 (AKs.cons aS (AKs.cons aS AKs.nil)) fun z => .leaf (.s (.bool (contF z.1 (hdB z.2.1))), [])
noncomputable def trX : SumBr := obX Tryd.prog 18 (AKs.cons aS (AKs.cons aS AKs.nil)) fun z => .leaf (.s (.string (trimF z.1 z.2.1)), [])
noncomputable def nmSX : SumBr := orX ctX trX
def kindF (r : Ru) (t : Ta) (i : Int) : Int := (t.cols.getD (r.cols.getD i.toNat default).toNat default).ty
def asL (r : Ru) (t : Ta) : List AV := [.s (.int .u8 r.k), .s (.string r.nm), .s (.string r.tb), .fz (eL r.cols) r.cols.length [.int .i64], .s (.int .u8 r.ex.op), .s (.int .u8 r.ex.k), .s (.int .i64 r.ex.vn), .s (.int .i64 r.ex.hi), .s (.string r.ex.t), .s (.int .i64 r.ex.n), .fz (eT r.ex.args) r.ex.args.length ksE, .s (.string r.rf), .s (.int .u8 r.od), .s (.int .u8 r.ou), .s (.bool r.lt), .s (.bool r.vd), .s (.string t.nm), .fz (eL t.cols) t.cols.length cks, .s (.string t.ow)]
def asO (r : Ru) (t : Ta) : AV := .agg (asL r t)
noncomputable def asA (r : Ru) (t : Ta) : AV := aAs.can (r, t)
noncomputable def aAq : AK (Ru × Ta) where
  dec := aAs.dec
  can z := asA z.1 z.2
  pre := aAs.pre
  ok := aAs.ok
def boxA (r : Ru) (t : Ta) : AO := .cells (asL r t) 19 0 true false
noncomputable def tyX : SumBr := obX Tryd.prog 44 (AKs.cons aTr (AKs.cons (aL Cl) AKs.nil)) fun z => .leaf (resI2 (typeF z.2.1 z.1), [])
noncomputable def kdX : SumBr := obX Tryd.prog 25 (AKs.cons aAq (AKs.cons (aI .i64) AKs.nil)) fun z => .leaf (.s (.int .u8 (kindF z.1.1 z.1.2 z.2.1)), [])
noncomputable def kmX : SumBr := obX Tryd.prog 24 (AKs.cons (aL Int) (AKs.cons (aI .i64) AKs.nil)) fun z => .leaf (.s (.bool (kmF z.1 z.2.1)), [])
noncomputable def rfX : SumBr := orX kdX kmX
theorem nmSX_ok : SumGO Tryd.prog (sumS nmSX) := orX_open (obX_ok (by kernel_rfl)) (obX_ok (by kernel_rfl))
theorem tyX_ok : SumGO Tryd.prog (sumS tyX) := obX_ok (by kernel_rfl)
theorem rfX_ok : SumGO Tryd.prog (sumS rfX) := orX_open (obX_ok (by kernel_rfl)) (obX_ok (by kernel_rfl))
def nm_cf : Nat → Cfg := cfL []
def nm_a (s : ByteArray) : List AV := [.s (.string s)]
noncomputable def nm_t (P : Program) (s : ByteArray) : Br PO :=
(.test (!s.toList == (⟨#[]⟩ : ByteArray).toList)
  (.test (decide ((↑s.size : Int) ≤ 32))
    (.test (decide (0 ≤ 0) && decide (0 ≤ 1) && decide (1 ≤ (↑s.size : Int)))
      (.ob (ObC Tryd.prog 17 [AV.s (Value.string (⟨#[97, 98, 99, 100, 101, 102, 103, 104, 105, 106, 107, 108, 109, 110, 111, 112, 113, 114, 115, 116, 117, 118, 119, 120, 121, 122]⟩ : ByteArray)), AV.s (Value.string (s.extract (Int.toNat 0) (Int.toNat 1)))]   (AV.s (Value.bool (contF (⟨#[97, 98, 99, 100, 101, 102, 103, 104, 105, 106, 107, 108, 109, 110, 111, 112, 113, 114, 115, 116, 117, 118, 119, 120, 121, 122]⟩ : ByteArray) (hdB (s.extract (Int.toNat 0) (Int.toNat 1)))))) [])
        (.test (contF (⟨#[97, 98, 99, 100, 101, 102, 103, 104, 105, 106, 107, 108, 109, 110, 111, 112, 113, 114, 115, 116, 117, 118, 119, 120, 121, 122]⟩ : ByteArray) (hdB (s.extract (Int.toNat 0) (Int.toNat 1))))
          (.ob (ObC Tryd.prog 18 [AV.s (Value.string s), AV.s (Value.string (⟨#[97, 98, 99, 100, 101, 102, 103, 104, 105, 106, 107, 108, 109, 110, 111, 112, 113, 114, 115, 116, 117, 118, 119, 120, 121, 122, 48, 49, 50, 51, 52, 53, 54, 55, 56, 57, 95]⟩ : ByteArray))]   (AV.s     (Value.string       (trimF (s, (⟨#[97, 98, 99, 100, 101, 102, 103, 104, 105, 106, 107, 108, 109, 110, 111, 112, 113, 114, 115, 116, 117, 118, 119, 120, 121, 122, 48, 49, 50, 51, 52, 53, 54, 55, 56, 57, 95]⟩ : ByteArray), ()).fst         (s, (⟨#[97, 98, 99, 100, 101, 102, 103, 104, 105, 106, 107, 108, 109, 110, 111, 112, 113, 114, 115, 116, 117, 118, 119, 120, 121, 122, 48, 49, 50, 51, 52, 53, 54, 55, 56, 57, 95]⟩ : ByteArray), ()).snd.fst)))   [])
            (.leaf (.fin ⟨Ex.ret, true, [some (AV.s (Value.bool ((trimF s (⟨#[97, 98, 99, 100, 101, 102, 103, 104, 105, 106, 107, 108, 109, 110, 111, 112, 113, 114, 115, 116, 117, 118, 119, 120, 121, 122, 48, 49, 50, 51, 52, 53, 54, 55, 56, 57, 95]⟩ : ByteArray)).toList == (⟨#[]⟩ : ByteArray).toList)))], []⟩))
          )
          (.leaf (.fin ⟨Ex.ret, true, [some (AV.v (Value.bool false))], []⟩))
        )
      )
      .no
    )
    (.leaf (.fin ⟨Ex.ret, true, [some (AV.v (Value.bool false))], []⟩))
  )
  (.leaf (.fin ⟨Ex.ret, true, [some (AV.v (Value.bool false))], []⟩))
)
theorem nm_h (s : ByteArray) : (ev Tryd.prog nmSX noS 3000 noL 3000 .normal [.c 0 (codeOf Tryd.prog 7)] (params (nm_a s)) Ev.start).map (lookP Tryd.prog (resOf Tryd.prog 7) [] nm_cf) = nm_t Tryd.prog s := by kernel_rfl

def kd_cf : Nat → Cfg := cfL []
def kd_a (r : Ru) (t : Ta) (i : Int) : List AV := [asO r t, .s (.int .i64 i)]
noncomputable def kd_t (P : Program) (r : Ru) (t : Ta) (i : Int) : Br PO :=
(.test (decide (0 ≤ i) && decide (i < (↑r.cols.length : Int)))
  (.test (decide (0 ≤ r.cols.getD i.toNat default) && decide (r.cols.getD i.toNat default < (↑t.cols.length : Int)))
    (.leaf (.fin ⟨Ex.ret, true, [some (AV.s (Value.int IntKind.u8 (t.cols.getD (r.cols.getD i.toNat default).toNat default).ty))], []⟩))
    .no
  )
  .no
)
theorem kd_h (r : Ru) (t : Ta) (i : Int) : (ev Tryd.prog noX noS 3000 noL 3000 .normal [.c 0 (codeOf Tryd.prog 25)] (params (kd_a r t i)) Ev.start).map (lookP Tryd.prog (resOf Tryd.prog 25) [] kd_cf) = kd_t Tryd.prog r t i := by kernel_rfl

def ck_cf : Nat → Cfg := cfL []
def ck_a (r : Ru) (t : Ta) : List AV := [asO r t]
noncomputable def ck_t (P : Program) (r : Ru) (t : Ta) : Br PO :=
(.ob (ObE (trO r.ex)   (trA (trD (trO r.ex))))
  (.ob (ObC Tryd.prog 44   [trA (trD (trO r.ex)), AV.fz (eL (dL Cl (eL t.cols) t.cols.length)) (dL Cl (eL t.cols) t.cols.length).length (Rec.ks Cl)]   (AV.tup     [AV.s (Value.int IntKind.u8 (typeF (dL Cl (eL t.cols) t.cols.length) (trD (trO r.ex))).fst),       AV.s (Value.int IntKind.i64 (typeF (dL Cl (eL t.cols) t.cols.length) (trD (trO r.ex))).snd)])   [])
    (.test ((typeF (dL Cl (eL t.cols) t.cols.length) (trD (trO r.ex))).snd == 0)
      (.test ((typeF (dL Cl (eL t.cols) t.cols.length) (trD (trO r.ex))).fst != 2)
        (.test ((typeF (dL Cl (eL t.cols) t.cols.length) (trD (trO r.ex))).fst != 0)
          (.leaf (.fin ⟨Ex.ret, true, [some (AV.v (Value.int IntKind.i64 (60)))], []⟩))
          (.leaf (.fin ⟨Ex.ret, true, [some (AV.s (Value.int IntKind.i64 (typeF (dL Cl (eL t.cols) t.cols.length) (trD (trO r.ex))).snd))], []⟩))
        )
        (.leaf (.fin ⟨Ex.ret, true, [some (AV.s (Value.int IntKind.i64 (typeF (dL Cl (eL t.cols) t.cols.length) (trD (trO r.ex))).snd))], []⟩))
      )
      (.leaf (.fin ⟨Ex.ret, true, [some (AV.s (Value.int IntKind.i64 (typeF (dL Cl (eL t.cols) t.cols.length) (trD (trO r.ex))).snd))], []⟩))
    )
  )
)
theorem ck_h (r : Ru) (t : Ta) : (ev Tryd.prog tyX noS 3000 noL 3000 .normal [.c 0 (codeOf Tryd.prog 23)] (params (ck_a r t)) Ev.start).map (lookP Tryd.prog (resOf Tryd.prog 23) [] ck_cf) = ck_t Tryd.prog r t := by kernel_rfl

def rf_cf : Nat → Cfg := cfL [mkC 82 [2, 3, 70, 71] [(2, []), (3, [])]]
def rf_a (r : Ru) (t : Ta) (u : Ru) (o : Ta) : List AV := [asO r t, asO u o]
noncomputable def rf_t (P : Program) (r : Ru) (t : Ta) (u : Ru) (o : Ta) : Br PO :=
(.test (u.k != 3)
  (.leaf (.fin ⟨Ex.ret, true, [some (AV.v (Value.int IntKind.i64 (4)))], []⟩))
  (.test (!u.nm.toList == r.rf.toList)
    (.leaf (.fin ⟨Ex.ret, true, [some (AV.v (Value.int IntKind.i64 (4)))], []⟩))
    (.test (!u.tb.toList == o.nm.toList)
      (.leaf (.fin ⟨Ex.ret, true, [some (AV.v (Value.int IntKind.i64 (4)))], []⟩))
      (.test (u.lt)
        (.leaf (.fin ⟨Ex.ret, true, [some (AV.v (Value.int IntKind.i64 (4)))], []⟩))
        (.test ((↑u.cols.length : Int) != (↑r.cols.length : Int))
          (.leaf (.fin ⟨Ex.ret, true, [some (AV.v (Value.int IntKind.i64 (4)))], []⟩))
          (.ob (ObC Tryd.prog 24 [AV.fz (eL (dL Int (eL u.cols) u.cols.length)) (dL Int (eL u.cols) u.cols.length).length (Rec.ks Int), AV.s (Value.int IntKind.i64 (Int.ofNat o.cols.length))] (AV.s (Value.bool (kmF (dL Int (eL u.cols) u.cols.length) (Int.ofNat o.cols.length)))) [])
            (.test (!kmF (dL Int (eL u.cols) u.cols.length) (Int.ofNat o.cols.length))
              (.leaf (.fin ⟨Ex.ret, true, [some (AV.v (Value.int IntKind.i64 (4)))], []⟩))
              (.test (decide (r.od > 4))
                (.leaf (.fin ⟨Ex.ret, true, [some (AV.v (Value.int IntKind.i64 (4)))], []⟩))
                (.test (decide (r.ou > 4))
                  (.leaf (.fin ⟨Ex.ret, true, [some (AV.v (Value.int IntKind.i64 (4)))], []⟩))
                  (.leaf (.at 0 (ct P 26 0).1 (ct P 26 0).2 ⟨Ex.normal, true, [some (AV.ptr 65536 0 0), some (AV.ptr 65537 0 0), some (AV.s (Value.int IntKind.i64 (Int.ofNat r.cols.length))), some (AV.v (Value.int IntKind.i64 (0)))], [OS.o   (AO.cells     [AV.s (Value.int IntKind.u8 r.k), AV.s (Value.string r.nm), AV.s (Value.string r.tb), AV.fz (eL r.cols) r.cols.length [TK.int IntKind.i64], AV.s (Value.int IntKind.u8 r.ex.op), AV.s (Value.int IntKind.u8 r.ex.k), AV.s (Value.int IntKind.i64 r.ex.vn), AV.s (Value.int IntKind.i64 r.ex.hi), AV.s (Value.string r.ex.t), AV.s (Value.int IntKind.i64 r.ex.n),       AV.fz (eT r.ex.args) r.ex.args.length ksE, AV.s (Value.string r.rf), AV.s (Value.int IntKind.u8 r.od), AV.s (Value.int IntKind.u8 r.ou), AV.s (Value.bool r.lt), AV.s (Value.bool r.vd), AV.s (Value.string t.nm), AV.fz (eL t.cols) t.cols.length cks, AV.s (Value.string t.ow)]     19 65536 true false), OS.o   (AO.cells     [AV.s (Value.int IntKind.u8 u.k), AV.s (Value.string u.nm), AV.s (Value.string u.tb), AV.fz (eL u.cols) u.cols.length [TK.int IntKind.i64], AV.s (Value.int IntKind.u8 u.ex.op), AV.s (Value.int IntKind.u8 u.ex.k), AV.s (Value.int IntKind.i64 u.ex.vn), AV.s (Value.int IntKind.i64 u.ex.hi), AV.s (Value.string u.ex.t), AV.s (Value.int IntKind.i64 u.ex.n),       AV.fz (eT u.ex.args) u.ex.args.length ksE, AV.s (Value.string u.rf), AV.s (Value.int IntKind.u8 u.od), AV.s (Value.int IntKind.u8 u.ou), AV.s (Value.bool u.lt), AV.s (Value.bool u.vd), AV.s (Value.string o.nm), AV.fz (eL o.cols) o.cols.length cks, AV.s (Value.string o.ow)]     19 65537 true false)]⟩))
                )
              )
            )
          )
        )
      )
    )
  )
)
theorem rf_h (r : Ru) (t : Ta) (u : Ru) (o : Ta) : (ev Tryd.prog rfX noS 3000 noL 3000 .normal [.c 0 (codeOf Tryd.prog 26)] (params (rf_a r t u o)) Ev.start).map (lookP Tryd.prog (resOf Tryd.prog 26) [] rf_cf) = rf_t Tryd.prog r t u o := by kernel_rfl
def rf_v0 (r : Ru) (t : Ta) (u : Ru) (o : Ta) (i : Nat) : List AV := [.ptr 65536 0 0, .ptr 65537 0 0, .s (.int .i64 r.cols.length), .s (.int .i64 i)]
def rf_o0 (r : Ru) (t : Ta) (u : Ru) (o : Ta) (i : Nat) : List AO := [boxA r t, boxA u o]
noncomputable def rf_t0 (P : Program) (r : Ru) (t : Ta) (u : Ru) (o : Ta) (i : Nat) : Br PO :=
(.test (decide ((↑i : Int) < (↑r.cols.length : Int)))
  (.ob (ObE (trO r.ex)   (trA (trD (trO r.ex))))
    (.ob (ObC Tryd.prog 25   [asA       { k := r.k, nm := r.nm, tb := r.tb, cols := dL Int (eL r.cols) r.cols.length, ex := trD (trO r.ex), rf := r.rf, od := r.od,         ou := r.ou, lt := r.lt, vd := r.vd }       { nm := t.nm, cols := dL Cl (eL t.cols) t.cols.length, ow := t.ow },     AV.s (Value.int IntKind.i64 (Int.ofNat i))]   (AV.s     (Value.int IntKind.u8       (kindF         { k := r.k, nm := r.nm, tb := r.tb, cols := dL Int (eL r.cols) r.cols.length, ex := trD (trO r.ex), rf := r.rf,           od := r.od, ou := r.ou, lt := r.lt, vd := r.vd }         { nm := t.nm, cols := dL Cl (eL t.cols) t.cols.length, ow := t.ow } (Int.ofNat i))))   [])
      (.ob (ObE (trO u.ex)   (trA (trD (trO u.ex))))
        (.ob (ObC Tryd.prog 25   [asA       { k := u.k, nm := u.nm, tb := u.tb, cols := dL Int (eL u.cols) u.cols.length, ex := trD (trO u.ex), rf := u.rf, od := u.od,         ou := u.ou, lt := u.lt, vd := u.vd }       { nm := o.nm, cols := dL Cl (eL o.cols) o.cols.length, ow := o.ow },     AV.s (Value.int IntKind.i64 (Int.ofNat i))]   (AV.s     (Value.int IntKind.u8       (kindF         { k := u.k, nm := u.nm, tb := u.tb, cols := dL Int (eL u.cols) u.cols.length, ex := trD (trO u.ex), rf := u.rf,           od := u.od, ou := u.ou, lt := u.lt, vd := u.vd }         { nm := o.nm, cols := dL Cl (eL o.cols) o.cols.length, ow := o.ow } (Int.ofNat i))))   [])
          (.test (kindF     { k := r.k, nm := r.nm, tb := r.tb, cols := dL Int (eL r.cols) r.cols.length, ex := trD (trO r.ex), rf := r.rf, od := r.od,       ou := r.ou, lt := r.lt, vd := r.vd }     { nm := t.nm, cols := dL Cl (eL t.cols) t.cols.length, ow := t.ow } (Int.ofNat i) !=   kindF     { k := u.k, nm := u.nm, tb := u.tb, cols := dL Int (eL u.cols) u.cols.length, ex := trD (trO u.ex), rf := u.rf, od := u.od,       ou := u.ou, lt := u.lt, vd := u.vd }     { nm := o.nm, cols := dL Cl (eL o.cols) o.cols.length, ow := o.ow } (Int.ofNat i))
            (.leaf (.fin ⟨Ex.ret, true, [some (AV.v (Value.int IntKind.i64 (60)))], []⟩))
            (.leaf (.at 0 (ct P 26 0).1 (ct P 26 0).2 ⟨Ex.normal, true, [some (AV.ptr 65536 0 0), some (AV.ptr 65537 0 0), some (AV.s (Value.int IntKind.i64 (Int.ofNat r.cols.length))), some (AV.s (Value.int IntKind.i64 (IntKind.i64.wrap ((↑i : Int) + 1))))], [OS.o   (AO.cells     [AV.s (Value.int IntKind.u8 r.k), AV.s (Value.string r.nm), AV.s (Value.string r.tb), AV.fz (eL r.cols) r.cols.length [TK.int IntKind.i64], AV.s (Value.int IntKind.u8 r.ex.op), AV.s (Value.int IntKind.u8 r.ex.k), AV.s (Value.int IntKind.i64 r.ex.vn), AV.s (Value.int IntKind.i64 r.ex.hi), AV.s (Value.string r.ex.t), AV.s (Value.int IntKind.i64 r.ex.n),       AV.fz (eT r.ex.args) r.ex.args.length ksE, AV.s (Value.string r.rf), AV.s (Value.int IntKind.u8 r.od), AV.s (Value.int IntKind.u8 r.ou), AV.s (Value.bool r.lt), AV.s (Value.bool r.vd), AV.s (Value.string t.nm), AV.fz (eL t.cols) t.cols.length cks, AV.s (Value.string t.ow)]     19 0 true false), OS.o   (AO.cells     [AV.s (Value.int IntKind.u8 u.k), AV.s (Value.string u.nm), AV.s (Value.string u.tb), AV.fz (eL u.cols) u.cols.length [TK.int IntKind.i64], AV.s (Value.int IntKind.u8 u.ex.op), AV.s (Value.int IntKind.u8 u.ex.k), AV.s (Value.int IntKind.i64 u.ex.vn), AV.s (Value.int IntKind.i64 u.ex.hi), AV.s (Value.string u.ex.t), AV.s (Value.int IntKind.i64 u.ex.n),       AV.fz (eT u.ex.args) u.ex.args.length ksE, AV.s (Value.string u.rf), AV.s (Value.int IntKind.u8 u.od), AV.s (Value.int IntKind.u8 u.ou), AV.s (Value.bool u.lt), AV.s (Value.bool u.vd), AV.s (Value.string o.nm), AV.fz (eL o.cols) o.cols.length cks, AV.s (Value.string o.ow)]     19 0 true false)]⟩))
          )
        )
      )
    )
  )
  (.leaf (.fin ⟨Ex.ret, true, [some (AV.v (Value.int IntKind.i64 (0)))], []⟩))
)
theorem rf_h0 (r : Ru) (t : Ta) (u : Ru) (o : Ta) (i : Nat) (j : Nat → Value) : (ev Tryd.prog rfX noS 3000 noL 3000 .normal (hd Tryd.prog 26 0) (mkE (rf_cf 0) (rf_v0 r t u o i) j) (mkH openB (rf_o0 r t u o i))).map (lookP Tryd.prog (resOf Tryd.prog 26) [] rf_cf) = rf_t0 Tryd.prog r t u o i := by kernel_rfl

def nameF (s : ByteArray) : Bool := decide (s ≠ ⟨#[]⟩) && (decide ((s.size : Int) ≤ 32) && (contF letB (hdB s) && decide (trimF s othB = ⟨#[]⟩)))
theorem ba_eqE (s t : ByteArray) : (s.toList == t.toList) = decide (s = t) := ba_eq
theorem head1 {s : ByteArray} (h : s ≠ ⟨#[]⟩) : s.extract 0 1 = ⟨#[hdB s]⟩ := by
  obtain ⟨⟨l⟩⟩ := s
  cases l with
  | nil => exact absurd rfl h
  | cons a l =>
    apply ByteArray.ext
    rw [ByteArray.data_extract]
    apply Array.ext'
    simp [hdB]
theorem nm_ok (s : ByteArray) : OCalls Tryd.prog 7 [.s (.string s)] (.s (.bool (nameF s))) [] := by
  have yv : ∀ x, nameF s = x → Goes ⟨.ret, true, [some (.v (.bool x))], []⟩ [.s (.bool (nameF s))] [] := fun x hx => ⟨rfl, .cons _ _ _ _ (leBv hx) .nil, .nil⟩
  have ys : ∀ x, nameF s = x → Goes ⟨.ret, true, [some (.s (.bool x))], []⟩ [.s (.bool (nameF s))] [] := fun x hx => ⟨rfl, .cons _ _ _ _ (leBs hx) .nil, .nil⟩
  refine floyd0 ev_mix ev_ok nmSX_ok noSQ (by kernel_rfl) [] nm_cf (nm_t _ s) (nm_h s) ?_
  unfold nm_t
  simp only [ba_eqE]
  refine ⟨fun h1 => hSd (fun h2 => ?_) fun h2 => yv _ ?_, fun h1 => yv _ ?_⟩
  · have h1 : s ≠ ⟨#[]⟩ := by simpa using h1
    have h0 : 0 < s.size := by
      obtain ⟨⟨l⟩⟩ := s
      cases l with
      | nil => exact absurd rfl h1
      | cons a l => exact Nat.succ_pos _
    have e1 : s.extract (Int.toNat 0) (Int.toNat 1) = ⟨#[hdB s]⟩ := head1 h1
    have e2 : hdB (⟨#[hdB s]⟩ : ByteArray) = hdB s := rfl
    refine hT (by simp; omega) ?_
    rw [e1, e2]
    refine hO ⟨cont_ok _ _⟩ ⟨fun h3 => hO ⟨trim_ok _ _ (by omega) (by decide) (by decide)⟩ (ys _ ?_), fun h3 => yv _ ?_⟩
    · have h3 : contF letB (hdB s) = true := h3
      unfold nameF
      rw [h3]
      simp only [h2, decide_true, Bool.true_and]
      rw [decide_eq_true h1]; rfl
    · have h3 : contF letB (hdB s) = false := h3
      unfold nameF
      rw [h3]; simp
  · unfold nameF; simp [h2]
  · have h1 : s = ⟨#[]⟩ := by simpa using h1
    unfold nameF; simp [h1]
theorem asO_le (r : Ru) (t : Ta) : Le (asA r t) (asO r t) :=
  .agg _ _ (.cons _ _ _ _ (.refl _) (.cons _ _ _ _ (.refl _) (.cons _ _ _ _ (.refl _) (.cons _ _ _ _ (.refl _) (.cons _ _ _ _ (.refl _) (.cons _ _ _ _ (.refl _) (.cons _ _ _ _ (.refl _) (.cons _ _ _ _ (.refl _) (.cons _ _ _ _ (.refl _) (.cons _ _ _ _ (.refl _) (.cons _ _ _ _ (trF_le _) (Les.refl _))))))))))))
theorem kd_ok (r : Ru) (t : Ta) (i : Int) (h1 : 0 ≤ i ∧ i < r.cols.length) (h2 : 0 ≤ r.cols.getD i.toNat default ∧ r.cols.getD i.toNat default < (t.cols.length : Int)) : OCalls Tryd.prog 25 [asA r t, .s (.int .i64 i)] (.s (.int .u8 (kindF r t i))) [] := by
  refine OCalls.le (args := kd_a r t i) ?_ (.cons _ _ _ _ (asO_le r t) (Les.refl _))
  refine floyd0 ev_mix ev_ok noX_open noSQ (by kernel_rfl) [] kd_cf (kd_t _ r t i) (kd_h r t i) ?_
  unfold kd_t
  refine hT (by rw [decide_eq_true h1.1, decide_eq_true h1.2]; rfl) (hT (by rw [decide_eq_true h2.1, decide_eq_true h2.2]; rfl) ?_)
  exact ⟨rfl, .cons _ _ _ _ (.refl _) .nil, .nil⟩
noncomputable def chkF (r : Ru) (t : Ta) : Int := if (typeF t.cols r.ex).2 = 0 then (if (typeF t.cols r.ex).1 ≠ 2 ∧ (typeF t.cols r.ex).1 ≠ 0 then 60 else 0) else (typeF t.cols r.ex).2
theorem ck_ok (r : Ru) (t : Ta) : OCalls Tryd.prog 23 [asA r t] (.s (.int .i64 (chkF r t))) [] := by
  have yv : ∀ x, chkF r t = x → Goes ⟨.ret, true, [some (.v (.int .i64 x))], []⟩ [.s (.int .i64 (chkF r t))] [] := fun x hx => ⟨rfl, .cons _ _ _ _ (leIv hx) .nil, .nil⟩
  have ys : ∀ x, chkF r t = x → Goes ⟨.ret, true, [some (.s (.int .i64 x))], []⟩ [.s (.int .i64 (chkF r t))] [] := fun x hx => ⟨rfl, .cons _ _ _ _ (leIs hx) .nil, .nil⟩
  refine OCalls.le (args := ck_a r t) ?_ (.cons _ _ _ _ (asO_le r t) (Les.refl _))
  refine floyd0 ev_mix ev_ok tyX_ok noSQ (by kernel_rfl) [] ck_cf (ck_t _ r t) (ck_h r t) ?_
  unfold ck_t
  simp only [trD_B, dL_eL]
  refine hOB (hO ⟨ty_ok _ _⟩ ?_)
  repeat' refine hS (fun _ => ?_) fun _ => ?_
  all_goals first
    | refine yv _ ?_
    | refine ys _ ?_
  all_goals
    unfold chkF
    simp_all
def kOk (r : Ru) (t : Ta) : Prop := ∀ i, i < r.cols.length → 0 ≤ r.cols.getD i default ∧ r.cols.getD i default < (t.cols.length : Int)
theorem kmF_ok {r : Ru} {t : Ta} (h : kmF r.cols t.cols.length = true) : kOk r t := by
  unfold kmF at h
  simp only [decide_eq_true_eq] at h
  exact fun i hi => ⟨(h.2.2 i hi).1, (h.2.2 i hi).2.1⟩
open Classical in
noncomputable def refF (r : Ru) (t : Ta) (u : Ru) (o : Ta) : Int :=
  if u.k ≠ 3 ∨ u.nm ≠ r.rf ∨ u.tb ≠ o.nm ∨ u.lt = true ∨ u.cols.length ≠ r.cols.length ∨ kmF u.cols o.cols.length = false ∨ r.od > 4 ∨ r.ou > 4 then 4
  else if ∀ i : Nat, i < r.cols.length → kindF r t i = kindF u o i then 0 else 60
theorem boxA_le (r : Ru) (t : Ta) (fam : Nat) (tip : Bool) : OLe (.o (.cells (asL r t) 19 fam tip false)) (boxA r t) := OLe.cells _ _ _ _ _ _ _ (Les.refl _)
theorem rf_ok (r : Ru) (t : Ta) (u : Ru) (o : Ta) (hr : kOk r t) : OCalls Tryd.prog 26 [asA r t, asA u o] (.s (.int .i64 (refF r t u o))) [] := by
  have yv : ∀ x, refF r t u o = x → Goes ⟨.ret, true, [some (.v (.int .i64 x))], []⟩ [.s (.int .i64 (refF r t u o))] [] := fun x hx => ⟨rfl, .cons _ _ _ _ (leIv hx) .nil, .nil⟩
  refine OCalls.le (args := rf_a r t u o) (OCalls.bnd fun hb => ?_) (.cons _ _ _ _ (asO_le r t) (.cons _ _ _ _ (asO_le u o) (Les.refl _)))
  have hlen : r.cols.length ≤ 9223372036854775807 := hb.1.2.2.2.1
  refine floyd ev_mix ev_ok rfX_ok noSQ (by kernel_rfl) [] rf_cf (fun i : Nat => r.cols.length - i) (fun _ => 0) (rf_v0 r t u o) (rf_o0 r t u o) (fun i => i ≤ r.cols.length ∧ ¬ (u.k ≠ 3 ∨ u.nm ≠ r.rf ∨ u.tb ≠ o.nm ∨ u.lt = true ∨ u.cols.length ≠ r.cols.length ∨ kmF u.cols o.cols.length = false ∨ r.od > 4 ∨ r.ou > 4) ∧ ∀ j : Nat, j < i → kindF r t j = kindF u o j) (rf_t0 _ r t u o) (rf_t _ r t u o) (rf_h r t u o) (fun i j => rf_h0 r t u o i j) ?_ ?_
  · unfold rf_t
    simp only [dL_eL, ba_eqE, Int.ofNat_eq_natCast]
    refine ⟨fun h => yv _ ?_, fun h1 => ⟨fun h => yv _ ?_, fun h2 => ⟨fun h => yv _ ?_, fun h3 => ⟨fun h => yv _ ?_, fun h4 => ⟨fun h => yv _ ?_, fun h5 => hO ⟨km_ok _ _⟩ ⟨fun h => yv _ ?_, fun h6 => ⟨fun h => yv _ ?_, fun h7 => ⟨fun h => yv _ ?_, fun h8 => ?_⟩⟩⟩⟩⟩⟩⟩⟩
    · unfold refF; rw [if_pos (by simp_all)]
    · unfold refF; rw [if_pos (by simp_all)]
    · unfold refF; rw [if_pos (by simp_all)]
    · unfold refF; rw [if_pos (by simp_all)]
    · have h : u.cols.length ≠ r.cols.length := fun c => by simp [c] at h
      unfold refF; rw [if_pos (.inr (.inr (.inr (.inr (.inl h)))))]
    · unfold refF; rw [if_pos (by simp_all)]
    · unfold refF; rw [if_pos (by simp_all)]
    · unfold refF; rw [if_pos (by simp_all)]
    refine ⟨0, ⟨Nat.zero_le _, by simp_all; omega, fun j hj => absurd hj (Nat.not_lt_zero j)⟩, rfl, rfl, rfl, (.cons _ _ _ _ (.refl _) (.cons _ _ _ _ (.refl _) (.cons _ _ _ _ (.refl _) (.cons _ _ _ _ (.vs _) .nil)))), .cons _ _ _ _ (boxA_le r t _ _) (.cons _ _ _ _ (boxA_le u o _ _) .nil)⟩
  · rintro i ⟨hi, h0, hj⟩
    have hu : u.cols.length = r.cols.length := by
      apply Classical.byContradiction
      exact fun c => h0 (.inr (.inr (.inr (.inr (.inl c)))))
    have hk : kOk u o := kmF_ok (by
      cases hc : kmF u.cols o.cols.length with
      | true => rfl
      | false => exact absurd (.inr (.inr (.inr (.inr (.inr (.inl hc)))))) h0)
    unfold rf_t0
    simp only [trD_B, dL_eL, Int.ofNat_eq_natCast]
    refine hSd (fun h => hOB (hO ⟨kd_ok r t i ⟨by omega, h⟩ (hr i (by omega))⟩ (hOB (hO ⟨kd_ok u o i ⟨by omega, by omega⟩ (hk i (by omega))⟩ ⟨fun h2 => yv _ ?_, fun h2 => ?_⟩)))) fun h => yv _ ?_
    · unfold refF
      rw [if_neg h0, if_neg]
      intro c
      have h2 : kindF r t i ≠ kindF u o i := bne_iff_ne.1 h2
      exact h2 (c i (by omega))
    · refine ⟨i + 1, ⟨by omega, h0, fun j hj' => ?_⟩, rel_nat (by omega), rfl, rfl, rfl, (.cons _ _ _ _ (.refl _) (.cons _ _ _ _ (.refl _) (.cons _ _ _ _ (.refl _) (.cons _ _ _ _ (.ofEq (by rw [wrap_lt (by omega) (by omega)]; rfl)) .nil)))), .cons _ _ _ _ (boxA_le r t _ _) (.cons _ _ _ _ (boxA_le u o _ _) .nil)⟩
      by_cases c : j = i
      · subst c; simpa using h2
      · exact hj j (by omega)
    · unfold refF
      rw [if_neg h0, if_pos fun j hj' => hj j (by omega)]
end Go.Proofs.YtengccmjlaejfaaDoor
end
section
namespace Go.Proofs.YtengccmjlaejfaaDoor
open Ev Go.RowKit
set_option maxRecDepth 100000
set_option linter.unusedVariables false
def nmD : AV → ByteArray
  | .fn _ [.fzp f _ _ _ _] => match f 0 0 with
    | .v (.string z) => z
    | _ => ⟨#[]⟩
  | _ => ⟨#[]⟩
def hasN (L : List Cl) (x : ByteArray) : Bool := L.any fun d => decide (d.nm = x)
def idxN (x : ByteArray) (L : List Cl) : Int := idxF (fun d => decide (d.nm = x)) L
noncomputable def nmX : SumBr := obX Tryd.prog 7 (AKs.cons aS AKs.nil) fun z => .leaf (.s (.bool (nameF z.1)), [])
noncomputable def ifX : SumBr := obX Tryd.prog 43 (AKs.cons (aL Cl) (AKs.cons aX AKs.nil)) fun z => .leaf (.s (.int .i64 (idxN (nmD z.2.1) z.1)), [])
noncomputable def cfX : SumBr := obX Tryd.prog 19 (AKs.cons (aL Cl) (AKs.cons aX AKs.nil)) fun z => .leaf (.s (.bool (hasN z.1 (nmD z.2.1))), [])
noncomputable def mtX : SumBr := orX nmX (orX cfX (orX vmX3 ftX))
def clo (c : Cl) : AV := .fn 20 [.fzp (listD [.v (.string c.nm), .v (.int .u8 c.ty), .v (.int .u8 c.by1.k), .v (.int .i64 c.by1.n), .v (.int .i64 c.by1.hi), .v (.string c.by1.t)] 6) 1 cks 0 0]
def boxT (t : Ta) : AO := .cells [.s (.string t.nm), .fz (eL t.cols) t.cols.length cks, .s (.string t.ow)] 3 0 true false
theorem mtX_ok : SumGO Tryd.prog (sumS mtX) := orX_open (obX_ok (by kernel_rfl)) (orX_open (obX_ok (by kernel_rfl)) (orX_open vmX3_ok ftX_ok))
theorem ifX_ok : SumGO Tryd.prog (sumS ifX) := obX_ok (by kernel_rfl)
def ixn_cf : Nat → Cfg := cfL [mkC 19 [0, 1, 7, 8] []]
def ixn_a (L : List Cl) (c : Cl) : List AV := [.fz (eL L) L.length cks, clo c]
noncomputable def ixn_t (P : Program) (L : List Cl) (c : Cl) : Br PO :=
(.leaf (.at 0 (ct P 43 0).1 (ct P 43 0).2 ⟨Ex.normal, true, [some (AV.fz (eL L) L.length cks), some (AV.fn 20 [AV.fzp (listD [D.v (Value.string c.nm), D.v (Value.int IntKind.u8 c.ty), D.v (Value.int IntKind.u8 c.by1.k), D.v (Value.int IntKind.i64 c.by1.n), D.v (Value.int IntKind.i64 c.by1.hi), D.v (Value.string c.by1.t)] 6) 1 cks 0 0]), some (AV.s (Value.int IntKind.i64 (Int.ofNat L.length))), some (AV.v (Value.int IntKind.i64 (0)))], []⟩))
theorem ixn_h (L : List Cl) (c : Cl) : (ev Tryd.prog noX noS 3000 noL 3000 .normal [.c 0 (codeOf Tryd.prog 43)] (params (ixn_a L c)) Ev.start).map (lookP Tryd.prog (resOf Tryd.prog 43) [] ixn_cf) = ixn_t Tryd.prog L c := by kernel_rfl
def ixn_v0 (L : List Cl) (c : Cl) (i : Nat) : List AV := [.fz (eL L) L.length cks, clo c, .s (.int .i64 L.length), .s (.int .i64 i)]
def ixn_o0 (L : List Cl) (c : Cl) (i : Nat) : List AO := []
noncomputable def ixn_t0 (P : Program) (L : List Cl) (c : Cl) (i : Nat) : Br PO :=
(.test (decide ((↑i : Int) < (↑L.length : Int)))
  (.test (decide (0 ≤ (↑i : Int)) && decide ((↑i : Int) < (↑L.length : Int)))
    (.test ((L.getD (↑i : Int).toNat default).nm.toList == c.nm.toList)
      (.leaf (.fin ⟨Ex.ret, true, [some (AV.s (Value.int IntKind.i64 (Int.ofNat i)))], []⟩))
      (.leaf (.at 0 (ct P 43 0).1 (ct P 43 0).2 ⟨Ex.normal, true, [some (AV.fz (eL L) L.length cks), some (AV.fn 20 [AV.fzp (listD [D.v (Value.string c.nm), D.v (Value.int IntKind.u8 c.ty), D.v (Value.int IntKind.u8 c.by1.k), D.v (Value.int IntKind.i64 c.by1.n), D.v (Value.int IntKind.i64 c.by1.hi), D.v (Value.string c.by1.t)] 6) 1 cks 0 0]), some (AV.s (Value.int IntKind.i64 (Int.ofNat L.length))), some (AV.s (Value.int IntKind.i64 (IntKind.i64.wrap ((↑i : Int) + 1))))], []⟩))
    )
    .no
  )
  (.leaf (.fin ⟨Ex.ret, true, [some (AV.v (Value.int IntKind.i64 (Int.negSucc 0)))], []⟩))
)
theorem ixn_h0 (L : List Cl) (c : Cl) (i : Nat) (j : Nat → Value) : (ev Tryd.prog noX noS 3000 noL 3000 .normal (hd Tryd.prog 43 0) (mkE (ixn_cf 0) (ixn_v0 L c i) j) (mkH openB (ixn_o0 L c i))).map (lookP Tryd.prog (resOf Tryd.prog 43) [] ixn_cf) = ixn_t0 Tryd.prog L c i := by kernel_rfl

def cfn_cf : Nat → Cfg := cfL []
def cfn_a (L : List Cl) (c : Cl) : List AV := [.fz (eL L) L.length cks, clo c]
noncomputable def cfn_t (P : Program) (L : List Cl) (c : Cl) : Br PO :=
(.ob (ObC Tryd.prog 43 [AV.fz (eL (dL Cl (eL L) L.length)) (dL Cl (eL L) L.length).length (Rec.ks Cl), AV.fn 20 [AV.fzp (listD [D.v (Value.string c.nm), D.v (Value.int IntKind.u8 c.ty), D.v (Value.int IntKind.u8 c.by1.k), D.v (Value.int IntKind.i64 c.by1.n), D.v (Value.int IntKind.i64 c.by1.hi), D.v (Value.string c.by1.t)] 6) 1 cks 0 0]]   (AV.s (Value.int IntKind.i64 (idxN (nmD (AV.fn 20 [AV.fzp (listD [D.v (Value.string c.nm), D.v (Value.int IntKind.u8 c.ty), D.v (Value.int IntKind.u8 c.by1.k), D.v (Value.int IntKind.i64 c.by1.n), D.v (Value.int IntKind.i64 c.by1.hi), D.v (Value.string c.by1.t)] 6) 1 cks 0 0])) (dL Cl (eL L) L.length)))) [])
  (.leaf (.fin ⟨Ex.ret, true, [some (AV.s (Value.bool (decide (idxN (nmD (AV.fn 20 [AV.fzp (listD [D.v (Value.string c.nm), D.v (Value.int IntKind.u8 c.ty), D.v (Value.int IntKind.u8 c.by1.k), D.v (Value.int IntKind.i64 c.by1.n), D.v (Value.int IntKind.i64 c.by1.hi), D.v (Value.string c.by1.t)] 6) 1 cks 0 0])) (dL Cl (eL L) L.length) ≥ 0))))], []⟩))
)
theorem cfn_h (L : List Cl) (c : Cl) : (ev Tryd.prog ifX noS 3000 noL 3000 .normal [.c 0 (codeOf Tryd.prog 19)] (params (cfn_a L c)) Ev.start).map (lookP Tryd.prog (resOf Tryd.prog 19) [] cfn_cf) = cfn_t Tryd.prog L c := by kernel_rfl

def mt_cf : Nat → Cfg := cfL [mkC 74 [1, 29, 30, 31] [(1, [])]]
def mt_a (t : Ta) : List AV := [taA t]
noncomputable def mt_t (P : Program) (t : Ta) : Br PO :=
(.ob (ObC Tryd.prog 7 [AV.s (Value.string t.nm)] (AV.s (Value.bool (nameF t.nm))) [])
  (.test (!nameF t.nm)
    (.leaf (.fin ⟨Ex.ret, true, [some (AV.v (Value.bool false))], []⟩))
    (.ob (ObC Tryd.prog 7 [AV.s (Value.string t.ow)] (AV.s (Value.bool (nameF t.ow))) [])
      (.test (!nameF t.ow)
        (.leaf (.fin ⟨Ex.ret, true, [some (AV.v (Value.bool false))], []⟩))
        (.test (decide ((↑t.cols.length : Int) < 1))
          (.leaf (.fin ⟨Ex.ret, true, [some (AV.v (Value.bool false))], []⟩))
          (.test (decide ((↑t.cols.length : Int) > 8))
            (.leaf (.fin ⟨Ex.ret, true, [some (AV.v (Value.bool false))], []⟩))
            (.leaf (.at 0 (ct P 9 0).1 (ct P 9 0).2 ⟨Ex.normal, true, [some (AV.ptr 65536 0 0), some (AV.fz (eL t.cols) t.cols.length cks), some (AV.s (Value.int IntKind.i64 (Int.ofNat t.cols.length))), some (AV.v (Value.int IntKind.i64 (0)))], [OS.o (AO.cells [AV.s (Value.string t.nm), AV.fz (eL t.cols) t.cols.length cks, AV.s (Value.string t.ow)] 3 65536 true false)]⟩))
          )
        )
      )
    )
  )
)
theorem mt_h (t : Ta) : (ev Tryd.prog mtX noS 3000 noL 3000 .normal [.c 0 (codeOf Tryd.prog 9)] (params (mt_a t)) Ev.start).map (lookP Tryd.prog (resOf Tryd.prog 9) [] mt_cf) = mt_t Tryd.prog t := by kernel_rfl
def mt_v0 (t : Ta) (i : Nat) : List AV := [.ptr 65536 0 0, .fz (eL t.cols) t.cols.length cks, .s (.int .i64 t.cols.length), .s (.int .i64 i)]
def mt_o0 (t : Ta) (i : Nat) : List AO := [boxT t]
noncomputable def mt_t0 (P : Program) (t : Ta) (i : Nat) : Br PO :=
(.test (decide ((↑i : Int) < (↑t.cols.length : Int)))
  (.test (decide (0 ≤ (↑i : Int)) && decide ((↑i : Int) < (↑t.cols.length : Int)))
    (.test (decide (0 ≤ 0) && decide (0 ≤ (↑i : Int)) && decide ((↑i : Int) ≤ (↑t.cols.length : Int)))
      (.ob (ObC Tryd.prog 19   [AV.fz (eL (dL Cl (shiftD (eL t.cols) 0) ((↑i : Int) - 0).toNat)) (dL Cl (shiftD (eL t.cols) 0) ((↑i : Int) - 0).toNat).length (Rec.ks Cl),     AV.fn 20       [AV.fzp           (listD             [D.v (Value.string (t.cols.getD (↑i : Int).toNat default).nm), D.v (Value.int IntKind.u8 (t.cols.getD (↑i : Int).toNat default).ty), D.v (Value.int IntKind.u8 (t.cols.getD (↑i : Int).toNat default).by1.k), D.v (Value.int IntKind.i64 (t.cols.getD (↑i : Int).toNat default).by1.n), D.v (Value.int IntKind.i64 (t.cols.getD (↑i : Int).toNat default).by1.hi),               D.v (Value.string (t.cols.getD (↑i : Int).toNat default).by1.t)]             6)           1 [TK.str, TK.int IntKind.u8, TK.int IntKind.u8, TK.int IntKind.i64, TK.int IntKind.i64, TK.str] 0 0]]   (AV.s     (Value.bool       (hasN (dL Cl (shiftD (eL t.cols) 0) ((↑i : Int) - 0).toNat)         (nmD           (AV.fn 20             [AV.fzp                 (listD                   [D.v (Value.string (t.cols.getD (↑i : Int).toNat default).nm), D.v (Value.int IntKind.u8 (t.cols.getD (↑i : Int).toNat default).ty), D.v (Value.int IntKind.u8 (t.cols.getD (↑i : Int).toNat default).by1.k), D.v (Value.int IntKind.i64 (t.cols.getD (↑i : Int).toNat default).by1.n), D.v (Value.int IntKind.i64 (t.cols.getD (↑i : Int).toNat default).by1.hi),                     D.v (Value.string (t.cols.getD (↑i : Int).toNat default).by1.t)]                   6)                 1 [TK.str, TK.int IntKind.u8, TK.int IntKind.u8, TK.int IntKind.i64, TK.int IntKind.i64, TK.str] 0 0])))))   [])
        (.test (hasN (dL Cl (shiftD (eL t.cols) 0) ((↑i : Int) - 0).toNat)   (nmD     (AV.fn 20       [AV.fzp           (listD             [D.v (Value.string (t.cols.getD (↑i : Int).toNat default).nm), D.v (Value.int IntKind.u8 (t.cols.getD (↑i : Int).toNat default).ty), D.v (Value.int IntKind.u8 (t.cols.getD (↑i : Int).toNat default).by1.k), D.v (Value.int IntKind.i64 (t.cols.getD (↑i : Int).toNat default).by1.n), D.v (Value.int IntKind.i64 (t.cols.getD (↑i : Int).toNat default).by1.hi),               D.v (Value.string (t.cols.getD (↑i : Int).toNat default).by1.t)]             6)           1 [TK.str, TK.int IntKind.u8, TK.int IntKind.u8, TK.int IntKind.i64, TK.int IntKind.i64, TK.str] 0 0])))
          (.leaf (.fin ⟨Ex.ret, true, [some (AV.v (Value.bool false))], []⟩))
          (.ob (ObC Tryd.prog 7 [AV.s (Value.string (t.cols.getD (↑i : Int).toNat default).nm)] (AV.s (Value.bool (nameF (t.cols.getD (↑i : Int).toNat default).nm))) [])
            (.test (!nameF (t.cols.getD (↑i : Int).toNat default).nm)
              (.leaf (.fin ⟨Ex.ret, true, [some (AV.v (Value.bool false))], []⟩))
              (.test (decide ((t.cols.getD (↑i : Int).toNat default).ty < 1))
                (.leaf (.fin ⟨Ex.ret, true, [some (AV.v (Value.bool false))], []⟩))
                (.test (decide ((t.cols.getD (↑i : Int).toNat default).ty > 4))
                  (.leaf (.fin ⟨Ex.ret, true, [some (AV.v (Value.bool false))], []⟩))
                  (.ob (ObC Tryd.prog 21 [vlA { k := (t.cols.getD (↑i : Int).toNat default).by1.k, n := (t.cols.getD (↑i : Int).toNat default).by1.n, hi := (t.cols.getD (↑i : Int).toNat default).by1.hi, t := (t.cols.getD (↑i : Int).toNat default).by1.t }]   (AV.s (Value.bool (vmayF { k := (t.cols.getD (↑i : Int).toNat default).by1.k, n := (t.cols.getD (↑i : Int).toNat default).by1.n, hi := (t.cols.getD (↑i : Int).toNat default).by1.hi, t := (t.cols.getD (↑i : Int).toNat default).by1.t }))) [])
                    (.test (!vmayF { k := (t.cols.getD (↑i : Int).toNat default).by1.k, n := (t.cols.getD (↑i : Int).toNat default).by1.n, hi := (t.cols.getD (↑i : Int).toNat default).by1.hi, t := (t.cols.getD (↑i : Int).toNat default).by1.t })
                      (.leaf (.fin ⟨Ex.ret, true, [some (AV.v (Value.bool false))], []⟩))
                      (.ob (ObC Tryd.prog 22 [vlA { k := (t.cols.getD (↑i : Int).toNat default).by1.k, n := (t.cols.getD (↑i : Int).toNat default).by1.n, hi := (t.cols.getD (↑i : Int).toNat default).by1.hi, t := (t.cols.getD (↑i : Int).toNat default).by1.t }, AV.s (Value.int IntKind.u8 (t.cols.getD (↑i : Int).toNat default).ty)]   (AV.s (Value.bool (fitsF { k := (t.cols.getD (↑i : Int).toNat default).by1.k, n := (t.cols.getD (↑i : Int).toNat default).by1.n, hi := (t.cols.getD (↑i : Int).toNat default).by1.hi, t := (t.cols.getD (↑i : Int).toNat default).by1.t } (t.cols.getD (↑i : Int).toNat default).ty))) [])
                        (.test (!fitsF { k := (t.cols.getD (↑i : Int).toNat default).by1.k, n := (t.cols.getD (↑i : Int).toNat default).by1.n, hi := (t.cols.getD (↑i : Int).toNat default).by1.hi, t := (t.cols.getD (↑i : Int).toNat default).by1.t } (t.cols.getD (↑i : Int).toNat default).ty)
                          (.leaf (.fin ⟨Ex.ret, true, [some (AV.v (Value.bool false))], []⟩))
                          (.leaf (.at 0 (ct P 9 0).1 (ct P 9 0).2 ⟨Ex.normal, true, [some (AV.ptr 65536 0 0), some (AV.fz (eL t.cols) t.cols.length cks), some (AV.s (Value.int IntKind.i64 (Int.ofNat t.cols.length))), some (AV.s (Value.int IntKind.i64 (IntKind.i64.wrap ((↑i : Int) + 1))))], [OS.o (AO.cells [AV.s (Value.string t.nm), AV.fz (eL t.cols) t.cols.length cks, AV.s (Value.string t.ow)] 3 0 true false)]⟩))
                        )
                      )
                    )
                  )
                )
              )
            )
          )
        )
      )
      .no
    )
    .no
  )
  (.leaf (.fin ⟨Ex.ret, true, [some (AV.v (Value.bool true))], []⟩))
)
theorem mt_h0 (t : Ta) (i : Nat) (j : Nat → Value) : (ev Tryd.prog mtX noS 3000 noL 3000 .normal (hd Tryd.prog 9 0) (mkE (mt_cf 0) (mt_v0 t i) j) (mkH openB (mt_o0 t i))).map (lookP Tryd.prog (resOf Tryd.prog 9) [] mt_cf) = mt_t0 Tryd.prog t i := by kernel_rfl

theorem ixn_ok (L : List Cl) (c : Cl) : OCalls Tryd.prog 43 [.fz (eL L) L.length cks, clo c] (.s (.int .i64 (idxN c.nm L))) [] := OCalls.bnd fun hb => by
  have hL : L.length ≤ 9223372036854775807 := hb.1
  refine floyd ev_mix ev_ok noX_open noSQ (by kernel_rfl) [] ixn_cf (fun i : Nat => L.length - i) (fun _ => 0) (ixn_v0 L c) (ixn_o0 L c) (fun i => i ≤ L.length ∧ ∀ k, k < i → decide ((L.getD k default).nm = c.nm) = false) (ixn_t0 _ L c) (ixn_t _ L c) (ixn_h L c) (fun i j => ixn_h0 L c i j) ?_ ?_
  · exact ⟨0, ⟨Nat.zero_le _, fun k hk => absurd hk (Nat.not_lt_zero k)⟩, rfl, rfl, rfl, (.cons _ _ _ _ (.refl _) (.cons _ _ _ _ (.refl _) (.cons _ _ _ _ (.refl _) (.cons _ _ _ _ (.vs _) .nil)))), .nil⟩
  · rintro i ⟨hi, hk⟩
    unfold ixn_t0
    simp only [Int.toNat_natCast, ba_eqE]
    refine hSd (fun h => hSi (by omega) ⟨fun h2 => ?_, fun h2 => ?_⟩) fun h => ?_
    · exact ⟨rfl, (.cons _ _ _ _ (.ofEq (by unfold idxN; rw [idxF_hit (by omega) h2 hk]; rfl)) .nil), .nil⟩
    · exact ⟨i + 1, ⟨by omega, upto_next hk h2⟩, rel_nat (by omega), rfl, rfl, rfl, (.cons _ _ _ _ (.refl _) (.cons _ _ _ _ (.refl _) (.cons _ _ _ _ (.refl _) (.cons _ _ _ _ (.ofEq (by rw [wrap_lt (by omega) (by omega)]; rfl)) .nil)))), .nil⟩
    · have h : i = L.length := by omega
      subst h
      exact ⟨rfl, (.cons _ _ _ _ (by unfold idxN; rw [idxF_none hk]; exact .vs _) .nil), .nil⟩
theorem cfn_ok (L : List Cl) (c : Cl) : OCalls Tryd.prog 19 [.fz (eL L) L.length cks, clo c] (.s (.bool (hasN L c.nm))) [] := by
  refine floyd0 ev_mix ev_ok ifX_ok noSQ (by kernel_rfl) [] cfn_cf (cfn_t _ L c) (cfn_h L c) ?_
  unfold cfn_t
  simp only [dL_eL]
  refine hO ⟨ixn_ok L c⟩ ⟨rfl, .cons _ _ _ _ (leBs ?_) .nil, .nil⟩
  exact (idxF_ge (fun d : Cl => decide (d.nm = c.nm)) L).symm
theorem dL_takeC (M : List Cl) (n : Nat) (h : n ≤ M.length) : dL Cl (shiftD (eL M) 0) n = M.take n := by
  apply List.ext_getElem
  · simp [dL]; omega
  · intro i h1 h2
    simp at h2
    have h1' : i < n := by simpa [dL] using h1
    simp only [dL, List.getElem_map, List.getElem_range, shiftD, Nat.zero_add, Nat.add_zero]
    rw [show (Rec.dec (shiftD (eL M) 0 i) : Cl) = M.getD i default from Rec.dec_enc _, List.getElem_take]
    simp [List.getD_eq_getElem?_getD, show i < M.length by omega]
def okL (L : List Cl) (c : Cl) : Bool := !hasN L c.nm && (nameF c.nm && (decide (1 ≤ c.ty) && (decide (c.ty ≤ 4) && (vmayF c.by1 && fitsF c.by1 c.ty))))
open Classical in
noncomputable def mtF (t : Ta) : Bool := decide (nameF t.nm = true ∧ nameF t.ow = true ∧ 1 ≤ t.cols.length ∧ t.cols.length ≤ 8 ∧ ∀ i, i < t.cols.length → okL (t.cols.take i) (t.cols.getD i default) = true)
theorem boxT_le (t : Ta) (fam : Nat) (tip : Bool) : OLe (.o (.cells [.s (.string t.nm), .fz (eL t.cols) t.cols.length cks, .s (.string t.ow)] 3 fam tip false)) (boxT t) := OLe.cells _ _ _ _ _ _ _ (Les.refl _)
theorem mt_ok (t : Ta) : OCalls Tryd.prog 9 [taA t] (.s (.bool (mtF t))) [] := by
  have yv : ∀ x, mtF t = x → Goes ⟨.ret, true, [some (.v (.bool x))], []⟩ [.s (.bool (mtF t))] [] := fun x hx => ⟨rfl, .cons _ _ _ _ (leBv hx) .nil, .nil⟩
  refine OCalls.bnd fun hb => ?_
  have hlen : t.cols.length ≤ 9223372036854775807 := hb.1.2.1
  refine floyd ev_mix ev_ok mtX_ok noSQ (by kernel_rfl) [] mt_cf (fun i : Nat => t.cols.length - i) (fun _ => 0) (mt_v0 t) (mt_o0 t) (fun i => i ≤ t.cols.length ∧ (nameF t.nm = true ∧ nameF t.ow = true ∧ 1 ≤ t.cols.length ∧ t.cols.length ≤ 8) ∧ ∀ j, j < i → okL (t.cols.take j) (t.cols.getD j default) = true) (mt_t0 _ t) (mt_t _ t) (mt_h t) (fun i j => mt_h0 t i j) ?_ ?_
  · unfold mt_t
    refine hO ⟨nm_ok _⟩ ⟨fun h => yv _ ?_, fun h1 => hO ⟨nm_ok _⟩ ⟨fun h => yv _ ?_, fun h2 => hSd (fun h => yv _ ?_) fun h3 => hSd (fun h => yv _ ?_) fun h4 => ?_⟩⟩
    · have h : nameF t.nm = false := by simpa using h
      unfold mtF; rw [h]; simp
    · have h : nameF t.ow = false := by simpa using h
      unfold mtF; rw [h]; simp
    · unfold mtF; rw [decide_eq_false_iff_not]; rintro ⟨_, _, a, _⟩; omega
    · unfold mtF; rw [decide_eq_false_iff_not]; rintro ⟨_, _, _, a, _⟩; omega
    · exact ⟨0, ⟨Nat.zero_le _, ⟨by simpa using h1, by simpa using h2, by omega, by omega⟩, fun j hj => absurd hj (Nat.not_lt_zero j)⟩, rfl, rfl, rfl, (.cons _ _ _ _ (.refl _) (.cons _ _ _ _ (.refl _) (.cons _ _ _ _ (.refl _) (.cons _ _ _ _ (.vs _) .nil)))), .cons _ _ _ _ (boxT_le t _ _) .nil⟩
  · rintro i ⟨hi, h0, hj⟩
    have bad : i < t.cols.length → okL (t.cols.take i) (t.cols.getD i default) = false → mtF t = false := fun h c => by
      unfold mtF; rw [decide_eq_false_iff_not]; rintro ⟨_, _, _, _, a⟩; rw [a i h] at c; cases c
    unfold mt_t0
    simp only [Int.toNat_natCast, Int.sub_zero, dL_takeC t.cols i hi]
    refine hSd (fun h => hSi (by omega) (hT (by simp; omega) (hO ⟨cfn_ok _ _⟩ ?_))) fun h => yv _ ?_
    · have bad := bad (by omega)
      unfold okL at bad
      refine ⟨fun h1 => yv _ (bad ?_), fun h1 => hO ⟨nm_ok _⟩ ⟨fun h2 => yv _ (bad ?_), fun h2 => hSd (fun h3 => yv _ (bad ?_)) fun h3 => hSd (fun h4 => yv _ (bad ?_)) fun h4 => hO ⟨vm_ok _⟩ ⟨fun h5 => yv _ (bad ?_), fun h5 => hO ⟨ft_ok _ _⟩ ⟨fun h6 => yv _ (bad ?_), fun h6 => ?_⟩⟩⟩⟩
      · have h1 : hasN (t.cols.take i) (t.cols.getD i default).nm = true := h1
        rw [h1]; rfl
      · have h2 : nameF (t.cols.getD i default).nm = false := by simpa using h2
        rw [h2]; simp
      · rw [decide_eq_false (show ¬ 1 ≤ (t.cols.getD i default).ty by omega)]; simp
      · rw [decide_eq_false (show ¬ (t.cols.getD i default).ty ≤ 4 by omega)]; simp
      · have h5 : vmayF (t.cols.getD i default).by1 = false := by simpa using h5
        rw [h5]; simp
      · have h6 : fitsF (t.cols.getD i default).by1 (t.cols.getD i default).ty = false := by simpa using h6
        rw [h6]; simp
      · have h1 : hasN (t.cols.take i) (t.cols.getD i default).nm = false := h1
        have h2 : nameF (t.cols.getD i default).nm = true := by simpa using h2
        have h5 : vmayF (t.cols.getD i default).by1 = true := by simpa using h5
        have h6 : fitsF (t.cols.getD i default).by1 (t.cols.getD i default).ty = true := by simpa using h6
        refine ⟨i + 1, ⟨by omega, h0, upto_next hj ?_⟩, rel_nat (by omega), rfl, rfl, rfl, (.cons _ _ _ _ (.refl _) (.cons _ _ _ _ (.refl _) (.cons _ _ _ _ (.refl _) (.cons _ _ _ _ (.ofEq (by rw [wrap_lt (by omega) (by omega)]; rfl)) .nil)))), .cons _ _ _ _ (boxT_le t _ _) .nil⟩
        unfold okL
        rw [h1, h2, h5, h6, decide_eq_true (show 1 ≤ (t.cols.getD i default).ty by omega), decide_eq_true (show (t.cols.getD i default).ty ≤ 4 by omega)]; rfl
    · unfold mtF; rw [decide_eq_true_eq]
      exact ⟨h0.1, h0.2.1, h0.2.2.1, h0.2.2.2, fun j hj' => hj j (by omega)⟩
end Go.Proofs.YtengccmjlaejfaaDoor
end
