/- Parts and depth of an expression: plain facts. No condition. -/
import Derived.Test.YtengccmjlaejfaaMg16
import Derived.Test.YtengccmjlaejfaaMix
section
namespace Go.Proofs.Ytengccmjlaejfaa
open Ev Go.RowKit
set_option maxRecDepth 100000
set_option linter.unusedVariables false
mutual
def sizeF : Tr → Int → Int
  | ⟨_, _, _, _, _, _, as1⟩, m => sizeLs as1 m 1
def sizeLs : List Tr → Int → Int → Int
  | [], _, n => n
  | a :: r, m, n => if n ≤ m then sizeLs r m (n + sizeF a (m - n)) else n
end
mutual
def deepF : Tr → Nat
  | ⟨_, _, _, _, _, _, as1⟩ => deepLs as1 + 1
def deepLs : List Tr → Nat
  | [] => 0
  | a :: r => max (deepF a) (deepLs r)
end
def boxE (t : Tr) : AO := .cells [.s (.int .u8 t.op), .s (.int .u8 t.k), .s (.int .i64 t.vn), .s (.int .i64 t.hi), .s (.string t.t), .s (.int .i64 t.n), .fz (eT t.args) t.args.length ksE] 7 0 true false
theorem box_le (t : Tr) (fam : Nat) (tip : Bool) : OLe (.o (.cells [.s (.int .u8 t.op), .s (.int .u8 t.k), .s (.int .i64 t.vn), .s (.int .i64 t.hi), .s (.string t.t), .s (.int .i64 t.n), .fz (eT t.args) t.args.length [.int .u8, .int .u8, .int .i64, .int .i64, .str, .int .i64, .lst]] 7 fam tip false)) (boxE t) := .cells _ _ _ _ _ _ _ (Les.refl _)
theorem sizeF_eq (t : Tr) (m : Int) : sizeF t m = sizeLs t.args m 1 := by obtain ⟨_, _, _, _, _, _, as1⟩ := t; simp only [sizeF]
theorem deepF_eq (t : Tr) : deepF t = deepLs t.args + 1 := by obtain ⟨_, _, _, _, _, _, as1⟩ := t; simp only [deepF]
theorem sizeLs_cons (a : Tr) (r : List Tr) (m n : Int) : sizeLs (a :: r) m n = if n ≤ m then sizeLs r m (n + sizeF a (m - n)) else n := by simp only [sizeLs]
theorem sizeLs_nil (m n : Int) : sizeLs [] m n = n := by simp only [sizeLs]
theorem sizeLs_bnd : ∀ (L : List Tr), (∀ a ∈ L, ∀ m, 1 ≤ sizeF a m ∧ sizeF a m ≤ max 1 (m + 1)) → ∀ m n, 1 ≤ n → n ≤ max 1 (m + 1) → 1 ≤ sizeLs L m n ∧ sizeLs L m n ≤ max 1 (m + 1)
  | [], _, m, n, h1, h2 => by rw [sizeLs_nil]; exact ⟨h1, h2⟩
  | a :: L, h, m, n, h1, h2 => by
    rw [sizeLs_cons]
    split
    · have := h a (by simp) (m - n)
      exact sizeLs_bnd L (fun b hb => h b (by simp [hb])) m _ (by omega) (by omega)
    · exact ⟨h1, h2⟩
theorem sizeF_bnd (t : Tr) : ∀ m, 1 ≤ sizeF t m ∧ sizeF t m ≤ max 1 (m + 1) := by
  induction t using Tr.ind with
  | h t ih => intro m; rw [sizeF_eq]; exact sizeLs_bnd _ ih m 1 (by omega) (by omega)
end Go.Proofs.Ytengccmjlaejfaa
end
section
namespace Go.Proofs.Ytengccmjlaejfaa
open Ev Go.RowKit
set_option maxRecDepth 100000
set_option linter.unusedVariables false
def zVl : Vl := ⟨0, 0, 0, ⟨#[]⟩⟩
def vmayF (v : Vl) : Bool := if v.k = 0 then decide (v.n = 0 ∧ v.hi = 0 ∧ v.t = ⟨#[]⟩) else if v.k = 1 then decide (v.hi = 0 ∧ v.t = ⟨#[]⟩) else if v.k = 2 then decide ((v.n = 0 ∨ v.n = 1) ∧ v.hi = 0 ∧ v.t = ⟨#[]⟩) else if v.k = 3 then decide (v.n = 0 ∧ v.hi = 0 ∧ v.t.size ≤ 256) else if v.k = 4 then decide (v.t = ⟨#[]⟩ ∧ v.n < v.hi) else false
def argsF (op : Int) : Int := if op = 1 then 0 else if op = 2 then 0 else if op = 3 then 1 else if op = 4 then 1 else if op = 5 then 1 else if op ≥ 6 then (if op ≤ 13 then 2 else -1) else -1
def nodeF (t : Tr) : Bool := decide ((t.args.length : Int) = argsF t.op) && ((decide (t.op = 1) || decide (t.v = zVl)) && ((decide (t.op = 2) || decide (t.n = 0)) && (decide (0 ≤ t.n) && vmayF t.v)))
mutual
def mayG : Tr → Int → Int → Bool × Int
  | ⟨op, k, vn, hi, t, n, as1⟩, d, p => if p + 1 > 64 ∨ d > 16 ∨ nodeF ⟨op, k, vn, hi, t, n, as1⟩ = false then (false, p + 1) else mayLs as1 (d + 1) (p + 1)
def mayLs : List Tr → Int → Int → Bool × Int
  | [], _, p => (true, p)
  | a :: r, d, p => if (mayG a d p).1 = true then mayLs r d (mayG a d p).2 else (false, (mayG a d p).2)
end
def mayF (t : Tr) : Bool := (mayG t 1 0).1
def selfO : AO := .cells [.fn 36 [.ptr 65536 0 0, .ptr 65537 0 0]] 1 0 true false
noncomputable def vmX : SumBr := obX Try.prog 35 (AKs.cons aV AKs.nil) fun z => .leaf (.s (.bool (vmayF z.1)), [])
noncomputable def mgX : SumBr := obW Try.prog 36 [(2, []), (3, [])] [] (AKs.cons aTr (AKs.cons (aI .i64) (AKs.cons aX (AKs.cons aX AKs.nil)))) fun z oss => match oss with
  | [.o (.cells [pv] _ _ _ false), .o (.cells [fv] _ _ _ false)] => match scI .i64 pv with
    | some p => some ([.cells [.s (.int .i64 p)] 1 0 true false, selfO], .leaf (.s (.bool (mayG z.1 z.2.1 p).1), [.cells [.s (.int .i64 (mayG z.1 z.2.1 p).2)] 1 0 true false, selfO]))
    | none => none
  | _ => none
noncomputable def arX : SumBr := obX Try.prog 37 (AKs.cons (aI .u8) AKs.nil) fun z => .leaf (.s (.int .i64 (argsF z.1)), [])
noncomputable def ex2X : SumBr := orX arX (orX vmX mgX)
theorem vmX_ok : SumGO Try.prog (sumS vmX) := obX_ok (by kernel_rfl)
theorem mgX_ok : SumGO Try.prog (sumS mgX) := obW_ok (by kernel_rfl)
theorem ex2X_ok : SumGO Try.prog (sumS ex2X) := orX_open (obX_ok (by kernel_rfl)) (orX_open vmX_ok mgX_ok)
def vm_cf : Nat → Cfg := cfL []
def vm_a (v : Vl) : List AV := [vlA v]
noncomputable def vm_t (P : Program) (v : Vl) : Br PO :=
(.test (v.k == 0)
  (.leaf (.fin ⟨Ex.ret, true, [some (AV.s (Value.bool (v.k == 0 && (v.n == 0 && (v.hi == 0 && (v.t.toList == (⟨#[]⟩ : ByteArray).toList && true))))))], []⟩))
  (.test (v.k == 1)
    (.leaf (.fin ⟨Ex.ret, true, [some (AV.s (Value.bool (v.k == v.k && (v.n == v.n && (v.hi == 0 && (v.t.toList == (⟨#[]⟩ : ByteArray).toList && true))))))], []⟩))
    (.test (v.k == 2)
      (.leaf (.fin ⟨Ex.ret, true, [some (AV.s (Value.bool (v.k == v.k && (v.n == IntKind.i64.wrap (↑(BitVec.ofInt IntKind.i64.bits v.n &&& BitVec.ofInt IntKind.i64.bits 1).toNat : Int) && (v.hi == 0 && (v.t.toList == (⟨#[]⟩ : ByteArray).toList && true))))))], []⟩))
      (.test (v.k == 3)
        (.test (v.k == v.k && (v.n == 0 && (v.hi == 0 && (v.t.toList == v.t.toList && true))))
          (.leaf (.fin ⟨Ex.ret, true, [some (AV.s (Value.bool (decide ((↑v.t.size : Int) ≤ 256))))], []⟩))
          (.leaf (.fin ⟨Ex.ret, true, [some (AV.v (Value.bool false))], []⟩))
        )
        (.test (v.k == 4)
          (.test (v.k == v.k && (v.n == v.n && (v.hi == v.hi && (v.t.toList == (⟨#[]⟩ : ByteArray).toList && true))))
            (.leaf (.fin ⟨Ex.ret, true, [some (AV.s (Value.bool (decide (v.n < v.hi))))], []⟩))
            (.leaf (.fin ⟨Ex.ret, true, [some (AV.v (Value.bool false))], []⟩))
          )
          (.leaf (.fin ⟨Ex.ret, true, [some (AV.v (Value.bool false))], []⟩))
        )
      )
    )
  )
)
theorem vm_h (v : Vl) : (ev Try.prog noX noS 3000 noL 3000 .normal [.c 0 (codeOf Try.prog 35)] (params (vm_a v)) Ev.start).map (lookP Try.prog (resOf Try.prog 35) [] vm_cf) = vm_t Try.prog v := by kernel_rfl

def ar_cf : Nat → Cfg := cfL []
def ar_a (op : Int) : List AV := [.s (.int .u8 op)]
noncomputable def ar_t (P : Program) (op : Int) : Br PO :=
(.test (op == 1)
  (.leaf (.fin ⟨Ex.ret, true, [some (AV.v (Value.int IntKind.i64 (0)))], []⟩))
  (.test (op == 2)
    (.leaf (.fin ⟨Ex.ret, true, [some (AV.v (Value.int IntKind.i64 (0)))], []⟩))
    (.test (op == 3)
      (.leaf (.fin ⟨Ex.ret, true, [some (AV.v (Value.int IntKind.i64 (1)))], []⟩))
      (.test (op == 4)
        (.leaf (.fin ⟨Ex.ret, true, [some (AV.v (Value.int IntKind.i64 (1)))], []⟩))
        (.test (op == 5)
          (.leaf (.fin ⟨Ex.ret, true, [some (AV.v (Value.int IntKind.i64 (1)))], []⟩))
          (.test (decide (op ≥ 6))
            (.test (decide (op ≤ 13))
              (.leaf (.fin ⟨Ex.ret, true, [some (AV.v (Value.int IntKind.i64 (2)))], []⟩))
              (.leaf (.fin ⟨Ex.ret, true, [some (AV.v (Value.int IntKind.i64 (Int.negSucc 0)))], []⟩))
            )
            (.leaf (.fin ⟨Ex.ret, true, [some (AV.v (Value.int IntKind.i64 (Int.negSucc 0)))], []⟩))
          )
        )
      )
    )
  )
)
theorem ar_h (op : Int) : (ev Try.prog noX noS 3000 noL 3000 .normal [.c 0 (codeOf Try.prog 37)] (params (ar_a op)) Ev.start).map (lookP Try.prog (resOf Try.prog 37) [] ar_cf) = ar_t Try.prog op := by kernel_rfl

def mg_cf : Nat → Cfg := cfL [mkC 70 [1, 2, 3, 57, 58, 59] []]
def mg_a (t : Tr) (d p : Int) : List AV := [trO t, .s (.int .i64 d), .ptr 65536 0 0, .ptr 65537 0 0]
noncomputable def mg_t (P : Program) (t : Tr) (d p : Int) : Br PO :=
(.test (decide (IntKind.i64.wrap (p + 1) > 64))
  (.leaf (.fin ⟨Ex.ret, true, [some (AV.v (Value.bool false))], [OS.o (AO.cells [AV.s (Value.int IntKind.i64 (IntKind.i64.wrap (p + 1)))] 1 0 true false), OS.o (AO.cells [AV.fn 36 [AV.ptr 65536 0 0, AV.ptr 65537 0 0]] 1 0 true false)]⟩))
  (.test (decide (d > 16))
    (.leaf (.fin ⟨Ex.ret, true, [some (AV.v (Value.bool false))], [OS.o (AO.cells [AV.s (Value.int IntKind.i64 (IntKind.i64.wrap (p + 1)))] 1 0 true false), OS.o (AO.cells [AV.fn 36 [AV.ptr 65536 0 0, AV.ptr 65537 0 0]] 1 0 true false)]⟩))
    (.ob (ObC Try.prog 37 [AV.s (Value.int IntKind.u8 t.op)] (AV.s (Value.int IntKind.i64 (argsF t.op))) [])
      (.test ((↑t.args.length : Int) != argsF t.op)
        (.leaf (.fin ⟨Ex.ret, true, [some (AV.v (Value.bool false))], [OS.o (AO.cells [AV.s (Value.int IntKind.i64 (IntKind.i64.wrap (p + 1)))] 1 0 true false), OS.o (AO.cells [AV.fn 36 [AV.ptr 65536 0 0, AV.ptr 65537 0 0]] 1 0 true false)]⟩))
        (.test (t.op != 1)
          (.test (!(t.k == 0 && (t.vn == 0 && (t.hi == 0 && (t.t.toList == (⟨#[]⟩ : ByteArray).toList && true)))))
            (.leaf (.fin ⟨Ex.ret, true, [some (AV.v (Value.bool false))], [OS.o (AO.cells [AV.s (Value.int IntKind.i64 (IntKind.i64.wrap (p + 1)))] 1 0 true false), OS.o (AO.cells [AV.fn 36 [AV.ptr 65536 0 0, AV.ptr 65537 0 0]] 1 0 true false)]⟩))
            (.test (t.op != 2)
              (.test (t.n != 0)
                (.leaf (.fin ⟨Ex.ret, true, [some (AV.v (Value.bool false))], [OS.o (AO.cells [AV.s (Value.int IntKind.i64 (IntKind.i64.wrap (p + 1)))] 1 0 true false), OS.o (AO.cells [AV.fn 36 [AV.ptr 65536 0 0, AV.ptr 65537 0 0]] 1 0 true false)]⟩))
                (.test (decide (t.n < 0))
                  (.leaf (.fin ⟨Ex.ret, true, [some (AV.v (Value.bool false))], [OS.o (AO.cells [AV.s (Value.int IntKind.i64 (IntKind.i64.wrap (p + 1)))] 1 0 true false), OS.o (AO.cells [AV.fn 36 [AV.ptr 65536 0 0, AV.ptr 65537 0 0]] 1 0 true false)]⟩))
                  (.ob (ObC Try.prog 35 [vlA { k := t.k, n := t.vn, hi := t.hi, t := t.t }] (AV.s (Value.bool (vmayF { k := t.k, n := t.vn, hi := t.hi, t := t.t }))) [])
                    (.test (!vmayF { k := t.k, n := t.vn, hi := t.hi, t := t.t })
                      (.leaf (.fin ⟨Ex.ret, true, [some (AV.v (Value.bool false))], [OS.o (AO.cells [AV.s (Value.int IntKind.i64 (IntKind.i64.wrap (p + 1)))] 1 0 true false), OS.o (AO.cells [AV.fn 36 [AV.ptr 65536 0 0, AV.ptr 65537 0 0]] 1 0 true false)]⟩))
                      (.leaf (.at 0 (ct P 36 0).1 (ct P 36 0).2 ⟨Ex.normal, true, [some (AV.s (Value.int IntKind.i64 d)), some (AV.ptr 65536 0 0), some (AV.ptr 65537 0 0), some (AV.fz (eT t.args) t.args.length ksE), some (AV.s (Value.int IntKind.i64 (Int.ofNat t.args.length))), some (AV.v (Value.int IntKind.i64 (0)))], [OS.o (AO.cells [AV.s (Value.int IntKind.i64 (IntKind.i64.wrap (p + 1)))] 1 0 true false), OS.o (AO.cells [AV.fn 36 [AV.ptr 65536 0 0, AV.ptr 65537 0 0]] 1 0 true false)]⟩))
                    )
                  )
                )
              )
              (.test (decide (t.n < 0))
                (.leaf (.fin ⟨Ex.ret, true, [some (AV.v (Value.bool false))], [OS.o (AO.cells [AV.s (Value.int IntKind.i64 (IntKind.i64.wrap (p + 1)))] 1 0 true false), OS.o (AO.cells [AV.fn 36 [AV.ptr 65536 0 0, AV.ptr 65537 0 0]] 1 0 true false)]⟩))
                (.ob (ObC Try.prog 35 [vlA { k := t.k, n := t.vn, hi := t.hi, t := t.t }] (AV.s (Value.bool (vmayF { k := t.k, n := t.vn, hi := t.hi, t := t.t }))) [])
                  (.test (!vmayF { k := t.k, n := t.vn, hi := t.hi, t := t.t })
                    (.leaf (.fin ⟨Ex.ret, true, [some (AV.v (Value.bool false))], [OS.o (AO.cells [AV.s (Value.int IntKind.i64 (IntKind.i64.wrap (p + 1)))] 1 0 true false), OS.o (AO.cells [AV.fn 36 [AV.ptr 65536 0 0, AV.ptr 65537 0 0]] 1 0 true false)]⟩))
                    (.leaf (.at 0 (ct P 36 0).1 (ct P 36 0).2 ⟨Ex.normal, true, [some (AV.s (Value.int IntKind.i64 d)), some (AV.ptr 65536 0 0), some (AV.ptr 65537 0 0), some (AV.fz (eT t.args) t.args.length ksE), some (AV.s (Value.int IntKind.i64 (Int.ofNat t.args.length))), some (AV.v (Value.int IntKind.i64 (0)))], [OS.o (AO.cells [AV.s (Value.int IntKind.i64 (IntKind.i64.wrap (p + 1)))] 1 0 true false), OS.o (AO.cells [AV.fn 36 [AV.ptr 65536 0 0, AV.ptr 65537 0 0]] 1 0 true false)]⟩))
                  )
                )
              )
            )
          )
          (.test (t.op != 2)
            (.test (t.n != 0)
              (.leaf (.fin ⟨Ex.ret, true, [some (AV.v (Value.bool false))], [OS.o (AO.cells [AV.s (Value.int IntKind.i64 (IntKind.i64.wrap (p + 1)))] 1 0 true false), OS.o (AO.cells [AV.fn 36 [AV.ptr 65536 0 0, AV.ptr 65537 0 0]] 1 0 true false)]⟩))
              (.test (decide (t.n < 0))
                (.leaf (.fin ⟨Ex.ret, true, [some (AV.v (Value.bool false))], [OS.o (AO.cells [AV.s (Value.int IntKind.i64 (IntKind.i64.wrap (p + 1)))] 1 0 true false), OS.o (AO.cells [AV.fn 36 [AV.ptr 65536 0 0, AV.ptr 65537 0 0]] 1 0 true false)]⟩))
                (.ob (ObC Try.prog 35 [vlA { k := t.k, n := t.vn, hi := t.hi, t := t.t }] (AV.s (Value.bool (vmayF { k := t.k, n := t.vn, hi := t.hi, t := t.t }))) [])
                  (.test (!vmayF { k := t.k, n := t.vn, hi := t.hi, t := t.t })
                    (.leaf (.fin ⟨Ex.ret, true, [some (AV.v (Value.bool false))], [OS.o (AO.cells [AV.s (Value.int IntKind.i64 (IntKind.i64.wrap (p + 1)))] 1 0 true false), OS.o (AO.cells [AV.fn 36 [AV.ptr 65536 0 0, AV.ptr 65537 0 0]] 1 0 true false)]⟩))
                    (.leaf (.at 0 (ct P 36 0).1 (ct P 36 0).2 ⟨Ex.normal, true, [some (AV.s (Value.int IntKind.i64 d)), some (AV.ptr 65536 0 0), some (AV.ptr 65537 0 0), some (AV.fz (eT t.args) t.args.length ksE), some (AV.s (Value.int IntKind.i64 (Int.ofNat t.args.length))), some (AV.v (Value.int IntKind.i64 (0)))], [OS.o (AO.cells [AV.s (Value.int IntKind.i64 (IntKind.i64.wrap (p + 1)))] 1 0 true false), OS.o (AO.cells [AV.fn 36 [AV.ptr 65536 0 0, AV.ptr 65537 0 0]] 1 0 true false)]⟩))
                  )
                )
              )
            )
            (.test (decide (t.n < 0))
              (.leaf (.fin ⟨Ex.ret, true, [some (AV.v (Value.bool false))], [OS.o (AO.cells [AV.s (Value.int IntKind.i64 (IntKind.i64.wrap (p + 1)))] 1 0 true false), OS.o (AO.cells [AV.fn 36 [AV.ptr 65536 0 0, AV.ptr 65537 0 0]] 1 0 true false)]⟩))
              (.ob (ObC Try.prog 35 [vlA { k := t.k, n := t.vn, hi := t.hi, t := t.t }] (AV.s (Value.bool (vmayF { k := t.k, n := t.vn, hi := t.hi, t := t.t }))) [])
                (.test (!vmayF { k := t.k, n := t.vn, hi := t.hi, t := t.t })
                  (.leaf (.fin ⟨Ex.ret, true, [some (AV.v (Value.bool false))], [OS.o (AO.cells [AV.s (Value.int IntKind.i64 (IntKind.i64.wrap (p + 1)))] 1 0 true false), OS.o (AO.cells [AV.fn 36 [AV.ptr 65536 0 0, AV.ptr 65537 0 0]] 1 0 true false)]⟩))
                  (.leaf (.at 0 (ct P 36 0).1 (ct P 36 0).2 ⟨Ex.normal, true, [some (AV.s (Value.int IntKind.i64 d)), some (AV.ptr 65536 0 0), some (AV.ptr 65537 0 0), some (AV.fz (eT t.args) t.args.length ksE), some (AV.s (Value.int IntKind.i64 (Int.ofNat t.args.length))), some (AV.v (Value.int IntKind.i64 (0)))], [OS.o (AO.cells [AV.s (Value.int IntKind.i64 (IntKind.i64.wrap (p + 1)))] 1 0 true false), OS.o (AO.cells [AV.fn 36 [AV.ptr 65536 0 0, AV.ptr 65537 0 0]] 1 0 true false)]⟩))
                )
              )
            )
          )
        )
      )
    )
  )
)
def mg_i (t : Tr) (d p : Int) : List AO := [.cells [.s (.int .i64 p)] 1 0 true false, selfO]
theorem mg_h (t : Tr) (d p : Int) : (ev Try.prog ex2X noS 3000 noL 3000 .normal [.c 0 (codeOf Try.prog 36)] (params (mg_a t d p)) (mkH openB (mg_i t d p))).map (lookW Try.prog 65538 2 (resOf Try.prog 36) [] [] mg_cf) = mg_t Try.prog t d p := by kernel_rfl
def mg_v0 (t : Tr) (d p : Int) (q : Int) (i : Nat) : List AV := [.s (.int .i64 d), .ptr 65536 0 0, .ptr 65537 0 0, .fz (eT t.args) t.args.length ksE, .s (.int .i64 t.args.length), .s (.int .i64 i)]
def mg_o0 (t : Tr) (d p : Int) (q : Int) (i : Nat) : List AO := [.cells [.s (.int .i64 q)] 1 0 true false, selfO]
noncomputable def mg_t0 (P : Program) (t : Tr) (d p : Int) (q : Int) (i : Nat) : Br PO :=
(.test (decide ((↑i : Int) < (↑t.args.length : Int)))
  (.test (decide (0 ≤ (↑i : Int)) && decide ((↑i : Int) < (↑t.args.length : Int)))
    (.ob (ObE   (trA (t.args.getD (↑i : Int).toNat default))   (trA     (trD       (trA (t.args.getD (↑i : Int).toNat default)))))
      (.ob (ObO [OS.o (AO.cells [AV.s (Value.int IntKind.i64 q)] 1 0 true false), OS.o (AO.cells [AV.fn 36 [AV.ptr 65536 0 0, AV.ptr 65537 0 0]] 1 0 true false)] [AO.cells [AV.s (Value.int IntKind.i64 q)] 1 0 true false, AO.cells [AV.fn 36 [AV.ptr 65536 0 0, AV.ptr 65537 0 0]] 1 0 true false])
        (.ob (ObW Try.prog 2 36   [trA       (trD         (trA (t.args.getD (↑i : Int).toNat default))),     AV.s (Value.int IntKind.i64 (IntKind.i64.wrap (d + 1))), AV.ptr 65536 0 0, AV.ptr 65537 0 0]   [AO.cells [AV.s (Value.int IntKind.i64 q)] 1 0 true false, AO.cells [AV.fn 36 [AV.ptr 65536 0 0, AV.ptr 65537 0 0]] 1 0 true false]   (AV.s     (Value.bool       (mayG           (trD             (trA (t.args.getD (↑i : Int).toNat default)))           (IntKind.i64.wrap (d + 1)) q).fst))   [AO.cells       [AV.s           (Value.int IntKind.i64             (mayG                 (trD                   (trA (t.args.getD (↑i : Int).toNat default)))                 (IntKind.i64.wrap (d + 1)) q).snd)]       1 0 true false,     AO.cells [AV.fn 36 [AV.ptr 65536 0 0, AV.ptr 65537 0 0]] 1 0 true false])
          (.test (!(mayG       (trD         (trA (t.args.getD (↑i : Int).toNat default)))       (IntKind.i64.wrap (d + 1)) q).fst)
            (.leaf (.fin ⟨Ex.ret, true, [some (AV.v (Value.bool false))], [OS.o   (AO.cells     [AV.s         (Value.int IntKind.i64           (mayG               (trD                 (trA (t.args.getD (↑i : Int).toNat default)))               (IntKind.i64.wrap (d + 1)) q).snd)]     1 0 true false), OS.o (AO.cells [AV.fn 36 [AV.ptr 65536 0 0, AV.ptr 65537 0 0]] 1 0 true false)]⟩))
            (.leaf (.at 0 (ct P 36 0).1 (ct P 36 0).2 ⟨Ex.normal, true, [some (AV.s (Value.int IntKind.i64 d)), some (AV.ptr 65536 0 0), some (AV.ptr 65537 0 0), some (AV.fz (eT t.args) t.args.length ksE), some (AV.s (Value.int IntKind.i64 (Int.ofNat t.args.length))), some (AV.s (Value.int IntKind.i64 (IntKind.i64.wrap ((↑i : Int) + 1))))], [OS.o   (AO.cells     [AV.s         (Value.int IntKind.i64           (mayG               (trD                 (trA (t.args.getD (↑i : Int).toNat default)))               (IntKind.i64.wrap (d + 1)) q).snd)]     1 0 true false), OS.o (AO.cells [AV.fn 36 [AV.ptr 65536 0 0, AV.ptr 65537 0 0]] 1 0 true false)]⟩))
          )
        )
      )
    )
    .no
  )
  (.leaf (.fin ⟨Ex.ret, true, [some (AV.v (Value.bool true))], [OS.o (AO.cells [AV.s (Value.int IntKind.i64 q)] 1 0 true false), OS.o (AO.cells [AV.fn 36 [AV.ptr 65536 0 0, AV.ptr 65537 0 0]] 1 0 true false)]⟩))
)
theorem mg_h0 (t : Tr) (d p : Int) (q : Int) (i : Nat) (j : Nat → Value) : (ev Try.prog ex2X noS 3000 noL 3000 .normal (hd Try.prog 36 0) (mkE (mg_cf 0) (mg_v0 t d p q i) j) (mkW 65538 2 (mg_o0 t d p q i))).map (lookW Try.prog 65538 2 (resOf Try.prog 36) [] [] mg_cf) = mg_t0 Try.prog t d p q i := by kernel_rfl

def may_cf : Nat → Cfg := cfL []
def may_a (t : Tr) : List AV := [trO t]
noncomputable def may_t (P : Program) (t : Tr) : Br PO :=
(.ob (ObE (trO t)   (trA (trD (trO t))))
  (.ob (ObO [OS.o (AO.cells [AV.v (Value.int IntKind.i64 (0))] 1 65537 true false), OS.o (AO.cells [AV.fn 36 [AV.ptr 65536 0 0, AV.ptr 65537 0 0]] 1 65538 true false)] [AO.cells [AV.s (Value.int IntKind.i64 (0))] 1 0 true false, AO.cells [AV.fn 36 [AV.ptr 65536 0 0, AV.ptr 65537 0 0]] 1 0 true false])
    (.ob (ObW Try.prog 2 36 [trA (trD (trO t)), AV.s (Value.int IntKind.i64 (1)), AV.ptr 65536 0 0, AV.ptr 65537 0 0]   [AO.cells [AV.s (Value.int IntKind.i64 (0))] 1 0 true false, AO.cells [AV.fn 36 [AV.ptr 65536 0 0, AV.ptr 65537 0 0]] 1 0 true false]   (AV.s (Value.bool (mayG (trD (trO t)) (1) (0)).fst))   [AO.cells [AV.s (Value.int IntKind.i64 (mayG (trD (trO t)) (1) (0)).snd)] 1 0 true false,     AO.cells [AV.fn 36 [AV.ptr 65536 0 0, AV.ptr 65537 0 0]] 1 0 true false])
      (.leaf (.fin ⟨Ex.ret, true, [some (AV.s (Value.bool (mayG (trD (trO t)) (1) (0)).fst))], []⟩))
    )
  )
)
theorem may_h (t : Tr) : (ev Try.prog mgX noS 3000 noL 3000 .normal [.c 0 (codeOf Try.prog 14)] (params (may_a t)) Ev.start).map (lookP Try.prog (resOf Try.prog 14) [] may_cf) = may_t Try.prog t := by kernel_rfl

def yV (b : Bool) : Ob := ⟨.ret, true, [some (.s (.bool b))], []⟩
theorem ba_empty (t : ByteArray) : (t.toList == (⟨#[]⟩ : ByteArray).toList) = decide (t = ⟨#[]⟩) := ba_eq
theorem and_one (n : Int) : (n == IntKind.i64.wrap ((BitVec.ofInt IntKind.i64.bits n &&& BitVec.ofInt IntKind.i64.bits 1).toNat : Int)) = (decide (n = 0) || decide (n = 1)) := by
  have h2 : (BitVec.ofInt IntKind.i64.bits n &&& BitVec.ofInt IntKind.i64.bits 1).toNat = (BitVec.ofInt IntKind.i64.bits n).toNat % 2 := by
    rw [BitVec.toNat_and]
    have : (BitVec.ofInt IntKind.i64.bits 1).toNat = 1 := rfl
    rw [this, Nat.and_one_is_mod]
  rw [h2, wrap_lt (by omega) (by omega)]
  have h3 : (BitVec.ofInt IntKind.i64.bits n).toNat = (n % 18446744073709551616).toNat := by
    rw [BitVec.toNat_ofInt]; rfl
  rw [h3, Bool.eq_iff_iff]
  simp only [beq_iff_eq, Bool.or_eq_true, decide_eq_true_eq]
  omega
theorem vm_ok (v : Vl) : OCalls Try.prog 35 [vlA v] (.s (.bool (vmayF v))) [] := by
  have yes : ∀ b, b = vmayF v → Goes (yV b) [.s (.bool (vmayF v))] [] := fun b hb => ⟨rfl, (.cons _ _ _ _ (.ofEq (by rw [hb])) .nil), .nil⟩
  have no : false = vmayF v → Goes ⟨.ret, true, [some (.v (.bool false))], []⟩ [.s (.bool (vmayF v))] [] := fun hb => ⟨rfl, (.cons _ _ _ _ (by rw [← hb]; exact .vs _) .nil), .nil⟩
  refine floyd0 ev_mix ev_ok noX_open noSQ (by kernel_rfl) [] vm_cf (vm_t _ v) (vm_h v) ?_
  unfold vm_t
  simp only [ba_empty, and_one]
  refine ⟨fun h => yes _ ?_, fun h0 => ⟨fun h => yes _ ?_, fun h1 => ⟨fun h => yes _ ?_, fun h2 => ⟨fun h => ⟨fun g => yes _ ?_, fun g => no ?_⟩, fun h3 => ⟨fun h => ⟨fun g => yes _ ?_, fun g => no ?_⟩, fun h4 => no ?_⟩⟩⟩⟩⟩
  · simp only [beq_iff_eq] at h
    simp [vmayF, h, Bool.and_assoc]
    rfl
  · simp only [beq_iff_eq] at h
    simp [vmayF, h]
    rfl
  · simp only [beq_iff_eq] at h
    simp [vmayF, h, Bool.and_assoc]
    rfl
  · simp only [beq_iff_eq] at h
    simp only [Bool.and_eq_true, beq_iff_eq, beq_self_eq_true, true_and, and_true] at g
    simp [vmayF, h, g]
    omega
  · simp only [beq_iff_eq] at h
    simp only [beq_self_eq_true, Bool.true_and, Bool.and_true] at g
    simp only [vmayF, h]
    simp
    intro g1 g2
    rw [g1, g2] at g; simp at g
  · simp only [beq_iff_eq] at h
    simp only [beq_self_eq_true, Bool.true_and, Bool.and_true, decide_eq_true_eq] at g
    simp [vmayF, h, g]
  · simp only [beq_iff_eq] at h
    simp only [beq_self_eq_true, Bool.true_and, Bool.and_true, decide_eq_false_iff_not] at g
    simp [vmayF, h, g]
  · simp only [beq_eq_false_iff_ne] at h0 h1 h2 h3 h4
    simp [vmayF, h0, h1, h2, h3, h4]
theorem ar_ok (op : Int) : OCalls Try.prog 37 [.s (.int .u8 op)] (.s (.int .i64 (argsF op))) [] := by
  have no : ∀ z, z = argsF op → Goes ⟨.ret, true, [some (.v (.int .i64 z))], []⟩ [.s (.int .i64 (argsF op))] [] := fun z hb => ⟨rfl, (.cons _ _ _ _ (by rw [← hb]; exact .vs _) .nil), .nil⟩
  refine floyd0 ev_mix ev_ok noX_open noSQ (by kernel_rfl) [] ar_cf (ar_t _ op) (ar_h op) ?_
  unfold ar_t argsF
  refine hSe (fun h => no _ (by simp [argsF, h])) fun h1 => hSe (fun h => no _ (by simp [argsF, h])) fun h2 => hSe (fun h => no _ (by simp [argsF, h])) fun h3 => hSe (fun h => no _ (by simp [argsF, h])) fun h4 => hSe (fun h => no _ (by simp [argsF, h])) fun h5 => hSd (fun h6 => hSd (fun h => no _ ?_) fun h => no _ ?_) fun h => no _ ?_
  · unfold argsF; rw [if_neg h1, if_neg h2, if_neg h3, if_neg h4, if_neg h5, if_pos h6, if_pos h]
  · unfold argsF; rw [if_neg h1, if_neg h2, if_neg h3, if_neg h4, if_neg h5, if_pos h6, if_neg h]; rfl
  · unfold argsF; rw [if_neg h1, if_neg h2, if_neg h3, if_neg h4, if_neg h5, if_neg h]; rfl
theorem mayG_eq (t : Tr) (d p : Int) : mayG t d p = if p + 1 > 64 ∨ d > 16 ∨ nodeF t = false then (false, p + 1) else mayLs t.args (d + 1) (p + 1) := by obtain ⟨_, _, _, _, _, _, as1⟩ := t; simp only [mayG]
theorem mayLs_nil (d p : Int) : mayLs [] d p = (true, p) := by simp only [mayLs]
theorem mayLs_cons (a : Tr) (r : List Tr) (d p : Int) : mayLs (a :: r) d p = if (mayG a d p).1 = true then mayLs r d (mayG a d p).2 else (false, (mayG a d p).2) := by simp only [mayLs]
theorem mayLs_bnd : ∀ (L : List Tr), (∀ a ∈ L, ∀ d p, p ≤ 64 → p + 1 ≤ (mayG a d p).2 ∧ (mayG a d p).2 ≤ 65 ∧ ((mayG a d p).1 = true → (mayG a d p).2 ≤ 64)) → ∀ d p, p ≤ 64 → p ≤ (mayLs L d p).2 ∧ (mayLs L d p).2 ≤ 65 ∧ ((mayLs L d p).1 = true → (mayLs L d p).2 ≤ 64)
  | [], _, d, p, hp => by rw [mayLs_nil]; exact ⟨by simp, by simp only; omega, fun _ => hp⟩
  | a :: L, h, d, p, hp => by
    obtain ⟨h1, h2, h3⟩ := h a (by simp) d p hp
    rw [mayLs_cons]
    split
    · rename_i c
      obtain ⟨k1, k2, k3⟩ := mayLs_bnd L (fun b hb => h b (by simp [hb])) d _ (h3 c)
      exact ⟨by omega, k2, k3⟩
    · rename_i c
      exact ⟨by simp only; omega, h2, fun x => by simp at x⟩
theorem mayG_bnd (t : Tr) : ∀ d p, p ≤ 64 → p + 1 ≤ (mayG t d p).2 ∧ (mayG t d p).2 ≤ 65 ∧ ((mayG t d p).1 = true → (mayG t d p).2 ≤ 64) := by
  induction t using Tr.ind with
  | h t ih =>
  intro d p hp
  rw [mayG_eq]
  split
  · exact ⟨by simp, by simp only; omega, fun x => by simp at x⟩
  · exact mayLs_bnd _ ih _ _ (by omega)
theorem vz_eq (t : Tr) : (t.k == 0 && (t.vn == 0 && (t.hi == 0 && (t.t.toList == (⟨#[]⟩ : ByteArray).toList && true)))) = decide (t.v = zVl) := by
  rw [ba_empty, Bool.eq_iff_iff]
  simp [Tr.v, zVl]
theorem tv_eq (t : Tr) : ({ k := t.k, n := t.vn, hi := t.hi, t := t.t } : Vl) = t.v := rfl
def pO (p : Int) : AO := .cells [.s (.int .i64 p)] 1 0 true false
theorem mg_ok (t : Tr) : ∀ (d p : Int), 1 ≤ d → d ≤ 17 → 0 ≤ p → p ≤ 64 → OWCalls Try.prog 2 36 [trA t, .s (.int .i64 d), .ptr 65536 0 0, .ptr 65537 0 0] [pO p, selfO] (.s (.bool (mayG t d p).1)) [pO (mayG t d p).2, selfO] := by
  induction t using Tr.ind with
  | h t ih =>
  intro d p hd1 hd2 hp1 hp2
  refine OWCalls.le (args := mg_a t d p) ?_ (.cons _ _ _ _ (trO_le t) (Les.refl _))
  have hsz : t.args.length ≤ 1000 ∨ 1000 < t.args.length := by omega
  have eG := mayG_eq t d p
  have hw : IntKind.i64.wrap (p + 1) = p + 1 := wrap_lt (by omega) (by omega)
  have no : (p + 1 > 64 ∨ d > 16 ∨ nodeF t = false) → Goes ⟨.ret, true, [some (.v (.bool false))], [.o (.cells [.s (.int .i64 (p + 1))] 1 0 true false), .o selfO]⟩ [.s (.bool (mayG t d p).1)] [pO (mayG t d p).2, selfO] := fun h => by
    rw [eG, if_pos h]
    exact ⟨rfl, (.cons _ _ _ _ (.vs _) .nil), .cons _ _ _ _ (OLe.cells _ _ _ _ _ _ _ (Les.refl _)) (.cons _ _ _ _ (OLe.cells _ _ _ _ _ _ _ (Les.refl _)) .nil)⟩
  refine floydW ev_mix ev_ok ex2X_ok noSQ (by kernel_rfl) 2 65538 rfl (by simp [mg_i]) [] [] mg_cf (fun s : Int × Nat => t.args.length - s.2) (fun _ => 0) (fun s => mg_v0 t d p s.1 s.2) (fun s => mg_o0 t d p s.1 s.2) (fun s => ((t.args.length ≤ 2 ∧ d ≤ 16) ∧ s.2 ≤ t.args.length ∧ mayLs (t.args.drop s.2) (d + 1) s.1 = mayG t d p) ∧ 0 ≤ s.1 ∧ s.1 ≤ 64) (fun s => mg_t0 _ t d p s.1 s.2) (mg_t _ t d p) (mg_h t d p) (fun s => mg_h0 t d p s.1 s.2) ?_ ?_
  · unfold mg_t
    simp only [vz_eq, tv_eq, hw]
    have nd : ∀ {x : Bool}, nodeF t = x → nodeF t = x := fun h => h
    have go : p + 1 ≤ 64 → d ≤ 16 → nodeF t = true → ∃ s : Int × Nat, (((t.args.length ≤ 2 ∧ d ≤ 16) ∧ s.2 ≤ t.args.length ∧ mayLs (t.args.drop s.2) (d + 1) s.1 = mayG t d p) ∧ 0 ≤ s.1 ∧ s.1 ≤ 64) ∧ 0 = 0 ∧ ((ct Try.prog 36 0).1, (ct Try.prog 36 0).2) = ct Try.prog 36 0 ∧ Goes ⟨.normal, true, [some (.s (.int .i64 d)), some (.ptr 65536 0 0), some (.ptr 65537 0 0), some (.fz (eT t.args) t.args.length ksE), some (.s (.int .i64 (Int.ofNat t.args.length))), some (.v (.int .i64 0))], [.o (.cells [.s (.int .i64 (p + 1))] 1 0 true false), .o selfO]⟩ (mg_v0 t d p s.1 s.2) (mg_o0 t d p s.1 s.2) := fun h1 h2 h3 => by
      have hl : t.args.length ≤ 2 := by
        unfold nodeF argsF at h3
        simp only [Bool.and_eq_true, decide_eq_true_eq] at h3
        have := h3.1
        split at this <;> (try split at this) <;> (try split at this) <;> (try split at this) <;> (try split at this) <;> (try split at this) <;> (try split at this) <;> omega
      refine ⟨(p + 1, 0), ⟨⟨⟨hl, h2⟩, Nat.zero_le _, ?_⟩, by simp only; omega, h1⟩, rfl, rfl, rfl, (.cons _ _ _ _ (.refl _) (.cons _ _ _ _ (.refl _) (.cons _ _ _ _ (.refl _) (.cons _ _ _ _ (.refl _) (.cons _ _ _ _ (.refl _) (.cons _ _ _ _ (.vs _) .nil)))))), (.cons _ _ _ _ (by first | exact OLe.same _ _ _ | exact OLe.cells _ _ _ _ _ _ _ (Les.refl _) | exact OLe.cells _ _ _ _ _ _ _ (.cons _ _ _ _ (.xsf _ _ _) (.cons _ _ _ _ (.xsf _ _ _) .nil)) | exact OLe.cells _ _ _ _ _ _ _ (.cons _ _ _ _ (.xso _ _) (.cons _ _ _ _ (.xso _ _) .nil)) |  exact OLe.nil _ _) (.cons _ _ _ _ (by first | exact OLe.same _ _ _ | exact OLe.cells _ _ _ _ _ _ _ (Les.refl _) | exact OLe.cells _ _ _ _ _ _ _ (.cons _ _ _ _ (.xsf _ _ _) (.cons _ _ _ _ (.xsf _ _ _) .nil)) | exact OLe.cells _ _ _ _ _ _ _ (.cons _ _ _ _ (.xso _ _) (.cons _ _ _ _ (.xso _ _) .nil)) |  exact OLe.nil _ _) .nil))⟩
      rw [eG, if_neg (by rw [h3]; simp; omega), List.drop_zero]
    refine hSd (fun h => no (.inl h)) fun h1 => hSd (fun h => no (.inr (.inl h))) fun h2 => hO ⟨ar_ok _⟩ ⟨fun h => no (.inr (.inr ?_)), fun h3 => ?_⟩
    · simp only [bne_iff_ne] at h
      unfold nodeF; simp [h]
    have h3 : (t.args.length : Int) = argsF t.op := by simpa using h3
    have fin : (t.op = 1 ∨ t.v = zVl) → (t.op = 2 ∨ t.n = 0) → (Br.test (decide (t.n < 0)) (.leaf (PO.fin ⟨.ret, true, [some (.v (.bool false))], [.o (.cells [.s (.int .i64 (p + 1))] 1 0 true false), .o selfO]⟩)) (.ob (ObC Try.prog 35 [vlA t.v] (.s (.bool (vmayF t.v))) []) (.test (!vmayF t.v) (.leaf (PO.fin ⟨.ret, true, [some (.v (.bool false))], [.o (.cells [.s (.int .i64 (p + 1))] 1 0 true false), .o selfO]⟩)) (.leaf (PO.at 0 (ct Try.prog 36 0).1 (ct Try.prog 36 0).2 ⟨.normal, true, [some (.s (.int .i64 d)), some (.ptr 65536 0 0), some (.ptr 65537 0 0), some (.fz (eT t.args) t.args.length ksE), some (.s (.int .i64 (Int.ofNat t.args.length))), some (.v (.int .i64 0))], [.o (.cells [.s (.int .i64 (p + 1))] 1 0 true false), .o selfO]⟩))))).Holds (fun o => match o with
      | PO.fin o => Goes o [.s (.bool (mayG t d p).1)] [pO (mayG t d p).2, selfO]
      | .at b c fr o => ∃ s : Int × Nat, (((t.args.length ≤ 2 ∧ d ≤ 16) ∧ s.2 ≤ t.args.length ∧ mayLs (t.args.drop s.2) (d + 1) s.1 = mayG t d p) ∧ 0 ≤ s.1 ∧ s.1 ≤ 64) ∧ 0 = b ∧ (c, fr) = ct Try.prog 36 b ∧ Goes o (mg_v0 t d p s.1 s.2) (mg_o0 t d p s.1 s.2)) := fun g1 g2 => by
      refine hSd (fun h => no (.inr (.inr ?_))) fun h4 => hO ⟨vm_ok _⟩ ⟨fun h => no (.inr (.inr ?_)), fun h5 => go (by omega) (by omega) ?_⟩
      · unfold nodeF; simp [show ¬ 0 ≤ t.n by omega]
      · have h : vmayF t.v = false := by simpa using h
        unfold nodeF; simp [h]
      · have h5 : vmayF t.v = true := by simpa using h5
        unfold nodeF; simp [h3, h5, g1, g2, show 0 ≤ t.n by omega]
    refine ⟨fun h4 => ⟨fun h => no (.inr (.inr ?_)), fun h5 => ⟨fun h6 => ⟨fun h => no (.inr (.inr ?_)), fun h7 => fin (.inr (by simpa using h5)) (.inr (by simpa using h7))⟩, fun h6 => fin (.inr (by simpa using h5)) (.inl (by simpa using h6))⟩⟩, fun h4 => ⟨fun h6 => ⟨fun h => no (.inr (.inr ?_)), fun h7 => fin (.inl (by simpa using h4)) (.inr (by simpa using h7))⟩, fun h6 => fin (.inl (by simpa using h4)) (.inl (by simpa using h6))⟩⟩
    · have h4 : t.op ≠ 1 := by simpa using h4
      have h : t.v ≠ zVl := by simpa using h
      unfold nodeF; simp [h4, h]
    · have h6 : t.op ≠ 2 := by simpa using h6
      have h : t.n ≠ 0 := by simpa using h
      unfold nodeF; simp [h6, h]
    · have h6 : t.op ≠ 2 := by simpa using h6
      have h : t.n ≠ 0 := by simpa using h
      unfold nodeF; simp [h6, h]
  · rintro ⟨q, i⟩ ⟨⟨⟨hl, hd⟩, hi, hs⟩, hq1, hq2⟩
    simp only at hi hs hq1 hq2
    unfold mg_t0
    have hwd : IntKind.i64.wrap (d + 1) = d + 1 := wrap_lt (by omega) (by omega)
    simp only [Int.toNat_natCast, trD_A, hwd]
    refine hSd (fun h => hSi (by omega) (hOA (hO ⟨(.cons _ _ _ _ (by first | exact OLe.same _ _ _ | exact OLe.cells _ _ _ _ _ _ _ (Les.refl _) | exact OLe.cells _ _ _ _ _ _ _ (.cons _ _ _ _ (.xsf _ _ _) (.cons _ _ _ _ (.xsf _ _ _) .nil)) | exact OLe.cells _ _ _ _ _ _ _ (.cons _ _ _ _ (.xso _ _) (.cons _ _ _ _ (.xso _ _) .nil)) |  exact OLe.nil _ _) (.cons _ _ _ _ (by first | exact OLe.same _ _ _ | exact OLe.cells _ _ _ _ _ _ _ (Les.refl _) | exact OLe.cells _ _ _ _ _ _ _ (.cons _ _ _ _ (.xsf _ _ _) (.cons _ _ _ _ (.xsf _ _ _) .nil)) | exact OLe.cells _ _ _ _ _ _ _ (.cons _ _ _ _ (.xso _ _) (.cons _ _ _ _ (.xso _ _) .nil)) |  exact OLe.nil _ _) .nil))⟩ (hO ⟨ih _ (getD_mem (by omega)) (d + 1) q (by omega) (by omega) hq1 hq2⟩ ?_)))) fun h => ?_
    · have h : i < t.args.length := by omega
      have hb := mayG_bnd (t.args.getD i default) (d + 1) q hq2
      have e := mayLs_cons (t.args.getD i default) (t.args.drop (i + 1)) (d + 1) q
      rw [← drop_getD h, hs] at e
      refine ⟨fun h2 => ?_, fun h2 => ?_⟩
      · have h2 : (mayG (t.args.getD i default) (d + 1) q).1 = false := by simpa using h2
        rw [e, if_neg (by rw [h2]; simp)]
        exact ⟨rfl, (.cons _ _ _ _ (.vs _) .nil), (.cons _ _ _ _ (by first | exact OLe.same _ _ _ | exact OLe.cells _ _ _ _ _ _ _ (Les.refl _) | exact OLe.cells _ _ _ _ _ _ _ (.cons _ _ _ _ (.xsf _ _ _) (.cons _ _ _ _ (.xsf _ _ _) .nil)) | exact OLe.cells _ _ _ _ _ _ _ (.cons _ _ _ _ (.xso _ _) (.cons _ _ _ _ (.xso _ _) .nil)) |  exact OLe.nil _ _) (.cons _ _ _ _ (by first | exact OLe.same _ _ _ | exact OLe.cells _ _ _ _ _ _ _ (Les.refl _) | exact OLe.cells _ _ _ _ _ _ _ (.cons _ _ _ _ (.xsf _ _ _) (.cons _ _ _ _ (.xsf _ _ _) .nil)) | exact OLe.cells _ _ _ _ _ _ _ (.cons _ _ _ _ (.xso _ _) (.cons _ _ _ _ (.xso _ _) .nil)) |  exact OLe.nil _ _) .nil))⟩
      · have h2 : (mayG (t.args.getD i default) (d + 1) q).1 = true := by simpa using h2
        rw [if_pos h2] at e
        exact ⟨((mayG (t.args.getD i default) (d + 1) q).2, i + 1), ⟨⟨⟨hl, hd⟩, by simp only; omega, e.symm⟩, by simp only; omega, hb.2.2 h2⟩, rel_nat (by simp only; omega), rfl, rfl, rfl, (.cons _ _ _ _ (.refl _) (.cons _ _ _ _ (.refl _) (.cons _ _ _ _ (.refl _) (.cons _ _ _ _ (.refl _) (.cons _ _ _ _ (.refl _) (.cons _ _ _ _ (.ofEq (by rw [wrap_lt (by omega) (by omega)]; rfl)) .nil)))))), (.cons _ _ _ _ (by first | exact OLe.same _ _ _ | exact OLe.cells _ _ _ _ _ _ _ (Les.refl _) | exact OLe.cells _ _ _ _ _ _ _ (.cons _ _ _ _ (.xsf _ _ _) (.cons _ _ _ _ (.xsf _ _ _) .nil)) | exact OLe.cells _ _ _ _ _ _ _ (.cons _ _ _ _ (.xso _ _) (.cons _ _ _ _ (.xso _ _) .nil)) |  exact OLe.nil _ _) (.cons _ _ _ _ (by first | exact OLe.same _ _ _ | exact OLe.cells _ _ _ _ _ _ _ (Les.refl _) | exact OLe.cells _ _ _ _ _ _ _ (.cons _ _ _ _ (.xsf _ _ _) (.cons _ _ _ _ (.xsf _ _ _) .nil)) | exact OLe.cells _ _ _ _ _ _ _ (.cons _ _ _ _ (.xso _ _) (.cons _ _ _ _ (.xso _ _) .nil)) |  exact OLe.nil _ _) .nil))⟩
    · rw [List.drop_eq_nil_of_le (by omega), mayLs_nil] at hs
      rw [← hs]
      exact ⟨rfl, (.cons _ _ _ _ (.vs _) .nil), (.cons _ _ _ _ (by first | exact OLe.same _ _ _ | exact OLe.cells _ _ _ _ _ _ _ (Les.refl _) | exact OLe.cells _ _ _ _ _ _ _ (.cons _ _ _ _ (.xsf _ _ _) (.cons _ _ _ _ (.xsf _ _ _) .nil)) | exact OLe.cells _ _ _ _ _ _ _ (.cons _ _ _ _ (.xso _ _) (.cons _ _ _ _ (.xso _ _) .nil)) |  exact OLe.nil _ _) (.cons _ _ _ _ (by first | exact OLe.same _ _ _ | exact OLe.cells _ _ _ _ _ _ _ (Les.refl _) | exact OLe.cells _ _ _ _ _ _ _ (.cons _ _ _ _ (.xsf _ _ _) (.cons _ _ _ _ (.xsf _ _ _) .nil)) | exact OLe.cells _ _ _ _ _ _ _ (.cons _ _ _ _ (.xso _ _) (.cons _ _ _ _ (.xso _ _) .nil)) |  exact OLe.nil _ _) .nil))⟩
theorem may_ok (t : Tr) : OCalls Try.prog 14 [trA t] (.s (.bool (mayF t))) [] := by
  refine OCalls.le (args := may_a t) ?_ (.cons _ _ _ _ (trO_le t) (Les.refl _))
  refine floyd0 ev_mix ev_ok mgX_ok noSQ (by kernel_rfl) [] may_cf (may_t _ t) (may_h t) ?_
  unfold may_t
  simp only [trD_B]
  exact hOB (hO ⟨.cons _ _ _ _ (OLe.cells _ _ _ _ _ _ _ (.cons _ _ _ _ (.vs _) .nil)) (.cons _ _ _ _ (OLe.cells _ _ _ _ _ _ _ (Les.refl _)) .nil)⟩ (hO ⟨mg_ok t 1 0 (by omega) (by omega) (by omega) (by omega)⟩ ⟨rfl, (.cons _ _ _ _ (.refl _) .nil), .nil⟩))
end Go.Proofs.Ytengccmjlaejfaa
end
section
namespace Go.Proofs.Ytengccmjlaejfaa
open Ev Go.RowKit
set_option linter.unusedVariables false
mutual
def cntF : Tr → Nat
  | ⟨_, _, _, _, _, _, as1⟩ => cntLs as1 + 1
def cntLs : List Tr → Nat
  | [] => 0
  | a :: r => cntF a + cntLs r
end
mutual
def allF : Tr → Bool
  | ⟨op, k, vn, hi, t, n, as1⟩ => nodeF ⟨op, k, vn, hi, t, n, as1⟩ && allLs as1
def allLs : List Tr → Bool
  | [] => true
  | a :: r => allF a && allLs r
end
theorem cntF_eq (t : Tr) : cntF t = cntLs t.args + 1 := by obtain ⟨_, _, _, _, _, _, as1⟩ := t; simp only [cntF]
theorem allF_eq (t : Tr) : allF t = (nodeF t && allLs t.args) := by obtain ⟨_, _, _, _, _, _, as1⟩ := t; simp only [allF]
theorem sizeLs_iff : ∀ (L : List Tr), (∀ a ∈ L, ∀ m, ((cntF a : Int) ≤ m → sizeF a m = cntF a) ∧ (m < (cntF a : Int) → m < sizeF a m)) → ∀ m n : Int, (n + cntLs L ≤ m → sizeLs L m n = n + cntLs L) ∧ (m < n + cntLs L → m < sizeLs L m n)
  | [], _, m, n => by rw [sizeLs_nil]; simp only [cntLs]; omega
  | a :: L, h, m, n => by
    rw [sizeLs_cons]
    simp only [cntLs]
    obtain ⟨h1, h2⟩ := h a (by simp) (m - n)
    have ih := sizeLs_iff L (fun b hb => h b (by simp [hb])) m
    by_cases c : n ≤ m
    · rw [if_pos c]
      by_cases c2 : (cntF a : Int) ≤ m - n
      · rw [h1 c2]
        obtain ⟨k1, k2⟩ := ih (n + cntF a)
        exact ⟨fun x => by rw [k1 (by omega)]; omega, fun x => k2 (by omega)⟩
      · have h3 := h2 (by omega)
        obtain ⟨k1, k2⟩ := ih (n + sizeF a (m - n))
        exact ⟨fun x => by omega, fun x => k2 (by omega)⟩
    · rw [if_neg c]; omega
theorem sizeF_iff (t : Tr) : ∀ m, ((cntF t : Int) ≤ m → sizeF t m = cntF t) ∧ (m < (cntF t : Int) → m < sizeF t m) := by
  induction t using Tr.ind with
  | h t ih =>
    intro m
    obtain ⟨h1, h2⟩ := sizeLs_iff t.args ih m 1
    rw [sizeF_eq, cntF_eq]
    exact ⟨fun x => by rw [h1 (by omega)]; omega, fun x => h2 (by omega)⟩
theorem mayLs_iff : ∀ (L : List Tr), (∀ a ∈ L, ∀ d p, 0 ≤ p → p ≤ 64 → ((mayG a d p).1 = true ↔ allF a = true ∧ p + cntF a ≤ 64 ∧ d + deepF a ≤ 17) ∧ ((mayG a d p).1 = true → (mayG a d p).2 = p + cntF a)) → ∀ d p, 0 ≤ p → p ≤ 64 → d ≤ 17 → ((mayLs L d p).1 = true ↔ allLs L = true ∧ p + cntLs L ≤ 64 ∧ d + deepLs L ≤ 17) ∧ ((mayLs L d p).1 = true → (mayLs L d p).2 = p + cntLs L)
  | [], _, d, p, h0, h1, h2 => by rw [mayLs_nil]; simp only [allLs, cntLs, deepLs]; exact ⟨⟨fun _ => ⟨trivial, by omega, by omega⟩, fun _ => trivial⟩, fun _ => by omega⟩
  | a :: L, h, d, p, h0, h1, h2 => by
    rw [mayLs_cons]
    simp only [allLs, cntLs, deepLs, Bool.and_eq_true]
    obtain ⟨g1, g2⟩ := h a (by simp) d p h0 h1
    cases hm : (mayG a d p).1 with
    | true =>
      rw [if_pos rfl]
      have e := g2 hm
      obtain ⟨k1, k2, k3⟩ := g1.1 hm
      obtain ⟨i1, i2⟩ := mayLs_iff L (fun b hb => h b (by simp [hb])) d (mayG a d p).2 (by omega) (by omega) h2
      rw [e] at i1 i2
      rw [e]
      refine ⟨⟨fun x => ?_, fun ⟨⟨_, x⟩, y, z⟩ => i1.2 ⟨x, by omega, by omega⟩⟩, fun x => by rw [i2 x]; omega⟩
      obtain ⟨j1, j2, j3⟩ := i1.1 x
      exact ⟨⟨k1, j1⟩, by omega, by omega⟩
    | false =>
      rw [if_neg (by simp)]
      refine ⟨⟨fun x => by simp at x, fun ⟨⟨x, _⟩, y, z⟩ => ?_⟩, fun x => by simp at x⟩
      have := g1.2 ⟨x, by omega, by omega⟩
      rw [hm] at this; cases this
theorem mayG_iff (t : Tr) : ∀ d p, 0 ≤ p → p ≤ 64 → ((mayG t d p).1 = true ↔ allF t = true ∧ p + cntF t ≤ 64 ∧ d + deepF t ≤ 17) ∧ ((mayG t d p).1 = true → (mayG t d p).2 = p + cntF t) := by
  induction t using Tr.ind with
  | h t ih =>
    intro d p h0 h1
    rw [mayG_eq, allF_eq, cntF_eq, deepF_eq, Bool.and_eq_true]
    by_cases c : p + 1 > 64 ∨ d > 16 ∨ nodeF t = false
    · rw [if_pos c]
      refine ⟨⟨fun x => by simp at x, fun ⟨⟨x, _⟩, y, z⟩ => ?_⟩, fun x => by simp at x⟩
      rcases c with c | c | c
      · omega
      · omega
      · rw [x] at c; cases c
    · rw [if_neg c]
      have c1 : nodeF t = true := by
        cases hx : nodeF t with
        | true => rfl
        | false => exact absurd (.inr (.inr hx)) c
      have c2 : ¬ p + 1 > 64 := fun x => c (.inl x)
      have c3 : ¬ d > 16 := fun x => c (.inr (.inl x))
      obtain ⟨i1, i2⟩ := mayLs_iff t.args ih (d + 1) (p + 1) (by omega) (by omega) (by omega)
      refine ⟨⟨fun x => ?_, fun ⟨⟨_, x⟩, y, z⟩ => i1.2 ⟨x, by omega, by omega⟩⟩, fun x => by rw [i2 x]; omega⟩
      obtain ⟨j1, j2, j3⟩ := i1.1 x
      exact ⟨⟨c1, j1⟩, by omega, by omega⟩
theorem mayF_iff (t : Tr) : mayF t = true ↔ allF t = true ∧ cntF t ≤ 64 ∧ deepF t ≤ 16 := by
  unfold mayF
  rw [(mayG_iff t 1 0 (by omega) (by omega)).1]
  constructor
  · rintro ⟨a, b, c⟩; exact ⟨a, by omega, by omega⟩
  · rintro ⟨a, b, c⟩; exact ⟨a, by omega, by omega⟩
theorem allLs_mem : ∀ {L : List Tr} {a : Tr}, a ∈ L → allLs L = true → allF a = true
  | [], _, h, _ => by simp at h
  | b :: L, a, h, hx => by
    simp only [allLs, Bool.and_eq_true] at hx
    rcases List.mem_cons.1 h with rfl | h
    · exact hx.1
    · exact allLs_mem h hx.2
theorem cntLs_mem : ∀ {L : List Tr} {a : Tr}, a ∈ L → cntF a ≤ cntLs L
  | [], _, h => by simp at h
  | b :: L, a, h => by
    simp only [cntLs]
    rcases List.mem_cons.1 h with rfl | h
    · omega
    · have := cntLs_mem h; omega
/- Expressions that are built: as they stand in memory. -/
end Go.Proofs.Ytengccmjlaejfaa
end
section
namespace Go.Proofs.Ytengccmjlaejfaa
open Ev Go.RowKit
set_option maxRecDepth 100000
set_option linter.unusedVariables false
noncomputable def szX : SumBr := obX Try.prog 16 (AKs.cons aTr (AKs.cons (aI .i64) AKs.nil)) fun z => .leaf (.s (.int .i64 (sizeF z.1 z.2.1)), [])
theorem szX_ok : SumGO Try.prog (sumS szX) := obX_ok (by kernel_rfl)
def sz_cf : Nat → Cfg := cfL [mkC 31 [1, 2, 5, 6] [(2, [])]]
def sz_a (t : Tr) (m : Int) : List AV := [trO t, .s (.int .i64 m)]
noncomputable def sz_t (P : Program) (t : Tr) (m : Int) : Br PO :=
(.leaf (.at 0 (ct P 16 0).1 (ct P 16 0).2 ⟨Ex.normal, true, [some (AV.s (Value.int IntKind.i64 m)), some (AV.ptr 65536 0 0), some (AV.v (Value.int IntKind.i64 (1))), some (AV.v (Value.int IntKind.i64 (0)))], [OS.o (AO.cells [AV.s (Value.int IntKind.u8 t.op), AV.s (Value.int IntKind.u8 t.k), AV.s (Value.int IntKind.i64 t.vn), AV.s (Value.int IntKind.i64 t.hi), AV.s (Value.string t.t), AV.s (Value.int IntKind.i64 t.n), AV.fz (eT t.args) t.args.length ksE] 7 65536 true false)]⟩))
theorem sz_h (t : Tr) (m : Int) : (ev Try.prog szX noS 3000 noL 3000 .normal [.c 0 (codeOf Try.prog 16)] (params (sz_a t m)) Ev.start).map (lookP Try.prog (resOf Try.prog 16) [] sz_cf) = sz_t Try.prog t m := by kernel_rfl
def sz_v0 (t : Tr) (m : Int) (n : Int) (i : Nat) : List AV := [.s (.int .i64 m), .ptr 65536 0 0, .s (.int .i64 n), .s (.int .i64 i)]
def sz_o0 (t : Tr) (m : Int) (n : Int) (i : Nat) : List AO := [boxE t]
noncomputable def sz_t0 (P : Program) (t : Tr) (m : Int) (n : Int) (i : Nat) : Br PO :=
(.test (decide ((↑i : Int) < (↑t.args.length : Int)))
  (.test (decide (n ≤ m))
    (.test (decide (0 ≤ (↑i : Int)) && decide ((↑i : Int) < (↑t.args.length : Int)))
      (.ob (ObE   (trA (t.args.getD (↑i : Int).toNat default))   (trA     (trD       (trA (t.args.getD (↑i : Int).toNat default)))))
        (.ob (ObC Try.prog 16   [trA       (trD         (trA (t.args.getD (↑i : Int).toNat default))),     AV.s (Value.int IntKind.i64 (IntKind.i64.wrap (m - n)))]   (AV.s     (Value.int IntKind.i64       (sizeF         (trD           (trA (t.args.getD (↑i : Int).toNat default)))         (IntKind.i64.wrap (m - n)))))   [])
          (.leaf (.at 0 (ct P 16 0).1 (ct P 16 0).2 ⟨Ex.normal, true, [some (AV.s (Value.int IntKind.i64 m)), some (AV.ptr 65536 0 0), some   (AV.s     (Value.int IntKind.i64       (IntKind.i64.wrap         (n +           sizeF             (trD               (trA (t.args.getD (↑i : Int).toNat default)))             (IntKind.i64.wrap (m - n)))))), some (AV.s (Value.int IntKind.i64 (IntKind.i64.wrap ((↑i : Int) + 1))))], [OS.o (AO.cells [AV.s (Value.int IntKind.u8 t.op), AV.s (Value.int IntKind.u8 t.k), AV.s (Value.int IntKind.i64 t.vn), AV.s (Value.int IntKind.i64 t.hi), AV.s (Value.string t.t), AV.s (Value.int IntKind.i64 t.n), AV.fz (eT t.args) t.args.length ksE] 7 0 true false)]⟩))
        )
      )
      .no
    )
    (.leaf (.fin ⟨Ex.ret, true, [some (AV.s (Value.int IntKind.i64 n))], []⟩))
  )
  (.leaf (.fin ⟨Ex.ret, true, [some (AV.s (Value.int IntKind.i64 n))], []⟩))
)
theorem sz_h0 (t : Tr) (m : Int) (n : Int) (i : Nat) (j : Nat → Value) : (ev Try.prog szX noS 3000 noL 3000 .normal (hd Try.prog 16 0) (mkE (sz_cf 0) (sz_v0 t m n i) j) (mkH openB (sz_o0 t m n i))).map (lookP Try.prog (resOf Try.prog 16) [] sz_cf) = sz_t0 Try.prog t m n i := by kernel_rfl

def lg_cf : Nat → Cfg := cfL []
def lg_a (t : Tr) : List AV := [trO t]
noncomputable def lg_t (P : Program) (t : Tr) : Br PO :=
(.ob (ObE (trO t)   (trA (trD (trO t))))
  (.ob (ObC Try.prog 16 [trA (trD (trO t)), AV.s (Value.int IntKind.i64 (500))]   (AV.s (Value.int IntKind.i64 (sizeF (trD (trO t)) (500)))) [])
    (.leaf (.fin ⟨Ex.ret, true, [some (AV.s (Value.bool (decide (sizeF (trD (trO t)) (500) > 500))))], []⟩))
  )
)
theorem lg_h (t : Tr) : (ev Try.prog szX noS 3000 noL 3000 .normal [.c 0 (codeOf Try.prog 9)] (params (lg_a t)) Ev.start).map (lookP Try.prog (resOf Try.prog 9) [] lg_cf) = lg_t Try.prog t := by kernel_rfl

theorem sz_ok (t : Tr) : ∀ (m : Int), -1000000 ≤ m → m ≤ 1000000 → OCalls Try.prog 16 [trA t, .s (.int .i64 m)] (.s (.int .i64 (sizeF t m))) [] := by
  induction t using Tr.ind with
  | h t ih =>
  intro m hm1 hm2
  refine OCalls.le (args := sz_a t m) (OCalls.bnd fun hb => ?_) (.cons _ _ _ _ (trO_le t) (Les.refl _))
  have hL : t.args.length ≤ 9223372036854775807 := hb.1.2.2.2.2.2.2.1
  refine floyd ev_mix ev_ok szX_ok noSQ (by kernel_rfl) [] sz_cf (fun s : Int × Nat => t.args.length - s.2) (fun _ => 0) (fun s => sz_v0 t m s.1 s.2) (fun s => sz_o0 t m s.1 s.2) (fun s => (s.2 ≤ t.args.length ∧ sizeLs (t.args.drop s.2) m s.1 = sizeF t m) ∧ 1 ≤ s.1 ∧ s.1 ≤ max 1 (m + 1)) (fun s => sz_t0 _ t m s.1 s.2) (sz_t _ t m) (sz_h t m) (fun s => sz_h0 t m s.1 s.2) ?_ ?_
  · exact ⟨(1, 0), ⟨⟨Nat.zero_le _, by rw [List.drop_zero, sizeF_eq]⟩, by omega, by omega⟩, rfl, rfl, rfl, (.cons _ _ _ _ (.refl _) (.cons _ _ _ _ (.refl _) (.cons _ _ _ _ (.vs _) (.cons _ _ _ _ (.vs _) .nil)))), .cons _ _ _ _ (box_le t _ _) .nil⟩
  · rintro ⟨n, i⟩ ⟨⟨hi, hs⟩, hn1, hn2⟩
    simp only at hi hs hn1 hn2
    unfold sz_t0
    simp only [Int.toNat_natCast, trD_A]
    refine hSd (fun h => hSd (fun h2 => hSi (by omega) ?_) fun h2 => ?_) fun h => ?_
    · have h : i < t.args.length := by omega
      have hmn : IntKind.i64.wrap (m - n) = m - n := wrap_lt (by omega) (by omega)
      have hb := sizeF_bnd (t.args.getD i default) (m - n)
      have hw : IntKind.i64.wrap (n + sizeF (t.args.getD i default) (m - n)) = n + sizeF (t.args.getD i default) (m - n) := wrap_lt (by omega) (by omega)
      simp only [hmn]
      refine hOA (hO ⟨ih _ (getD_mem h) _ (by omega) (by omega)⟩ ⟨(n + sizeF (t.args.getD i default) (m - n), i + 1), ⟨⟨by omega, ?_⟩, by omega, by omega⟩, rel_nat (by simp only; omega), rfl, rfl, rfl, (.cons _ _ _ _ (.refl _) (.cons _ _ _ _ (.refl _) (.cons _ _ _ _ (.ofEq (by rw [hw])) (.cons _ _ _ _ (.ofEq (by rw [wrap_lt (by omega) (by omega)]; rfl)) .nil)))), .cons _ _ _ _ (box_le t _ _) .nil⟩)
      rw [← hs, drop_getD h, sizeLs_cons, if_pos h2]
    · have h : i < t.args.length := by omega
      have e : sizeF t m = n := by rw [← hs, drop_getD h, sizeLs_cons, if_neg h2]
      exact ⟨rfl, (.cons _ _ _ _ (.ofEq (by rw [e])) .nil), .nil⟩
    · have e : sizeF t m = n := by rw [← hs, List.drop_eq_nil_of_le (by omega), sizeLs_nil]
      exact ⟨rfl, (.cons _ _ _ _ (.ofEq (by rw [e])) .nil), .nil⟩
theorem lg_ok (t : Tr) : OCalls Try.prog 9 [trA t] (.s (.bool (decide (sizeF t 500 > 500)))) [] := by
  refine OCalls.le (args := lg_a t) ?_ (.cons _ _ _ _ (trO_le t) (Les.refl _))
  refine floyd0 ev_mix ev_ok szX_ok noSQ (by kernel_rfl) [] lg_cf (lg_t _ t) (lg_h t) ?_
  unfold lg_t
  simp only [trD_B]
  exact hOB (hO ⟨sz_ok t 500 (by omega) (by omega)⟩ ⟨rfl, (.cons _ _ _ _ (.refl _) .nil), .nil⟩)
end Go.Proofs.Ytengccmjlaejfaa
end
section
namespace Go.Proofs.Ytengccmjlaejfaa
open Ev Go.RowKit
set_option maxRecDepth 100000
theorem works_true (w : World) : Calls Try.prog 8 #[] w fun e w' => e = .returned (.bool true) ∧ Fr noB w w' :=
  calls_true ev_mix ev_ok noS_ok 100000 (by kernel_rfl) w
end Go.Proofs.Ytengccmjlaejfaa
end
