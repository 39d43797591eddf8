/- Whether two rules, two tables are the same. No condition. -/
import Derived.Test.YtengccmjlaejfaaDoorRl4
section
namespace Go.Proofs.YtengccmjlaejfaaDoor
open Ev Go.RowKit
set_option maxRecDepth 100000
set_option linter.unusedVariables false
open Classical in
noncomputable def eqT (a b : Tr) : Bool := decide (a = b)
open Classical in
noncomputable def eqTs (L M : List Tr) : Bool := decide (L = M)
open Classical in
noncomputable def eqNs (L M : List Int) : Bool := decide (L = M)
open Classical in
noncomputable def eqCs (L M : List Cl) : Bool := decide (L = M)
noncomputable def tsD (x : AV) : List Tr := (trD (.agg [.s (.int .u8 0), .s (.int .u8 0), .s (.int .i64 0), .s (.int .i64 0), .s (.string ⟨#[]⟩), .s (.int .i64 0), x])).args
def tsA (L : List Tr) : AV := .fz (trLs L) L.length ksE
noncomputable def aTs : AK (List Tr) := aO tsD tsA
noncomputable def sameX : SumBr := obX Tryd.prog 33 (AKs.cons aTr (AKs.cons aTr AKs.nil)) fun z => .leaf (.s (.bool (eqT z.1 z.2.1)), [])
noncomputable def eqfX : SumBr := obX Tryd.prog 51 (AKs.cons aTs (AKs.cons aTs (AKs.cons aX AKs.nil))) fun z => .leaf (.s (.bool (eqTs z.1 z.2.1)), [])
noncomputable def eqiX : SumBr := obX Tryd.prog 32 (AKs.cons (aL Int) (AKs.cons (aL Int) AKs.nil)) fun z => .leaf (.s (.bool (eqNs z.1 z.2.1)), [])
noncomputable def eqcX : SumBr := obX Tryd.prog 34 (AKs.cons (aL Cl) (AKs.cons (aL Cl) AKs.nil)) fun z => .leaf (.s (.bool (eqCs z.1 z.2.1)), [])
noncomputable def saX : SumBr := orX eqiX sameX
theorem sameX_ok : SumGO Tryd.prog (sumS sameX) := obX_ok (by kernel_rfl)
theorem eqfX_ok : SumGO Tryd.prog (sumS eqfX) := obX_ok (by kernel_rfl)
theorem eqcX_ok : SumGO Tryd.prog (sumS eqcX) := obX_ok (by kernel_rfl)
theorem saX_ok : SumGO Tryd.prog (sumS saX) := orX_open (obX_ok (by kernel_rfl)) sameX_ok
def eqf_cf : Nat → Cfg := cfL [mkC 32 [1, 2, 15, 16, 17] []]
def eqf_a (L M : List Tr) : List AV := [.fz (eT L) L.length ksE, .fz (eT M) M.length ksE, .fn 33 []]
noncomputable def eqf_t (P : Program) (L M : List Tr) : Br PO :=
(.test ((↑L.length : Int) != (↑M.length : Int))
  (.leaf (.fin ⟨Ex.ret, true, [some (AV.v (Value.bool false))], []⟩))
  (.leaf (.at 0 (ct P 51 0).1 (ct P 51 0).2 ⟨Ex.normal, true, [some (AV.fz (eT M) M.length ksE), some (AV.fn 33 []), some (AV.fz (eT L) L.length ksE), some (AV.s (Value.int IntKind.i64 (Int.ofNat L.length))), some (AV.v (Value.int IntKind.i64 (0)))], []⟩))
)
theorem eqf_h (L M : List Tr) : (ev Tryd.prog sameX noS 3000 noL 3000 .normal [.c 0 (codeOf Tryd.prog 51)] (params (eqf_a L M)) Ev.start).map (lookP Tryd.prog (resOf Tryd.prog 51) [] eqf_cf) = eqf_t Tryd.prog L M := by kernel_rfl
def eqf_v0 (L M : List Tr) (i : Nat) : List AV := [.fz (eT M) M.length ksE, .fn 33 [], .fz (eT L) L.length ksE, .s (.int .i64 L.length), .s (.int .i64 i)]
def eqf_o0 (L M : List Tr) (i : Nat) : List AO := []
noncomputable def eqf_t0 (P : Program) (L M : List Tr) (i : Nat) : Br PO :=
(.test (decide ((↑i : Int) < (↑L.length : Int)))
  (.test (decide (0 ≤ (↑i : Int)) && decide ((↑i : Int) < (↑L.length : Int)))
    (.test (decide (0 ≤ (↑i : Int)) && decide ((↑i : Int) < (↑M.length : Int)))
      (.ob (ObE   (trA (L.getD (↑i : Int).toNat default))   (trA     (trD       (trA (L.getD (↑i : Int).toNat default)))))
        (.ob (ObE   (trA (M.getD (↑i : Int).toNat default))   (trA     (trD       (trA (M.getD (↑i : Int).toNat default)))))
          (.ob (ObC Tryd.prog 33   [trA       (trD         (trA (L.getD (↑i : Int).toNat default))),     trA       (trD         (trA (M.getD (↑i : Int).toNat default)))]   (AV.s     (Value.bool       (eqT         (trD           (trA (L.getD (↑i : Int).toNat default)))         (trD           (trA (M.getD (↑i : Int).toNat default))))))   [])
            (.test (!eqT     (trD       (trA (L.getD (↑i : Int).toNat default)))     (trD       (trA (M.getD (↑i : Int).toNat default))))
              (.leaf (.fin ⟨Ex.ret, true, [some (AV.v (Value.bool false))], []⟩))
              (.leaf (.at 0 (ct P 51 0).1 (ct P 51 0).2 ⟨Ex.normal, true, [some (AV.fz (eT M) M.length ksE), some (AV.fn 33 []), some (AV.fz (eT L) L.length ksE), some (AV.s (Value.int IntKind.i64 (Int.ofNat L.length))), some (AV.s (Value.int IntKind.i64 (IntKind.i64.wrap ((↑i : Int) + 1))))], []⟩))
            )
          )
        )
      )
      .no
    )
    .no
  )
  (.leaf (.fin ⟨Ex.ret, true, [some (AV.v (Value.bool true))], []⟩))
)
theorem eqf_h0 (L M : List Tr) (i : Nat) (j : Nat → Value) : (ev Tryd.prog sameX noS 3000 noL 3000 .normal (hd Tryd.prog 51 0) (mkE (eqf_cf 0) (eqf_v0 L M i) j) (mkH openB (eqf_o0 L M i))).map (lookP Tryd.prog (resOf Tryd.prog 51) [] eqf_cf) = eqf_t0 Tryd.prog L M i := by kernel_rfl

def same_cf : Nat → Cfg := cfL []
def same_a (a b : Tr) : List AV := [trO a, trO b]
noncomputable def same_t (P : Program) (a b : Tr) : Br PO :=
(.test (a.op == b.op)
  (.test (a.k == b.k && (a.vn == b.vn && (a.hi == b.hi && (a.t.toList == b.t.toList && true))))
    (.test (a.n == b.n)
      (.ob (ObE (AV.fz (eT a.args) a.args.length ksE) (AV.fz (trLs (tsD (AV.fz (eT a.args) a.args.length ksE))) (tsD (AV.fz (eT a.args) a.args.length ksE)).length ksE))
        (.ob (ObE (AV.fz (eT b.args) b.args.length ksE) (AV.fz (trLs (tsD (AV.fz (eT b.args) b.args.length ksE))) (tsD (AV.fz (eT b.args) b.args.length ksE)).length ksE))
          (.ob (ObC Tryd.prog 51 [AV.fz (trLs (tsD (AV.fz (eT a.args) a.args.length ksE))) (tsD (AV.fz (eT a.args) a.args.length ksE)).length ksE, AV.fz (trLs (tsD (AV.fz (eT b.args) b.args.length ksE))) (tsD (AV.fz (eT b.args) b.args.length ksE)).length ksE, AV.fn 33 []] (AV.s (Value.bool (eqTs (tsD (AV.fz (eT a.args) a.args.length ksE)) (tsD (AV.fz (eT b.args) b.args.length ksE))))) [])
            (.leaf (.fin ⟨Ex.ret, true, [some (AV.s (Value.bool (eqTs (tsD (AV.fz (eT a.args) a.args.length ksE)) (tsD (AV.fz (eT b.args) b.args.length ksE)))))], []⟩))
          )
        )
      )
      (.leaf (.fin ⟨Ex.ret, true, [some (AV.v (Value.bool false))], []⟩))
    )
    (.leaf (.fin ⟨Ex.ret, true, [some (AV.v (Value.bool false))], []⟩))
  )
  (.leaf (.fin ⟨Ex.ret, true, [some (AV.v (Value.bool false))], []⟩))
)
theorem same_h (a b : Tr) : (ev Tryd.prog eqfX noS 3000 noL 3000 .normal [.c 0 (codeOf Tryd.prog 33)] (params (same_a a b)) Ev.start).map (lookP Tryd.prog (resOf Tryd.prog 33) [] same_cf) = same_t Tryd.prog a b := by kernel_rfl

def eqi_cf : Nat → Cfg := cfL [mkC 26 [0, 1, 12, 13] []]
def eqi_a (L M : List Int) : List AV := [.fz (eL L) L.length [.int .i64], .fz (eL M) M.length [.int .i64]]
noncomputable def eqi_t (P : Program) (L M : List Int) : Br PO :=
(.test ((↑L.length : Int) != (↑M.length : Int))
  (.leaf (.fin ⟨Ex.ret, true, [some (AV.v (Value.bool false))], []⟩))
  (.leaf (.at 0 (ct P 32 0).1 (ct P 32 0).2 ⟨Ex.normal, true, [some (AV.fz (eL L) L.length [TK.int IntKind.i64]), some (AV.fz (eL M) M.length [TK.int IntKind.i64]), some (AV.s (Value.int IntKind.i64 (Int.ofNat L.length))), some (AV.v (Value.int IntKind.i64 (0)))], []⟩))
)
theorem eqi_h (L M : List Int) : (ev Tryd.prog noX noS 3000 noL 3000 .normal [.c 0 (codeOf Tryd.prog 32)] (params (eqi_a L M)) Ev.start).map (lookP Tryd.prog (resOf Tryd.prog 32) [] eqi_cf) = eqi_t Tryd.prog L M := by kernel_rfl
def eqi_v0 (L M : List Int) (i : Nat) : List AV := [.fz (eL L) L.length [.int .i64], .fz (eL M) M.length [.int .i64], .s (.int .i64 L.length), .s (.int .i64 i)]
def eqi_o0 (L M : List Int) (i : Nat) : List AO := []
noncomputable def eqi_t0 (P : Program) (L M : List Int) (i : Nat) : Br PO :=
(.test (decide ((↑i : Int) < (↑L.length : Int)))
  (.test (decide (0 ≤ (↑i : Int)) && decide ((↑i : Int) < (↑L.length : Int)))
    (.test (decide (0 ≤ (↑i : Int)) && decide ((↑i : Int) < (↑M.length : Int)))
      (.test (L.getD (↑i : Int).toNat default != M.getD (↑i : Int).toNat default)
        (.leaf (.fin ⟨Ex.ret, true, [some (AV.v (Value.bool false))], []⟩))
        (.leaf (.at 0 (ct P 32 0).1 (ct P 32 0).2 ⟨Ex.normal, true, [some (AV.fz (eL L) L.length [TK.int IntKind.i64]), some (AV.fz (eL M) M.length [TK.int IntKind.i64]), some (AV.s (Value.int IntKind.i64 (Int.ofNat L.length))), some (AV.s (Value.int IntKind.i64 (IntKind.i64.wrap ((↑i : Int) + 1))))], []⟩))
      )
      .no
    )
    .no
  )
  (.leaf (.fin ⟨Ex.ret, true, [some (AV.v (Value.bool true))], []⟩))
)
theorem eqi_h0 (L M : List Int) (i : Nat) (j : Nat → Value) : (ev Tryd.prog noX noS 3000 noL 3000 .normal (hd Tryd.prog 32 0) (mkE (eqi_cf 0) (eqi_v0 L M i) j) (mkH openB (eqi_o0 L M i))).map (lookP Tryd.prog (resOf Tryd.prog 32) [] eqi_cf) = eqi_t0 Tryd.prog L M i := by kernel_rfl

def eqc_cf : Nat → Cfg := cfL [mkC 26 [0, 1, 12, 13] []]
def eqc_a (L M : List Cl) : List AV := [.fz (eL L) L.length cks, .fz (eL M) M.length cks]
noncomputable def eqc_t (P : Program) (L M : List Cl) : Br PO :=
(.test ((↑L.length : Int) != (↑M.length : Int))
  (.leaf (.fin ⟨Ex.ret, true, [some (AV.v (Value.bool false))], []⟩))
  (.leaf (.at 0 (ct P 34 0).1 (ct P 34 0).2 ⟨Ex.normal, true, [some (AV.fz (eL L) L.length cks), some (AV.fz (eL M) M.length cks), some (AV.s (Value.int IntKind.i64 (Int.ofNat L.length))), some (AV.v (Value.int IntKind.i64 (0)))], []⟩))
)
theorem eqc_h (L M : List Cl) : (ev Tryd.prog noX noS 3000 noL 3000 .normal [.c 0 (codeOf Tryd.prog 34)] (params (eqc_a L M)) Ev.start).map (lookP Tryd.prog (resOf Tryd.prog 34) [] eqc_cf) = eqc_t Tryd.prog L M := by kernel_rfl
def eqc_v0 (L M : List Cl) (i : Nat) : List AV := [.fz (eL L) L.length cks, .fz (eL M) M.length cks, .s (.int .i64 L.length), .s (.int .i64 i)]
def eqc_o0 (L M : List Cl) (i : Nat) : List AO := []
noncomputable def eqc_t0 (P : Program) (L M : List Cl) (i : Nat) : Br PO :=
(.test (decide ((↑i : Int) < (↑L.length : Int)))
  (.test (decide (0 ≤ (↑i : Int)) && decide ((↑i : Int) < (↑L.length : Int)))
    (.test (decide (0 ≤ (↑i : Int)) && decide ((↑i : Int) < (↑M.length : Int)))
      (.test (!((L.getD (↑i : Int).toNat default).nm.toList == (M.getD (↑i : Int).toNat default).nm.toList &&     ((L.getD (↑i : Int).toNat default).ty == (M.getD (↑i : Int).toNat default).ty &&       ((L.getD (↑i : Int).toNat default).by1.k == (M.getD (↑i : Int).toNat default).by1.k && ((L.getD (↑i : Int).toNat default).by1.n == (M.getD (↑i : Int).toNat default).by1.n && ((L.getD (↑i : Int).toNat default).by1.hi == (M.getD (↑i : Int).toNat default).by1.hi && ((L.getD (↑i : Int).toNat default).by1.t.toList == (M.getD (↑i : Int).toNat default).by1.t.toList && true))) &&         true))))
        (.leaf (.fin ⟨Ex.ret, true, [some (AV.v (Value.bool false))], []⟩))
        (.leaf (.at 0 (ct P 34 0).1 (ct P 34 0).2 ⟨Ex.normal, true, [some (AV.fz (eL L) L.length cks), some (AV.fz (eL M) M.length cks), some (AV.s (Value.int IntKind.i64 (Int.ofNat L.length))), some (AV.s (Value.int IntKind.i64 (IntKind.i64.wrap ((↑i : Int) + 1))))], []⟩))
      )
      .no
    )
    .no
  )
  (.leaf (.fin ⟨Ex.ret, true, [some (AV.v (Value.bool true))], []⟩))
)
theorem eqc_h0 (L M : List Cl) (i : Nat) (j : Nat → Value) : (ev Tryd.prog noX noS 3000 noL 3000 .normal (hd Tryd.prog 34 0) (mkE (eqc_cf 0) (eqc_v0 L M i) j) (mkH openB (eqc_o0 L M i))).map (lookP Tryd.prog (resOf Tryd.prog 34) [] eqc_cf) = eqc_t0 Tryd.prog L M i := by kernel_rfl

def sa_cf : Nat → Cfg := cfL []
def sa_a (r u : Ru) : List AV := [ruO r, ruO u]
noncomputable def sa_t (P : Program) (r u : Ru) : Br PO :=
(.test (r.k == u.k)
  (.test (r.nm.toList == u.nm.toList)
    (.test (r.tb.toList == u.tb.toList)
      (.test (r.rf.toList == u.rf.toList)
        (.test (r.od == u.od)
          (.test (r.ou == u.ou)
            (.test (r.lt == u.lt)
              (.test (r.vd == u.vd)
                (.ob (ObC Tryd.prog 32 [AV.fz (eL (dL Int (eL r.cols) r.cols.length)) (dL Int (eL r.cols) r.cols.length).length (Rec.ks Int), AV.fz (eL (dL Int (eL u.cols) u.cols.length)) (dL Int (eL u.cols) u.cols.length).length (Rec.ks Int)] (AV.s (Value.bool (eqNs (dL Int (eL r.cols) r.cols.length) (dL Int (eL u.cols) u.cols.length)))) [])
                  (.test (eqNs (dL Int (eL r.cols) r.cols.length) (dL Int (eL u.cols) u.cols.length))
                    (.ob (ObE (trO r.ex)   (trA (trD (trO r.ex))))
                      (.ob (ObE (trO u.ex)   (trA (trD (trO u.ex))))
                        (.ob (ObC Tryd.prog 33   [trA (trD (trO r.ex)),     trA (trD (trO u.ex))]   (AV.s     (Value.bool       (eqT (trD (trO r.ex))         (trD (trO u.ex)))))   [])
                          (.leaf (.fin ⟨Ex.ret, true, [some   (AV.s     (Value.bool       (eqT (trD (trO r.ex))         (trD (trO u.ex)))))], []⟩))
                        )
                      )
                    )
                    (.leaf (.fin ⟨Ex.ret, true, [some (AV.v (Value.bool false))], []⟩))
                  )
                )
                (.leaf (.fin ⟨Ex.ret, true, [some (AV.v (Value.bool false))], []⟩))
              )
              (.leaf (.fin ⟨Ex.ret, true, [some (AV.v (Value.bool false))], []⟩))
            )
            (.leaf (.fin ⟨Ex.ret, true, [some (AV.v (Value.bool false))], []⟩))
          )
          (.leaf (.fin ⟨Ex.ret, true, [some (AV.v (Value.bool false))], []⟩))
        )
        (.leaf (.fin ⟨Ex.ret, true, [some (AV.v (Value.bool false))], []⟩))
      )
      (.leaf (.fin ⟨Ex.ret, true, [some (AV.v (Value.bool false))], []⟩))
    )
    (.leaf (.fin ⟨Ex.ret, true, [some (AV.v (Value.bool false))], []⟩))
  )
  (.leaf (.fin ⟨Ex.ret, true, [some (AV.v (Value.bool false))], []⟩))
)
theorem sa_h (r u : Ru) : (ev Tryd.prog saX noS 3000 noL 3000 .normal [.c 0 (codeOf Tryd.prog 15)] (params (sa_a r u)) Ev.start).map (lookP Tryd.prog (resOf Tryd.prog 15) [] sa_cf) = sa_t Tryd.prog r u := by kernel_rfl

def st_cf : Nat → Cfg := cfL []
def st_a (t o : Ta) : List AV := [taA t, taA o]
noncomputable def st_t (P : Program) (t o : Ta) : Br PO :=
(.test (t.nm.toList == o.nm.toList)
  (.test (t.ow.toList == o.ow.toList)
    (.ob (ObC Tryd.prog 34 [AV.fz (eL (dL Cl (eL t.cols) t.cols.length)) (dL Cl (eL t.cols) t.cols.length).length (Rec.ks Cl), AV.fz (eL (dL Cl (eL o.cols) o.cols.length)) (dL Cl (eL o.cols) o.cols.length).length (Rec.ks Cl)] (AV.s (Value.bool (eqCs (dL Cl (eL t.cols) t.cols.length) (dL Cl (eL o.cols) o.cols.length)))) [])
      (.leaf (.fin ⟨Ex.ret, true, [some (AV.s (Value.bool (eqCs (dL Cl (eL t.cols) t.cols.length) (dL Cl (eL o.cols) o.cols.length))))], []⟩))
    )
    (.leaf (.fin ⟨Ex.ret, true, [some (AV.v (Value.bool false))], []⟩))
  )
  (.leaf (.fin ⟨Ex.ret, true, [some (AV.v (Value.bool false))], []⟩))
)
theorem st_h (t o : Ta) : (ev Tryd.prog eqcX noS 3000 noL 3000 .normal [.c 0 (codeOf Tryd.prog 16)] (params (st_a t o)) Ev.start).map (lookP Tryd.prog (resOf Tryd.prog 16) [] st_cf) = st_t Tryd.prog t o := by kernel_rfl

theorem tsD_O (L : List Tr) : tsD (.fz (eT L) L.length ksE) = L := by
  have := trD_B ⟨0, 0, 0, 0, ⟨#[]⟩, 0, L⟩
  exact congrArg Tr.args this
theorem hOL {α : Type} {K : α → Prop} {k : Br α} {L : List Tr} (h : k.Holds K) : (Br.ob (ObE (.fz (eT L) L.length ksE) (.fz (trLs L) L.length ksE)) k).Holds K := ⟨⟨.fz _ _ _ _ fun i c hi _ => trLs_eq _ i c hi⟩, h⟩
theorem ext_getD {α : Type} [Inhabited α] {L M : List α} (hl : L.length = M.length) (h : ∀ j, j < L.length → L.getD j default = M.getD j default) : L = M := by
  apply List.ext_getElem hl
  intro i h1 h2
  have := h i h1
  simpa [List.getD_eq_getElem?_getD, h1, h2] using this
open Classical in
theorem eqT_iff {a b : Tr} : eqT a b = true ↔ a = b := by unfold eqT; exact decide_eq_true_iff
open Classical in
theorem eqTs_iff {a b : List Tr} : eqTs a b = true ↔ a = b := by unfold eqTs; exact decide_eq_true_iff
open Classical in
theorem eqCs_iff {a b : List Cl} : eqCs a b = true ↔ a = b := by unfold eqCs; exact decide_eq_true_iff
theorem eqf_ok (L M : List Tr) (ih : ∀ a ∈ L, ∀ b, OCalls Tryd.prog 33 [trA a, trA b] (.s (.bool (eqT a b))) []) : OCalls Tryd.prog 51 [.fz (trLs L) L.length ksE, .fz (trLs M) M.length ksE, .fn 33 []] (.s (.bool (eqTs L M))) [] := by
  have yv : ∀ x, eqTs L M = x → Goes ⟨.ret, true, [some (.v (.bool x))], []⟩ [.s (.bool (eqTs L M))] [] := fun x hx => ⟨rfl, .cons _ _ _ _ (leBv hx) .nil, .nil⟩
  refine OCalls.le (args := eqf_a L M) (OCalls.bnd fun hb => ?_) (.cons _ _ _ _ (trF_le L) (.cons _ _ _ _ (trF_le M) (Les.refl _)))
  have hlen : L.length ≤ 9223372036854775807 := hb.1
  refine floyd ev_mix ev_ok sameX_ok noSQ (by kernel_rfl) [] eqf_cf (fun i : Nat => L.length - i) (fun _ => 0) (eqf_v0 L M) (eqf_o0 L M) (fun i => i ≤ L.length ∧ L.length = M.length ∧ ∀ j, j < i → L.getD j default = M.getD j default) (eqf_t0 _ L M) (eqf_t _ L M) (eqf_h L M) (fun i j => eqf_h0 L M i j) ?_ ?_
  · unfold eqf_t
    refine ⟨fun h => yv _ ?_, fun h => ?_⟩
    · have h : (L.length : Int) ≠ M.length := bne_iff_ne.1 h
      unfold eqTs; rw [decide_eq_false_iff_not]; intro c; exact h (by rw [c])
    · have h : L.length = M.length := by
        have := bne_eq_false_iff_eq.1 h
        omega
      exact ⟨0, ⟨Nat.zero_le _, h, fun j hj => absurd hj (Nat.not_lt_zero j)⟩, rfl, rfl, rfl, (.cons _ _ _ _ (.refl _) (.cons _ _ _ _ (.refl _) (.cons _ _ _ _ (.refl _) (.cons _ _ _ _ (.refl _) (.cons _ _ _ _ (.vs _) .nil))))), .nil⟩
  · rintro i ⟨hi, hl, hj⟩
    unfold eqf_t0
    simp only [Int.toNat_natCast, trD_A]
    refine hSd (fun h => hSi (by omega) (hSi (by omega) (hOA (hOA (hO ⟨ih _ (getD_mem (by omega)) _⟩ ⟨fun h2 => yv _ ?_, fun h2 => ?_⟩))))) fun h => yv _ ?_
    · have h2 : eqT (L.getD i default) (M.getD i default) = false := by simpa using h2
      unfold eqT at h2
      rw [decide_eq_false_iff_not] at h2
      unfold eqTs; rw [decide_eq_false_iff_not]; intro c; exact h2 (by rw [c])
    · have h2 : eqT (L.getD i default) (M.getD i default) = true := by simpa using h2
      have h2 := eqT_iff.1 h2
      exact ⟨i + 1, ⟨by omega, hl, upto_next hj h2⟩, rel_nat (by omega), rfl, rfl, rfl, (.cons _ _ _ _ (.refl _) (.cons _ _ _ _ (.refl _) (.cons _ _ _ _ (.refl _) (.cons _ _ _ _ (.refl _) (.cons _ _ _ _ (.ofEq (by rw [wrap_lt (by omega) (by omega)]; rfl)) .nil))))), .nil⟩
    · exact eqTs_iff.2 (ext_getD hl fun j hj' => hj j (by omega))
theorem tr_eq (a b : Tr) : a = b ↔ a.op = b.op ∧ a.v = b.v ∧ a.n = b.n ∧ a.args = b.args := by
  obtain ⟨_, _, _, _, _, _, _⟩ := a
  obtain ⟨_, _, _, _, _, _, _⟩ := b
  simp only [Tr.v, Tr.mk.injEq, Vl.mk.injEq]
  exact ⟨fun ⟨a, b, c, d, e, f, g⟩ => ⟨a, ⟨b, c, d, e⟩, f, g⟩, fun ⟨a, ⟨b, c, d, e⟩, f, g⟩ => ⟨a, b, c, d, e, f, g⟩⟩
theorem vl_eqE (v w : Vl) : (v.k == w.k && (v.n == w.n && (v.hi == w.hi && (v.t.toList == w.t.toList && true)))) = true ↔ v = w := by
  obtain ⟨_, _, _, _⟩ := v
  obtain ⟨_, _, _, _⟩ := w
  simp [ba_eqE]
theorem same_ok (a : Tr) : ∀ b, OCalls Tryd.prog 33 [trA a, trA b] (.s (.bool (eqT a b))) [] := by
  induction a using Tr.ind with
  | h a ih =>
  intro b
  have yv : ∀ x, eqT a b = x → Goes ⟨.ret, true, [some (.v (.bool x))], []⟩ [.s (.bool (eqT a b))] [] := fun x hx => ⟨rfl, .cons _ _ _ _ (leBv hx) .nil, .nil⟩
  have ys : ∀ x, eqT a b = x → Goes ⟨.ret, true, [some (.s (.bool x))], []⟩ [.s (.bool (eqT a b))] [] := fun x hx => ⟨rfl, .cons _ _ _ _ (leBs hx) .nil, .nil⟩
  refine OCalls.le (args := same_a a b) ?_ (.cons _ _ _ _ (trO_le a) (.cons _ _ _ _ (trO_le b) .nil))
  refine floyd0 ev_mix ev_ok eqfX_ok noSQ (by kernel_rfl) [] same_cf (same_t _ a b) (same_h a b) ?_
  unfold same_t
  simp only [tsD_O]
  have no : ¬ (a.op = b.op ∧ a.v = b.v ∧ a.n = b.n ∧ a.args = b.args) → eqT a b = false := fun h => by
    unfold eqT; rw [decide_eq_false_iff_not]; exact fun c => h ((tr_eq a b).1 c)
  have hv : (a.k == b.k && (a.vn == b.vn && (a.hi == b.hi && (a.t.toList == b.t.toList && true)))) = true ↔ a.v = b.v := vl_eqE a.v b.v
  refine ⟨fun h1 => ⟨fun h2 => ⟨fun h3 => hOL (hOL (hO ⟨eqf_ok _ _ ih⟩ (ys _ ?_))), fun h3 => yv _ (no ?_)⟩, fun h2 => yv _ (no ?_)⟩, fun h1 => yv _ (no ?_)⟩
  · unfold eqT eqTs
    rw [decide_eq_decide, tr_eq]
    exact ⟨fun h => h.2.2.2, fun h => ⟨by simpa using h1, hv.1 h2, by simpa using h3, h⟩⟩
  · rintro ⟨_, _, h, _⟩; simp [h] at h3
  · rintro ⟨_, h, _⟩; rw [hv.2 h] at h2; cases h2
  · rintro ⟨h, _⟩; simp [h] at h1
theorem eqi_ok (L M : List Int) : OCalls Tryd.prog 32 [.fz (eL L) L.length [.int .i64], .fz (eL M) M.length [.int .i64]] (.s (.bool (eqNs L M))) [] := by
  have yv : ∀ x, eqNs L M = x → Goes ⟨.ret, true, [some (.v (.bool x))], []⟩ [.s (.bool (eqNs L M))] [] := fun x hx => ⟨rfl, .cons _ _ _ _ (leBv hx) .nil, .nil⟩
  refine OCalls.bnd fun hb => ?_
  have hlen : L.length ≤ 9223372036854775807 := hb.1
  refine floyd ev_mix ev_ok noX_open noSQ (by kernel_rfl) [] eqi_cf (fun i : Nat => L.length - i) (fun _ => 0) (eqi_v0 L M) (eqi_o0 L M) (fun i => i ≤ L.length ∧ L.length = M.length ∧ ∀ j, j < i → L.getD j default = M.getD j default) (eqi_t0 _ L M) (eqi_t _ L M) (eqi_h L M) (fun i j => eqi_h0 L M i j) ?_ ?_
  · unfold eqi_t
    refine ⟨fun h => yv _ ?_, fun h => ?_⟩
    · have h : (L.length : Int) ≠ M.length := bne_iff_ne.1 h
      unfold eqNs; rw [decide_eq_false_iff_not]; intro c; exact h (by rw [c])
    · have h : L.length = M.length := by
        have := bne_eq_false_iff_eq.1 h
        omega
      exact ⟨0, ⟨Nat.zero_le _, h, fun j hj => absurd hj (Nat.not_lt_zero j)⟩, rfl, rfl, rfl, (.cons _ _ _ _ (.refl _) (.cons _ _ _ _ (.refl _) (.cons _ _ _ _ (.refl _) (.cons _ _ _ _ (.vs _) .nil)))), .nil⟩
  · rintro i ⟨hi, hl, hj⟩
    unfold eqi_t0
    simp only [Int.toNat_natCast]
    refine hSd (fun h => hSi (by omega) (hSi (by omega) ⟨fun h2 => yv _ ?_, fun h2 => ?_⟩)) fun h => yv _ ?_
    · have h2 := bne_iff_ne.1 h2
      unfold eqNs; rw [decide_eq_false_iff_not]; intro c; exact h2 (by rw [c])
    · have h2 := bne_eq_false_iff_eq.1 h2
      exact ⟨i + 1, ⟨by omega, hl, upto_next hj h2⟩, rel_nat (by omega), rfl, rfl, rfl, (.cons _ _ _ _ (.refl _) (.cons _ _ _ _ (.refl _) (.cons _ _ _ _ (.refl _) (.cons _ _ _ _ (.ofEq (by rw [wrap_lt (by omega) (by omega)]; rfl)) .nil)))), .nil⟩
    · unfold eqNs
      exact decide_eq_true (ext_getD hl fun j hj' => hj j (by omega))
theorem cl_eqE (c d : Cl) : (c.nm.toList == d.nm.toList && (c.ty == d.ty && ((c.by1.k == d.by1.k && (c.by1.n == d.by1.n && (c.by1.hi == d.by1.hi && (c.by1.t.toList == d.by1.t.toList && true)))) && true))) = true ↔ c = d := by
  obtain ⟨_, _, _, _, _, _⟩ := c
  obtain ⟨_, _, _, _, _, _⟩ := d
  simp [ba_eqE, and_assoc]
theorem eqc_ok (L M : List Cl) : OCalls Tryd.prog 34 [.fz (eL L) L.length cks, .fz (eL M) M.length cks] (.s (.bool (eqCs L M))) [] := by
  have yv : ∀ x, eqCs L M = x → Goes ⟨.ret, true, [some (.v (.bool x))], []⟩ [.s (.bool (eqCs L M))] [] := fun x hx => ⟨rfl, .cons _ _ _ _ (leBv hx) .nil, .nil⟩
  refine OCalls.bnd fun hb => ?_
  have hlen : L.length ≤ 9223372036854775807 := hb.1
  refine floyd ev_mix ev_ok noX_open noSQ (by kernel_rfl) [] eqc_cf (fun i : Nat => L.length - i) (fun _ => 0) (eqc_v0 L M) (eqc_o0 L M) (fun i => i ≤ L.length ∧ L.length = M.length ∧ ∀ j, j < i → L.getD j default = M.getD j default) (eqc_t0 _ L M) (eqc_t _ L M) (eqc_h L M) (fun i j => eqc_h0 L M i j) ?_ ?_
  · unfold eqc_t
    refine ⟨fun h => yv _ ?_, fun h => ?_⟩
    · have h : (L.length : Int) ≠ M.length := bne_iff_ne.1 h
      unfold eqCs; rw [decide_eq_false_iff_not]; intro c; exact h (by rw [c])
    · have h : L.length = M.length := by
        have := bne_eq_false_iff_eq.1 h
        omega
      exact ⟨0, ⟨Nat.zero_le _, h, fun j hj => absurd hj (Nat.not_lt_zero j)⟩, rfl, rfl, rfl, (.cons _ _ _ _ (.refl _) (.cons _ _ _ _ (.refl _) (.cons _ _ _ _ (.refl _) (.cons _ _ _ _ (.vs _) .nil)))), .nil⟩
  · rintro i ⟨hi, hl, hj⟩
    unfold eqc_t0
    simp only [Int.toNat_natCast]
    have hc := cl_eqE (L.getD i default) (M.getD i default)
    refine hSd (fun h => hSi (by omega) (hSi (by omega) ⟨fun h2 => yv _ ?_, fun h2 => ?_⟩)) fun h => yv _ ?_
    · unfold eqCs; rw [decide_eq_false_iff_not]; intro c
      rw [hc.2 (by rw [c])] at h2; cases h2
    · have h2 := hc.1 (Bool.not_eq_false' .. |>.mp h2)
      exact ⟨i + 1, ⟨by omega, hl, upto_next hj h2⟩, rel_nat (by omega), rfl, rfl, rfl, (.cons _ _ _ _ (.refl _) (.cons _ _ _ _ (.refl _) (.cons _ _ _ _ (.refl _) (.cons _ _ _ _ (.ofEq (by rw [wrap_lt (by omega) (by omega)]; rfl)) .nil)))), .nil⟩
    · exact eqCs_iff.2 (ext_getD hl fun j hj' => hj j (by omega))
open Classical in
noncomputable def saF (r u : Ru) : Bool := decide (r = u)
open Classical in
noncomputable def stF (t o : Ta) : Bool := decide (t = o)
theorem ru_eq (r u : Ru) : r = u ↔ r.k = u.k ∧ r.nm = u.nm ∧ r.tb = u.tb ∧ r.rf = u.rf ∧ r.od = u.od ∧ r.ou = u.ou ∧ r.lt = u.lt ∧ r.vd = u.vd ∧ r.cols = u.cols ∧ r.ex = u.ex := by
  obtain ⟨_, _, _, _, _, _, _, _, _, _⟩ := r
  obtain ⟨_, _, _, _, _, _, _, _, _, _⟩ := u
  simp only [Ru.mk.injEq]
  exact ⟨fun ⟨a, b, c, d, e, f, g, h, i, j⟩ => ⟨a, b, c, f, g, h, i, j, d, e⟩, fun ⟨a, b, c, f, g, h, i, j, d, e⟩ => ⟨a, b, c, d, e, f, g, h, i, j⟩⟩
theorem ta_eq (t o : Ta) : t = o ↔ t.nm = o.nm ∧ t.ow = o.ow ∧ t.cols = o.cols := by
  obtain ⟨_, _, _⟩ := t
  obtain ⟨_, _, _⟩ := o
  simp only [Ta.mk.injEq]
  exact ⟨fun ⟨a, b, c⟩ => ⟨a, c, b⟩, fun ⟨a, c, b⟩ => ⟨a, b, c⟩⟩
theorem sa_ok (r u : Ru) : OCalls Tryd.prog 15 [ruA r, ruA u] (.s (.bool (saF r u))) [] := by
  have yv : ∀ x, saF r u = x → Goes ⟨.ret, true, [some (.v (.bool x))], []⟩ [.s (.bool (saF r u))] [] := fun x hx => ⟨rfl, .cons _ _ _ _ (leBv hx) .nil, .nil⟩
  have ys : ∀ x, saF r u = x → Goes ⟨.ret, true, [some (.s (.bool x))], []⟩ [.s (.bool (saF r u))] [] := fun x hx => ⟨rfl, .cons _ _ _ _ (leBs hx) .nil, .nil⟩
  refine OCalls.le (args := sa_a r u) ?_ (.cons _ _ _ _ (ruO_le r) (.cons _ _ _ _ (ruO_le u) .nil))
  refine floyd0 ev_mix ev_ok saX_ok noSQ (by kernel_rfl) [] sa_cf (sa_t _ r u) (sa_h r u) ?_
  unfold sa_t
  simp only [trD_B, dL_eL, ba_eqE]
  repeat' first
    | refine hO ⟨eqi_ok _ _⟩ ?_
    | refine hO ⟨same_ok _ _⟩ ?_
    | refine hOB ?_
    | refine hS (fun _ => ?_) fun _ => ?_
  all_goals first
    | refine yv _ ?_
    | refine ys _ ?_
  all_goals
    clear yv ys
    unfold saF
    first
      | (unfold eqT; rw [decide_eq_decide, ru_eq]; unfold eqNs at *; simp_all; done)
      | (unfold eqNs at *; rw [decide_eq_false_iff_not, ru_eq]; simp_all; done)
theorem st_ok (t o : Ta) : OCalls Tryd.prog 16 [taA t, taA o] (.s (.bool (stF t o))) [] := by
  have yv : ∀ x, stF t o = x → Goes ⟨.ret, true, [some (.v (.bool x))], []⟩ [.s (.bool (stF t o))] [] := fun x hx => ⟨rfl, .cons _ _ _ _ (leBv hx) .nil, .nil⟩
  have ys : ∀ x, stF t o = x → Goes ⟨.ret, true, [some (.s (.bool x))], []⟩ [.s (.bool (stF t o))] [] := fun x hx => ⟨rfl, .cons _ _ _ _ (leBs hx) .nil, .nil⟩
  refine floyd0 ev_mix ev_ok eqcX_ok noSQ (by kernel_rfl) [] st_cf (st_t _ t o) (st_h t o) ?_
  unfold st_t
  simp only [dL_eL, ba_eqE]
  repeat' first
    | refine hO ⟨eqc_ok _ _⟩ ?_
    | refine hS (fun _ => ?_) fun _ => ?_
  all_goals first
    | refine yv _ ?_
    | refine ys _ ?_
  all_goals
    clear yv ys
    unfold stF
    first
      | (unfold eqCs; rw [decide_eq_decide, ta_eq]; simp_all; done)
      | (rw [decide_eq_false_iff_not, ta_eq]; simp_all; done)
end Go.Proofs.YtengccmjlaejfaaDoor
end
section
namespace Go.Proofs.YtengccmjlaejfaaDoor
open Ev Go.RowKit
set_option maxRecDepth 100000
set_option linter.unusedVariables false
mutual
def paF : Tr → Int → Int
  | ⟨_, _, _, _, t, _, as1⟩, most => paLs as1 most (IntKind.i64.wrap (1 + IntKind.i64.wrap (Int.tdiv t.size 100)))
def paLs : List Tr → Int → Int → Int
  | [], _, n => n
  | a :: r, most, n => if n < most then paLs r most (IntKind.i64.wrap (n + paF a (IntKind.i64.wrap (most - n)))) else n
end
noncomputable def paX : SumBr := obX Tryd.prog 46 (AKs.cons aTr (AKs.cons (aI .i64) AKs.nil)) fun z => .leaf (.s (.int .i64 (paF z.1 z.2.1)), [])
noncomputable def szX : SumBr := obX Tryd.prog 27 (AKs.cons aTr AKs.nil) fun z => .leaf (.s (.int .i64 (paF z.1 1000)), [])
theorem paX_ok : SumGO Tryd.prog (sumS paX) := obX_ok (by kernel_rfl)
theorem szX_ok : SumGO Tryd.prog (sumS szX) := obX_ok (by kernel_rfl)
def pa_cf : Nat → Cfg := cfL [mkC 37 [1, 2, 5, 6] [(2, [])]]
def pa_a (t : Tr) (most : Int) : List AV := [trO t, .s (.int .i64 most)]
noncomputable def pa_t (P : Program) (t : Tr) (most : Int) : Br PO :=
(.leaf (.at 0 (ct P 46 0).1 (ct P 46 0).2 ⟨Ex.normal, true, [some (AV.s (Value.int IntKind.i64 most)), some (AV.ptr 65536 0 0), some (AV.s (Value.int IntKind.i64 (IntKind.i64.wrap (1 + IntKind.i64.wrap ((↑t.t.size : Int).tdiv 100))))), some (AV.v (Value.int IntKind.i64 (0)))], [OS.o (AO.cells [AV.s (Value.int IntKind.u8 t.op), AV.s (Value.int IntKind.u8 t.k), AV.s (Value.int IntKind.i64 t.vn), AV.s (Value.int IntKind.i64 t.hi), AV.s (Value.string t.t), AV.s (Value.int IntKind.i64 t.n), AV.fz (eT t.args) t.args.length ksE] 7 65536 true false)]⟩))
theorem pa_h (t : Tr) (most : Int) : (ev Tryd.prog paX noS 3000 noL 3000 .normal [.c 0 (codeOf Tryd.prog 46)] (params (pa_a t most)) Ev.start).map (lookP Tryd.prog (resOf Tryd.prog 46) [] pa_cf) = pa_t Tryd.prog t most := by kernel_rfl
def pa_v0 (t : Tr) (most : Int) (n : Int) (i : Nat) : List AV := [.s (.int .i64 most), .ptr 65536 0 0, .s (.int .i64 n), .s (.int .i64 i)]
def pa_o0 (t : Tr) (most : Int) (n : Int) (i : Nat) : List AO := [boxE t]
noncomputable def pa_t0 (P : Program) (t : Tr) (most : Int) (n : Int) (i : Nat) : Br PO :=
(.test (decide ((↑i : Int) < (↑t.args.length : Int)))
  (.test (decide (n < most))
    (.test (decide (0 ≤ (↑i : Int)) && decide ((↑i : Int) < (↑t.args.length : Int)))
      (.ob (ObE   (trA (t.args.getD (↑i : Int).toNat default))   (trA     (trD       (trA (t.args.getD (↑i : Int).toNat default)))))
        (.ob (ObC Tryd.prog 46   [trA       (trD         (trA (t.args.getD (↑i : Int).toNat default))),     AV.s (Value.int IntKind.i64 (IntKind.i64.wrap (most - n)))]   (AV.s     (Value.int IntKind.i64       (paF         (trD           (trA (t.args.getD (↑i : Int).toNat default)))         (IntKind.i64.wrap (most - n)))))   [])
          (.leaf (.at 0 (ct P 46 0).1 (ct P 46 0).2 ⟨Ex.normal, true, [some (AV.s (Value.int IntKind.i64 most)), some (AV.ptr 65536 0 0), some   (AV.s     (Value.int IntKind.i64       (IntKind.i64.wrap         (n +           paF             (trD               (trA (t.args.getD (↑i : Int).toNat default)))             (IntKind.i64.wrap (most - n)))))), some (AV.s (Value.int IntKind.i64 (IntKind.i64.wrap ((↑i : Int) + 1))))], [OS.o (AO.cells [AV.s (Value.int IntKind.u8 t.op), AV.s (Value.int IntKind.u8 t.k), AV.s (Value.int IntKind.i64 t.vn), AV.s (Value.int IntKind.i64 t.hi), AV.s (Value.string t.t), AV.s (Value.int IntKind.i64 t.n), AV.fz (eT t.args) t.args.length ksE] 7 0 true false)]⟩))
        )
      )
      .no
    )
    (.leaf (.fin ⟨Ex.ret, true, [some (AV.s (Value.int IntKind.i64 n))], []⟩))
  )
  (.leaf (.fin ⟨Ex.ret, true, [some (AV.s (Value.int IntKind.i64 n))], []⟩))
)
theorem pa_h0 (t : Tr) (most : Int) (n : Int) (i : Nat) (j : Nat → Value) : (ev Tryd.prog paX noS 3000 noL 3000 .normal (hd Tryd.prog 46 0) (mkE (pa_cf 0) (pa_v0 t most n i) j) (mkH openB (pa_o0 t most n i))).map (lookP Tryd.prog (resOf Tryd.prog 46) [] pa_cf) = pa_t0 Tryd.prog t most n i := by kernel_rfl

def sz_cf : Nat → Cfg := cfL []
def sz_a (t : Tr) : List AV := [trO t]
noncomputable def sz_t (P : Program) (t : Tr) : Br PO :=
(.ob (ObE (trO t)   (trA (trD (trO t))))
  (.ob (ObC Tryd.prog 46 [trA (trD (trO t)), AV.s (Value.int IntKind.i64 (1000))]   (AV.s (Value.int IntKind.i64 (paF (trD (trO t)) (1000)))) [])
    (.leaf (.fin ⟨Ex.ret, true, [some (AV.s (Value.int IntKind.i64 (paF (trD (trO t)) (1000))))], []⟩))
  )
)
theorem sz_h (t : Tr) : (ev Tryd.prog paX noS 3000 noL 3000 .normal [.c 0 (codeOf Tryd.prog 27)] (params (sz_a t)) Ev.start).map (lookP Tryd.prog (resOf Tryd.prog 27) [] sz_cf) = sz_t Tryd.prog t := by kernel_rfl

def lo_cf : Nat → Cfg := cfL []
def lo_a (r : Ru) : List AV := [ruO r]
noncomputable def lo_t (P : Program) (r : Ru) : Br PO :=
(.test (decide ((↑r.nm.size : Int) > 200))
  (.leaf (.fin ⟨Ex.ret, true, [some (AV.v (Value.bool true))], []⟩))
  (.test (decide ((↑r.tb.size : Int) > 200))
    (.leaf (.fin ⟨Ex.ret, true, [some (AV.v (Value.bool true))], []⟩))
    (.test (decide ((↑r.rf.size : Int) > 200))
      (.leaf (.fin ⟨Ex.ret, true, [some (AV.v (Value.bool true))], []⟩))
      (.test (decide ((↑r.cols.length : Int) > 60))
        (.leaf (.fin ⟨Ex.ret, true, [some (AV.v (Value.bool true))], []⟩))
        (.ob (ObE (trO r.ex)   (trA (trD (trO r.ex))))
          (.ob (ObC Tryd.prog 27 [trA (trD (trO r.ex))]   (AV.s (Value.int IntKind.i64 (paF (trD (trO r.ex)) (1000)))) [])
            (.leaf (.fin ⟨Ex.ret, true, [some (AV.s (Value.bool (decide (paF (trD (trO r.ex)) (1000) > 300))))], []⟩))
          )
        )
      )
    )
  )
)
theorem lo_h (r : Ru) : (ev Tryd.prog szX noS 3000 noL 3000 .normal [.c 0 (codeOf Tryd.prog 13)] (params (lo_a r)) Ev.start).map (lookP Tryd.prog (resOf Tryd.prog 13) [] lo_cf) = lo_t Tryd.prog r := by kernel_rfl

def wi_cf : Nat → Cfg := cfL [mkC 46 [1, 3] [(1, [])]]
def wi_a (t : Ta) : List AV := [taA t]
noncomputable def wi_t (P : Program) (t : Ta) : Br PO :=
(.test (decide ((↑t.cols.length : Int) > 40))
  (.leaf (.fin ⟨Ex.ret, true, [some (AV.v (Value.bool true))], []⟩))
  (.test (decide ((↑t.nm.size : Int) > 200))
    (.leaf (.fin ⟨Ex.ret, true, [some (AV.v (Value.bool true))], []⟩))
    (.test (decide ((↑t.ow.size : Int) > 200))
      (.leaf (.fin ⟨Ex.ret, true, [some (AV.v (Value.bool true))], []⟩))
      (.leaf (.at 0 (ct P 12 0).1 (ct P 12 0).2 ⟨Ex.normal, true, [some (AV.ptr 65536 0 0), some (AV.v (Value.int IntKind.i64 (0)))], [OS.o (AO.cells [AV.s (Value.string t.nm), AV.fz (eL t.cols) t.cols.length cks, AV.s (Value.string t.ow)] 3 65536 true false)]⟩))
    )
  )
)
theorem wi_h (t : Ta) : (ev Tryd.prog noX noS 3000 noL 3000 .normal [.c 0 (codeOf Tryd.prog 12)] (params (wi_a t)) Ev.start).map (lookP Tryd.prog (resOf Tryd.prog 12) [] wi_cf) = wi_t Tryd.prog t := by kernel_rfl
def wi_v0 (t : Ta) (i : Nat) : List AV := [.ptr 65536 0 0, .s (.int .i64 i)]
def wi_o0 (t : Ta) (i : Nat) : List AO := [boxT t]
noncomputable def wi_t0 (P : Program) (t : Ta) (i : Nat) : Br PO :=
(.test (decide ((↑i : Int) < (↑t.cols.length : Int)))
  (.test (decide (0 ≤ (↑i : Int)) && decide ((↑i : Int) < (↑t.cols.length : Int)))
    (.test (decide ((↑(t.cols.getD (↑i : Int).toNat default).nm.size : Int) > 200))
      (.leaf (.fin ⟨Ex.ret, true, [some (AV.v (Value.bool true))], []⟩))
      (.test (decide (0 ≤ (↑i : Int)) && decide ((↑i : Int) < (↑t.cols.length : Int)))
        (.test (decide ((↑(t.cols.getD (↑i : Int).toNat default).by1.t.size : Int) > 1000))
          (.leaf (.fin ⟨Ex.ret, true, [some (AV.v (Value.bool true))], []⟩))
          (.leaf (.at 0 (ct P 12 0).1 (ct P 12 0).2 ⟨Ex.normal, true, [some (AV.ptr 65536 0 0), some (AV.s (Value.int IntKind.i64 (IntKind.i64.wrap ((↑i : Int) + 1))))], [OS.o (AO.cells [AV.s (Value.string t.nm), AV.fz (eL t.cols) t.cols.length cks, AV.s (Value.string t.ow)] 3 0 true false)]⟩))
        )
        .no
      )
    )
    .no
  )
  (.leaf (.fin ⟨Ex.ret, true, [some (AV.v (Value.bool false))], []⟩))
)
theorem wi_h0 (t : Ta) (i : Nat) (j : Nat → Value) : (ev Tryd.prog noX noS 3000 noL 3000 .normal (hd Tryd.prog 12 0) (mkE (wi_cf 0) (wi_v0 t i) j) (mkH openB (wi_o0 t i))).map (lookP Tryd.prog (resOf Tryd.prog 12) [] wi_cf) = wi_t0 Tryd.prog t i := by kernel_rfl

theorem paF_eq (t : Tr) (most : Int) : paF t most = paLs t.args most (IntKind.i64.wrap (1 + IntKind.i64.wrap (Int.tdiv t.t.size 100))) := by obtain ⟨_, _, _, _, _, _, as1⟩ := t; simp only [paF]
theorem paLs_nil (most n : Int) : paLs [] most n = n := by simp only [paLs]
theorem paLs_cons (a : Tr) (r : List Tr) (most n : Int) : paLs (a :: r) most n = if n < most then paLs r most (IntKind.i64.wrap (n + paF a (IntKind.i64.wrap (most - n)))) else n := by simp only [paLs]
theorem pa_ok (t : Tr) : ∀ most, OCalls Tryd.prog 46 [trA t, .s (.int .i64 most)] (.s (.int .i64 (paF t most))) [] := by
  induction t using Tr.ind with
  | h t ih =>
  intro most
  have ys : ∀ x, paF t most = x → Goes ⟨.ret, true, [some (.s (.int .i64 x))], []⟩ [.s (.int .i64 (paF t most))] [] := fun x hx => ⟨rfl, .cons _ _ _ _ (leIs hx) .nil, .nil⟩
  refine OCalls.le (args := pa_a t most) (OCalls.bnd fun hb => ?_) (.cons _ _ _ _ (trO_le t) (Les.refl _))
  have hlen : t.args.length ≤ 9223372036854775807 := hb.1.2.2.2.2.2.2.1
  refine floyd ev_mix ev_ok paX_ok noSQ (by kernel_rfl) [] pa_cf (fun s : Int × Nat => t.args.length - s.2) (fun _ => 0) (fun s => pa_v0 t most s.1 s.2) (fun s => pa_o0 t most s.1 s.2) (fun s => s.2 ≤ t.args.length ∧ paF t most = paLs (t.args.drop s.2) most s.1) (fun s => pa_t0 _ t most s.1 s.2) (pa_t _ t most) (pa_h t most) (fun s j => pa_h0 t most s.1 s.2 j) ?_ ?_
  · unfold pa_t
    exact ⟨(_, 0), ⟨Nat.zero_le _, by rw [List.drop_zero]; exact paF_eq t most⟩, rfl, rfl, rfl, (.cons _ _ _ _ (.refl _) (.cons _ _ _ _ (.refl _) (.cons _ _ _ _ (.refl _) (.cons _ _ _ _ (.vs _) .nil)))), .cons _ _ _ _ (box_le t _ _) .nil⟩
  · rintro ⟨n, i⟩ ⟨hi, hs⟩
    simp only at hi hs
    unfold pa_t0
    simp only [Int.toNat_natCast, trD_A]
    refine hSd (fun h => hSd (fun h2 => hSi (by omega) (hOA (hO ⟨ih _ (getD_mem (by omega)) _⟩ ?_))) fun h2 => ys _ ?_) fun h => ys _ ?_
    · rw [drop_getD (by omega), paLs_cons, if_pos h2] at hs
      exact ⟨(_, i + 1), ⟨by simp only; omega, hs⟩, rel_nat (by simp only; omega), rfl, rfl, rfl, (.cons _ _ _ _ (.refl _) (.cons _ _ _ _ (.refl _) (.cons _ _ _ _ (.refl _) (.cons _ _ _ _ (.ofEq (by rw [wrap_lt (by omega) (by omega)]; rfl)) .nil)))), .cons _ _ _ _ (box_le t _ _) .nil⟩
    · rw [hs, drop_getD (by omega), paLs_cons, if_neg h2]
    · rw [hs, List.drop_eq_nil_of_le (by omega), paLs_nil]
theorem sz_ok (t : Tr) : OCalls Tryd.prog 27 [trA t] (.s (.int .i64 (paF t 1000))) [] := by
  refine OCalls.le (args := sz_a t) ?_ (.cons _ _ _ _ (trO_le t) .nil)
  refine floyd0 ev_mix ev_ok paX_ok noSQ (by kernel_rfl) [] sz_cf (sz_t _ t) (sz_h t) ?_
  unfold sz_t
  simp only [trD_B]
  exact hOB (hO ⟨pa_ok t _⟩ ⟨rfl, .cons _ _ _ _ (.refl _) .nil, .nil⟩)
def loF (r : Ru) : Bool := decide ((r.nm.size : Int) > 200) || (decide ((r.tb.size : Int) > 200) || (decide ((r.rf.size : Int) > 200) || (decide ((r.cols.length : Int) > 60) || decide (paF r.ex 1000 > 300))))
theorem lo_ok (r : Ru) : OCalls Tryd.prog 13 [ruA r] (.s (.bool (loF r))) [] := by
  have yv : ∀ x, loF r = x → Goes ⟨.ret, true, [some (.v (.bool x))], []⟩ [.s (.bool (loF r))] [] := fun x hx => ⟨rfl, .cons _ _ _ _ (leBv hx) .nil, .nil⟩
  have ys : ∀ x, loF r = x → Goes ⟨.ret, true, [some (.s (.bool x))], []⟩ [.s (.bool (loF r))] [] := fun x hx => ⟨rfl, .cons _ _ _ _ (leBs hx) .nil, .nil⟩
  refine OCalls.le (args := lo_a r) ?_ (.cons _ _ _ _ (ruO_le r) .nil)
  refine floyd0 ev_mix ev_ok szX_ok noSQ (by kernel_rfl) [] lo_cf (lo_t _ r) (lo_h r) ?_
  unfold lo_t
  simp only [trD_B]
  refine ⟨fun h => yv _ ?_, fun h1 => ⟨fun h => yv _ ?_, fun h2 => ⟨fun h => yv _ ?_, fun h3 => ⟨fun h => yv _ ?_, fun h4 => hOB (hO ⟨sz_ok _⟩ (ys _ ?_))⟩⟩⟩⟩
  · unfold loF; simp_all
  · unfold loF; simp_all
  · unfold loF; simp_all
  · unfold loF; simp_all
  · have h1 : decide ((r.nm.size : Int) > 200) = false := h1
    have h2 : decide ((r.tb.size : Int) > 200) = false := h2
    have h3 : decide ((r.rf.size : Int) > 200) = false := h3
    have h4 : decide ((r.cols.length : Int) > 60) = false := h4
    unfold loF; rw [h1, h2, h3, h4]; rfl
open Classical in
noncomputable def wiF (t : Ta) : Bool := decide (t.cols.length > 40 ∨ t.nm.size > 200 ∨ t.ow.size > 200 ∨ ∃ i, i < t.cols.length ∧ ((t.cols.getD i default).nm.size > 200 ∨ (t.cols.getD i default).by1.t.size > 1000))
theorem wi_ok (t : Ta) : OCalls Tryd.prog 12 [taA t] (.s (.bool (wiF t))) [] := by
  have yv : ∀ x, wiF t = x → Goes ⟨.ret, true, [some (.v (.bool x))], []⟩ [.s (.bool (wiF t))] [] := fun x hx => ⟨rfl, .cons _ _ _ _ (leBv hx) .nil, .nil⟩
  have yes : (t.cols.length > 40 ∨ t.nm.size > 200 ∨ t.ow.size > 200 ∨ ∃ i, i < t.cols.length ∧ ((t.cols.getD i default).nm.size > 200 ∨ (t.cols.getD i default).by1.t.size > 1000)) → wiF t = true := fun h => by unfold wiF; exact decide_eq_true h
  refine OCalls.bnd fun hb => ?_
  have hlen : t.cols.length ≤ 9223372036854775807 := hb.1.2.1
  refine floyd ev_mix ev_ok noX_open noSQ (by kernel_rfl) [] wi_cf (fun i : Nat => t.cols.length - i) (fun _ => 0) (wi_v0 t) (wi_o0 t) (fun i => i ≤ t.cols.length ∧ ¬ (t.cols.length > 40 ∨ t.nm.size > 200 ∨ t.ow.size > 200) ∧ ∀ j, j < i → ¬ ((t.cols.getD j default).nm.size > 200 ∨ (t.cols.getD j default).by1.t.size > 1000)) (wi_t0 _ t) (wi_t _ t) (wi_h t) (fun i j => wi_h0 t i j) ?_ ?_
  · unfold wi_t
    refine hSd (fun h => yv _ (yes (.inl (by omega)))) fun h1 => hSd (fun h => yv _ (yes (.inr (.inl (by omega))))) fun h2 => hSd (fun h => yv _ (yes (.inr (.inr (.inl (by omega)))))) fun h3 => ?_
    exact ⟨0, ⟨Nat.zero_le _, by omega, fun j hj => absurd hj (Nat.not_lt_zero j)⟩, rfl, rfl, rfl, (.cons _ _ _ _ (.refl _) (.cons _ _ _ _ (.vs _) .nil)), .cons _ _ _ _ (boxT_le t _ _) .nil⟩
  · rintro i ⟨hi, h0, hj⟩
    unfold wi_t0
    simp only [Int.toNat_natCast]
    refine hSd (fun h => hSi (by omega) (hSd (fun h2 => yv _ (yes (.inr (.inr (.inr ⟨i, by omega, .inl (by omega)⟩))))) fun h2 => hSi (by omega) (hSd (fun h3 => yv _ (yes (.inr (.inr (.inr ⟨i, by omega, .inr (by omega)⟩))))) fun h3 => ?_))) fun h => yv _ ?_
    · exact ⟨i + 1, ⟨by omega, h0, upto_next hj (by omega)⟩, rel_nat (by omega), rfl, rfl, rfl, (.cons _ _ _ _ (.refl _) (.cons _ _ _ _ (.ofEq (by rw [wrap_lt (by omega) (by omega)]; rfl)) .nil)), .cons _ _ _ _ (boxT_le t _ _) .nil⟩
    · unfold wiF; rw [decide_eq_false_iff_not]
      rintro (a | a | a | ⟨j, a, b⟩)
      · exact h0 (.inl a)
      · exact h0 (.inr (.inl a))
      · exact h0 (.inr (.inr a))
      · exact hj j (by omega) b
end Go.Proofs.YtengccmjlaejfaaDoor
end
section
namespace Go.Proofs.YtengccmjlaejfaaDoor
open Ev Go.RowKit
set_option maxRecDepth 100000
set_option linter.unusedVariables false
theorem namLs_ex : ∀ {L : List Tr} {n : Int}, n ∈ namLs L → ∃ a ∈ L, n ∈ namF a
  | [], _, h => by rw [namLs_nil] at h; cases h
  | b :: L, n, h => by
    rw [namLs_cons, List.mem_append] at h
    rcases h with h | h
    · exact ⟨b, by simp, h⟩
    · obtain ⟨a, h1, h2⟩ := namLs_ex h
      exact ⟨a, by simp [h1], h2⟩
theorem tyLs_congr {cols cols' : List Cl} {op : Int} : ∀ (L : List Tr), (∀ a ∈ L, ∀ f, tyG cols a f = tyG cols' a f) → ∀ s, tyLs cols op L s = tyLs cols' op L s
  | [], _, s => by rw [tyLs_nil, tyLs_nil]
  | a :: L, h, s => by
    rw [tyLs_cons, tyLs_cons, h a (by simp), tyLs_congr L (fun b hb => h b (by simp [hb]))]
theorem tyG_congr {cols cols' : List Cl} (t : Tr) : (∀ n ∈ namF t, (cols'.getD n.toNat default).ty = (cols.getD n.toNat default).ty) → ∀ f, tyG cols' t f = tyG cols t f := by
  induction t using Tr.ind with
  | h t ih =>
  intro hn f
  rw [tyG_eq, tyG_eq]
  by_cases h1 : t.op = 1
  · rw [if_pos h1, if_pos h1]
  · rw [if_neg h1, if_neg h1]
    by_cases h2 : t.op = 2
    · rw [if_pos h2, if_pos h2, hn t.n (by rw [namF_eq, if_pos h2]; simp)]
    · rw [if_neg h2, if_neg h2, tyLs_congr t.args fun a ha f => ih a ha (fun n hm => hn n (by rw [namF_eq, List.mem_append]; exact .inr (namLs_mem ha hm))) f]
theorem nam_nonneg (t : Tr) : allF t = true → ∀ n ∈ namF t, 0 ≤ n := by
  induction t using Tr.ind with
  | h t ih =>
  intro ha n hn
  obtain ⟨hnode, hargs⟩ := allF_get ha
  rw [namF_eq, List.mem_append] at hn
  rcases hn with hn | hn
  · split at hn
    · simp at hn
      rw [hn]; exact (nodeF_get hnode).2.2.2.1
    · cases hn
  · obtain ⟨a, h1, h2⟩ := namLs_ex hn
    exact ih a h1 (hargs a h1) n h2
theorem typeF_mono {cols cols' : List Cl} {t : Tr} (hl : cols.length ≤ cols'.length) (hty : ∀ n : Nat, n < cols.length → (n : Int) ∈ namF t → (cols'.getD n default).ty = (cols.getD n default).ty) (h : (typeF cols t).2 = 0) : typeF cols' t = typeF cols t := by
  by_cases hf : formF t cols.length = true
  · obtain ⟨h1, h2⟩ := (formF_iff t _).1 hf
    have hf' : formF t cols'.length = true := (formF_iff t _).2 ⟨h1, fun n hn => by have := h2 n hn; omega⟩
    have hc : ∀ f, tyG cols' t f = tyG cols t f := tyG_congr t fun n hn => by
      have p := nam_nonneg t ((mayF_iff t).1 h1).1 n hn
      have q := h2 n hn
      exact hty n.toNat (by omega) (by rwa [Int.toNat_of_nonneg p])
    unfold typeF
    rw [if_pos hf, if_pos hf', hc]
  · unfold typeF at h
    rw [if_neg hf] at h
    exact absurd h (by decide)
def namesOf (r : Ru) : List Int := if r.k = 2 then namF r.ex else r.cols
theorem kmF_mono {L : List Int} {n m : Int} (h : n ≤ m) (hk : kmF L n = true) : kmF L m = true := by
  unfold kmF at hk ⊢
  simp only [decide_eq_true_eq] at hk ⊢
  exact ⟨hk.1, by omega, fun i hi => by have := hk.2.2 i hi; exact ⟨this.1, by omega, this.2.2⟩⟩
theorem fit_mono {r : Ru} {t t' : Ta} {u : Ru} {o : Ta} (hnm : t'.nm = t.nm) (hl : t.cols.length ≤ t'.cols.length) (hty : ∀ n : Nat, n < t.cols.length → (n : Int) ∈ namesOf r → (t'.cols.getD n default).ty = (t.cols.getD n default).ty)
    (h : fitF r t u o = 0) : fitF r t' u o = 0 := by
  unfold fitF at h ⊢
  rw [hnm]
  split at h
  · cases h
  rename_i c1
  rw [if_neg c1]
  unfold namesOf at hty
  split at h
  · rename_i c2
    rw [if_pos c2]
    rw [if_pos c2] at hty
    unfold chkF at h ⊢
    split at h
    · rename_i c3
      rw [typeF_mono hl hty c3, if_pos c3]; exact h
    · rename_i c3; exact absurd h c3
  · rename_i c2
    rw [if_neg c2]
    rw [if_neg c2] at hty
    split at h
    · cases h
    rename_i c3
    have hk : kmF r.cols t.cols.length = true := by
      cases hc : kmF r.cols t.cols.length with
      | true => rfl
      | false => exact absurd (.inl hc) c3
    have hk' : kmF r.cols t'.cols.length = true := kmF_mono (by omega) hk
    have hok := kmF_ok hk
    have hkind : ∀ i : Nat, i < r.cols.length → kindF r t' i = kindF r t i := fun i hi => by
      obtain ⟨p, q⟩ := hok i hi
      unfold kindF
      rw [Int.toNat_natCast]
      refine hty _ (by omega) ?_
      rw [Int.toNat_of_nonneg p]
      exact getD_mem hi
    rw [if_neg (by rintro (a | a); · rw [hk'] at a; cases a
                   · exact c3 (.inr a))]
    have h0 : 0 < r.cols.length := by
      unfold kmF at hk
      simp only [decide_eq_true_eq] at hk
      exact hk.1
    have hlast : kindF r t' ((r.cols.length : Int) - 1) = kindF r t ((r.cols.length : Int) - 1) := by
      have := hkind (r.cols.length - 1) (by omega)
      rwa [show ((r.cols.length - 1 : Nat) : Int) = (r.cols.length : Int) - 1 by omega] at this
    rw [hlast]
    split at h
    · cases h
    rename_i c4
    rw [if_neg c4]
    split at h
    · rename_i c5
      rw [if_pos c5]
      unfold refF at h ⊢
      split at h
      · cases h
      rename_i c6
      rw [if_neg c6]
      split at h
      · rename_i c7
        rw [if_pos fun i hi => by rw [hkind i hi]; exact c7 i hi]
      · cases h
    · rename_i c5
      rw [if_neg c5]
theorem getD_app {α : Type} [Inhabited α] (L M : List α) (n : Nat) (h : n < L.length) : (L ++ M).getD n default = L.getD n default := by
  simp [List.getD_eq_getElem?_getD, List.getElem?_append_left h]
theorem fit_more {r : Ru} {t : Ta} {u : Ru} {o : Ta} (x : Cl) (h : fitF r t u o = 0) : fitF r ⟨t.nm, t.cols ++ [x], t.ow⟩ u o = 0 :=
  fit_mono (t := t) (t' := ⟨t.nm, t.cols ++ [x], t.ow⟩) rfl (by simp) (fun n hn _ => by show ((t.cols ++ [x]).getD n default).ty = _; rw [getD_app _ _ _ hn]) h
theorem hasN_iff {L : List Cl} {x : ByteArray} : hasN L x = false ↔ ∀ d ∈ L, d.nm ≠ x := by
  unfold hasN
  rw [List.any_eq_false]
  simp
theorem okL_sub {L M : List Cl} {c : Cl} (hs : ∀ d ∈ M, d ∈ L) (h : okL L c = true) : okL M c = true := by
  unfold okL at h ⊢
  simp only [Bool.and_eq_true, Bool.not_eq_true'] at h ⊢
  exact ⟨hasN_iff.2 fun d hd => hasN_iff.1 h.1 d (hs d hd), h.2⟩
theorem mt_less {t : Ta} (h : mtF t = true) (h1 : 1 < t.cols.length) (k : Nat) (hk : k < t.cols.length) : mtF ⟨t.nm, t.cols.take k ++ t.cols.drop (k + 1), t.ow⟩ = true := by
  unfold mtF at h ⊢
  simp only [decide_eq_true_eq] at h ⊢
  obtain ⟨a, b, c, d, e⟩ := h
  have hlen : (t.cols.take k ++ t.cols.drop (k + 1)).length = t.cols.length - 1 := by simp; omega
  refine ⟨a, b, by omega, by omega, fun i hi => ?_⟩
  rw [hlen] at hi
  by_cases c : i < k
  · have e1 : (t.cols.take k ++ t.cols.drop (k + 1)).getD i default = t.cols.getD i default := by
      rw [getD_app _ _ _ (by simp; omega)]
      simp [List.getD_eq_getElem?_getD, List.getElem?_take, c]
    have e2 : (t.cols.take k ++ t.cols.drop (k + 1)).take i = t.cols.take i := by
      rw [List.take_append_of_le_length (by simp; omega), List.take_take, Nat.min_eq_left (by omega)]
    rw [e1, e2]
    exact e i (by omega)
  · have e1 : (t.cols.take k ++ t.cols.drop (k + 1)).getD i default = t.cols.getD (i + 1) default := by
      have : (t.cols.take k).length = k := by simp; omega
      rw [List.getD_eq_getElem?_getD, List.getElem?_append_right (by omega), this, List.getElem?_drop, show k + 1 + (i - k) = i + 1 by omega, List.getD_eq_getElem?_getD]
    rw [e1]
    refine okL_sub (L := t.cols.take (i + 1)) (fun x hx => ?_) (e (i + 1) (by omega))
    obtain ⟨j, hj, rfl⟩ := List.getElem_of_mem hx
    simp at hj
    rw [List.getElem_take]
    by_cases cj : j < k
    · rw [List.getElem_append_left (by simp; omega), List.getElem_take]
      exact List.mem_take_iff_getElem.2 ⟨j, by omega, rfl⟩
    · rw [List.getElem_append_right (by simp; omega), List.getElem_drop]
      have : (t.cols.take k).length = k := by simp; omega
      exact List.mem_take_iff_getElem.2 ⟨k + 1 + (j - (t.cols.take k).length), by omega, rfl⟩
end Go.Proofs.YtengccmjlaejfaaDoor
end
