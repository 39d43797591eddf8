/- The columns that a rule names: the program's Names. No condition. -/
import Derived.Test.YtengccmjlaejfaaDoorMg26
import Derived.Test.YtengccmjlaejfaaDoorRlC
section
namespace Go.Proofs.YtengccmjlaejfaaDoor
open Ev Go.RowKit
set_option maxRecDepth 100000
set_option linter.unusedVariables false
def namesF (r : Ru) : List Int := if r.k = 2 then colsF r.ex else Lib.compact (sortI r.cols)
noncomputable def cnX : SumBr := obX Tryd.prog 29 (AKs.cons (aL Int) AKs.nil) fun z => .leaf (.osl 65536 z.1.length, [iR z.1])
noncomputable def nasX : SumBr := orX clX (orX cnX (orX soX coX))
theorem nasX_ok : SumGO Tryd.prog (sumS nasX) := orX_open (obX_ok (by kernel_rfl)) (orX_open (obX_ok (by kernel_rfl)) (orX_open (obW_ok (by kernel_rfl)) (obW_ok (by kernel_rfl))))
def nas_cf : Nat → Cfg := cfL []
def nas_a (r : Ru) : List AV := [ruO r]
noncomputable def nas_t (P : Program) (r : Ru) : Br PO :=
(.test (r.k == 2)
  (.ob (ObE (trO r.ex)   (trA (trD (trO r.ex))))
    (.ob (ObC Tryd.prog 28 [trA (trD (trO r.ex))]   (AV.osl 65536 (colsF (trD (trO r.ex))).length)   [iR (colsF (trD (trO r.ex)))])
      (.leaf (.fin ⟨Ex.ret, true, [some (AV.osl 65536 (colsF (trD (trO r.ex))).length)], [OS.o   (AO.rows (eL (colsF (trD (trO r.ex))))     (colsF (trD (trO r.ex))).length [TK.int IntKind.i64])]⟩))
    )
  )
  (.ob (ObC Tryd.prog 29 [AV.fz (eL (dL Int (eL r.cols) r.cols.length)) (dL Int (eL r.cols) r.cols.length).length (Rec.ks Int)] (AV.osl 65536 (dL Int (eL r.cols) r.cols.length).length) [iR (dL Int (eL r.cols) r.cols.length)])
    (.ob (ObO [OS.o (AO.rows (eL (dL Int (eL r.cols) r.cols.length)) (dL Int (eL r.cols) r.cols.length).length [TK.int IntKind.i64])] [iR (dL Int (eL (dL Int (eL r.cols) r.cols.length)) (dL Int (eL r.cols) r.cols.length).length)])
      (.ob (ObW Tryd.prog 1 30 [AV.osl 65536 (dL Int (eL r.cols) r.cols.length).length] [iR (dL Int (eL (dL Int (eL r.cols) r.cols.length)) (dL Int (eL r.cols) r.cols.length).length)] (AV.v (Value.tuple { toList := [] })) [iR (sortI (dL Int (eL (dL Int (eL r.cols) r.cols.length)) (dL Int (eL r.cols) r.cols.length).length))])
        (.ob (ObO [OS.o (AO.rows (eL (sortI (dL Int (eL (dL Int (eL r.cols) r.cols.length)) (dL Int (eL r.cols) r.cols.length).length))) (sortI (dL Int (eL (dL Int (eL r.cols) r.cols.length)) (dL Int (eL r.cols) r.cols.length).length)).length [TK.int IntKind.i64])]   [iR (dL Int (eL (sortI (dL Int (eL (dL Int (eL r.cols) r.cols.length)) (dL Int (eL r.cols) r.cols.length).length))) (sortI (dL Int (eL (dL Int (eL r.cols) r.cols.length)) (dL Int (eL r.cols) r.cols.length).length)).length)])
          (.ob (ObW Tryd.prog 1 31 [AV.osl 65536 (dL Int (eL r.cols) r.cols.length).length] [iR (dL Int (eL (sortI (dL Int (eL (dL Int (eL r.cols) r.cols.length)) (dL Int (eL r.cols) r.cols.length).length))) (sortI (dL Int (eL (dL Int (eL r.cols) r.cols.length)) (dL Int (eL r.cols) r.cols.length).length)).length)]   (AV.osl 65536 (Lib.compact (dL Int (eL (sortI (dL Int (eL (dL Int (eL r.cols) r.cols.length, ()).fst) (dL Int (eL r.cols) r.cols.length, ()).fst.length))) (sortI (dL Int (eL (dL Int (eL r.cols) r.cols.length, ()).fst) (dL Int (eL r.cols) r.cols.length, ()).fst.length)).length)).length)   [iR (Lib.compact (dL Int (eL (sortI (dL Int (eL (dL Int (eL r.cols) r.cols.length, ()).fst) (dL Int (eL r.cols) r.cols.length, ()).fst.length))) (sortI (dL Int (eL (dL Int (eL r.cols) r.cols.length, ()).fst) (dL Int (eL r.cols) r.cols.length, ()).fst.length)).length))])
            (.leaf (.fin ⟨Ex.ret, true, [some (AV.osl 65536 (Lib.compact (dL Int (eL (sortI (dL Int (eL (dL Int (eL r.cols) r.cols.length, ()).fst) (dL Int (eL r.cols) r.cols.length, ()).fst.length))) (sortI (dL Int (eL (dL Int (eL r.cols) r.cols.length, ()).fst) (dL Int (eL r.cols) r.cols.length, ()).fst.length)).length)).length)], [OS.o   (AO.rows (eL (Lib.compact (dL Int (eL (sortI (dL Int (eL (dL Int (eL r.cols) r.cols.length, ()).fst) (dL Int (eL r.cols) r.cols.length, ()).fst.length))) (sortI (dL Int (eL (dL Int (eL r.cols) r.cols.length, ()).fst) (dL Int (eL r.cols) r.cols.length, ()).fst.length)).length)))     (Lib.compact (dL Int (eL (sortI (dL Int (eL (dL Int (eL r.cols) r.cols.length, ()).fst) (dL Int (eL r.cols) r.cols.length, ()).fst.length))) (sortI (dL Int (eL (dL Int (eL r.cols) r.cols.length, ()).fst) (dL Int (eL r.cols) r.cols.length, ()).fst.length)).length)).length [TK.int IntKind.i64])]⟩))
          )
        )
      )
    )
  )
)
theorem nas_h (r : Ru) : (ev Tryd.prog nasX noS 3000 noL 3000 .normal [.c 0 (codeOf Tryd.prog 14)] (params (nas_a r)) Ev.start).map (lookP Tryd.prog (resOf Tryd.prog 14) [[]] nas_cf) = nas_t Tryd.prog r := by kernel_rfl

theorem nas_ok (r : Ru) (h1 : r.k = 2 → cntF r.ex ≤ 100000) (h2 : r.cols.length ≤ 100000) : OCalls Tryd.prog 14 [ruA r] (.osl 65536 (namesF r).length) [iR (namesF r)] := by
  refine OCalls.le (args := nas_a r) ?_ (.cons _ _ _ _ (ruO_le r) .nil)
  refine floyd0 ev_mix ev_ok nasX_ok noSQ (by kernel_rfl) [[]] nas_cf (nas_t _ r) (nas_h r) ?_
  unfold nas_t
  simp only [trD_B, dL_eL]
  have g2 := sort_ok r.cols (by omega)
  have g3 := comp_ok (sortI r.cols) (by rw [sortI_len]; omega)
  refine ⟨fun h => ?_, fun h => ?_⟩
  · have h : r.k = 2 := by simpa using h
    have e : namesF r = colsF r.ex := by unfold namesF; rw [if_pos h]
    rw [e]
    exact hOB (hO ⟨cl_ok _ (h1 h)⟩ ⟨rfl, (.cons _ _ _ _ (.refl _) .nil), (.cons _ _ _ _ (by first | exact OLe.same _ _ _ | exact OLe.cells _ _ _ _ _ _ _ (Les.refl _) | exact OLe.cells _ _ _ _ _ _ _ (.cons _ _ _ _ (.xsf _ _ _) (.cons _ _ _ _ (.xsf _ _ _) .nil)) | exact OLe.cells _ _ _ _ _ _ _ (.cons _ _ _ _ (.xso _ _) (.cons _ _ _ _ (.xso _ _) .nil)) |  exact OLe.nil _ _) .nil)⟩)
  · have h : r.k ≠ 2 := by simpa using h
    have e : namesF r = Lib.compact (sortI r.cols) := by unfold namesF; rw [if_neg h]
    rw [e]
    refine hO ⟨clone_ok _ (by omega)⟩ (hO ⟨(.cons _ _ _ _ (by first | exact OLe.same _ _ _ | exact OLe.cells _ _ _ _ _ _ _ (Les.refl _) | exact OLe.cells _ _ _ _ _ _ _ (.cons _ _ _ _ (.xsf _ _ _) (.cons _ _ _ _ (.xsf _ _ _) .nil)) | exact OLe.cells _ _ _ _ _ _ _ (.cons _ _ _ _ (.xso _ _) (.cons _ _ _ _ (.xso _ _) .nil)) |  exact OLe.nil _ _) .nil)⟩ (hO ⟨g2⟩ (hO ⟨(.cons _ _ _ _ (by first | exact OLe.same _ _ _ | exact OLe.cells _ _ _ _ _ _ _ (Les.refl _) | exact OLe.cells _ _ _ _ _ _ _ (.cons _ _ _ _ (.xsf _ _ _) (.cons _ _ _ _ (.xsf _ _ _) .nil)) | exact OLe.cells _ _ _ _ _ _ _ (.cons _ _ _ _ (.xso _ _) (.cons _ _ _ _ (.xso _ _) .nil)) |  exact OLe.nil _ _) .nil)⟩ (hO ⟨g3.le (.cons _ _ _ _ (.ofEq (by rw [sortI_len])) .nil)⟩ ?_))))
    exact ⟨rfl, (.cons _ _ _ _ (.refl _) .nil), (.cons _ _ _ _ (by first | exact OLe.same _ _ _ | exact OLe.cells _ _ _ _ _ _ _ (Les.refl _) | exact OLe.cells _ _ _ _ _ _ _ (.cons _ _ _ _ (.xsf _ _ _) (.cons _ _ _ _ (.xsf _ _ _) .nil)) | exact OLe.cells _ _ _ _ _ _ _ (.cons _ _ _ _ (.xso _ _) (.cons _ _ _ _ (.xso _ _) .nil)) |  exact OLe.nil _ _) .nil)⟩
theorem cmp_facts (L : List Int) : (Lib.compact (sortI L)).Pairwise (· < ·) ∧ ∀ x, x ∈ Lib.compact (sortI L) ↔ x ∈ L := by
  obtain ⟨h1, h2⟩ := compact_facts (sortI_le L) _ (Nat.le_refl _)
  refine ⟨h1, fun x => ?_⟩
  show x ∈ Lib.compactUpTo _ _ ↔ _
  rw [h2, ← mem_sortI (L := L)]
  constructor
  · rintro ⟨j, hj, rfl⟩
    rw [List.getD_eq_getElem?_getD, List.getElem?_eq_getElem hj]
    exact List.getElem_mem _
  · intro h
    obtain ⟨j, hj, rfl⟩ := List.getElem_of_mem h
    exact ⟨j, hj, by simp [List.getD_eq_getElem?_getD, hj]⟩
theorem namesF_facts (r : Ru) : (namesF r).Pairwise (· < ·) ∧ ∀ x, x ∈ namesF r ↔ x ∈ namesOf r := by
  unfold namesF namesOf
  split
  · exact colsF_facts r.ex
  · exact cmp_facts r.cols
end Go.Proofs.YtengccmjlaejfaaDoor
end
section
namespace Go.Proofs.YtengccmjlaejfaaDoor
open Ev Go.RowKit
set_option maxRecDepth 100000
set_option linter.unusedVariables false
def gB : D → Bool
  | .v (.bool s) => s
  | _ => false
instance : Rec Bool where
  ks := [.bool]
  enc s _ := .v (.bool s)
  dec g := gB (g 0)
  fit a c tk h := by
    match c with
    | 0 => simp at h; subst h; rfl
    | c + 1 => simp at h
  dec_enc a := rfl
  enc_dec g h c hc := by
    match c, hc with
    | 0, _ =>
      have := h 0 .bool rfl
      cases hg : g 0 with
      | v x => rw [hg] at this; cases x <;> simp_all [TK.fit, gB]
      | l f n ks => rw [hg] at this; cases this
noncomputable def namX : SumBr := obX Tryd.prog 14 (AKs.cons aRq AKs.nil) fun z => .leaf (.osl 65536 (namesF z.1).length, [iR (namesF z.1)])
noncomputable def rnX : SumBr := orX baX namX
def boxR (r : Ru) : AO := .cells [.s (.int .u8 r.k), .s (.string r.nm), .s (.string r.tb), .fz (eL r.cols) r.cols.length [.int .i64], .s (.int .u8 r.ex.op), .s (.int .u8 r.ex.k), .s (.int .i64 r.ex.vn), .s (.int .i64 r.ex.hi), .s (.string r.ex.t), .s (.int .i64 r.ex.n), .fz (eT r.ex.args) r.ex.args.length ksE, .s (.string r.rf), .s (.int .u8 r.od), .s (.int .u8 r.ou), .s (.bool r.lt), .s (.bool r.vd)] 16 0 true false
def boxC (c : Cl) : AO := .cells [.s (.string c.nm), .s (.int .u8 c.ty), .s (.int .u8 c.by1.k), .s (.int .i64 c.by1.n), .s (.int .i64 c.by1.hi), .s (.string c.by1.t)] 6 0 true false
def bR (bs : List Bool) (n : Nat) : AO := .rows (eL bs) n [.bool]
theorem rnX_ok : SumGO Tryd.prog (sumS rnX) := orX_open baX_ok (obX_ok (by kernel_rfl))
def rna_cf : Nat → Cfg := cfL [mkC 138 [4, 6, 7, 8, 9, 11, 13, 14, 15] [(6, []), (7, []), (8, []), (9, []), (11, []), (13, []), (14, [])]]
def rna_a (r : Ru) (t : Ta) (u : Ru) (o : Ta) (at1 : Int) (x : Cl) : List AV := [ruO r, taA t, ruO u, taA o, .s (.int .i64 at1), clA x]
noncomputable def rna_t (P : Program) (r : Ru) (t : Ta) (u : Ru) (o : Ta) (at1 : Int) (x : Cl) : Br PO :=
(.ob (ObC Tryd.prog 12 [taA { nm := t.nm, cols := dL Cl (eL t.cols) t.cols.length, ow := t.ow }] (AV.s (Value.bool (wiF { nm := t.nm, cols := dL Cl (eL t.cols) t.cols.length, ow := t.ow }))) [])
  (.test (wiF { nm := t.nm, cols := dL Cl (eL t.cols) t.cols.length, ow := t.ow })
    (.leaf (.fin ⟨Ex.ret, true, [some (AV.s (Value.bool true))], []⟩))
    (.ob (ObC Tryd.prog 12 [taA { nm := o.nm, cols := dL Cl (eL o.cols) o.cols.length, ow := o.ow }] (AV.s (Value.bool (wiF { nm := o.nm, cols := dL Cl (eL o.cols) o.cols.length, ow := o.ow }))) [])
      (.test (wiF { nm := o.nm, cols := dL Cl (eL o.cols) o.cols.length, ow := o.ow })
        (.leaf (.fin ⟨Ex.ret, true, [some (AV.s (Value.bool true))], []⟩))
        (.ob (ObE (trO r.ex)   (trA (trD (trO r.ex))))
          (.ob (ObC Tryd.prog 13   [ruA       { k := r.k, nm := r.nm, tb := r.tb, cols := dL Int (eL r.cols) r.cols.length, ex := trD (trO r.ex), rf := r.rf, od := r.od,         ou := r.ou, lt := r.lt, vd := r.vd }]   (AV.s     (Value.bool       (loF         { k := r.k, nm := r.nm, tb := r.tb, cols := dL Int (eL r.cols) r.cols.length, ex := trD (trO r.ex), rf := r.rf,           od := r.od, ou := r.ou, lt := r.lt, vd := r.vd })))   [])
            (.test (loF   { k := r.k, nm := r.nm, tb := r.tb, cols := dL Int (eL r.cols) r.cols.length, ex := trD (trO r.ex), rf := r.rf, od := r.od,     ou := r.ou, lt := r.lt, vd := r.vd })
              (.leaf (.fin ⟨Ex.ret, true, [some (AV.s (Value.bool true))], []⟩))
              (.ob (ObE (trO u.ex)   (trA (trD (trO u.ex))))
                (.ob (ObC Tryd.prog 13   [ruA       { k := u.k, nm := u.nm, tb := u.tb, cols := dL Int (eL u.cols) u.cols.length, ex := trD (trO u.ex), rf := u.rf, od := u.od,         ou := u.ou, lt := u.lt, vd := u.vd }]   (AV.s     (Value.bool       (loF         { k := u.k, nm := u.nm, tb := u.tb, cols := dL Int (eL u.cols) u.cols.length, ex := trD (trO u.ex), rf := u.rf,           od := u.od, ou := u.ou, lt := u.lt, vd := u.vd })))   [])
                  (.test (loF   { k := u.k, nm := u.nm, tb := u.tb, cols := dL Int (eL u.cols) u.cols.length, ex := trD (trO u.ex), rf := u.rf, od := u.od,     ou := u.ou, lt := u.lt, vd := u.vd })
                    (.leaf (.fin ⟨Ex.ret, true, [some (AV.s (Value.bool true))], []⟩))
                    (.test (decide ((↑x.nm.size : Int) > 200))
                      (.leaf (.fin ⟨Ex.ret, true, [some (AV.s (Value.bool true))], []⟩))
                      (.test (decide ((↑x.by1.t.size : Int) > 1000))
                        (.leaf (.fin ⟨Ex.ret, true, [some (AV.s (Value.bool true))], []⟩))
                        (.test (false)
                          (.leaf (.fin ⟨Ex.ret, true, [some (AV.s (Value.bool true))], []⟩))
                          (.ob (ObE (trO r.ex)   (trA (trD (trO r.ex))))
                            (.ob (ObE (trO u.ex)   (trA (trD (trO u.ex))))
                              (.ob (ObC Tryd.prog 10   [ruA       { k := r.k, nm := r.nm, tb := r.tb, cols := dL Int (eL r.cols) r.cols.length, ex := trD (trO r.ex), rf := r.rf, od := r.od,         ou := r.ou, lt := r.lt, vd := r.vd },     taA { nm := t.nm, cols := dL Cl (eL t.cols) t.cols.length, ow := t.ow },     ruA       { k := u.k, nm := u.nm, tb := u.tb, cols := dL Int (eL u.cols) u.cols.length, ex := trD (trO u.ex), rf := u.rf, od := u.od,         ou := u.ou, lt := u.lt, vd := u.vd },     taA { nm := o.nm, cols := dL Cl (eL o.cols) o.cols.length, ow := o.ow }]   (AV.s     (Value.int IntKind.i64       (fitF         { k := r.k, nm := r.nm, tb := r.tb, cols := dL Int (eL r.cols) r.cols.length, ex := trD (trO r.ex), rf := r.rf,           od := r.od, ou := r.ou, lt := r.lt, vd := r.vd }         { nm := t.nm, cols := dL Cl (eL t.cols) t.cols.length, ow := t.ow }         { k := u.k, nm := u.nm, tb := u.tb, cols := dL Int (eL u.cols) u.cols.length, ex := trD (trO u.ex), rf := u.rf,           od := u.od, ou := u.ou, lt := u.lt, vd := u.vd }         { nm := o.nm, cols := dL Cl (eL o.cols) o.cols.length, ow := o.ow })))   [])
                                (.test (fitF     { k := r.k, nm := r.nm, tb := r.tb, cols := dL Int (eL r.cols) r.cols.length, ex := trD (trO r.ex), rf := r.rf, od := r.od,       ou := r.ou, lt := r.lt, vd := r.vd }     { nm := t.nm, cols := dL Cl (eL t.cols) t.cols.length, ow := t.ow }     { k := u.k, nm := u.nm, tb := u.tb, cols := dL Int (eL u.cols) u.cols.length, ex := trD (trO u.ex), rf := u.rf, od := u.od,       ou := u.ou, lt := u.lt, vd := u.vd }     { nm := o.nm, cols := dL Cl (eL o.cols) o.cols.length, ow := o.ow } !=   0)
                                  (.leaf (.fin ⟨Ex.ret, true, [some (AV.v (Value.bool true))], []⟩))
                                  (.ob (ObE (trO r.ex)   (trA (trD (trO r.ex))))
                                    (.ob (ObC Tryd.prog 14   [ruA       { k := r.k, nm := r.nm, tb := r.tb, cols := dL Int (eL r.cols) r.cols.length, ex := trD (trO r.ex), rf := r.rf, od := r.od,         ou := r.ou, lt := r.lt, vd := r.vd }]   (AV.osl 65536     (namesF         { k := r.k, nm := r.nm, tb := r.tb, cols := dL Int (eL r.cols) r.cols.length, ex := trD (trO r.ex), rf := r.rf,           od := r.od, ou := r.ou, lt := r.lt, vd := r.vd }).length)   [iR       (namesF         { k := r.k, nm := r.nm, tb := r.tb, cols := dL Int (eL r.cols) r.cols.length, ex := trD (trO r.ex), rf := r.rf,           od := r.od, ou := r.ou, lt := r.lt, vd := r.vd })])
                                      (.test (decide (0 ≤ (↑t.cols.length : Int)) && decide ((↑t.cols.length : Int) = (↑t.cols.length : Int)) && (small (↑t.cols.length : Int).toNat && small (Tryd.prog.types[4].bytes * (↑t.cols.length : Int).toNat)))
                                        (.leaf (.at 0 (ct P 5 0).1 (ct P 5 0).2 ⟨Ex.normal, true, [some (AV.s (Value.int IntKind.i64 at1)), some (AV.ptr 65536 0 0), some (AV.ptr 65537 0 0), some (AV.ptr 65538 0 0), some (AV.ptr 65539 0 0), some (AV.ptr 65540 0 0), some   (AV.osl 65541     (namesF         { k := r.k, nm := r.nm, tb := r.tb, cols := dL Int (eL r.cols) r.cols.length, ex := trD (trO r.ex), rf := r.rf,           od := r.od, ou := r.ou, lt := r.lt, vd := r.vd }).length), some (AV.osl 65542 (↑t.cols.length : Int).toNat), some (AV.v (Value.int IntKind.i64 (0)))], [OS.o   (AO.cells     [AV.s (Value.int IntKind.u8 r.k), AV.s (Value.string r.nm), AV.s (Value.string r.tb), AV.fz (eL r.cols) r.cols.length [TK.int IntKind.i64], AV.s (Value.int IntKind.u8 r.ex.op), AV.s (Value.int IntKind.u8 r.ex.k), AV.s (Value.int IntKind.i64 r.ex.vn), AV.s (Value.int IntKind.i64 r.ex.hi), AV.s (Value.string r.ex.t), AV.s (Value.int IntKind.i64 r.ex.n),       AV.fz (eT r.ex.args) r.ex.args.length ksE, AV.s (Value.string r.rf), AV.s (Value.int IntKind.u8 r.od), AV.s (Value.int IntKind.u8 r.ou), AV.s (Value.bool r.lt), AV.s (Value.bool r.vd)]     16 65536 true false), OS.o (AO.cells [AV.s (Value.string t.nm), AV.fz (eL t.cols) t.cols.length cks, AV.s (Value.string t.ow)] 3 65537 true false), OS.o   (AO.cells     [AV.s (Value.int IntKind.u8 u.k), AV.s (Value.string u.nm), AV.s (Value.string u.tb), AV.fz (eL u.cols) u.cols.length [TK.int IntKind.i64], AV.s (Value.int IntKind.u8 u.ex.op), AV.s (Value.int IntKind.u8 u.ex.k), AV.s (Value.int IntKind.i64 u.ex.vn), AV.s (Value.int IntKind.i64 u.ex.hi), AV.s (Value.string u.ex.t), AV.s (Value.int IntKind.i64 u.ex.n),       AV.fz (eT u.ex.args) u.ex.args.length ksE, AV.s (Value.string u.rf), AV.s (Value.int IntKind.u8 u.od), AV.s (Value.int IntKind.u8 u.ou), AV.s (Value.bool u.lt), AV.s (Value.bool u.vd)]     16 65538 true false), OS.o (AO.cells [AV.s (Value.string o.nm), AV.fz (eL o.cols) o.cols.length cks, AV.s (Value.string o.ow)] 3 65539 true false), OS.o (AO.cells [AV.s (Value.string x.nm), AV.s (Value.int IntKind.u8 x.ty), AV.s (Value.int IntKind.u8 x.by1.k), AV.s (Value.int IntKind.i64 x.by1.n), AV.s (Value.int IntKind.i64 x.by1.hi), AV.s (Value.string x.by1.t)] 6 65540 true false), OS.o   (AO.rows     (eL       (namesF         { k := r.k, nm := r.nm, tb := r.tb, cols := dL Int (eL r.cols) r.cols.length, ex := trD (trO r.ex), rf := r.rf,           od := r.od, ou := r.ou, lt := r.lt, vd := r.vd }))     (namesF         { k := r.k, nm := r.nm, tb := r.tb, cols := dL Int (eL r.cols) r.cols.length, ex := trD (trO r.ex), rf := r.rf,           od := r.od, ou := r.ou, lt := r.lt, vd := r.vd }).length     [TK.int IntKind.i64]), OS.o (AO.rows (fun x x_1 => D.v (Value.bool false)) (↑t.cols.length : Int).toNat [TK.bool])]⟩))
                                        .no
                                      )
                                    )
                                  )
                                )
                              )
                            )
                          )
                        )
                      )
                    )
                  )
                )
              )
            )
          )
        )
      )
    )
  )
)
theorem rna_h (r : Ru) (t : Ta) (u : Ru) (o : Ta) (at1 : Int) (x : Cl) : (ev Tryd.prog rnX awakeS 3000 noL 3000 .normal [.c 0 (codeOf Tryd.prog 5)] (params (rna_a r t u o at1 x)) Ev.start).map (lookP Tryd.prog (resOf Tryd.prog 5) [] rna_cf) = rna_t Tryd.prog r t u o at1 x := by kernel_rfl
def rna_v0 (r : Ru) (t : Ta) (u : Ru) (o : Ta) (at1 : Int) (x : Cl) (L : List Int) (bs : List Bool) (i : Nat) : List AV := [.s (.int .i64 at1), .ptr 65536 0 0, .ptr 65537 0 0, .ptr 65538 0 0, .ptr 65539 0 0, .ptr 65540 0 0, .osl 65541 L.length, .osl 65542 t.cols.length, .s (.int .i64 i)]
def rna_o0 (r : Ru) (t : Ta) (u : Ru) (o : Ta) (at1 : Int) (x : Cl) (L : List Int) (bs : List Bool) (i : Nat) : List AO := [boxR r, boxT t, boxR u, boxT o, boxC x, iR L, bR bs t.cols.length]
noncomputable def rna_t0 (P : Program) (r : Ru) (t : Ta) (u : Ru) (o : Ta) (at1 : Int) (x : Cl) (L : List Int) (bs : List Bool) (i : Nat) : Br PO :=
(.test (decide ((↑i : Int) < (↑L.length : Int)))
  (.test (decide (0 ≤ (↑i : Int)) && decide ((↑i : Int) < (↑L.length : Int)))
    (.test ((↑i : Int).toNat.blt L.length)
      (.test (decide (L.getD (↑i : Int).toNat default < 0))
        (.leaf (.fin ⟨Ex.ret, true, [some (AV.v (Value.bool false))], []⟩))
        (.test (decide (0 ≤ (↑i : Int)) && decide ((↑i : Int) < (↑L.length : Int)))
          (.test ((↑i : Int).toNat.blt L.length)
            (.test (decide (L.getD (↑i : Int).toNat default ≥ (↑t.cols.length : Int)))
              (.leaf (.fin ⟨Ex.ret, true, [some (AV.v (Value.bool false))], []⟩))
              (.test (decide ((↑i : Int) > 0))
                (.test (decide (0 ≤ (↑i : Int)) && decide ((↑i : Int) < (↑L.length : Int)))
                  (.test ((↑i : Int).toNat.blt L.length)
                    (.test (decide (0 ≤ IntKind.i64.wrap ((↑i : Int) - 1)) && decide (IntKind.i64.wrap ((↑i : Int) - 1) < (↑L.length : Int)))
                      (.test ((IntKind.i64.wrap ((↑i : Int) - 1)).toNat.blt L.length)
                        (.test (decide (L.getD (↑i : Int).toNat default ≤ L.getD (IntKind.i64.wrap ((↑i : Int) - 1)).toNat default))
                          (.leaf (.fin ⟨Ex.ret, true, [some (AV.v (Value.bool false))], []⟩))
                          (.test (decide (0 ≤ (↑i : Int)) && decide ((↑i : Int) < (↑L.length : Int)))
                            (.test ((↑i : Int).toNat.blt L.length)
                              (.test (decide (0 ≤ L.getD (↑i : Int).toNat default) && decide (L.getD (↑i : Int).toNat default < (↑t.cols.length : Int)))
                                (.test ((L.getD (↑i : Int).toNat default).toNat.blt t.cols.length)
                                  (.leaf (.at 0 (ct P 5 0).1 (ct P 5 0).2 ⟨Ex.normal, true, [some (AV.s (Value.int IntKind.i64 at1)), some (AV.ptr 65536 0 0), some (AV.ptr 65537 0 0), some (AV.ptr 65538 0 0), some (AV.ptr 65539 0 0), some (AV.ptr 65540 0 0), some (AV.osl 65541 L.length), some (AV.osl 65542 t.cols.length), some (AV.s (Value.int IntKind.i64 (IntKind.i64.wrap ((↑i : Int) + 1))))], [OS.o   (AO.cells     [AV.s (Value.int IntKind.u8 r.k), AV.s (Value.string r.nm), AV.s (Value.string r.tb), AV.fz (eL r.cols) r.cols.length [TK.int IntKind.i64], AV.s (Value.int IntKind.u8 r.ex.op), AV.s (Value.int IntKind.u8 r.ex.k), AV.s (Value.int IntKind.i64 r.ex.vn), AV.s (Value.int IntKind.i64 r.ex.hi), AV.s (Value.string r.ex.t), AV.s (Value.int IntKind.i64 r.ex.n),       AV.fz (eT r.ex.args) r.ex.args.length ksE, AV.s (Value.string r.rf), AV.s (Value.int IntKind.u8 r.od), AV.s (Value.int IntKind.u8 r.ou), AV.s (Value.bool r.lt), AV.s (Value.bool r.vd)]     16 0 true false), OS.o (AO.cells [AV.s (Value.string t.nm), AV.fz (eL t.cols) t.cols.length cks, AV.s (Value.string t.ow)] 3 0 true false), OS.o   (AO.cells     [AV.s (Value.int IntKind.u8 u.k), AV.s (Value.string u.nm), AV.s (Value.string u.tb), AV.fz (eL u.cols) u.cols.length [TK.int IntKind.i64], AV.s (Value.int IntKind.u8 u.ex.op), AV.s (Value.int IntKind.u8 u.ex.k), AV.s (Value.int IntKind.i64 u.ex.vn), AV.s (Value.int IntKind.i64 u.ex.hi), AV.s (Value.string u.ex.t), AV.s (Value.int IntKind.i64 u.ex.n),       AV.fz (eT u.ex.args) u.ex.args.length ksE, AV.s (Value.string u.rf), AV.s (Value.int IntKind.u8 u.od), AV.s (Value.int IntKind.u8 u.ou), AV.s (Value.bool u.lt), AV.s (Value.bool u.vd)]     16 0 true false), OS.o (AO.cells [AV.s (Value.string o.nm), AV.fz (eL o.cols) o.cols.length cks, AV.s (Value.string o.ow)] 3 0 true false), OS.o (AO.cells [AV.s (Value.string x.nm), AV.s (Value.int IntKind.u8 x.ty), AV.s (Value.int IntKind.u8 x.by1.k), AV.s (Value.int IntKind.i64 x.by1.n), AV.s (Value.int IntKind.i64 x.by1.hi), AV.s (Value.string x.by1.t)] 6 0 true false), OS.o (AO.rows (eL L) L.length [TK.int IntKind.i64]), OS.o (AO.rows (updD (eL bs) (L.getD (↑i : Int).toNat default).toNat 0 [D.v (Value.bool true)]) t.cols.length [TK.bool])]⟩))
                                  .no
                                )
                                .no
                              )
                              .no
                            )
                            .no
                          )
                        )
                        .no
                      )
                      .no
                    )
                    .no
                  )
                  .no
                )
                (.test (decide (0 ≤ (↑i : Int)) && decide ((↑i : Int) < (↑L.length : Int)))
                  (.test ((↑i : Int).toNat.blt L.length)
                    (.test (decide (0 ≤ L.getD (↑i : Int).toNat default) && decide (L.getD (↑i : Int).toNat default < (↑t.cols.length : Int)))
                      (.test ((L.getD (↑i : Int).toNat default).toNat.blt t.cols.length)
                        (.leaf (.at 0 (ct P 5 0).1 (ct P 5 0).2 ⟨Ex.normal, true, [some (AV.s (Value.int IntKind.i64 at1)), some (AV.ptr 65536 0 0), some (AV.ptr 65537 0 0), some (AV.ptr 65538 0 0), some (AV.ptr 65539 0 0), some (AV.ptr 65540 0 0), some (AV.osl 65541 L.length), some (AV.osl 65542 t.cols.length), some (AV.s (Value.int IntKind.i64 (IntKind.i64.wrap ((↑i : Int) + 1))))], [OS.o   (AO.cells     [AV.s (Value.int IntKind.u8 r.k), AV.s (Value.string r.nm), AV.s (Value.string r.tb), AV.fz (eL r.cols) r.cols.length [TK.int IntKind.i64], AV.s (Value.int IntKind.u8 r.ex.op), AV.s (Value.int IntKind.u8 r.ex.k), AV.s (Value.int IntKind.i64 r.ex.vn), AV.s (Value.int IntKind.i64 r.ex.hi), AV.s (Value.string r.ex.t), AV.s (Value.int IntKind.i64 r.ex.n),       AV.fz (eT r.ex.args) r.ex.args.length ksE, AV.s (Value.string r.rf), AV.s (Value.int IntKind.u8 r.od), AV.s (Value.int IntKind.u8 r.ou), AV.s (Value.bool r.lt), AV.s (Value.bool r.vd)]     16 0 true false), OS.o (AO.cells [AV.s (Value.string t.nm), AV.fz (eL t.cols) t.cols.length cks, AV.s (Value.string t.ow)] 3 0 true false), OS.o   (AO.cells     [AV.s (Value.int IntKind.u8 u.k), AV.s (Value.string u.nm), AV.s (Value.string u.tb), AV.fz (eL u.cols) u.cols.length [TK.int IntKind.i64], AV.s (Value.int IntKind.u8 u.ex.op), AV.s (Value.int IntKind.u8 u.ex.k), AV.s (Value.int IntKind.i64 u.ex.vn), AV.s (Value.int IntKind.i64 u.ex.hi), AV.s (Value.string u.ex.t), AV.s (Value.int IntKind.i64 u.ex.n),       AV.fz (eT u.ex.args) u.ex.args.length ksE, AV.s (Value.string u.rf), AV.s (Value.int IntKind.u8 u.od), AV.s (Value.int IntKind.u8 u.ou), AV.s (Value.bool u.lt), AV.s (Value.bool u.vd)]     16 0 true false), OS.o (AO.cells [AV.s (Value.string o.nm), AV.fz (eL o.cols) o.cols.length cks, AV.s (Value.string o.ow)] 3 0 true false), OS.o (AO.cells [AV.s (Value.string x.nm), AV.s (Value.int IntKind.u8 x.ty), AV.s (Value.int IntKind.u8 x.by1.k), AV.s (Value.int IntKind.i64 x.by1.n), AV.s (Value.int IntKind.i64 x.by1.hi), AV.s (Value.string x.by1.t)] 6 0 true false), OS.o (AO.rows (eL L) L.length [TK.int IntKind.i64]), OS.o (AO.rows (updD (eL bs) (L.getD (↑i : Int).toNat default).toNat 0 [D.v (Value.bool true)]) t.cols.length [TK.bool])]⟩))
                        .no
                      )
                      .no
                    )
                    .no
                  )
                  .no
                )
              )
            )
            .no
          )
          .no
        )
      )
      .no
    )
    .no
  )
  (.test ((↑t.cols.length : Int) == 0)
    (.leaf (.fin ⟨Ex.ret, true, [some (AV.v (Value.bool true))], []⟩))
    (.test (decide (IntKind.u64.wrap (↑t.cols.length : Int) ≠ 0))
      (.test (decide (0 ≤ IntKind.i64.wrap ((IntKind.u64.wrap at1).tmod (IntKind.u64.wrap (↑t.cols.length : Int)))) && decide (IntKind.i64.wrap ((IntKind.u64.wrap at1).tmod (IntKind.u64.wrap (↑t.cols.length : Int))) < (↑t.cols.length : Int)))
        (.test ((IntKind.i64.wrap ((IntKind.u64.wrap at1).tmod (IntKind.u64.wrap (↑t.cols.length : Int)))).toNat.blt t.cols.length)
          (.test (bs.getD (IntKind.i64.wrap ((IntKind.u64.wrap at1).tmod (IntKind.u64.wrap (↑t.cols.length : Int)))).toNat default)
            (.leaf (.fin ⟨Ex.ret, true, [some (AV.v (Value.bool true))], []⟩))
            (.test (small t.cols.length && small (Tryd.prog.types[33].bytes * t.cols.length))
              (.test (decide (0 ≤ IntKind.i64.wrap ((IntKind.u64.wrap at1).tmod (IntKind.u64.wrap (↑t.cols.length : Int)))) && decide (IntKind.i64.wrap ((IntKind.u64.wrap at1).tmod (IntKind.u64.wrap (↑t.cols.length : Int))) < (↑t.cols.length : Int)))
                (.test ((IntKind.i64.wrap ((IntKind.u64.wrap at1).tmod (IntKind.u64.wrap (↑t.cols.length : Int)))).toNat.blt t.cols.length)
                  (.test (t.cols.length.ble t.cols.length)
                    (.ob (ObE (trO r.ex)   (trA (trD (trO r.ex))))
                      (.ob (ObE (trO u.ex)   (trA (trD (trO u.ex))))
                        (.ob (ObC Tryd.prog 10   [ruA       { k := r.k, nm := r.nm, tb := r.tb, cols := dL Int (eL r.cols) r.cols.length, ex := trD (trO r.ex), rf := r.rf, od := r.od,         ou := r.ou, lt := r.lt, vd := r.vd },     taA { nm := t.nm, cols := dL Cl (updD (eL t.cols) (IntKind.i64.wrap ((IntKind.u64.wrap at1).tmod (IntKind.u64.wrap (↑t.cols.length : Int)))).toNat 0 [D.v (Value.string x.nm), D.v (Value.int IntKind.u8 x.ty), D.v (Value.int IntKind.u8 x.by1.k), D.v (Value.int IntKind.i64 x.by1.n), D.v (Value.int IntKind.i64 x.by1.hi), D.v (Value.string x.by1.t)]) t.cols.length, ow := t.ow },     ruA       { k := u.k, nm := u.nm, tb := u.tb, cols := dL Int (eL u.cols) u.cols.length, ex := trD (trO u.ex), rf := u.rf, od := u.od,         ou := u.ou, lt := u.lt, vd := u.vd },     taA { nm := o.nm, cols := dL Cl (eL o.cols) o.cols.length, ow := o.ow }]   (AV.s     (Value.int IntKind.i64       (fitF         { k := r.k, nm := r.nm, tb := r.tb, cols := dL Int (eL r.cols) r.cols.length, ex := trD (trO r.ex), rf := r.rf,           od := r.od, ou := r.ou, lt := r.lt, vd := r.vd }         { nm := t.nm, cols := dL Cl (updD (eL t.cols) (IntKind.i64.wrap ((IntKind.u64.wrap at1).tmod (IntKind.u64.wrap (↑t.cols.length : Int)))).toNat 0 [D.v (Value.string x.nm), D.v (Value.int IntKind.u8 x.ty), D.v (Value.int IntKind.u8 x.by1.k), D.v (Value.int IntKind.i64 x.by1.n), D.v (Value.int IntKind.i64 x.by1.hi), D.v (Value.string x.by1.t)]) t.cols.length, ow := t.ow }         { k := u.k, nm := u.nm, tb := u.tb, cols := dL Int (eL u.cols) u.cols.length, ex := trD (trO u.ex), rf := u.rf,           od := u.od, ou := u.ou, lt := u.lt, vd := u.vd }         { nm := o.nm, cols := dL Cl (eL o.cols) o.cols.length, ow := o.ow })))   [])
                          (.leaf (.fin ⟨Ex.ret, true, [some   (AV.s     (Value.bool       (fitF           { k := r.k, nm := r.nm, tb := r.tb, cols := dL Int (eL r.cols) r.cols.length, ex := trD (trO r.ex), rf := r.rf,             od := r.od, ou := r.ou, lt := r.lt, vd := r.vd }           { nm := t.nm, cols := dL Cl (updD (eL t.cols) (IntKind.i64.wrap ((IntKind.u64.wrap at1).tmod (IntKind.u64.wrap (↑t.cols.length : Int)))).toNat 0 [D.v (Value.string x.nm), D.v (Value.int IntKind.u8 x.ty), D.v (Value.int IntKind.u8 x.by1.k), D.v (Value.int IntKind.i64 x.by1.n), D.v (Value.int IntKind.i64 x.by1.hi), D.v (Value.string x.by1.t)]) t.cols.length, ow := t.ow }           { k := u.k, nm := u.nm, tb := u.tb, cols := dL Int (eL u.cols) u.cols.length, ex := trD (trO u.ex), rf := u.rf,             od := u.od, ou := u.ou, lt := u.lt, vd := u.vd }           { nm := o.nm, cols := dL Cl (eL o.cols) o.cols.length, ow := o.ow } ==         0)))], []⟩))
                        )
                      )
                    )
                    .no
                  )
                  .no
                )
                .no
              )
              .no
            )
          )
          .no
        )
        .no
      )
      .no
    )
  )
)
theorem rna_h0 (r : Ru) (t : Ta) (u : Ru) (o : Ta) (at1 : Int) (x : Cl) (L : List Int) (bs : List Bool) (i : Nat) (j : Nat → Value) : (ev Tryd.prog rnX awakeS 3000 noL 3000 .normal (hd Tryd.prog 5 0) (mkE (rna_cf 0) (rna_v0 r t u o at1 x L bs i) j) (mkH openB (rna_o0 r t u o at1 x L bs i))).map (lookP Tryd.prog (resOf Tryd.prog 5) [] rna_cf) = rna_t0 Tryd.prog r t u o at1 x L bs i := by kernel_rfl

theorem fit_range {r : Ru} {t : Ta} {u : Ru} {o : Ta} (h : fitF r t u o = 0) : (∀ n ∈ namesOf r, 0 ≤ n ∧ n < (t.cols.length : Int)) ∧ (r.k = 2 → mayF r.ex = true) := by
  unfold fitF at h
  split at h
  · cases h
  split at h
  · rename_i c2
    unfold chkF at h
    split at h
    · rename_i c3
      have hf : formF r.ex t.cols.length = true := by
        cases hc : formF r.ex t.cols.length with
        | true => rfl
        | false => unfold typeF at c3; rw [if_neg (by rw [hc]; simp)] at c3; exact absurd c3 (by decide)
      obtain ⟨h1, h2⟩ := (formF_iff r.ex _).1 hf
      refine ⟨fun n hn => ?_, fun _ => h1⟩
      unfold namesOf at hn
      rw [if_pos c2] at hn
      exact ⟨nam_nonneg r.ex ((mayF_iff r.ex).1 h1).1 n hn, h2 n hn⟩
    · rename_i c3; exact absurd h c3
  · rename_i c2
    split at h
    · cases h
    rename_i c3
    have hk : kmF r.cols t.cols.length = true := by
      cases hc : kmF r.cols t.cols.length with
      | true => rfl
      | false => exact absurd (.inl hc) c3
    refine ⟨fun n hn => ?_, fun x => absurd x c2⟩
    unfold namesOf at hn
    rw [if_neg c2] at hn
    obtain ⟨i, hi, rfl⟩ := List.getElem_of_mem hn
    have := kmF_ok hk i hi
    rwa [List.getD_eq_getElem?_getD, List.getElem?_eq_getElem hi] at this
theorem getD_set {α : Type} [Inhabited α] (L : List α) (k i : Nat) (x : α) (h : i < L.length) : (L.set k x).getD i default = if i = k then x else L.getD i default := by
  rw [List.getD_eq_getElem?_getD, List.getElem?_eq_getElem (by simpa using h), Option.getD_some, List.getElem_set, List.getD_eq_getElem?_getD, List.getElem?_eq_getElem h, Option.getD_some]
  by_cases c : k = i
  · rw [if_pos c, if_pos c.symm]
  · rw [if_neg c, if_neg fun x => c x.symm]
theorem dL_set (M : List Cl) (k : Nat) (x : Cl) : dL Cl (updD (eL M) k 0 (moreD x)) M.length = M.set k x := by
  apply List.ext_getElem
  · simp [dL]
  · intro i h1 h2
    have h1' : i < M.length := by simpa [dL] using h1
    have hg : (M.set k x)[i] = (M.set k x).getD i default := by rw [List.getD_eq_getElem?_getD, List.getElem?_eq_getElem h2, Option.getD_some]
    rw [hg, getD_set M k i x h1']
    simp only [dL, List.getElem_map, List.getElem_range]
    by_cases c : i = k
    · subst c
      rw [if_pos rfl]
      have e : ∀ d, d < 6 → updD (eL M) i 0 (moreD x) i d = (moreD x).getD d (.v undef) := fun d hd => by
        have e1 : Nat.beq i i = true := Nat.beq_refl i
        have e2 : Nat.ble 0 d = true := Nat.ble_eq.mpr (Nat.zero_le _)
        have e3 : Nat.blt d (0 + (moreD x).length) = true := by rw [Nat.blt_eq]; exact hd
        simp only [updD, e1, e2, e3, Bool.and_self, cond_true, Nat.sub_zero]
      show (⟨gS (updD (eL M) i 0 (moreD x) i 0), gI (updD (eL M) i 0 (moreD x) i 1), ⟨gI (updD (eL M) i 0 (moreD x) i 2), gI (updD (eL M) i 0 (moreD x) i 3), gI (updD (eL M) i 0 (moreD x) i 4), gS (updD (eL M) i 0 (moreD x) i 5)⟩⟩ : Cl) = x
      rw [e 0 (by omega), e 1 (by omega), e 2 (by omega), e 3 (by omega), e 4 (by omega), e 5 (by omega)]
      rfl
    · rw [if_neg c]
      have e1 : Nat.beq i k = false := by
        cases hb : Nat.beq i k with
        | false => rfl
        | true => exact absurd (Nat.eq_of_beq_eq_true hb) c
      have e : updD (eL M) k 0 (moreD x) i = eL M i := by funext d; simp only [updD, e1, Bool.false_and, cond_false]
      rw [e]
      exact Rec.dec_enc _
theorem bR_le (bs : List Bool) (n k : Nat) (h : bs.length = n) : OLe (.o (.rows (updD (eL bs) k 0 [D.v (Value.bool true)]) n [.bool])) (bR (bs.set k true) n) := by
  refine .rows _ _ _ _ fun i c hi hc => ?_
  have c0 : c = 0 := by simp at hc; omega
  subst c0
  show D.v (.bool ((bs.set k true).getD i default)) = _
  rw [getD_set bs k i true (by omega)]
  by_cases c : i = k
  · subst c
    have e1 : Nat.beq i i = true := Nat.beq_refl i
    rw [if_pos rfl]
    simp only [updD, e1, Bool.true_and]
    rfl
  · have e1 : Nat.beq i k = false := by
      cases hb : Nat.beq i k with
      | false => rfl
      | true => exact absurd (Nat.eq_of_beq_eq_true hb) c
    rw [if_neg c]
    simp only [updD, e1, Bool.false_and, cond_false]
    rfl
theorem bR_new (n : Nat) : OLe (.o (.rows (fun _ _ => D.v (Value.bool false)) n [.bool])) (bR (List.replicate n false) n) := by
  refine .rows _ _ _ _ fun i c hi hc => ?_
  show D.v (.bool ((List.replicate n false).getD i default)) = _
  simp [List.getD_eq_getElem?_getD, hi]
theorem boxR_le (r : Ru) (fam : Nat) (tip : Bool) : OLe (.o (.cells [.s (.int .u8 r.k), .s (.string r.nm), .s (.string r.tb), .fz (eL r.cols) r.cols.length [.int .i64], .s (.int .u8 r.ex.op), .s (.int .u8 r.ex.k), .s (.int .i64 r.ex.vn), .s (.int .i64 r.ex.hi), .s (.string r.ex.t), .s (.int .i64 r.ex.n), .fz (eT r.ex.args) r.ex.args.length ksE, .s (.string r.rf), .s (.int .u8 r.od), .s (.int .u8 r.ou), .s (.bool r.lt), .s (.bool r.vd)] 16 fam tip false)) (boxR r) := OLe.cells _ _ _ _ _ _ _ (Les.refl _)
theorem boxC_le (c : Cl) (fam : Nat) (tip : Bool) : OLe (.o (.cells [.s (.string c.nm), .s (.int .u8 c.ty), .s (.int .u8 c.by1.k), .s (.int .i64 c.by1.n), .s (.int .i64 c.by1.hi), .s (.string c.by1.t)] 6 fam tip false)) (boxC c) := OLe.cells _ _ _ _ _ _ _ (Les.refl _)
theorem boolB : Tryd.prog.types[4].bytes = 1 := by kernel_rfl
theorem lt_rise {L : List Int} (h : L.Pairwise (· < ·)) {i : Nat} (h0 : 0 < i) (hi : i < L.length) : L.getD (i - 1) default < L.getD i default := by
  rw [List.getD_eq_getElem?_getD, List.getElem?_eq_getElem (show i - 1 < L.length by omega), Option.getD_some, List.getD_eq_getElem?_getD, List.getElem?_eq_getElem hi, Option.getD_some]
  exact List.pairwise_iff_getElem.1 h (i - 1) i (by omega) hi (by omega)
theorem loF_cols {r : Ru} (h : loF r = false) : r.cols.length ≤ 60 := by
  unfold loF at h
  simp only [Bool.or_eq_false_iff, decide_eq_false_iff_not] at h
  omega
structure NaJ (r : Ru) (t : Ta) (u : Ru) (o : Ta) (bs : List Bool) (i : Nat) : Prop where
  n40 : t.cols.length ≤ 40
  l : (namesF r).length ≤ 9223372036854775807
  fit : fitF r t u o = 0
  il : i ≤ (namesF r).length
  bl : bs.length = t.cols.length
  b : ∀ j, j < i → bs.getD ((namesF r).getD j default).toNat default = true
theorem rna_ok (r : Ru) (t : Ta) (u : Ru) (o : Ta) (at1 : Int) (x : Cl) : OCalls Tryd.prog 5 [ruA r, taA t, ruA u, taA o, .s (.int .i64 at1), clA x] (.s (.bool true)) [] := by
  have yev : ∀ x, x = true → Goes ⟨.ret, true, [some (.v (.bool x))], []⟩ [.s (.bool true)] [] := fun x hx => ⟨rfl, (.cons _ _ _ _ (leBv hx.symm) .nil), .nil⟩
  have yes : ∀ x, x = true → Goes ⟨.ret, true, [some (.s (.bool x))], []⟩ [.s (.bool true)] [] := fun x hx => ⟨rfl, (.cons _ _ _ _ (leBs hx.symm) .nil), .nil⟩
  obtain ⟨rise, mem⟩ := namesF_facts r
  refine OCalls.le (args := rna_a r t u o at1 x) ?_ (.cons _ _ _ _ (ruO_le r) (.cons _ _ _ _ (.refl _) (.cons _ _ _ _ (ruO_le u) (Les.refl _))))
  refine floyd ev_mix ev_ok rnX_ok awakeS_ok (by kernel_rfl) [] rna_cf (fun s : List Bool × Nat => (namesF r).length - s.2) (fun _ => 0) (fun s => rna_v0 r t u o at1 x (namesF r) s.1 s.2) (fun s => rna_o0 r t u o at1 x (namesF r) s.1 s.2) (fun s => NaJ r t u o s.1 s.2) (fun s => rna_t0 _ r t u o at1 x (namesF r) s.1 s.2) (rna_t _ r t u o at1 x) (rna_h r t u o at1 x) (fun s j => rna_h0 r t u o at1 x (namesF r) s.1 s.2 j) ?_ ?_
  · unfold rna_t
    simp only [trD_B, dL_eL, ru_eta, ta_eta, Int.toNat_natCast]
    refine hO ⟨wi_ok _⟩ (hS (fun _ => yes _ rfl) fun w1 => hO ⟨wi_ok _⟩ (hS (fun _ => yes _ rfl) fun w2 => hOB (hO ⟨lo_ok _⟩ (hS (fun _ => yes _ rfl) fun l1 => hOB (hO ⟨lo_ok _⟩ (hS (fun _ => yes _ rfl) fun _ => hS (fun _ => yes _ rfl) fun _ => hS (fun _ => yes _ rfl) fun _ => hS (fun _ => yes _ rfl) fun _ => hOB (hOB (hO ⟨fi_ok _ _ _ _⟩ (hS (fun _ => yev _ rfl) fun h0 => ?_)))))))))
    have h0 : fitF r t u o = 0 := bne_eq_false_iff_eq.1 h0
    have hN := wiF_len w1
    have hC := loF_cols l1
    obtain ⟨_, hmay⟩ := fit_range h0
    have hl : (namesF r).length ≤ 1000000 := by
      unfold namesF
      split
      · rename_i c
        have := compact_len (sortI (namF r.ex))
        have h1 := sortI_len (namF r.ex)
        have h2 := namF_len r.ex
        have h3 := (mayF_iff r.ex).1 (hmay c)
        unfold colsF
        omega
      · have := compact_len (sortI r.cols)
        have h1 := sortI_len r.cols
        omega
    refine hOB (hO ⟨nas_ok r (fun c => by have := (mayF_iff r.ex).1 (hmay c); omega) (by omega)⟩ (hT ?_ ?_))
    · rw [boolB, small_ok (by omega), small_ok (by omega)]; simp
    · exact ⟨(List.replicate t.cols.length false, 0), ⟨hN, by omega, h0, Nat.zero_le _, by simp, fun j hj => absurd hj (Nat.not_lt_zero j)⟩, rfl, rfl, rfl, (.cons _ _ _ _ (.refl _) (.cons _ _ _ _ (.refl _) (.cons _ _ _ _ (.refl _) (.cons _ _ _ _ (.refl _) (.cons _ _ _ _ (.refl _) (.cons _ _ _ _ (.refl _) (.cons _ _ _ _ (.refl _) (.cons _ _ _ _ (.refl _) (.cons _ _ _ _ (.vs _) .nil))))))))), .cons _ _ _ _ (boxR_le r _ _) (.cons _ _ _ _ (boxT_le t _ _) (.cons _ _ _ _ (boxR_le u _ _) (.cons _ _ _ _ (boxT_le o _ _) (.cons _ _ _ _ (boxC_le x _ _) (.cons _ _ _ _ (.rows _ _ _ _ fun _ _ _ _ => rfl) (.cons _ _ _ _ (bR_new _) .nil))))))⟩
  · rintro ⟨bs, i⟩ ⟨hN, hl, h0, hi, hbl, hb⟩
    simp only at hi hbl hb
    obtain ⟨hrange, _⟩ := fit_range h0
    have em := dL_set t.cols
    unfold moreD at em
    unfold rna_t0
    simp only [trD_B, dL_eL, ru_eta, ta_eta, Int.toNat_natCast]
    refine hSd (fun h => ?_) fun h => ?_
    · have hlt : i < (namesF r).length := by omega
      have hin := hrange _ ((mem _).1 (getD_mem hlt))
      have hbt : Nat.blt i (namesF r).length = true := by rw [Nat.blt_eq]; exact hlt
      have hin' : ((namesF r).getD i default).toNat < t.cols.length := by omega
      have hbt' : Nat.blt ((namesF r).getD i default).toNat t.cols.length = true := by rw [Nat.blt_eq]; exact hin'
      have nxt : NaJ r t u o (bs.set ((namesF r).getD i default).toNat true) (i + 1) := ⟨hN, hl, h0, hlt, by simpa using hbl, fun j hj => by
        have hj2 : ((namesF r).getD j default).toNat < bs.length := by
          have := hrange _ ((mem _).1 (getD_mem (show j < (namesF r).length by omega)))
          omega
        rw [getD_set _ _ _ _ hj2]
        split
        · rfl
        · rename_i c
          by_cases e : j = i
          · subst e; exact absurd rfl c
          · exact hb j (by omega)⟩
      refine hSi (by omega) (hT hbt (hSd (fun c => absurd hin.1 (by omega)) fun _ => hSi (by omega) (hT hbt (hSd (fun c => absurd hin.2 (by omega)) fun _ => hSd (fun c => ?_) fun c => ?_))))
      · have ei : IntKind.i64.wrap ((i : Int) - 1) = ((i - 1 : Nat) : Int) := by rw [wrap_lt (by omega) (by omega)]; omega
        have hbp : Nat.blt (i - 1) (namesF r).length = true := by rw [Nat.blt_eq]; omega
        simp only [ei, Int.toNat_natCast]
        refine hSi (by omega) (hT hbt (hSi (by omega) (hT hbp (hSd (fun d => ?_) fun _ => hSi (by omega) (hT hbt (hT (by rw [decide_eq_true hin.1, decide_eq_true hin.2]; rfl) (hT hbt' ?_)))))))
        · have := lt_rise rise (i := i) (by omega) hlt
          omega
        · exact ⟨(bs.set ((namesF r).getD i default).toNat true, i + 1), nxt, rel_nat (by simp only; omega), rfl, rfl, rfl, (.cons _ _ _ _ (.refl _) (.cons _ _ _ _ (.refl _) (.cons _ _ _ _ (.refl _) (.cons _ _ _ _ (.refl _) (.cons _ _ _ _ (.refl _) (.cons _ _ _ _ (.refl _) (.cons _ _ _ _ (.refl _) (.cons _ _ _ _ (.refl _) (.cons _ _ _ _ (.ofEq (by rw [wrap_lt (by omega) (by omega)]; rfl)) .nil))))))))), .cons _ _ _ _ (boxR_le r 0 true) (.cons _ _ _ _ (boxT_le t 0 true) (.cons _ _ _ _ (boxR_le u 0 true) (.cons _ _ _ _ (boxT_le o 0 true) (.cons _ _ _ _ (boxC_le x 0 true) (.cons _ _ _ _ (.rows _ _ _ _ fun _ _ _ _ => rfl) (.cons _ _ _ _ (bR_le bs _ _ hbl) .nil))))))⟩
      · exact hSi (by omega) (hT hbt (hT (by rw [decide_eq_true hin.1, decide_eq_true hin.2]; rfl) (hT hbt' ⟨(bs.set ((namesF r).getD i default).toNat true, i + 1), nxt, rel_nat (by simp only; omega), rfl, rfl, rfl, (.cons _ _ _ _ (.refl _) (.cons _ _ _ _ (.refl _) (.cons _ _ _ _ (.refl _) (.cons _ _ _ _ (.refl _) (.cons _ _ _ _ (.refl _) (.cons _ _ _ _ (.refl _) (.cons _ _ _ _ (.refl _) (.cons _ _ _ _ (.refl _) (.cons _ _ _ _ (.ofEq (by rw [wrap_lt (by omega) (by omega)]; rfl)) .nil))))))))), .cons _ _ _ _ (boxR_le r 0 true) (.cons _ _ _ _ (boxT_le t 0 true) (.cons _ _ _ _ (boxR_le u 0 true) (.cons _ _ _ _ (boxT_le o 0 true) (.cons _ _ _ _ (boxC_le x 0 true) (.cons _ _ _ _ (.rows _ _ _ _ fun _ _ _ _ => rfl) (.cons _ _ _ _ (bR_le bs _ _ hbl) .nil))))))⟩)))
    · refine hS (fun _ => yev _ rfl) fun z => ?_
      have z : t.cols.length ≠ 0 := fun e => by rw [e] at z; cases z
      obtain ⟨k, hk, hK⟩ := idx_k at1 t.cols.length (by omega) (by omega)
      have hbk : Nat.blt k t.cols.length = true := by rw [Nat.blt_eq]; exact hk
      simp only [hK, Int.toNat_natCast, em]
      refine hT (decide_eq_true (by rw [u64_nat _ (by omega)]; omega)) (hSi (by omega) (hT hbk (hS (fun _ => yev _ rfl) fun hbf => hT (more_t (by omega)) (hSi (by omega) (hT hbk (hT (ble_yes (Nat.le_refl _)) (hOB (hOB (hO ⟨fi_ok _ _ _ _⟩ (yes _ ?_))))))))))
      have key : fitF r ⟨t.nm, t.cols.set k x, t.ow⟩ u o = 0 := fit_mono (t := t) (t' := ⟨t.nm, t.cols.set k x, t.ow⟩) rfl (by simp) (fun n hn hm => by
        show ((t.cols.set k x).getD n default).ty = _
        rw [getD_set _ _ _ _ hn]
        split
        · rename_i c
          subst c
          obtain ⟨j, hj, e⟩ := List.getElem_of_mem ((mem _).2 hm)
          have := hb j (by omega)
          rw [List.getD_eq_getElem?_getD (l := namesF r), List.getElem?_eq_getElem hj, Option.getD_some, e, Int.toNat_natCast] at this
          rw [this] at hbf; cases hbf
        · rfl) h0
      rw [key]; rfl
end Go.Proofs.YtengccmjlaejfaaDoor
end
