/- Rows that fit columns, truths, Yes. No condition. -/
import Derived.Test.YtengccmjlaejfaaMg20
import Derived.Test.YtengccmjlaejfaaMg18
import Derived.Test.YtengccmjlaejfaaMg19
section
namespace Go.Proofs.Ytengccmjlaejfaa
open Ev Go.RowKit
set_option maxRecDepth 100000
set_option linter.unusedVariables false
open Classical in
noncomputable def fsF (row : List Vl) (cols : List Cl) : Bool := decide (row.length = cols.length ∧ ∀ i, i < row.length → fitsF (row.getD i default) (cols.getD i default).ty = true)
def yesF (v : Vl) : Bool := decide (v.k = 2) && !decide (v.n = 0)
noncomputable def yesR (row : List Vl) (t : Tr) : Bool × Int := if t.op = 0 then (true, 0) else if (evalF row t).2 ≠ 0 then (false, (evalF row t).2) else if (evalF row t).1.k ≠ 2 ∧ (evalF row t).1.k ≠ 0 then (false, 60) else (yesF (evalF row t).1, 0)
def resB2 (z : Bool × Int) : AV := .tup [.s (.bool z.1), .s (.int .i64 z.2)]
noncomputable def lyX : SumBr := obX Try.prog 41 (AKs.cons aV AKs.nil) fun z => .leaf (.s (.bool (yesF z.1)), [])
noncomputable def evX2 : SumBr := obX Try.prog 12 (AKs.cons aTr (AKs.cons (aL Vl) AKs.nil)) fun z => .leaf (resA2 (evalF z.2.1 z.1), [])
noncomputable def ysX : SumBr := orX lyX evX2
theorem ysX_ok : SumGO Try.prog (sumS ysX) := orX_open (obX_ok (by kernel_rfl)) (obX_ok (by kernel_rfl))
def fs_cf : Nat → Cfg := cfL [mkC 28 [0, 1, 5] []]
def fs_a (row : List Vl) (cols : List Cl) : List AV := [.fz (eL row) row.length vks, .fz (eL cols) cols.length cks]
noncomputable def fs_t (P : Program) (row : List Vl) (cols : List Cl) : Br PO :=
(.test ((↑row.length : Int) != (↑cols.length : Int))
  (.leaf (.fin ⟨Ex.ret, true, [some (AV.v (Value.bool false))], []⟩))
  (.leaf (.at 0 (ct P 19 0).1 (ct P 19 0).2 ⟨Ex.normal, true, [some (AV.fz (eL row) row.length vks), some (AV.fz (eL cols) cols.length cks), some (AV.v (Value.int IntKind.i64 (0)))], []⟩))
)
theorem fs_h (row : List Vl) (cols : List Cl) : (ev Try.prog ftX noS 3000 noL 3000 .normal [.c 0 (codeOf Try.prog 19)] (params (fs_a row cols)) Ev.start).map (lookP Try.prog (resOf Try.prog 19) [] fs_cf) = fs_t Try.prog row cols := by kernel_rfl
def fs_v0 (row : List Vl) (cols : List Cl) (i : Nat) : List AV := [.fz (eL row) row.length vks, .fz (eL cols) cols.length cks, .s (.int .i64 i)]
def fs_o0 (row : List Vl) (cols : List Cl) (i : Nat) : List AO := []
noncomputable def fs_t0 (P : Program) (row : List Vl) (cols : List Cl) (i : Nat) : Br PO :=
(.test (decide ((↑i : Int) < (↑row.length : Int)))
  (.test (decide (0 ≤ (↑i : Int)) && decide ((↑i : Int) < (↑row.length : Int)))
    (.test (decide (0 ≤ (↑i : Int)) && decide ((↑i : Int) < (↑cols.length : Int)))
      (.ob (ObC Try.prog 23 [vlA { k := (row.getD (↑i : Int).toNat default).k, n := (row.getD (↑i : Int).toNat default).n, hi := (row.getD (↑i : Int).toNat default).hi, t := (row.getD (↑i : Int).toNat default).t }, AV.s (Value.int IntKind.u8 (cols.getD (↑i : Int).toNat default).ty)]   (AV.s (Value.bool (fitsF { k := (row.getD (↑i : Int).toNat default).k, n := (row.getD (↑i : Int).toNat default).n, hi := (row.getD (↑i : Int).toNat default).hi, t := (row.getD (↑i : Int).toNat default).t } (cols.getD (↑i : Int).toNat default).ty))) [])
        (.test (!fitsF { k := (row.getD (↑i : Int).toNat default).k, n := (row.getD (↑i : Int).toNat default).n, hi := (row.getD (↑i : Int).toNat default).hi, t := (row.getD (↑i : Int).toNat default).t } (cols.getD (↑i : Int).toNat default).ty)
          (.leaf (.fin ⟨Ex.ret, true, [some (AV.v (Value.bool false))], []⟩))
          (.leaf (.at 0 (ct P 19 0).1 (ct P 19 0).2 ⟨Ex.normal, true, [some (AV.fz (eL row) row.length vks), some (AV.fz (eL cols) cols.length cks), some (AV.s (Value.int IntKind.i64 (IntKind.i64.wrap ((↑i : Int) + 1))))], []⟩))
        )
      )
      .no
    )
    .no
  )
  (.leaf (.fin ⟨Ex.ret, true, [some (AV.v (Value.bool true))], []⟩))
)
theorem fs_h0 (row : List Vl) (cols : List Cl) (i : Nat) (j : Nat → Value) : (ev Try.prog ftX noS 3000 noL 3000 .normal (hd Try.prog 19 0) (mkE (fs_cf 0) (fs_v0 row cols i) j) (mkH openB (fs_o0 row cols i))).map (lookP Try.prog (resOf Try.prog 19) [] fs_cf) = fs_t0 Try.prog row cols i := by kernel_rfl

def tu_cf : Nat → Cfg := cfL []
def tu_a (n : Int) : List AV := [.s (.int .i64 n)]
noncomputable def tu_t (P : Program) (n : Int) : Br PO :=
(.leaf (.fin ⟨Ex.ret, true, [some (AV.agg [AV.v (Value.int IntKind.u8 (2)), AV.s (Value.int IntKind.i64 n), AV.v (Value.int IntKind.i64 (0)), AV.v (Value.string (⟨#[]⟩ : ByteArray))])], []⟩))
theorem tu_h (n : Int) : (ev Try.prog noX noS 3000 noL 3000 .normal [.c 0 (codeOf Try.prog 22)] (params (tu_a n)) Ev.start).map (lookP Try.prog (resOf Try.prog 22) [] tu_cf) = tu_t Try.prog n := by kernel_rfl

def ly_cf : Nat → Cfg := cfL []
def ly_a (v : Vl) : List AV := [vlA v]
noncomputable def ly_t (P : Program) (v : Vl) : Br PO :=
(.test (v.k == 2)
  (.leaf (.fin ⟨Ex.ret, true, [some (AV.s (Value.bool (v.n != 0)))], []⟩))
  (.leaf (.fin ⟨Ex.ret, true, [some (AV.v (Value.bool false))], []⟩))
)
theorem ly_h (v : Vl) : (ev Try.prog noX noS 3000 noL 3000 .normal [.c 0 (codeOf Try.prog 41)] (params (ly_a v)) Ev.start).map (lookP Try.prog (resOf Try.prog 41) [] ly_cf) = ly_t Try.prog v := by kernel_rfl

def ys_cf : Nat → Cfg := cfL []
def ys_a (t : Tr) (row : List Vl) : List AV := [trO t, .fz (eL row) row.length vks]
noncomputable def ys_t (P : Program) (t : Tr) (row : List Vl) : Br PO :=
(.test (t.op == 0)
  (.leaf (.fin ⟨Ex.ret, true, [some (AV.v (Value.tuple { toList := [Value.bool true, Value.int IntKind.i64 (0)] }))], []⟩))
  (.ob (ObE (trO t)   (trA (trD (trO t))))
    (.ob (ObC Try.prog 12 [trA (trD (trO t)), AV.fz (eL (dL Vl (eL row) row.length)) (dL Vl (eL row) row.length).length (Rec.ks Vl)]   (AV.tup     [vlA (evalF (dL Vl (eL row) row.length) (trD (trO t))).fst,       AV.s (Value.int IntKind.i64 (evalF (dL Vl (eL row) row.length) (trD (trO t))).snd)])   [])
      (.test ((evalF (dL Vl (eL row) row.length) (trD (trO t))).snd != 0)
        (.leaf (.fin ⟨Ex.ret, true, [some (AV.tup [AV.v (Value.bool false), AV.s (Value.int IntKind.i64 (evalF (dL Vl (eL row) row.length) (trD (trO t))).snd)])], []⟩))
        (.test ((evalF (dL Vl (eL row) row.length) (trD (trO t))).fst.k != 2)
          (.test ((evalF (dL Vl (eL row) row.length) (trD (trO t))).fst.k != 0)
            (.leaf (.fin ⟨Ex.ret, true, [some (AV.v (Value.tuple { toList := [Value.bool false, Value.int IntKind.i64 (60)] }))], []⟩))
            (.ob (ObC Try.prog 41   [vlA       { k := (evalF (dL Vl (eL row) row.length) (trD (trO t))).fst.k,         n := (evalF (dL Vl (eL row) row.length) (trD (trO t))).fst.n,         hi := (evalF (dL Vl (eL row) row.length) (trD (trO t))).fst.hi,         t := (evalF (dL Vl (eL row) row.length) (trD (trO t))).fst.t }]   (AV.s     (Value.bool       (yesF         { k := (evalF (dL Vl (eL row) row.length) (trD (trO t))).fst.k,           n := (evalF (dL Vl (eL row) row.length) (trD (trO t))).fst.n,           hi := (evalF (dL Vl (eL row) row.length) (trD (trO t))).fst.hi,           t := (evalF (dL Vl (eL row) row.length) (trD (trO t))).fst.t })))   [])
              (.leaf (.fin ⟨Ex.ret, true, [some   (AV.tup     [AV.s         (Value.bool           (yesF             { k := (evalF (dL Vl (eL row) row.length) (trD (trO t))).fst.k,               n := (evalF (dL Vl (eL row) row.length) (trD (trO t))).fst.n,               hi := (evalF (dL Vl (eL row) row.length) (trD (trO t))).fst.hi,               t := (evalF (dL Vl (eL row) row.length) (trD (trO t))).fst.t })),       AV.v (Value.int IntKind.i64 (0))])], []⟩))
            )
          )
          (.ob (ObC Try.prog 41   [vlA       { k := (evalF (dL Vl (eL row) row.length) (trD (trO t))).fst.k,         n := (evalF (dL Vl (eL row) row.length) (trD (trO t))).fst.n,         hi := (evalF (dL Vl (eL row) row.length) (trD (trO t))).fst.hi,         t := (evalF (dL Vl (eL row) row.length) (trD (trO t))).fst.t }]   (AV.s     (Value.bool       (yesF         { k := (evalF (dL Vl (eL row) row.length) (trD (trO t))).fst.k,           n := (evalF (dL Vl (eL row) row.length) (trD (trO t))).fst.n,           hi := (evalF (dL Vl (eL row) row.length) (trD (trO t))).fst.hi,           t := (evalF (dL Vl (eL row) row.length) (trD (trO t))).fst.t })))   [])
            (.leaf (.fin ⟨Ex.ret, true, [some   (AV.tup     [AV.s         (Value.bool           (yesF             { k := (evalF (dL Vl (eL row) row.length) (trD (trO t))).fst.k,               n := (evalF (dL Vl (eL row) row.length) (trD (trO t))).fst.n,               hi := (evalF (dL Vl (eL row) row.length) (trD (trO t))).fst.hi,               t := (evalF (dL Vl (eL row) row.length) (trD (trO t))).fst.t })),       AV.v (Value.int IntKind.i64 (0))])], []⟩))
          )
        )
      )
    )
  )
)
theorem ys_h (t : Tr) (row : List Vl) : (ev Try.prog ysX noS 3000 noL 3000 .normal [.c 0 (codeOf Try.prog 21)] (params (ys_a t row)) Ev.start).map (lookP Try.prog (resOf Try.prog 21) [] ys_cf) = ys_t Try.prog t row := by kernel_rfl

theorem fs_ok (row : List Vl) (cols : List Cl) : OCalls Try.prog 19 [.fz (eL row) row.length vks, .fz (eL cols) cols.length cks] (.s (.bool (fsF row cols))) [] := by
  have yv : ∀ x, fsF row cols = x → Goes ⟨.ret, true, [some (.v (.bool x))], []⟩ [.s (.bool (fsF row cols))] [] := fun x hx => ⟨rfl, .cons _ _ _ _ (leBv hx) .nil, .nil⟩
  refine OCalls.bnd fun hb => ?_
  have hlen : row.length ≤ 9223372036854775807 := hb.1
  refine floyd ev_mix ev_ok ftX_ok noSQ (by kernel_rfl) [] fs_cf (fun i : Nat => row.length - i) (fun _ => 0) (fs_v0 row cols) (fs_o0 row cols) (fun i => row.length = cols.length ∧ i ≤ row.length ∧ ∀ j, j < i → fitsF (row.getD j default) (cols.getD j default).ty = true) (fs_t0 _ row cols) (fs_t _ row cols) (fs_h row cols) (fun i j => fs_h0 row cols i j) ?_ ?_
  · unfold fs_t
    refine hS (fun h => yv _ ?_) fun h => ?_
    · have h : (row.length : Int) ≠ cols.length := by simpa using h
      unfold fsF
      simp only [decide_eq_false_iff_not]
      rintro ⟨e, _⟩; omega
    · have h : (row.length : Int) = cols.length := by simpa using h
      exact ⟨0, ⟨by omega, Nat.zero_le _, fun j hj => absurd hj (Nat.not_lt_zero j)⟩, rfl, rfl, rfl, (.cons _ _ _ _ (.refl _) (.cons _ _ _ _ (.refl _) (.cons _ _ _ _ (.vs _) .nil))), .nil⟩
  · rintro i ⟨hl, hi, hj⟩
    unfold fs_t0
    simp only [Int.toNat_natCast]
    refine hSd (fun h => hSi (by omega) (hSi (by omega) (hO ⟨ft_ok _ _⟩ ⟨fun h2 => yv _ ?_, fun h2 => ?_⟩))) fun h => yv _ ?_
    · have h2 : fitsF (row.getD i default) (cols.getD i default).ty = false := by simpa using h2
      unfold fsF
      simp only [decide_eq_false_iff_not]
      rintro ⟨_, g⟩
      have := g i (by omega)
      rw [h2] at this; cases this
    · have h2 : fitsF (row.getD i default) (cols.getD i default).ty = true := by simpa using h2
      exact ⟨i + 1, ⟨hl, by omega, fun j hj' => by
        by_cases e : j = i
        · rw [e]; exact h2
        · exact hj j (by omega)⟩, rel_nat (by omega), rfl, rfl, rfl, .cons _ _ _ _ (.refl _) (.cons _ _ _ _ (.refl _) (.cons _ _ _ _ (.ofEq (by rw [wrap_lt (by omega) (by omega)]; rfl)) .nil)), .nil⟩
    · unfold fsF
      simp only [decide_eq_true_eq]
      exact ⟨hl, fun j hj' => hj j (by omega)⟩
theorem tu_ok (n : Int) : OCalls Try.prog 22 [.s (.int .i64 n)] (vlA ⟨2, n, 0, ⟨#[]⟩⟩) [] := by
  refine floyd0 ev_mix ev_ok noX_open noSQ (by kernel_rfl) [] tu_cf (tu_t _ n) (tu_h n) ?_
  unfold tu_t
  exact ⟨rfl, .cons _ _ _ _ (.agg _ _ (.cons _ _ _ _ (.vs _) (.cons _ _ _ _ (.refl _) (.cons _ _ _ _ (.vs _) (.cons _ _ _ _ (.vs _) .nil))))) .nil, .nil⟩
theorem ly_ok (v : Vl) : OCalls Try.prog 41 [vlA v] (.s (.bool (yesF v))) [] := by
  refine floyd0 ev_mix ev_ok noX_open noSQ (by kernel_rfl) [] ly_cf (ly_t _ v) (ly_h v) ?_
  unfold ly_t
  refine hSe (fun h => ⟨rfl, .cons _ _ _ _ (leBs ?_) .nil, .nil⟩) fun h => ⟨rfl, .cons _ _ _ _ (leBv ?_) .nil, .nil⟩
  · unfold yesF; rw [Bool.eq_iff_iff]; simp [h]
  · unfold yesF; simp [h]
theorem ys_ok (t : Tr) (row : List Vl) : OCalls Try.prog 21 [trA t, .fz (eL row) row.length vks] (resB2 (yesR row t)) [] := by
  refine OCalls.le (args := ys_a t row) ?_ (.cons _ _ _ _ (trO_le t) (Les.refl _))
  have fin : ∀ z, Le z (resB2 (yesR row t)) → Goes ⟨.ret, true, [some z], []⟩ [resB2 (yesR row t)] [] := fun z hz => ⟨rfl, .cons _ _ _ _ hz .nil, .nil⟩
  have vv : ∀ x y, yesR row t = (x, y) → Le (.v (.tuple #[.bool x, .int .i64 y])) (resB2 (yesR row t)) := fun x y h => by rw [h]; exact .vtup _ _ (.cons _ _ _ _ (.vs _) (.cons _ _ _ _ (.vs _) .nil))
  refine floyd0 ev_mix ev_ok ysX_ok noSQ (by kernel_rfl) [] ys_cf (ys_t _ t row) (ys_h t row) ?_
  unfold ys_t
  simp only [trD_B, dL_eL]
  refine hSe (fun h => fin _ (vv _ _ (by unfold yesR; rw [if_pos h]))) fun h => hOB (hO ⟨va_ok t row⟩ (hS (fun h2 => fin _ ?_) fun h2 => ?_))
  · have h2 : (evalF row t).2 ≠ 0 := by simpa using h2
    unfold yesR
    rw [if_neg h, if_pos h2]
    exact .tup _ _ (.cons _ _ _ _ (.vs _) (.cons _ _ _ _ (.refl _) .nil))
  · have h2 : (evalF row t).2 = 0 := by simpa using h2
    have last : ¬ ((evalF row t).1.k ≠ 2 ∧ (evalF row t).1.k ≠ 0) → Le (.tup [.s (.bool (yesF (evalF row t).1)), .v (.int .i64 0)]) (resB2 (yesR row t)) := fun h3 => by
      unfold yesR
      rw [if_neg h, if_neg (fun x => x h2), if_neg h3]
      exact .tup _ _ (.cons _ _ _ _ (.refl _) (.cons _ _ _ _ (.vs _) .nil))
    refine hS (fun h3 => ?_) fun h3 => hO ⟨ly_ok _⟩ (fin _ (last fun x => by simp at h3; exact x.1 h3))
    refine hS (fun h4 => fin _ (vv _ _ ?_)) fun h4 => hO ⟨ly_ok _⟩ (fin _ (last fun x => by simp at h4; exact x.2 h4))
    unfold yesR
    rw [if_neg h, if_neg (fun x => x h2), if_pos ⟨by simpa using h3, by simpa using h4⟩]
end Go.Proofs.Ytengccmjlaejfaa
end
section
namespace Go.Proofs.Ytengccmjlaejfaa
open Ev Go.RowKit
set_option linter.unusedVariables false
theorem args_cases {L : Nat} {op : Int} (h : (L : Int) = argsF op) : (op = 1 ∧ L = 0) ∨ (op = 2 ∧ L = 0) ∨ ((op = 3 ∨ op = 4 ∨ op = 5) ∧ L = 1) ∨ ((6 ≤ op ∧ op ≤ 13) ∧ L = 2) := by
  unfold argsF at h
  split at h <;> (try split at h) <;> (try split at h) <;> (try split at h) <;> (try split at h) <;> (try split at h) <;> (try split at h) <;> omega
theorem stepT_f {op : Int} {s : TyS} {z : Int × Bool} (h : (stepT op s z).f = true) : z.2 = true := by
  simp only [stepT, Bool.and_eq_true] at h
  exact h.1
theorem stepT_t {op : Int} {s : TyS} {z : Int × Bool} (h : z.2 = true) : stepT op s z = stepT op s (z.1, true) := by
  obtain ⟨a, b⟩ := z
  simp only at h
  subst h; rfl
theorem two_of {α : Type} {L : List α} (h : L.length = 2) : ∃ a c, L = [a, c] := by
  match L, h with
  | [a, c], _ => exact ⟨a, c, rfl⟩
theorem typed {row : List Vl} {cols : List Cl} (hl : row.length = cols.length) (hf : ∀ i, i < row.length → fitsF (row.getD i default) (cols.getD i default).ty = true) (t : Tr) : allF t = true → (∀ n ∈ namF t, n < (cols.length : Int)) → ∀ b, (tyG cols t b).2 = true → b = true ∧ (((tellF row t).2 = 0 ∧ hasT (tellF row t).1 (tyG cols t b).1) ∨ ((tellF row t).2 = 61 ∧ tameF t = false)) := by
  induction t using Tr.ind with
  | h t ih =>
  intro hall hcol b hy
  obtain ⟨hnode, hargs⟩ := allF_get hall
  obtain ⟨hlen, hv, _, hn, hm⟩ := nodeF_get hnode
  have eG := tyG_eq cols t b
  have eT := tellF_eq row t
  have eM := tameF_eq t
  have hcol' : ∀ a ∈ t.args, ∀ n ∈ namF a, n < (cols.length : Int) := fun a ha n hn => hcol n (by rw [namF_eq, List.mem_append]; exact .inr (namLs_mem ha hn))
  rcases args_cases hlen with ⟨ho, h0⟩ | ⟨ho, h0⟩ | ⟨ho, h0⟩ | ⟨ho, h0⟩
  · have ha : t.args = [] := List.length_eq_zero_iff.1 h0
    rw [if_pos ho] at eG
    rw [ha, tellLs_nil] at eT
    rw [eG] at hy ⊢
    refine ⟨hy, .inl ?_⟩
    have e : tellF row t = (t.v, 0) := by rw [eT]; unfold finT opT; rw [if_pos rfl, if_pos ho]
    rw [e]
    exact ⟨rfl, hasT_lit hm⟩
  · have ha : t.args = [] := List.length_eq_zero_iff.1 h0
    rw [if_neg (by omega), if_pos ho] at eG
    rw [ha, tellLs_nil] at eT
    rw [eG] at hy ⊢
    refine ⟨hy, .inl ?_⟩
    have e : tellF row t = (row.getD t.n.toNat default, 0) := by rw [eT]; unfold finT opT; rw [if_pos rfl, if_neg (by omega), if_pos ho]
    rw [e]
    have := hcol t.n (by rw [namF_eq, if_pos ho]; simp)
    exact ⟨rfl, .inr (hf _ (by omega))⟩
  · obtain ⟨a, ha⟩ := List.length_eq_one_iff.1 h0
    rw [if_neg (by omega), if_neg (by omega), ha, tyLs_cons, tyLs_nil] at eG
    rw [ha, tellLs_cons, tellLs_nil] at eT
    rw [ha, tameLs_cons, tameLs_nil, Bool.and_true] at eM
    rw [eG] at hy ⊢
    have hz := stepT_f (show (stepT t.op ⟨askF t.op, false, b⟩ (tyG cols a b)).f = true from hy)
    obtain ⟨hb, h⟩ := ih a (by rw [ha]; simp) (hargs a (by rw [ha]; simp)) (hcol' a (by rw [ha]; simp)) b hz
    refine ⟨hb, ?_⟩
    rcases h with ⟨h1, h2⟩ | ⟨h1, h2⟩
    · have e : tellF row t = opT t.op t.v t.n row (tellF row a).1 default := by rw [eT, if_pos h1]; unfold finT; simp only [if_pos]; rfl
      rw [e, eM]
      rw [stepT_t hz] at hy ⊢
      rcases un_ok (v := t.v) (n := t.n) (y := default) (row := row) ho h2 hy with q | ⟨q1, q2⟩
      · exact .inl q
      · exact .inr ⟨q1, by rw [q2]; rfl⟩
    · right
      rw [eT, if_neg (by rw [h1]; decide), eM, h2, Bool.and_false]
      refine ⟨?_, rfl⟩
      unfold finT
      rw [if_neg (by rw [h1]; decide)]
      exact h1
  · obtain ⟨a, c, ha⟩ := two_of h0
    rw [if_neg (by omega), if_neg (by omega), ha, tyLs_cons, tyLs_cons, tyLs_nil] at eG
    rw [ha, tellLs_cons, tellLs_cons, tellLs_nil] at eT
    rw [ha, tameLs_cons, tameLs_cons, tameLs_nil, Bool.and_true] at eM
    rw [eG] at hy ⊢
    have hz2 := stepT_f (show (stepT t.op (stepT t.op ⟨askF t.op, false, b⟩ (tyG cols a b)) (tyG cols c (stepT t.op ⟨askF t.op, false, b⟩ (tyG cols a b)).f)).f = true from hy)
    obtain ⟨hs, k⟩ := ih c (by rw [ha]; simp) (hargs c (by rw [ha]; simp)) (hcol' c (by rw [ha]; simp)) _ hz2
    have hz1 := stepT_f hs
    obtain ⟨hb, h⟩ := ih a (by rw [ha]; simp) (hargs a (by rw [ha]; simp)) (hcol' a (by rw [ha]; simp)) b hz1
    refine ⟨hb, ?_⟩
    rcases h with ⟨h1, h2⟩ | ⟨h1, h2⟩
    · rcases k with ⟨k1, k2⟩ | ⟨k1, k2⟩
      · have e : tellF row t = bothF t.op (tellF row a).1 (tellF row c).1 := by
          rw [eT, if_pos h1, if_pos k1]; unfold finT opT; simp only [if_pos]
          rw [if_neg (by omega), if_neg (by omega), if_neg (by omega), if_neg (by omega), if_neg (by omega)]; rfl
        rw [e, eM]
        rw [stepT_t hz2] at hy ⊢
        generalize (tyG cols c (stepT t.op ⟨askF t.op, false, b⟩ (tyG cols a b)).f).1 = tc at *
        rw [stepT_t hz1] at hy hs ⊢
        rcases bin_ok ho.1 ho.2 h2 k2 hs hy with q | ⟨q1, q2⟩
        · exact .inl q
        · exact .inr ⟨q1, by rw [q2]; rfl⟩
      · right
        rw [eT, if_pos h1, if_neg (by rw [k1]; decide), eM, k2, Bool.and_false, Bool.and_false]
        refine ⟨?_, rfl⟩
        unfold finT
        rw [if_neg (by rw [k1]; decide)]
        exact k1
    · right
      rw [eT, if_neg (by rw [h1]; decide), eM, h2, Bool.false_and, Bool.and_false]
      refine ⟨?_, rfl⟩
      unfold finT
      rw [if_neg (by rw [h1]; decide)]
      exact h1
theorem both_err (op : Int) (x y : Vl) : Err3 (bothF op x y) := by
  unfold bothF
  split
  · exact (add_q x y).1
  split
  · exact (sub_q x y).1
  split
  · exact (mul_q x y).1
  split
  · exact (equ_q x y).1
  split
  · exact (les_q x y).1
  split
  · rw [andR_eq]; exact (join_q false x y).1
  split
  · rw [orR_eq]; exact (join_q true x y).1
  · exact (meet_q x y).1
theorem opT_err (op : Int) (v : Vl) (n : Int) (row : List Vl) (x y : Vl) : Err3 (opT op v n row x y) := by
  unfold opT
  split
  · exact .inl rfl
  split
  · exact .inl rfl
  split
  · exact (neg_q x).1
  split
  · exact (not_q x).1
  split
  · exact .inl rfl
  · exact both_err op x y
theorem tell_err (row : List Vl) (t : Tr) : Err3 (tellF row t) := by
  induction t using Tr.ind with
  | h t ih =>
  have key : ∀ L : List Tr, (∀ a ∈ L, a ∈ t.args) → (tellLs row L).2 = 0 ∨ (tellLs row L).2 = 60 ∨ (tellLs row L).2 = 61 := by
    intro L
    induction L with
    | nil => intro _; rw [tellLs_nil]; exact .inl rfl
    | cons a L ihL =>
      intro hL
      rw [tellLs_cons]
      split
      · exact ihL fun b hb => hL b (by simp [hb])
      · exact ih a (hL a (by simp))
  rw [tellF_eq]
  unfold finT
  split
  · exact opT_err _ _ _ _ _ _
  · exact key t.args fun _ h => h
/-- What the answers say. -/
structure TyL (t : Tr) (cols : List Cl) (row : List Vl) : Prop where
  form : (typeF cols t).2 = 4 → (evalF row t).2 = 4
  ref : (typeF cols t).2 ≠ 4 → (evalF row t).2 ≠ 4
  err : (typeF cols t).2 = 0 → (evalF row t).2 ≠ 0 → (evalF row t).2 = 61 ∧ tameF t = false ∧ (evalF row t).1 = default
  fit : (typeF cols t).2 = 0 → (evalF row t).2 = 0 → hasT (evalF row t).1 (typeF cols t).1
  op0 : (typeF cols t).2 = 0 → t.op ≠ 0
theorem ty_law {t : Tr} {cols : List Cl} {row : List Vl} (h : fsF row cols = true) : TyL t cols row := by
  unfold fsF at h
  simp only [decide_eq_true_eq] at h
  obtain ⟨hl, hf⟩ := h
  by_cases hfo : formF t cols.length = true
  · have hfo2 : formF t row.length = true := by rw [hl]; exact hfo
    obtain ⟨hmay, hcol⟩ := (formF_iff t _).1 hfo
    have hall := ((mayF_iff t).1 hmay).1
    have he := tell_err row t
    have eE : evalF row t = if (tellF row t).2 = 0 then tellF row t else (default, (tellF row t).2) := by unfold evalF; rw [if_pos hfo2]
    have e2 : (evalF row t).2 = (tellF row t).2 := by rw [eE]; split <;> rfl
    have hn4 : (evalF row t).2 ≠ 4 := by rw [e2]; rcases he with h | h | h <;> rw [h] <;> decide
    have eY : typeF cols t = if (tyG cols t true).2 = true then ((tyG cols t true).1, 0) else (0, 60) := by unfold typeF; rw [if_pos hfo]
    have hop : t.op ≠ 0 := by
      have := args_cases (nodeF_get (allF_get hall).1).1
      omega
    by_cases hy : (tyG cols t true).2 = true
    · rw [if_pos hy] at eY
      obtain ⟨_, k⟩ := typed hl hf t hall hcol true hy
      refine ⟨fun h => (by rw [eY] at h; exact absurd h (show ¬ (0 : Int) = 4 by decide)), fun _ => hn4, fun _ h => ?_, fun _ h => ?_, fun _ => hop⟩
      · rw [e2] at h ⊢
        rcases k with ⟨k1, _⟩ | ⟨k1, k2⟩
        · exact absurd k1 h
        · exact ⟨k1, k2, by rw [eE, if_neg h]⟩
      · rw [e2] at h
        rcases k with ⟨k1, k2⟩ | ⟨k1, k2⟩
        · rw [eE, if_pos h, eY]; exact k2
        · rw [k1] at h; exact absurd h (by decide)
    · rw [if_neg hy] at eY
      refine ⟨fun h => (by rw [eY] at h; exact absurd h (by decide)), fun _ => hn4, fun h => (by rw [eY] at h; exact absurd h (by decide)), fun h => (by rw [eY] at h; exact absurd h (by decide)), fun _ => hop⟩
  · have hfo2 : ¬ formF t row.length = true := by rw [hl]; exact hfo
    have eE : evalF row t = (default, 4) := by unfold evalF; rw [if_neg hfo2]
    have eY : typeF cols t = (0, 4) := by unfold typeF; rw [if_neg hfo]
    exact ⟨fun _ => by rw [eE], fun h => (by rw [eY] at h; exact absurd rfl h), fun h => (by rw [eY] at h; exact absurd h (by decide)), fun h => (by rw [eY] at h; exact absurd h (by decide)), fun h => (by rw [eY] at h; exact absurd h (by decide))⟩
end Go.Proofs.Ytengccmjlaejfaa
end
section
namespace Go.Proofs.Ytengccmjlaejfaa
open Ev Go.RowKit
set_option maxRecDepth 100000
set_option linter.unusedVariables false
noncomputable def fsX : SumBr := obX Try.prog 19 (AKs.cons (aL Vl) (AKs.cons (aL Cl) AKs.nil)) fun z => .leaf (.s (.bool (fsF z.1 z.2.1)), [])
noncomputable def tyX : SumBr := obX Try.prog 20 (AKs.cons aTr (AKs.cons (aL Cl) AKs.nil)) fun z => .leaf (resI2 (typeF z.2.1 z.1), [])
noncomputable def tmX : SumBr := obX Try.prog 18 (AKs.cons aTr AKs.nil) fun z => .leaf (.s (.bool (tameF z.1)), [])
noncomputable def yeX : SumBr := obX Try.prog 21 (AKs.cons aTr (AKs.cons (aL Vl) AKs.nil)) fun z => .leaf (resB2 (yesR z.2.1 z.1), [])
noncomputable def tuX : SumBr := obX Try.prog 22 (AKs.cons (aI .i64) AKs.nil) fun z => .leaf (vlA ⟨2, z.1, 0, ⟨#[]⟩⟩, [])
noncomputable def eyX : SumBr := orX lgX (orX evX (orX fsX (orX tyX (orX tmX (orX yeX (orX tuX ftX))))))
theorem eyX_ok : SumGO Try.prog (sumS eyX) := orX_open (obX_ok (by kernel_rfl)) (orX_open (obX_ok (by kernel_rfl)) (orX_open (obX_ok (by kernel_rfl)) (orX_open (obX_ok (by kernel_rfl)) (orX_open (obX_ok (by kernel_rfl)) (orX_open (obX_ok (by kernel_rfl)) (orX_open (obX_ok (by kernel_rfl)) ftX_ok))))))
def ey_cf : Nat → Cfg := cfL []
def ey_a (t : Tr) (cols : List Cl) (row : List Vl) : List AV := [trO t, .fz (eL cols) cols.length cks, .fz (eL row) row.length vks]
noncomputable def ey_t (P : Program) (t : Tr) (cols : List Cl) (row : List Vl) : Br PO :=
(.test (false)
  (.leaf (.fin ⟨Ex.ret, true, [some (AV.s (Value.bool true))], []⟩))
  (.ob (ObE (trO t)   (trA (trD (trO t))))
    (.ob (ObC Try.prog 9 [trA (trD (trO t))]   (AV.s (Value.bool (decide (sizeF (trD (trO t)) (500) > 500)))) [])
      (.test (decide (sizeF (trD (trO t)) (500) > 500))
        (.leaf (.fin ⟨Ex.ret, true, [some (AV.s (Value.bool true))], []⟩))
        (.test (decide ((↑cols.length : Int) > 500))
          (.leaf (.fin ⟨Ex.ret, true, [some (AV.s (Value.bool true))], []⟩))
          (.ob (ObC Try.prog 19 [AV.fz (eL (dL Vl (eL row) row.length)) (dL Vl (eL row) row.length).length (Rec.ks Vl), AV.fz (eL (dL Cl (eL cols) cols.length)) (dL Cl (eL cols) cols.length).length (Rec.ks Cl)] (AV.s (Value.bool (fsF (dL Vl (eL row) row.length) (dL Cl (eL cols) cols.length)))) [])
            (.test (!fsF (dL Vl (eL row) row.length) (dL Cl (eL cols) cols.length))
              (.leaf (.fin ⟨Ex.ret, true, [some (AV.s (Value.bool true))], []⟩))
              (.ob (ObE (trO t)   (trA (trD (trO t))))
                (.ob (ObC Try.prog 20 [trA (trD (trO t)), AV.fz (eL (dL Cl (eL cols) cols.length)) (dL Cl (eL cols) cols.length).length (Rec.ks Cl)]   (AV.tup     [AV.s (Value.int IntKind.u8 (typeF (dL Cl (eL cols) cols.length) (trD (trO t))).fst),       AV.s (Value.int IntKind.i64 (typeF (dL Cl (eL cols) cols.length) (trD (trO t))).snd)])   [])
                  (.ob (ObE (trO t)   (trA (trD (trO t))))
                    (.ob (ObC Try.prog 12 [trA (trD (trO t)), AV.fz (eL (dL Vl (eL row) row.length)) (dL Vl (eL row) row.length).length (Rec.ks Vl)]   (AV.tup     [vlA (evalF (dL Vl (eL row) row.length) (trD (trO t))).fst,       AV.s (Value.int IntKind.i64 (evalF (dL Vl (eL row) row.length) (trD (trO t))).snd)])   [])
                      (.test ((typeF (dL Cl (eL cols) cols.length) (trD (trO t))).snd == 4)
                        (.leaf (.fin ⟨Ex.ret, true, [some (AV.s (Value.bool ((evalF (dL Vl (eL row) row.length) (trD (trO t))).snd == 4)))], []⟩))
                        (.test ((typeF (dL Cl (eL cols) cols.length) (trD (trO t))).snd != 0)
                          (.leaf (.fin ⟨Ex.ret, true, [some (AV.s (Value.bool ((evalF (dL Vl (eL row) row.length) (trD (trO t))).snd != 4)))], []⟩))
                          (.test ((evalF (dL Vl (eL row) row.length) (trD (trO t))).snd != 0)
                            (.test ((evalF (dL Vl (eL row) row.length) (trD (trO t))).snd == 61)
                              (.ob (ObE (trO t)   (trA (trD (trO t))))
                                (.ob (ObC Try.prog 18 [trA (trD (trO t))]   (AV.s (Value.bool (tameF (trD (trO t))))) [])
                                  (.test (!tameF (trD (trO t)))
                                    (.leaf (.fin ⟨Ex.ret, true, [some   (AV.s     (Value.bool       ((evalF (dL Vl (eL row) row.length) (trD (trO t))).fst.k == 0 &&         ((evalF (dL Vl (eL row) row.length) (trD (trO t))).fst.n == 0 &&           ((evalF (dL Vl (eL row) row.length) (trD (trO t))).fst.hi == 0 &&             ((evalF (dL Vl (eL row) row.length) (trD (trO t))).fst.t.toList == (⟨#[]⟩ : ByteArray).toList && true))))))], []⟩))
                                    (.leaf (.fin ⟨Ex.ret, true, [some (AV.v (Value.bool false))], []⟩))
                                  )
                                )
                              )
                              (.leaf (.fin ⟨Ex.ret, true, [some (AV.v (Value.bool false))], []⟩))
                            )
                            (.ob (ObE (trO t)   (trA (trD (trO t))))
                              (.ob (ObC Try.prog 21 [trA (trD (trO t)), AV.fz (eL (dL Vl (eL row) row.length)) (dL Vl (eL row) row.length).length (Rec.ks Vl)]   (AV.tup     [AV.s (Value.bool (yesR (dL Vl (eL row) row.length) (trD (trO t))).fst),       AV.s (Value.int IntKind.i64 (yesR (dL Vl (eL row) row.length) (trD (trO t))).snd)])   [])
                                (.test ((typeF (dL Cl (eL cols) cols.length) (trD (trO t))).fst == 2)
                                  (.test ((yesR (dL Vl (eL row) row.length) (trD (trO t))).snd != 0)
                                    (.leaf (.fin ⟨Ex.ret, true, [some (AV.v (Value.bool false))], []⟩))
                                    (.ob (ObC Try.prog 22 [AV.s (Value.int IntKind.i64 (1))] (vlA { k := 2, n := 1, hi := 0, t := (⟨#[]⟩ : ByteArray) }) [])
                                      (.test (!(yesR (dL Vl (eL row) row.length) (trD (trO t))).fst ==     ((evalF (dL Vl (eL row) row.length) (trD (trO t))).fst.k == ({ k := 2, n := 1, hi := 0, t := (⟨#[]⟩ : ByteArray) } : Vl).k &&       ((evalF (dL Vl (eL row) row.length) (trD (trO t))).fst.n == ({ k := 2, n := 1, hi := 0, t := (⟨#[]⟩ : ByteArray) } : Vl).n &&         ((evalF (dL Vl (eL row) row.length) (trD (trO t))).fst.hi == ({ k := 2, n := 1, hi := 0, t := (⟨#[]⟩ : ByteArray) } : Vl).hi &&           ((evalF (dL Vl (eL row) row.length) (trD (trO t))).fst.t.toList ==               ({ k := 2, n := 1, hi := 0, t := (⟨#[]⟩ : ByteArray) } : Vl).t.toList &&             true)))))
                                        (.leaf (.fin ⟨Ex.ret, true, [some (AV.v (Value.bool false))], []⟩))
                                        (.test ((typeF (dL Cl (eL cols) cols.length) (trD (trO t))).fst == 0)
                                          (.test ((evalF (dL Vl (eL row) row.length) (trD (trO t))).fst.k == 0 &&   ((evalF (dL Vl (eL row) row.length) (trD (trO t))).fst.n == 0 &&     ((evalF (dL Vl (eL row) row.length) (trD (trO t))).fst.hi == 0 &&       ((evalF (dL Vl (eL row) row.length) (trD (trO t))).fst.t.toList == (⟨#[]⟩ : ByteArray).toList && true))))
                                            (.leaf (.fin ⟨Ex.ret, true, [some (AV.v (Value.bool true))], []⟩))
                                            (.ob (ObC Try.prog 23   [vlA       { k := (evalF (dL Vl (eL row) row.length) (trD (trO t))).fst.k,         n := (evalF (dL Vl (eL row) row.length) (trD (trO t))).fst.n,         hi := (evalF (dL Vl (eL row) row.length) (trD (trO t))).fst.hi,         t := (evalF (dL Vl (eL row) row.length) (trD (trO t))).fst.t },     AV.s (Value.int IntKind.u8 (typeF (dL Cl (eL cols) cols.length) (trD (trO t))).fst)]   (AV.s     (Value.bool       (fitsF         { k := (evalF (dL Vl (eL row) row.length) (trD (trO t))).fst.k,           n := (evalF (dL Vl (eL row) row.length) (trD (trO t))).fst.n,           hi := (evalF (dL Vl (eL row) row.length) (trD (trO t))).fst.hi,           t := (evalF (dL Vl (eL row) row.length) (trD (trO t))).fst.t }         (typeF (dL Cl (eL cols) cols.length) (trD (trO t))).fst)))   [])
                                              (.leaf (.fin ⟨Ex.ret, true, [some   (AV.s     (Value.bool       (fitsF         { k := (evalF (dL Vl (eL row) row.length) (trD (trO t))).fst.k,           n := (evalF (dL Vl (eL row) row.length) (trD (trO t))).fst.n,           hi := (evalF (dL Vl (eL row) row.length) (trD (trO t))).fst.hi,           t := (evalF (dL Vl (eL row) row.length) (trD (trO t))).fst.t }         (typeF (dL Cl (eL cols) cols.length) (trD (trO t))).fst)))], []⟩))
                                            )
                                          )
                                          (.ob (ObC Try.prog 23   [vlA       { k := (evalF (dL Vl (eL row) row.length) (trD (trO t))).fst.k,         n := (evalF (dL Vl (eL row) row.length) (trD (trO t))).fst.n,         hi := (evalF (dL Vl (eL row) row.length) (trD (trO t))).fst.hi,         t := (evalF (dL Vl (eL row) row.length) (trD (trO t))).fst.t },     AV.s (Value.int IntKind.u8 (typeF (dL Cl (eL cols) cols.length) (trD (trO t))).fst)]   (AV.s     (Value.bool       (fitsF         { k := (evalF (dL Vl (eL row) row.length) (trD (trO t))).fst.k,           n := (evalF (dL Vl (eL row) row.length) (trD (trO t))).fst.n,           hi := (evalF (dL Vl (eL row) row.length) (trD (trO t))).fst.hi,           t := (evalF (dL Vl (eL row) row.length) (trD (trO t))).fst.t }         (typeF (dL Cl (eL cols) cols.length) (trD (trO t))).fst)))   [])
                                            (.leaf (.fin ⟨Ex.ret, true, [some   (AV.s     (Value.bool       (fitsF         { k := (evalF (dL Vl (eL row) row.length) (trD (trO t))).fst.k,           n := (evalF (dL Vl (eL row) row.length) (trD (trO t))).fst.n,           hi := (evalF (dL Vl (eL row) row.length) (trD (trO t))).fst.hi,           t := (evalF (dL Vl (eL row) row.length) (trD (trO t))).fst.t }         (typeF (dL Cl (eL cols) cols.length) (trD (trO t))).fst)))], []⟩))
                                          )
                                        )
                                      )
                                    )
                                  )
                                  (.test ((typeF (dL Cl (eL cols) cols.length) (trD (trO t))).fst == 0)
                                    (.test ((evalF (dL Vl (eL row) row.length) (trD (trO t))).fst.k == 0 &&   ((evalF (dL Vl (eL row) row.length) (trD (trO t))).fst.n == 0 &&     ((evalF (dL Vl (eL row) row.length) (trD (trO t))).fst.hi == 0 &&       ((evalF (dL Vl (eL row) row.length) (trD (trO t))).fst.t.toList == (⟨#[]⟩ : ByteArray).toList && true))))
                                      (.leaf (.fin ⟨Ex.ret, true, [some (AV.v (Value.bool true))], []⟩))
                                      (.ob (ObC Try.prog 23   [vlA       { k := (evalF (dL Vl (eL row) row.length) (trD (trO t))).fst.k,         n := (evalF (dL Vl (eL row) row.length) (trD (trO t))).fst.n,         hi := (evalF (dL Vl (eL row) row.length) (trD (trO t))).fst.hi,         t := (evalF (dL Vl (eL row) row.length) (trD (trO t))).fst.t },     AV.s (Value.int IntKind.u8 (typeF (dL Cl (eL cols) cols.length) (trD (trO t))).fst)]   (AV.s     (Value.bool       (fitsF         { k := (evalF (dL Vl (eL row) row.length) (trD (trO t))).fst.k,           n := (evalF (dL Vl (eL row) row.length) (trD (trO t))).fst.n,           hi := (evalF (dL Vl (eL row) row.length) (trD (trO t))).fst.hi,           t := (evalF (dL Vl (eL row) row.length) (trD (trO t))).fst.t }         (typeF (dL Cl (eL cols) cols.length) (trD (trO t))).fst)))   [])
                                        (.leaf (.fin ⟨Ex.ret, true, [some   (AV.s     (Value.bool       (fitsF         { k := (evalF (dL Vl (eL row) row.length) (trD (trO t))).fst.k,           n := (evalF (dL Vl (eL row) row.length) (trD (trO t))).fst.n,           hi := (evalF (dL Vl (eL row) row.length) (trD (trO t))).fst.hi,           t := (evalF (dL Vl (eL row) row.length) (trD (trO t))).fst.t }         (typeF (dL Cl (eL cols) cols.length) (trD (trO t))).fst)))], []⟩))
                                      )
                                    )
                                    (.ob (ObC Try.prog 23   [vlA       { k := (evalF (dL Vl (eL row) row.length) (trD (trO t))).fst.k,         n := (evalF (dL Vl (eL row) row.length) (trD (trO t))).fst.n,         hi := (evalF (dL Vl (eL row) row.length) (trD (trO t))).fst.hi,         t := (evalF (dL Vl (eL row) row.length) (trD (trO t))).fst.t },     AV.s (Value.int IntKind.u8 (typeF (dL Cl (eL cols) cols.length) (trD (trO t))).fst)]   (AV.s     (Value.bool       (fitsF         { k := (evalF (dL Vl (eL row) row.length) (trD (trO t))).fst.k,           n := (evalF (dL Vl (eL row) row.length) (trD (trO t))).fst.n,           hi := (evalF (dL Vl (eL row) row.length) (trD (trO t))).fst.hi,           t := (evalF (dL Vl (eL row) row.length) (trD (trO t))).fst.t }         (typeF (dL Cl (eL cols) cols.length) (trD (trO t))).fst)))   [])
                                      (.leaf (.fin ⟨Ex.ret, true, [some   (AV.s     (Value.bool       (fitsF         { k := (evalF (dL Vl (eL row) row.length) (trD (trO t))).fst.k,           n := (evalF (dL Vl (eL row) row.length) (trD (trO t))).fst.n,           hi := (evalF (dL Vl (eL row) row.length) (trD (trO t))).fst.hi,           t := (evalF (dL Vl (eL row) row.length) (trD (trO t))).fst.t }         (typeF (dL Cl (eL cols) cols.length) (trD (trO t))).fst)))], []⟩))
                                    )
                                  )
                                )
                              )
                            )
                          )
                        )
                      )
                    )
                  )
                )
              )
            )
          )
        )
      )
    )
  )
)
theorem ey_h (t : Tr) (cols : List Cl) (row : List Vl) : (ev Try.prog eyX worksS 3000 noL 3000 .normal [.c 0 (codeOf Try.prog 7)] (params (ey_a t cols row)) Ev.start).map (lookP Try.prog (resOf Try.prog 7) [] ey_cf) = ey_t Try.prog t cols row := by kernel_rfl

theorem vz_of {v : Vl} (h : v = default) : (v.k == 0 && (v.n == 0 && (v.hi == 0 && (v.t.toList == (⟨#[]⟩ : ByteArray).toList && true)))) = true := by
  subst h
  show ((0 : Int) == 0 && ((0 : Int) == 0 && ((0 : Int) == 0 && ((⟨#[]⟩ : ByteArray).toList == (⟨#[]⟩ : ByteArray).toList && true)))) = true
  simp
theorem vz_no {v : Vl} (h : (v.k == 0 && (v.n == 0 && (v.hi == 0 && (v.t.toList == (⟨#[]⟩ : ByteArray).toList && true)))) = false) : v ≠ ⟨0, 0, 0, ⟨#[]⟩⟩ := fun e => by subst e; simp at h
theorem v1_eq {v : Vl} (h : hasT v 2) : (yesF v == (v.k == (⟨2, 1, 0, ⟨#[]⟩⟩ : Vl).k && (v.n == (⟨2, 1, 0, ⟨#[]⟩⟩ : Vl).n && (v.hi == (⟨2, 1, 0, ⟨#[]⟩⟩ : Vl).hi && (v.t.toList == (⟨2, 1, 0, ⟨#[]⟩⟩ : Vl).t.toList && true))))) = true := by
  rcases h with ⟨h, _⟩ | h
  · exact absurd h (by decide)
  · obtain ⟨k, n, hi, t⟩ := v
    simp only [fitsF, Bool.and_eq_true, Bool.or_eq_true, decide_eq_true_eq] at h
    obtain ⟨_, _, h1, h2⟩ := h
    rcases h2 with rfl | rfl
    · simp [vmayF] at h1
      obtain ⟨rfl, rfl, rfl⟩ := h1
      rfl
    · simp [vmayF] at h1
      obtain ⟨h1, rfl, rfl⟩ := h1
      rcases h1 with rfl | rfl
      · rfl
      · simp [yesF]
theorem ey_ok (t : Tr) (cols : List Cl) (row : List Vl) : OCalls Try.prog 7 [trA t, .fz (eL cols) cols.length cks, .fz (eL row) row.length vks] (.s (.bool true)) [] := by
  have yev : Goes ⟨.ret, true, [some (.v (.bool true))], []⟩ [.s (.bool true)] [] := ⟨rfl, (.cons _ _ _ _ (.vs _) .nil), .nil⟩
  have yes : ∀ x, x = true → Goes ⟨.ret, true, [some (.s (.bool x))], []⟩ [.s (.bool true)] [] := fun x hx => ⟨rfl, (.cons _ _ _ _ (.ofEq (by rw [hx])) .nil), .nil⟩
  refine OCalls.le (args := ey_a t cols row) ?_ (.cons _ _ _ _ (trO_le t) (Les.refl _))
  refine floyd0 ev_mix ev_ok eyX_ok worksS_ok (by kernel_rfl) [] ey_cf (ey_t _ t cols row) (ey_h t cols row) ?_
  unfold ey_t
  simp only [trD_B, dL_eL]
  refine hSf (hOB (hO ⟨lg_ok _⟩ (hSd (fun _ => yes _ rfl) fun _ => hSd (fun _ => yes _ rfl) fun _ => hO ⟨fs_ok row cols⟩ (hS (fun _ => yes _ rfl) fun hfs => ?_))))
  have hfs : fsF row cols = true := by simpa using hfs
  obtain ⟨form, ref, err, fit, op0⟩ := ty_law (t := t) hfs
  have hyes : (typeF cols t).2 = 0 → (evalF row t).2 = 0 → (typeF cols t).1 = 2 → yesR row t = (yesF (evalF row t).1, 0) := fun a b c => by
    have h := fit a b
    rw [c] at h
    have := (hasT_kind h).1
    unfold yesR
    rw [if_neg (op0 a), if_neg (fun x => x b), if_neg (by omega)]
  refine hOB (hO ⟨ty_ok t cols⟩ (hOB (hO ⟨va_ok t row⟩ ?_)))
  have hYs := ys_ok t row
  generalize yesR row t = R at *
  generalize hE : evalF row t = E at *
  generalize hY : typeF cols t = Y at *
  refine hSe (fun h4 => yes _ (by rw [form h4]; rfl)) fun h4 => ?_
  have r4 := ref h4
  refine hS (fun _ => yes _ (by simpa using r4)) fun h0 => ?_
  have h0 : Y.2 = 0 := by simpa using h0
  refine hS (fun e0 => ?_) fun e0 => ?_
  · have e0 : E.2 ≠ 0 := by simpa using e0
    obtain ⟨e1, e2, e3⟩ := err h0 e0
    exact hT (by simpa using e1) (hOB (hO ⟨tam_ok t⟩ (hT (by rw [e2]; rfl) (yes _ (vz_of e3)))))
  · have e0 : E.2 = 0 := by simpa using e0
    have hf := fit h0 e0
    have hR := hyes h0 e0
    have tail : ∀ {K : PO → Prop}, (∀ o, Goes o [.s (.bool true)] [] → K (.fin o)) → (Br.test (Y.1 == 0) (.test (E.1.k == 0 && (E.1.n == 0 && (E.1.hi == 0 && (E.1.t.toList == (⟨#[]⟩ : ByteArray).toList && true)))) (.leaf (.fin ⟨.ret, true, [some (.v (.bool true))], []⟩)) (.ob (ObC Try.prog 23 [vlA E.1, .s (.int .u8 Y.1)] (.s (.bool (fitsF E.1 Y.1))) []) (.leaf (.fin ⟨.ret, true, [some (.s (.bool (fitsF E.1 Y.1)))], []⟩)))) (.ob (ObC Try.prog 23 [vlA E.1, .s (.int .u8 Y.1)] (.s (.bool (fitsF E.1 Y.1))) []) (.leaf (.fin ⟨.ret, true, [some (.s (.bool (fitsF E.1 Y.1)))], []⟩)))).Holds K := fun hK => by
      refine hSe (fun y0 => hS (fun _ => hK _ yev) fun v0 => hO ⟨ft_ok _ _⟩ (hK _ (yes _ ?_))) fun y0 => hO ⟨ft_ok _ _⟩ (hK _ (yes _ ?_))
      · rcases hf with ⟨_, h⟩ | h
        · exact absurd h (vz_no v0)
        · exact h
      · rcases hf with ⟨h, _⟩ | h
        · exact absurd h y0
        · exact h
    refine hOB (hO ⟨hYs⟩ (hSe (fun y2 => ?_) fun y2 => tail fun o ho => ho))
    have hR := hR y2
    refine hS (fun x => ?_) fun _ => hO ⟨tu_ok 1⟩ (hS (fun x => ?_) fun _ => tail fun o ho => ho)
    · rw [hR] at x; exact absurd x (by simp)
    · rw [hR] at x
      rw [y2] at hf
      rw [v1_eq hf] at x
      cases x
end Go.Proofs.Ytengccmjlaejfaa
end
