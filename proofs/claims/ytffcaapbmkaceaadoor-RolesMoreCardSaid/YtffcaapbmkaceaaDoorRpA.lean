/- slices.Index and its like of texts and of pairs of texts. No condition. -/
import Derived.Test.YtffcaapbmkaceaaDoorPl
import Derived.Test.YtffcaapbmkaceaaDoorProg
import Derived.Test.YtffcaapbmkaceaaDoorMix
import Derived.KernelRfl
namespace Go.Proofs.YtffcaapbmkaceaaDoor
open Ev Go.RowKit
set_option maxRecDepth 100000
set_option linter.unusedVariables false
theorem noSO : SumGO Tryd.prog noS := noS_ok.open
def index_cf : Nat → Cfg := cfL [mkC 19 [0, 1, 7, 8] []]
def index_a (L : List ByteArray) (x : ByteArray) : List AV := [.fz (eL L) L.length [.str], .s (.string x)]
noncomputable def index_t (P : Program) (L : List ByteArray) (x : ByteArray) : Br PO :=
(.leaf (.at 0 (ct P 49 0).1 (ct P 49 0).2 ⟨Ex.normal, true, [some (AV.fz (eL L) L.length [TK.str]), some (AV.s (Value.string x)), some (AV.s (Value.int IntKind.i64 (Int.ofNat L.length))), some (AV.v (Value.int IntKind.i64 (0)))], []⟩))
theorem index_h (L : List ByteArray) (x : ByteArray) : (ev Tryd.prog noX noS 3000 noL 3000 .normal [.c 0 (codeOf Tryd.prog 49)] (params (index_a L x)) Ev.start).map (lookP Tryd.prog (resOf Tryd.prog 49) [] index_cf) = index_t Tryd.prog L x := by kernel_rfl
def index_v0 (L : List ByteArray) (x : ByteArray) (i : Nat) : List AV := [.fz (eL L) L.length [.str], .s (.string x), .s (.int .i64 L.length), .s (.int .i64 i)]
def index_o0 (L : List ByteArray) (x : ByteArray) (i : Nat) : List AO := []
noncomputable def index_t0 (P : Program) (L : List ByteArray) (x : ByteArray) (i : Nat) : Br PO :=
(.test (decide ((↑i : Int) < (↑L.length : Int)))
  (.test (decide (0 ≤ (↑i : Int)) && decide ((↑i : Int) < (↑L.length : Int)))
    (.test (x.toList == (L.getD (↑i : Int).toNat default).toList)
      (.leaf (.fin ⟨Ex.ret, true, [some (AV.s (Value.int IntKind.i64 (Int.ofNat i)))], []⟩))
      (.leaf (.at 0 (ct P 49 0).1 (ct P 49 0).2 ⟨Ex.normal, true, [some (AV.fz (eL L) L.length [TK.str]), some (AV.s (Value.string x)), some (AV.s (Value.int IntKind.i64 (Int.ofNat L.length))), some (AV.s (Value.int IntKind.i64 (IntKind.i64.wrap ((↑i : Int) + 1))))], []⟩))
    )
    .no
  )
  (.leaf (.fin ⟨Ex.ret, true, [some (AV.v (Value.int IntKind.i64 (Int.negSucc 0)))], []⟩))
)
theorem index_h0 (L : List ByteArray) (x : ByteArray) (i : Nat) (j : Nat → Value) : (ev Tryd.prog noX noS 3000 noL 3000 .normal (hd Tryd.prog 49 0) (mkE (index_cf 0) (index_v0 L x i) j) (mkH openB (index_o0 L x i))).map (lookP Tryd.prog (resOf Tryd.prog 49) [] index_cf) = index_t0 Tryd.prog L x i := by kernel_rfl

theorem index_ok (L : List ByteArray) (x : ByteArray) : OCalls Tryd.prog 49 (index_a L x) (.s (.int .i64 (idxS L x))) [] := OCalls.bnd fun hb =>
  floyd ev_mix ev_ok noX_open noSO (by kernel_rfl) [] index_cf (fun i => L.length - i) (fun _ => 0) (index_v0 L x) (index_o0 L x) (fun i => i ≤ L.length ∧ ∀ k, k < i → L.getD k default ≠ x) (index_t0 _ L x) (index_t _ L x) (index_h L x) (index_h0 L x)
    ⟨0, ⟨Nat.zero_le _, fun k h => absurd h (Nat.not_lt_zero k)⟩, rfl, rfl, rfl, .cons _ _ _ _ (.refl _) (.cons _ _ _ _ (.refl _) (.cons _ _ _ _ (.refl _) (.cons _ _ _ _ (.vs _) .nil))), .nil⟩
    (by
      intro i ⟨hi, hn⟩
      have hL : L.length ≤ 9223372036854775807 := hb.1
      refine ⟨fun h => ⟨fun _ => ⟨fun h2 => ?_, fun h2 => ?_⟩, fun h2 => ?_⟩, fun h => ?_⟩
      · simp only [decide_eq_true_eq] at h
        rw [ba_eq, decide_eq_true_eq] at h2
        exact ⟨rfl, .cons _ _ _ _ (.ofEq (by rw [idxS_hit (i := i) (by omega) h2.symm hn]; rfl)) .nil, .nil⟩
      · simp only [decide_eq_true_eq] at h
        rw [ba_eq, decide_eq_false_iff_not] at h2
        refine ⟨i + 1, ⟨by omega, fun k hk => ?_⟩, rel_nat (by omega), rfl, rfl, rfl, .cons _ _ _ _ (.refl _) (.cons _ _ _ _ (.refl _) (.cons _ _ _ _ (.refl _) (.cons _ _ _ _ (.ofEq (by rw [wrap_lt (by omega) (by omega)]; rfl)) .nil))), .nil⟩
        rcases Nat.lt_or_ge k i with c | c
        · exact hn k c
        · obtain rfl : k = i := by omega
          exact fun e => h2 e.symm
      · simp_all
      · simp only [decide_eq_false_iff_not] at h
        exact ⟨rfl, .cons _ _ _ _ (by rw [idxS_none (fun k hk => hn k (by omega))]; exact .vs _) .nil, .nil⟩)
def index2_cf : Nat → Cfg := cfL [mkC 19 [0, 3, 7, 8] [(3, [])]]
def index2_a (L : List (ByteArray × ByteArray)) (x y : ByteArray) : List AV := [.fz (eL L) L.length [.str, .str], .s (.agg #[.string x, .string y])]
noncomputable def index2_t (P : Program) (L : List (ByteArray × ByteArray)) (x y : ByteArray) : Br PO :=
(.leaf (.at 0 (ct P 34 0).1 (ct P 34 0).2 ⟨Ex.normal, true, [some (AV.fz (eL L) L.length [TK.str, TK.str]), some (AV.ptr 65536 0 0), some (AV.s (Value.int IntKind.i64 (Int.ofNat L.length))), some (AV.v (Value.int IntKind.i64 (0)))], [OS.o (AO.cells [AV.s (Value.string x), AV.s (Value.string y)] 2 65536 true false)]⟩))
theorem index2_h (L : List (ByteArray × ByteArray)) (x y : ByteArray) : (ev Tryd.prog noX noS 3000 noL 3000 .normal [.c 0 (codeOf Tryd.prog 34)] (params (index2_a L x y)) Ev.start).map (lookP Tryd.prog (resOf Tryd.prog 34) [] index2_cf) = index2_t Tryd.prog L x y := by kernel_rfl
def index2_v0 (L : List (ByteArray × ByteArray)) (x y : ByteArray) (i : Nat) : List AV := [.fz (eL L) L.length [.str, .str], .ptr 65536 0 0, .s (.int .i64 L.length), .s (.int .i64 i)]
def index2_o0 (L : List (ByteArray × ByteArray)) (x y : ByteArray) (i : Nat) : List AO := [.cells [.s (.string x), .s (.string y)] 2 0 true false]
noncomputable def index2_t0 (P : Program) (L : List (ByteArray × ByteArray)) (x y : ByteArray) (i : Nat) : Br PO :=
(.test (decide ((↑i : Int) < (↑L.length : Int)))
  (.test (decide (0 ≤ (↑i : Int)) && decide ((↑i : Int) < (↑L.length : Int)))
    (.test (x.toList == (L.getD (↑i : Int).toNat default).fst.toList && (y.toList == (L.getD (↑i : Int).toNat default).snd.toList && true))
      (.leaf (.fin ⟨Ex.ret, true, [some (AV.s (Value.int IntKind.i64 (Int.ofNat i)))], []⟩))
      (.leaf (.at 0 (ct P 34 0).1 (ct P 34 0).2 ⟨Ex.normal, true, [some (AV.fz (eL L) L.length [TK.str, TK.str]), some (AV.ptr 65536 0 0), some (AV.s (Value.int IntKind.i64 (Int.ofNat L.length))), some (AV.s (Value.int IntKind.i64 (IntKind.i64.wrap ((↑i : Int) + 1))))], [OS.o (AO.cells [AV.s (Value.string x), AV.s (Value.string y)] 2 0 true false)]⟩))
    )
    .no
  )
  (.leaf (.fin ⟨Ex.ret, true, [some (AV.v (Value.int IntKind.i64 (Int.negSucc 0)))], []⟩))
)
theorem index2_h0 (L : List (ByteArray × ByteArray)) (x y : ByteArray) (i : Nat) (j : Nat → Value) : (ev Tryd.prog noX noS 3000 noL 3000 .normal (hd Tryd.prog 34 0) (mkE (index2_cf 0) (index2_v0 L x y i) j) (mkH openB (index2_o0 L x y i))).map (lookP Tryd.prog (resOf Tryd.prog 34) [] index2_cf) = index2_t0 Tryd.prog L x y i := by kernel_rfl

theorem index2_ok (L : List (ByteArray × ByteArray)) (x y : ByteArray) : OCalls Tryd.prog 34 (index2_a L x y) (.s (.int .i64 (idxS L (x, y)))) [] := OCalls.bnd fun hb =>
  floyd ev_mix ev_ok noX_open noSO (by kernel_rfl) [] index2_cf (fun i => L.length - i) (fun _ => 0) (index2_v0 L x y) (index2_o0 L x y) (fun i => i ≤ L.length ∧ ∀ k, k < i → L.getD k default ≠ (x, y)) (index2_t0 _ L x y) (index2_t _ L x y) (index2_h L x y) (index2_h0 L x y)
    ⟨0, ⟨Nat.zero_le _, fun k h => absurd h (Nat.not_lt_zero k)⟩, rfl, rfl, rfl, .cons _ _ _ _ (.refl _) (.cons _ _ _ _ (.refl _) (.cons _ _ _ _ (.refl _) (.cons _ _ _ _ (.vs _) .nil))), .cons _ _ _ _ (.cells _ _ _ _ _ _ _ (Les.refl _)) .nil⟩
    (by
      intro i ⟨hi, hn⟩
      have hL : L.length ≤ 9223372036854775807 := hb.1
      refine ⟨fun h => ⟨fun _ => ⟨fun h2 => ?_, fun h2 => ?_⟩, fun h2 => ?_⟩, fun h => ?_⟩
      · simp only [decide_eq_true_eq] at h
        rw [ba_eq2, decide_eq_true_eq] at h2
        exact ⟨rfl, .cons _ _ _ _ (.ofEq (by rw [idxS_hit (i := i) (by omega) h2.symm hn]; rfl)) .nil, .nil⟩
      · simp only [decide_eq_true_eq] at h
        rw [ba_eq2, decide_eq_false_iff_not] at h2
        refine ⟨i + 1, ⟨by omega, fun k hk => ?_⟩, rel_nat (by omega), rfl, rfl, rfl, .cons _ _ _ _ (.refl _) (.cons _ _ _ _ (.refl _) (.cons _ _ _ _ (.refl _) (.cons _ _ _ _ (.ofEq (by rw [wrap_lt (by omega) (by omega)]; rfl)) .nil))), .cons _ _ _ _ (.cells _ _ _ _ _ _ _ (Les.refl _)) .nil⟩
        rcases Nat.lt_or_ge k i with c | c
        · exact hn k c
        · obtain rfl : k = i := by omega
          exact fun e => h2 e.symm
      · simp_all
      · simp only [decide_eq_false_iff_not] at h
        exact ⟨rfl, .cons _ _ _ _ (by rw [idxS_none (fun k hk => hn k (by omega))]; exact .vs _) .nil, .nil⟩)
def equal_cf : Nat → Cfg := cfL [mkC 26 [0, 1, 12, 13] []]
def equal_a (L M : List ByteArray) : List AV := [.fz (eL L) L.length [.str], .fz (eL M) M.length [.str]]
noncomputable def equal_t (P : Program) (L M : List ByteArray) : Br PO :=
(.test ((↑L.length : Int) != (↑M.length : Int))
  (.leaf (.fin ⟨Ex.ret, true, [some (AV.v (Value.bool false))], []⟩))
  (.leaf (.at 0 (ct P 41 0).1 (ct P 41 0).2 ⟨Ex.normal, true, [some (AV.fz (eL L) L.length [TK.str]), some (AV.fz (eL M) M.length [TK.str]), some (AV.s (Value.int IntKind.i64 (Int.ofNat L.length))), some (AV.v (Value.int IntKind.i64 (0)))], []⟩))
)
theorem equal_h (L M : List ByteArray) : (ev Tryd.prog noX noS 3000 noL 3000 .normal [.c 0 (codeOf Tryd.prog 41)] (params (equal_a L M)) Ev.start).map (lookP Tryd.prog (resOf Tryd.prog 41) [] equal_cf) = equal_t Tryd.prog L M := by kernel_rfl
def equal_v0 (L M : List ByteArray) (i : Nat) : List AV := [.fz (eL L) L.length [.str], .fz (eL M) M.length [.str], .s (.int .i64 L.length), .s (.int .i64 i)]
def equal_o0 (L M : List ByteArray) (i : Nat) : List AO := []
noncomputable def equal_t0 (P : Program) (L M : List ByteArray) (i : Nat) : Br PO :=
(.test (decide ((↑i : Int) < (↑L.length : Int)))
  (.test (decide (0 ≤ (↑i : Int)) && decide ((↑i : Int) < (↑L.length : Int)))
    (.test (decide (0 ≤ (↑i : Int)) && decide ((↑i : Int) < (↑M.length : Int)))
      (.test (!(L.getD (↑i : Int).toNat default).toList == (M.getD (↑i : Int).toNat default).toList)
        (.leaf (.fin ⟨Ex.ret, true, [some (AV.v (Value.bool false))], []⟩))
        (.leaf (.at 0 (ct P 41 0).1 (ct P 41 0).2 ⟨Ex.normal, true, [some (AV.fz (eL L) L.length [TK.str]), some (AV.fz (eL M) M.length [TK.str]), some (AV.s (Value.int IntKind.i64 (Int.ofNat L.length))), some (AV.s (Value.int IntKind.i64 (IntKind.i64.wrap ((↑i : Int) + 1))))], []⟩))
      )
      .no
    )
    .no
  )
  (.leaf (.fin ⟨Ex.ret, true, [some (AV.v (Value.bool true))], []⟩))
)
theorem equal_h0 (L M : List ByteArray) (i : Nat) (j : Nat → Value) : (ev Tryd.prog noX noS 3000 noL 3000 .normal (hd Tryd.prog 41 0) (mkE (equal_cf 0) (equal_v0 L M i) j) (mkH openB (equal_o0 L M i))).map (lookP Tryd.prog (resOf Tryd.prog 41) [] equal_cf) = equal_t0 Tryd.prog L M i := by kernel_rfl

theorem equal_ok (L M : List ByteArray) : OCalls Tryd.prog 41 (equal_a L M) (.s (.bool (decide (L = M)))) [] := OCalls.bnd fun hb =>
  floyd ev_mix ev_ok noX_open noSO (by kernel_rfl) [] equal_cf (fun i => L.length - i) (fun _ => 0) (equal_v0 L M) (equal_o0 L M) (fun i => L.length = M.length ∧ i ≤ L.length ∧ ∀ k, k < i → L.getD k default = M.getD k default) (equal_t0 _ L M) (equal_t _ L M) (equal_h L M) (equal_h0 L M)
    (by
      refine ⟨fun h => ?_, fun h => ?_⟩
      · have hne : L ≠ M := fun e => by subst e; simp at h
        exact ⟨rfl, .cons _ _ _ _ (by rw [decide_eq_false hne]; exact .vs _) .nil, .nil⟩
      · have hl : L.length = M.length := by simp at h; omega
        exact ⟨0, ⟨hl, Nat.zero_le _, fun k h => absurd h (Nat.not_lt_zero k)⟩, rfl, rfl, rfl, .cons _ _ _ _ (.refl _) (.cons _ _ _ _ (.refl _) (.cons _ _ _ _ (.refl _) (.cons _ _ _ _ (.vs _) .nil))), .nil⟩)
    (by
      intro i ⟨hl, hi, hn⟩
      have hL : L.length ≤ 9223372036854775807 := hb.1
      refine ⟨fun h => ⟨fun _ => ⟨fun _ => ⟨fun h2 => ?_, fun h2 => ?_⟩, fun h2 => ?_⟩, fun h2 => ?_⟩, fun h => ?_⟩
      · simp only [decide_eq_true_eq] at h
        rw [ba_eq, Bool.not_eq_true', decide_eq_false_iff_not] at h2
        have hne : L ≠ M := fun e => by subst e; exact h2 rfl
        exact ⟨rfl, .cons _ _ _ _ (by rw [decide_eq_false hne]; exact .vs _) .nil, .nil⟩
      · simp only [decide_eq_true_eq] at h
        rw [ba_eq, Bool.not_eq_false', decide_eq_true_eq] at h2
        refine ⟨i + 1, ⟨hl, by omega, fun k hk => ?_⟩, rel_nat (by omega), rfl, rfl, rfl, .cons _ _ _ _ (.refl _) (.cons _ _ _ _ (.refl _) (.cons _ _ _ _ (.refl _) (.cons _ _ _ _ (.ofEq (by rw [wrap_lt (by omega) (by omega)]; rfl)) .nil))), .nil⟩
        rcases Nat.lt_or_ge k i with c | c
        · exact hn k c
        · obtain rfl : k = i := by omega
          exact h2
      · simp at h h2; omega
      · simp at h h2; omega
      · simp only [decide_eq_false_iff_not] at h
        have he : L = M := eq_getD hl fun k hk => hn k (by omega)
        exact ⟨rfl, .cons _ _ _ _ (by rw [decide_eq_true he]; exact .vs _) .nil, .nil⟩)
def equal2_cf : Nat → Cfg := cfL [mkC 26 [0, 1, 12, 13] []]
def equal2_a (L M : List (ByteArray × ByteArray)) : List AV := [.fz (eL L) L.length [.str, .str], .fz (eL M) M.length [.str, .str]]
noncomputable def equal2_t (P : Program) (L M : List (ByteArray × ByteArray)) : Br PO :=
(.test ((↑L.length : Int) != (↑M.length : Int))
  (.leaf (.fin ⟨Ex.ret, true, [some (AV.v (Value.bool false))], []⟩))
  (.leaf (.at 0 (ct P 42 0).1 (ct P 42 0).2 ⟨Ex.normal, true, [some (AV.fz (eL L) L.length [TK.str, TK.str]), some (AV.fz (eL M) M.length [TK.str, TK.str]), some (AV.s (Value.int IntKind.i64 (Int.ofNat L.length))), some (AV.v (Value.int IntKind.i64 (0)))], []⟩))
)
theorem equal2_h (L M : List (ByteArray × ByteArray)) : (ev Tryd.prog noX noS 3000 noL 3000 .normal [.c 0 (codeOf Tryd.prog 42)] (params (equal2_a L M)) Ev.start).map (lookP Tryd.prog (resOf Tryd.prog 42) [] equal2_cf) = equal2_t Tryd.prog L M := by kernel_rfl
def equal2_v0 (L M : List (ByteArray × ByteArray)) (i : Nat) : List AV := [.fz (eL L) L.length [.str, .str], .fz (eL M) M.length [.str, .str], .s (.int .i64 L.length), .s (.int .i64 i)]
def equal2_o0 (L M : List (ByteArray × ByteArray)) (i : Nat) : List AO := []
noncomputable def equal2_t0 (P : Program) (L M : List (ByteArray × ByteArray)) (i : Nat) : Br PO :=
(.test (decide ((↑i : Int) < (↑L.length : Int)))
  (.test (decide (0 ≤ (↑i : Int)) && decide ((↑i : Int) < (↑L.length : Int)))
    (.test (decide (0 ≤ (↑i : Int)) && decide ((↑i : Int) < (↑M.length : Int)))
      (.test (!((L.getD (↑i : Int).toNat default).fst.toList == (M.getD (↑i : Int).toNat default).fst.toList && ((L.getD (↑i : Int).toNat default).snd.toList == (M.getD (↑i : Int).toNat default).snd.toList && true)))
        (.leaf (.fin ⟨Ex.ret, true, [some (AV.v (Value.bool false))], []⟩))
        (.leaf (.at 0 (ct P 42 0).1 (ct P 42 0).2 ⟨Ex.normal, true, [some (AV.fz (eL L) L.length [TK.str, TK.str]), some (AV.fz (eL M) M.length [TK.str, TK.str]), some (AV.s (Value.int IntKind.i64 (Int.ofNat L.length))), some (AV.s (Value.int IntKind.i64 (IntKind.i64.wrap ((↑i : Int) + 1))))], []⟩))
      )
      .no
    )
    .no
  )
  (.leaf (.fin ⟨Ex.ret, true, [some (AV.v (Value.bool true))], []⟩))
)
theorem equal2_h0 (L M : List (ByteArray × ByteArray)) (i : Nat) (j : Nat → Value) : (ev Tryd.prog noX noS 3000 noL 3000 .normal (hd Tryd.prog 42 0) (mkE (equal2_cf 0) (equal2_v0 L M i) j) (mkH openB (equal2_o0 L M i))).map (lookP Tryd.prog (resOf Tryd.prog 42) [] equal2_cf) = equal2_t0 Tryd.prog L M i := by kernel_rfl

theorem equal2_ok (L M : List (ByteArray × ByteArray)) : OCalls Tryd.prog 42 (equal2_a L M) (.s (.bool (decide (L = M)))) [] := OCalls.bnd fun hb =>
  floyd ev_mix ev_ok noX_open noSO (by kernel_rfl) [] equal2_cf (fun i => L.length - i) (fun _ => 0) (equal2_v0 L M) (equal2_o0 L M) (fun i => L.length = M.length ∧ i ≤ L.length ∧ ∀ k, k < i → L.getD k default = M.getD k default) (equal2_t0 _ L M) (equal2_t _ L M) (equal2_h L M) (equal2_h0 L M)
    (by
      refine ⟨fun h => ?_, fun h => ?_⟩
      · have hne : L ≠ M := fun e => by subst e; simp at h
        exact ⟨rfl, .cons _ _ _ _ (by rw [decide_eq_false hne]; exact .vs _) .nil, .nil⟩
      · have hl : L.length = M.length := by simp at h; omega
        exact ⟨0, ⟨hl, Nat.zero_le _, fun k h => absurd h (Nat.not_lt_zero k)⟩, rfl, rfl, rfl, .cons _ _ _ _ (.refl _) (.cons _ _ _ _ (.refl _) (.cons _ _ _ _ (.refl _) (.cons _ _ _ _ (.vs _) .nil))), .nil⟩)
    (by
      intro i ⟨hl, hi, hn⟩
      have hL : L.length ≤ 9223372036854775807 := hb.1
      refine ⟨fun h => ⟨fun _ => ⟨fun _ => ⟨fun h2 => ?_, fun h2 => ?_⟩, fun h2 => ?_⟩, fun h2 => ?_⟩, fun h => ?_⟩
      · simp only [decide_eq_true_eq] at h
        rw [ba_eq3, Bool.not_eq_true', decide_eq_false_iff_not] at h2
        have hne : L ≠ M := fun e => by subst e; exact h2 rfl
        exact ⟨rfl, .cons _ _ _ _ (by rw [decide_eq_false hne]; exact .vs _) .nil, .nil⟩
      · simp only [decide_eq_true_eq] at h
        rw [ba_eq3, Bool.not_eq_false', decide_eq_true_eq] at h2
        refine ⟨i + 1, ⟨hl, by omega, fun k hk => ?_⟩, rel_nat (by omega), rfl, rfl, rfl, .cons _ _ _ _ (.refl _) (.cons _ _ _ _ (.refl _) (.cons _ _ _ _ (.refl _) (.cons _ _ _ _ (.ofEq (by rw [wrap_lt (by omega) (by omega)]; rfl)) .nil))), .nil⟩
        rcases Nat.lt_or_ge k i with c | c
        · exact hn k c
        · obtain rfl : k = i := by omega
          exact h2
      · simp at h h2; omega
      · simp at h h2; omega
      · simp only [decide_eq_false_iff_not] at h
        have he : L = M := eq_getD hl fun k hk => hn k (by omega)
        exact ⟨rfl, .cons _ _ _ _ (by rw [decide_eq_true he]; exact .vs _) .nil, .nil⟩)
def clone_cf : Nat → Cfg := cfL []
def clone_a (f : Nat → Nat → D) (n : Nat) : List AV := [.fz f n.succ [.str]]
noncomputable def clone_t (P : Program) (f : Nat → Nat → D) (n : Nat) : Br PO :=
(.test (small n.succ && small (Tryd.prog.types[9].bytes * n.succ))
  (.leaf (.fin ⟨Ex.ret, true, [some (AV.osl 65536 n.succ)], [OS.o (AO.rows f n.succ [TK.str])]⟩))
  .no
)
theorem clone_h (f : Nat → Nat → D) (n : Nat) : (ev Tryd.prog noX noS 3000 noL 3000 .normal [.c 0 (codeOf Tryd.prog 31)] (params (clone_a f n)) Ev.start).map (lookP Tryd.prog (resOf Tryd.prog 31) [[]] clone_cf) = clone_t Tryd.prog f n := by kernel_rfl

def cloneN_cf : Nat → Cfg := cfL []
def cloneN_a  : List AV := [.v (.slice none 0 0)]
noncomputable def cloneN_t (P : Program)  : Br PO :=
(.leaf (.fin ⟨Ex.ret, true, [some (AV.v (Value.slice none 0 0))], [OS.nil]⟩))
theorem cloneN_h  : (ev Tryd.prog noX noS 3000 noL 3000 .normal [.c 0 (codeOf Tryd.prog 31)] (params (cloneN_a )) Ev.start).map (lookP Tryd.prog (resOf Tryd.prog 31) [[]] cloneN_cf) = cloneN_t Tryd.prog  := by kernel_rfl

def cloneE_cf : Nat → Cfg := cfL []
def cloneE_a  : List AV := [.none0 false]
noncomputable def cloneE_t (P : Program)  : Br PO :=
(.leaf (.fin ⟨Ex.ret, true, [some (AV.sl 65536 0 0 (some 0))], [OS.o (AO.cells [] 1 65536 true false)]⟩))
theorem cloneE_h  : (ev Tryd.prog noX noS 3000 noL 3000 .normal [.c 0 (codeOf Tryd.prog 31)] (params (cloneE_a )) Ev.start).map (lookP Tryd.prog (resOf Tryd.prog 31) [[]] cloneE_cf) = cloneE_t Tryd.prog  := by kernel_rfl

theorem clone_ok (f : Nat → Nat → D) (n : Nat) (hn : n ≤ 1000000) : OCalls Tryd.prog 31 [.fz f n [.str]] (.osl 65536 n) [.rows f n [.str]] := by
  cases n with
  | zero =>
    intro m w ys hm hys
    obtain ⟨y, r, e, ⟨_, hy⟩, hr⟩ := hys
    have hy0 : ∃ a k, y = .slice a 0 k ∧ (a = none → k = 0) := by
      unfold FzRel at hy
      rcases hy with ⟨_, h⟩ | ⟨b, o, k, C, eT, fr, rfl, _⟩
      · exact h
      · exact ⟨_, k, rfl, fun h => by cases h⟩
    obtain ⟨a, k, rfl, hk⟩ := hy0
    cases a with
    | none =>
      obtain rfl := hk rfl
      exact (floyd0 ev_mix ev_ok noX_open noSO (by kernel_rfl) [[]] cloneN_cf (cloneN_t _) cloneN_h ⟨rfl, .cons _ _ _ _ (.nilv _) .nil, .cons _ _ _ _ (.nil _ _) .nil⟩ : OCalls Tryd.prog 31 cloneN_a (.osl 65536 0) [.rows f 0 [.str]]) m w ys hm ⟨_, r, e, rfl, hr⟩
    | some a =>
      exact (floyd0 ev_mix ev_ok noX_open noSO (by kernel_rfl) [[]] cloneE_cf (cloneE_t _) cloneE_h ⟨rfl, .cons _ _ _ _ (.sl0 _ _ _) .nil, .cons _ _ _ _ (.row [] [] _ _ f 0 [.str] rfl rfl (by omega) (fun i c hi => by omega)) .nil⟩ : OCalls Tryd.prog 31 cloneE_a (.osl 65536 0) [.rows f 0 [.str]]) m w ys hm ⟨_, r, e, ⟨a, k, rfl, fun h => by cases h⟩, hr⟩
  | succ n =>
    refine floyd0 ev_mix ev_ok noX_open noSO (by kernel_rfl) [[]] clone_cf (clone_t _ f n) (clone_h f n) ⟨fun h => ?_, fun h => ?_⟩
    · exact ⟨rfl, .cons _ _ _ _ (.refl _) .nil, .cons _ _ _ _ (OLe.same _ _ _) .nil⟩
    · exfalso
      have hb : Tryd.prog.types[9].bytes = 16 := by kernel_rfl
      rw [hb, small_ok (by omega), small_ok (by omega)] at h
      cases h
def clone2_cf : Nat → Cfg := cfL []
def clone2_a (f : Nat → Nat → D) (n : Nat) : List AV := [.fz f n.succ [.str, .str]]
noncomputable def clone2_t (P : Program) (f : Nat → Nat → D) (n : Nat) : Br PO :=
(.test (small n.succ && small (Tryd.prog.types[36].bytes * n.succ))
  (.leaf (.fin ⟨Ex.ret, true, [some (AV.osl 65536 n.succ)], [OS.o (AO.rows f n.succ [TK.str, TK.str])]⟩))
  .no
)
theorem clone2_h (f : Nat → Nat → D) (n : Nat) : (ev Tryd.prog noX noS 3000 noL 3000 .normal [.c 0 (codeOf Tryd.prog 32)] (params (clone2_a f n)) Ev.start).map (lookP Tryd.prog (resOf Tryd.prog 32) [[]] clone2_cf) = clone2_t Tryd.prog f n := by kernel_rfl

def cloneN2_cf : Nat → Cfg := cfL []
def cloneN2_a  : List AV := [.v (.slice none 0 0)]
noncomputable def cloneN2_t (P : Program)  : Br PO :=
(.leaf (.fin ⟨Ex.ret, true, [some (AV.v (Value.slice none 0 0))], [OS.nil]⟩))
theorem cloneN2_h  : (ev Tryd.prog noX noS 3000 noL 3000 .normal [.c 0 (codeOf Tryd.prog 32)] (params (cloneN2_a )) Ev.start).map (lookP Tryd.prog (resOf Tryd.prog 32) [[]] cloneN2_cf) = cloneN2_t Tryd.prog  := by kernel_rfl

def cloneE2_cf : Nat → Cfg := cfL []
def cloneE2_a  : List AV := [.none0 false]
noncomputable def cloneE2_t (P : Program)  : Br PO :=
(.leaf (.fin ⟨Ex.ret, true, [some (AV.sl 65536 0 0 (some 0))], [OS.o (AO.cells [] 2 65536 true false)]⟩))
theorem cloneE2_h  : (ev Tryd.prog noX noS 3000 noL 3000 .normal [.c 0 (codeOf Tryd.prog 32)] (params (cloneE2_a )) Ev.start).map (lookP Tryd.prog (resOf Tryd.prog 32) [[]] cloneE2_cf) = cloneE2_t Tryd.prog  := by kernel_rfl

theorem clone2_ok (f : Nat → Nat → D) (n : Nat) (hn : n ≤ 1000000) : OCalls Tryd.prog 32 [.fz f n [.str, .str]] (.osl 65536 n) [.rows f n [.str, .str]] := by
  cases n with
  | zero =>
    intro m w ys hm hys
    obtain ⟨y, r, e, ⟨_, hy⟩, hr⟩ := hys
    have hy0 : ∃ a k, y = .slice a 0 k ∧ (a = none → k = 0) := by
      unfold FzRel at hy
      rcases hy with ⟨_, h⟩ | ⟨b, o, k, C, eT, fr, rfl, _⟩
      · exact h
      · exact ⟨_, k, rfl, fun h => by cases h⟩
    obtain ⟨a, k, rfl, hk⟩ := hy0
    cases a with
    | none =>
      obtain rfl := hk rfl
      exact (floyd0 ev_mix ev_ok noX_open noSO (by kernel_rfl) [[]] cloneN2_cf (cloneN2_t _) cloneN2_h ⟨rfl, .cons _ _ _ _ (.nilv _) .nil, .cons _ _ _ _ (.nil _ _) .nil⟩ : OCalls Tryd.prog 32 cloneN2_a (.osl 65536 0) [.rows f 0 [.str, .str]]) m w ys hm ⟨_, r, e, rfl, hr⟩
    | some a =>
      exact (floyd0 ev_mix ev_ok noX_open noSO (by kernel_rfl) [[]] cloneE2_cf (cloneE2_t _) cloneE2_h ⟨rfl, .cons _ _ _ _ (.sl0 _ _ _) .nil, .cons _ _ _ _ (.row [] [] _ _ f 0 [.str, .str] rfl rfl (by omega) (fun i c hi => by omega)) .nil⟩ : OCalls Tryd.prog 32 cloneE2_a (.osl 65536 0) [.rows f 0 [.str, .str]]) m w ys hm ⟨_, r, e, ⟨a, k, rfl, fun h => by cases h⟩, hr⟩
  | succ n =>
    refine floyd0 ev_mix ev_ok noX_open noSO (by kernel_rfl) [[]] clone2_cf (clone2_t _ f n) (clone2_h f n) ⟨fun h => ?_, fun h => ?_⟩
    · exact ⟨rfl, .cons _ _ _ _ (.refl _) .nil, .cons _ _ _ _ (OLe.same _ _ _) .nil⟩
    · exfalso
      have hb : Tryd.prog.types[36].bytes = 32 := by kernel_rfl
      rw [hb, small_ok (by omega), small_ok (by omega)] at h
      cases h
end Go.Proofs.YtffcaapbmkaceaaDoor
