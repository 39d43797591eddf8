/- slices.Index and its like of texts and of pairs of texts. No condition. -/
import Derived.Test.YtffcaapbmkaceaaDoorMg12
import Derived.Test.YtffcaapbmkaceaaDoorProg
import Derived.Test.YtffcaapbmkaceaaDoorMix
import Derived.KernelRfl
import Derived.WalkKit
section
namespace Go.Proofs.YtffcaapbmkaceaaDoor
open Ev Go.RowKit
set_option maxRecDepth 100000
set_option linter.unusedVariables false
theorem noSO : SumGO Tryd.prog noS := noS_ok.open
def index_cf : Nat → Cfg := cfL [mkC 19 [0, 1, 7, 8] []]
def index_a (L : List ByteArray) (x : ByteArray) : List AV := [.fz (eL L) L.length [.str], .s (.string x)]
noncomputable def index_t (P : Program) (L : List ByteArray) (x : ByteArray) : Br PO :=
(.leaf (.at 0 (ct P 49 0).1 (ct P 49 0).2 ⟨Ex.normal, true, [some (AV.fz (eL L) L.length [TK.str]), some (AV.s (Value.string x)), some (AV.s (Value.int IntKind.i64 (Int.ofNat L.length))), some (AV.v (Value.int IntKind.i64 (0)))], []⟩))
theorem index_h (L : List ByteArray) (x : ByteArray) : (ev Tryd.prog noX noS 3000 noL 3000 .normal [.c 0 (codeOf Tryd.prog 49)] (params (index_a L x)) Ev.start).map (lookP Tryd.prog (resOf Tryd.prog 49) [] index_cf) = index_t Tryd.prog L x := by kernel_rfl
def index_v0 (L : List ByteArray) (x : ByteArray) (i : Nat) : List AV := [.fz (eL L) L.length [.str], .s (.string x), .s (.int .i64 L.length), .s (.int .i64 i)]
def index_o0 (L : List ByteArray) (x : ByteArray) (i : Nat) : List AO := []
noncomputable def index_t0 (P : Program) (L : List ByteArray) (x : ByteArray) (i : Nat) : Br PO :=
(.test (decide ((↑i : Int) < (↑L.length : Int)))
  (.test (decide (0 ≤ (↑i : Int)) && decide ((↑i : Int) < (↑L.length : Int)))
    (.test (x.toList == (L.getD (↑i : Int).toNat default).toList)
      (.leaf (.fin ⟨Ex.ret, true, [some (AV.s (Value.int IntKind.i64 (Int.ofNat i)))], []⟩))
      (.leaf (.at 0 (ct P 49 0).1 (ct P 49 0).2 ⟨Ex.normal, true, [some (AV.fz (eL L) L.length [TK.str]), some (AV.s (Value.string x)), some (AV.s (Value.int IntKind.i64 (Int.ofNat L.length))), some (AV.s (Value.int IntKind.i64 (IntKind.i64.wrap ((↑i : Int) + 1))))], []⟩))
    )
    .no
  )
  (.leaf (.fin ⟨Ex.ret, true, [some (AV.v (Value.int IntKind.i64 (Int.negSucc 0)))], []⟩))
)
theorem index_h0 (L : List ByteArray) (x : ByteArray) (i : Nat) (j : Nat → Value) : (ev Tryd.prog noX noS 3000 noL 3000 .normal (hd Tryd.prog 49 0) (mkE (index_cf 0) (index_v0 L x i) j) (mkH openB (index_o0 L x i))).map (lookP Tryd.prog (resOf Tryd.prog 49) [] index_cf) = index_t0 Tryd.prog L x i := by kernel_rfl

theorem index_ok (L : List ByteArray) (x : ByteArray) : OCalls Tryd.prog 49 (index_a L x) (.s (.int .i64 (idxS L x))) [] := OCalls.bnd fun hb =>
  floyd ev_mix ev_ok noX_open noSO (by kernel_rfl) [] index_cf (fun i => L.length - i) (fun _ => 0) (index_v0 L x) (index_o0 L x) (fun i => i ≤ L.length ∧ ∀ k, k < i → L.getD k default ≠ x) (index_t0 _ L x) (index_t _ L x) (index_h L x) (index_h0 L x)
    ⟨0, ⟨Nat.zero_le _, fun k h => absurd h (Nat.not_lt_zero k)⟩, rfl, rfl, rfl, .cons _ _ _ _ (.refl _) (.cons _ _ _ _ (.refl _) (.cons _ _ _ _ (.refl _) (.cons _ _ _ _ (.vs _) .nil))), .nil⟩
    (by
      intro i ⟨hi, hn⟩
      have hL : L.length ≤ 9223372036854775807 := hb.1
      refine ⟨fun h => ⟨fun _ => ⟨fun h2 => ?_, fun h2 => ?_⟩, fun h2 => ?_⟩, fun h => ?_⟩
      · simp only [decide_eq_true_eq] at h
        rw [ba_eq, decide_eq_true_eq] at h2
        exact ⟨rfl, .cons _ _ _ _ (.ofEq (by rw [idxS_hit (i := i) (by omega) h2.symm hn]; rfl)) .nil, .nil⟩
      · simp only [decide_eq_true_eq] at h
        rw [ba_eq, decide_eq_false_iff_not] at h2
        refine ⟨i + 1, ⟨by omega, fun k hk => ?_⟩, rel_nat (by omega), rfl, rfl, rfl, .cons _ _ _ _ (.refl _) (.cons _ _ _ _ (.refl _) (.cons _ _ _ _ (.refl _) (.cons _ _ _ _ (.ofEq (by rw [wrap_lt (by omega) (by omega)]; rfl)) .nil))), .nil⟩
        rcases Nat.lt_or_ge k i with c | c
        · exact hn k c
        · obtain rfl : k = i := by omega
          exact fun e => h2 e.symm
      · simp_all
      · simp only [decide_eq_false_iff_not] at h
        exact ⟨rfl, .cons _ _ _ _ (by rw [idxS_none (fun k hk => hn k (by omega))]; exact .vs _) .nil, .nil⟩)
def index2_cf : Nat → Cfg := cfL [mkC 19 [0, 3, 7, 8] [(3, [])]]
def index2_a (L : List (ByteArray × ByteArray)) (x y : ByteArray) : List AV := [.fz (eL L) L.length [.str, .str], .s (.agg #[.string x, .string y])]
noncomputable def index2_t (P : Program) (L : List (ByteArray × ByteArray)) (x y : ByteArray) : Br PO :=
(.leaf (.at 0 (ct P 34 0).1 (ct P 34 0).2 ⟨Ex.normal, true, [some (AV.fz (eL L) L.length [TK.str, TK.str]), some (AV.ptr 65536 0 0), some (AV.s (Value.int IntKind.i64 (Int.ofNat L.length))), some (AV.v (Value.int IntKind.i64 (0)))], [OS.o (AO.cells [AV.s (Value.string x), AV.s (Value.string y)] 2 65536 true false)]⟩))
theorem index2_h (L : List (ByteArray × ByteArray)) (x y : ByteArray) : (ev Tryd.prog noX noS 3000 noL 3000 .normal [.c 0 (codeOf Tryd.prog 34)] (params (index2_a L x y)) Ev.start).map (lookP Tryd.prog (resOf Tryd.prog 34) [] index2_cf) = index2_t Tryd.prog L x y := by kernel_rfl
def index2_v0 (L : List (ByteArray × ByteArray)) (x y : ByteArray) (i : Nat) : List AV := [.fz (eL L) L.length [.str, .str], .ptr 65536 0 0, .s (.int .i64 L.length), .s (.int .i64 i)]
def index2_o0 (L : List (ByteArray × ByteArray)) (x y : ByteArray) (i : Nat) : List AO := [.cells [.s (.string x), .s (.string y)] 2 0 true false]
noncomputable def index2_t0 (P : Program) (L : List (ByteArray × ByteArray)) (x y : ByteArray) (i : Nat) : Br PO :=
(.test (decide ((↑i : Int) < (↑L.length : Int)))
  (.test (decide (0 ≤ (↑i : Int)) && decide ((↑i : Int) < (↑L.length : Int)))
    (.test (x.toList == (L.getD (↑i : Int).toNat default).fst.toList && (y.toList == (L.getD (↑i : Int).toNat default).snd.toList && true))
      (.leaf (.fin ⟨Ex.ret, true, [some (AV.s (Value.int IntKind.i64 (Int.ofNat i)))], []⟩))
      (.leaf (.at 0 (ct P 34 0).1 (ct P 34 0).2 ⟨Ex.normal, true, [some (AV.fz (eL L) L.length [TK.str, TK.str]), some (AV.ptr 65536 0 0), some (AV.s (Value.int IntKind.i64 (Int.ofNat L.length))), some (AV.s (Value.int IntKind.i64 (IntKind.i64.wrap ((↑i : Int) + 1))))], [OS.o (AO.cells [AV.s (Value.string x), AV.s (Value.string y)] 2 0 true false)]⟩))
    )
    .no
  )
  (.leaf (.fin ⟨Ex.ret, true, [some (AV.v (Value.int IntKind.i64 (Int.negSucc 0)))], []⟩))
)
theorem index2_h0 (L : List (ByteArray × ByteArray)) (x y : ByteArray) (i : Nat) (j : Nat → Value) : (ev Tryd.prog noX noS 3000 noL 3000 .normal (hd Tryd.prog 34 0) (mkE (index2_cf 0) (index2_v0 L x y i) j) (mkH openB (index2_o0 L x y i))).map (lookP Tryd.prog (resOf Tryd.prog 34) [] index2_cf) = index2_t0 Tryd.prog L x y i := by kernel_rfl

theorem index2_ok (L : List (ByteArray × ByteArray)) (x y : ByteArray) : OCalls Tryd.prog 34 (index2_a L x y) (.s (.int .i64 (idxS L (x, y)))) [] := OCalls.bnd fun hb =>
  floyd ev_mix ev_ok noX_open noSO (by kernel_rfl) [] index2_cf (fun i => L.length - i) (fun _ => 0) (index2_v0 L x y) (index2_o0 L x y) (fun i => i ≤ L.length ∧ ∀ k, k < i → L.getD k default ≠ (x, y)) (index2_t0 _ L x y) (index2_t _ L x y) (index2_h L x y) (index2_h0 L x y)
    ⟨0, ⟨Nat.zero_le _, fun k h => absurd h (Nat.not_lt_zero k)⟩, rfl, rfl, rfl, .cons _ _ _ _ (.refl _) (.cons _ _ _ _ (.refl _) (.cons _ _ _ _ (.refl _) (.cons _ _ _ _ (.vs _) .nil))), .cons _ _ _ _ (.cells _ _ _ _ _ _ _ (Les.refl _)) .nil⟩
    (by
      intro i ⟨hi, hn⟩
      have hL : L.length ≤ 9223372036854775807 := hb.1
      refine ⟨fun h => ⟨fun _ => ⟨fun h2 => ?_, fun h2 => ?_⟩, fun h2 => ?_⟩, fun h => ?_⟩
      · simp only [decide_eq_true_eq] at h
        rw [ba_eq2, decide_eq_true_eq] at h2
        exact ⟨rfl, .cons _ _ _ _ (.ofEq (by rw [idxS_hit (i := i) (by omega) h2.symm hn]; rfl)) .nil, .nil⟩
      · simp only [decide_eq_true_eq] at h
        rw [ba_eq2, decide_eq_false_iff_not] at h2
        refine ⟨i + 1, ⟨by omega, fun k hk => ?_⟩, rel_nat (by omega), rfl, rfl, rfl, .cons _ _ _ _ (.refl _) (.cons _ _ _ _ (.refl _) (.cons _ _ _ _ (.refl _) (.cons _ _ _ _ (.ofEq (by rw [wrap_lt (by omega) (by omega)]; rfl)) .nil))), .cons _ _ _ _ (.cells _ _ _ _ _ _ _ (Les.refl _)) .nil⟩
        rcases Nat.lt_or_ge k i with c | c
        · exact hn k c
        · obtain rfl : k = i := by omega
          exact fun e => h2 e.symm
      · simp_all
      · simp only [decide_eq_false_iff_not] at h
        exact ⟨rfl, .cons _ _ _ _ (by rw [idxS_none (fun k hk => hn k (by omega))]; exact .vs _) .nil, .nil⟩)
def equal_cf : Nat → Cfg := cfL [mkC 26 [0, 1, 12, 13] []]
def equal_a (L M : List ByteArray) : List AV := [.fz (eL L) L.length [.str], .fz (eL M) M.length [.str]]
noncomputable def equal_t (P : Program) (L M : List ByteArray) : Br PO :=
(.test ((↑L.length : Int) != (↑M.length : Int))
  (.leaf (.fin ⟨Ex.ret, true, [some (AV.v (Value.bool false))], []⟩))
  (.leaf (.at 0 (ct P 41 0).1 (ct P 41 0).2 ⟨Ex.normal, true, [some (AV.fz (eL L) L.length [TK.str]), some (AV.fz (eL M) M.length [TK.str]), some (AV.s (Value.int IntKind.i64 (Int.ofNat L.length))), some (AV.v (Value.int IntKind.i64 (0)))], []⟩))
)
theorem equal_h (L M : List ByteArray) : (ev Tryd.prog noX noS 3000 noL 3000 .normal [.c 0 (codeOf Tryd.prog 41)] (params (equal_a L M)) Ev.start).map (lookP Tryd.prog (resOf Tryd.prog 41) [] equal_cf) = equal_t Tryd.prog L M := by kernel_rfl
def equal_v0 (L M : List ByteArray) (i : Nat) : List AV := [.fz (eL L) L.length [.str], .fz (eL M) M.length [.str], .s (.int .i64 L.length), .s (.int .i64 i)]
def equal_o0 (L M : List ByteArray) (i : Nat) : List AO := []
noncomputable def equal_t0 (P : Program) (L M : List ByteArray) (i : Nat) : Br PO :=
(.test (decide ((↑i : Int) < (↑L.length : Int)))
  (.test (decide (0 ≤ (↑i : Int)) && decide ((↑i : Int) < (↑L.length : Int)))
    (.test (decide (0 ≤ (↑i : Int)) && decide ((↑i : Int) < (↑M.length : Int)))
      (.test (!(L.getD (↑i : Int).toNat default).toList == (M.getD (↑i : Int).toNat default).toList)
        (.leaf (.fin ⟨Ex.ret, true, [some (AV.v (Value.bool false))], []⟩))
        (.leaf (.at 0 (ct P 41 0).1 (ct P 41 0).2 ⟨Ex.normal, true, [some (AV.fz (eL L) L.length [TK.str]), some (AV.fz (eL M) M.length [TK.str]), some (AV.s (Value.int IntKind.i64 (Int.ofNat L.length))), some (AV.s (Value.int IntKind.i64 (IntKind.i64.wrap ((↑i : Int) + 1))))], []⟩))
      )
      .no
    )
    .no
  )
  (.leaf (.fin ⟨Ex.ret, true, [some (AV.v (Value.bool true))], []⟩))
)
theorem equal_h0 (L M : List ByteArray) (i : Nat) (j : Nat → Value) : (ev Tryd.prog noX noS 3000 noL 3000 .normal (hd Tryd.prog 41 0) (mkE (equal_cf 0) (equal_v0 L M i) j) (mkH openB (equal_o0 L M i))).map (lookP Tryd.prog (resOf Tryd.prog 41) [] equal_cf) = equal_t0 Tryd.prog L M i := by kernel_rfl

theorem equal_ok (L M : List ByteArray) : OCalls Tryd.prog 41 (equal_a L M) (.s (.bool (decide (L = M)))) [] := OCalls.bnd fun hb =>
  floyd ev_mix ev_ok noX_open noSO (by kernel_rfl) [] equal_cf (fun i => L.length - i) (fun _ => 0) (equal_v0 L M) (equal_o0 L M) (fun i => L.length = M.length ∧ i ≤ L.length ∧ ∀ k, k < i → L.getD k default = M.getD k default) (equal_t0 _ L M) (equal_t _ L M) (equal_h L M) (equal_h0 L M)
    (by
      refine ⟨fun h => ?_, fun h => ?_⟩
      · have hne : L ≠ M := fun e => by subst e; simp at h
        exact ⟨rfl, .cons _ _ _ _ (by rw [decide_eq_false hne]; exact .vs _) .nil, .nil⟩
      · have hl : L.length = M.length := by simp at h; omega
        exact ⟨0, ⟨hl, Nat.zero_le _, fun k h => absurd h (Nat.not_lt_zero k)⟩, rfl, rfl, rfl, .cons _ _ _ _ (.refl _) (.cons _ _ _ _ (.refl _) (.cons _ _ _ _ (.refl _) (.cons _ _ _ _ (.vs _) .nil))), .nil⟩)
    (by
      intro i ⟨hl, hi, hn⟩
      have hL : L.length ≤ 9223372036854775807 := hb.1
      refine ⟨fun h => ⟨fun _ => ⟨fun _ => ⟨fun h2 => ?_, fun h2 => ?_⟩, fun h2 => ?_⟩, fun h2 => ?_⟩, fun h => ?_⟩
      · simp only [decide_eq_true_eq] at h
        rw [ba_eq, Bool.not_eq_true', decide_eq_false_iff_not] at h2
        have hne : L ≠ M := fun e => by subst e; exact h2 rfl
        exact ⟨rfl, .cons _ _ _ _ (by rw [decide_eq_false hne]; exact .vs _) .nil, .nil⟩
      · simp only [decide_eq_true_eq] at h
        rw [ba_eq, Bool.not_eq_false', decide_eq_true_eq] at h2
        refine ⟨i + 1, ⟨hl, by omega, fun k hk => ?_⟩, rel_nat (by omega), rfl, rfl, rfl, .cons _ _ _ _ (.refl _) (.cons _ _ _ _ (.refl _) (.cons _ _ _ _ (.refl _) (.cons _ _ _ _ (.ofEq (by rw [wrap_lt (by omega) (by omega)]; rfl)) .nil))), .nil⟩
        rcases Nat.lt_or_ge k i with c | c
        · exact hn k c
        · obtain rfl : k = i := by omega
          exact h2
      · simp at h h2; omega
      · simp at h h2; omega
      · simp only [decide_eq_false_iff_not] at h
        have he : L = M := eq_getD hl fun k hk => hn k (by omega)
        exact ⟨rfl, .cons _ _ _ _ (by rw [decide_eq_true he]; exact .vs _) .nil, .nil⟩)
def equal2_cf : Nat → Cfg := cfL [mkC 26 [0, 1, 12, 13] []]
def equal2_a (L M : List (ByteArray × ByteArray)) : List AV := [.fz (eL L) L.length [.str, .str], .fz (eL M) M.length [.str, .str]]
noncomputable def equal2_t (P : Program) (L M : List (ByteArray × ByteArray)) : Br PO :=
(.test ((↑L.length : Int) != (↑M.length : Int))
  (.leaf (.fin ⟨Ex.ret, true, [some (AV.v (Value.bool false))], []⟩))
  (.leaf (.at 0 (ct P 42 0).1 (ct P 42 0).2 ⟨Ex.normal, true, [some (AV.fz (eL L) L.length [TK.str, TK.str]), some (AV.fz (eL M) M.length [TK.str, TK.str]), some (AV.s (Value.int IntKind.i64 (Int.ofNat L.length))), some (AV.v (Value.int IntKind.i64 (0)))], []⟩))
)
theorem equal2_h (L M : List (ByteArray × ByteArray)) : (ev Tryd.prog noX noS 3000 noL 3000 .normal [.c 0 (codeOf Tryd.prog 42)] (params (equal2_a L M)) Ev.start).map (lookP Tryd.prog (resOf Tryd.prog 42) [] equal2_cf) = equal2_t Tryd.prog L M := by kernel_rfl
def equal2_v0 (L M : List (ByteArray × ByteArray)) (i : Nat) : List AV := [.fz (eL L) L.length [.str, .str], .fz (eL M) M.length [.str, .str], .s (.int .i64 L.length), .s (.int .i64 i)]
def equal2_o0 (L M : List (ByteArray × ByteArray)) (i : Nat) : List AO := []
noncomputable def equal2_t0 (P : Program) (L M : List (ByteArray × ByteArray)) (i : Nat) : Br PO :=
(.test (decide ((↑i : Int) < (↑L.length : Int)))
  (.test (decide (0 ≤ (↑i : Int)) && decide ((↑i : Int) < (↑L.length : Int)))
    (.test (decide (0 ≤ (↑i : Int)) && decide ((↑i : Int) < (↑M.length : Int)))
      (.test (!((L.getD (↑i : Int).toNat default).fst.toList == (M.getD (↑i : Int).toNat default).fst.toList && ((L.getD (↑i : Int).toNat default).snd.toList == (M.getD (↑i : Int).toNat default).snd.toList && true)))
        (.leaf (.fin ⟨Ex.ret, true, [some (AV.v (Value.bool false))], []⟩))
        (.leaf (.at 0 (ct P 42 0).1 (ct P 42 0).2 ⟨Ex.normal, true, [some (AV.fz (eL L) L.length [TK.str, TK.str]), some (AV.fz (eL M) M.length [TK.str, TK.str]), some (AV.s (Value.int IntKind.i64 (Int.ofNat L.length))), some (AV.s (Value.int IntKind.i64 (IntKind.i64.wrap ((↑i : Int) + 1))))], []⟩))
      )
      .no
    )
    .no
  )
  (.leaf (.fin ⟨Ex.ret, true, [some (AV.v (Value.bool true))], []⟩))
)
theorem equal2_h0 (L M : List (ByteArray × ByteArray)) (i : Nat) (j : Nat → Value) : (ev Tryd.prog noX noS 3000 noL 3000 .normal (hd Tryd.prog 42 0) (mkE (equal2_cf 0) (equal2_v0 L M i) j) (mkH openB (equal2_o0 L M i))).map (lookP Tryd.prog (resOf Tryd.prog 42) [] equal2_cf) = equal2_t0 Tryd.prog L M i := by kernel_rfl

theorem equal2_ok (L M : List (ByteArray × ByteArray)) : OCalls Tryd.prog 42 (equal2_a L M) (.s (.bool (decide (L = M)))) [] := OCalls.bnd fun hb =>
  floyd ev_mix ev_ok noX_open noSO (by kernel_rfl) [] equal2_cf (fun i => L.length - i) (fun _ => 0) (equal2_v0 L M) (equal2_o0 L M) (fun i => L.length = M.length ∧ i ≤ L.length ∧ ∀ k, k < i → L.getD k default = M.getD k default) (equal2_t0 _ L M) (equal2_t _ L M) (equal2_h L M) (equal2_h0 L M)
    (by
      refine ⟨fun h => ?_, fun h => ?_⟩
      · have hne : L ≠ M := fun e => by subst e; simp at h
        exact ⟨rfl, .cons _ _ _ _ (by rw [decide_eq_false hne]; exact .vs _) .nil, .nil⟩
      · have hl : L.length = M.length := by simp at h; omega
        exact ⟨0, ⟨hl, Nat.zero_le _, fun k h => absurd h (Nat.not_lt_zero k)⟩, rfl, rfl, rfl, .cons _ _ _ _ (.refl _) (.cons _ _ _ _ (.refl _) (.cons _ _ _ _ (.refl _) (.cons _ _ _ _ (.vs _) .nil))), .nil⟩)
    (by
      intro i ⟨hl, hi, hn⟩
      have hL : L.length ≤ 9223372036854775807 := hb.1
      refine ⟨fun h => ⟨fun _ => ⟨fun _ => ⟨fun h2 => ?_, fun h2 => ?_⟩, fun h2 => ?_⟩, fun h2 => ?_⟩, fun h => ?_⟩
      · simp only [decide_eq_true_eq] at h
        rw [ba_eq3, Bool.not_eq_true', decide_eq_false_iff_not] at h2
        have hne : L ≠ M := fun e => by subst e; exact h2 rfl
        exact ⟨rfl, .cons _ _ _ _ (by rw [decide_eq_false hne]; exact .vs _) .nil, .nil⟩
      · simp only [decide_eq_true_eq] at h
        rw [ba_eq3, Bool.not_eq_false', decide_eq_true_eq] at h2
        refine ⟨i + 1, ⟨hl, by omega, fun k hk => ?_⟩, rel_nat (by omega), rfl, rfl, rfl, .cons _ _ _ _ (.refl _) (.cons _ _ _ _ (.refl _) (.cons _ _ _ _ (.refl _) (.cons _ _ _ _ (.ofEq (by rw [wrap_lt (by omega) (by omega)]; rfl)) .nil))), .nil⟩
        rcases Nat.lt_or_ge k i with c | c
        · exact hn k c
        · obtain rfl : k = i := by omega
          exact h2
      · simp at h h2; omega
      · simp at h h2; omega
      · simp only [decide_eq_false_iff_not] at h
        have he : L = M := eq_getD hl fun k hk => hn k (by omega)
        exact ⟨rfl, .cons _ _ _ _ (by rw [decide_eq_true he]; exact .vs _) .nil, .nil⟩)
def clone_cf : Nat → Cfg := cfL []
def clone_a (f : Nat → Nat → D) (n : Nat) : List AV := [.fz f n.succ [.str]]
noncomputable def clone_t (P : Program) (f : Nat → Nat → D) (n : Nat) : Br PO :=
(.test (small n.succ && small (Tryd.prog.types[9].bytes * n.succ))
  (.leaf (.fin ⟨Ex.ret, true, [some (AV.osl 65536 n.succ)], [OS.o (AO.rows f n.succ [TK.str])]⟩))
  .no
)
theorem clone_h (f : Nat → Nat → D) (n : Nat) : (ev Tryd.prog noX noS 3000 noL 3000 .normal [.c 0 (codeOf Tryd.prog 31)] (params (clone_a f n)) Ev.start).map (lookP Tryd.prog (resOf Tryd.prog 31) [[]] clone_cf) = clone_t Tryd.prog f n := by kernel_rfl

def cloneN_cf : Nat → Cfg := cfL []
def cloneN_a  : List AV := [.v (.slice none 0 0)]
noncomputable def cloneN_t (P : Program)  : Br PO :=
(.leaf (.fin ⟨Ex.ret, true, [some (AV.v (Value.slice none 0 0))], [OS.nil]⟩))
theorem cloneN_h  : (ev Tryd.prog noX noS 3000 noL 3000 .normal [.c 0 (codeOf Tryd.prog 31)] (params (cloneN_a )) Ev.start).map (lookP Tryd.prog (resOf Tryd.prog 31) [[]] cloneN_cf) = cloneN_t Tryd.prog  := by kernel_rfl

def cloneE_cf : Nat → Cfg := cfL []
def cloneE_a  : List AV := [.none0 false]
noncomputable def cloneE_t (P : Program)  : Br PO :=
(.leaf (.fin ⟨Ex.ret, true, [some (AV.sl 65536 0 0 (some 0))], [OS.o (AO.cells [] 1 65536 true false)]⟩))
theorem cloneE_h  : (ev Tryd.prog noX noS 3000 noL 3000 .normal [.c 0 (codeOf Tryd.prog 31)] (params (cloneE_a )) Ev.start).map (lookP Tryd.prog (resOf Tryd.prog 31) [[]] cloneE_cf) = cloneE_t Tryd.prog  := by kernel_rfl

theorem clone_ok (f : Nat → Nat → D) (n : Nat) (hn : n ≤ 1000000) : OCalls Tryd.prog 31 [.fz f n [.str]] (.osl 65536 n) [.rows f n [.str]] := by
  cases n with
  | zero =>
    intro m w ys hm hys
    obtain ⟨y, r, e, ⟨_, hy⟩, hr⟩ := hys
    have hy0 : ∃ a k, y = .slice a 0 k ∧ (a = none → k = 0) := by
      unfold FzRel at hy
      rcases hy with ⟨_, h⟩ | ⟨b, o, k, C, eT, fr, rfl, _⟩
      · exact h
      · exact ⟨_, k, rfl, fun h => by cases h⟩
    obtain ⟨a, k, rfl, hk⟩ := hy0
    cases a with
    | none =>
      obtain rfl := hk rfl
      exact (floyd0 ev_mix ev_ok noX_open noSO (by kernel_rfl) [[]] cloneN_cf (cloneN_t _) cloneN_h ⟨rfl, .cons _ _ _ _ (.nilv _) .nil, .cons _ _ _ _ (.nil _ _) .nil⟩ : OCalls Tryd.prog 31 cloneN_a (.osl 65536 0) [.rows f 0 [.str]]) m w ys hm ⟨_, r, e, rfl, hr⟩
    | some a =>
      exact (floyd0 ev_mix ev_ok noX_open noSO (by kernel_rfl) [[]] cloneE_cf (cloneE_t _) cloneE_h ⟨rfl, .cons _ _ _ _ (.sl0 _ _ _) .nil, .cons _ _ _ _ (.row [] [] _ _ f 0 [.str] rfl rfl (by omega) (fun i c hi => by omega)) .nil⟩ : OCalls Tryd.prog 31 cloneE_a (.osl 65536 0) [.rows f 0 [.str]]) m w ys hm ⟨_, r, e, ⟨a, k, rfl, fun h => by cases h⟩, hr⟩
  | succ n =>
    refine floyd0 ev_mix ev_ok noX_open noSO (by kernel_rfl) [[]] clone_cf (clone_t _ f n) (clone_h f n) ⟨fun h => ?_, fun h => ?_⟩
    · exact ⟨rfl, .cons _ _ _ _ (.refl _) .nil, .cons _ _ _ _ (OLe.same _ _ _) .nil⟩
    · exfalso
      have hb : Tryd.prog.types[9].bytes = 16 := by kernel_rfl
      rw [hb, small_ok (by omega), small_ok (by omega)] at h
      cases h
def clone2_cf : Nat → Cfg := cfL []
def clone2_a (f : Nat → Nat → D) (n : Nat) : List AV := [.fz f n.succ [.str, .str]]
noncomputable def clone2_t (P : Program) (f : Nat → Nat → D) (n : Nat) : Br PO :=
(.test (small n.succ && small (Tryd.prog.types[36].bytes * n.succ))
  (.leaf (.fin ⟨Ex.ret, true, [some (AV.osl 65536 n.succ)], [OS.o (AO.rows f n.succ [TK.str, TK.str])]⟩))
  .no
)
theorem clone2_h (f : Nat → Nat → D) (n : Nat) : (ev Tryd.prog noX noS 3000 noL 3000 .normal [.c 0 (codeOf Tryd.prog 32)] (params (clone2_a f n)) Ev.start).map (lookP Tryd.prog (resOf Tryd.prog 32) [[]] clone2_cf) = clone2_t Tryd.prog f n := by kernel_rfl

def cloneN2_cf : Nat → Cfg := cfL []
def cloneN2_a  : List AV := [.v (.slice none 0 0)]
noncomputable def cloneN2_t (P : Program)  : Br PO :=
(.leaf (.fin ⟨Ex.ret, true, [some (AV.v (Value.slice none 0 0))], [OS.nil]⟩))
theorem cloneN2_h  : (ev Tryd.prog noX noS 3000 noL 3000 .normal [.c 0 (codeOf Tryd.prog 32)] (params (cloneN2_a )) Ev.start).map (lookP Tryd.prog (resOf Tryd.prog 32) [[]] cloneN2_cf) = cloneN2_t Tryd.prog  := by kernel_rfl

def cloneE2_cf : Nat → Cfg := cfL []
def cloneE2_a  : List AV := [.none0 false]
noncomputable def cloneE2_t (P : Program)  : Br PO :=
(.leaf (.fin ⟨Ex.ret, true, [some (AV.sl 65536 0 0 (some 0))], [OS.o (AO.cells [] 2 65536 true false)]⟩))
theorem cloneE2_h  : (ev Tryd.prog noX noS 3000 noL 3000 .normal [.c 0 (codeOf Tryd.prog 32)] (params (cloneE2_a )) Ev.start).map (lookP Tryd.prog (resOf Tryd.prog 32) [[]] cloneE2_cf) = cloneE2_t Tryd.prog  := by kernel_rfl

theorem clone2_ok (f : Nat → Nat → D) (n : Nat) (hn : n ≤ 1000000) : OCalls Tryd.prog 32 [.fz f n [.str, .str]] (.osl 65536 n) [.rows f n [.str, .str]] := by
  cases n with
  | zero =>
    intro m w ys hm hys
    obtain ⟨y, r, e, ⟨_, hy⟩, hr⟩ := hys
    have hy0 : ∃ a k, y = .slice a 0 k ∧ (a = none → k = 0) := by
      unfold FzRel at hy
      rcases hy with ⟨_, h⟩ | ⟨b, o, k, C, eT, fr, rfl, _⟩
      · exact h
      · exact ⟨_, k, rfl, fun h => by cases h⟩
    obtain ⟨a, k, rfl, hk⟩ := hy0
    cases a with
    | none =>
      obtain rfl := hk rfl
      exact (floyd0 ev_mix ev_ok noX_open noSO (by kernel_rfl) [[]] cloneN2_cf (cloneN2_t _) cloneN2_h ⟨rfl, .cons _ _ _ _ (.nilv _) .nil, .cons _ _ _ _ (.nil _ _) .nil⟩ : OCalls Tryd.prog 32 cloneN2_a (.osl 65536 0) [.rows f 0 [.str, .str]]) m w ys hm ⟨_, r, e, rfl, hr⟩
    | some a =>
      exact (floyd0 ev_mix ev_ok noX_open noSO (by kernel_rfl) [[]] cloneE2_cf (cloneE2_t _) cloneE2_h ⟨rfl, .cons _ _ _ _ (.sl0 _ _ _) .nil, .cons _ _ _ _ (.row [] [] _ _ f 0 [.str, .str] rfl rfl (by omega) (fun i c hi => by omega)) .nil⟩ : OCalls Tryd.prog 32 cloneE2_a (.osl 65536 0) [.rows f 0 [.str, .str]]) m w ys hm ⟨_, r, e, ⟨a, k, rfl, fun h => by cases h⟩, hr⟩
  | succ n =>
    refine floyd0 ev_mix ev_ok noX_open noSO (by kernel_rfl) [[]] clone2_cf (clone2_t _ f n) (clone2_h f n) ⟨fun h => ?_, fun h => ?_⟩
    · exact ⟨rfl, .cons _ _ _ _ (.refl _) .nil, .cons _ _ _ _ (OLe.same _ _ _) .nil⟩
    · exfalso
      have hb : Tryd.prog.types[36].bytes = 32 := by kernel_rfl
      rw [hb, small_ok (by omega), small_ok (by omega)] at h
      cases h
end Go.Proofs.YtffcaapbmkaceaaDoor
end
section
namespace Go.Proofs.YtffcaapbmkaceaaDoor
open Ev Go.RowKit
set_option maxRecDepth 100000
def indexX : SumBr := oX 49 fun
  | [a, v] => match asL [.str] a, strV v with
    | some (f, n), some x => some (.leaf (.s (.int .i64 (idxS (dL ByteArray f n) x)), []))
    | _, _ => none
  | _ => none
theorem indexX_ok : SumGO Tryd.prog (sumS indexX) := oX_ok (by kernel_rfl) fun xs B r h hB => by
  split at h
  · split at h
    · rename_i a v f n x ha hv
      cases h
      cases hB
      exact (index_ok (dL _ f n) x).leS fun m ys ⟨y, r, e, h1, ⟨y2, r2, e2, h2, h3⟩⟩ => by
        letI : Fz := ⟨m, false⟩
        exact ⟨y, r, e, asL_rel rfl ha h1, y2, r2, e2, strV_rel hv h2, h3⟩
    · cases h
  · cases h
def index2X : SumBr := oX 34 fun
  | [a, v] => match asL [.str, .str] a, pairV v with
    | some (f, n), some (x, y) => some (.leaf (.s (.int .i64 (idxS (dL (ByteArray × ByteArray) f n) (x, y))), []))
    | _, _ => none
  | _ => none
theorem index2X_ok : SumGO Tryd.prog (sumS index2X) := oX_ok (by kernel_rfl) fun xs B r h hB => by
  split at h
  · split at h
    · rename_i a v f n x y ha hv
      cases h
      cases hB
      exact (index2_ok (dL _ f n) x y).leS fun m ys ⟨y, r, e, h1, ⟨y2, r2, e2, h2, h3⟩⟩ => by
        letI : Fz := ⟨m, false⟩
        exact ⟨y, r, e, asL_rel rfl ha h1, y2, r2, e2, pairV_rel hv h2, h3⟩
    · cases h
  · cases h
def equalX : SumBr := oX 41 fun
  | [a, b] => match asL [.str] a, asL [.str] b with
    | some (f, n), some (g, m) => some (.leaf (.s (.bool (decide ((dL ByteArray f n) = dL _ g m))), []))
    | _, _ => none
  | _ => none
theorem equalX_ok : SumGO Tryd.prog (sumS equalX) := oX_ok (by kernel_rfl) fun xs B r h hB => by
  split at h
  · split at h
    · rename_i a b f n g k ha hb
      cases h
      cases hB
      exact (equal_ok (dL _ f n) (dL _ g k)).leS fun m ys ⟨y, r, e, h1, ⟨y2, r2, e2, h2, h3⟩⟩ => by
        letI : Fz := ⟨m, false⟩
        exact ⟨y, r, e, asL_rel rfl ha h1, y2, r2, e2, asL_rel rfl hb h2, h3⟩
    · cases h
  · cases h
def equal2X : SumBr := oX 42 fun
  | [a, b] => match asL [.str, .str] a, asL [.str, .str] b with
    | some (f, n), some (g, m) => some (.leaf (.s (.bool (decide ((dL (ByteArray × ByteArray) f n) = dL _ g m))), []))
    | _, _ => none
  | _ => none
theorem equal2X_ok : SumGO Tryd.prog (sumS equal2X) := oX_ok (by kernel_rfl) fun xs B r h hB => by
  split at h
  · split at h
    · rename_i a b f n g k ha hb
      cases h
      cases hB
      exact (equal2_ok (dL _ f n) (dL _ g k)).leS fun m ys ⟨y, r, e, h1, ⟨y2, r2, e2, h2, h3⟩⟩ => by
        letI : Fz := ⟨m, false⟩
        exact ⟨y, r, e, asL_rel rfl ha h1, y2, r2, e2, asL_rel rfl hb h2, h3⟩
    · cases h
  · cases h
/-- A copy: of no list that is too long. -/
def cloneG (ks : List TK) : List AV → Option (Br (AV × List AO))
  | [a] => match asL ks a with
    | some (f, n) => some (.test (Nat.ble n 1000000) (.leaf (.osl 65536 n, [.rows f n ks])) .no)
    | none => none
  | _ => none
theorem clone_asL [Fz] {ks : List TK} {x : AV} {f : Nat → Nat → D} {len : Nat} {ρ : Rho} {y : Value} (hgc : Fz.gc = false) (h : asL ks x = some (f, len)) (r : VRel ρ x y) : VRel ρ (.fz f len ks) y := by
  unfold asL at h
  split at h
  · rename_i f' len' ks'
    cases hk : ksEq ks ks' with
    | false => rw [hk] at h; cases h
    | true => rw [hk] at h; cases h; rw [ksEq_eq hk]; exact r
  · cases h; cases r; refine ⟨hgc, ?_⟩; unfold FzRel; exact .inl ⟨rfl, none, 0, rfl, fun _ => rfl⟩
  · cases h; obtain ⟨a, rfl⟩ := r; refine ⟨hgc, ?_⟩; unfold FzRel; exact .inl ⟨rfl, a, 0, rfl, fun _ => rfl⟩
  · cases h
def cloneX : SumBr := oX 31 (cloneG [.str])
theorem cloneX_ok : SumGO Tryd.prog (sumS cloneX) := oX_ok (by kernel_rfl) fun xs B r h hB => by
  unfold cloneG at h
  split at h
  · split at h
    · rename_i a f n ha
      cases h
      rcases hB with ⟨h1, hB⟩ | ⟨_, hB⟩
      · cases hB
        exact (clone_ok f n (by simpa using h1)).leS fun m ys ⟨y, r, e, h1, h2⟩ => by
          letI : Fz := ⟨m, false⟩
          exact ⟨y, r, e, clone_asL rfl ha h1, h2⟩
      · exact hB.elim
    · cases h
  · cases h
def clone2X : SumBr := oX 32 (cloneG [.str, .str])
theorem clone2X_ok : SumGO Tryd.prog (sumS clone2X) := oX_ok (by kernel_rfl) fun xs B r h hB => by
  unfold cloneG at h
  split at h
  · split at h
    · rename_i a f n ha
      cases h
      rcases hB with ⟨h1, hB⟩ | ⟨_, hB⟩
      · cases hB
        exact (clone2_ok f n (by simpa using h1)).leS fun m ys ⟨y, r, e, h1, h2⟩ => by
          letI : Fz := ⟨m, false⟩
          exact ⟨y, r, e, clone_asL rfl ha h1, h2⟩
      · exact hB.elim
    · cases h
  · cases h
def slX : SumBr := orX indexX (orX index2X (orX equalX (orX equal2X (orX cloneX clone2X))))
theorem slX_ok : SumGO Tryd.prog (sumS slX) := orX_open indexX_ok (orX_open index2X_ok (orX_open equalX_ok (orX_open equal2X_ok (orX_open cloneX_ok clone2X_ok))))
end Go.Proofs.YtffcaapbmkaceaaDoor
end
section
namespace Go.Proofs.YtffcaapbmkaceaaDoor
open Ev Go.RowKit
set_option maxRecDepth 100000
set_option linter.unusedVariables false
def twice_cf : Nat → Cfg := cfL [mkC 18 [0, 5, 6, 7] []]
def twice_a (L : List ByteArray) : List AV := [.fz (eL L) L.length [.str]]
noncomputable def twice_t (P : Program) (L : List ByteArray) : Br PO :=
(.leaf (.at 0 (ct P 36 0).1 (ct P 36 0).2 ⟨Ex.normal, true, [some (AV.fz (eL L) L.length [TK.str]), some (AV.fz (eL L) L.length [TK.str]), some (AV.s (Value.int IntKind.i64 (Int.ofNat L.length))), some (AV.v (Value.int IntKind.i64 (0)))], []⟩))
theorem twice_h (L : List ByteArray) : (ev Tryd.prog slX noS 3000 noL 3000 .normal [.c 0 (codeOf Tryd.prog 36)] (params (twice_a L)) Ev.start).map (lookP Tryd.prog (resOf Tryd.prog 36) [] twice_cf) = twice_t Tryd.prog L := by kernel_rfl
def twice_v0 (L : List ByteArray) (i : Nat) : List AV := [.fz (eL L) L.length [.str], .fz (eL L) L.length [.str], .s (.int .i64 L.length), .s (.int .i64 i)]
def twice_o0 (L : List ByteArray) (i : Nat) : List AO := []
noncomputable def twice_t0 (P : Program) (L : List ByteArray) (i : Nat) : Br PO :=
(.test (decide ((↑i : Int) < (↑L.length : Int)))
  (.test (decide (0 ≤ (↑i : Int)) && decide ((↑i : Int) < (↑L.length : Int)))
    (.test (decide (0 ≤ 0) && decide (0 ≤ (↑i : Int)) && decide ((↑i : Int) ≤ (↑L.length : Int)))
      (.test (decide (idxS (dL ByteArray (shiftD (eL L) (Int.toNat 0)) ((↑i : Int) - 0).toNat) (L.getD (↑i : Int).toNat default) ≥ 0))
        (.leaf (.fin ⟨Ex.ret, true, [some (AV.v (Value.bool true))], []⟩))
        (.leaf (.at 0 (ct P 36 0).1 (ct P 36 0).2 ⟨Ex.normal, true, [some (AV.fz (eL L) L.length [TK.str]), some (AV.fz (eL L) L.length [TK.str]), some (AV.s (Value.int IntKind.i64 (Int.ofNat L.length))), some (AV.s (Value.int IntKind.i64 (IntKind.i64.wrap ((↑i : Int) + 1))))], []⟩))
      )
      .no
    )
    .no
  )
  (.leaf (.fin ⟨Ex.ret, true, [some (AV.v (Value.bool false))], []⟩))
)
theorem twice_h0 (L : List ByteArray) (i : Nat) (j : Nat → Value) : (ev Tryd.prog slX noS 3000 noL 3000 .normal (hd Tryd.prog 36 0) (mkE (twice_cf 0) (twice_v0 L i) j) (mkH openB (twice_o0 L i))).map (lookP Tryd.prog (resOf Tryd.prog 36) [] twice_cf) = twice_t0 Tryd.prog L i := by kernel_rfl

theorem twice_ok (L : List ByteArray) : OCalls Tryd.prog 36 (twice_a L) (.s (.bool (decide (¬ L.Nodup)))) [] := OCalls.bnd fun hb =>
  floyd ev_mix ev_ok slX_ok noSO (by kernel_rfl) [] twice_cf (fun i => L.length - i) (fun _ => 0) (twice_v0 L) (twice_o0 L) (fun i => i ≤ L.length ∧ (L.take i).Nodup) (twice_t0 _ L) (twice_t _ L) (twice_h L) (twice_h0 L)
    ⟨0, ⟨Nat.zero_le _, by simp⟩, rfl, rfl, rfl, (.cons _ _ _ _ (.refl _) (.cons _ _ _ _ (.refl _) (.cons _ _ _ _ (.refl _) (.cons _ _ _ _ (.vs _) .nil)))), .nil⟩
    (by
      intro i ⟨hi, hn⟩
      have hL : L.length ≤ 9223372036854775807 := hb.1
      have ht : i ≤ L.length → decide (idxS (dL _ (shiftD (eL L) (Int.toNat 0)) ((i : Int) - 0).toNat) (L.getD (i : Int).toNat default) ≥ 0) = inL (L.getD i default) (L.take i) := fun hi => by
        rw [idxS_ge, show ((i : Int) - 0).toNat = i by omega, show Int.toNat 0 = 0 from rfl, dL_shift L 0 i (by omega)]; simp
      refine ⟨fun h => ⟨fun _ => ⟨fun _ => ⟨fun h2 => ?_, fun h2 => ?_⟩, fun h2 => ?_⟩, fun h2 => ?_⟩, fun h => ?_⟩
      · simp only [decide_eq_true_eq] at h
        have h2 := inL_iff.1 ((ht hi).symm.trans h2)
        exact ⟨rfl, (.cons _ _ _ _ (by rw [decide_eq_true (nodup_hit (by omega) h2)]; exact .vs _) .nil), .nil⟩
      · simp only [decide_eq_true_eq] at h
        have h2 := inL_no.1 ((ht hi).symm.trans h2)
        exact ⟨i + 1, ⟨by omega, nodup_next (by omega) hn h2⟩, rel_nat (by omega), rfl, rfl, rfl, (.cons _ _ _ _ (.refl _) (.cons _ _ _ _ (.refl _) (.cons _ _ _ _ (.refl _) (.cons _ _ _ _ (.ofEq (by rw [wrap_lt (by omega) (by omega)]; rfl)) .nil)))), .nil⟩
      · simp at h h2; omega
      · simp at h h2; omega
      · simp only [decide_eq_false_iff_not] at h
        rw [List.take_of_length_le (by omega)] at hn
        exact ⟨rfl, (.cons _ _ _ _ (by rw [decide_eq_false (fun c => c hn)]; exact .vs _) .nil), .nil⟩)
def twice2_cf : Nat → Cfg := cfL [mkC 18 [0, 5, 6, 7] []]
def twice2_a (L : List (ByteArray × ByteArray)) : List AV := [.fz (eL L) L.length [.str, .str]]
noncomputable def twice2_t (P : Program) (L : List (ByteArray × ByteArray)) : Br PO :=
(.leaf (.at 0 (ct P 37 0).1 (ct P 37 0).2 ⟨Ex.normal, true, [some (AV.fz (eL L) L.length [TK.str, TK.str]), some (AV.fz (eL L) L.length [TK.str, TK.str]), some (AV.s (Value.int IntKind.i64 (Int.ofNat L.length))), some (AV.v (Value.int IntKind.i64 (0)))], []⟩))
theorem twice2_h (L : List (ByteArray × ByteArray)) : (ev Tryd.prog slX noS 3000 noL 3000 .normal [.c 0 (codeOf Tryd.prog 37)] (params (twice2_a L)) Ev.start).map (lookP Tryd.prog (resOf Tryd.prog 37) [] twice2_cf) = twice2_t Tryd.prog L := by kernel_rfl
def twice2_v0 (L : List (ByteArray × ByteArray)) (i : Nat) : List AV := [.fz (eL L) L.length [.str, .str], .fz (eL L) L.length [.str, .str], .s (.int .i64 L.length), .s (.int .i64 i)]
def twice2_o0 (L : List (ByteArray × ByteArray)) (i : Nat) : List AO := []
noncomputable def twice2_t0 (P : Program) (L : List (ByteArray × ByteArray)) (i : Nat) : Br PO :=
(.test (decide ((↑i : Int) < (↑L.length : Int)))
  (.test (decide (0 ≤ (↑i : Int)) && decide ((↑i : Int) < (↑L.length : Int)))
    (.test (decide (0 ≤ 0) && decide (0 ≤ (↑i : Int)) && decide ((↑i : Int) ≤ (↑L.length : Int)))
      (.test (decide (idxS (dL (ByteArray × ByteArray) (shiftD (eL L) (Int.toNat 0)) ((↑i : Int) - 0).toNat) ((L.getD (↑i : Int).toNat default).fst, (L.getD (↑i : Int).toNat default).snd) ≥ 0))
        (.leaf (.fin ⟨Ex.ret, true, [some (AV.v (Value.bool true))], []⟩))
        (.leaf (.at 0 (ct P 37 0).1 (ct P 37 0).2 ⟨Ex.normal, true, [some (AV.fz (eL L) L.length [TK.str, TK.str]), some (AV.fz (eL L) L.length [TK.str, TK.str]), some (AV.s (Value.int IntKind.i64 (Int.ofNat L.length))), some (AV.s (Value.int IntKind.i64 (IntKind.i64.wrap ((↑i : Int) + 1))))], []⟩))
      )
      .no
    )
    .no
  )
  (.leaf (.fin ⟨Ex.ret, true, [some (AV.v (Value.bool false))], []⟩))
)
theorem twice2_h0 (L : List (ByteArray × ByteArray)) (i : Nat) (j : Nat → Value) : (ev Tryd.prog slX noS 3000 noL 3000 .normal (hd Tryd.prog 37 0) (mkE (twice2_cf 0) (twice2_v0 L i) j) (mkH openB (twice2_o0 L i))).map (lookP Tryd.prog (resOf Tryd.prog 37) [] twice2_cf) = twice2_t0 Tryd.prog L i := by kernel_rfl

theorem twice2_ok (L : List (ByteArray × ByteArray)) : OCalls Tryd.prog 37 (twice2_a L) (.s (.bool (decide (¬ L.Nodup)))) [] := OCalls.bnd fun hb =>
  floyd ev_mix ev_ok slX_ok noSO (by kernel_rfl) [] twice2_cf (fun i => L.length - i) (fun _ => 0) (twice2_v0 L) (twice2_o0 L) (fun i => i ≤ L.length ∧ (L.take i).Nodup) (twice2_t0 _ L) (twice2_t _ L) (twice2_h L) (twice2_h0 L)
    ⟨0, ⟨Nat.zero_le _, by simp⟩, rfl, rfl, rfl, (.cons _ _ _ _ (.refl _) (.cons _ _ _ _ (.refl _) (.cons _ _ _ _ (.refl _) (.cons _ _ _ _ (.vs _) .nil)))), .nil⟩
    (by
      intro i ⟨hi, hn⟩
      have hL : L.length ≤ 9223372036854775807 := hb.1
      have ht : i ≤ L.length → decide (idxS (dL _ (shiftD (eL L) (Int.toNat 0)) ((i : Int) - 0).toNat) (L.getD (i : Int).toNat default) ≥ 0) = inL (L.getD i default) (L.take i) := fun hi => by
        rw [idxS_ge, show ((i : Int) - 0).toNat = i by omega, show Int.toNat 0 = 0 from rfl, dL_shift L 0 i (by omega)]; simp
      refine ⟨fun h => ⟨fun _ => ⟨fun _ => ⟨fun h2 => ?_, fun h2 => ?_⟩, fun h2 => ?_⟩, fun h2 => ?_⟩, fun h => ?_⟩
      · simp only [decide_eq_true_eq] at h
        have h2 := inL_iff.1 ((ht hi).symm.trans h2)
        exact ⟨rfl, (.cons _ _ _ _ (by rw [decide_eq_true (nodup_hit (by omega) h2)]; exact .vs _) .nil), .nil⟩
      · simp only [decide_eq_true_eq] at h
        have h2 := inL_no.1 ((ht hi).symm.trans h2)
        exact ⟨i + 1, ⟨by omega, nodup_next (by omega) hn h2⟩, rel_nat (by omega), rfl, rfl, rfl, (.cons _ _ _ _ (.refl _) (.cons _ _ _ _ (.refl _) (.cons _ _ _ _ (.refl _) (.cons _ _ _ _ (.ofEq (by rw [wrap_lt (by omega) (by omega)]; rfl)) .nil)))), .nil⟩
      · simp at h h2; omega
      · simp at h h2; omega
      · simp only [decide_eq_false_iff_not] at h
        rw [List.take_of_length_le (by omega)] at hn
        exact ⟨rfl, (.cons _ _ _ _ (by rw [decide_eq_false (fun c => c hn)]; exact .vs _) .nil), .nil⟩)
def badp_cf : Nat → Cfg := cfL [mkC 19 [0, 1, 7, 8] []]
def badp_a (L : List (ByteArray × ByteArray)) (N : List ByteArray) (g : D) : List AV := [.fz (eL L) L.length [.str, .str], .fn 39 [.fzp (listD [.l (eL N) N.length [.str], g] 2) 1 [.lst, .lst] 0 0]]
noncomputable def badp_t (P : Program) (L : List (ByteArray × ByteArray)) (N : List ByteArray) (g : D) : Br PO :=
(.leaf (.at 0 (ct P 48 0).1 (ct P 48 0).2 ⟨Ex.normal, true, [some (AV.fz (eL L) L.length [TK.str, TK.str]), some (AV.fn 39 [AV.fzp (listD [D.l (eL N) N.length [TK.str], g] 2) 1 [TK.lst, TK.lst] 0 0]), some (AV.s (Value.int IntKind.i64 (Int.ofNat L.length))), some (AV.v (Value.int IntKind.i64 (0)))], []⟩))
theorem badp_h (L : List (ByteArray × ByteArray)) (N : List ByteArray) (g : D) : (ev Tryd.prog slX noS 3000 noL 3000 .normal [.c 0 (codeOf Tryd.prog 48)] (params (badp_a L N g)) Ev.start).map (lookP Tryd.prog (resOf Tryd.prog 48) [] badp_cf) = badp_t Tryd.prog L N g := by kernel_rfl
def badp_v0 (L : List (ByteArray × ByteArray)) (N : List ByteArray) (g : D) (i : Nat) : List AV := [.fz (eL L) L.length [.str, .str], .fn 39 [.fzp (listD [.l (eL N) N.length [.str], g] 2) 1 [.lst, .lst] 0 0], .s (.int .i64 L.length), .s (.int .i64 i)]
def badp_o0 (L : List (ByteArray × ByteArray)) (N : List ByteArray) (g : D) (i : Nat) : List AO := []
noncomputable def badp_t0 (P : Program) (L : List (ByteArray × ByteArray)) (N : List ByteArray) (g : D) (i : Nat) : Br PO :=
(.test (decide ((↑i : Int) < (↑L.length : Int)))
  (.test (decide (0 ≤ (↑i : Int)) && decide ((↑i : Int) < (↑L.length : Int)))
    (.test ((L.getD (↑i : Int).toNat default).fst.toList == (L.getD (↑i : Int).toNat default).snd.toList)
      (.leaf (.fin ⟨Ex.ret, true, [some (AV.s (Value.int IntKind.i64 (Int.ofNat i)))], []⟩))
      (.test (!decide (idxS (dL ByteArray (eL N) N.length) (L.getD (↑i : Int).toNat default).fst ≥ 0))
        (.leaf (.fin ⟨Ex.ret, true, [some (AV.s (Value.int IntKind.i64 (Int.ofNat i)))], []⟩))
        (.test (!decide (idxS (dL ByteArray (eL N) N.length) (L.getD (↑i : Int).toNat default).snd ≥ 0))
          (.leaf (.fin ⟨Ex.ret, true, [some (AV.s (Value.int IntKind.i64 (Int.ofNat i)))], []⟩))
          (.leaf (.at 0 (ct P 48 0).1 (ct P 48 0).2 ⟨Ex.normal, true, [some (AV.fz (eL L) L.length [TK.str, TK.str]), some (AV.fn 39 [AV.fzp (listD [D.l (eL N) N.length [TK.str], g] 2) 1 [TK.lst, TK.lst] 0 0]), some (AV.s (Value.int IntKind.i64 (Int.ofNat L.length))), some (AV.s (Value.int IntKind.i64 (IntKind.i64.wrap ((↑i : Int) + 1))))], []⟩))
        )
      )
    )
    .no
  )
  (.leaf (.fin ⟨Ex.ret, true, [some (AV.v (Value.int IntKind.i64 (Int.negSucc 0)))], []⟩))
)
theorem badp_h0 (L : List (ByteArray × ByteArray)) (N : List ByteArray) (g : D) (i : Nat) (j : Nat → Value) : (ev Tryd.prog slX noS 3000 noL 3000 .normal (hd Tryd.prog 48 0) (mkE (badp_cf 0) (badp_v0 L N g i) j) (mkH openB (badp_o0 L N g i))).map (lookP Tryd.prog (resOf Tryd.prog 48) [] badp_cf) = badp_t0 Tryd.prog L N g i := by kernel_rfl

/-- May a pair not be, over these names? -/
def badP (N : List ByteArray) (p : ByteArray × ByteArray) : Bool := decide (p.1 = p.2) || (!inL p.1 N || !inL p.2 N)
theorem badp_ok (L : List (ByteArray × ByteArray)) (N : List ByteArray) (g : D) : OCalls Tryd.prog 48 (badp_a L N g) (.s (.int .i64 (idxF (badP N) L))) [] := OCalls.bnd fun hb =>
  floyd ev_mix ev_ok slX_ok noSO (by kernel_rfl) [] badp_cf (fun i => L.length - i) (fun _ => 0) (badp_v0 L N g) (badp_o0 L N g) (fun i => i ≤ L.length ∧ ∀ k, k < i → badP N (L.getD k default) = false) (badp_t0 _ L N g) (badp_t _ L N g) (badp_h L N g) (badp_h0 L N g)
    ⟨0, ⟨Nat.zero_le _, fun k h => absurd h (Nat.not_lt_zero k)⟩, rfl, rfl, rfl, (.cons _ _ _ _ (.refl _) (.cons _ _ _ _ (.refl _) (.cons _ _ _ _ (.refl _) (.cons _ _ _ _ (.vs _) .nil)))), .nil⟩
    (by
      intro i ⟨hi, hn⟩
      have hL : L.length ≤ 9223372036854775807 := hb.1
      refine ⟨fun h => ⟨fun _ => ⟨fun h2 => ?_, fun h2 => ⟨fun h3 => ?_, fun h3 => ⟨fun h4 => ?_, fun h4 => ?_⟩⟩⟩, fun h2 => ?_⟩, fun h => ?_⟩
      · simp only [decide_eq_true_eq] at h
        rw [ba_eq] at h2
        have hp : badP N (L.getD i default) = true := by unfold badP; simp at h2; simp [h2]
        exact ⟨rfl, (.cons _ _ _ _ (.ofEq (by rw [idxF_hit (i := i) (by omega) hp hn]; rfl)) .nil), .nil⟩
      · simp only [decide_eq_true_eq] at h
        rw [idxS_ge, dL_eL] at h3
        have hp : badP N (L.getD i default) = true := by unfold badP; simp at h3; simp [h3]
        exact ⟨rfl, (.cons _ _ _ _ (.ofEq (by rw [idxF_hit (i := i) (by omega) hp hn]; rfl)) .nil), .nil⟩
      · simp only [decide_eq_true_eq] at h
        rw [idxS_ge, dL_eL] at h4
        have hp : badP N (L.getD i default) = true := by unfold badP; simp at h4; simp [h4]
        exact ⟨rfl, (.cons _ _ _ _ (.ofEq (by rw [idxF_hit (i := i) (by omega) hp hn]; rfl)) .nil), .nil⟩
      · simp only [decide_eq_true_eq] at h
        rw [ba_eq] at h2
        rw [idxS_ge, dL_eL] at h3 h4
        have hp : badP N (L.getD i default) = false := by unfold badP; simp at h2 h3 h4; simp [h2, h3, h4]
        refine ⟨i + 1, ⟨by omega, fun k hk => ?_⟩, rel_nat (by omega), rfl, rfl, rfl, (.cons _ _ _ _ (.refl _) (.cons _ _ _ _ (.refl _) (.cons _ _ _ _ (.refl _) (.cons _ _ _ _ (.ofEq (by rw [wrap_lt (by omega) (by omega)]; rfl)) .nil)))), .nil⟩
        rcases Nat.lt_or_ge k i with c | c
        · exact hn k c
        · obtain rfl : k = i := by omega
          exact hp
      · simp at h h2; omega
      · simp only [decide_eq_false_iff_not] at h
        exact ⟨rfl, (.cons _ _ _ _ (by rw [idxF_none (fun k hk => hn k (by omega))]; exact .vs _) .nil), .nil⟩)
end Go.Proofs.YtffcaapbmkaceaaDoor
end
section
namespace Go.Proofs.YtffcaapbmkaceaaDoor
open Ev Go.RowKit
set_option maxRecDepth 100000
set_option maxHeartbeats 1000000
def boolOf : D → Bool
  | .v (.bool b) => b
  | _ => false
def bK : List TK := List.replicate 256 .bool
theorem contains_ok (F : Nat → Nat → D) (c : Int) (h0 : 0 ≤ c) (h1 : c < 256) : OCalls Tryd.prog 59 [.fzp F 1 bK 0 0, .s (.int .u8 c)] (.s (.bool (boolOf (F 0 c.toNat)))) [] := by
  intro m w ys hm hys
  letI : Fz := ⟨m, false⟩
  obtain ⟨y1, r1, e1, ⟨_, b, o, ⟨C, eT, fr, hb, ⟨hs, _⟩, hc⟩, _, hy1⟩, ⟨y2, r2, e2, hy2, hnil⟩⟩ := hys
  simp only [VRels] at hnil
  subst hnil
  subst e2
  obtain rfl : y2 = .int .u8 c := hy2
  obtain rfl : ys = #[y1, .int .u8 c] := by apply Array.ext'; simpa using e1
  subst hy1
  have hlt : c.toNat < bK.length := by have : bK.length = 256 := rfl; omega
  obtain ⟨⟨tk, t1, t2⟩, z, z1, z2⟩ := hc 0 c.toNat (by omega) hlt
  have hz : z = .bool (boolOf (F 0 c.toNat)) := by
    have : tk = .bool := by
      have := List.mem_of_getElem? t1
      exact List.eq_of_mem_replicate this
    subst this
    cases hF : F 0 c.toNat with
    | v x => rw [hF] at t2 z2; cases z2; cases z <;> simp_all [TK.fit, boolOf]
    | l f n ks => rw [hF] at t2; cases t2
  subst hz
  have hcell : w.cell? ⟨b, o + c.toNat, none⟩ = some (.bool (boolOf (F 0 c.toNat))) := cell_atf (hm _ _ hb) (by simpa using z1)
  have key : Calls Tryd.prog 59 #[.pointer (some ⟨b, o + (0 + 0), none⟩), .int .u8 c] w fun e w' => e = .returned (.bool (boolOf (F 0 c.toNat))) ∧ w' = w := by
    generalize boolOf (F 0 c.toNat) = B at hcell
    go_enter Tryd.func59, Tryd.ntmps59
    go_wp2
    go_ret
    exact ⟨rfl, rfl⟩
  refine key.mono ?_
  rintro e w' ⟨rfl, rfl⟩
  refine ⟨_, fun _ => none, rfl, Fr.refl _ _, rfl, ?_, fun n p h => by cases h⟩
  exact @HR.start ⟨m, false⟩ _ openB [] hm (fun _ => Nat.le_refl _)
def containsX : SumBr := oX 59 fun
  | [.fzp F 1 ks 0 0, v] => match unP v with
    | some (.int .u8 c) => bif ksEq bK ks then some (.test (decide (0 ≤ c) && decide (c < 256)) (.leaf (.s (.bool (boolOf (F 0 c.toNat))), [])) .no) else none
    | _ => none
  | _ => none
theorem containsX_ok : SumGO Tryd.prog (sumS containsX) := oX_ok (by kernel_rfl) fun xs B r h hB => by
  split at h
  · rename_i F ks v
    split at h
    · rename_i c hv
      cases hk : ksEq bK ks with
      | false => rw [hk] at h; cases h
      | true =>
        rw [hk] at h
        cases h
        rcases hB with ⟨h1, hB⟩ | ⟨_, hB⟩
        · cases hB
          simp only [Bool.and_eq_true, decide_eq_true_eq] at h1
          rw [← ksEq_eq hk]
          exact (contains_ok F c h1.1 h1.2).leS fun m ys ⟨y, r, e, h1, ⟨y2, r2, e2, h2, h3⟩⟩ => by
            letI : Fz := ⟨m, false⟩
            exact ⟨y, r, e, h1, y2, r2, e2, unP_rel hv h2, h3⟩
        · exact hB.elim
    · cases h
  · cases h
end Go.Proofs.YtffcaapbmkaceaaDoor
end
section
namespace Go.Proofs.YtffcaapbmkaceaaDoor
open Ev Go.RowKit
set_option maxRecDepth 100000
set_option linter.unusedVariables false
def trr_cf : Nat → Cfg := cfL [mkC 22 [0, 1] []]
def trr_a (F : Nat → Nat → D) (x : ByteArray) : List AV := [.s (.string x), .fzp F 1 bK 0 0]
noncomputable def trr_t (P : Program) (F : Nat → Nat → D) (x : ByteArray) : Br PO :=
(.leaf (.at 0 (ct P 55 0).1 (ct P 55 0).2 ⟨Ex.normal, true, [some (AV.s (Value.string x)), some (AV.fzp F 1 bK 0 0)], []⟩))
theorem trr_h (F : Nat → Nat → D) (x : ByteArray) : (ev Tryd.prog containsX noS 3000 noL 3000 .normal [.c 0 (codeOf Tryd.prog 55)] (params (trr_a F x)) Ev.start).map (lookP Tryd.prog (resOf Tryd.prog 55) [] trr_cf) = trr_t Tryd.prog F x := by kernel_rfl
def trr_v0 (F : Nat → Nat → D) (x : ByteArray) (z : ByteArray) : List AV := [.s (.string z), .fzp F 1 bK 0 0]
def trr_o0 (F : Nat → Nat → D) (x : ByteArray) (z : ByteArray) : List AO := []
noncomputable def trr_t0 (P : Program) (F : Nat → Nat → D) (x : ByteArray) (z : ByteArray) : Br PO :=
(.test (decide ((↑z.size : Int) > 0))
  (.test (decide (0 ≤ IntKind.i64.wrap ((↑z.size : Int) - 1)) && decide (IntKind.i64.wrap ((↑z.size : Int) - 1) < (↑z.size : Int)))
    (.test (decide (0 ≤ byteAt z (IntKind.i64.wrap ((↑z.size : Int) - 1)).toNat) && decide (byteAt z (IntKind.i64.wrap ((↑z.size : Int) - 1)).toNat < 256))
      (.test (!boolOf (F 0 (byteAt z (IntKind.i64.wrap ((↑z.size : Int) - 1)).toNat).toNat))
        (.leaf (.fin ⟨Ex.ret, true, [some (AV.s (Value.string z))], []⟩))
        (.test (decide (0 ≤ 0) && decide (0 ≤ IntKind.i64.wrap ((↑z.size : Int) - 1)) && decide (IntKind.i64.wrap ((↑z.size : Int) - 1) ≤ (↑z.size : Int)))
          (.leaf (.at 0 (ct P 55 0).1 (ct P 55 0).2 ⟨Ex.normal, true, [some (AV.s (Value.string (z.extract (Int.toNat 0) (IntKind.i64.wrap ((↑z.size : Int) - 1)).toNat))), some (AV.fzp F 1 bK 0 0)], []⟩))
          .no
        )
      )
      .no
    )
    .no
  )
  (.leaf (.fin ⟨Ex.ret, true, [some (AV.s (Value.string z))], []⟩))
)
theorem trr_h0 (F : Nat → Nat → D) (x : ByteArray) (z : ByteArray) (j : Nat → Value) : (ev Tryd.prog containsX noS 3000 noL 3000 .normal (hd Tryd.prog 55 0) (mkE (trr_cf 0) (trr_v0 F x z) j) (mkH openB (trr_o0 F x z))).map (lookP Tryd.prog (resOf Tryd.prog 55) [] trr_cf) = trr_t0 Tryd.prog F x z := by kernel_rfl

def setF (F : Nat → Nat → D) (c : Int) : Bool := boolOf (F 0 c.toNat)
theorem trr_ok (F : Nat → Nat → D) (x : ByteArray) (hx : x.size ≤ 4611686018427387904) : OCalls Tryd.prog 55 (trr_a F x) (.s (.string (trS (setF F) x))) [] :=
  floyd ev_mix ev_ok containsX_ok noSO (by kernel_rfl) [] trr_cf (fun z => z.size) (fun _ => 0) (trr_v0 F x) (trr_o0 F x) (fun z => z.size ≤ x.size ∧ trS (setF F) z = trS (setF F) x) (trr_t0 _ F x) (trr_t _ F x) (trr_h F x) (trr_h0 F x)
    ⟨x, ⟨Nat.le_refl _, rfl⟩, rfl, rfl, rfl, (.cons _ _ _ _ (.refl _) (.cons _ _ _ _ (.refl _) .nil)), .nil⟩
    (by
      intro z ⟨hz, ht⟩
      have hw : 0 < z.size → IntKind.i64.wrap ((z.size : Int) - 1) = ((z.size - 1 : Nat) : Int) := fun h => by rw [wrap_lt (by omega) (by omega)]; omega
      refine ⟨fun h => ?_, fun h => ?_⟩
      · simp only [decide_eq_true_eq] at h
        have h : 0 < z.size := by omega
        rw [hw h]
        refine ⟨fun _ => ⟨fun _ => ⟨fun h2 => ?_, fun h2 => ⟨fun _ => ?_, fun h3 => ?_⟩⟩, fun h3 => ?_⟩, fun h3 => ?_⟩
        · have hs : setF F (byteAt z (z.size - 1)) = false := by simpa [setF] using h2
          exact ⟨rfl, (.cons _ _ _ _ (.ofEq (by rw [← ht, trS_stop h hs])) .nil), .nil⟩
        · have hs : setF F (byteAt z (z.size - 1)) = true := by simpa [setF] using h2
          refine ⟨z.extract 0 (z.size - 1), ⟨by rw [size_extract]; omega, by rw [trS_step h hs, ht]⟩, rel_nat (by rw [size_extract]; omega), rfl, rfl, rfl, (.cons _ _ _ _ (.ofEq rfl) (.cons _ _ _ _ (.refl _) .nil)), .nil⟩
        · first | (simp at h3; done) | (simp at h3; omega)
        · have := byteAt_ge z (((z.size - 1 : Nat) : Int)).toNat
          simp only [Bool.and_eq_false_iff, decide_eq_false_iff_not] at h3; omega
        · simp only [Bool.and_eq_false_iff, decide_eq_false_iff_not] at h3; omega
      · simp only [decide_eq_false_iff_not] at h
        exact ⟨rfl, (.cons _ _ _ _ (.ofEq (by rw [← ht, trS_nil (by omega)])) .nil), .nil⟩)
def trl_cf : Nat → Cfg := cfL [mkC 16 [0, 1] []]
def trl_a (F : Nat → Nat → D) (x : ByteArray) : List AV := [.s (.string x), .fzp F 1 bK 0 0]
noncomputable def trl_t (P : Program) (F : Nat → Nat → D) (x : ByteArray) : Br PO :=
(.leaf (.at 0 (ct P 54 0).1 (ct P 54 0).2 ⟨Ex.normal, true, [some (AV.s (Value.string x)), some (AV.fzp F 1 bK 0 0)], []⟩))
theorem trl_h (F : Nat → Nat → D) (x : ByteArray) : (ev Tryd.prog containsX noS 3000 noL 3000 .normal [.c 0 (codeOf Tryd.prog 54)] (params (trl_a F x)) Ev.start).map (lookP Tryd.prog (resOf Tryd.prog 54) [] trl_cf) = trl_t Tryd.prog F x := by kernel_rfl
def trl_v0 (F : Nat → Nat → D) (x : ByteArray) (z : ByteArray) : List AV := [.s (.string z), .fzp F 1 bK 0 0]
def trl_o0 (F : Nat → Nat → D) (x : ByteArray) (z : ByteArray) : List AO := []
noncomputable def trl_t0 (P : Program) (F : Nat → Nat → D) (x : ByteArray) (z : ByteArray) : Br PO :=
(.test (decide ((↑z.size : Int) > 0))
  (.test (decide (0 ≤ 0) && decide (0 < (↑z.size : Int)))
    (.test (decide (0 ≤ byteAt z (Int.toNat 0)) && decide (byteAt z (Int.toNat 0) < 256))
      (.test (!boolOf (F 0 (byteAt z (Int.toNat 0)).toNat))
        (.leaf (.fin ⟨Ex.ret, true, [some (AV.s (Value.string z))], []⟩))
        (.test (decide (0 ≤ 1) && decide (1 ≤ (↑z.size : Int)) && decide ((↑z.size : Int) ≤ (↑z.size : Int)))
          (.leaf (.at 0 (ct P 54 0).1 (ct P 54 0).2 ⟨Ex.normal, true, [some (AV.s (Value.string (z.extract (Int.toNat 1) (↑z.size : Int).toNat))), some (AV.fzp F 1 bK 0 0)], []⟩))
          .no
        )
      )
      .no
    )
    .no
  )
  (.leaf (.fin ⟨Ex.ret, true, [some (AV.s (Value.string z))], []⟩))
)
theorem trl_h0 (F : Nat → Nat → D) (x : ByteArray) (z : ByteArray) (j : Nat → Value) : (ev Tryd.prog containsX noS 3000 noL 3000 .normal (hd Tryd.prog 54 0) (mkE (trl_cf 0) (trl_v0 F x z) j) (mkH openB (trl_o0 F x z))).map (lookP Tryd.prog (resOf Tryd.prog 54) [] trl_cf) = trl_t0 Tryd.prog F x z := by kernel_rfl

theorem trl_ok (F : Nat → Nat → D) (x : ByteArray) : OCalls Tryd.prog 54 (trl_a F x) (.s (.string (tlS (setF F) x))) [] :=
  floyd ev_mix ev_ok containsX_ok noSO (by kernel_rfl) [] trl_cf (fun z => z.size) (fun _ => 0) (trl_v0 F x) (trl_o0 F x) (fun z => tlS (setF F) z = tlS (setF F) x) (trl_t0 _ F x) (trl_t _ F x) (trl_h F x) (trl_h0 F x)
    ⟨x, rfl, rfl, rfl, rfl, (.cons _ _ _ _ (.refl _) (.cons _ _ _ _ (.refl _) .nil)), .nil⟩
    (by
      intro z ht
      refine ⟨fun h => ?_, fun h => ?_⟩
      · simp only [decide_eq_true_eq] at h
        have h : 0 < z.size := by omega
        refine ⟨fun _ => ⟨fun _ => ⟨fun h2 => ?_, fun h2 => ⟨fun _ => ?_, fun h3 => ?_⟩⟩, fun h3 => ?_⟩, fun h3 => ?_⟩
        · have hs : setF F (byteAt z 0) = false := by simpa [setF] using h2
          exact ⟨rfl, (.cons _ _ _ _ (.ofEq (by rw [← ht, tlS_stop h hs])) .nil), .nil⟩
        · have hs : setF F (byteAt z 0) = true := by simpa [setF] using h2
          refine ⟨z.extract 1 z.size, by rw [tlS_step h hs, ht], rel_nat (by rw [size_extract]; omega), rfl, rfl, rfl, (.cons _ _ _ _ (.ofEq rfl) (.cons _ _ _ _ (.refl _) .nil)), .nil⟩
        · first | (simp at h3; done) | (simp at h3; omega)
        · have := byteAt_ge z (Int.toNat 0)
          simp only [Bool.and_eq_false_iff, decide_eq_false_iff_not] at h3; omega
        · simp only [Bool.and_eq_false_iff, decide_eq_false_iff_not] at h3; omega
      · simp only [decide_eq_false_iff_not] at h
        exact ⟨rfl, (.cons _ _ _ _ (.ofEq (by rw [← ht, tlS_nil (by omega)])) .nil), .nil⟩)
def trimG (k : Nat) (q : (Int → Bool) → ByteArray → ByteArray) : List AV → Option (Br (AV × List AO))
  | [v, .fzp F 1 ks 0 0] => match strV v with
    | some x => bif ksEq bK ks then some (.test (Nat.ble x.size 4611686018427387904) (.leaf (.s (.string (q (setF F) x)), [])) .no) else none
    | _ => none
  | _ => none
def trrX : SumBr := oX 55 (trimG 0 trS)
def trlX : SumBr := oX 54 (trimG 0 tlS)
theorem trrX_ok : SumGO Tryd.prog (sumS trrX) := oX_ok (by kernel_rfl) fun xs B r h hB => by
  unfold trimG at h
  split at h
  · rename_i v F ks
    split at h
    · rename_i x hv
      cases hk : ksEq bK ks with
      | false => rw [hk] at h; cases h
      | true =>
        rw [hk] at h
        cases h
        rcases hB with ⟨h1, hB⟩ | ⟨_, hB⟩
        · cases hB
          rw [← ksEq_eq hk]
          exact (trr_ok F x (by simpa using h1)).leS fun m ys ⟨y, r, e, h1, h2⟩ => by
            letI : Fz := ⟨m, false⟩
            exact ⟨y, r, e, strV_rel hv h1, h2⟩
        · exact hB.elim
    · cases h
  · cases h
theorem trlX_ok : SumGO Tryd.prog (sumS trlX) := oX_ok (by kernel_rfl) fun xs B r h hB => by
  unfold trimG at h
  split at h
  · rename_i v F ks
    split at h
    · rename_i x hv
      cases hk : ksEq bK ks with
      | false => rw [hk] at h; cases h
      | true =>
        rw [hk] at h
        cases h
        rcases hB with ⟨h1, hB⟩ | ⟨_, hB⟩
        · cases hB
          rw [← ksEq_eq hk]
          exact (trl_ok F x).leS fun m ys ⟨y, r, e, h1, h2⟩ => by
            letI : Fz := ⟨m, false⟩
            exact ⟨y, r, e, strV_rel hv h1, h2⟩
        · exact hB.elim
    · cases h
  · cases h
end Go.Proofs.YtffcaapbmkaceaaDoor
end
