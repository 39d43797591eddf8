/- All that a role is; a role is made; a pair is joined; two lists of texts. No condition. -/
import Derived.Test.YtffcaapbmkaceaaDoorRpM
namespace Go.Proofs.YtffcaapbmkaceaaDoor
open Ev Go.RowKit
set_option maxRecDepth 100000
set_option linter.unusedVariables false
def all_cf : Nat → Cfg := cfL [mkC 31 [1, 2, 5, 9, 10, 11] [(2, []), (5, [])]]
def all_a (N : List ByteArray) (I : List (ByteArray × ByteArray)) (who : ByteArray) : List AV := [stA N I, .s (.string who)]
noncomputable def all_t (P : Program) (N : List ByteArray) (I : List (ByteArray × ByteArray)) (who : ByteArray) : Br PO :=
(.leaf (.at 0 (ct P 18 0).1 (ct P 18 0).2 ⟨Ex.normal, true, [some (AV.s (Value.string who)), some (AV.ptr 65536 0 0), some (AV.v (Value.slice none 0 0)), some (AV.fz (eL N) N.length [TK.str]), some (AV.s (Value.int IntKind.i64 (Int.ofNat N.length))), some (AV.v (Value.int IntKind.i64 (0)))], [OS.o (AO.cells [AV.fz (eL N) N.length [TK.str], AV.fz (eL I) I.length [TK.str, TK.str]] 2 65536 true false), OS.nil]⟩))
theorem all_h (N : List ByteArray) (I : List (ByteArray × ByteArray)) (who : ByteArray) : (ev Tryd.prog roX noS 3000 noL 3000 .normal [.c 0 (codeOf Tryd.prog 18)] (params (all_a N I who)) Ev.start).map (lookP Tryd.prog (resOf Tryd.prog 18) [[]] all_cf) = all_t Tryd.prog N I who := by kernel_rfl
def all_v0 (N : List ByteArray) (I : List (ByteArray × ByteArray)) (who : ByteArray) (A : List ByteArray) (i : Nat) : List AV := [.s (.string who), .ptr 65536 0 0, .osl 65537 A.length, .fz (eL N) N.length [.str], .s (.int .i64 N.length), .s (.int .i64 i)]
def all_o0 (N : List ByteArray) (I : List (ByteArray × ByteArray)) (who : ByteArray) (A : List ByteArray) (i : Nat) : List AO := [stO N I, .rows (eL A) A.length [.str]]
noncomputable def all_t0 (P : Program) (N : List ByteArray) (I : List (ByteArray × ByteArray)) (who : ByteArray) (A : List ByteArray) (i : Nat) : Br PO :=
(.test (decide ((↑i : Int) < (↑N.length : Int)))
  (.test (decide (0 ≤ (↑i : Int)) && decide ((↑i : Int) < (↑N.length : Int)))
    (.test (N.length.ble 1000000)
      (.test (isP (dL ByteArray (eL N) N.length) (dL (ByteArray × ByteArray) (eL I) I.length) who (N.getD (↑i : Int).toNat default))
        (.test (A.length.ble A.length)
          (.test (!decide (idxS (dL ByteArray (eL A) A.length) (N.getD (↑i : Int).toNat default) ≥ 0))
            (.test (A.length.beq A.length && (true && (small (1 + A.length) && small (Tryd.prog.types[9].bytes * (1 + A.length)))))
              (.leaf (.at 0 (ct P 18 0).1 (ct P 18 0).2 ⟨Ex.normal, true, [some (AV.s (Value.string who)), some (AV.ptr 65536 0 0), some (AV.osl 65537 (A.length + 1)), some (AV.fz (eL N) N.length [TK.str]), some (AV.s (Value.int IntKind.i64 (Int.ofNat N.length))), some (AV.s (Value.int IntKind.i64 (IntKind.i64.wrap ((↑i : Int) + 1))))], [OS.o (AO.cells [AV.fz (eL N) N.length [TK.str], AV.fz (eL I) I.length [TK.str, TK.str]] 2 0 true false), OS.o (AO.rows (catD (eL A) A.length (listD [D.v (Value.string (N.getD (↑i : Int).toNat default))] [TK.str].length)) (A.length + 1) [TK.str])]⟩))
              .no
            )
            (.leaf (.at 0 (ct P 18 0).1 (ct P 18 0).2 ⟨Ex.normal, true, [some (AV.s (Value.string who)), some (AV.ptr 65536 0 0), some (AV.osl 65537 A.length), some (AV.fz (eL N) N.length [TK.str]), some (AV.s (Value.int IntKind.i64 (Int.ofNat N.length))), some (AV.s (Value.int IntKind.i64 (IntKind.i64.wrap ((↑i : Int) + 1))))], [OS.o (AO.cells [AV.fz (eL N) N.length [TK.str], AV.fz (eL I) I.length [TK.str, TK.str]] 2 0 true false), OS.o (AO.rows (eL A) A.length [TK.str])]⟩))
          )
          .no
        )
        (.leaf (.at 0 (ct P 18 0).1 (ct P 18 0).2 ⟨Ex.normal, true, [some (AV.s (Value.string who)), some (AV.ptr 65536 0 0), some (AV.osl 65537 A.length), some (AV.fz (eL N) N.length [TK.str]), some (AV.s (Value.int IntKind.i64 (Int.ofNat N.length))), some (AV.s (Value.int IntKind.i64 (IntKind.i64.wrap ((↑i : Int) + 1))))], [OS.o (AO.cells [AV.fz (eL N) N.length [TK.str], AV.fz (eL I) I.length [TK.str, TK.str]] 2 0 true false), OS.o (AO.rows (eL A) A.length [TK.str])]⟩))
      )
      .no
    )
    .no
  )
  (.leaf (.fin ⟨Ex.ret, true, [some (AV.osl 65536 A.length)], [OS.o (AO.rows (eL A) A.length [TK.str])]⟩))
)
theorem all_h0 (N : List ByteArray) (I : List (ByteArray × ByteArray)) (who : ByteArray) (A : List ByteArray) (i : Nat) (j : Nat → Value) : (ev Tryd.prog roX noS 3000 noL 3000 .normal (hd Tryd.prog 18 0) (mkE (all_cf 0) (all_v0 N I who A i) j) (mkH openB (all_o0 N I who A i))).map (lookP Tryd.prog (resOf Tryd.prog 18) [[]] all_cf) = all_t0 Tryd.prog N I who A i := by kernel_rfl

/-- One name more is looked at. -/
noncomputable def allF (N : List ByteArray) (I : List (ByteArray × ByteArray)) (who : ByteArray) (out : List ByteArray) (n : ByteArray) : List ByteArray := bif isP N I who n && !inL n out then out ++ [n] else out
/-- All that a role is. -/
noncomputable def allP (N : List ByteArray) (I : List (ByteArray × ByteArray)) (who : ByteArray) : List ByteArray := N.foldl (allF N I who) []
theorem allF_len (N : List ByteArray) (I : List (ByteArray × ByteArray)) (who : ByteArray) : ∀ (M out : List ByteArray), (M.foldl (allF N I who) out).length ≤ out.length + M.length
  | [], out => Nat.le_refl _
  | n :: M, out => by
    have ih := allF_len N I who M (allF N I who out n)
    have : (allF N I who out n).length ≤ out.length + 1 := by
      unfold allF
      cases isP N I who n && !inL n out <;> simp
    simp only [List.foldl_cons, List.length_cons]; omega
theorem all_ok (N : List ByteArray) (I : List (ByteArray × ByteArray)) (who : ByteArray) (hN : N.length ≤ 1000000) : OCalls Tryd.prog 18 (all_a N I who) (.osl 65536 (allP N I who).length) [.rows (eL (allP N I who)) (allP N I who).length [.str]] := by
  refine floyd ev_mix ev_ok roX_ok noSO (by kernel_rfl) [[]] all_cf (fun i => N.length - i) (fun _ => 0) (fun i => all_v0 N I who ((N.take i).foldl (allF N I who) []) i) (fun i => all_o0 N I who ((N.take i).foldl (allF N I who) []) i) (fun i => i ≤ N.length) (fun i => all_t0 _ N I who ((N.take i).foldl (allF N I who) []) i) (all_t _ N I who) (all_h N I who) (fun i j => all_h0 N I who _ i j) ?_ ?_
  · exact ⟨0, Nat.zero_le _, rfl, rfl, rfl, (.cons _ _ _ _ (.refl _) (.cons _ _ _ _ (.refl _) (.cons _ _ _ _ (.nilv _) (.cons _ _ _ _ (.refl _) (.cons _ _ _ _ (.refl _) (.cons _ _ _ _ (.vs _) .nil)))))), .cons _ _ _ _ (st_le N I _ _) (.cons _ _ _ _ (.nil _ _) .nil)⟩
  · intro i hi
    obtain ⟨A, hA⟩ : ∃ A, A = (N.take i).foldl (allF N I who) [] := ⟨_, rfl⟩
    have hlen : A.length ≤ i := by rw [hA]; have := allF_len N I who (N.take i) []; simp at this; omega
    have hnext : i < N.length → (N.take (i + 1)).foldl (allF N I who) [] = allF N I who A (N.getD i default) := fun h => by rw [take_snoc h, List.foldl_append, ← hA]; rfl
    rw [← hA]
    unfold all_t0
    rw [dL_eL, dL_eL, dL_eL, idxS_ge]
    refine ⟨fun h => ⟨fun _ => ⟨fun _ => ⟨fun h1 => ⟨fun _ => ⟨fun h2 => ⟨fun _ => ?_, fun h3 => ?_⟩, fun h2 => ?_⟩, fun h2 => ?_⟩, fun h1 => ?_⟩, fun h1 => ?_⟩, fun h1 => ?_⟩, fun h => ?_⟩
    · simp only [decide_eq_true_eq] at h
      have hn := hnext (by omega)
      have ha : allF N I who A (N.getD i default) = A ++ [N.getD i default] := by unfold allF; rw [show isP N I who (N.getD i default) = true from h1, show (!inL (N.getD i default) A) = true from h2]; rfl
      rw [ha] at hn
      have hl : (A ++ [N.getD i default]).length = A.length + 1 := by simp
      refine ⟨i + 1, by omega, rel_nat (by omega), rfl, rfl, ?_⟩
      rw [hn]
      exact ⟨rfl, (.cons _ _ _ _ (.refl _) (.cons _ _ _ _ (.refl _) (.cons _ _ _ _ (.ofEq (by rw [hl])) (.cons _ _ _ _ (.refl _) (.cons _ _ _ _ (.refl _) (.cons _ _ _ _ (.ofEq (by rw [wrap_lt (by omega) (by omega)]; rfl)) .nil)))))), .cons _ _ _ _ (st_le N I _ _) (.cons _ _ _ _ (OLe.snoc (x := N.getD i default) fun c hc => by have : c = 0 := (by simp [Rec.ks] at hc; omega); subst this; rfl) .nil)⟩
    · simp only [decide_eq_true_eq] at h
      have hB : Tryd.prog.types[9].bytes = 16 := by kernel_rfl
      rw [hB, small_ok (by omega), small_ok (by omega), Nat.beq_refl] at h3
      cases h3
    · simp only [decide_eq_true_eq] at h
      have hn := hnext (by omega)
      have ha : allF N I who A (N.getD i default) = A := by unfold allF; rw [show (!inL (N.getD i default) A) = false from h2, Bool.and_false]; rfl
      rw [ha] at hn
      refine ⟨i + 1, by omega, rel_nat (by omega), rfl, rfl, ?_⟩
      rw [hn]
      exact ⟨rfl, (.cons _ _ _ _ (.refl _) (.cons _ _ _ _ (.refl _) (.cons _ _ _ _ (.refl _) (.cons _ _ _ _ (.refl _) (.cons _ _ _ _ (.refl _) (.cons _ _ _ _ (.ofEq (by rw [wrap_lt (by omega) (by omega)]; rfl)) .nil)))))), .cons _ _ _ _ (st_le N I _ _) (.cons _ _ _ _ (OLe.same _ _ _) .nil)⟩
    · have := ble_no h2; omega
    · simp only [decide_eq_true_eq] at h
      have hn := hnext (by omega)
      have ha : allF N I who A (N.getD i default) = A := by unfold allF; rw [show isP N I who (N.getD i default) = false from h1, Bool.false_and]; rfl
      rw [ha] at hn
      refine ⟨i + 1, by omega, rel_nat (by omega), rfl, rfl, ?_⟩
      rw [hn]
      exact ⟨rfl, (.cons _ _ _ _ (.refl _) (.cons _ _ _ _ (.refl _) (.cons _ _ _ _ (.refl _) (.cons _ _ _ _ (.refl _) (.cons _ _ _ _ (.refl _) (.cons _ _ _ _ (.ofEq (by rw [wrap_lt (by omega) (by omega)]; rfl)) .nil)))))), .cons _ _ _ _ (st_le N I _ _) (.cons _ _ _ _ (OLe.same _ _ _) .nil)⟩
    · have := ble_no h1; omega
    · simp only [decide_eq_true_eq] at h
      simp only [Bool.and_eq_false_iff, decide_eq_false_iff_not] at h1; omega
    · simp only [decide_eq_false_iff_not] at h
      have he : A = allP N I who := by rw [hA, List.take_of_length_le (by omega)]; rfl
      rw [he]
      exact ⟨rfl, (.cons _ _ _ _ (.refl _) .nil), .cons _ _ _ _ (OLe.same _ _ _) .nil⟩
noncomputable def allX : SumBr := oX 18 fun
  | [v, a] => match stV v, strV a with
    | some ((f, n), (g, m)), some x => some (.test (Nat.ble n 1000000) (.leaf (.osl 65536 (allP (dL _ f n) (dL _ g m) x).length, [.rows (eL (allP (dL _ f n) (dL _ g m) x)) (allP (dL _ f n) (dL _ g m) x).length [.str]])) .no)
    | _, _ => none
  | _ => none
theorem allX_ok : SumGO Tryd.prog (sumS allX) := oX_ok (by kernel_rfl) fun xs B r h hB => by
  split at h
  · split at h
    · rename_i v a f n g m x hv ha
      cases h
      rcases hB with ⟨hn, hB⟩ | ⟨_, hB⟩
      · cases hB
        exact (all_ok (dL _ f n) (dL _ g m) x (by rw [dL_length]; simpa using hn)).leS fun m ys ⟨y, r, e, h1, ⟨y2, r2, e2, h2, h3⟩⟩ => by
          letI : Fz := ⟨m, false⟩
          exact ⟨y, r, e, stV_rel rfl hv h1, y2, r2, e2, strV_rel ha h2, h3⟩
      · exact hB.elim
    · cases h
  · cases h
def texts_cf : Nat → Cfg := cfL [mkC 26 [0, 1, 5] []]
def texts_a (L M : List ByteArray) : List AV := [.fz (eL L) L.length [.str], .fz (eL M) M.length [.str]]
noncomputable def texts_t (P : Program) (L M : List ByteArray) : Br PO :=
(.test ((↑L.length : Int) != (↑M.length : Int))
  (.leaf (.fin ⟨Ex.ret, true, [some (AV.v (Value.bool false))], []⟩))
  (.leaf (.at 0 (ct P 17 0).1 (ct P 17 0).2 ⟨Ex.normal, true, [some (AV.fz (eL L) L.length [TK.str]), some (AV.fz (eL M) M.length [TK.str]), some (AV.v (Value.int IntKind.i64 (0)))], []⟩))
)
theorem texts_h (L M : List ByteArray) : (ev Tryd.prog noX noS 3000 noL 3000 .normal [.c 0 (codeOf Tryd.prog 17)] (params (texts_a L M)) Ev.start).map (lookP Tryd.prog (resOf Tryd.prog 17) [] texts_cf) = texts_t Tryd.prog L M := by kernel_rfl
def texts_v0 (L M : List ByteArray) (i : Nat) : List AV := [.fz (eL L) L.length [.str], .fz (eL M) M.length [.str], .s (.int .i64 i)]
def texts_o0 (L M : List ByteArray) (i : Nat) : List AO := []
noncomputable def texts_t0 (P : Program) (L M : List ByteArray) (i : Nat) : Br PO :=
(.test (decide ((↑i : Int) < (↑L.length : Int)))
  (.test (decide (0 ≤ (↑i : Int)) && decide ((↑i : Int) < (↑L.length : Int)))
    (.test (decide (0 ≤ (↑i : Int)) && decide ((↑i : Int) < (↑M.length : Int)))
      (.test (!(L.getD (↑i : Int).toNat default).toList == (M.getD (↑i : Int).toNat default).toList)
        (.leaf (.fin ⟨Ex.ret, true, [some (AV.v (Value.bool false))], []⟩))
        (.leaf (.at 0 (ct P 17 0).1 (ct P 17 0).2 ⟨Ex.normal, true, [some (AV.fz (eL L) L.length [TK.str]), some (AV.fz (eL M) M.length [TK.str]), some (AV.s (Value.int IntKind.i64 (IntKind.i64.wrap ((↑i : Int) + 1))))], []⟩))
      )
      .no
    )
    .no
  )
  (.leaf (.fin ⟨Ex.ret, true, [some (AV.v (Value.bool true))], []⟩))
)
theorem texts_h0 (L M : List ByteArray) (i : Nat) (j : Nat → Value) : (ev Tryd.prog noX noS 3000 noL 3000 .normal (hd Tryd.prog 17 0) (mkE (texts_cf 0) (texts_v0 L M i) j) (mkH openB (texts_o0 L M i))).map (lookP Tryd.prog (resOf Tryd.prog 17) [] texts_cf) = texts_t0 Tryd.prog L M i := by kernel_rfl

theorem texts_ok (L M : List ByteArray) : OCalls Tryd.prog 17 (texts_a L M) (.s (.bool (decide (L = M)))) [] := OCalls.bnd fun hb =>
  floyd ev_mix ev_ok noX_open noSO (by kernel_rfl) [] texts_cf (fun i => L.length - i) (fun _ => 0) (texts_v0 L M) (texts_o0 L M) (fun i => L.length = M.length ∧ i ≤ L.length ∧ ∀ k, k < i → L.getD k default = M.getD k default) (texts_t0 _ L M) (texts_t _ L M) (texts_h L M) (texts_h0 L M)
    (by
      refine ⟨fun h => ?_, fun h => ?_⟩
      · have hne : L ≠ M := fun e => by subst e; simp at h
        exact ⟨rfl, (.cons _ _ _ _ (by rw [decide_eq_false hne]; exact .vs _) .nil), .nil⟩
      · have hl : L.length = M.length := by simp at h; omega
        exact ⟨0, ⟨hl, Nat.zero_le _, fun k h => absurd h (Nat.not_lt_zero k)⟩, rfl, rfl, rfl, (.cons _ _ _ _ (.refl _) (.cons _ _ _ _ (.refl _) (.cons _ _ _ _ (.vs _) .nil))), .nil⟩)
    (by
      intro i ⟨hl, hi, hn⟩
      have hL : L.length ≤ 9223372036854775807 := hb.1
      refine ⟨fun h => ⟨fun _ => ⟨fun _ => ⟨fun h2 => ?_, fun h2 => ?_⟩, fun h2 => ?_⟩, fun h2 => ?_⟩, fun h => ?_⟩
      · simp only [decide_eq_true_eq] at h
        rw [ba_eq, Bool.not_eq_true', decide_eq_false_iff_not] at h2
        have hne : L ≠ M := fun e => by subst e; exact h2 rfl
        exact ⟨rfl, (.cons _ _ _ _ (by rw [decide_eq_false hne]; exact .vs _) .nil), .nil⟩
      · simp only [decide_eq_true_eq] at h
        rw [ba_eq, Bool.not_eq_false', decide_eq_true_eq] at h2
        exact ⟨i + 1, ⟨hl, by omega, upto_next hn h2⟩, rel_nat (by omega), rfl, rfl, rfl, (.cons _ _ _ _ (.refl _) (.cons _ _ _ _ (.refl _) (.cons _ _ _ _ (.ofEq (by rw [wrap_lt (by omega) (by omega)]; rfl)) .nil))), .nil⟩
      · simp at h h2; omega
      · simp at h h2; omega
      · simp only [decide_eq_false_iff_not] at h
        have he : L = M := eq_getD hl fun k hk => hn k (by omega)
        exact ⟨rfl, (.cons _ _ _ _ (by rw [decide_eq_true he]; exact .vs _) .nil), .nil⟩)
def textsX : SumBr := oX 17 fun
  | [a, b] => match asL [.str] a, asL [.str] b with
    | some (f, n), some (g, m) => some (.leaf (.s (.bool (decide ((dL ByteArray f n) = dL _ g m))), []))
    | _, _ => none
  | _ => none
theorem textsX_ok : SumGO Tryd.prog (sumS textsX) := oX_ok (by kernel_rfl) fun xs B r h hB => by
  split at h
  · split at h
    · rename_i a b f n g k ha hb
      cases h
      cases hB
      exact (texts_ok (dL _ f n) (dL _ g k)).leS fun m ys ⟨y, r, e, h1, ⟨y2, r2, e2, h2, h3⟩⟩ => by
        letI : Fz := ⟨m, false⟩
        exact ⟨y, r, e, asL_rel rfl ha h1, y2, r2, e2, asL_rel rfl hb h2, h3⟩
    · cases h
  · cases h
noncomputable def roX2 : SumBr := orX allX (orX textsX roX)
theorem roX2_ok : SumGO Tryd.prog (sumS roX2) := orX_open allX_ok (orX_open textsX_ok roX_ok)
end Go.Proofs.YtffcaapbmkaceaaDoor
