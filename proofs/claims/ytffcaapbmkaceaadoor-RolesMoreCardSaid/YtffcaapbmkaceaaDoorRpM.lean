/- What of a state of roles is too long. No condition. -/
import Derived.Test.YtffcaapbmkaceaaDoorRpL
import Derived.Test.YtffcaapbmkaceaaDoorRoA
namespace Go.Proofs.YtffcaapbmkaceaaDoor
open Ev Go.RowKit
set_option maxRecDepth 100000
set_option linter.unusedVariables false
def long_cf : Nat → Cfg := cfL [mkC 54 [1, 3] [(1, [])], mkC 54 [1, 4] [(1, [])]]
def long_a (N : List ByteArray) (I : List (ByteArray × ByteArray)) : List AV := [stA N I]
noncomputable def long_t (P : Program) (N : List ByteArray) (I : List (ByteArray × ByteArray)) : Br PO :=
(.test (decide ((↑N.length : Int) > 40))
  (.leaf (.fin ⟨Ex.ret, true, [some (AV.v (Value.bool true))], []⟩))
  (.test (decide ((↑I.length : Int) > 60))
    (.leaf (.fin ⟨Ex.ret, true, [some (AV.v (Value.bool true))], []⟩))
    (.leaf (.at 0 (ct P 14 0).1 (ct P 14 0).2 ⟨Ex.normal, true, [some (AV.ptr 65536 0 0), some (AV.v (Value.int IntKind.i64 (0)))], [OS.o (AO.cells [AV.fz (eL N) N.length [TK.str], AV.fz (eL I) I.length [TK.str, TK.str]] 2 65536 true false)]⟩))
  )
)
theorem long_h (N : List ByteArray) (I : List (ByteArray × ByteArray)) : (ev Tryd.prog noX noS 3000 noL 3000 .normal [.c 0 (codeOf Tryd.prog 14)] (params (long_a N I)) Ev.start).map (lookP Tryd.prog (resOf Tryd.prog 14) [] long_cf) = long_t Tryd.prog N I := by kernel_rfl
def long_v0 (N : List ByteArray) (I : List (ByteArray × ByteArray)) (i : Nat) : List AV := [.ptr 65536 0 0, .s (.int .i64 i)]
def long_o0 (N : List ByteArray) (I : List (ByteArray × ByteArray)) (i : Nat) : List AO := [stO N I]
noncomputable def long_t0 (P : Program) (N : List ByteArray) (I : List (ByteArray × ByteArray)) (i : Nat) : Br PO :=
(.test (decide ((↑i : Int) < (↑N.length : Int)))
  (.test (decide (0 ≤ (↑i : Int)) && decide ((↑i : Int) < (↑N.length : Int)))
    (.test (decide ((↑(N.getD (↑i : Int).toNat default).size : Int) > 200))
      (.leaf (.fin ⟨Ex.ret, true, [some (AV.v (Value.bool true))], []⟩))
      (.leaf (.at 0 (ct P 14 0).1 (ct P 14 0).2 ⟨Ex.normal, true, [some (AV.ptr 65536 0 0), some (AV.s (Value.int IntKind.i64 (IntKind.i64.wrap ((↑i : Int) + 1))))], [OS.o (AO.cells [AV.fz (eL N) N.length [TK.str], AV.fz (eL I) I.length [TK.str, TK.str]] 2 0 true false)]⟩))
    )
    .no
  )
  (.leaf (.at 1 (ct P 14 1).1 (ct P 14 1).2 ⟨Ex.normal, true, [some (AV.ptr 65536 0 0), some (AV.v (Value.int IntKind.i64 (0)))], [OS.o (AO.cells [AV.fz (eL N) N.length [TK.str], AV.fz (eL I) I.length [TK.str, TK.str]] 2 0 true false)]⟩))
)
theorem long_h0 (N : List ByteArray) (I : List (ByteArray × ByteArray)) (i : Nat) (j : Nat → Value) : (ev Tryd.prog noX noS 3000 noL 3000 .normal (hd Tryd.prog 14 0) (mkE (long_cf 0) (long_v0 N I i) j) (mkH openB (long_o0 N I i))).map (lookP Tryd.prog (resOf Tryd.prog 14) [] long_cf) = long_t0 Tryd.prog N I i := by kernel_rfl
def long_v1 (N : List ByteArray) (I : List (ByteArray × ByteArray)) (i : Nat) : List AV := [.ptr 65536 0 0, .s (.int .i64 i)]
def long_o1 (N : List ByteArray) (I : List (ByteArray × ByteArray)) (i : Nat) : List AO := [stO N I]
noncomputable def long_t1 (P : Program) (N : List ByteArray) (I : List (ByteArray × ByteArray)) (i : Nat) : Br PO :=
(.test (decide ((↑i : Int) < (↑I.length : Int)))
  (.test (decide (0 ≤ (↑i : Int)) && decide ((↑i : Int) < (↑I.length : Int)))
    (.test (decide ((↑(I.getD (↑i : Int).toNat default).fst.size : Int) > 200))
      (.leaf (.fin ⟨Ex.ret, true, [some (AV.v (Value.bool true))], []⟩))
      (.test (decide (0 ≤ (↑i : Int)) && decide ((↑i : Int) < (↑I.length : Int)))
        (.test (decide ((↑(I.getD (↑i : Int).toNat default).snd.size : Int) > 200))
          (.leaf (.fin ⟨Ex.ret, true, [some (AV.v (Value.bool true))], []⟩))
          (.leaf (.at 1 (ct P 14 1).1 (ct P 14 1).2 ⟨Ex.normal, true, [some (AV.ptr 65536 0 0), some (AV.s (Value.int IntKind.i64 (IntKind.i64.wrap ((↑i : Int) + 1))))], [OS.o (AO.cells [AV.fz (eL N) N.length [TK.str], AV.fz (eL I) I.length [TK.str, TK.str]] 2 0 true false)]⟩))
        )
        .no
      )
    )
    .no
  )
  (.leaf (.fin ⟨Ex.ret, true, [some (AV.v (Value.bool false))], []⟩))
)
theorem long_h1 (N : List ByteArray) (I : List (ByteArray × ByteArray)) (i : Nat) (j : Nat → Value) : (ev Tryd.prog noX noS 3000 noL 3000 .normal (hd Tryd.prog 14 1) (mkE (long_cf 1) (long_v1 N I i) j) (mkH openB (long_o1 N I i))).map (lookP Tryd.prog (resOf Tryd.prog 14) [] long_cf) = long_t1 Tryd.prog N I i := by kernel_rfl

def bigS (s : ByteArray) : Bool := decide (s.size > 200)
def bigP (p : ByteArray × ByteArray) : Bool := bigS p.1 || bigS p.2
def longP (N : List ByteArray) (I : List (ByteArray × ByteArray)) : Bool := decide (N.length > 40) || (decide (I.length > 60) || (N.any bigS || I.any bigP))
inductive LgS where
  | a (i : Nat)
  | b (i : Nat)
def LgS.pc : LgS → Nat
  | .a _ => 0
  | .b _ => 1
def LgJ (N : List ByteArray) (I : List (ByteArray × ByteArray)) : LgS → Prop
  | .a i => (N.length ≤ 40 ∧ I.length ≤ 60) ∧ i ≤ N.length ∧ ∀ k, k < i → bigS (N.getD k default) = false
  | .b i => (N.length ≤ 40 ∧ I.length ≤ 60) ∧ N.any bigS = false ∧ i ≤ I.length ∧ ∀ k, k < i → bigP (I.getD k default) = false
def LgV (N : List ByteArray) (I : List (ByteArray × ByteArray)) : LgS → List AV
  | .a i => long_v0 N I i
  | .b i => long_v1 N I i
def LgO (N : List ByteArray) (I : List (ByteArray × ByteArray)) : LgS → List AO
  | .a i => long_o0 N I i
  | .b i => long_o1 N I i
noncomputable def LgT (P : Program) (N : List ByteArray) (I : List (ByteArray × ByteArray)) : LgS → Br PO
  | .a i => long_t0 P N I i
  | .b i => long_t1 P N I i
def LgM (n m : Nat) : LgS → Nat × Nat
  | .a i => (1, n - i)
  | .b i => (0, m - i)
theorem bigS_int (s : ByteArray) : decide ((s.size : Int) > 200) = bigS s := by
  unfold bigS
  by_cases h : s.size > 200
  · rw [decide_eq_true h, decide_eq_true (by omega)]
  · rw [decide_eq_false h, decide_eq_false (by omega)]
theorem long_ok (N : List ByteArray) (I : List (ByteArray × ByteArray)) : OCalls Tryd.prog 14 (long_a N I) (.s (.bool (longP N I))) [] := by
  refine floyd ev_mix ev_ok noX_open noSO (by kernel_rfl) [] long_cf (LgM N.length I.length) LgS.pc (LgV N I) (LgO N I) (LgJ N I) (LgT _ N I) (long_t _ N I) (long_h N I) (fun s j => by cases s; exact long_h0 N I _ j; exact long_h1 N I _ j) ?_ ?_
  · refine ⟨fun h => ?_, fun h => ⟨fun h2 => ?_, fun h2 => ?_⟩⟩
    · simp only [decide_eq_true_eq] at h
      exact ⟨rfl, (.cons _ _ _ _ (by unfold longP; rw [decide_eq_true (show N.length > 40 by omega)]; exact .vs _) .nil), .nil⟩
    · simp only [decide_eq_true_eq] at h2
      exact ⟨rfl, (.cons _ _ _ _ (by unfold longP; rw [decide_eq_true (show I.length > 60 by omega), Bool.true_or, Bool.or_true]; exact .vs _) .nil), .nil⟩
    · simp only [decide_eq_false_iff_not] at h h2
      exact ⟨.a 0, ⟨⟨by omega, by omega⟩, Nat.zero_le _, fun k hk => absurd hk (Nat.not_lt_zero k)⟩, rfl, rfl, rfl, (.cons _ _ _ _ (.refl _) (.cons _ _ _ _ (.vs _) .nil)), .cons _ _ _ _ (st_le N I _ _) .nil⟩
  · intro s hs
    cases s with
    | a i =>
      obtain ⟨⟨h1, h2⟩, hi, hn⟩ := hs
      refine ⟨fun h => ⟨fun _ => ⟨fun h3 => ?_, fun h3 => ?_⟩, fun h3 => ?_⟩, fun h => ?_⟩
      · simp only [decide_eq_true_eq] at h
        rw [bigS_int] at h3
        exact ⟨rfl, (.cons _ _ _ _ (by unfold longP; rw [any_true (k := i) (by omega) h3, Bool.true_or, Bool.or_true, Bool.or_true]; exact .vs _) .nil), .nil⟩
      · simp only [decide_eq_true_eq] at h
        rw [bigS_int] at h3
        exact ⟨.a (i + 1), ⟨⟨h1, h2⟩, by omega, upto_next hn h3⟩, rel_r (by omega), rfl, rfl, rfl, (.cons _ _ _ _ (.refl _) (.cons _ _ _ _ (.ofEq (by rw [wrap_lt (by omega) (by omega)]; rfl)) .nil)), .cons _ _ _ _ (st_le N I _ _) .nil⟩
      · simp only [decide_eq_true_eq] at h
        simp only [Bool.and_eq_false_iff, decide_eq_false_iff_not] at h3; omega
      · simp only [decide_eq_false_iff_not] at h
        exact ⟨.b 0, ⟨⟨h1, h2⟩, any_false fun k hk => hn k (by omega), Nat.zero_le _, fun k hk => absurd hk (Nat.not_lt_zero k)⟩, rel_l (by omega), rfl, rfl, rfl, (.cons _ _ _ _ (.refl _) (.cons _ _ _ _ (.vs _) .nil)), .cons _ _ _ _ (st_le N I _ _) .nil⟩
    | b i =>
      obtain ⟨⟨h1, h2⟩, hN, hi, hn⟩ := hs
      refine ⟨fun h => ⟨fun _ => ⟨fun h3 => ?_, fun h3 => ⟨fun _ => ⟨fun h4 => ?_, fun h4 => ?_⟩, fun h4 => ?_⟩⟩, fun h3 => ?_⟩, fun h => ?_⟩
      · simp only [decide_eq_true_eq] at h
        rw [bigS_int] at h3
        have hp : bigP (I.getD i default) = true := by unfold bigP; rw [show bigS (I.getD i default).1 = true from h3]; rfl
        exact ⟨rfl, (.cons _ _ _ _ (by unfold longP; rw [any_true (k := i) (by omega) hp, Bool.or_true, Bool.or_true, Bool.or_true]; exact .vs _) .nil), .nil⟩
      · simp only [decide_eq_true_eq] at h
        rw [bigS_int] at h4
        have hp : bigP (I.getD i default) = true := by unfold bigP; rw [show bigS (I.getD i default).2 = true from h4, Bool.or_true]
        exact ⟨rfl, (.cons _ _ _ _ (by unfold longP; rw [any_true (k := i) (by omega) hp, Bool.or_true, Bool.or_true, Bool.or_true]; exact .vs _) .nil), .nil⟩
      · simp only [decide_eq_true_eq] at h
        rw [bigS_int] at h3 h4
        have hp : bigP (I.getD i default) = false := by unfold bigP; rw [show bigS (I.getD i default).1 = false from h3, show bigS (I.getD i default).2 = false from h4]; rfl
        exact ⟨.b (i + 1), ⟨⟨h1, h2⟩, hN, by omega, upto_next hn hp⟩, rel_r (by omega), rfl, rfl, rfl, (.cons _ _ _ _ (.refl _) (.cons _ _ _ _ (.ofEq (by rw [wrap_lt (by omega) (by omega)]; rfl)) .nil)), .cons _ _ _ _ (st_le N I _ _) .nil⟩
      · simp only [decide_eq_true_eq] at h
        simp only [Bool.and_eq_false_iff, decide_eq_false_iff_not] at h4; omega
      · simp only [decide_eq_true_eq] at h
        simp only [Bool.and_eq_false_iff, decide_eq_false_iff_not] at h3; omega
      · simp only [decide_eq_false_iff_not] at h
        refine ⟨rfl, (.cons _ _ _ _ ?_ .nil), .nil⟩
        unfold longP
        rw [decide_eq_false (show ¬ N.length > 40 by omega), decide_eq_false (show ¬ I.length > 60 by omega), hN, any_false fun k hk => hn k (by omega)]; exact .vs _
/- A state, handed over. -/
def stV : AV → Option (((Nat → Nat → D) × Nat) × ((Nat → Nat → D) × Nat))
  | .agg [a, b] => match asL [.str] a, asL [.str, .str] b with
    | some x, some y => some (x, y)
    | _, _ => none
  | _ => none
theorem stV_rel [Fz] {v : AV} {f g : Nat → Nat → D} {n m : Nat} {ρ : Rho} {y : Value} (hgc : Fz.gc = false) (h : stV v = some ((f, n), (g, m))) (r : VRel ρ v y) : VRel ρ (stA (dL _ f n) (dL _ g m)) y := by
  unfold stV at h
  split at h
  · split at h
    · rename_i a b x z ha hb
      cases h
      obtain ⟨ys, e, y1, r1, e1, h1, y2, r2, e2, h2, h3⟩ := r
      exact ⟨ys, e, y1, r1, e1, asL_rel hgc ha h1, y2, r2, e2, asL_rel hgc hb h2, h3⟩
    · cases h
  · cases h
def longX : SumBr := oX 14 fun
  | [v] => match stV v with
    | some ((f, n), (g, m)) => some (.leaf (.s (.bool (longP (dL _ f n) (dL _ g m))), []))
    | none => none
  | _ => none
theorem longX_ok : SumGO Tryd.prog (sumS longX) := oX_ok (by kernel_rfl) fun xs B r h hB => by
  split at h
  · split at h
    · rename_i v f n g m hv
      cases h
      cases hB
      exact (long_ok (dL _ f n) (dL _ g m)).leS fun m ys ⟨y, r, e, h1, h2⟩ => by
        letI : Fz := ⟨m, false⟩
        exact ⟨y, r, e, stV_rel rfl hv h1, h2⟩
    · cases h
  · cases h
def mayX : SumBr := oX 12 fun
  | [v] => match stV v with
    | some ((f, n), (g, m)) => some (.leaf (.s (.bool (mayP (dL _ f n) (dL _ g m))), []))
    | none => none
  | _ => none
theorem mayX_ok : SumGO Tryd.prog (sumS mayX) := oX_ok (by kernel_rfl) fun xs B r h hB => by
  split at h
  · split at h
    · rename_i v f n g m hv
      cases h
      cases hB
      exact (may_ok (dL _ f n) (dL _ g m)).leS fun m ys ⟨y, r, e, h1, h2⟩ => by
        letI : Fz := ⟨m, false⟩
        exact ⟨y, r, e, stV_rel rfl hv h1, h2⟩
    · cases h
  · cases h
noncomputable def isX : SumBr := oX 15 fun
  | [v, a, b] => match stV v, strV a, strV b with
    | some ((f, n), (g, m)), some x, some y => some (.test (Nat.ble n 1000000) (.leaf (.s (.bool (isP (dL _ f n) (dL _ g m) x y)), [])) .no)
    | _, _, _ => none
  | _ => none
theorem isX_ok : SumGO Tryd.prog (sumS isX) := oX_ok (by kernel_rfl) fun xs B r h hB => by
  split at h
  · split at h
    · rename_i v a b f n g m x y hv ha hb
      cases h
      rcases hB with ⟨hn, hB⟩ | ⟨_, hB⟩
      · cases hB
        exact (is_ok (dL _ f n) (dL _ g m) x y (by rw [dL_length]; simpa using hn)).leS fun m ys ⟨y, r, e, h1, ⟨y2, r2, e2, h2, ⟨y3, r3, e3, h3, h4⟩⟩⟩ => by
          letI : Fz := ⟨m, false⟩
          exact ⟨y, r, e, stV_rel rfl hv h1, y2, r2, e2, strV_rel ha h2, y3, r3, e3, strV_rel hb h3, h4⟩
      · exact hB.elim
    · cases h
  · cases h
def awakeS : Sum := plT 13 fun
  | [] => some (.bool true)
  | _ => none
theorem awakeS_ok : SumGO Tryd.prog awakeS := (plT_ok (by kernel_rfl) fun xs v h w => by
  split at h
  · cases h; exact ro_awake w
  · cases h).open
noncomputable def roX : SumBr := orX longX (orX mayX (orX isX (orX slX nameX)))
theorem roX_ok : SumGO Tryd.prog (sumS roX) := orX_open longX_ok (orX_open mayX_ok (orX_open isX_ok (orX_open slX_ok nameX_ok)))
end Go.Proofs.YtffcaapbmkaceaaDoor
