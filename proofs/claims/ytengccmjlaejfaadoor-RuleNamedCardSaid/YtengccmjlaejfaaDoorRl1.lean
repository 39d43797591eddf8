/- Columns that a rule names: slices.Index, slices.Contains over numbers, key.May; a column's type. No condition. -/
import Derived.Test.YtengccmjlaejfaaDoorTy
import Derived.Test.YtengccmjlaejfaaDoorMg12
namespace Go.Proofs.YtengccmjlaejfaaDoor
open Ev Go.RowKit
set_option maxRecDepth 100000
set_option linter.unusedVariables false
def idxI (z : Int) : List Int → Int → Int
  | [], _ => -1
  | a :: r, i => if a = z then i else idxI z r (i + 1)
def hasI (L : List Int) (z : Int) : Bool := L.any fun a => decide (a = z)
open Classical in
noncomputable def kmF (L : List Int) (n : Int) : Bool := decide (0 < L.length ∧ (L.length : Int) ≤ n ∧ ∀ i, i < L.length → 0 ≤ L.getD i default ∧ L.getD i default < n ∧ hasI (L.take i) (L.getD i default) = false)
noncomputable def ixiX : SumBr := obX Tryd.prog 60 (AKs.cons (aL Int) (AKs.cons (aI .i64) AKs.nil)) fun z => .leaf (.s (.int .i64 (idxI z.2.1 z.1 0)), [])
noncomputable def hasX : SumBr := obX Tryd.prog 45 (AKs.cons (aL Int) (AKs.cons (aI .i64) AKs.nil)) fun z => .leaf (.s (.bool (hasI z.1 z.2.1)), [])
theorem ixiX_ok : SumGO Tryd.prog (sumS ixiX) := obX_ok (by kernel_rfl)
theorem hasX_ok : SumGO Tryd.prog (sumS hasX) := obX_ok (by kernel_rfl)
def ixi_cf : Nat → Cfg := cfL [mkC 19 [0, 1, 7, 8] []]
def ixi_a (L : List Int) (z : Int) : List AV := [.fz (eL L) L.length [.int .i64], .s (.int .i64 z)]
noncomputable def ixi_t (P : Program) (L : List Int) (z : Int) : Br PO :=
(.leaf (.at 0 (ct P 60 0).1 (ct P 60 0).2 ⟨Ex.normal, true, [some (AV.fz (eL L) L.length [TK.int IntKind.i64]), some (AV.s (Value.int IntKind.i64 z)), some (AV.s (Value.int IntKind.i64 (Int.ofNat L.length))), some (AV.v (Value.int IntKind.i64 (0)))], []⟩))
theorem ixi_h (L : List Int) (z : Int) : (ev Tryd.prog noX noS 3000 noL 3000 .normal [.c 0 (codeOf Tryd.prog 60)] (params (ixi_a L z)) Ev.start).map (lookP Tryd.prog (resOf Tryd.prog 60) [] ixi_cf) = ixi_t Tryd.prog L z := by kernel_rfl
def ixi_v0 (L : List Int) (z : Int) (i : Nat) : List AV := [.fz (eL L) L.length [.int .i64], .s (.int .i64 z), .s (.int .i64 L.length), .s (.int .i64 i)]
def ixi_o0 (L : List Int) (z : Int) (i : Nat) : List AO := []
noncomputable def ixi_t0 (P : Program) (L : List Int) (z : Int) (i : Nat) : Br PO :=
(.test (decide ((↑i : Int) < (↑L.length : Int)))
  (.test (decide (0 ≤ (↑i : Int)) && decide ((↑i : Int) < (↑L.length : Int)))
    (.test (z == L.getD (↑i : Int).toNat default)
      (.leaf (.fin ⟨Ex.ret, true, [some (AV.s (Value.int IntKind.i64 (Int.ofNat i)))], []⟩))
      (.leaf (.at 0 (ct P 60 0).1 (ct P 60 0).2 ⟨Ex.normal, true, [some (AV.fz (eL L) L.length [TK.int IntKind.i64]), some (AV.s (Value.int IntKind.i64 z)), some (AV.s (Value.int IntKind.i64 (Int.ofNat L.length))), some (AV.s (Value.int IntKind.i64 (IntKind.i64.wrap ((↑i : Int) + 1))))], []⟩))
    )
    .no
  )
  (.leaf (.fin ⟨Ex.ret, true, [some (AV.v (Value.int IntKind.i64 (Int.negSucc 0)))], []⟩))
)
theorem ixi_h0 (L : List Int) (z : Int) (i : Nat) (j : Nat → Value) : (ev Tryd.prog noX noS 3000 noL 3000 .normal (hd Tryd.prog 60 0) (mkE (ixi_cf 0) (ixi_v0 L z i) j) (mkH openB (ixi_o0 L z i))).map (lookP Tryd.prog (resOf Tryd.prog 60) [] ixi_cf) = ixi_t0 Tryd.prog L z i := by kernel_rfl

def has_cf : Nat → Cfg := cfL []
def has_a (L : List Int) (z : Int) : List AV := [.fz (eL L) L.length [.int .i64], .s (.int .i64 z)]
noncomputable def has_t (P : Program) (L : List Int) (z : Int) : Br PO :=
(.ob (ObC Tryd.prog 60 [AV.fz (eL (dL Int (eL L) L.length)) (dL Int (eL L) L.length).length (Rec.ks Int), AV.s (Value.int IntKind.i64 z)] (AV.s (Value.int IntKind.i64 (idxI z (dL Int (eL L) L.length) (0)))) [])
  (.leaf (.fin ⟨Ex.ret, true, [some (AV.s (Value.bool (decide (idxI z (dL Int (eL L) L.length) (0) ≥ 0))))], []⟩))
)
theorem has_h (L : List Int) (z : Int) : (ev Tryd.prog ixiX noS 3000 noL 3000 .normal [.c 0 (codeOf Tryd.prog 45)] (params (has_a L z)) Ev.start).map (lookP Tryd.prog (resOf Tryd.prog 45) [] has_cf) = has_t Tryd.prog L z := by kernel_rfl

def km_cf : Nat → Cfg := cfL [mkC 38 [0, 1, 16, 17, 18] []]
def km_a (L : List Int) (n : Int) : List AV := [.fz (eL L) L.length [.int .i64], .s (.int .i64 n)]
noncomputable def km_t (P : Program) (L : List Int) (n : Int) : Br PO :=
(.test ((↑L.length : Int) == 0)
  (.leaf (.fin ⟨Ex.ret, true, [some (AV.v (Value.bool false))], []⟩))
  (.test (decide ((↑L.length : Int) > n))
    (.leaf (.fin ⟨Ex.ret, true, [some (AV.v (Value.bool false))], []⟩))
    (.leaf (.at 0 (ct P 24 0).1 (ct P 24 0).2 ⟨Ex.normal, true, [some (AV.fz (eL L) L.length [TK.int IntKind.i64]), some (AV.s (Value.int IntKind.i64 n)), some (AV.fz (eL L) L.length [TK.int IntKind.i64]), some (AV.s (Value.int IntKind.i64 (Int.ofNat L.length))), some (AV.v (Value.int IntKind.i64 (0)))], []⟩))
  )
)
theorem km_h (L : List Int) (n : Int) : (ev Tryd.prog hasX noS 3000 noL 3000 .normal [.c 0 (codeOf Tryd.prog 24)] (params (km_a L n)) Ev.start).map (lookP Tryd.prog (resOf Tryd.prog 24) [] km_cf) = km_t Tryd.prog L n := by kernel_rfl
def km_v0 (L : List Int) (n : Int) (i : Nat) : List AV := [.fz (eL L) L.length [.int .i64], .s (.int .i64 n), .fz (eL L) L.length [.int .i64], .s (.int .i64 L.length), .s (.int .i64 i)]
def km_o0 (L : List Int) (n : Int) (i : Nat) : List AO := []
noncomputable def km_t0 (P : Program) (L : List Int) (n : Int) (i : Nat) : Br PO :=
(.test (decide ((↑i : Int) < (↑L.length : Int)))
  (.test (decide (0 ≤ (↑i : Int)) && decide ((↑i : Int) < (↑L.length : Int)))
    (.test (decide (L.getD (↑i : Int).toNat default < 0))
      (.leaf (.fin ⟨Ex.ret, true, [some (AV.v (Value.bool false))], []⟩))
      (.test (decide (L.getD (↑i : Int).toNat default ≥ n))
        (.leaf (.fin ⟨Ex.ret, true, [some (AV.v (Value.bool false))], []⟩))
        (.test (decide (0 ≤ 0) && decide (0 ≤ (↑i : Int)) && decide ((↑i : Int) ≤ (↑L.length : Int)))
          (.ob (ObC Tryd.prog 45 [AV.fz (eL (dL Int (shiftD (eL L) 0) ((↑i : Int) - 0).toNat)) (dL Int (shiftD (eL L) 0) ((↑i : Int) - 0).toNat).length (Rec.ks Int), AV.s (Value.int IntKind.i64 (L.getD (↑i : Int).toNat default))] (AV.s (Value.bool (hasI (dL Int (shiftD (eL L) 0) ((↑i : Int) - 0).toNat) (L.getD (↑i : Int).toNat default)))) [])
            (.test (hasI (dL Int (shiftD (eL L) 0) ((↑i : Int) - 0).toNat) (L.getD (↑i : Int).toNat default))
              (.leaf (.fin ⟨Ex.ret, true, [some (AV.v (Value.bool false))], []⟩))
              (.leaf (.at 0 (ct P 24 0).1 (ct P 24 0).2 ⟨Ex.normal, true, [some (AV.fz (eL L) L.length [TK.int IntKind.i64]), some (AV.s (Value.int IntKind.i64 n)), some (AV.fz (eL L) L.length [TK.int IntKind.i64]), some (AV.s (Value.int IntKind.i64 (Int.ofNat L.length))), some (AV.s (Value.int IntKind.i64 (IntKind.i64.wrap ((↑i : Int) + 1))))], []⟩))
            )
          )
          .no
        )
      )
    )
    .no
  )
  (.leaf (.fin ⟨Ex.ret, true, [some (AV.v (Value.bool true))], []⟩))
)
theorem km_h0 (L : List Int) (n : Int) (i : Nat) (j : Nat → Value) : (ev Tryd.prog hasX noS 3000 noL 3000 .normal (hd Tryd.prog 24 0) (mkE (km_cf 0) (km_v0 L n i) j) (mkH openB (km_o0 L n i))).map (lookP Tryd.prog (resOf Tryd.prog 24) [] km_cf) = km_t0 Tryd.prog L n i := by kernel_rfl

theorem idxI_no (z : Int) : ∀ (L : List Int) (k : Int), (∀ a ∈ L, a ≠ z) → idxI z L k = -1
  | [], k, _ => rfl
  | a :: r, k, h => by
    unfold idxI
    rw [if_neg (h a (by simp)), idxI_no z r _ fun b hb => h b (by simp [hb])]
theorem idxI_at (z : Int) : ∀ (L : List Int) (k : Int) (i : Nat), i < L.length → (∀ j, j < i → L.getD j default ≠ z) → L.getD i default = z → idxI z L k = k + i
  | [], k, i, h, _, _ => by simp at h
  | a :: r, k, 0, _, _, h => by
    unfold idxI
    rw [if_pos (by simpa using h)]; simp
  | a :: r, k, i + 1, h, hj, hz => by
    unfold idxI
    have h0 := hj 0 (by omega)
    rw [if_neg (by simpa using h0), idxI_at z r (k + 1) i (by simpa using h) (fun j h => by simpa using hj (j + 1) (by omega)) (by simpa using hz)]
    omega
theorem ixi_ok (L : List Int) (z : Int) : OCalls Tryd.prog 60 [.fz (eL L) L.length [.int .i64], .s (.int .i64 z)] (.s (.int .i64 (idxI z L 0))) [] := by
  refine OCalls.bnd fun hb => ?_
  have hlen : L.length ≤ 9223372036854775807 := hb.1
  refine floyd ev_mix ev_ok noX_open noSQ (by kernel_rfl) [] ixi_cf (fun i : Nat => L.length - i) (fun _ => 0) (ixi_v0 L z) (ixi_o0 L z) (fun i => i ≤ L.length ∧ ∀ j, j < i → L.getD j default ≠ z) (ixi_t0 _ L z) (ixi_t _ L z) (ixi_h L z) (fun i j => ixi_h0 L z i j) ?_ ?_
  · unfold ixi_t
    exact ⟨0, ⟨Nat.zero_le _, fun j hj => absurd hj (Nat.not_lt_zero j)⟩, rfl, rfl, rfl, (.cons _ _ _ _ (.refl _) (.cons _ _ _ _ (.refl _) (.cons _ _ _ _ (.refl _) (.cons _ _ _ _ (.vs _) .nil)))), .nil⟩
  · rintro i ⟨hi, hj⟩
    unfold ixi_t0
    simp only [Int.toNat_natCast]
    refine hSd (fun h => hSi (by omega) (hSe (fun e => ?_) fun e => ?_)) fun h => ?_
    · have := idxI_at z L 0 i (by omega) hj e.symm
      exact ⟨rfl, .cons _ _ _ _ (.ofEq (by rw [this]; simp)) .nil, .nil⟩
    · exact ⟨i + 1, ⟨by omega, fun j hj' => by
        by_cases c : j = i
        · rw [c]; exact fun x => e x.symm
        · exact hj j (by omega)⟩, rel_nat (by omega), rfl, rfl, rfl, (.cons _ _ _ _ (.refl _) (.cons _ _ _ _ (.refl _) (.cons _ _ _ _ (.refl _) (.cons _ _ _ _ (.ofEq (by rw [wrap_lt (by omega) (by omega)]; rfl)) .nil)))), .nil⟩
    · have := idxI_no z L 0 fun a ha => by
        obtain ⟨j, hjl, hje⟩ := List.getElem_of_mem ha
        have := hj j (by omega)
        rwa [List.getD_eq_getElem?_getD, List.getElem?_eq_getElem hjl, Option.getD_some, hje] at this
      exact ⟨rfl, .cons _ _ _ _ (leIv this) .nil, .nil⟩
theorem idxI_ge (z : Int) : ∀ (L : List Int) (k : Int), 0 ≤ k → decide (idxI z L k ≥ 0) = hasI L z
  | [], k, _ => rfl
  | a :: r, k, h => by
    unfold idxI hasI
    by_cases c : a = z
    · simp [c, h]
    · rw [if_neg c, idxI_ge z r (k + 1) (by omega)]
      simp [hasI, c]
theorem has_ok (L : List Int) (z : Int) : OCalls Tryd.prog 45 [.fz (eL L) L.length [.int .i64], .s (.int .i64 z)] (.s (.bool (hasI L z))) [] := by
  refine floyd0 ev_mix ev_ok ixiX_ok noSQ (by kernel_rfl) [] has_cf (has_t _ L z) (has_h L z) ?_
  unfold has_t
  simp only [dL_eL]
  exact hO ⟨ixi_ok L z⟩ ⟨rfl, .cons _ _ _ _ (leBs (idxI_ge z L 0 (by omega)).symm) .nil, .nil⟩
theorem dL_takeK (M : List Int) (n : Nat) (h : n ≤ M.length) : dL Int (shiftD (eL M) 0) n = M.take n := by
  apply List.ext_getElem
  · simp [dL]; omega
  · intro i h1 h2
    simp at h2
    have h1' : i < n := by simpa [dL] using h1
    simp only [dL, List.getElem_map, List.getElem_range, shiftD, Nat.zero_add, Nat.add_zero]
    rw [show (Rec.dec (shiftD (eL M) 0 i) : Int) = M.getD i default from Rec.dec_enc _, List.getElem_take]
    simp [List.getD_eq_getElem?_getD, show i < M.length by omega]
theorem km_ok (L : List Int) (n : Int) : OCalls Tryd.prog 24 [.fz (eL L) L.length [.int .i64], .s (.int .i64 n)] (.s (.bool (kmF L n))) [] := by
  have yv : ∀ x, kmF L n = x → Goes ⟨.ret, true, [some (.v (.bool x))], []⟩ [.s (.bool (kmF L n))] [] := fun x hx => ⟨rfl, .cons _ _ _ _ (leBv hx) .nil, .nil⟩
  refine OCalls.bnd fun hb => ?_
  have hlen : L.length ≤ 9223372036854775807 := hb.1
  refine floyd ev_mix ev_ok hasX_ok noSQ (by kernel_rfl) [] km_cf (fun i : Nat => L.length - i) (fun _ => 0) (km_v0 L n) (km_o0 L n) (fun i => i ≤ L.length ∧ (0 < L.length ∧ (L.length : Int) ≤ n) ∧ ∀ j, j < i → 0 ≤ L.getD j default ∧ L.getD j default < n ∧ hasI (L.take j) (L.getD j default) = false) (km_t0 _ L n) (km_t _ L n) (km_h L n) (fun i j => km_h0 L n i j) ?_ ?_
  · unfold km_t
    refine hSe (fun h => yv _ ?_) fun h => hSd (fun h2 => yv _ ?_) fun h2 => ?_
    · unfold kmF; simp only [decide_eq_false_iff_not]; rintro ⟨a, _⟩; omega
    · unfold kmF; simp only [decide_eq_false_iff_not]; rintro ⟨_, a, _⟩; omega
    · exact ⟨0, ⟨Nat.zero_le _, ⟨by omega, by omega⟩, fun j hj => absurd hj (Nat.not_lt_zero j)⟩, rfl, rfl, rfl, (.cons _ _ _ _ (.refl _) (.cons _ _ _ _ (.refl _) (.cons _ _ _ _ (.refl _) (.cons _ _ _ _ (.refl _) (.cons _ _ _ _ (.vs _) .nil))))), .nil⟩
  · rintro i ⟨hi, h0, hj⟩
    have bad : i < L.length → ¬ (0 ≤ L.getD i default ∧ L.getD i default < n ∧ hasI (L.take i) (L.getD i default) = false) → kmF L n = false := fun h c => by
      unfold kmF; simp only [decide_eq_false_iff_not]; rintro ⟨_, _, a⟩; exact c (a i h)
    unfold km_t0
    simp only [Int.toNat_natCast, Int.sub_zero, dL_takeK L i hi]
    refine hSd (fun h => hSi (by omega) (hSd (fun h1 => yv _ (bad (by omega) fun c => by omega)) fun h1 => hSd (fun h2 => yv _ (bad (by omega) fun c => by omega)) fun h2 => hT (by simp; omega) (hO ⟨has_ok _ _⟩ (hS (fun h3 => yv _ (bad (by omega) fun c => by rw [h3] at c; exact absurd c.2.2 (by decide))) fun h3 => ?_)))) fun h => yv _ ?_
    · exact ⟨i + 1, ⟨by omega, h0, fun j hj' => by
        by_cases c : j = i
        · rw [c]; exact ⟨by omega, by omega, h3⟩
        · exact hj j (by omega)⟩, rel_nat (by omega), rfl, rfl, rfl, (.cons _ _ _ _ (.refl _) (.cons _ _ _ _ (.refl _) (.cons _ _ _ _ (.refl _) (.cons _ _ _ _ (.refl _) (.cons _ _ _ _ (.ofEq (by rw [wrap_lt (by omega) (by omega)]; rfl)) .nil))))), .nil⟩
    · unfold kmF; simp only [decide_eq_true_eq]
      exact ⟨h0.1, h0.2, fun j hj' => hj j (by omega)⟩
end Go.Proofs.YtengccmjlaejfaaDoor
