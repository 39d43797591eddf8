/- Trees of expressions: what the printed words say of them, and what ours say. No condition. -/
import Derived.Test.YtengccmjlaejfaaMg21
import Derived.Test.YtengccmjlaejfaaPExprPutx11
import Derived.Test.YtengccmjlaejfaaMg18
section
namespace Go.Proofs.Ytengccmjlaejfaa
open Ev Go.RowKit PExprPut
open Go.Proofs.YtengccmjlaejfaaW.PrintWords
set_option maxRecDepth 100000
set_option linter.unusedVariables false
def toV (v : Vl) : S23 := ⟨v.k, v.n, v.hi, v.t⟩
mutual
def toS : Tr → S26
  | ⟨op, k, vn, hi, t, n, as1⟩ => ⟨op, ⟨k, vn, hi, t⟩, n, toSs as1⟩
def toSs : List Tr → List S26
  | [] => []
  | a :: r => toS a :: toSs r
end
theorem toS_eq (t : Tr) : toS t = ⟨t.op, ⟨t.k, t.vn, t.hi, t.t⟩, t.n, toSs t.args⟩ := by obtain ⟨_, _, _, _, _, _, as1⟩ := t; simp only [toS]
theorem toSs_map : ∀ (L : List Tr), toSs L = L.map toS
  | [] => by simp only [toSs, List.map_nil]
  | a :: r => by simp only [toSs, List.map_cons, toSs_map r]
theorem toSs_len (L : List Tr) : (toSs L).length = L.length := by rw [toSs_map, List.length_map]
theorem cell_at {w : World} {b o : Nat} {C : Array Value} {e : TypeId} {fr : Nat × Nat} {z : Value} (h : w.heap[b]? = some (.cells C e fr)) (k : Nat) (hz : C[o + k]? = some z) : w.cell? ((⟨b, o, none⟩ : Addr).add k) = some z := by
  have e : ((⟨b, o, none⟩ : Addr).add k) = ⟨b, o + k, none⟩ := by
    by_cases c : k = 0
    · subst c; simp [Addr.add]
    · simp [Addr.add, c]
  rw [e]
  simp [World.cell?, h, hz]
/-- A list that stands in memory, as the print reads it. -/
theorem fz_C (w : World) (t : Tr) : ∀ y, @FzRel ⟨fun b => w.heap[b]?, false⟩ (.l (trLs t.args) t.args.length ksE) y → ∃ A c, y = .slice A (toSs t.args).length c ∧ (toSs t.args).length ≤ c ∧ Kd.C k26 w A (toSs t.args).length (toSs t.args) := by
  induction t using Tr.ind with
  | h t ih =>
  intro y h
  unfold FzRel at h
  rw [toSs_len]
  rcases h with ⟨h0, a, k, rfl, _⟩ | ⟨b, o, k, C, e, fr, rfl, h1, h2, ⟨_, h3⟩, h4⟩
  · rw [h0]
    exact ⟨a, k, rfl, Nat.zero_le _, by rw [toSs_len]; exact h0, by omega, fun x => absurd x (by omega)⟩
  · refine ⟨some ⟨b, o, none⟩, k, rfl, h1, by rw [toSs_len], h3, fun _ => ⟨⟨b, o, none⟩, rfl, fun j p hp => ?_⟩⟩
    have hj : j < t.args.length := by
      have := (List.getElem?_eq_some_iff.1 hp).1
      rwa [toSs_len] at this
    have hmem : t.args.getD j default ∈ t.args := getD_mem hj
    have hp : p = toS (t.args.getD j default) := by
      rw [toSs_map, List.getElem?_map, List.getElem?_eq_getElem hj] at hp
      rw [List.getD_eq_getElem?_getD, List.getElem?_eq_getElem hj, Option.getD_some]
      simpa using hp.symm
    have ih := ih _ hmem
    have h4 := fun c hc => (h4 j c hj hc).2
    generalize hu : t.args.getD j default = u at hp ih
    have g : ∀ c, trLs t.args j c = trC u c := fun c => by rw [trLs_get _ _ _ hj, hu]
    obtain ⟨z0, e0, r0⟩ := h4 0 (by decide)
    obtain ⟨z1, e1, r1⟩ := h4 1 (by decide)
    obtain ⟨z2, e2, r2⟩ := h4 2 (by decide)
    obtain ⟨z3, e3, r3⟩ := h4 3 (by decide)
    obtain ⟨z4, e4, r4⟩ := h4 4 (by decide)
    obtain ⟨z5, e5, r5⟩ := h4 5 (by decide)
    obtain ⟨z6, e6, r6⟩ := h4 6 (by decide)
    rw [g] at r0 r1 r2 r3 r4 r5 r6
    clear g hu
    obtain ⟨uop, uk, uvn, uhi, ut, un, uas⟩ := u
    simp only [trC] at r0 r1 r2 r3 r4 r5 r6
    have r0 : z0 = .int .u8 uop := r0
    have r1 : z1 = .int .u8 uk := r1
    have r2 : z2 = .int .i64 uvn := r2
    have r3 : z3 = .int .i64 uhi := r3
    have r4 : z4 = .string ut := r4
    have r5 : z5 = .int .i64 un := r5
    obtain ⟨A, c, rfl, hc1, hc2⟩ := ih z6 r6
    subst r0 r1 r2 r3 r4 r5
    refine ⟨[.int .u8 uop, .int .u8 uk, .int .i64 uvn, .int .i64 uhi, .string ut, .int .i64 un, .slice A (toSs uas).length c], rfl, ?_, fun i v hv => ?_⟩
    · rw [hp, toS_eq]
      exact k26_mk w ⟨uop, ⟨uk, uvn, uhi, ut⟩, un, toSs uas⟩ hc1 hc2
    · refine cell_at h2 _ ?_
      match i, hv with
      | 0, hv => cases hv; exact e0
      | 1, hv => cases hv; exact e1
      | 2, hv => cases hv; exact e2
      | 3, hv => cases hv; exact e3
      | 4, hv => cases hv; exact e4
      | 5, hv => cases hv; exact e5
      | 6, hv => cases hv; exact e6
/-- A list that was made, as ours stands in memory. -/
theorem R_fz (w : World) (base : Nat) (t : Tr) : ∀ (ok : Nat → Prop) v, Kd.R k26 26 w base ok v (toSs t.args) → @FzRel ⟨fun b => w.heap[b]?, false⟩ (.l (trLs t.args) t.args.length ksE) v := by
  induction t using Tr.ind with
  | h t ih =>
  intro ok v h
  obtain ⟨_, inner, ⟨hl, ho⟩, hr, hR⟩ := h
  rw [toSs_len] at hl ho
  unfold FzRel
  rcases ho with ⟨rfl, h0⟩ | ⟨g, cap, cur, rfl, hg, hh, h1, h2, h3, h4⟩
  · exact .inl ⟨h0, none, 0, rfl, fun _ => rfl⟩
  · have hsz : (k26).sz = 7 := rfl
    rw [hsz] at hl h3 h4 hR
    refine .inr ⟨g, 0, cap, cur, _, (0, 0), rfl, h1, hh, ⟨?_, ?_⟩, fun i c hi hc => ?_⟩
    · show 0 + t.args.length * 7 ≤ cur.size
      rw [h3, Nat.zero_add]; exact Nat.mul_le_mul_right _ h1
    · have : maxLen = 9223372036854775807 := rfl
      omega
    · have hc7 : c < 7 := hc
      have hmem : t.args.getD i default ∈ t.args := getD_mem hi
      have hp : (toSs t.args)[i]? = some (toS (t.args.getD i default)) := by
        rw [toSs_map, List.getElem?_map, List.getElem?_eq_getElem hi, List.getD_eq_getElem?_getD, List.getElem?_eq_getElem hi]; rfl
      have hM := hR i _ hp
      have ih := ih _ hmem
      rw [trLs_get _ _ _ hi]
      generalize t.args.getD i default = u at hM ih
      obtain ⟨uop, uk, uvn, uhi, ut, un, uas⟩ := u
      rw [toS_eq] at hM
      obtain ⟨v6, hcs, h6⟩ := k26_openM hM
      have hv6 := ih _ v6 h6
      have cur_at : ∀ z, ((inner.drop (i * 7)).take 7)[c]? = some z → cur[0 + (i * ksE.length + c)]? = some z := fun z hz => by
        rw [List.getElem?_take_of_lt hc7, List.getElem?_drop] at hz
        show cur[0 + (i * 7 + c)]? = some z
        rw [Nat.zero_add]
        rw [← h4, List.getElem?_take_of_lt (by have := hi; omega)] at hz
        simpa using hz
      rw [hcs] at cur_at
      match c, hc7 with
      | 0, _ => exact ⟨⟨_, rfl, rfl⟩, _, cur_at _ rfl, rfl⟩
      | 1, _ => exact ⟨⟨_, rfl, rfl⟩, _, cur_at _ rfl, rfl⟩
      | 2, _ => exact ⟨⟨_, rfl, rfl⟩, _, cur_at _ rfl, rfl⟩
      | 3, _ => exact ⟨⟨_, rfl, rfl⟩, _, cur_at _ rfl, rfl⟩
      | 4, _ => exact ⟨⟨_, rfl, rfl⟩, _, cur_at _ rfl, rfl⟩
      | 5, _ => exact ⟨⟨_, rfl, rfl⟩, _, cur_at _ rfl, rfl⟩
      | 6, _ => exact ⟨⟨_, rfl, rfl⟩, _, cur_at _ rfl, hv6⟩
end Go.Proofs.Ytengccmjlaejfaa
end
section
namespace Go.Proofs.Ytengccmjlaejfaa
open Ev Go.RowKit PExprPut
open Go.Proofs.YtengccmjlaejfaaW.PrintWords
set_option maxRecDepth 100000
set_option linter.unusedVariables false
open Classical in
mutual
noncomputable def putF (row : List Vl) : Tr → Tr
  | ⟨op, k, vn, hi, t, n, as1⟩ => if op = 2 ∧ 0 ≤ n ∧ n < (row.length : Int) ∧ vmayF (row.getD n.toNat default) = true then ⟨1, (row.getD n.toNat default).k, (row.getD n.toNat default).n, (row.getD n.toNat default).hi, (row.getD n.toNat default).t, 0, []⟩ else ⟨op, k, vn, hi, t, n, putLs row as1⟩
noncomputable def putLs (row : List Vl) : List Tr → List Tr
  | [] => []
  | a :: r => putF row a :: putLs row r
end
open Classical in
theorem putF_eq (row : List Vl) (t : Tr) : putF row t = if t.op = 2 ∧ 0 ≤ t.n ∧ t.n < (row.length : Int) ∧ vmayF (row.getD t.n.toNat default) = true then ⟨1, (row.getD t.n.toNat default).k, (row.getD t.n.toNat default).n, (row.getD t.n.toNat default).hi, (row.getD t.n.toNat default).t, 0, []⟩ else ⟨t.op, t.k, t.vn, t.hi, t.t, t.n, putLs row t.args⟩ := by
  obtain ⟨_, _, _, _, _, _, as1⟩ := t; simp only [putF]
theorem putLs_map (row : List Vl) : ∀ (L : List Tr), putLs row L = L.map (putF row)
  | [] => by simp only [putLs, List.map_nil]
  | a :: r => by simp only [putLs, List.map_cons, putLs_map row r]
theorem may_f (v : Vl) : value_May.f v.k v.n v.hi v.t = some (vmayF v) := by
  obtain ⟨k, n, hi, t⟩ := v
  have e : (t.toList == ([] : List UInt8)) = decide (t = ⟨#[]⟩) := by
    have h0 : (⟨#[]⟩ : ByteArray).toList = [] := by unfold ByteArray.toList; unfold ByteArray.toList.loop; rfl
    have h1 := ba_empty t
    rw [h0] at h1
    exact h1
  have o : (n == Go.bits .and .i64 n 1) = (decide (n = 0) || decide (n = 1)) := and_one n
  unfold value_May.f vmayF
  simp only [e, o]
  by_cases h0 : k = 0
  · simp only [h0, if_true]; congr 1; rw [Bool.eq_iff_iff]; simp
  · rw [if_neg h0, if_neg h0]
    by_cases h1 : k = 1
    · rw [if_pos h1, if_pos h1]; congr 1; rw [Bool.eq_iff_iff]; simp
    · rw [if_neg h1, if_neg h1]
      by_cases h2 : k = 2
      · rw [if_pos h2, if_pos h2]; congr 1; rw [Bool.eq_iff_iff]; simp
      · rw [if_neg h2, if_neg h2]
        by_cases h3 : k = 3
        · rw [if_pos h3, if_pos h3]
          by_cases c : (n == 0 && hi == 0) = true
          · rw [if_pos c]; congr 1; rw [Bool.eq_iff_iff]; simp at c; simp [c]; omega
          · rw [if_neg c]; congr 1; rw [Bool.eq_iff_iff]; simp at c; simp; intro a b; exact absurd b (c a)
        · rw [if_neg h3, if_neg h3]
          by_cases h4 : k = 4
          · rw [if_pos h4, if_pos h4]
            by_cases c : t = ⟨#[]⟩
            · simp [c]
            · simp [c]
          · rw [if_neg h4, if_neg h4]
def fld (u : Tr) : Int × Int × Int × Int × ByteArray × Int × List S26 := (u.op, u.k, u.vn, u.hi, u.t, u.n, toSs u.args)
theorem cntF_pos (t : Tr) : 1 ≤ cntF t := by rw [cntF_eq]; omega
theorem cntLs_len : ∀ (L : List Tr), L.length ≤ cntLs L
  | [] => Nat.zero_le _
  | a :: r => by
    have h1 := cntF_pos a
    have h2 := cntLs_len r
    have : cntLs (a :: r) = cntF a + cntLs r := by simp only [cntLs]
    simp only [List.length_cons]; omega
theorem rd_S (L : List Tr) (i : Nat) (h : i < L.length) : rd_T26 (toSs L) (i : Int) = toS (L.getD i default) := by
  unfold rd_T26
  rw [Int.toNat_natCast, List.getD_eq_getElem?_getD, toSs_map, List.getElem?_map, List.getElem?_eq_getElem h, List.getD_eq_getElem?_getD, List.getElem?_eq_getElem h]; rfl
theorem rd_V (row : List Vl) (n : Int) (h0 : 0 ≤ n) (h : n < (row.length : Int)) : rd_T23 (row.map toV) n = toV (row.getD n.toNat default) := by
  unfold rd_T23
  have h : n.toNat < row.length := by omega
  rw [List.getD_eq_getElem?_getD, List.getElem?_map, List.getElem?_eq_getElem h, List.getD_eq_getElem?_getD, List.getElem?_eq_getElem h]; rfl
theorem l0_ev (row : List Vl) (t : Tr) (hlen : t.args.length ≤ 1000) (ih : ∀ a ∈ t.args, ∃ K, ∀ k, K ≤ k → covenantlaw03_put.f k a.op a.k a.vn a.hi a.t a.n (toSs a.args) (row.map toV) = some (fld (putF row a))) :
    ∀ d i, i + d = t.args.length → ∃ K, ∀ k, K ≤ k → covenantlaw03_put.l0 k (row.map toV) (toSs ((putLs row t.args).take i)) (i : Int) t.op t.k t.vn t.hi t.t t.n (toSs t.args) = some (t.op, t.k, t.vn, t.hi, t.t, t.n, toSs (putLs row t.args)) := by
  intro d
  induction d with
  | zero =>
    intro i hi
    refine ⟨1, fun k hk => ?_⟩
    obtain ⟨k, rfl⟩ : ∃ m, k = m + 1 := ⟨k - 1, by omega⟩
    simp only [covenantlaw03_put.l0]
    rw [if_neg (by rw [toSs_len]; omega), List.take_of_length_le (by rw [putLs_map, List.length_map]; omega)]
  | succ d ihd =>
    intro i hi
    obtain ⟨K1, h1⟩ := ihd (i + 1) (by omega)
    have hlt : i < t.args.length := by omega
    obtain ⟨K2, h2⟩ := ih _ (getD_mem hlt)
    refine ⟨max K1 K2 + 1, fun k hk => ?_⟩
    obtain ⟨k, rfl⟩ : ∃ m, k = m + 1 := ⟨k - 1, by omega⟩
    have h1 := h1 k (by omega)
    have h2 := h2 k (by omega)
    simp only [covenantlaw03_put.l0]
    rw [if_pos (by rw [toSs_len]; omega), if_pos (by omega), rd_S _ _ hlt, toS_eq]
    simp only []
    rw [h2]
    simp only [Option.bind_some, fld]
    rw [if_pos (by rw [toSs_len, List.length_take]; omega)]
    have e1 : wrap64 ((i : Int) + 1) = ((i + 1 : Nat) : Int) := by unfold wrap64; omega
    have e2 : toSs ((putLs row t.args).take i) ++ [(⟨(putF row (t.args.getD i default)).op, ⟨(putF row (t.args.getD i default)).k, (putF row (t.args.getD i default)).vn, (putF row (t.args.getD i default)).hi, (putF row (t.args.getD i default)).t⟩, (putF row (t.args.getD i default)).n, toSs (putF row (t.args.getD i default)).args⟩ : S26)] = toSs ((putLs row t.args).take (i + 1)) := by
      rw [← toS_eq, toSs_map, toSs_map, putLs_map, List.take_add_one, List.map_append]
      congr 1
      rw [List.getElem?_map, List.getElem?_eq_getElem hlt, List.getD_eq_getElem?_getD, List.getElem?_eq_getElem hlt]; rfl
    rw [e1, e2]
    exact h1
theorem put_ev (row : List Vl) (t : Tr) : cntF t ≤ 1000 → ∃ K, ∀ k, K ≤ k → covenantlaw03_put.f k t.op t.k t.vn t.hi t.t t.n (toSs t.args) (row.map toV) = some (fld (putF row t)) := by
  induction t using Tr.ind with
  | h t ih =>
  intro hc
  rw [cntF_eq] at hc
  have hl := cntLs_len t.args
  obtain ⟨K, hK⟩ := l0_ev row t (by omega) (fun a ha => ih a ha (by have := cntLs_mem ha; omega)) t.args.length 0 (by omega)
  refine ⟨K + 2, fun k hk => ?_⟩
  obtain ⟨k, rfl⟩ : ∃ m, k = m + 2 := ⟨k - 2, by omega⟩
  have hK := hK k (by omega)
  have j0f : covenantlaw03_put.j0 (k + 1) (row.map toV) false t.op t.k t.vn t.hi t.t t.n (toSs t.args) = some (t.op, t.k, t.vn, t.hi, t.t, t.n, toSs (putLs row t.args)) := by
    simp only [covenantlaw03_put.j0]
    rw [if_neg (by decide)]
    exact hK
  have no : ¬ (t.op = 2 ∧ 0 ≤ t.n ∧ t.n < (row.length : Int) ∧ vmayF (row.getD t.n.toNat default) = true) → fld (putF row t) = (t.op, t.k, t.vn, t.hi, t.t, t.n, toSs (putLs row t.args)) := fun h => by rw [putF_eq, if_neg h]; rfl
  rw [covenantlaw03_put.f]
  rw [List.length_map]
  by_cases h1 : t.op = 2
  · rw [if_pos h1]
    by_cases h2 : t.n ≥ 0
    · rw [if_pos h2]
      by_cases h3 : t.n < (row.length : Int)
      · rw [if_pos h3, if_pos h2, rd_V row t.n h2 h3]
        have hm := may_f (row.getD t.n.toNat default)
        show (value_May.f (row.getD t.n.toNat default).k (row.getD t.n.toNat default).n (row.getD t.n.toNat default).hi (row.getD t.n.toNat default).t).bind _ = _
        rw [hm, Option.bind_some]
        cases h4 : vmayF (row.getD t.n.toNat default) with
        | false => rw [j0f, no (fun h => by rw [h4] at h; cases h.2.2.2)]
        | true =>
          simp only [covenantlaw03_put.j0]
          rw [if_pos trivial, if_pos h2, if_pos (by rw [List.length_map]; exact h3), rd_V row t.n h2 h3]
          rw [putF_eq, if_pos ⟨h1, h2, h3, h4⟩]
          simp only [covenantlaw03_lit.f, Option.bind_some, fld, toV, toSs]
      · rw [if_neg h3, j0f, no (fun h => h3 h.2.2.1)]
    · rw [if_neg h2, j0f, no (fun h => h2 h.2.1)]
  · rw [if_neg h1, j0f, no (fun h => h1 h.1)]
end Go.Proofs.Ytengccmjlaejfaa
end
