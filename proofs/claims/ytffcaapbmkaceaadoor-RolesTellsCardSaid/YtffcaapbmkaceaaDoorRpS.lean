/- slices.Delete of a list of pairs that one owns. No condition. -/
import Derived.Test.YtffcaapbmkaceaaDoorMg14
import Derived.WalkKit
import Derived.Deep.RegionLaw
import Derived.Lib.SliceRun
import Derived.Lib.SlicesDelete
import Derived.Shelf.RegionOpenPlain
import Derived.ArgAppend
import Derived.Deep.LoopGhost
namespace Go.Proofs.YtffcaapbmkaceaaDoor
open Ev Go.RowKit Go.Lib Go.Sort Go.Shelf
set_option maxRecDepth 100000
set_option maxHeartbeats 1000000

theorem cell_blk {w : World} {b o j : Nat} {C : Array Value} {e : TypeId} (hb : w.heap[b]? = some (.cells C e (0, 0))) : w.cell? ⟨b, o + j, none⟩ = C[o + j]? := by
  simp [World.cell?, hb]
theorem froz_blk {w : World} {b o : Nat} {C : Array Value} {e : TypeId} (hb : w.heap[b]? = some (.cells C e (0, 0))) : w.frozen? ⟨b, o, none⟩ = false := by
  simp [World.frozen?, hb]
/-- Cells set one behind another are a row set. -/
theorem setCells_row (P : Program) {w : World} {b o : Nat} {C : Array Value} {e : TypeId} {vs : List Value} (hb : w.heap[b]? = some (.cells C e (0, 0))) (hl : o + vs.length ≤ C.size) (h1 : ∀ v ∈ vs, v.oneCell' = true) :
    w.setCells b o vs = w.setRow b (C.toList.take o ++ vs ++ C.toList.drop (o + vs.length)).toArray := by
  have r1 := run_storeCells_at P b o e vs 0 C w hb (by simpa using hl) h1
  have r2 := run_storeCells_cells (P := P) b o vs 0 w (fun j hj => by
    rw [Nat.add_zero, cell_blk hb, Array.getElem?_eq_getElem (by omega)]; rfl) (fun j hj => froz_blk hb) h1
  rw [r1] at r2
  simp only [Nat.add_zero, Result.ok.injEq, true_and] at r2
  exact r2.symm
theorem run_clear_many (P : Program) {w : World} {t e ty : TypeId} {z : Value} {zs : List Value} (ht : P.underlying t = some (.slice e)) (hv : ∀ w, (zeroValue e).run P w = .ok z w) {b o n c : Nat} {C : Array Value} {e' : TypeId} (hb : w.heap[b]? = some (.cells C e' (0, 0)))
    (hzs : (Builtin.zeroCells z.cells n).toList = zs) (hn : 0 < n) (hl : o + zs.length ≤ C.size) (h1 : ∀ v ∈ zs, v.oneCell' = true) :
    (Builtin.clear_ #[t] ty #[.slice (some ⟨b, o, none⟩) n c]).run P w = .ok (.tuple #[]) (w.setRow b (C.toList.take o ++ zs ++ C.toList.drop (o + zs.length)).toArray) := by
  have r1 := run_storeCells_at P b o e' zs 0 C w hb (by simpa using hl) h1
  simp only [Nat.add_zero] at r1
  obtain ⟨m, rfl⟩ : ∃ m, n = m + 1 := ⟨n - 1, by omega⟩
  simp [Builtin.clear_, run_underlying ht, hv, hzs, r1]

theorem del_run (w : World) (b o cap len i j : Nat) (C : Array Value) (e : TypeId) (hb : w.heap[b]? = some (.cells C e (0, 0))) (hij : i < j) (hj : j ≤ len) (hcap : len ≤ cap) (hC : o + cap * 2 ≤ C.size)
    (hone : ∀ k y, k < len * 2 → C[o + k]? = some y → y.oneCell' = true) :
    Calls Tryd.prog 35 #[.slice (some ⟨b, o, none⟩) len cap, .int .i64 i, .int .i64 j] w fun ex w' => ex = .returned (.slice (some ⟨b, o, none⟩) (i + (len - j)) cap) ∧ ∃ C', w' = w.drew.setRow b C' ∧ C'.size = C.size ∧
      (∀ k, k < i * 2 → C'[o + k]? = C[o + k]?) ∧ ∀ k, k < (len - j) * 2 → C'[o + (i * 2 + k)]? = C[o + (j * 2 + k)]? := by
  have hcl : len * 2 ≤ cap * 2 := Nat.mul_le_mul_right 2 hcap
  have hjl : j * 2 ≤ len * 2 := Nat.mul_le_mul_right 2 hj
  have hijl : i * 2 < j * 2 := by omega
  -- the cells that move to the left
  obtain ⟨news, hnews⟩ : ∃ news, news = (C.toList.drop (o + j * 2)).take ((len - j) * 2) := ⟨_, rfl⟩
  have hlen : news.length = (len - j) * 2 := by rw [hnews]; simp; omega
  have hget : ∀ t, t < (len - j) * 2 → news[t]? = C[o + (j * 2 + t)]? := fun t ht => by
    rw [hnews, List.getElem?_take_of_lt ht, List.getElem?_drop, Array.getElem?_toList, Nat.add_assoc]
  obtain ⟨A, hA, hsrc⟩ : ∃ A : Addr, (if cap = j then some (⟨b, o, none⟩ : Addr) else some ⟨b, o + j * 2, none⟩) = some A ∧ Hid (∀ t u, news[t]? = some u → w.drew.cell? (A.add t) = some u) := by
    by_cases h : cap = j
    · refine ⟨⟨b, o, none⟩, by simp [h], fun t u hu => ?_⟩
      have h0 : news.length = 0 := by rw [hlen]; omega
      rw [List.length_eq_zero_iff.1 h0] at hu
      simp at hu
    · refine ⟨⟨b, o + j * 2, none⟩, by simp [h], fun t u hu => ?_⟩
      have ht : t < (len - j) * 2 := by
        have := (List.getElem?_eq_some_iff.1 hu).1
        rwa [hlen] at this
      rw [hget t ht] at hu
      rw [Addr.add_lit]
      show w.cell? _ = _
      rw [show o + j * 2 + t = o + (j * 2 + t) by omega, cell_blk hb]
      exact hu
  have h1 : ∀ u ∈ news, u.oneCell' = true := fun u hu => by
    obtain ⟨t, ht, rfl⟩ := List.getElem_of_mem hu
    have := hget t (by rw [hlen] at ht; exact ht)
    rw [List.getElem?_eq_getElem ht] at this
    exact hone (j * 2 + t) _ (by omega) this.symm
  have s1 : Hid (news.length = (len - j) * 2) := hlen
  have s2 : Hid (∀ u ∈ news, u.oneCell' = true) := h1
  have s3 : Hid (∀ t, t < news.length → (w.drew.cell? ⟨b, o + i * 2 + t, none⟩).isSome = true ∧ w.drew.frozen? ⟨b, o + i * 2 + t, none⟩ = false) := by
    intro t ht
    rw [hlen] at ht
    refine ⟨?_, froz_blk (w := w) hb⟩
    show (w.cell? _).isSome = true
    rw [show o + i * 2 + t = o + (i * 2 + t) by omega, cell_blk hb, Array.getElem?_eq_getElem (by omega)]
    rfl
  obtain ⟨W1, hW1⟩ : ∃ W1, W1 = w.drew.setCells b (o + i * 2) news := ⟨_, rfl⟩
  have hbd : w.drew.heap[b]? = some (.cells C e (0, 0)) := hb
  obtain ⟨C1, hC1⟩ : ∃ C1, C1 = (C.toList.take (o + i * 2) ++ news ++ C.toList.drop (o + i * 2 + news.length)).toArray := ⟨_, rfl⟩
  have hW1' : W1 = w.drew.setRow b C1 := by rw [hW1, hC1]; exact setCells_row Tryd.prog hbd (by rw [hlen]; omega) h1
  have hs1 : C1.size = C.size := by rw [hC1]; simp [hlen]; omega
  have hb1 : W1.heap[b]? = some (.cells C1 e (0, 0)) := by rw [hW1']; exact setRow_heap _ b C C1 _ _ hbd
  have hzv : ∀ w, (zeroValue 36).run Tryd.prog w = .ok (.agg #[.string ⟨#[]⟩, .string ⟨#[]⟩]) w := fun _ => rfl
  obtain ⟨zs, hzs⟩ : ∃ zs, zs = (Builtin.zeroCells (Value.agg #[.string ⟨#[]⟩, .string ⟨#[]⟩]).cells (len - (i + (len - j)))).toList := ⟨_, rfl⟩
  have hzl : zs.length = (len - (i + (len - j))) * 2 := by rw [hzs]; simp [Builtin.zeroCells, Value.cells]
  have hz1 : ∀ v ∈ zs, v.oneCell' = true := fun v hv => by
    rw [hzs] at hv
    simp [Builtin.zeroCells, Value.cells] at hv
    obtain ⟨a, ha, rfl⟩ := hv
    rcases (show a % 2 = 0 ∨ a % 2 = 1 by omega) with h | h <;> simp [h] <;> rfl
  have hclr : ∀ ty, (Builtin.clear_ #[23] ty #[.slice (some ⟨b, o + (i + (len - j)) * 2, none⟩) (len - (i + (len - j))) (cap - (i + (len - j)))]).run Tryd.prog W1 = .ok (.tuple #[]) (W1.setRow b (C1.toList.take (o + (i + (len - j)) * 2) ++ zs ++ C1.toList.drop (o + (i + (len - j)) * 2 + zs.length)).toArray) :=
    fun ty => run_clear_many Tryd.prog (by kernel_rfl) hzv hb1 hzs.symm (by omega) (by rw [hs1, hzl]; omega) hz1
  have X : Aside (W1 = w.drew.setRow b C1 ∧ C1 = (C.toList.take (o + i * 2) ++ news ++ C.toList.drop (o + i * 2 + news.length)).toArray ∧ zs.length = (len - (i + (len - j))) * 2 ∧ C1.size = C.size ∧ (∀ t, t < (len - j) * 2 → news[t]? = C[o + (j * 2 + t)]?)) := ⟨hW1', hC1, hzl, hs1, hget⟩
  have hW : Hid (W1 = w.drew.setCells b (o + i * 2) news) := hW1
  have hic : i ≤ cap := by omega
  have hjc : j ≤ cap := by omega
  have mixed : Tryd.prog.follows .mixedOrders = true := by kernel_rfl
  obtain ⟨i0, hi0, hz0⟩ : ∃ i0, Tryd.prog.info? 36 = some i0 ∧ i0.size = 2 := by
    have h : (Tryd.prog.info? 36).map (·.size) = some 2 := by kernel_rfl
    simpa using h
  have hu0 : Tryd.prog.underlying 23 = some (.slice 36) := by kernel_rfl
  have hi1 := Lib.hid hi0
  have hz1' := Lib.hid hz0
  clear hi0 hz0
  clear hW1 hW1' hb1 hone hget hnews hlen h1 hC1 hzl hz1 hzs hs1 hzv
  go_enter Tryd.func35, Tryd.ntmps35
  go_wp2_with fail
  go_region_law_o (refine step_append_room rfl (.tmp 22) (.tmp 25) 23 rfl 36 i0 2 hu0 hi1.out hz1'.out b o i cap (by simp [Act.eval, Act.put]) A (len - j) (cap - j) news (by simp [Act.eval, Act.put]) s1.out hsrc.out s2.out (by omega) s3.out ?_; rw [← hW.out])
  go_wp2
  go_ret
  obtain ⟨x1, x2, x3, x4, x5⟩ := X
  have s1 := s1.out
  clear hclr hW hsrc s2 s3 hi1 hz1'
  refine ⟨rfl, ?_⟩
  rw [x1, setRow_setRow]
  have front : ∀ q, q < o + (i + (len - j)) * 2 → (List.take (o + (i + (len - j)) * 2) C1.toList ++ (zs ++ List.drop (o + (i + (len - j)) * 2 + zs.length) C1.toList)).toArray[q]? = C1[q]? := fun q hq => by
    rw [List.getElem?_toArray, List.getElem?_append_left (by simp; omega), List.getElem?_take_of_lt hq, Array.getElem?_toList]
  refine ⟨_, rfl, ?_, fun k hk => ?_, fun k hk => ?_⟩
  · simp [x3]; omega
  · rw [front _ (by omega), x2, List.getElem?_toArray, List.append_assoc, List.getElem?_append_left (by simp; omega), List.getElem?_take_of_lt (by omega), Array.getElem?_toList]
  · rw [front _ (by omega), x2, List.getElem?_toArray, List.append_assoc, List.getElem?_append_right (by simp; omega), List.getElem?_append_left (by simp; omega)]
    rw [show o + (i * 2 + k) - (List.take (o + i * 2) C.toList).length = k by simp; omega]
    exact x5 k hk

/- As a summary: what is left has a new name. -/
def cutD (f : Nat → Nat → D) (i k : Nat) : Nat → Nat → D := fun q c => bif Nat.blt q i then f q c else f (q + k) c
def i64A : AV → Option Int
  | .v (.int .i64 j) => some j
  | .s (.int .i64 j) => some j
  | _ => none
def delX : SumBr := fun f' args h => bif Nat.beq f' 35 then (match args with
  | [.osl n len, x, y] => match i64A x, i64A y with
    | some i, some j => match h.ob.get n with
      | some (.rows f len' ks) => bif ksEq ks [.str, .str] then some (.test ((decide (0 ≤ i) && decide (i < j)) && (decide (j ≤ len) && Nat.beq len len')) (.leaf (.osl h.nx (len - (j - i).toNat), (h.drop n).new (.rows (cutD f i.toNat (j - i).toNat) (len - (j - i).toNat) ks))) .no) else none
      | _ => none
    | _, _ => none
  | _ => none) else none
theorem i64A_rel [Fz] {x : AV} {i : Int} {ρ : Rho} {y : Value} (h : i64A x = some i) (r : VRel ρ x y) : y = .int .i64 i := by
  unfold i64A at h
  split at h
  · cases h; exact r
  · cases h; exact r
  · cases h
theorem del_call [I : Fz] (hgc : I.gc = false) {n len i j : Nat} {x y : AV} {f : Nat → Nat → D} {h : Hp} (hx : i64A x = some (i : Int)) (hy : i64A y = some (j : Int)) (ho : h.ob.get n = some (.rows f len [.str, .str])) (hij : i < j) (hj : j ≤ len) :
    CallOk Tryd.prog 35 [.osl n len, x, y] h (.osl h.nx (len - (j - i))) ((h.drop n).new (.rows (cutD f i (j - i)) (len - (j - i)) [.str, .str])) := by
  intro ρ w ys hys hh
  obtain ⟨y1, r1, e1, hs, y2, r2, e2, h2, y3, r3, e3, h3, hnil⟩ := hys
  simp only [VRels] at hnil
  subst hnil; subst e3; subst e2
  obtain rfl := i64A_rel hx h2
  obtain rfl := i64A_rel hy h3
  obtain rfl : ys = #[y1, .int .i64 i, .int .i64 j] := by apply Array.ext'; simpa using e1
  obtain ⟨_, hs⟩ := hs
  rcases hs with ⟨rfl, _⟩ | ⟨p, k, hp, rfl, hk, hps⟩
  · omega
  obtain ⟨hz1, ⟨_, hz2, hz3⟩, C, eC, hbk, hC, hcell⟩ := hh.objP hp ho
  have hz1 : p.z = 2 := hz1
  have hl2 : ([.str, .str] : List TK).length = 2 := rfl
  rw [hl2] at hcell hz2
  have hgd : ∀ k, (h.drop n).ob.get k = if k = n then none else h.ob.get k := fun k => by unfold Hp.drop; exact T.get_put' _ _ _ _
  refine (del_run w p.b p.o k len i j C eC hbk hij hj hk (by rw [hC]; rw [hz1] at hps; omega) (fun t v ht hv => ?_)).mono ?_
  · obtain ⟨⟨tk, g1, g2⟩, z, g3, g4⟩ := hcell (t / 2) (t % 2) (by omega) (by omega)
    rw [show t / 2 * 2 + t % 2 = t by omega] at g3
    have htk : tk = .str := by
      rcases (show t % 2 = 0 ∨ t % 2 = 1 by omega) with h | h <;> rw [h] at g1 <;> simpa using g1.symm
    subst htk
    rw [hv] at g3
    cases g3
    cases hf : f (t / 2) (t % 2) with
    | l a b c => rw [hf] at g2; cases g2
    | v u =>
      rw [hf] at g2 g4
      cases g4
      cases v <;> simp_all [TK.fit] <;> rfl
  · rintro e w' ⟨rfl, C', rfl, hs', hc1, hc2⟩
    have hor : ORel (upd ρ h.nx p) (.rows (cutD f i (j - i)) (len - (j - i)) [.str, .str]) p (w.drew.setRow p.b C') := by
      refine ⟨hz1, ⟨hgc, by rw [hl2]; omega, by omega⟩, C', _, setRow_heap w.drew p.b C C' _ _ hbk, hs'.trans hC, fun q c hq hc => ?_⟩
      rw [hl2] at hc
      rw [hl2]
      unfold cutD
      by_cases ci : q < i
      · have : Nat.blt q i = true := by simpa using ci
        rw [this]
        rw [hc1 _ (by omega)]
        exact hcell q c (by omega) hc
      · have : Nat.blt q i = false := blt_no ci
        rw [this]
        have e := hc2 (q * 2 + c - i * 2) (by omega)
        rw [show i * 2 + (q * 2 + c - i * 2) = q * 2 + c by omega, show j * 2 + (q * 2 + c - i * 2) = (q + (j - i)) * 2 + c by omega] at e
        rw [e]
        exact hcell (q + (j - i)) c (by omega) hc
    have hmv := (HRel.move hh hp ho rfl rfl hgd).drew
    have hst := HRel.setObj (o' := .rows (cutD f i (j - i)) (len - (j - i)) [.str, .str]) hmv (w' := w.drew.setRow p.b C') (upd_same _ _ _) (upd_same _ _ _) rfl rfl (by simp) (fun b hb => setRow_other w.drew p.b b C' hb) hor
    refine ⟨_, upd ρ h.nx p, [n], rfl, ⟨hgc, .inr ⟨p, k, upd_same _ _ _, by rw [show i + (len - j) = len - (j - i) by omega], by omega, hps⟩⟩, ?_, ⟨Nat.le_succ _, fun k hk => upd_ne _ _ (by omega), fun k r hk e => ?_, by simp, rfl, rfl, rfl, fun b hb' hne => setRow_other w.drew p.b b C' (fun e => hne n p (by simp) (hh.dm _ _ hp) hp e.symm)⟩, rfl⟩
    · unfold HR Hp.new
      rw [T.get_put]
      have : upd (upd (h.drop n).ob.get h.nx (.rows f len [.str, .str])) h.nx (.rows (cutD f i (j - i)) (len - (j - i)) [.str, .str]) = upd (h.drop n).ob.get (h.drop n).nx (.rows (cutD f i (j - i)) (len - (j - i)) [.str, .str]) := by
        funext k
        by_cases c : k = h.nx
        · subst c; rw [upd_same]; exact (upd_same _ _ _).symm
        · rw [upd_ne _ _ c, upd_ne _ _ c]; exact (upd_ne _ _ c).symm
      rw [this] at hst
      exact hst
    · by_cases c : k = h.nx
      · subst c; rw [upd_same] at e; cases e; exact .inr ⟨n, p, by simp, hh.dm _ _ hp, hp, rfl⟩
      · rw [upd_ne _ _ c] at e; exact absurd (hh.dm k r e) (by omega)
theorem delX_ok : SumGO Tryd.prog (sumS delX) := by
  have key : ∀ f' args h v h', sumS delX f' args h = some (v, h') → ∃ n len x y f i j, f' = 35 ∧ args = [.osl n len, x, y] ∧ i64A x = some ((i : Nat) : Int) ∧ i64A y = some ((j : Nat) : Int) ∧ h.ob.get n = some (.rows f len [.str, .str]) ∧ i < j ∧ j ≤ len ∧
      v = .osl h.nx (len - (j - i)) ∧ h' = (h.drop n).new (.rows (cutD f i (j - i)) (len - (j - i)) [.str, .str]) := by
    intro f' args h v h' e
    unfold sumS at e
    cases hX : delX f' args h with
    | none => rw [hX] at e; cases e
    | some B =>
      rw [hX] at e
      unfold delX at hX
      simp only [cond_eq_ite] at hX e
      split at hX
      rotate_left
      · cases hX
      rename_i hf
      split at hX
      rotate_left
      · cases hX
      rename_i n len x y
      split at hX
      rotate_left
      · cases hX
      rename_i i j hi hj
      split at hX
      rotate_left
      · cases hX
      rename_i f len' ks ho
      split at hX
      rotate_left
      · cases hX
      rename_i hks
      cases hX
      split at e
      rotate_left
      · cases e
      simp only [Br.ev] at e
      cases hc : ((decide (0 ≤ i) && decide (i < j)) && (decide (j ≤ (len : Int)) && Nat.beq len len')) with
      | false => rw [hc] at e; cases e
      | true =>
        rw [hc] at e
        simp only [Bool.and_eq_true, decide_eq_true_eq] at hc
        obtain ⟨⟨c1, c2⟩, c3, c4⟩ := hc
        have c4 := Nat.eq_of_beq_eq_true c4
        subst c4
        obtain ⟨i, rfl⟩ : ∃ k : Nat, i = (k : Int) := ⟨i.toNat, by omega⟩
        obtain ⟨j, rfl⟩ : ∃ k : Nat, j = (k : Int) := ⟨j.toNat, by omega⟩
        have := ksEq_eq hks
        subst this
        simp only [cond_true, Option.some.injEq, Prod.mk.injEq] at e
        have e3 : ((j : Int) - i).toNat = j - i := by omega
        rw [e3] at e
        exact ⟨n, len, x, y, f, i, j, Nat.eq_of_beq_eq_true hf, rfl, hi, hj, ho, by omega, by omega, e.1.symm, e.2.symm⟩
  refine ⟨@fun I hgc f' args h v h' e => ?_, fun f' args h v h' e => ?_⟩
  · obtain ⟨n, len, x, y, f, i, j, rfl, rfl, hx, hy, ho, hij, hj, rfl, rfl⟩ := key _ _ _ _ _ e
    exact ⟨Ev.enters_of (by kernel_rfl), del_call hgc hx hy ho hij hj⟩
  · obtain ⟨n, len, x, y, f, i, j, rfl, rfl, hx, hy, ho, hij, hj, rfl, rfl⟩ := key _ _ _ _ _ e
    exact (KL.drop _ _).trans (KL.new _ _)
end Go.Proofs.YtffcaapbmkaceaaDoor
