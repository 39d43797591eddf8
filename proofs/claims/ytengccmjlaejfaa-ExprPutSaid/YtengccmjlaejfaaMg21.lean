/- An argument that is a list, read as memory that nobody writes. No condition. -/
import Derived.Test.YtengccmjlaejfaaMg16
import Derived.Test.YtengccmjlaejfaaProg
import Derived.KernelRfl
import Derived.WalkKit
import Derived.OpenShut
import Derived.ShutString
import Derived.Deep.Slices
section
namespace Go.Proofs.Ytengccmjlaejfaa
open Ev Go.RowKit Go.ChangeShapes Go.WideShapes Go.Deep
set_option maxRecDepth 100000
section
variable {P : Program} {H : Type} {enc : TypeId × Value → H} {w : World} {base : Nat} {spare : Nat → Bool} {held : Bool}
/-- A list of records in memory. -/
theorem list_read {α : Type} [Inhabited α] [Rec α] {tS tE : TypeId} (hu : P.underlying tS = some (.slice tE)) (hC : P.cellsOf tE = (Rec.ks α).length) (hk : 0 < (Rec.ks α).length)
    (hel : ∀ (n : Nat) (cs : List Value) (x : DataW H × List MemPlace), cs.length = (Rec.ks α).length → DataW.trod enc P w base spare held n tE cs = some x → ∃ v : α, ∀ c, c < (Rec.ks α).length → ∃ z, cs[c]? = some z ∧ Rec.enc v c = .v z)
    {fuel : Nat} {y : Value} {x : DataW H × List MemPlace} (hsp : ∀ b, spare b = true) (h : DataW.trod enc P w base spare held fuel tS [y] = some x) :
    ∃ L : List α, @VRel ⟨fun b => w.heap[b]?, false⟩ (fun _ => none) (.fz (eL L) L.length (Rec.ks α)) y := by
  rcases open_slice hu h with ⟨hcs, _⟩ | ⟨ad, len, cap, m, n, D, Pl, hcs, hb, hl, hm, hmm, _, hi⟩
  · simp at hcs
    subst hcs
    refine ⟨[], rfl, ?_⟩
    unfold FzRel
    exact .inl ⟨rfl, none, 0, rfl, fun _ => rfl⟩
  · simp at hcs
    subst hcs
    rcases Nat.eq_zero_or_pos len with h0 | h0
    · subst h0
      refine ⟨[], rfl, ?_⟩
      unfold FzRel
      exact .inl ⟨rfl, some ad, cap, rfl, fun e => by cases e⟩
    rw [hsp, if_pos rfl] at hmm
    subst hmm
    have key : ∀ i, i < m → ∃ v : α, ∀ c, c < (Rec.ks α).length → ∃ z, w.cell? ((ad.add (i * (Rec.ks α).length)).add c) = some z ∧ Rec.enc v c = .v z := by
      intro i him
      obtain ⟨cs', hcs', ht'⟩ := hi i him
      rw [hC] at hcs'
      obtain ⟨_, hcl, hat⟩ := World.cells?_some hcs'
      obtain ⟨v, hv⟩ := hel n cs' _ hcl ht'
      refine ⟨v, fun c hc => ?_⟩
      obtain ⟨z, h1, h2⟩ := hv c hc
      exact ⟨z, by rw [hat c hc]; exact h1, h2⟩
    obtain ⟨v0, hv0⟩ := key 0 (by omega)
    obtain ⟨z0, c0, _⟩ := hv0 0 hk
    rw [Nat.zero_mul] at c0
    have hadd0 : ∀ (q : Addr), q.add 0 = q := fun q => by unfold Addr.add; rw [if_pos rfl]
    rw [hadd0, hadd0] at c0
    have hblk : ∃ C e fr, w.heap[ad.block]? = some (.cells C e fr) ∧ ad.spot = none := by
      unfold World.cell? at c0
      split at c0
      · rename_i C e fr hh
        cases hq : ad.spot with
        | none => exact ⟨C, e, fr, hh, rfl⟩
        | some s => rw [hq] at c0; simp at c0
      · simp at c0
    obtain ⟨C, e, fr, hheap, hspot⟩ := hblk
    obtain ⟨b, o, sp⟩ := ad
    simp only at hspot hheap
    subst hspot
    have haddn : ∀ i j, ((⟨b, o, none⟩ : Addr).add i).add j = ⟨b, o + (i + j), none⟩ := fun i j => by letI : Fz := ⟨fun _ => none, true⟩; rw [add_at, add_at, Nat.add_assoc]
    have hcell : ∀ i, i < m → ∃ v : α, ∀ c, c < (Rec.ks α).length → ∃ z, C[o + (i * (Rec.ks α).length + c)]? = some z ∧ Rec.enc v c = .v z := fun i him => by
      obtain ⟨v, hv⟩ := key i him
      refine ⟨v, fun c hc => ?_⟩
      obtain ⟨z, h1, h2⟩ := hv c hc
      rw [haddn] at h1
      exact ⟨z, by rw [← h1]; simp [World.cell?, hheap], h2⟩
    let l : Nat → α := fun i => if h : i < m then (hcell i h).choose else default
    have hl' : ∀ i, i < m → ∀ c, c < (Rec.ks α).length → ∃ z, C[o + (i * (Rec.ks α).length + c)]? = some z ∧ Rec.enc (l i) c = .v z := fun i him c hc => by
      have := (hcell i him).choose_spec c hc
      have e : l i = (hcell i him).choose := by simp [l, him]
      rw [e]; exact this
    have hsize : o + len * (Rec.ks α).length ≤ C.size := by
      obtain ⟨z, h1, _⟩ := hl' (len - 1) (by omega) ((Rec.ks α).length - 1) (by omega)
      have := (Array.getElem?_eq_some_iff.1 h1).1
      have e : len * (Rec.ks α).length = (len - 1) * (Rec.ks α).length + (Rec.ks α).length := by
        obtain ⟨q, rfl⟩ : ∃ q, len = q + 1 := ⟨len - 1, by omega⟩
        rw [Nat.add_sub_cancel, Nat.add_mul, Nat.one_mul]
      omega
    refine ⟨(List.range len).map l, rfl, ?_⟩
    have hlen : ((List.range len).map l).length = len := by simp
    rw [hlen]
    unfold FzRel
    refine .inr ⟨b, o, m, C, e, fr, rfl, hl, hheap, ⟨hsize, by unfold maxLen at hm; omega⟩, fun i c hi' hc => ?_⟩
    have eL' : eL ((List.range len).map l) i c = Rec.enc (l i) c := by
      unfold eL
      rw [show ((List.range len).map l).getD i default = l i by simp [List.getD_eq_getElem?_getD, hi']]
    obtain ⟨z, h1, h2⟩ := hl' i (by omega) c hc
    rw [eL', h2]
    refine ⟨⟨(Rec.ks α)[c], by simp [hc], ?_⟩, z, h1, rfl⟩
    have := Rec.fit (l i) c (Rec.ks α)[c] (by simp [hc])
    rw [h2] at this; exact this
end
end Go.Proofs.Ytengccmjlaejfaa
end
section
namespace Go.Proofs.Ytengccmjlaejfaa
open Ev Go.RowKit Go.ChangeShapes Go.WideShapes Go.Deep
set_option maxRecDepth 100000
set_option linter.unusedVariables false
section
variable {H : Type} {enc : TypeId × Value → H} {w : World} {base : Nat} {spare : Nat → Bool} {held : Bool}
/-- A list in memory, its elements read each by itself. -/
theorem list_readG {P : Program} {α : Type} [Inhabited α] {tS tE : TypeId} (ks : List TK) (en : α → Nat → D) (hu : P.underlying tS = some (.slice tE)) (hC : P.cellsOf tE = ks.length) (hk : 0 < ks.length)
    {fuel : Nat} {y : Value} {x : DataW H × List MemPlace}
    (hel : ∀ (n : Nat), n < fuel → ∀ (cs : List Value) (x : DataW H × List MemPlace), cs.length = ks.length → DataW.trod enc P w base spare held n tE cs = some x → ∃ v : α, ∀ c, c < ks.length → ∃ z, cs[c]? = some z ∧ @FzRel ⟨fun b => w.heap[b]?, false⟩ (en v c) z ∧ ∃ tk, ks[c]? = some tk ∧ tk.fit (en v c) = true)
    (h : DataW.trod enc P w base spare held fuel tS [y] = some x) :
    ∃ L : List α, ∀ F : Nat → Nat → D, (∀ i c, i < L.length → c < ks.length → F i c = en (L.getD i default) c) → @FzRel ⟨fun b => w.heap[b]?, false⟩ (.l F L.length ks) y := by
  rcases DataW.trod_slice hu h with ⟨hcs, _⟩ | ⟨ad, len, cap, elems, rest, n, hfu, hcs, _, hb, hl, hm, hlen, hi, _⟩
  · simp at hcs
    subst hcs
    refine ⟨[], fun F _ => ?_⟩
    unfold FzRel
    exact .inl ⟨rfl, none, 0, rfl, fun _ => rfl⟩
  · simp at hcs
    subst hcs
    rcases Nat.eq_zero_or_pos len with h0 | h0
    · refine ⟨[], fun F _ => ?_⟩
      unfold FzRel
      exact .inl ⟨rfl, some ad, cap, by rw [h0], fun e => by cases e⟩
    have key : ∀ i, i < len → ∃ v : α, ∀ c, c < ks.length → ∃ z, w.cell? ((ad.add (i * ks.length)).add c) = some z ∧ @FzRel ⟨fun b => w.heap[b]?, false⟩ (en v c) z ∧ ∃ tk, ks[c]? = some tk ∧ tk.fit (en v c) = true := by
      intro i him
      have hx := hi i him
      rw [hC] at hx
      have hsome : elems[i]? = some (elems[i]'(by omega)) := List.getElem?_eq_getElem _
      rw [hsome] at hx
      cases hcs' : w.cells? base (ad.add (i * ks.length)) ks.length with
      | none => rw [hcs'] at hx; cases hx
      | some cs' =>
      rw [hcs'] at hx
      have ht' : DataW.trod enc P w base spare held n tE cs' = some (elems[i]'(by omega)) := hx
      obtain ⟨_, hcl, hat⟩ := World.cells?_some hcs'
      obtain ⟨v, hv⟩ := hel n (by omega) cs' _ hcl ht'
      refine ⟨v, fun c hc => ?_⟩
      obtain ⟨z, h1, h2⟩ := hv c hc
      exact ⟨z, by rw [hat c hc]; exact h1, h2⟩
    obtain ⟨v0, hv0⟩ := key 0 (by omega)
    obtain ⟨z0, c0, _⟩ := hv0 0 hk
    rw [Nat.zero_mul] at c0
    have hadd0 : ∀ (q : Addr), q.add 0 = q := fun q => by unfold Addr.add; rw [if_pos rfl]
    rw [hadd0, hadd0] at c0
    have hblk : ∃ C e fr, w.heap[ad.block]? = some (.cells C e fr) ∧ ad.spot = none := by
      unfold World.cell? at c0
      split at c0
      · rename_i C e fr hh
        cases hq : ad.spot with
        | none => exact ⟨C, e, fr, hh, rfl⟩
        | some s => rw [hq] at c0; simp at c0
      · simp at c0
    obtain ⟨C, e, fr, hheap, hspot⟩ := hblk
    obtain ⟨b, o, sp⟩ := ad
    simp only at hspot hheap
    subst hspot
    have haddn : ∀ i j, ((⟨b, o, none⟩ : Addr).add i).add j = ⟨b, o + (i + j), none⟩ := fun i j => by letI : Fz := ⟨fun _ => none, true⟩; rw [add_at, add_at, Nat.add_assoc]
    have hcell : ∀ i, i < len → ∃ v : α, ∀ c, c < ks.length → ∃ z, C[o + (i * ks.length + c)]? = some z ∧ @FzRel ⟨fun b => w.heap[b]?, false⟩ (en v c) z ∧ ∃ tk, ks[c]? = some tk ∧ tk.fit (en v c) = true := fun i him => by
      obtain ⟨v, hv⟩ := key i him
      refine ⟨v, fun c hc => ?_⟩
      obtain ⟨z, h1, h2⟩ := hv c hc
      rw [haddn] at h1
      exact ⟨z, by rw [← h1]; simp [World.cell?, hheap], h2⟩
    let l : Nat → α := fun i => if h : i < len then (hcell i h).choose else default
    have hl' : ∀ i, i < len → ∀ c, c < ks.length → ∃ z, C[o + (i * ks.length + c)]? = some z ∧ @FzRel ⟨fun b => w.heap[b]?, false⟩ (en (l i) c) z ∧ ∃ tk, ks[c]? = some tk ∧ tk.fit (en (l i) c) = true := fun i him c hc => by
      have := (hcell i him).choose_spec c hc
      have e : l i = (hcell i him).choose := by simp [l, him]
      rw [e]; exact this
    have hsize : o + len * ks.length ≤ C.size := by
      obtain ⟨z, h1, _⟩ := hl' (len - 1) (by omega) (ks.length - 1) (by omega)
      have := (Array.getElem?_eq_some_iff.1 h1).1
      have e : len * ks.length = (len - 1) * ks.length + ks.length := by
        obtain ⟨q, rfl⟩ : ∃ q, len = q + 1 := ⟨len - 1, by omega⟩
        rw [Nat.add_sub_cancel, Nat.add_mul, Nat.one_mul]
      omega
    refine ⟨(List.range len).map l, fun F hF => ?_⟩
    have hlen' : ((List.range len).map l).length = len := by simp
    rw [hlen'] at hF ⊢
    unfold FzRel
    refine .inr ⟨b, o, cap, C, e, fr, rfl, hl, hheap, ⟨hsize, by unfold maxLen at hm; omega⟩, fun i c hi' hc => ?_⟩
    rw [hF i c hi' hc, show ((List.range len).map l).getD i default = l i by simp [List.getD_eq_getElem?_getD, hi']]
    obtain ⟨z, h1, h2, h3⟩ := hl' i hi' c hc
    exact ⟨h3, z, h1, h2⟩
theorem trLs_get : ∀ (L : List Tr) (i c : Nat), i < L.length → trLs L i c = trC (L.getD i default) c
  | [], i, c, h => by simp at h
  | a :: r, 0, c, h => by simp only [trLs]; rfl
  | a :: r, i + 1, c, h => by
    have := trLs_get r i c (by simpa using h)
    simp only [trLs]
    rw [this, List.getD_cons_succ]
theorem tr_el : ∀ (fuel : Nat) (cs : List Value) (x : DataW H × List MemPlace), cs.length = 7 → DataW.trod enc Try.prog w base spare held fuel 26 cs = some x → ∃ t : Tr, ∀ c, c < 7 → ∃ z, cs[c]? = some z ∧ @FzRel ⟨fun b => w.heap[b]?, false⟩ (trC t c) z ∧ ∃ tk, ksE[c]? = some tk ∧ tk.fit (trC t c) = true := by
  intro fuel
  induction fuel using Nat.strongRecOn with
  | _ fuel ih =>
  intro cs x hl h
  obtain ⟨xs, n', hfu, _, _, hxl, hf⟩ := DataW.trod_struct Try.underlying26 h
  obtain ⟨c0, c1, c2, c3, c4, c5, c6, rfl⟩ : ∃ c0 c1 c2 c3 c4 c5 c6, cs = [c0, c1, c2, c3, c4, c5, c6] := by
    match cs, hl with
    | [c0, c1, c2, c3, c4, c5, c6], _ => exact ⟨c0, c1, c2, c3, c4, c5, c6, rfl⟩
  have k0 : Try.prog.cellsOf 5 = 1 := by kernel_rfl
  have k1 : Try.prog.cellsOf 23 = 4 := by kernel_rfl
  have k2 : Try.prog.cellsOf 3 = 1 := by kernel_rfl
  have k3 : Try.prog.cellsOf 24 = 1 := by kernel_rfl
  have kl : Try.prog.cellsOf 2 = 1 := by kernel_rfl
  have ks' : Try.prog.cellsOf 9 = 1 := by kernel_rfl
  have hlen : xs.length = 4 := hxl
  have g0 := hf 0 _ rfl
  have g1 := hf 1 _ rfl
  have g2 := hf 2 _ rfl
  have g3 := hf 3 _ rfl
  have x0 : xs[0]? = some (xs[0]'(by omega)) := List.getElem?_eq_getElem _
  have x1 : xs[1]? = some (xs[1]'(by omega)) := List.getElem?_eq_getElem _
  have x2 : xs[2]? = some (xs[2]'(by omega)) := List.getElem?_eq_getElem _
  have x3 : xs[3]? = some (xs[3]'(by omega)) := List.getElem?_eq_getElem _
  rw [x0] at g0; rw [x1] at g1; rw [x2] at g2; rw [x3] at g3
  simp [k0, k1, k2, k3] at g0 g1 g2 g3
  obtain ⟨op, e0, _, _⟩ := DataW.trod_int Try.underlying5 g0
  obtain ⟨n, e5, _, _⟩ := DataW.trod_int Try.underlying3 g2
  obtain ⟨ys, n'', _, _, _, hyl, hg⟩ := DataW.trod_struct Try.underlying23 g1
  have hylen : ys.length = 4 := hyl
  have f0 := hg 0 _ rfl
  have f1 := hg 1 _ rfl
  have f2 := hg 2 _ rfl
  have f3 := hg 3 _ rfl
  have y0 : ys[0]? = some (ys[0]'(by omega)) := List.getElem?_eq_getElem _
  have y1 : ys[1]? = some (ys[1]'(by omega)) := List.getElem?_eq_getElem _
  have y2 : ys[2]? = some (ys[2]'(by omega)) := List.getElem?_eq_getElem _
  have y3 : ys[3]? = some (ys[3]'(by omega)) := List.getElem?_eq_getElem _
  rw [y0] at f0; rw [y1] at f1; rw [y2] at f2; rw [y3] at f3
  simp [k0, kl, ks'] at f0 f1 f2 f3
  obtain ⟨k, e1, _, _⟩ := DataW.trod_int Try.underlying5 f0
  obtain ⟨vn, e2, _, _⟩ := DataW.trod_int Try.underlying2 f1
  obtain ⟨hi, e3, _, _⟩ := DataW.trod_int Try.underlying2 f2
  obtain ⟨tx, e4, _, _⟩ := DataW.trod_string Try.underlying9 f3
  simp at e0 e1 e2 e3 e4 e5
  subst e0 e1 e2 e3 e4 e5
  obtain ⟨L, hL⟩ := list_readG ksE trC Try.underlying24 (by kernel_rfl) (by decide) (fun n hn cs x hl h => ih n (by omega) cs x hl h) g3
  have hL := hL (trLs L) fun i c hi _ => trLs_get L i c hi
  refine ⟨⟨op, k, vn, hi, tx, n, L⟩, fun c hc => ?_⟩
  simp only [trC]
  match c, hc with
  | 0, _ => exact ⟨_, rfl, rfl, _, rfl, rfl⟩
  | 1, _ => exact ⟨_, rfl, rfl, _, rfl, rfl⟩
  | 2, _ => exact ⟨_, rfl, rfl, _, rfl, rfl⟩
  | 3, _ => exact ⟨_, rfl, rfl, _, rfl, rfl⟩
  | 4, _ => exact ⟨_, rfl, rfl, _, rfl, rfl⟩
  | 5, _ => exact ⟨_, rfl, rfl, _, rfl, rfl⟩
  | 6, _ => exact ⟨_, rfl, hL, _, rfl, rfl⟩
/-- An expression as an argument. -/
theorem tr_read {fuel : Nat} {cs : Array Value} {x : DataW H × List MemPlace} (hl : cs.size = 7) (h : DataW.trod enc Try.prog w base spare held fuel 26 cs.toList = some x) :
    ∃ t : Tr, @VRel ⟨fun b => w.heap[b]?, false⟩ (fun _ => none) (trA t) (.agg cs) := by
  obtain ⟨cs⟩ := cs
  obtain ⟨c0, c1, c2, c3, c4, c5, c6, rfl⟩ : ∃ c0 c1 c2 c3 c4 c5 c6, cs = [c0, c1, c2, c3, c4, c5, c6] := by
    match cs, hl with
    | [c0, c1, c2, c3, c4, c5, c6], _ => exact ⟨c0, c1, c2, c3, c4, c5, c6, rfl⟩
  obtain ⟨t, ht⟩ := tr_el fuel _ _ rfl h
  obtain ⟨z0, e0, r0, _⟩ := ht 0 (by omega)
  obtain ⟨z1, e1, r1, _⟩ := ht 1 (by omega)
  obtain ⟨z2, e2, r2, _⟩ := ht 2 (by omega)
  obtain ⟨z3, e3, r3, _⟩ := ht 3 (by omega)
  obtain ⟨z4, e4, r4, _⟩ := ht 4 (by omega)
  obtain ⟨z5, e5, r5, _⟩ := ht 5 (by omega)
  obtain ⟨z6, e6, r6, _⟩ := ht 6 (by omega)
  cases e0
  cases e1
  cases e2
  cases e3
  cases e4
  cases e5
  cases e6
  obtain ⟨op, k, vn, hi, tx, n, L⟩ := t
  simp only [trC] at r0 r1 r2 r3 r4 r5 r6
  exact ⟨⟨op, k, vn, hi, tx, n, L⟩, _, rfl, _, _, rfl, r0, _, _, rfl, r1, _, _, rfl, r2, _, _, rfl, r3, _, _, rfl, r4, _, _, rfl, r5, _, _, rfl, ⟨rfl, r6⟩, rfl⟩
theorem vl_el (n : Nat) (cs : List Value) (x : DataW H × List MemPlace) (hl : cs.length = (Rec.ks Vl).length) (h : DataW.trod enc Try.prog w base spare held n 23 cs = some x) : ∃ v : Vl, ∀ c, c < (Rec.ks Vl).length → ∃ z, cs[c]? = some z ∧ Rec.enc v c = .v z := by
  obtain ⟨c1, c2, c3, c4, rfl⟩ : ∃ c1 c2 c3 c4, cs = [c1, c2, c3, c4] := by
    match cs, hl with
    | [c1, c2, c3, c4], _ => exact ⟨c1, c2, c3, c4, rfl⟩
  obtain ⟨ys, n'', _, _, _, hyl, hg⟩ := DataW.trod_struct Try.underlying23 h
  have hylen : ys.length = 4 := hyl
  have k0 : Try.prog.cellsOf 5 = 1 := by kernel_rfl
  have kl : Try.prog.cellsOf 2 = 1 := by kernel_rfl
  have ks' : Try.prog.cellsOf 9 = 1 := by kernel_rfl
  have f0 := hg 0 _ rfl
  have f1 := hg 1 _ rfl
  have f2 := hg 2 _ rfl
  have f3 := hg 3 _ rfl
  have y0 : ys[0]? = some (ys[0]'(by omega)) := List.getElem?_eq_getElem _
  have y1 : ys[1]? = some (ys[1]'(by omega)) := List.getElem?_eq_getElem _
  have y2 : ys[2]? = some (ys[2]'(by omega)) := List.getElem?_eq_getElem _
  have y3 : ys[3]? = some (ys[3]'(by omega)) := List.getElem?_eq_getElem _
  rw [y0] at f0; rw [y1] at f1; rw [y2] at f2; rw [y3] at f3
  simp [k0, kl, ks'] at f0 f1 f2 f3
  obtain ⟨k, e1, _, _⟩ := DataW.trod_int Try.underlying5 f0
  obtain ⟨vn, e2, _, _⟩ := DataW.trod_int Try.underlying2 f1
  obtain ⟨hi, e3, _, _⟩ := DataW.trod_int Try.underlying2 f2
  obtain ⟨tx, e4, _, _⟩ := DataW.trod_string Try.underlying9 f3
  simp at e1 e2 e3 e4
  subst e1 e2 e3 e4
  refine ⟨⟨k, vn, hi, tx⟩, fun c hc => ?_⟩
  match c, hc with
  | 0, _ => exact ⟨_, rfl, rfl⟩
  | 1, _ => exact ⟨_, rfl, rfl⟩
  | 2, _ => exact ⟨_, rfl, rfl⟩
  | 3, _ => exact ⟨_, rfl, rfl⟩
end
end Go.Proofs.Ytengccmjlaejfaa
end
