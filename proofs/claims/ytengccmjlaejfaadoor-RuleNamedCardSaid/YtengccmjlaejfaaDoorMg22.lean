/- An argument that is a list, read as memory that nobody writes. No condition. -/
import Derived.Test.YtengccmjlaejfaaDoorMg12
import Derived.Test.YtengccmjlaejfaaDoorProg
import Derived.KernelRfl
import Derived.WalkKit
import Derived.OpenShut
import Derived.ShutString
import Derived.Deep.Slices
section
namespace Go.Proofs.YtengccmjlaejfaaDoor
open Ev Go.RowKit Go.ChangeShapes Go.WideShapes Go.Deep
set_option maxRecDepth 100000
section
variable {P : Program} {H : Type} {enc : TypeId × Value → H} {w : World} {base : Nat} {spare : Nat → Bool} {held : Bool}
/-- A list of records in memory. -/
theorem list_read {α : Type} [Inhabited α] [Rec α] {tS tE : TypeId} (hu : P.underlying tS = some (.slice tE)) (hC : P.cellsOf tE = (Rec.ks α).length) (hk : 0 < (Rec.ks α).length)
    (hel : ∀ (n : Nat) (cs : List Value) (x : DataW H × List MemPlace), cs.length = (Rec.ks α).length → DataW.trod enc P w base spare held n tE cs = some x → ∃ v : α, ∀ c, c < (Rec.ks α).length → ∃ z, cs[c]? = some z ∧ Rec.enc v c = .v z)
    {fuel : Nat} {y : Value} {x : DataW H × List MemPlace} (hsp : ∀ b, spare b = true) (h : DataW.trod enc P w base spare held fuel tS [y] = some x) :
    ∃ L : List α, @VRel ⟨fun b => w.heap[b]?, false⟩ (fun _ => none) (.fz (eL L) L.length (Rec.ks α)) y := by
  rcases open_slice hu h with ⟨hcs, _⟩ | ⟨ad, len, cap, m, n, D, Pl, hcs, hb, hl, hm, hmm, _, hi⟩
  · simp at hcs
    subst hcs
    refine ⟨[], rfl, ?_⟩
    unfold FzRel
    exact .inl ⟨rfl, none, 0, rfl, fun _ => rfl⟩
  · simp at hcs
    subst hcs
    rcases Nat.eq_zero_or_pos len with h0 | h0
    · subst h0
      refine ⟨[], rfl, ?_⟩
      unfold FzRel
      exact .inl ⟨rfl, some ad, cap, rfl, fun e => by cases e⟩
    rw [hsp, if_pos rfl] at hmm
    subst hmm
    have key : ∀ i, i < m → ∃ v : α, ∀ c, c < (Rec.ks α).length → ∃ z, w.cell? ((ad.add (i * (Rec.ks α).length)).add c) = some z ∧ Rec.enc v c = .v z := by
      intro i him
      obtain ⟨cs', hcs', ht'⟩ := hi i him
      rw [hC] at hcs'
      obtain ⟨_, hcl, hat⟩ := World.cells?_some hcs'
      obtain ⟨v, hv⟩ := hel n cs' _ hcl ht'
      refine ⟨v, fun c hc => ?_⟩
      obtain ⟨z, h1, h2⟩ := hv c hc
      exact ⟨z, by rw [hat c hc]; exact h1, h2⟩
    obtain ⟨v0, hv0⟩ := key 0 (by omega)
    obtain ⟨z0, c0, _⟩ := hv0 0 hk
    rw [Nat.zero_mul] at c0
    have hadd0 : ∀ (q : Addr), q.add 0 = q := fun q => by unfold Addr.add; rw [if_pos rfl]
    rw [hadd0, hadd0] at c0
    have hblk : ∃ C e fr, w.heap[ad.block]? = some (.cells C e fr) ∧ ad.spot = none := by
      unfold World.cell? at c0
      split at c0
      · rename_i C e fr hh
        cases hq : ad.spot with
        | none => exact ⟨C, e, fr, hh, rfl⟩
        | some s => rw [hq] at c0; simp at c0
      · simp at c0
    obtain ⟨C, e, fr, hheap, hspot⟩ := hblk
    obtain ⟨b, o, sp⟩ := ad
    simp only at hspot hheap
    subst hspot
    have haddn : ∀ i j, ((⟨b, o, none⟩ : Addr).add i).add j = ⟨b, o + (i + j), none⟩ := fun i j => by letI : Fz := ⟨fun _ => none, true⟩; rw [add_at, add_at, Nat.add_assoc]
    have hcell : ∀ i, i < m → ∃ v : α, ∀ c, c < (Rec.ks α).length → ∃ z, C[o + (i * (Rec.ks α).length + c)]? = some z ∧ Rec.enc v c = .v z := fun i him => by
      obtain ⟨v, hv⟩ := key i him
      refine ⟨v, fun c hc => ?_⟩
      obtain ⟨z, h1, h2⟩ := hv c hc
      rw [haddn] at h1
      exact ⟨z, by rw [← h1]; simp [World.cell?, hheap], h2⟩
    let l : Nat → α := fun i => if h : i < m then (hcell i h).choose else default
    have hl' : ∀ i, i < m → ∀ c, c < (Rec.ks α).length → ∃ z, C[o + (i * (Rec.ks α).length + c)]? = some z ∧ Rec.enc (l i) c = .v z := fun i him c hc => by
      have := (hcell i him).choose_spec c hc
      have e : l i = (hcell i him).choose := by simp [l, him]
      rw [e]; exact this
    have hsize : o + len * (Rec.ks α).length ≤ C.size := by
      obtain ⟨z, h1, _⟩ := hl' (len - 1) (by omega) ((Rec.ks α).length - 1) (by omega)
      have := (Array.getElem?_eq_some_iff.1 h1).1
      have e : len * (Rec.ks α).length = (len - 1) * (Rec.ks α).length + (Rec.ks α).length := by
        obtain ⟨q, rfl⟩ : ∃ q, len = q + 1 := ⟨len - 1, by omega⟩
        rw [Nat.add_sub_cancel, Nat.add_mul, Nat.one_mul]
      omega
    refine ⟨(List.range len).map l, rfl, ?_⟩
    have hlen : ((List.range len).map l).length = len := by simp
    rw [hlen]
    unfold FzRel
    refine .inr ⟨b, o, m, C, e, fr, rfl, hl, hheap, ⟨hsize, by unfold maxLen at hm; omega⟩, fun i c hi' hc => ?_⟩
    have eL' : eL ((List.range len).map l) i c = Rec.enc (l i) c := by
      unfold eL
      rw [show ((List.range len).map l).getD i default = l i by simp [List.getD_eq_getElem?_getD, hi']]
    obtain ⟨z, h1, h2⟩ := hl' i (by omega) c hc
    rw [eL', h2]
    refine ⟨⟨(Rec.ks α)[c], by simp [hc], ?_⟩, z, h1, rfl⟩
    have := Rec.fit (l i) c (Rec.ks α)[c] (by simp [hc])
    rw [h2] at this; exact this
theorem str_el {tE : TypeId} (hu : P.underlying tE = some .string) (n : Nat) (cs : List Value) (x : DataW H × List MemPlace) (hl : cs.length = (Rec.ks ByteArray).length) (h : DataW.trod enc P w base spare held n tE cs = some x) : ∃ v : ByteArray, ∀ c, c < (Rec.ks ByteArray).length → ∃ z, cs[c]? = some z ∧ Rec.enc v c = .v z := by
  obtain ⟨s, rfl, _, _⟩ := DataW.trod_string hu h
  refine ⟨s, fun c hc => ?_⟩
  have : c = 0 := by simp [Rec.ks] at hc; omega
  subst this
  exact ⟨_, rfl, rfl⟩
theorem pair_el {tE tS : TypeId} (hu : P.underlying tE = some (.array 2 tS)) (hs : P.underlying tS = some .string) (hC : P.cellsOf tS = 1) (n : Nat) (cs : List Value) (x : DataW H × List MemPlace) (hl : cs.length = (Rec.ks (ByteArray × ByteArray)).length) (h : DataW.trod enc P w base spare held n tE cs = some x) : ∃ v : ByteArray × ByteArray, ∀ c, c < (Rec.ks (ByteArray × ByteArray)).length → ∃ z, cs[c]? = some z ∧ Rec.enc v c = .v z := by
  obtain ⟨xs, m, _, _, hcl, hxl, hx⟩ := DataW.trod_array hu h
  have hl2 : cs.length = 2 := hl
  have g0 := hx 0 (by omega)
  have g1 := hx 1 (by omega)
  rw [hC] at g0 g1
  have x0 : xs[0]? = some (xs[0]'(by omega)) := List.getElem?_eq_getElem _
  have x1 : xs[1]? = some (xs[1]'(by omega)) := List.getElem?_eq_getElem _
  rw [x0] at g0; rw [x1] at g1
  obtain ⟨s0, e0, _, _⟩ := DataW.trod_string hs g0
  obtain ⟨s1, e1, _, _⟩ := DataW.trod_string hs g1
  obtain ⟨a, b, rfl⟩ : ∃ a b, cs = [a, b] := by
    match cs, hl2 with
    | [a, b], _ => exact ⟨a, b, rfl⟩
  simp at e0 e1
  subst e0 e1
  refine ⟨(s0, s1), fun c hc => ?_⟩
  match c, hc with
  | 0, _ => exact ⟨_, rfl, rfl⟩
  | 1, _ => exact ⟨_, rfl, rfl⟩
  | c + 2, hc => simp [Rec.ks] at hc; omega
end
end Go.Proofs.YtengccmjlaejfaaDoor
end
section
namespace Go.Proofs.YtengccmjlaejfaaDoor
open Ev Go.RowKit Go.ChangeShapes Go.WideShapes Go.Deep
set_option maxRecDepth 100000
set_option linter.unusedVariables false
section
variable {H : Type} {enc : TypeId × Value → H} {w : World} {base : Nat} {spare : Nat → Bool} {held : Bool}
/-- A list in memory, its elements read each by itself. -/
theorem list_readG {P : Program} {α : Type} [Inhabited α] {tS tE : TypeId} (ks : List TK) (en : α → Nat → D) (hu : P.underlying tS = some (.slice tE)) (hC : P.cellsOf tE = ks.length) (hk : 0 < ks.length)
    {fuel : Nat} {y : Value} {x : DataW H × List MemPlace}
    (hel : ∀ (n : Nat), n < fuel → ∀ (cs : List Value) (x : DataW H × List MemPlace), cs.length = ks.length → DataW.trod enc P w base spare held n tE cs = some x → ∃ v : α, ∀ c, c < ks.length → ∃ z, cs[c]? = some z ∧ @FzRel ⟨fun b => w.heap[b]?, false⟩ (en v c) z ∧ ∃ tk, ks[c]? = some tk ∧ tk.fit (en v c) = true)
    (h : DataW.trod enc P w base spare held fuel tS [y] = some x) :
    ∃ L : List α, ∀ F : Nat → Nat → D, (∀ i c, i < L.length → c < ks.length → F i c = en (L.getD i default) c) → @FzRel ⟨fun b => w.heap[b]?, false⟩ (.l F L.length ks) y := by
  rcases DataW.trod_slice hu h with ⟨hcs, _⟩ | ⟨ad, len, cap, elems, rest, n, hfu, hcs, _, hb, hl, hm, hlen, hi, _⟩
  · simp at hcs
    subst hcs
    refine ⟨[], fun F _ => ?_⟩
    unfold FzRel
    exact .inl ⟨rfl, none, 0, rfl, fun _ => rfl⟩
  · simp at hcs
    subst hcs
    rcases Nat.eq_zero_or_pos len with h0 | h0
    · refine ⟨[], fun F _ => ?_⟩
      unfold FzRel
      exact .inl ⟨rfl, some ad, cap, by rw [h0], fun e => by cases e⟩
    have key : ∀ i, i < len → ∃ v : α, ∀ c, c < ks.length → ∃ z, w.cell? ((ad.add (i * ks.length)).add c) = some z ∧ @FzRel ⟨fun b => w.heap[b]?, false⟩ (en v c) z ∧ ∃ tk, ks[c]? = some tk ∧ tk.fit (en v c) = true := by
      intro i him
      have hx := hi i him
      rw [hC] at hx
      have hsome : elems[i]? = some (elems[i]'(by omega)) := List.getElem?_eq_getElem _
      rw [hsome] at hx
      cases hcs' : w.cells? base (ad.add (i * ks.length)) ks.length with
      | none => rw [hcs'] at hx; cases hx
      | some cs' =>
      rw [hcs'] at hx
      have ht' : DataW.trod enc P w base spare held n tE cs' = some (elems[i]'(by omega)) := hx
      obtain ⟨_, hcl, hat⟩ := World.cells?_some hcs'
      obtain ⟨v, hv⟩ := hel n (by omega) cs' _ hcl ht'
      refine ⟨v, fun c hc => ?_⟩
      obtain ⟨z, h1, h2⟩ := hv c hc
      exact ⟨z, by rw [hat c hc]; exact h1, h2⟩
    obtain ⟨v0, hv0⟩ := key 0 (by omega)
    obtain ⟨z0, c0, _⟩ := hv0 0 hk
    rw [Nat.zero_mul] at c0
    have hadd0 : ∀ (q : Addr), q.add 0 = q := fun q => by unfold Addr.add; rw [if_pos rfl]
    rw [hadd0, hadd0] at c0
    have hblk : ∃ C e fr, w.heap[ad.block]? = some (.cells C e fr) ∧ ad.spot = none := by
      unfold World.cell? at c0
      split at c0
      · rename_i C e fr hh
        cases hq : ad.spot with
        | none => exact ⟨C, e, fr, hh, rfl⟩
        | some s => rw [hq] at c0; simp at c0
      · simp at c0
    obtain ⟨C, e, fr, hheap, hspot⟩ := hblk
    obtain ⟨b, o, sp⟩ := ad
    simp only at hspot hheap
    subst hspot
    have haddn : ∀ i j, ((⟨b, o, none⟩ : Addr).add i).add j = ⟨b, o + (i + j), none⟩ := fun i j => by letI : Fz := ⟨fun _ => none, true⟩; rw [add_at, add_at, Nat.add_assoc]
    have hcell : ∀ i, i < len → ∃ v : α, ∀ c, c < ks.length → ∃ z, C[o + (i * ks.length + c)]? = some z ∧ @FzRel ⟨fun b => w.heap[b]?, false⟩ (en v c) z ∧ ∃ tk, ks[c]? = some tk ∧ tk.fit (en v c) = true := fun i him => by
      obtain ⟨v, hv⟩ := key i him
      refine ⟨v, fun c hc => ?_⟩
      obtain ⟨z, h1, h2⟩ := hv c hc
      rw [haddn] at h1
      exact ⟨z, by rw [← h1]; simp [World.cell?, hheap], h2⟩
    let l : Nat → α := fun i => if h : i < len then (hcell i h).choose else default
    have hl' : ∀ i, i < len → ∀ c, c < ks.length → ∃ z, C[o + (i * ks.length + c)]? = some z ∧ @FzRel ⟨fun b => w.heap[b]?, false⟩ (en (l i) c) z ∧ ∃ tk, ks[c]? = some tk ∧ tk.fit (en (l i) c) = true := fun i him c hc => by
      have := (hcell i him).choose_spec c hc
      have e : l i = (hcell i him).choose := by simp [l, him]
      rw [e]; exact this
    have hsize : o + len * ks.length ≤ C.size := by
      obtain ⟨z, h1, _⟩ := hl' (len - 1) (by omega) (ks.length - 1) (by omega)
      have := (Array.getElem?_eq_some_iff.1 h1).1
      have e : len * ks.length = (len - 1) * ks.length + ks.length := by
        obtain ⟨q, rfl⟩ : ∃ q, len = q + 1 := ⟨len - 1, by omega⟩
        rw [Nat.add_sub_cancel, Nat.add_mul, Nat.one_mul]
      omega
    refine ⟨(List.range len).map l, fun F hF => ?_⟩
    have hlen' : ((List.range len).map l).length = len := by simp
    rw [hlen'] at hF ⊢
    unfold FzRel
    refine .inr ⟨b, o, cap, C, e, fr, rfl, hl, hheap, ⟨hsize, by unfold maxLen at hm; omega⟩, fun i c hi' hc => ?_⟩
    rw [hF i c hi' hc, show ((List.range len).map l).getD i default = l i by simp [List.getD_eq_getElem?_getD, hi']]
    obtain ⟨z, h1, h2, h3⟩ := hl' i hi' c hc
    exact ⟨h3, z, h1, h2⟩
theorem trLs_get : ∀ (L : List Tr) (i c : Nat), i < L.length → trLs L i c = trC (L.getD i default) c
  | [], i, c, h => by simp at h
  | a :: r, 0, c, h => by simp only [trLs]; rfl
  | a :: r, i + 1, c, h => by
    have := trLs_get r i c (by simpa using h)
    simp only [trLs]
    rw [this, List.getD_cons_succ]
theorem tr_el : ∀ (fuel : Nat) (cs : List Value) (x : DataW H × List MemPlace), cs.length = 7 → DataW.trod enc Tryd.prog w base spare held fuel 38 cs = some x → ∃ t : Tr, ∀ c, c < 7 → ∃ z, cs[c]? = some z ∧ @FzRel ⟨fun b => w.heap[b]?, false⟩ (trC t c) z ∧ ∃ tk, ksE[c]? = some tk ∧ tk.fit (trC t c) = true := by
  intro fuel
  induction fuel using Nat.strongRecOn with
  | _ fuel ih =>
  intro cs x hl h
  obtain ⟨xs, n', hfu, _, _, hxl, hf⟩ := DataW.trod_struct Tryd.underlying38 h
  obtain ⟨c0, c1, c2, c3, c4, c5, c6, rfl⟩ : ∃ c0 c1 c2 c3 c4 c5 c6, cs = [c0, c1, c2, c3, c4, c5, c6] := by
    match cs, hl with
    | [c0, c1, c2, c3, c4, c5, c6], _ => exact ⟨c0, c1, c2, c3, c4, c5, c6, rfl⟩
  have k0 : Tryd.prog.cellsOf 5 = 1 := by kernel_rfl
  have k1 : Tryd.prog.cellsOf 31 = 4 := by kernel_rfl
  have k2 : Tryd.prog.cellsOf 3 = 1 := by kernel_rfl
  have k3 : Tryd.prog.cellsOf 36 = 1 := by kernel_rfl
  have kl : Tryd.prog.cellsOf 2 = 1 := by kernel_rfl
  have ks' : Tryd.prog.cellsOf 9 = 1 := by kernel_rfl
  have hlen : xs.length = 4 := hxl
  have g0 := hf 0 _ rfl
  have g1 := hf 1 _ rfl
  have g2 := hf 2 _ rfl
  have g3 := hf 3 _ rfl
  have x0 : xs[0]? = some (xs[0]'(by omega)) := List.getElem?_eq_getElem _
  have x1 : xs[1]? = some (xs[1]'(by omega)) := List.getElem?_eq_getElem _
  have x2 : xs[2]? = some (xs[2]'(by omega)) := List.getElem?_eq_getElem _
  have x3 : xs[3]? = some (xs[3]'(by omega)) := List.getElem?_eq_getElem _
  rw [x0] at g0; rw [x1] at g1; rw [x2] at g2; rw [x3] at g3
  simp [k0, k1, k2, k3] at g0 g1 g2 g3
  obtain ⟨op, e0, _, _⟩ := DataW.trod_int Tryd.underlying5 g0
  obtain ⟨n, e5, _, _⟩ := DataW.trod_int Tryd.underlying3 g2
  obtain ⟨ys, n'', _, _, _, hyl, hg⟩ := DataW.trod_struct Tryd.underlying31 g1
  have hylen : ys.length = 4 := hyl
  have f0 := hg 0 _ rfl
  have f1 := hg 1 _ rfl
  have f2 := hg 2 _ rfl
  have f3 := hg 3 _ rfl
  have y0 : ys[0]? = some (ys[0]'(by omega)) := List.getElem?_eq_getElem _
  have y1 : ys[1]? = some (ys[1]'(by omega)) := List.getElem?_eq_getElem _
  have y2 : ys[2]? = some (ys[2]'(by omega)) := List.getElem?_eq_getElem _
  have y3 : ys[3]? = some (ys[3]'(by omega)) := List.getElem?_eq_getElem _
  rw [y0] at f0; rw [y1] at f1; rw [y2] at f2; rw [y3] at f3
  simp [k0, kl, ks'] at f0 f1 f2 f3
  obtain ⟨k, e1, _, _⟩ := DataW.trod_int Tryd.underlying5 f0
  obtain ⟨vn, e2, _, _⟩ := DataW.trod_int Tryd.underlying2 f1
  obtain ⟨hi, e3, _, _⟩ := DataW.trod_int Tryd.underlying2 f2
  obtain ⟨tx, e4, _, _⟩ := DataW.trod_string Tryd.underlying9 f3
  simp at e0 e1 e2 e3 e4 e5
  subst e0 e1 e2 e3 e4 e5
  obtain ⟨L, hL⟩ := list_readG ksE trC Tryd.underlying36 (by kernel_rfl) (by decide) (fun n hn cs x hl h => ih n (by omega) cs x hl h) g3
  have hL := hL (trLs L) fun i c hi _ => trLs_get L i c hi
  refine ⟨⟨op, k, vn, hi, tx, n, L⟩, fun c hc => ?_⟩
  simp only [trC]
  match c, hc with
  | 0, _ => exact ⟨_, rfl, rfl, _, rfl, rfl⟩
  | 1, _ => exact ⟨_, rfl, rfl, _, rfl, rfl⟩
  | 2, _ => exact ⟨_, rfl, rfl, _, rfl, rfl⟩
  | 3, _ => exact ⟨_, rfl, rfl, _, rfl, rfl⟩
  | 4, _ => exact ⟨_, rfl, rfl, _, rfl, rfl⟩
  | 5, _ => exact ⟨_, rfl, rfl, _, rfl, rfl⟩
  | 6, _ => exact ⟨_, rfl, hL, _, rfl, rfl⟩
/-- An expression as an argument. -/
theorem tr_read {fuel : Nat} {cs : Array Value} {x : DataW H × List MemPlace} (hl : cs.size = 7) (h : DataW.trod enc Tryd.prog w base spare held fuel 38 cs.toList = some x) :
    ∃ t : Tr, @VRel ⟨fun b => w.heap[b]?, false⟩ (fun _ => none) (trA t) (.agg cs) := by
  obtain ⟨cs⟩ := cs
  obtain ⟨c0, c1, c2, c3, c4, c5, c6, rfl⟩ : ∃ c0 c1 c2 c3 c4 c5 c6, cs = [c0, c1, c2, c3, c4, c5, c6] := by
    match cs, hl with
    | [c0, c1, c2, c3, c4, c5, c6], _ => exact ⟨c0, c1, c2, c3, c4, c5, c6, rfl⟩
  obtain ⟨t, ht⟩ := tr_el fuel _ _ rfl h
  obtain ⟨z0, e0, r0, _⟩ := ht 0 (by omega)
  obtain ⟨z1, e1, r1, _⟩ := ht 1 (by omega)
  obtain ⟨z2, e2, r2, _⟩ := ht 2 (by omega)
  obtain ⟨z3, e3, r3, _⟩ := ht 3 (by omega)
  obtain ⟨z4, e4, r4, _⟩ := ht 4 (by omega)
  obtain ⟨z5, e5, r5, _⟩ := ht 5 (by omega)
  obtain ⟨z6, e6, r6, _⟩ := ht 6 (by omega)
  cases e0
  cases e1
  cases e2
  cases e3
  cases e4
  cases e5
  cases e6
  obtain ⟨op, k, vn, hi, tx, n, L⟩ := t
  simp only [trC] at r0 r1 r2 r3 r4 r5 r6
  exact ⟨⟨op, k, vn, hi, tx, n, L⟩, _, rfl, _, _, rfl, r0, _, _, rfl, r1, _, _, rfl, r2, _, _, rfl, r3, _, _, rfl, r4, _, _, rfl, r5, _, _, rfl, ⟨rfl, r6⟩, rfl⟩
theorem vl_el (n : Nat) (cs : List Value) (x : DataW H × List MemPlace) (hl : cs.length = (Rec.ks Vl).length) (h : DataW.trod enc Tryd.prog w base spare held n 31 cs = some x) : ∃ v : Vl, ∀ c, c < (Rec.ks Vl).length → ∃ z, cs[c]? = some z ∧ Rec.enc v c = .v z := by
  obtain ⟨c1, c2, c3, c4, rfl⟩ : ∃ c1 c2 c3 c4, cs = [c1, c2, c3, c4] := by
    match cs, hl with
    | [c1, c2, c3, c4], _ => exact ⟨c1, c2, c3, c4, rfl⟩
  obtain ⟨ys, n'', _, _, _, hyl, hg⟩ := DataW.trod_struct Tryd.underlying31 h
  have hylen : ys.length = 4 := hyl
  have k0 : Tryd.prog.cellsOf 5 = 1 := by kernel_rfl
  have kl : Tryd.prog.cellsOf 2 = 1 := by kernel_rfl
  have ks' : Tryd.prog.cellsOf 9 = 1 := by kernel_rfl
  have f0 := hg 0 _ rfl
  have f1 := hg 1 _ rfl
  have f2 := hg 2 _ rfl
  have f3 := hg 3 _ rfl
  have y0 : ys[0]? = some (ys[0]'(by omega)) := List.getElem?_eq_getElem _
  have y1 : ys[1]? = some (ys[1]'(by omega)) := List.getElem?_eq_getElem _
  have y2 : ys[2]? = some (ys[2]'(by omega)) := List.getElem?_eq_getElem _
  have y3 : ys[3]? = some (ys[3]'(by omega)) := List.getElem?_eq_getElem _
  rw [y0] at f0; rw [y1] at f1; rw [y2] at f2; rw [y3] at f3
  simp [k0, kl, ks'] at f0 f1 f2 f3
  obtain ⟨k, e1, _, _⟩ := DataW.trod_int Tryd.underlying5 f0
  obtain ⟨vn, e2, _, _⟩ := DataW.trod_int Tryd.underlying2 f1
  obtain ⟨hi, e3, _, _⟩ := DataW.trod_int Tryd.underlying2 f2
  obtain ⟨tx, e4, _, _⟩ := DataW.trod_string Tryd.underlying9 f3
  simp at e1 e2 e3 e4
  subst e1 e2 e3 e4
  refine ⟨⟨k, vn, hi, tx⟩, fun c hc => ?_⟩
  match c, hc with
  | 0, _ => exact ⟨_, rfl, rfl⟩
  | 1, _ => exact ⟨_, rfl, rfl⟩
  | 2, _ => exact ⟨_, rfl, rfl⟩
  | 3, _ => exact ⟨_, rfl, rfl⟩
end
/-- A call of what always answers true. -/
theorem o_calls {f : FuncId} {W : World} {vs : Array Value} {args : List AV} (hc : OCalls Tryd.prog f args (.s (.bool true)) []) (h : @VRels ⟨fun b => W.heap[b]?, false⟩ (fun _ => none) args vs.toList) :
    Calls Tryd.prog f vs W fun e w' => e = .returned (.bool true) ∧ Fr noB W w' := by
  refine (hc _ W vs (fun b o e => e) h).mono ?_
  rintro e w' ⟨y, ρ', rfl, hf, hy, _⟩
  exact ⟨by rw [show y = .bool true from hy], hf⟩
end Go.Proofs.YtengccmjlaejfaaDoor
end
section
namespace Go.Proofs.YtengccmjlaejfaaDoor
open Ev Go.RowKit Go.ChangeShapes Go.WideShapes Go.Deep
set_option maxRecDepth 100000
set_option linter.unusedVariables false
section
variable {H : Type} {enc : TypeId × Value → H} {w : World} {base : Nat} {spare : Nat → Bool} {held : Bool}
theorem cl_el (n : Nat) (cs : List Value) (x : DataW H × List MemPlace) (hl : cs.length = (Rec.ks Cl).length) (h : DataW.trod enc Tryd.prog w base spare held n 33 cs = some x) : ∃ v : Cl, ∀ c, c < (Rec.ks Cl).length → ∃ z, cs[c]? = some z ∧ Rec.enc v c = .v z := by
  obtain ⟨c0, c1, c2, c3, c4, c5, rfl⟩ : ∃ c0 c1 c2 c3 c4 c5, cs = [c0, c1, c2, c3, c4, c5] := by
    match cs, hl with
    | [c0, c1, c2, c3, c4, c5], _ => exact ⟨c0, c1, c2, c3, c4, c5, rfl⟩
  obtain ⟨xs, n', _, _, _, hxl, hf⟩ := DataW.trod_struct Tryd.underlying33 h
  have hlen : xs.length = 3 := hxl
  have k0 : Tryd.prog.cellsOf 5 = 1 := by kernel_rfl
  have k1 : Tryd.prog.cellsOf 31 = 4 := by kernel_rfl
  have ks' : Tryd.prog.cellsOf 9 = 1 := by kernel_rfl
  have g0 := hf 0 _ rfl
  have g1 := hf 1 _ rfl
  have g2 := hf 2 _ rfl
  have x0 : xs[0]? = some (xs[0]'(by omega)) := List.getElem?_eq_getElem _
  have x1 : xs[1]? = some (xs[1]'(by omega)) := List.getElem?_eq_getElem _
  have x2 : xs[2]? = some (xs[2]'(by omega)) := List.getElem?_eq_getElem _
  rw [x0] at g0; rw [x1] at g1; rw [x2] at g2
  simp [k0, k1, ks'] at g0 g1 g2
  obtain ⟨nm, e0, _, _⟩ := DataW.trod_string Tryd.underlying9 g0
  obtain ⟨ty, e1, _, _⟩ := DataW.trod_int Tryd.underlying5 g1
  obtain ⟨v, hv⟩ := vl_el _ _ _ rfl g2
  simp at e0 e1
  subst e0 e1
  obtain ⟨z2, d2, r2⟩ := hv 0 (by decide)
  obtain ⟨z3, d3, r3⟩ := hv 1 (by decide)
  obtain ⟨z4, d4, r4⟩ := hv 2 (by decide)
  obtain ⟨z5, d5, r5⟩ := hv 3 (by decide)
  cases d2
  cases d3
  cases d4
  cases d5
  refine ⟨⟨nm, ty, v⟩, fun c hc => ?_⟩
  match c, hc with
  | 0, _ => exact ⟨_, rfl, rfl⟩
  | 1, _ => exact ⟨_, rfl, rfl⟩
  | 2, _ => exact ⟨_, rfl, r2⟩
  | 3, _ => exact ⟨_, rfl, r3⟩
  | 4, _ => exact ⟨_, rfl, r4⟩
  | 5, _ => exact ⟨_, rfl, r5⟩
end
end Go.Proofs.YtengccmjlaejfaaDoor
end
section
namespace Go.Proofs.YtengccmjlaejfaaDoor
open Ev Go.RowKit Go.ChangeShapes Go.WideShapes Go.Deep
set_option maxRecDepth 100000
set_option linter.unusedVariables false
section
variable {H : Type} {enc : TypeId × Value → H} {w : World} {base : Nat} {spare : Nat → Bool} {held : Bool}
theorem int_el (n : Nat) (cs : List Value) (x : DataW H × List MemPlace) (hl : cs.length = (Rec.ks Int).length) (h : DataW.trod enc Tryd.prog w base spare held n 3 cs = some x) : ∃ v : Int, ∀ c, c < (Rec.ks Int).length → ∃ z, cs[c]? = some z ∧ Rec.enc v c = .v z := by
  obtain ⟨c1, rfl⟩ : ∃ c1, cs = [c1] := by
    match cs, hl with
    | [c1], _ => exact ⟨c1, rfl⟩
  obtain ⟨k, e1, _, _⟩ := DataW.trod_int Tryd.underlying3 h
  simp at e1
  subst e1
  refine ⟨k, fun c hc => ?_⟩
  match c, hc with
  | 0, _ => exact ⟨_, rfl, rfl⟩
theorem ta_read {fuel : Nat} {cs : Array Value} {x : DataW H × List MemPlace} (hl : cs.size = 3) (hsp : ∀ b, spare b = true) (h : DataW.trod enc Tryd.prog w base spare held fuel 27 cs.toList = some x) :
    ∃ t : Ta, @VRel ⟨fun b => w.heap[b]?, false⟩ (fun _ => none) (taA t) (.agg cs) := by
  obtain ⟨cs⟩ := cs
  obtain ⟨c0, c1, c2, rfl⟩ : ∃ c0 c1 c2, cs = [c0, c1, c2] := by
    match cs, hl with
    | [c0, c1, c2], _ => exact ⟨c0, c1, c2, rfl⟩
  obtain ⟨xs, n', _, _, _, hxl, hf⟩ := DataW.trod_struct Tryd.underlying27 h
  have hlen : xs.length = 3 := hxl
  have k0 : Tryd.prog.cellsOf 25 = 1 := by kernel_rfl
  have ks' : Tryd.prog.cellsOf 9 = 1 := by kernel_rfl
  have g0 := hf 0 _ rfl
  have g1 := hf 1 _ rfl
  have g2 := hf 2 _ rfl
  have x0 : xs[0]? = some (xs[0]'(by omega)) := List.getElem?_eq_getElem _
  have x1 : xs[1]? = some (xs[1]'(by omega)) := List.getElem?_eq_getElem _
  have x2 : xs[2]? = some (xs[2]'(by omega)) := List.getElem?_eq_getElem _
  rw [x0] at g0; rw [x1] at g1; rw [x2] at g2
  simp [k0, ks'] at g0 g1 g2
  obtain ⟨nm, e0, _, _⟩ := DataW.trod_string Tryd.underlying9 g0
  obtain ⟨ow, e2, _, _⟩ := DataW.trod_string Tryd.underlying9 g2
  simp at e0 e2
  subst e0 e2
  obtain ⟨L, hL⟩ := list_read (α := Cl) Tryd.underlying25 (by kernel_rfl) (by decide) cl_el hsp g1
  exact ⟨⟨nm, L, ow⟩, _, rfl, _, _, rfl, rfl, _, _, rfl, hL, _, _, rfl, rfl, rfl⟩
theorem co_read {fuel : Nat} {cs : Array Value} {x : DataW H × List MemPlace} (hl : cs.size = 6) (hsp : ∀ b, spare b = true) (h : DataW.trod enc Tryd.prog w base spare held fuel 33 cs.toList = some x) :
    ∃ c : Cl, @VRel ⟨fun b => w.heap[b]?, false⟩ (fun _ => none) (.agg [.s (.string c.nm), .s (.int .u8 c.ty), .s (.int .u8 c.by1.k), .s (.int .i64 c.by1.n), .s (.int .i64 c.by1.hi), .s (.string c.by1.t)]) (.agg cs) := by
  obtain ⟨cs⟩ := cs
  obtain ⟨c0, c1, c2, c3, c4, c5, rfl⟩ : ∃ c0 c1 c2 c3 c4 c5, cs = [c0, c1, c2, c3, c4, c5] := by
    match cs, hl with
    | [c0, c1, c2, c3, c4, c5], _ => exact ⟨c0, c1, c2, c3, c4, c5, rfl⟩
  obtain ⟨c, hc⟩ := cl_el fuel _ _ rfl h
  obtain ⟨z0, e0, d0⟩ := hc 0 (by decide)
  obtain ⟨z1, e1, d1⟩ := hc 1 (by decide)
  obtain ⟨z2, e2, d2⟩ := hc 2 (by decide)
  obtain ⟨z3, e3, d3⟩ := hc 3 (by decide)
  obtain ⟨z4, e4, d4⟩ := hc 4 (by decide)
  obtain ⟨z5, e5, d5⟩ := hc 5 (by decide)
  cases e0; cases e1; cases e2; cases e3; cases e4; cases e5
  cases d0; cases d1; cases d2; cases d3; cases d4; cases d5
  exact ⟨c, _, rfl, _, _, rfl, rfl, _, _, rfl, rfl, _, _, rfl, rfl, _, _, rfl, rfl, _, _, rfl, rfl, _, _, rfl, rfl, rfl⟩
theorem rl_read {fuel : Nat} {cs : Array Value} {x : DataW H × List MemPlace} (hl : cs.size = 16) (hsp : ∀ b, spare b = true) (h : DataW.trod enc Tryd.prog w base spare held fuel 40 cs.toList = some x) :
    ∃ t : Ru, @VRel ⟨fun b => w.heap[b]?, false⟩ (fun _ => none) (ruA t) (.agg cs) := by
  obtain ⟨cs⟩ := cs
  obtain ⟨c0, c1, c2, c3, c4, c5, c6, c7, c8, c9, c10, c11, c12, c13, c14, c15, rfl⟩ : ∃ c0 c1 c2 c3 c4 c5 c6 c7 c8 c9 c10 c11 c12 c13 c14 c15, cs = [c0, c1, c2, c3, c4, c5, c6, c7, c8, c9, c10, c11, c12, c13, c14, c15] := by
    match cs, hl with
    | [c0, c1, c2, c3, c4, c5, c6, c7, c8, c9, c10, c11, c12, c13, c14, c15], _ => exact ⟨c0, c1, c2, c3, c4, c5, c6, c7, c8, c9, c10, c11, c12, c13, c14, c15, rfl⟩
  obtain ⟨xs, n', _, _, _, hxl, hf⟩ := DataW.trod_struct Tryd.underlying40 h
  have hlen : xs.length = 10 := hxl
  have k0 : Tryd.prog.cellsOf 5 = 1 := by kernel_rfl
  have ks' : Tryd.prog.cellsOf 9 = 1 := by kernel_rfl
  have k1 : Tryd.prog.cellsOf 35 = 1 := by kernel_rfl
  have k2 : Tryd.prog.cellsOf 38 = 7 := by kernel_rfl
  have k3 : Tryd.prog.cellsOf 4 = 1 := by kernel_rfl
  have g0 := hf 0 _ rfl
  have g1 := hf 1 _ rfl
  have g2 := hf 2 _ rfl
  have g3 := hf 3 _ rfl
  have g4 := hf 4 _ rfl
  have g5 := hf 5 _ rfl
  have g6 := hf 6 _ rfl
  have g7 := hf 7 _ rfl
  have g8 := hf 8 _ rfl
  have g9 := hf 9 _ rfl
  have x0 : xs[0]? = some (xs[0]'(by omega)) := List.getElem?_eq_getElem _
  have x1 : xs[1]? = some (xs[1]'(by omega)) := List.getElem?_eq_getElem _
  have x2 : xs[2]? = some (xs[2]'(by omega)) := List.getElem?_eq_getElem _
  have x3 : xs[3]? = some (xs[3]'(by omega)) := List.getElem?_eq_getElem _
  have x4 : xs[4]? = some (xs[4]'(by omega)) := List.getElem?_eq_getElem _
  have x5 : xs[5]? = some (xs[5]'(by omega)) := List.getElem?_eq_getElem _
  have x6 : xs[6]? = some (xs[6]'(by omega)) := List.getElem?_eq_getElem _
  have x7 : xs[7]? = some (xs[7]'(by omega)) := List.getElem?_eq_getElem _
  have x8 : xs[8]? = some (xs[8]'(by omega)) := List.getElem?_eq_getElem _
  have x9 : xs[9]? = some (xs[9]'(by omega)) := List.getElem?_eq_getElem _
  rw [x0] at g0; rw [x1] at g1; rw [x2] at g2; rw [x3] at g3; rw [x4] at g4; rw [x5] at g5; rw [x6] at g6; rw [x7] at g7; rw [x8] at g8; rw [x9] at g9
  simp [k0, ks', k1, k2, k3] at g0 g1 g2 g3 g4 g5 g6 g7 g8 g9
  obtain ⟨k, e0, _, _⟩ := DataW.trod_int Tryd.underlying5 g0
  obtain ⟨nm, e1, _, _⟩ := DataW.trod_string Tryd.underlying9 g1
  obtain ⟨tb, e2, _, _⟩ := DataW.trod_string Tryd.underlying9 g2
  obtain ⟨rf, e5, _, _⟩ := DataW.trod_string Tryd.underlying9 g5
  obtain ⟨od, e6, _, _⟩ := DataW.trod_int Tryd.underlying5 g6
  obtain ⟨ou, e7, _, _⟩ := DataW.trod_int Tryd.underlying5 g7
  obtain ⟨lt, e8, _⟩ := DataW.trod_bool Tryd.underlying4 g8
  obtain ⟨vd, e9, _⟩ := DataW.trod_bool Tryd.underlying4 g9
  simp at e0 e1 e2 e5 e6 e7 e8 e9
  subst e0 e1 e2 e5 e6 e7 e8 e9
  obtain ⟨L, hL⟩ := list_read (α := Int) Tryd.underlying35 (by kernel_rfl) (by decide) int_el hsp g3
  obtain ⟨t, ht⟩ := tr_el _ _ _ rfl g4
  obtain ⟨z0, y0, r0, _⟩ := ht 0 (by omega)
  obtain ⟨z1, y1, r1, _⟩ := ht 1 (by omega)
  obtain ⟨z2, y2, r2, _⟩ := ht 2 (by omega)
  obtain ⟨z3, y3, r3, _⟩ := ht 3 (by omega)
  obtain ⟨z4, y4, r4, _⟩ := ht 4 (by omega)
  obtain ⟨z5, y5, r5, _⟩ := ht 5 (by omega)
  obtain ⟨z6, y6, r6, _⟩ := ht 6 (by omega)
  cases y0
  cases y1
  cases y2
  cases y3
  cases y4
  cases y5
  cases y6
  obtain ⟨op, ek, vn, hi, tx, n, M⟩ := t
  simp only [trC] at r0 r1 r2 r3 r4 r5 r6
  exact ⟨⟨k, nm, tb, L, ⟨op, ek, vn, hi, tx, n, M⟩, rf, od, ou, lt, vd⟩, _, rfl, _, _, rfl, rfl, _, _, rfl, rfl, _, _, rfl, rfl, _, _, rfl, hL, _, _, rfl, r0, _, _, rfl, r1, _, _, rfl, r2, _, _, rfl, r3, _, _, rfl, r4, _, _, rfl, r5, _, _, rfl, ⟨rfl, r6⟩, _, _, rfl, rfl, _, _, rfl, rfl, _, _, rfl, rfl, _, _, rfl, rfl, _, _, rfl, rfl, rfl⟩
end
end Go.Proofs.YtengccmjlaejfaaDoor
end
