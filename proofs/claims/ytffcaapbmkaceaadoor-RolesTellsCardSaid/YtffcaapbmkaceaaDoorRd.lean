/- An argument that is a list, read as memory that nobody writes. No condition. -/
import Derived.Test.YtffcaapbmkaceaaDoorMg12
import Derived.Test.YtffcaapbmkaceaaDoorProg
import Derived.KernelRfl
import Derived.WalkKit
import Derived.OpenShut
import Derived.ShutString
import Derived.Deep.Slices
namespace Go.Proofs.YtffcaapbmkaceaaDoor
open Ev Go.RowKit Go.ChangeShapes Go.WideShapes Go.Deep
set_option maxRecDepth 100000
section
variable {P : Program} {H : Type} {enc : TypeId × Value → H} {w : World} {base : Nat} {spare : Nat → Bool} {held : Bool}
/-- A list of records in memory. -/
theorem list_read {α : Type} [Inhabited α] [Rec α] {tS tE : TypeId} (hu : P.underlying tS = some (.slice tE)) (hC : P.cellsOf tE = (Rec.ks α).length) (hk : 0 < (Rec.ks α).length)
    (hel : ∀ (n : Nat) (cs : List Value) (x : DataW H × List MemPlace), cs.length = (Rec.ks α).length → DataW.trod enc P w base spare held n tE cs = some x → ∃ v : α, ∀ c, c < (Rec.ks α).length → ∃ z, cs[c]? = some z ∧ Rec.enc v c = .v z)
    {fuel : Nat} {y : Value} {x : DataW H × List MemPlace} (hsp : ∀ b, spare b = true) (h : DataW.trod enc P w base spare held fuel tS [y] = some x) :
    ∃ L : List α, @VRel ⟨fun b => w.heap[b]?, false⟩ (fun _ => none) (.fz (eL L) L.length (Rec.ks α)) y := by
  rcases open_slice hu h with ⟨hcs, _⟩ | ⟨ad, len, cap, m, n, D, Pl, hcs, hb, hl, hm, hmm, _, hi⟩
  · simp at hcs
    subst hcs
    refine ⟨[], rfl, ?_⟩
    unfold FzRel
    exact .inl ⟨rfl, none, 0, rfl, fun _ => rfl⟩
  · simp at hcs
    subst hcs
    rcases Nat.eq_zero_or_pos len with h0 | h0
    · subst h0
      refine ⟨[], rfl, ?_⟩
      unfold FzRel
      exact .inl ⟨rfl, some ad, cap, rfl, fun e => by cases e⟩
    rw [hsp, if_pos rfl] at hmm
    subst hmm
    have key : ∀ i, i < m → ∃ v : α, ∀ c, c < (Rec.ks α).length → ∃ z, w.cell? ((ad.add (i * (Rec.ks α).length)).add c) = some z ∧ Rec.enc v c = .v z := by
      intro i him
      obtain ⟨cs', hcs', ht'⟩ := hi i him
      rw [hC] at hcs'
      obtain ⟨_, hcl, hat⟩ := World.cells?_some hcs'
      obtain ⟨v, hv⟩ := hel n cs' _ hcl ht'
      refine ⟨v, fun c hc => ?_⟩
      obtain ⟨z, h1, h2⟩ := hv c hc
      exact ⟨z, by rw [hat c hc]; exact h1, h2⟩
    obtain ⟨v0, hv0⟩ := key 0 (by omega)
    obtain ⟨z0, c0, _⟩ := hv0 0 hk
    rw [Nat.zero_mul] at c0
    have hadd0 : ∀ (q : Addr), q.add 0 = q := fun q => by unfold Addr.add; rw [if_pos rfl]
    rw [hadd0, hadd0] at c0
    have hblk : ∃ C e fr, w.heap[ad.block]? = some (.cells C e fr) ∧ ad.spot = none := by
      unfold World.cell? at c0
      split at c0
      · rename_i C e fr hh
        cases hq : ad.spot with
        | none => exact ⟨C, e, fr, hh, rfl⟩
        | some s => rw [hq] at c0; simp at c0
      · simp at c0
    obtain ⟨C, e, fr, hheap, hspot⟩ := hblk
    obtain ⟨b, o, sp⟩ := ad
    simp only at hspot hheap
    subst hspot
    have haddn : ∀ i j, ((⟨b, o, none⟩ : Addr).add i).add j = ⟨b, o + (i + j), none⟩ := fun i j => by letI : Fz := ⟨fun _ => none, true⟩; rw [add_at, add_at, Nat.add_assoc]
    have hcell : ∀ i, i < m → ∃ v : α, ∀ c, c < (Rec.ks α).length → ∃ z, C[o + (i * (Rec.ks α).length + c)]? = some z ∧ Rec.enc v c = .v z := fun i him => by
      obtain ⟨v, hv⟩ := key i him
      refine ⟨v, fun c hc => ?_⟩
      obtain ⟨z, h1, h2⟩ := hv c hc
      rw [haddn] at h1
      exact ⟨z, by rw [← h1]; simp [World.cell?, hheap], h2⟩
    let l : Nat → α := fun i => if h : i < m then (hcell i h).choose else default
    have hl' : ∀ i, i < m → ∀ c, c < (Rec.ks α).length → ∃ z, C[o + (i * (Rec.ks α).length + c)]? = some z ∧ Rec.enc (l i) c = .v z := fun i him c hc => by
      have := (hcell i him).choose_spec c hc
      have e : l i = (hcell i him).choose := by simp [l, him]
      rw [e]; exact this
    have hsize : o + len * (Rec.ks α).length ≤ C.size := by
      obtain ⟨z, h1, _⟩ := hl' (len - 1) (by omega) ((Rec.ks α).length - 1) (by omega)
      have := (Array.getElem?_eq_some_iff.1 h1).1
      have e : len * (Rec.ks α).length = (len - 1) * (Rec.ks α).length + (Rec.ks α).length := by
        obtain ⟨q, rfl⟩ : ∃ q, len = q + 1 := ⟨len - 1, by omega⟩
        rw [Nat.add_sub_cancel, Nat.add_mul, Nat.one_mul]
      omega
    refine ⟨(List.range len).map l, rfl, ?_⟩
    have hlen : ((List.range len).map l).length = len := by simp
    rw [hlen]
    unfold FzRel
    refine .inr ⟨b, o, m, C, e, fr, rfl, hl, hheap, ⟨hsize, by unfold maxLen at hm; omega⟩, fun i c hi' hc => ?_⟩
    have eL' : eL ((List.range len).map l) i c = Rec.enc (l i) c := by
      unfold eL
      rw [show ((List.range len).map l).getD i default = l i by simp [List.getD_eq_getElem?_getD, hi']]
    obtain ⟨z, h1, h2⟩ := hl' i (by omega) c hc
    rw [eL', h2]
    refine ⟨⟨(Rec.ks α)[c], by simp [hc], ?_⟩, z, h1, rfl⟩
    have := Rec.fit (l i) c (Rec.ks α)[c] (by simp [hc])
    rw [h2] at this; exact this
theorem str_el {tE : TypeId} (hu : P.underlying tE = some .string) (n : Nat) (cs : List Value) (x : DataW H × List MemPlace) (hl : cs.length = (Rec.ks ByteArray).length) (h : DataW.trod enc P w base spare held n tE cs = some x) : ∃ v : ByteArray, ∀ c, c < (Rec.ks ByteArray).length → ∃ z, cs[c]? = some z ∧ Rec.enc v c = .v z := by
  obtain ⟨s, rfl, _, _⟩ := DataW.trod_string hu h
  refine ⟨s, fun c hc => ?_⟩
  have : c = 0 := by simp [Rec.ks] at hc; omega
  subst this
  exact ⟨_, rfl, rfl⟩
theorem pair_el {tE tS : TypeId} (hu : P.underlying tE = some (.array 2 tS)) (hs : P.underlying tS = some .string) (hC : P.cellsOf tS = 1) (n : Nat) (cs : List Value) (x : DataW H × List MemPlace) (hl : cs.length = (Rec.ks (ByteArray × ByteArray)).length) (h : DataW.trod enc P w base spare held n tE cs = some x) : ∃ v : ByteArray × ByteArray, ∀ c, c < (Rec.ks (ByteArray × ByteArray)).length → ∃ z, cs[c]? = some z ∧ Rec.enc v c = .v z := by
  obtain ⟨xs, m, _, _, hcl, hxl, hx⟩ := DataW.trod_array hu h
  have hl2 : cs.length = 2 := hl
  have g0 := hx 0 (by omega)
  have g1 := hx 1 (by omega)
  rw [hC] at g0 g1
  have x0 : xs[0]? = some (xs[0]'(by omega)) := List.getElem?_eq_getElem _
  have x1 : xs[1]? = some (xs[1]'(by omega)) := List.getElem?_eq_getElem _
  rw [x0] at g0; rw [x1] at g1
  obtain ⟨s0, e0, _, _⟩ := DataW.trod_string hs g0
  obtain ⟨s1, e1, _, _⟩ := DataW.trod_string hs g1
  obtain ⟨a, b, rfl⟩ : ∃ a b, cs = [a, b] := by
    match cs, hl2 with
    | [a, b], _ => exact ⟨a, b, rfl⟩
  simp at e0 e1
  subst e0 e1
  refine ⟨(s0, s1), fun c hc => ?_⟩
  match c, hc with
  | 0, _ => exact ⟨_, rfl, rfl⟩
  | 1, _ => exact ⟨_, rfl, rfl⟩
  | c + 2, hc => simp [Rec.ks] at hc; omega
end
end Go.Proofs.YtffcaapbmkaceaaDoor
