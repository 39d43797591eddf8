/- An argument that is a list of values; SpanFirst as its row asks. No condition. -/
import Derived.Test.YtcncjghcnofioaaSpK
import Derived.Deep.Slices
namespace Go.Proofs.Ytcncjghcnofioaa
open Ev Go.RowKit Go.Joins Go.ChangeShapes Go.WideShapes Go.Deep
set_option maxRecDepth 100000
section
variable {H : Type} {enc : TypeId × Value → H} {w : World} {base : Nat} {spare : Nat → Bool} {held : Bool}
theorem vcells {cs : List Value} {n : Nat} {x : DataW H × List MemPlace} (hl : cs.length = 4) (h : DataW.trod enc Try.prog w base spare held n 23 cs = some x) : ∃ v : V, cs = gV (fun _ => v) 0 := by
  obtain ⟨xs, n', _, _, _, hxl, hf⟩ := DataW.trod_struct Try.underlying23 h
  match cs, hl with
  | [c0, c1, c2, c3], _ =>
    have k0 : Try.prog.cellsOf 5 = 1 := by kernel_rfl
    have k1 : Try.prog.cellsOf 2 = 1 := by kernel_rfl
    have k3 : Try.prog.cellsOf 9 = 1 := by kernel_rfl
    have g0 := hf 0 _ rfl
    have g1 := hf 1 _ rfl
    have g2 := hf 2 _ rfl
    have g3 := hf 3 _ rfl
    have hlen : xs.length = 4 := hxl
    have x0 : xs[0]? = some (xs[0]'(by omega)) := List.getElem?_eq_getElem _
    have x1 : xs[1]? = some (xs[1]'(by omega)) := List.getElem?_eq_getElem _
    have x2 : xs[2]? = some (xs[2]'(by omega)) := List.getElem?_eq_getElem _
    have x3 : xs[3]? = some (xs[3]'(by omega)) := List.getElem?_eq_getElem _
    rw [x0] at g0; rw [x1] at g1; rw [x2] at g2; rw [x3] at g3
    obtain ⟨n0, e0, _, _⟩ := DataW.trod_int Try.underlying5 g0
    obtain ⟨n1, e1, _, _⟩ := DataW.trod_int Try.underlying2 g1
    obtain ⟨n2, e2, _, _⟩ := DataW.trod_int Try.underlying2 g2
    obtain ⟨s, e3, _, _⟩ := DataW.trod_string Try.underlying9 g3
    simp [k0, k1, k3] at e0 e1 e2 e3
    subst e0 e1 e2 e3
    exact ⟨⟨n0, n1, n2, s⟩, rfl⟩
/-- A list of values in memory: no element, or a row. -/
theorem vals_read {fuel len cap : Nat} {a : Option Addr} {x : DataW H × List MemPlace} (hsp : ∀ b, spare b = true) (h : DataW.trod enc Try.prog w base spare held fuel 28 [.slice a len cap] = some x) :
    (a = none ∧ len = 0 ∧ cap = 0) ∨ (∃ ad, a = some ad ∧ len = 0) ∨ ∃ (l : Nat → V) (p : Pl), a = some ⟨p.b, p.o, none⟩ ∧ ORel (fun _ => none) (.rows (gV l) len 4 vK) p w ∧ p.b < w.heap.size ∧ len ≤ cap ∧ p.o + cap * 4 ≤ p.s := by
  rcases open_slice Try.underlying28 h with ⟨hcs, _⟩ | ⟨ad, len', cap', m, n, D, Pl, hcs, hb, hl, hm, hmm, _, hi⟩
  · simp at hcs
    obtain ⟨rfl, rfl, rfl⟩ := hcs
    exact .inl ⟨rfl, rfl, rfl⟩
  · simp at hcs
    obtain ⟨rfl, rfl, rfl⟩ := hcs
    by_cases h0 : len = 0
    · exact .inr (.inl ⟨ad, rfl, h0⟩)
    rw [hsp, if_pos rfl] at hmm
    subst hmm
    have hC : Try.prog.cellsOf 23 = 4 := by kernel_rfl
    have key : ∀ i, i < m → ∃ v : V, ∀ j, j < 4 → w.cell? ((ad.add (i * 4)).add j) = (gV (fun _ => v) 0)[j]? := by
      intro i him
      obtain ⟨cs', hcs', ht'⟩ := hi i him
      rw [hC] at hcs'
      obtain ⟨_, hcl, hat⟩ := World.cells?_some hcs'
      obtain ⟨v, rfl⟩ := vcells hcl ht'
      exact ⟨v, fun j hj => hat j hj⟩
    -- the block
    obtain ⟨v0, hv0⟩ := key 0 (by omega)
    have c0 := hv0 0 (by omega)
    rw [Nat.zero_mul] at c0
    have hadd0 : ∀ (q : Addr), q.add 0 = q := fun q => by unfold Addr.add; rw [if_pos rfl]
    rw [hadd0, hadd0] at c0
    have hblk : ∃ C e fr, w.heap[ad.block]? = some (.cells C e fr) ∧ ad.spot = none := by
      unfold World.cell? at c0
      split at c0
      · rename_i C e fr hh
        cases hq : ad.spot with
        | none => exact ⟨C, e, fr, hh, rfl⟩
        | some s => rw [hq] at c0; simp [gV] at c0
      · simp [gV] at c0
    obtain ⟨C, e, fr, hheap, hspot⟩ := hblk
    obtain ⟨b, o, sp⟩ := ad
    simp only at hspot hheap
    subst hspot
    have haddn : ∀ i j, ((⟨b, o, none⟩ : Addr).add i).add j = ⟨b, o + (i + j), none⟩ := fun i j => by rw [add_at, add_at, Nat.add_assoc]
    have hcell : ∀ i, i < m → ∃ v : V, ∀ j, j < 4 → C[o + (i * 4 + j)]? = (gV (fun _ => v) 0)[j]? := fun i him => by
      obtain ⟨v, hv⟩ := key i him
      refine ⟨v, fun j hj => ?_⟩
      have := hv j hj
      rw [haddn] at this
      rw [← this]
      simp [World.cell?, hheap]
    let l : Nat → V := fun i => if h : i < m then (hcell i h).choose else ⟨0, 0, 0, ⟨#[]⟩⟩
    have hl' : ∀ i, i < m → ∀ j, j < 4 → C[o + (i * 4 + j)]? = (gV l i)[j]? := fun i him j hj => by
      have := (hcell i him).choose_spec j hj
      rw [this]
      show _ = (gV l i)[j]?
      have e : l i = (hcell i him).choose := by simp [l, him]
      unfold gV
      rw [e]
      rfl
    have hsize : o + m * 4 ≤ C.size := by
      have := hl' (m - 1) (by omega) 3 (by omega)
      have h3 : (gV l (m - 1))[3]? = some (.string (l (m - 1)).t) := rfl
      rw [h3] at this
      have := (Array.getElem?_eq_some_iff.1 this).1
      omega
    refine .inr (.inr ⟨l, ⟨b, o, 4, C.size⟩, rfl, ⟨rfl, ⟨by show o + len * 4 ≤ C.size; omega, by unfold maxLen at hm; omega⟩, C, e, fr, hheap, rfl, fun i hi => ⟨rfl, rfl, fun j x hj => ?_⟩⟩, (Array.getElem?_eq_some_iff.1 hheap).1, hl, hsize⟩)
    have hj4 : j < 4 := by have := (List.getElem?_eq_some_iff.1 hj).1; exact this
    show C[o + (i * 4 + j)]? = some x
    rw [hl' i (by omega) j hj4]; exact hj
end
/-- A call over arguments of which the evaluator knows all. -/
theorem calls_rel {P : Program} {S : Sum} (G : Ev.Good P S) {f : FuncId} {args : List AV} {ys : Array Value} {v : Value} {h' : Hp} (n : Nat) (hp : VRels (fun _ => none) args ys.toList) (hr : (sm P S n).call f args ⟨.leaf, 0, []⟩ = some (.v v, h')) (w : World) :
    Calls P f ys w fun e w' => e = .returned v ∧ Fr noB w w' := by
  obtain ⟨_, _, _, h4, _⟩ := sm_ok G.mix G.ok G.sum G.kl n
  refine ((h4 f args _ _ h' hr).2 _ w ys hp (HR.empty w)).mono ?_
  rintro e w' ⟨y, ρ', L, rfl, hy, hh, hst, hlg⟩
  refine ⟨by rw [hy], hst.os, hst.tape, hst.output, hst.size, fun b hb _ => hst.block b hb fun n p _ hn => absurd hn (Nat.not_lt_zero _)⟩
theorem sf_empty (ad : Addr) (cap : Nat) (w : World) : Calls Try.prog 10 #[.slice (some ad) 0 cap] w fun e w' => e = .returned (.bool true) ∧ Fr noB w w' := by
  have hr : Ev.isTrue ((sm Try.prog noS 3000).call 10 [.none0 false] ⟨.leaf, 0, []⟩) = true := by kernel_rfl
  cases hx : (sm Try.prog noS 3000).call 10 [.none0 false] ⟨.leaf, 0, []⟩ with
  | none => rw [hx] at hr; cases hr
  | some r =>
    obtain ⟨v, h'⟩ := r
    rw [hx] at hr
    unfold Ev.isTrue at hr
    split at hr
    · rename_i b h'' hb
      cases hb
      subst hr
      exact calls_rel (P := Try.prog) (S := noS) ⟨sp_mix, sp_ok, (noS_ok (P := Try.prog)).ok, (noS_ok (P := Try.prog)).kl⟩ (args := [.none0 false]) (ys := #[.slice (some ad) 0 cap]) 3000 ⟨_, _, rfl, ⟨ad, cap, rfl, fun h => by cases h⟩, rfl⟩ hx w
    · cases hr
theorem spanFirst_row {H : Type} {enc : TypeId × Value → H} {w : World} {base : Nat} {held : Bool} {fuel len cap : Nat} {a : Option Addr} {x : DataW H × List MemPlace} (h : DataW.trod enc Try.prog w base (fun _ => true) held fuel 28 [.slice a len cap] = some x) :
    Calls Try.prog 10 #[.slice a len cap] w fun e w' => e = .returned (.bool true) ∧ Fr noB w w' := by
  rcases vals_read (fun _ => rfl) h with ⟨rfl, rfl, rfl⟩ | ⟨ad, rfl, rfl⟩ | ⟨l, p, rfl, ho, lp, hc, hc2⟩
  · exact sf_none w
  · exact sf_empty ad cap w
  · exact sf_calls l len cap p w ho lp hc hc2
end Go.Proofs.Ytcncjghcnofioaa
