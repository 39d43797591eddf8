/- What an argument that is a slice of structs of two integers holds in memory. The condition: it reads as data. -/
import Derived.Test.YtfgkocpmgoaljaaFr
import Derived.Deep.Slices
import Derived.ChangeArms
import Derived.ChangeSame
namespace Go.Proofs.Ytfgkocpmgoaljaa
open Go.RowKit Go.Deep Go.ChangeShapes Go.WideShapes

/-- A slice of structs of two integers. -/
structure IsPairs (k1 k2 : IntKind) (w : World) (a : Option Addr) (L : List (Int × Int)) : Prop where
  cell : ∀ i, i < L.length → ∃ ad, a = some ad ∧ w.cell? (ad.add (i * 2)) = some (.int k1 (L.getD i (0, 0)).1) ∧ w.cell? ⟨(ad.add (i * 2)).block, (ad.add (i * 2)).off + 1, none⟩ = some (.int k2 (L.getD i (0, 0)).2)

theorem IsPairs.fr {k1 k2 : IntKind} {w w' : World} {a : Option Addr} {L : List (Int × Int)} (h : IsPairs k1 k2 w a L) (hf : Fr noB w w') : IsPairs k1 k2 w' a L :=
  ⟨fun i hi => by
    obtain ⟨ad, e, h1, h2⟩ := h.cell i hi
    exact ⟨ad, e, hf.cell (fun x => x) h1, hf.cell (fun x => x) h2⟩⟩

section
variable {H : Type} {enc : TypeId × Value → H} {P : Program} {w : World} {base : Nat} {spare : Nat → Bool} {held : Bool}

theorem pairs_read {t e : TypeId} {f0 f1 : Field} {k1 k2 : IntKind} {fuel : Nat} {a : Option Addr} {len cap : Nat} {x : DataW H × List MemPlace} (ht : P.underlying t = some (.slice e)) (he : P.underlying e = some (.struct #[f0, f1]))
    (h0 : P.underlying f0.type = some (.int k1)) (h1 : P.underlying f1.type = some (.int k2)) (o0 : f0.offset = 0) (o1 : f1.offset = 1) (c0 : P.cellsOf f0.type = 1) (c1 : P.cellsOf f1.type = 1) (hC : P.cellsOf e = 2)
    (h : DataW.trod enc P w base spare held fuel t [.slice a len cap] = some x) :
    (len ≤ cap ∧ cap ≤ maxLen) ∧ ∃ L : List (Int × Int), L.length = len ∧ (∀ p ∈ L, (Lit.int k1 p.1).wf = true ∧ (Lit.int k2 p.2).wf = true) ∧ IsPairs k1 k2 w a L := by
  rcases open_slice ht h with ⟨hcs, _⟩ | ⟨ad, len', cap', m, n, D, Pl, hcs, hb, hl, hm, hmm, _, hi⟩
  · simp at hcs
    obtain ⟨rfl, rfl, rfl⟩ := hcs
    exact ⟨⟨by omega, by unfold maxLen; omega⟩, [], rfl, by simp, ⟨fun i hi => by simp at hi⟩⟩
  · simp at hcs
    obtain ⟨rfl, rfl, rfl⟩ := hcs
    refine ⟨⟨hl, hm⟩, ?_⟩
    have hlm : len ≤ m := by rw [hmm]; split <;> omega
    have key : ∀ i, i < len → ∃ p : Int × Int, ((Lit.int k1 p.1).wf = true ∧ (Lit.int k2 p.2).wf = true) ∧ w.cell? (ad.add (i * 2)) = some (.int k1 p.1) ∧ w.cell? ⟨(ad.add (i * 2)).block, (ad.add (i * 2)).off + 1, none⟩ = some (.int k2 p.2) := by
      intro i hil
      obtain ⟨cs', hcs', ht'⟩ := hi i (by omega)
      rw [hC] at hcs'
      obtain ⟨xs, n', _, _, hlen, hxl, hf⟩ := DataW.trod_struct he ht'
      obtain ⟨_, hcl, hat⟩ := World.cells?_some hcs'
      have g0 := hf 0 f0 rfl
      have g1 := hf 1 f1 rfl
      rw [o0, c0] at g0
      rw [o1, c1] at g1
      have x0 : xs[0]? = some (xs[0]'(by rw [hxl]; simp)) := List.getElem?_eq_getElem _
      have x1 : xs[1]? = some (xs[1]'(by rw [hxl]; simp)) := List.getElem?_eq_getElem _
      rw [x0] at g0
      rw [x1] at g1
      obtain ⟨n0, e0, _, w0⟩ := DataW.trod_int h0 g0
      obtain ⟨n1, e1, _, w1⟩ := DataW.trod_int h1 g1
      have a0 := hat 0 (by omega)
      have a1 := hat 1 (by omega)
      match cs', hcl with
      | [u0, u1], _ =>
        simp at e0 e1
        subst e0 e1
        simp at a0 a1
        have a0' : w.cell? (ad.add (i * 2)) = some (.int k1 n0) := by simpa [Addr.add] using a0
        refine ⟨(n0, n1), ⟨w0, w1⟩, a0', ?_⟩
        generalize ad.add (i * 2) = q at a0' a1
        have hs : q.spot = none := by
          unfold World.cell? at a0'
          split at a0'
          · cases hq : q.spot with
            | none => rfl
            | some s => rw [hq] at a0'; simp at a0'
          · cases a0'
        obtain ⟨b, o, s⟩ := q
        simp only at hs; subst hs
        simpa [Addr.add] using a1
    let L : List (Int × Int) := (List.range len).map fun i => if h : i < len then (key i h).choose else (0, 0)
    have hL : L.length = len := by simp [L]
    have hget : ∀ i (hil : i < len), L.getD i (0, 0) = (key i hil).choose := by
      intro i hil
      simp [L, List.getD, hil]
    refine ⟨L, hL, ?_, ⟨fun i hil => ?_⟩⟩
    · intro p hp
      obtain ⟨i, hi1, rfl⟩ := List.mem_map.1 hp
      have hil := List.mem_range.1 hi1
      rw [dif_pos hil]
      exact (key i hil).choose_spec.1
    · rw [hL] at hil
      rw [hget i hil]
      exact ⟨ad, rfl, (key i hil).choose_spec.2⟩
end

end Go.Proofs.Ytfgkocpmgoaljaa
