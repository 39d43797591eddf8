/- What an argument that is a value holds. The condition: it reads as data. -/
import Derived.Test.YtcncjghcnofioaaVal
import Derived.Lib.SmallJoins
import Derived.ChangeSame
import Derived.ChangeArms
namespace Go.Proofs.Ytcncjghcnofioaa
open Go.RowKit Go.Joins Go.ChangeShapes Go.WideShapes Go.Deep

/-- A value that Go can hold. -/
structure VOk (v : V) : Prop where
  k : 0 ≤ v.k ∧ v.k ≤ 255
  n : -9223372036854775808 ≤ v.n ∧ v.n ≤ 9223372036854775807
  hi : -9223372036854775808 ≤ v.hi ∧ v.hi ≤ 9223372036854775807
  t : v.t.size ≤ maxLen

section
variable {H : Type} {enc : TypeId × Value → H} {w : World} {base : Nat} {spare : Nat → Bool} {held : Bool}
set_option maxRecDepth 100000 in
theorem val_read {r : Reach} {b0 : Nat} {v : Value} {d : DataW H} {p : List MemPlace} (hv : Value.okWide Try.prog w r b0 23 v) (h : DataW.Trod enc Try.prog w base spare held 23 v d p) :
    ∃ u : V, v = vV u ∧ VOk u := by
  obtain ⟨v0, v1, v2, v3, y0, y1, y2, y3, n, rfl, rfl, rfl, h0, h1, h2, h3⟩ := open_agg4 Try.underlying23 (by kernel_rfl) (by kernel_rfl) hv h
  obtain ⟨n0, e0, _, w0⟩ := DataW.trod_int Try.underlying5 h0
  obtain ⟨n1, e1, _, w1⟩ := DataW.trod_int Try.underlying2 h1
  obtain ⟨n2, e2, _, w2⟩ := DataW.trod_int Try.underlying2 h2
  obtain ⟨s, e3, _, w3⟩ := DataW.trod_string Try.underlying9 h3
  simp only [List.cons.injEq, and_true] at e0 e1 e2 e3
  subst e0 e1 e2 e3
  simp [Lit.wf, IntKind.min, IntKind.max, IntKind.signed, IntKind.bits] at w0 w1 w2
  exact ⟨⟨n0, n1, n2, s⟩, rfl, ⟨by omega, by omega, by omega, w3⟩⟩
end

end Go.Proofs.Ytcncjghcnofioaa
