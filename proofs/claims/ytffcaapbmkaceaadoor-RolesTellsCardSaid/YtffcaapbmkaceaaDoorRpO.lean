/- A state of roles as an argument. No condition. -/
import Derived.Test.YtffcaapbmkaceaaDoorRd
import Derived.Test.YtffcaapbmkaceaaDoorMg16
namespace Go.Proofs.YtffcaapbmkaceaaDoor
open Ev Go.RowKit Go.ChangeShapes Go.WideShapes Go.Deep
set_option maxRecDepth 100000
section
variable {H : Type} {enc : TypeId × Value → H} {w : World} {base : Nat} {spare : Nat → Bool} {held : Bool}
theorem st_read {fuel : Nat} {cs : List Value} {x : DataW H × List MemPlace} (hsp : ∀ b, spare b = true) (hl : cs.length = 2) (h : DataW.trod enc Tryd.prog w base spare held fuel 25 cs = some x) :
    ∃ (N : List ByteArray) (I : List (ByteArray × ByteArray)), @VRel ⟨fun b => w.heap[b]?, false⟩ (fun _ => none) (stA N I) (.agg cs.toArray) := by
  obtain ⟨xs, n', _, _, _, hxl, hf⟩ := DataW.trod_struct Tryd.underlying25 h
  obtain ⟨a, b, rfl⟩ : ∃ a b, cs = [a, b] := by
    match cs, hl with
    | [a, b], _ => exact ⟨a, b, rfl⟩
  have k0 : Tryd.prog.cellsOf 22 = 1 := by kernel_rfl
  have k1 : Tryd.prog.cellsOf 23 = 1 := by kernel_rfl
  have g0 := hf 0 _ rfl
  have g1 := hf 1 _ rfl
  have hlen : xs.length = 2 := hxl
  have x0 : xs[0]? = some (xs[0]'(by omega)) := List.getElem?_eq_getElem _
  have x1 : xs[1]? = some (xs[1]'(by omega)) := List.getElem?_eq_getElem _
  rw [x0] at g0; rw [x1] at g1
  simp [k0, k1] at g0 g1
  obtain ⟨N, hN⟩ := list_read (α := ByteArray) Tryd.underlying22 (by kernel_rfl) (by decide) (str_el Tryd.underlying9) hsp g0
  obtain ⟨I, hI⟩ := list_read (α := ByteArray × ByteArray) Tryd.underlying23 (by kernel_rfl) (by decide) (pair_el Tryd.underlying36 Tryd.underlying9 (by kernel_rfl)) hsp g1
  exact ⟨N, I, #[a, b], rfl, a, [b], rfl, hN, b, [], rfl, hI, rfl⟩
end
/-- A call of what always answers true, over a state and texts. -/
theorem st_calls {f : FuncId} {W : World} {vs : Array Value} {args : List AV} (hc : OCalls Tryd.prog f args (.s (.bool true)) []) (h : @VRels ⟨fun b => W.heap[b]?, false⟩ (fun _ => none) args vs.toList) :
    Calls Tryd.prog f vs W fun e w' => e = .returned (.bool true) ∧ Fr noB W w' := by
  refine (hc _ W vs (fun b o e => e) h).mono ?_
  rintro e w' ⟨y, ρ', rfl, hf, hy, _⟩
  exact ⟨by rw [show y = .bool true from hy], hf⟩
end Go.Proofs.YtffcaapbmkaceaaDoor
