/- A range over a function, as two plain rules over the wide fence: the statement is reduced to the one call of the iterator in the world behind the loop's two new blocks; a round is reduced to the walk of the loop's body. No condition. -/
import Derived.RangeFuncNested
import Derived.RangeFuncBound
import Derived.RangeFuncCalls
import Derived.RangeFuncLeaves
import Derived.Shelf.Abstract
import Derived.Shelf.RegionOpen
import Derived.WalkKit
import Derived.OwnWalkIn
import Derived.TacticsInMore
import Derived.LoopNIn
import Derived.LoopIn
namespace Go.Proofs.Ytfgkocpmgoaljaa
open Go.RowKit Go.Shelf

/-- The record of a loop over a function, of activation function fn. -/
def rcd (fn : FuncId) (tmps : Array Value) (ps : Array Tmp) (assign body : Code) (D : Nat) (st : LoopState) (pe : Option Code) : Loop :=
  { state := st, pending := pe, fn := fn, tmps := tmps, params := ps, assign := assign, body := body, defers := D }

/-- What lies in the two blocks of an outermost loop. -/
structure Rcd (W : World) (D : Nat) (R : LoopState → Option Code → Loop) (st : LoopState) (pe : Option Code) : Prop where
  loop : W.heap[D + 1]? = some (.loop (R st pe))
  defs : W.heap[D]? = some (.deferred (some []))

variable {P : Program}

/-- The statement: the iterator is called; it returns; either the record is ready (all have come), or a jump is pending. -/
theorem rf_enter {g : Operand} {ps : Array Tmp} {assign body : Code} {Q : Exit → Act → World → Prop} {a : Act} {w : World} {n : Nat}
    {gf : Nat} {lb : Array Value} (hg : a.eval g = .func (.func gf) #[] lb) (eg : ∀ args w, (callFunc gf args).run P w = .ok (.enter gf args) w)
    (hit : ∀ fn, Rcd ((w.alloc (.deferred (some []))).alloc (.loop (rcd fn a.tmps ps assign body w.heap.size .ready none))) w.heap.size (rcd fn a.tmps ps assign body w.heap.size) .ready none →
      CallsIn Fence.wide (n - 1) P gf (#[.func (.yield (w.heap.size + 1)) #[] #[]] ++ lb) ((w.alloc (.deferred (some []))).alloc (.loop (rcd fn a.tmps ps assign body w.heap.size .ready none)))
        fun e W' => (∃ v, e = .returned v) ∧
          ((Rcd W' w.heap.size (rcd fn a.tmps ps assign body w.heap.size) .ready none ∧
              Q .normal { a with defers := { target := .collected w.heap.size, args := #[] } :: a.defers } (W'.putObj (w.heap.size + 1) (.loop (rcd fn a.tmps ps assign body w.heap.size .exhausted none)))) ∨
           (∃ c, Rcd W' w.heap.size (rcd fn a.tmps ps assign body w.heap.size) .done (some c) ∧
              c.wpIn Fence.wide n P Q { a with defers := { target := .collected w.heap.size, args := #[] } :: a.defers } (W'.putObj (w.heap.size + 1) (.loop (rcd fn a.tmps ps assign body w.heap.size .exhausted (some c))))))) :
    (Code.rangeFunc g ps assign body).wpIn Fence.wide n P Q a w := by
  refine wpIn_rangeFunc ?_
  intro fn _
  have hro : Fence.wide.round = none := rfl
  rw [hro]
  have hL : ((w.alloc (.deferred (some []))).alloc (.loop (rcd fn a.tmps ps assign body w.heap.size .ready none))).heap[w.heap.size + 1]? = some (.loop (rcd fn a.tmps ps assign body w.heap.size .ready none)) := by
    have := World.alloc_heap_new (w.alloc (.deferred (some []))) (.loop (rcd fn a.tmps ps assign body w.heap.size .ready none))
    rwa [World.size_alloc] at this
  have hK : ((w.alloc (.deferred (some []))).alloc (.loop (rcd fn a.tmps ps assign body w.heap.size .ready none))).heap[w.heap.size]? = some (.deferred (some [])) :=
    (Below.heap_alloc _ _ _ (by simp)).trans (World.alloc_heap_new w _)
  have h0 := hit fn ⟨hL, hK⟩
  have hE := run_enterLoop_outer (P := P) (w := w) fn a.tmps ps assign body
  obtain ⟨W1, hW1⟩ : ∃ W1, (w.alloc (.deferred (some []))).alloc (.loop (rcd fn a.tmps ps assign body w.heap.size .ready none)) = W1 := ⟨_, rfl⟩
  have hE1 : (Instr.enterLoop fn a.tmps ps assign body none).run P w = .ok (w.heap.size + 1, [{ target := .collected w.heap.size, args := #[] }]) W1 := by rw [← hW1]; exact hE
  rw [hW1] at h0
  refine ⟨w.heap.size + 1, [{ target := .collected w.heap.size, args := #[] }], W1, { target := .fn (.func gf) lb, args := #[.func (.yield (w.heap.size + 1)) #[] #[]] }, W1, gf,
    #[.func (.yield (w.heap.size + 1)) #[] #[]] ++ lb, W1, ?_⟩
  refine ⟨hE1, ?_⟩
  refine ⟨?_, ?_, ?_, ?_, ?_⟩
  · simp only [resolve, hg]
    simp [go_sem]
  · exact fun _ _ => trivial
  · simp [invoke, go_sem, eg]
  · intro h; cases h
  refine h0.mono ?_
  rintro e W' ⟨⟨v, rfl⟩, h2⟩
  rcases h2 with ⟨hr, hq⟩ | ⟨c, hr, hq⟩
  · exact ⟨none, _, run_endLoop (P := P) hr.loop (by simp [rcd]), hq⟩
  · exact ⟨some c, _, run_endLoop (P := P) hr.loop (by simp [rcd]), hq⟩

/-- How the body of a round may be left: what is asked of the world, the record being set anew. -/
def rfPost (D : Nat) (R : LoopState → Option Code → Loop) (T : World → Prop) (X : Code → World → Prop) : Exit → Act → World → Prop
  | .normal, _, W => W.heap[D + 1]? = some (.loop (R .busy none)) ∧ T (W.putObj (D + 1) (.loop (R .ready none)))
  | .ret, _, W => W.heap[D + 1]? = some (.loop (R .busy none)) ∧ X .ret (W.putObj (D + 1) (.loop (R .done (some .ret))))
  | .exit id, _, W => W.heap[D + 1]? = some (.loop (R .busy none)) ∧ X (.exit id) (W.putObj (D + 1) (.loop (R .done (some (.exit id)))))
  | .goto t, _, W => W.heap[D + 1]? = some (.loop (R .busy none)) ∧ X (.goto t) (W.putObj (D + 1) (.loop (R .done (some (.goto t)))))
  | .panic _, _, _ => False
  | .outgrown, _, _ => False

/-- A round: yield at args, the record being ready: the assignment and the body are walked in the round's frame. -/
theorem rf_round {n : Nat} {fn : FuncId} {tmps : Array Value} {ps : Array Tmp} {assign body : Code} {D : Nat} {args : Array Value} {W : World} {T : World → Prop} {X : Code → World → Prop}
    {R : Ending → World → Prop} (hr : W.heap[D + 1]? = some (.loop (rcd fn tmps ps assign body D .ready none))) (hs : args.size = ps.size)
    (hT : ∀ W', T W' → R (.returned (.bool true)) W') (hX : ∀ c W', X c W' → R (.returned (.bool false)) W')
    (h : assign.wpIn (Fence.wide.inRound (D + 1)) n P (Exit.then (fun a₁ w₁ => w₁.heap[D + 1]? = some (.loop (rcd fn tmps ps assign body D .ready none)) ∧
        body.wpIn (Fence.wide.inRound (D + 1)) n P (rfPost D (rcd fn tmps ps assign body D) T X) a₁ (w₁.putObj (D + 1) (.loop (rcd fn tmps ps assign body D .busy none)))) (fun _ _ _ => False))
      { tmps := (ps.zip args).foldl (fun t (p, v) => t.setIfInBounds p v) tmps, defers := [] } W) :
    YieldAt Fence.wide n P (D + 1) args W R := by
  refine ⟨fn, _, assign, body, run_yield (P := P) (args := args) hr hs, roundIn_of_wpIn trivial (wpIn_mono h ?_)⟩
  intro e a w hq
  cases e with
  | normal =>
    obtain ⟨h1, h2⟩ := hq
    refine ⟨_, run_beginRound h1 rfl, wpIn_mono h2 ?_⟩
    intro e2 a2 w2 hq2
    cases e2 with
    | normal => obtain ⟨h3, h4⟩ := hq2; exact ⟨_, _, run_endRound (P := P) none h3, hT _ h4⟩
    | ret => obtain ⟨h3, h4⟩ := hq2; exact ⟨_, _, run_endRound (P := P) (some .ret) h3, hX _ _ h4⟩
    | exit id => obtain ⟨h3, h4⟩ := hq2; exact ⟨_, _, run_endRound (P := P) (some (.exit id)) h3, hX _ _ h4⟩
    | goto t => obtain ⟨h3, h4⟩ := hq2; exact ⟨_, _, run_endRound (P := P) (some (.goto t)) h3, hX _ _ h4⟩
    | panic ch => exact hq2.elim
    | outgrown => exact hq2.elim
  | exit id => exact hq.elim
  | goto t => exact hq.elim
  | ret => exact hq.elim
  | panic ch => exact hq.elim
  | outgrown => exact hq.elim

end Go.Proofs.Ytfgkocpmgoaljaa
