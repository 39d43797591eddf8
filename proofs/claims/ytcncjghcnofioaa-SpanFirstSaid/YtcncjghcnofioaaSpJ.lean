/- The statement SpanFirst, whole. No condition. -/
import Derived.Test.YtcncjghcnofioaaSpG
namespace Go.Proofs.Ytcncjghcnofioaa
open Ev
set_option maxRecDepth 100000
def thenOf : Code → Code
  | .cond _ a _ => a
  | c => c
def sfX5 (P : Program) : Code := thenOf (cR (sfS5 P))
def sfA (P : Program) : Code := cL (cL (cR (cL (cR (sfX5 P)))))
theorem sfS5_split : sfS5 Try.prog = .seq (cL (sfS5 Try.prog)) (.cond (.tmp 26) (sfX5 Try.prog) .skip) := by kernel_rfl
theorem sfX5_split : sfX5 Try.prog = .seq (cL (sfX5 Try.prog)) (.seq (.seq (cL (cL (cR (sfX5 Try.prog)))) (.block 0 (.loop (sfA Try.prog)))) (cR (cR (sfX5 Try.prog)))) := by kernel_rfl
def lk7 (N x y n : Nat) : List (Nat × AV) := lk N x y true N ++ [(7, .s (.int .i64 n))]
def lk7J : List Nat := List.range' 8 87
def lk26 (N x y : Nat) (B : Bool) : List (Nat × AV) := lk N x y B N ++ [(26, .s (.bool B))]
def lk26J : List Nat := List.range' 7 19 ++ List.range' 27 68
section
variable (l : Nat → V) (N x y : Nat)
def aTests (n : Nat) : List Bool := [decide ((n : Int) < (x : Int)), decide (0 ≤ (n : Int)) && decide ((n : Int) < (N : Int)), Nat.blt (0 + (n : Int).toNat) N, decide (0 ≤ (y : Int)) && decide ((y : Int) < (N : Int)), Nat.blt (0 + (y : Int).toNat) N, meetsV (l (0 + (n : Int).toNat)) (l (0 + (y : Int).toNat))]
theorem sfA_loop (hN : N ≤ 1000) (hy : y < N) (hx : x < y) (hm : ∀ m, m < x → meetsV (l y) (l m) = false) {K : Ex → T AV → Hp → Prop} (hE : ∀ e, KeptAt 1 e (lk N x y true N) lkJ → K (.exit 0) e (H1 l N)) :
    ∀ (n : Nat) (j : Nat → Value), n ≤ x → RunS Try.prog (.loop (sfA Try.prog)) (mkJ (lk7 N x y n) lk7J j) (H1 l N) K := by
  refine RunS.loop (fun n => n ≤ x) (fun n => x - n) (fun n => lk7 N x y n) lk7J (K := K) ?_
  intro n j hn
  by_cases c : n < x
  · obtain ⟨a1, a2, a3⟩ := at_tests N n (by omega)
    obtain ⟨b1, b2, b3⟩ := at_tests N y hy
    refine run_pathH sfG (N := 3000) [true, true, true, true, true, false] [0, 2, 3, 4, 5, 6, 7] lk7J (bs := aTests l N x y n) (o := (.normal, true, [some (.sl 0 0 N none), some (.s (.bool false)), some (.s (.int .i64 x)), some (.s (.int .i64 y)), some (.s (.bool true)), some (.s (.int .i64 N)), some (.s (.int .i64 (IntKind.i64.wrap ((n : Int) + 1))))], true)) (H' := H1 l N) (by kernel_rfl) (by kernel_rfl) (by unfold aTests; rw [a1, a2, a3, b1, b2, b3, decide_eq_true (by omega : (n : Int) < (x : Int)), meetsV_comm, hm n c]) fun x' e ho => ?_
    simp only [obsA, Prod.mk.injEq, List.map_cons, List.map_nil, List.cons.injEq, and_true] at ho
    obtain ⟨h1, h2, ⟨g0, g2, g3, g4, g5, g6, g7⟩, h4⟩ := ho
    subst h1
    rw [wrap_id (by omega)] at g7
    exact ⟨noOld_of rfl h4, n + 1, by omega, by omega, h2, rfl, .inl g0, .inl g2, .inl g3, .inl g4, .inl g5, .inl g6, .inl (by rw [g7]; simp), trivial⟩
  · refine run_pathH sfG (N := 3000) [false] [0, 2, 3, 4, 5, 6] lkJ (bs := [decide ((n : Int) < (x : Int))]) (o := (.exit 0, true, [some (.sl 0 0 N none), some (.s (.bool false)), some (.s (.int .i64 x)), some (.s (.int .i64 y)), some (.s (.bool true)), some (.s (.int .i64 N))], true)) (H' := H1 l N) (by kernel_rfl) (by kernel_rfl) (by simp; omega) fun x' e ho => ?_
    simp only [obsA, Prod.mk.injEq, List.map_cons, List.map_nil, List.cons.injEq, and_true] at ho
    obtain ⟨h1, h2, ⟨g0, g2, g3, g4, g5, g6⟩, h4⟩ := ho
    subst h1
    exact ⟨noOld_of rfl h4, hE e ⟨h2, rfl, .inl g0, .inl g2, .inl g3, .inl g4, .inl g5, .inl g6, trivial⟩⟩
def xTests : List Bool := [decide ((x : Int) < 0), decide ((x : Int) ≥ (y : Int)), decide ((y : Int) ≥ (N : Int)), decide (0 ≤ (x : Int)) && decide ((x : Int) < (N : Int)), Nat.blt (0 + (x : Int).toNat) N, decide (0 ≤ (y : Int)) && decide ((y : Int) < (N : Int)), Nat.blt (0 + (y : Int).toNat) N, !(meetsV (l (0 + (x : Int).toNat)) (l (0 + (y : Int).toNat)))]
/-- Two that meet have been found. -/
theorem sfX5_run (hN : N ≤ 1000) (hy : y < N) (hx : x < y) (hme : meetsV (l y) (l x) = true) (hm : ∀ m, m < x → meetsV (l y) (l m) = false) (j : Nat → Value) : RunS Try.prog (sfX5 Try.prog) (mkJ (lk26 N x y true) lk26J j) (H1 l N) (fun x' e h => x' = .normal ∧ h = H1 l N ∧ KeptAt 1 e (lk N x y true y) lkJ) := by
  rw [sfX5_split]
  obtain ⟨a1, a2, a3⟩ := at_tests N x (by omega)
  obtain ⟨b1, b2, b3⟩ := at_tests N y hy
  refine RunS.seq (K1 := fun x' e h => x' = .normal ∧ h = H1 l N ∧ KeptAt 1 e (lk N x y true N) lkJ) ?_ ?_ (fun x e h hx hc => absurd hc.1 hx)
  · refine run_pathH sfG (N := 3000) [false, false, false, true, true, true, true, false] [0, 2, 3, 4, 5, 6] lkJ (bs := xTests l N x y) (o := (.normal, true, [some (.sl 0 0 N none), some (.s (.bool false)), some (.s (.int .i64 x)), some (.s (.int .i64 y)), some (.s (.bool true)), some (.s (.int .i64 N))], true)) (H' := H1 l N) (by kernel_rfl) (by kernel_rfl) (by unfold xTests; rw [a1, a2, a3, b1, b2, b3, meetsV_comm, hme, decide_eq_false (by omega : ¬ (x : Int) < 0), decide_eq_false (by omega : ¬ (x : Int) ≥ (y : Int)), decide_eq_false (by omega : ¬ (y : Int) ≥ (N : Int))]; rfl) fun x' e ho => ?_
    simp only [obsA, Prod.mk.injEq, List.map_cons, List.map_nil, List.cons.injEq, and_true] at ho
    obtain ⟨h1, h2, ⟨g0, g2, g3, g4, g5, g6⟩, h4⟩ := ho
    exact ⟨h1, rfl, h2, rfl, .inl g0, .inl g2, .inl g3, .inl g4, .inl g5, .inl g6, trivial⟩
  · rintro e1 h1 ⟨_, rfl, hk⟩
    refine RunS.weaken hk fun j => ?_
    refine RunS.seq (K1 := fun x' e h => x' = .normal ∧ h = H1 l N ∧ KeptAt 1 e (lk N x y true N) lkJ) ?_ ?_ (fun x e h hx hc => absurd hc.1 hx)
    · refine RunS.seq (K1 := fun x' e h => x' = .normal ∧ h = H1 l N ∧ KeptAt 1 e (lk7 N x y 0) lk7J) ?_ ?_ (fun x e h hx hc => absurd hc.1 hx)
      · refine run_pathH sfG (N := 3000) [] [0, 2, 3, 4, 5, 6, 7] lk7J (bs := []) (o := (.normal, true, [some (.sl 0 0 N none), some (.s (.bool false)), some (.s (.int .i64 x)), some (.s (.int .i64 y)), some (.s (.bool true)), some (.s (.int .i64 N)), some (.v (.int .i64 0))], true)) (H' := H1 l N) (by kernel_rfl) (by kernel_rfl) rfl fun x' e ho => ?_
        simp only [obsA, Prod.mk.injEq, List.map_cons, List.map_nil, List.cons.injEq, and_true] at ho
        obtain ⟨h1, h2, ⟨g0, g2, g3, g4, g5, g6, g7⟩, h4⟩ := ho
        exact ⟨h1, rfl, h2, rfl, .inl g0, .inl g2, .inl g3, .inl g4, .inl g5, .inl g6, .inr ⟨_, rfl, g7⟩, trivial⟩
      · rintro e1 h1 ⟨_, rfl, hk⟩
        refine RunS.weaken hk fun j => ?_
        refine RunS.block (K1 := fun x' e h => x' = .exit 0 ∧ h = H1 l N ∧ KeptAt 1 e (lk N x y true N) lkJ) ?_ (fun x e h hc => by obtain ⟨rfl, hc⟩ := hc; exact ⟨rfl, hc⟩)
        exact (sfA_loop l N x y hN hy hx hm (K := fun x' e h => x' = .exit 0 ∧ h = H1 l N ∧ KeptAt 1 e (lk N x y true N) lkJ) (fun e he => ⟨rfl, rfl, he⟩) 0 j (Nat.zero_le _))
    · rintro e1 h1 ⟨_, rfl, hk⟩
      refine RunS.weaken hk fun j => ?_
      refine run_pathH sfG (N := 3000) [] [0, 2, 3, 4, 5, 6] lkJ (bs := []) (o := (.normal, true, [some (.sl 0 0 N none), some (.s (.bool false)), some (.s (.int .i64 x)), some (.s (.int .i64 y)), some (.s (.bool true)), some (.s (.int .i64 y))], true)) (H' := H1 l N) (by kernel_rfl) (by kernel_rfl) rfl fun x' e ho => ?_
      simp only [obsA, Prod.mk.injEq, List.map_cons, List.map_nil, List.cons.injEq, and_true] at ho
      obtain ⟨h1, h2, ⟨g0, g2, g3, g4, g5, g6⟩, h4⟩ := ho
      exact ⟨h1, rfl, h2, rfl, .inl g0, .inl g2, .inl g3, .inl g4, .inl g5, .inl g6, trivial⟩
def sfPost (x : Ex) (e : T AV) (h : Hp) : Prop := (x = .normal ∨ x = .ret) ∧ (∃ z, e.get 2 = some z ∧ unP z = some (.bool true)) ∧ NoOld (H1 l N) h
/-- Behind what has been found. -/
theorem sfT4_run (hN : N ≤ 1000) (B : Bool) (hB : firF l N 0 = bif B then some ((x : Int), y) else none) (h0 : B = false → x = 0 ∧ y = 0) (j : Nat → Value) : RunS Try.prog (.seq (sfS5 Try.prog) (.seq (.seq (cL (sfS14 Try.prog)) (.block 2 (.loop (sfB Try.prog)))) (sfS22 Try.prog))) (mkJ (lk N x y B N) lkJ j) (H1 l N) (sfPost l N) := by
  have mid : ∀ (E : Nat), E ≤ N → (∀ a, a < E → ∀ m, m < a → meetsV (l a) (l m) = false) → ∀ j, RunS Try.prog (.seq (.seq (cL (sfS14 Try.prog)) (.block 2 (.loop (sfB Try.prog)))) (sfS22 Try.prog)) (mkJ (lk N x y B E) lkJ j) (H1 l N) (sfPost l N) := by
    intro E hEN hm j
    refine RunS.seq (K1 := fun x' e h => x' = .normal ∧ h = H1 l N ∧ KeptAt 1 e (lk N x y B E) lkJ) ?_ ?_ (fun x e h hx hc => absurd hc.1 hx)
    · refine RunS.seq (K1 := fun x' e h => x' = .normal ∧ h = H1 l N ∧ KeptAt 1 e (lk8 N x y B E 0) lk8J) ?_ ?_ (fun x e h hx hc => absurd hc.1 hx)
      · refine run_pathH sfG (N := 3000) [] [0, 2, 3, 4, 5, 6, 8] lk8J (bs := []) (o := (.normal, true, [some (.sl 0 0 N none), some (.s (.bool false)), some (.s (.int .i64 x)), some (.s (.int .i64 y)), some (.s (.bool B)), some (.s (.int .i64 E)), some (.v (.int .i64 0))], true)) (H' := H1 l N) (by kernel_rfl) (by kernel_rfl) rfl fun x' e ho => ?_
        simp only [obsA, Prod.mk.injEq, List.map_cons, List.map_nil, List.cons.injEq, and_true] at ho
        obtain ⟨h1, h2, ⟨g0, g2, g3, g4, g5, g6, g8⟩, h4⟩ := ho
        exact ⟨h1, rfl, h2, rfl, .inl g0, .inl g2, .inl g3, .inl g4, .inl g5, .inl g6, .inr ⟨_, rfl, g8⟩, trivial⟩
      · rintro e1 h1 ⟨_, rfl, hk⟩
        refine RunS.weaken hk fun j => ?_
        refine RunS.block (K1 := fun x' e h => x' = .exit 2 ∧ h = H1 l N ∧ KeptAt 1 e (lk N x y B E) lkJ) ?_ (fun x e h hc => by obtain ⟨rfl, hc⟩ := hc; exact ⟨rfl, hc⟩)
        exact sfB_loop l N x y B E hN hEN hm (fun e he => ⟨rfl, rfl, he⟩) 0 j (Nat.zero_le _)
    · rintro e1 h1 ⟨_, rfl, hk⟩
      refine RunS.weaken hk fun j => ?_
      cases B with
      | true =>
        refine run_pathH sfG (N := 3000) [true] [2] [] (bs := [true]) (o := (.ret, false, [some (.v (.bool true))], true)) (H' := H1 l N) (by kernel_rfl) (by kernel_rfl) rfl fun x' e ho => ?_
        simp only [obsA, Prod.mk.injEq, List.map_cons, List.map_nil, List.cons.injEq, and_true] at ho
        obtain ⟨h1, _, g2, h4⟩ := ho
        exact ⟨.inr h1, ⟨_, g2, rfl⟩, noOld_of rfl h4⟩
      | false =>
        obtain ⟨rfl, rfl⟩ := h0 rfl
        refine run_pathH sfG (N := 3000) [false, true] [2] [] (bs := [false, ((0 : Nat) : Int) == 0]) (o := (.ret, false, [some (.s (.bool (((0 : Nat) : Int) == 0)))], true)) (H' := H1 l N) (by kernel_rfl) (by kernel_rfl) rfl fun x' e ho => ?_
        simp only [obsA, Prod.mk.injEq, List.map_cons, List.map_nil, List.cons.injEq, and_true] at ho
        obtain ⟨h1, _, g2, h4⟩ := ho
        exact ⟨.inr h1, ⟨_, g2, rfl⟩, noOld_of rfl h4⟩
  rw [sfS5_split]
  refine RunS.seq (K1 := fun x' e h => x' = .normal ∧ h = H1 l N ∧ KeptAt 1 e (lk N x y B (bif B then y else N)) lkJ) ?_ ?_ (fun x e h hx hc => absurd hc.1 hx)
  · refine RunS.seq (K1 := fun x' e h => x' = .normal ∧ h = H1 l N ∧ KeptAt 1 e (lk26 N x y B) lk26J) ?_ ?_ (fun x e h hx hc => absurd hc.1 hx)
    · refine run_pathH sfG (N := 3000) [] [0, 2, 3, 4, 5, 6, 26] lk26J (bs := []) (o := (.normal, true, [some (.sl 0 0 N none), some (.s (.bool false)), some (.s (.int .i64 x)), some (.s (.int .i64 y)), some (.s (.bool B)), some (.s (.int .i64 N)), some (.s (.bool B))], true)) (H' := H1 l N) (by kernel_rfl) (by kernel_rfl) rfl fun x' e ho => ?_
      simp only [obsA, Prod.mk.injEq, List.map_cons, List.map_nil, List.cons.injEq, and_true] at ho
      obtain ⟨h1, h2, ⟨g0, g2, g3, g4, g5, g6, g26⟩, h4⟩ := ho
      exact ⟨h1, rfl, h2, rfl, .inl g0, .inl g2, .inl g3, .inl g4, .inl g5, .inl g6, .inl g26, trivial⟩
    · rintro e1 h1 ⟨_, rfl, hk⟩
      refine RunS.weaken hk fun j => ?_
      refine RunS.cond (b := B) (by kernel_rfl) ?_
      cases B with
      | true =>
        obtain ⟨n, hn, _, hy, hlt, hme, hm, _⟩ := firF_some l N 0 _ _ hB
        have : n = x := by omega
        subst this
        exact sfX5_run l N n y hN (by omega) hlt hme hm j
      | false =>
        refine RunS.skip ⟨rfl, rfl, ?_⟩
        exact ⟨by kernel_rfl, rfl, .inl (by kernel_rfl), .inl (by kernel_rfl), .inl (by kernel_rfl), .inl (by kernel_rfl), .inl (by kernel_rfl), .inl (by kernel_rfl), trivial⟩
  · rintro e1 h1 ⟨_, rfl, hk⟩
    refine RunS.weaken hk fun j => ?_
    cases B with
    | true =>
      obtain ⟨n, hn, _, hy, hlt, hme, hm, ha⟩ := firF_some l N 0 _ _ hB
      exact mid y (by omega) (fun a h1 => ha a (Nat.zero_le _) h1) j
    | false => exact mid N (Nat.le_refl _) (fun a h1 => firF_none l N 0 hB a (Nat.zero_le _) (by omega)) j
end
end Go.Proofs.Ytcncjghcnofioaa
