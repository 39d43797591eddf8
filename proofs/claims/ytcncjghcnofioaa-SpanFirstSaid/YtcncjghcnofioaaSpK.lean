/- The statement SpanFirst comes to true, as its row asks. No condition. -/
import Derived.Test.YtcncjghcnofioaaSpJ
namespace Go.Proofs.Ytcncjghcnofioaa
open Ev
set_option maxRecDepth 100000
theorem sf_run (l : Nat → V) (N : Nat) : RunS Try.prog (codeOf Try.prog 10) (params [.sl 0 0 N none]) (H1 l N) (sfPost l N) := by
  rw [sf_split]
  refine RunS.seq (K1 := fun x' e h => x' = .normal ∧ h = H1 l N ∧ KeptAt 1 e [(0, .sl 0 0 N none), (2, .s (.bool false))] []) ?_ ?_ (fun x e h hx hc => absurd hc.1 hx)
  · refine run_pathH sfG (N := 3000) [] [0, 2] [] (bs := []) (o := (.normal, true, [some (.sl 0 0 N none), some (.v (.bool false))], true)) (H' := H1 l N) (by kernel_rfl) (by kernel_rfl) rfl fun x' e ho => ?_
    simp only [obsA, Prod.mk.injEq, List.map_cons, List.map_nil, List.cons.injEq, and_true] at ho
    obtain ⟨h1, h2, ⟨g0, g2⟩, h4⟩ := ho
    exact ⟨h1, rfl, h2, rfl, .inl g0, .inr ⟨_, rfl, g2⟩, trivial⟩
  rintro e1 h1 ⟨_, rfl, hk⟩
  refine RunS.weaken hk fun j => ?_
  by_cases hN : N ≤ 100
  · refine RunS.seq (K1 := fun x' e h => x' = .normal ∧ h = H1 l N ∧ KeptAt 1 e [(0, .sl 0 0 N none), (2, .s (.bool false))] (List.range' 10 14)) ?_ ?_ (fun x e h hx hc => absurd hc.1 hx)
    · refine run_pathH sfG (N := 3000) [false, false] [0, 2] (List.range' 10 14) (bs := [decide ((N : Int) > 100), !true]) (o := (.normal, true, [some (.sl 0 0 N none), some (.s (.bool false))], true)) (H' := H1 l N) (by kernel_rfl) (by kernel_rfl) (by simp; omega) fun x' e ho => ?_
      simp only [obsA, Prod.mk.injEq, List.map_cons, List.map_nil, List.cons.injEq, and_true] at ho
      obtain ⟨h1, h2, ⟨g0, g2⟩, h4⟩ := ho
      exact ⟨h1, rfl, h2, rfl, .inl g0, .inl g2, trivial⟩
    rintro e1 h1 ⟨_, rfl, hk⟩
    refine RunS.weaken hk fun j => ?_
    have key : ∀ (x y : Nat) (B : Bool), firF l N 0 = (bif B then some ((x : Int), y) else none) → (B = false → x = 0 ∧ y = 0) → fiA (firF l N 0) = x → fiB (firF l N 0) = y → (firF l N 0).isSome = B →
        RunS Try.prog (.seq (sfR3 Try.prog) (.seq (sfR4 Try.prog) (.seq (sfS5 Try.prog) (.seq (.seq (cL (sfS14 Try.prog)) (.block 2 (.loop (sfB Try.prog)))) (sfS22 Try.prog))))) (mkJ [(0, .sl 0 0 N none), (2, .s (.bool false))] (List.range' 10 14) j) (H1 l N) (sfPost l N) := by
      intro x y B h1 h2 h3 h4 h5
      refine RunS.seq (K1 := fun x' e h => x' = .normal ∧ h = H1 l N ∧ KeptAt 1 e [(0, .sl 0 0 N none), (2, .s (.bool false)), (3, .s (.int .i64 x)), (4, .s (.int .i64 y)), (5, .s (.bool B))] (List.range' 10 14)) ?_ ?_ (fun x e h hx hc => absurd hc.1 hx)
      · refine run_pathH sfG (N := 3000) [true] [0, 2, 3, 4, 5] (List.range' 10 14) (bs := [Nat.beq N N]) (o := (.normal, true, [some (.sl 0 0 N none), some (.s (.bool false)), some (.s (.int .i64 (fiA (firF l N 0)))), some (.s (.int .i64 (fiB (firF l N 0)))), some (.s (.bool (firF l N 0).isSome))], true)) (H' := H1 l N) (by kernel_rfl) (by kernel_rfl) (by simp) fun x' e ho => ?_
        simp only [obsA, Prod.mk.injEq, List.map_cons, List.map_nil, List.cons.injEq, and_true] at ho
        obtain ⟨k1, k2, ⟨g0, g2, g3, g4, g5⟩, k4⟩ := ho
        rw [h3] at g3; rw [h4] at g4; rw [h5] at g5
        exact ⟨k1, rfl, k2, rfl, .inl g0, .inl g2, .inl g3, .inl g4, .inl g5, trivial⟩
      rintro e1 h1' ⟨_, rfl, hk⟩
      refine RunS.weaken hk fun j => ?_
      refine RunS.seq (K1 := fun x' e h => x' = .normal ∧ h = H1 l N ∧ KeptAt 1 e (lk N x y B N) lkJ) ?_ ?_ (fun x e h hx hc => absurd hc.1 hx)
      · refine run_pathH sfG (N := 3000) [] [0, 2, 3, 4, 5, 6] lkJ (bs := []) (o := (.normal, true, [some (.sl 0 0 N none), some (.s (.bool false)), some (.s (.int .i64 x)), some (.s (.int .i64 y)), some (.s (.bool B)), some (.s (.int .i64 N))], true)) (H' := H1 l N) (by kernel_rfl) (by kernel_rfl) rfl fun x' e ho => ?_
        simp only [obsA, Prod.mk.injEq, List.map_cons, List.map_nil, List.cons.injEq, and_true] at ho
        obtain ⟨k1, k2, ⟨g0, g2, g3, g4, g5, g6⟩, k4⟩ := ho
        exact ⟨k1, rfl, k2, rfl, .inl g0, .inl g2, .inl g3, .inl g4, .inl g5, .inl g6, trivial⟩
      rintro e1 h1' ⟨_, rfl, hk⟩
      exact RunS.weaken hk fun j => sfT4_run l N x y (by omega) B h1 h2 j
    cases ho : firF l N 0 with
    | none => exact key 0 0 false ho (fun _ => ⟨rfl, rfl⟩) (by rw [ho]; rfl) (by rw [ho]; rfl) (by rw [ho]; rfl)
    | some z =>
      obtain ⟨X, y⟩ := z
      obtain ⟨n, hn, _⟩ := firF_some l N 0 _ _ ho
      subst hn
      exact key n y true ho (fun h => by cases h) (by rw [ho]; rfl) (by rw [ho]; rfl) (by rw [ho]; rfl)
  · refine RunS.seq (K1 := fun x' e h => x' = .ret ∧ h = H1 l N ∧ e.get 2 = some (.s (.bool true))) ?_ (fun e h hc => by cases hc.1) (fun x e h hx hc => ?_)
    · refine run_pathH sfG (N := 3000) [true] [2] [] (bs := [decide ((N : Int) > 100)]) (o := (.ret, false, [some (.s (.bool true))], true)) (H' := H1 l N) (by kernel_rfl) (by kernel_rfl) (by simp; omega) fun x' e ho => ?_
      simp only [obsA, Prod.mk.injEq, List.map_cons, List.map_nil, List.cons.injEq, and_true] at ho
      obtain ⟨h1, _, g2, h4⟩ := ho
      exact ⟨h1, rfl, g2⟩
    · obtain ⟨h1, rfl, g2⟩ := hc
      exact ⟨.inr h1, ⟨_, g2, rfl⟩, [], rfl, by simp⟩
theorem sf_calls (l : Nat → V) (N cap : Nat) (p : Pl) (w : World) (hp : ORel (fun _ => none) (.rows (gV l) N 4 vK) p w) (lp : p.b < w.heap.size) (hc : N ≤ cap) (hc2 : p.o + cap * 4 ≤ p.s) :
    Calls Try.prog 10 #[.slice (some ⟨p.b, p.o, none⟩) N cap] w fun e w' => e = .returned (.bool true) ∧ Fr noB w w' := by
  have hz : p.z = 4 := hp.1
  refine calls_run (P := Try.prog) (c := codeOf Try.prog 10) Try.func10 (by kernel_rfl) (by kernel_rfl) (args := [.sl 0 0 N none]) (h := H1 l N) (ρ := fun n => if n = 0 then some p else none) ?_ (HR.one hp lp) ((sf_run l N).mono ?_)
  · exact ⟨_, _, rfl, ⟨p, cap, rfl, by rw [Nat.zero_mul, Nat.add_zero], hc, by rw [hz, Nat.zero_add]; exact hc2, fun c h => by cases h⟩, rfl⟩
  · rintro x e h ⟨h1, ⟨z, g2, hu⟩, h3⟩
    refine ⟨h1, ⟨[z], ?_, hu⟩, h3⟩
    show resA Try.prog h e [.tmp 2] = some [z]
    simp only [resA, Option.map_some, g2, Option.getD_some]
/-- The list that is none. -/
theorem sf_none (w : World) : Calls Try.prog 10 #[.slice none 0 0] w fun e w' => e = .returned (.bool true) ∧ Fr noB w w' :=
  calls_open sp_mix sp_ok spS_ok 3000 (args := [.v (.slice none 0 0)]) (xs := [.slice none 0 0]) (by kernel_rfl) (by kernel_rfl) (by kernel_rfl) w
end Go.Proofs.Ytcncjghcnofioaa
