/- The statement SpanFirst comes to true at whatever list. No condition. -/
import Derived.Test.YtcncjghcnofioaaSpF
namespace Go.Proofs.Ytcncjghcnofioaa
open Ev
set_option maxRecDepth 100000
theorem sfG : Ev.Good Try.prog (orS (sumS fiS) spS) := ⟨sp_mix, sp_ok, (orS_ok fiS_ok spS_ok).ok, (orS_ok fiS_ok spS_ok).kl⟩
/- The plain law: the first two that meet. -/
theorem idx_ge (l : Nat → V) (v : V) : ∀ d i, idxF l v d i = -1 ∨ ∃ n : Nat, idxF l v d i = n ∧ i ≤ n ∧ n < i + d ∧ meetsV v (l n) = true ∧ ∀ m, i ≤ m → m < n → meetsV v (l m) = false
  | 0, i => .inl rfl
  | d + 1, i => by
    simp only [idxF]
    cases hm : meetsV v (l i) with
    | true => exact .inr ⟨i, rfl, by omega, by omega, hm, fun m h1 h2 => by omega⟩
    | false =>
      rcases idx_ge l v d (i + 1) with h | ⟨n, h1, h2, h3, h4, h5⟩
      · exact .inl h
      · exact .inr ⟨n, h1, by omega, by omega, h4, fun m a b => by
          by_cases c : m = i
          · subst c; exact hm
          · exact h5 m (by omega) b⟩
theorem idx_none (l : Nat → V) (v : V) : ∀ d i, idxF l v d i = -1 → ∀ m, i ≤ m → m < i + d → meetsV v (l m) = false
  | 0, i, _, m, h1, h2 => by omega
  | d + 1, i, h, m, h1, h2 => by
    simp only [idxF] at h
    cases hm : meetsV v (l i) with
    | true => rw [hm] at h; simp only [cond_true] at h; omega
    | false =>
      rw [hm] at h
      by_cases c : m = i
      · subst c; exact hm
      · exact idx_none l v d (i + 1) h m (by omega) (by omega)
theorem fiX_spec (l : Nat → V) (i : Nat) : (fiX l i < 0 ∧ ∀ m, m < i → meetsV (l i) (l m) = false) ∨ ∃ n : Nat, fiX l i = n ∧ n < i ∧ meetsV (l i) (l n) = true ∧ ∀ m, m < n → meetsV (l i) (l m) = false := by
  unfold fiX
  rcases idx_ge l (l i) i 0 with h | ⟨n, h1, _, h3, h4, h5⟩
  · exact .inl ⟨by omega, fun m hm => idx_none l (l i) i 0 h m (by omega) (by omega)⟩
  · exact .inr ⟨n, h1, by omega, h4, fun m hm => h5 m (by omega) hm⟩
theorem firF_none (l : Nat → V) : ∀ d i, firF l d i = none → ∀ a, i ≤ a → a < i + d → ∀ m, m < a → meetsV (l a) (l m) = false
  | 0, i, _, a, h1, h2, _, _ => by omega
  | d + 1, i, h, a, h1, h2, m, hm => by
    simp only [firF] at h
    split at h
    · cases h
    · rename_i hx
      by_cases c : a = i
      · subst c
        rcases fiX_spec l a with ⟨_, h4⟩ | ⟨n, h4, _⟩
        · exact h4 m hm
        · omega
      · exact firF_none l d (i + 1) h a (by omega) (by omega) m hm
theorem firF_some (l : Nat → V) : ∀ d i x y, firF l d i = some (x, y) → ∃ n : Nat, x = n ∧ i ≤ y ∧ y < i + d ∧ n < y ∧ meetsV (l y) (l n) = true ∧ (∀ m, m < n → meetsV (l y) (l m) = false) ∧ ∀ a, i ≤ a → a < y → ∀ m, m < a → meetsV (l a) (l m) = false
  | 0, i, x, y, h => by cases h
  | d + 1, i, x, y, h => by
    simp only [firF] at h
    split at h
    · rename_i hx
      cases h
      rcases fiX_spec l i with ⟨h4, _⟩ | ⟨n, h4, h5, h6, h7⟩
      · omega
      · exact ⟨n, h4, by omega, by omega, h5, h6, h7, fun a h1 h2 => by omega⟩
    · rename_i hx
      obtain ⟨n, h1, h2, h3, h4, h5, h6, h7⟩ := firF_some l d (i + 1) x y h
      refine ⟨n, h1, by omega, by omega, h4, h5, h6, fun a ha hb m hm => ?_⟩
      by_cases c : a = i
      · subst c
        rcases fiX_spec l a with ⟨_, h8⟩ | ⟨n', h8, _⟩
        · exact h8 m hm
        · omega
      · exact h7 a (by omega) hb m hm
theorem meetsV_comm (a b : V) : meetsV a b = meetsV b a := meets_comm _ _ _ _ _ _ _ _

/- The code's parts. -/
def sfB0 (P : Program) : Code := cL (codeOf P 10)
def sfS1 (P : Program) : Code := cL (cR (codeOf P 10))
def sfT1 (P : Program) : Code := cR (cR (codeOf P 10))
def sfR3 (P : Program) : Code := cL (sfT1 P)
def sfR4 (P : Program) : Code := cL (cR (sfT1 P))
def sfT4 (P : Program) : Code := cR (cR (sfT1 P))
def sfS5 (P : Program) : Code := cL (sfT4 P)
def sfS14 (P : Program) : Code := cL (cR (sfT4 P))
def sfS22 (P : Program) : Code := cR (cR (sfT4 P))
def sfB (P : Program) : Code := cL (cL (cR (sfS14 P)))
def sfC (P : Program) : Code := cL (cL (cR (cL (cL (cR (sfB P))))))
theorem sf_split : codeOf Try.prog 10 = .seq (sfB0 Try.prog) (.seq (sfS1 Try.prog) (.seq (sfR3 Try.prog) (.seq (sfR4 Try.prog) (.seq (sfS5 Try.prog) (.seq (.seq (cL (sfS14 Try.prog)) (.block 2 (.loop (sfB Try.prog)))) (sfS22 Try.prog)))))) := by kernel_rfl
theorem sfB_split : sfB Try.prog = .seq (cL (sfB Try.prog)) (.seq (.block 3 (.seq (cL (cL (cL (cR (sfB Try.prog))))) (.block 4 (.loop (sfC Try.prog))))) (cR (cR (sfB Try.prog)))) := by kernel_rfl
def lk (N x y : Nat) (B : Bool) (E : Nat) : List (Nat × AV) := [(0, .sl 0 0 N none), (2, .s (.bool false)), (3, .s (.int .i64 x)), (4, .s (.int .i64 y)), (5, .s (.bool B)), (6, .s (.int .i64 E))]
def lkJ : List Nat := List.range' 7 88
def lk8 (N x y : Nat) (B : Bool) (E a : Nat) : List (Nat × AV) := lk N x y B E ++ [(8, .s (.int .i64 a))]
def lk8J : List Nat := 7 :: List.range' 9 86
def lk9 (N x y : Nat) (B : Bool) (E a b : Nat) : List (Nat × AV) := lk8 N x y B E a ++ [(9, .s (.int .i64 b))]
def lk9J : List Nat := 7 :: List.range' 10 85
section
variable (l : Nat → V) (N x y : Nat) (B : Bool) (E : Nat)
def cTests (a b : Nat) : List Bool := [decide ((b : Int) < (a : Int)), decide (0 ≤ (a : Int)) && decide ((a : Int) < (N : Int)), Nat.blt (0 + (a : Int).toNat) N, decide (0 ≤ (b : Int)) && decide ((b : Int) < (N : Int)), Nat.blt (0 + (b : Int).toNat) N, meetsV (l (0 + (a : Int).toNat)) (l (0 + (b : Int).toNat))]
theorem at_tests (N i : Nat) (h : i < N) : (decide (0 ≤ (i : Int)) && decide ((i : Int) < (N : Int))) = true ∧ Nat.blt (0 + (i : Int).toNat) N = true ∧ 0 + (i : Int).toNat = i := by
  have h1 : (0 : Int) ≤ (i : Int) := by omega
  have h2 : (i : Int) < (N : Int) := by omega
  refine ⟨by rw [decide_eq_true h1, decide_eq_true h2]; rfl, by simp; omega, by simp⟩
theorem cTests_eq (a b : Nat) (ha : a < N) (hb : b < a) : cTests l N a b = [true, true, true, true, true, meetsV (l a) (l b)] := by
  obtain ⟨a1, a2, a3⟩ := at_tests N a ha
  obtain ⟨b1, b2, b3⟩ := at_tests N b (by omega)
  unfold cTests
  rw [a1, a2, a3, b1, b2, b3, decide_eq_true (by omega : (b : Int) < (a : Int))]
theorem sfC_loop (hN : N ≤ 1000) (a : Nat) (ha : a < N) (hm : ∀ m, m < a → meetsV (l a) (l m) = false) {K : Ex → T AV → Hp → Prop} (hE : ∀ e, KeptAt 1 e (lk8 N x y B E a) lk8J → K (.exit 4) e (H1 l N)) :
    ∀ (b : Nat) (j : Nat → Value), b ≤ a → RunS Try.prog (.loop (sfC Try.prog)) (mkJ (lk9 N x y B E a b) lk9J j) (H1 l N) K := by
  refine RunS.loop (fun b => b ≤ a) (fun b => a - b) (fun b => lk9 N x y B E a b) lk9J (K := K) ?_
  intro b j hb
  by_cases c : b < a
  · refine run_pathH sfG (N := 3000) [true, true, true, true, true, false] [0, 2, 3, 4, 5, 6, 8, 9] lk9J (bs := cTests l N a b) (o := (.normal, true, [some (.sl 0 0 N none), some (.s (.bool false)), some (.s (.int .i64 x)), some (.s (.int .i64 y)), some (.s (.bool B)), some (.s (.int .i64 E)), some (.s (.int .i64 a)), some (.s (.int .i64 (IntKind.i64.wrap ((b : Int) + 1))))], true)) (H' := H1 l N) (by kernel_rfl) (by kernel_rfl) (by rw [cTests_eq l N a b ha c, hm b c]) fun x e ho => ?_
    simp only [obsA, Prod.mk.injEq, List.map_cons, List.map_nil, List.cons.injEq, and_true] at ho
    obtain ⟨h1, h2, ⟨g0, g2, g3, g4, g5, g6, g8, g9⟩, h4⟩ := ho
    subst h1
    rw [wrap_id (by omega)] at g9
    exact ⟨noOld_of rfl h4, b + 1, by omega, by omega, h2, rfl, .inl g0, .inl g2, .inl g3, .inl g4, .inl g5, .inl g6, .inl g8, .inl (by rw [g9]; simp), trivial⟩
  · refine run_pathH sfG (N := 3000) [false] [0, 2, 3, 4, 5, 6, 8] lk8J (bs := [decide ((b : Int) < (a : Int))]) (o := (.exit 4, true, [some (.sl 0 0 N none), some (.s (.bool false)), some (.s (.int .i64 x)), some (.s (.int .i64 y)), some (.s (.bool B)), some (.s (.int .i64 E)), some (.s (.int .i64 a))], true)) (H' := H1 l N) (by kernel_rfl) (by kernel_rfl) (by simp; omega) fun x e ho => ?_
    simp only [obsA, Prod.mk.injEq, List.map_cons, List.map_nil, List.cons.injEq, and_true] at ho
    obtain ⟨h1, h2, ⟨g0, g2, g3, g4, g5, g6, g8⟩, h4⟩ := ho
    subst h1
    exact ⟨noOld_of rfl h4, hE e ⟨h2, rfl, .inl g0, .inl g2, .inl g3, .inl g4, .inl g5, .inl g6, .inl g8, trivial⟩⟩
theorem sfB_loop (hN : N ≤ 1000) (hEN : E ≤ N) (hm : ∀ a, a < E → ∀ m, m < a → meetsV (l a) (l m) = false) {K : Ex → T AV → Hp → Prop} (hE : ∀ e, KeptAt 1 e (lk N x y B E) lkJ → K (.exit 2) e (H1 l N)) :
    ∀ (a : Nat) (j : Nat → Value), a ≤ E → RunS Try.prog (.loop (sfB Try.prog)) (mkJ (lk8 N x y B E a) lk8J j) (H1 l N) K := by
  refine RunS.loop (fun a => a ≤ E) (fun a => E - a) (fun a => lk8 N x y B E a) lk8J (K := K) ?_
  intro a j ha
  rw [sfB_split]
  by_cases c : a < E
  · refine RunS.seq (K1 := fun x' e h => x' = .normal ∧ h = H1 l N ∧ KeptAt 1 e (lk8 N x y B E a) lk8J) ?_ ?_ (fun x e h hx hc => absurd hc.1 hx)
    · refine run_pathH sfG (N := 3000) [true] [0, 2, 3, 4, 5, 6, 8] lk8J (bs := [decide ((a : Int) < (E : Int))]) (o := (.normal, true, [some (.sl 0 0 N none), some (.s (.bool false)), some (.s (.int .i64 x)), some (.s (.int .i64 y)), some (.s (.bool B)), some (.s (.int .i64 E)), some (.s (.int .i64 a))], true)) (H' := H1 l N) (by kernel_rfl) (by kernel_rfl) (by simp; omega) fun x e ho => ?_
      simp only [obsA, Prod.mk.injEq, List.map_cons, List.map_nil, List.cons.injEq, and_true] at ho
      obtain ⟨h1, h2, ⟨g0, g2, g3, g4, g5, g6, g8⟩, h4⟩ := ho
      exact ⟨h1, rfl, h2, rfl, .inl g0, .inl g2, .inl g3, .inl g4, .inl g5, .inl g6, .inl g8, trivial⟩
    · rintro e1 h1 ⟨_, rfl, hk⟩
      refine RunS.weaken hk fun j => ?_
      refine RunS.seq (K1 := fun x' e h => x' = .normal ∧ h = H1 l N ∧ KeptAt 1 e (lk8 N x y B E a) lk8J) ?_ ?_ (fun x e h hx hc => absurd hc.1 hx)
      · refine RunS.block (K1 := fun x' e h => x' = .normal ∧ h = H1 l N ∧ KeptAt 1 e (lk8 N x y B E a) lk8J) ?_ (fun x e h hc => by obtain ⟨rfl, hc⟩ := hc; exact ⟨rfl, hc⟩)
        refine RunS.seq (K1 := fun x' e h => x' = .normal ∧ h = H1 l N ∧ KeptAt 1 e (lk9 N x y B E a 0) lk9J) ?_ ?_ (fun x e h hx hc => absurd hc.1 hx)
        · refine run_pathH sfG (N := 3000) [] [0, 2, 3, 4, 5, 6, 8, 9] lk9J (bs := []) (o := (.normal, true, [some (.sl 0 0 N none), some (.s (.bool false)), some (.s (.int .i64 x)), some (.s (.int .i64 y)), some (.s (.bool B)), some (.s (.int .i64 E)), some (.s (.int .i64 a)), some (.v (.int .i64 0))], true)) (H' := H1 l N) (by kernel_rfl) (by kernel_rfl) rfl fun x e ho => ?_
          simp only [obsA, Prod.mk.injEq, List.map_cons, List.map_nil, List.cons.injEq, and_true] at ho
          obtain ⟨h1, h2, ⟨g0, g2, g3, g4, g5, g6, g8, g9⟩, h4⟩ := ho
          exact ⟨h1, rfl, h2, rfl, .inl g0, .inl g2, .inl g3, .inl g4, .inl g5, .inl g6, .inl g8, .inr ⟨_, rfl, g9⟩, trivial⟩
        · rintro e1 h1 ⟨_, rfl, hk⟩
          refine RunS.weaken hk fun j => ?_
          refine RunS.block (K1 := fun x' e h => x' = .exit 4 ∧ h = H1 l N ∧ KeptAt 1 e (lk8 N x y B E a) lk8J) ?_ (fun x e h hc => by obtain ⟨rfl, hc⟩ := hc; exact ⟨rfl, hc⟩)
          exact sfC_loop l N x y B E hN a (by omega) (hm a c) (fun e he => ⟨rfl, rfl, he⟩) 0 j (Nat.zero_le _)
      · rintro e1 h1 ⟨_, rfl, hk⟩
        refine RunS.weaken hk fun j => ?_
        refine run_pathH sfG (N := 3000) [] [0, 2, 3, 4, 5, 6, 8] lk8J (bs := []) (o := (.normal, true, [some (.sl 0 0 N none), some (.s (.bool false)), some (.s (.int .i64 x)), some (.s (.int .i64 y)), some (.s (.bool B)), some (.s (.int .i64 E)), some (.s (.int .i64 (IntKind.i64.wrap ((a : Int) + 1))))], true)) (H' := H1 l N) (by kernel_rfl) (by kernel_rfl) rfl fun x e ho => ?_
        simp only [obsA, Prod.mk.injEq, List.map_cons, List.map_nil, List.cons.injEq, and_true] at ho
        obtain ⟨h1, h2, ⟨g0, g2, g3, g4, g5, g6, g8⟩, h4⟩ := ho
        subst h1
        rw [wrap_id (by omega)] at g8
        exact ⟨noOld_of rfl h4, a + 1, by omega, by omega, h2, rfl, .inl g0, .inl g2, .inl g3, .inl g4, .inl g5, .inl g6, .inl (by rw [g8]; simp), trivial⟩
  · refine RunS.seq (K1 := fun x' e h => x' = .exit 2 ∧ h = H1 l N ∧ KeptAt 1 e (lk N x y B E) lkJ) ?_ (fun e h hc => by cases hc.1) (fun x e h hx hc => ?_)
    · refine run_pathH sfG (N := 3000) [false] [0, 2, 3, 4, 5, 6] lkJ (bs := [decide ((a : Int) < (E : Int))]) (o := (.exit 2, true, [some (.sl 0 0 N none), some (.s (.bool false)), some (.s (.int .i64 x)), some (.s (.int .i64 y)), some (.s (.bool B)), some (.s (.int .i64 E))], true)) (H' := H1 l N) (by kernel_rfl) (by kernel_rfl) (by simp; omega) fun x e ho => ?_
      simp only [obsA, Prod.mk.injEq, List.map_cons, List.map_nil, List.cons.injEq, and_true] at ho
      obtain ⟨h1, h2, ⟨g0, g2, g3, g4, g5, g6⟩, h4⟩ := ho
      exact ⟨h1, rfl, h2, rfl, .inl g0, .inl g2, .inl g3, .inl g4, .inl g5, .inl g6, trivial⟩
    · obtain ⟨rfl, rfl, hk⟩ := hc
      exact ⟨⟨[], rfl, by simp⟩, hE e hk⟩
end
end Go.Proofs.Ytcncjghcnofioaa
