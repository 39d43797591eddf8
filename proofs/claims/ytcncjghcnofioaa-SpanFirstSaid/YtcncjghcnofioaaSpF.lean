/- span.First at whatever list. No condition. -/
import Derived.Test.YtcncjghcnofioaaSpI
namespace Go.Proofs.Ytcncjghcnofioaa
open Ev
set_option maxRecDepth 100000
theorem ixG : Ev.Good Try.prog (orS (sumS ixX) spS) := ⟨sp_mix, sp_ok, (orS_ok ixX_ok spS_ok).ok, (orS_ok ixX_ok spS_ok).kl⟩
/-- A list in memory. -/
def H1 (l : Nat → V) (N : Nat) : Hp := (⟨.leaf, 0, []⟩ : Hp).new (.rows (gV l) N 4 vK)
def fiC (P : Program) : Code := cL (cL (cR (cL (cR (codeOf P 47)))))
def fiKept (N i : Nat) : List (Nat × AV) := [(0, .sl 0 0 N none), (2, .s (.int .i64 0)), (3, .s (.int .i64 0)), (4, .s (.bool false)), (8, .sl 0 0 N none), (9, .s (.int .i64 N)), (10, .s (.int .i64 i))]
def fiJk : List Nat := [5, 6, 7, 11, 12, 13, 14, 15, 16, 17, 18, 19, 20, 21, 22, 23, 24]
theorem fi_split : codeOf Try.prog 47 = .seq (cL (codeOf Try.prog 47)) (.seq (.seq (cL (cL (cR (codeOf Try.prog 47)))) (.block 0 (.loop (fiC Try.prog)))) (cR (cR (codeOf Try.prog 47)))) := by kernel_rfl
theorem fi_end (l : Nat → V) (N i : Nat) (j : Nat → Value) (hi : ¬ i < N) {K : Ex → T AV → Hp → Prop} (hK : ∀ e h, NoOld (H1 l N) h → KeptAt h.nx e [] (List.range 25) → K (.exit 0) e h) : RunS Try.prog (fiC Try.prog) (mkJ (fiKept N i) fiJk j) (H1 l N) K :=
  run_path ixG (N := 3000) [false] [] (List.range 25) (bs := [decide ((i : Int) < (N : Int))]) (o := (.exit 0, true, [], true)) (by kernel_rfl) (by kernel_rfl) (by simp; omega) fun a ha => by
    obtain ⟨x, e, h⟩ := a
    simp only [obsA, Prod.mk.injEq] at ha
    obtain ⟨h1, h2, _, h4⟩ := ha
    subst h1
    exact hK e h (noOld_of rfl h4) ⟨h2, rfl, trivial⟩
def fiX (l : Nat → V) (i : Nat) : Int := idxF l (l i) i 0
def fiTests (l : Nat → V) (N i : Nat) : List Bool := [decide ((i : Int) < (N : Int)), decide (0 ≤ (i : Int)) && decide ((i : Int) < (N : Int)), Nat.blt (0 + (i : Int).toNat) N, decide (0 ≤ (i : Int)) && Nat.ble (i : Int).toNat N, Nat.ble (i : Int).toNat N, decide (idxF l (l (0 + (i : Int).toNat)) (i : Int).toNat 0 ≥ 0)]
theorem fiTests_eq (l : Nat → V) (N i : Nat) (hi : i < N) : fiTests l N i = [true, true, true, true, true, decide (fiX l i ≥ 0)] := by
  unfold fiTests fiX
  have e : (i : Int).toNat = i := by simp
  rw [e, Nat.zero_add]
  have h1 : (i : Int) < (N : Int) := by omega
  have h2 : Nat.blt i N = true := by simp; omega
  have h3 : (0 : Int) ≤ (i : Int) := by omega
  have h4 : Nat.ble i N = true := by simp; omega
  rw [decide_eq_true h1, decide_eq_true h3, h2, h4]; rfl
theorem fi_hit (l : Nat → V) (N i : Nat) (j : Nat → Value) (hi : i < N) (hm : fiX l i ≥ 0) {K : Ex → T AV → Hp → Prop} (hK : ∀ e h, NoOld (H1 l N) h → e.get 2 = some (.s (.int .i64 (fiX l i))) → e.get 3 = some (.s (.int .i64 i)) → e.get 4 = some (.v (.bool true)) → K .ret e h) : RunS Try.prog (fiC Try.prog) (mkJ (fiKept N i) fiJk j) (H1 l N) K :=
  run_path ixG (N := 3000) [true, true, true, true, true, true] [2, 3, 4] [] (bs := fiTests l N i) (o := (.ret, false, [some (.s (.int .i64 (idxF l (l (0 + (i : Int).toNat)) (i : Int).toNat 0))), some (.s (.int .i64 i)), some (.v (.bool true))], true)) (by kernel_rfl) (by kernel_rfl) (by rw [fiTests_eq l N i hi, decide_eq_true hm]) fun a ha => by
    obtain ⟨x, e, h⟩ := a
    simp only [obsA, Prod.mk.injEq, List.map_cons, List.map_nil, List.cons.injEq, and_true] at ha
    obtain ⟨h1, _, ⟨g2, g3, g4⟩, h4⟩ := ha
    subst h1
    refine hK e h (noOld_of rfl h4) ?_ g3 g4
    rw [g2]
    have e : (i : Int).toNat = i := by simp
    rw [e, Nat.zero_add]; rfl
theorem fi_miss (l : Nat → V) (N i : Nat) (j : Nat → Value) (hi : i < N) (hN : N ≤ 9223372036854775807) (hm : ¬ fiX l i ≥ 0) {K : Ex → T AV → Hp → Prop} (hK : ∀ e h, NoOld (H1 l N) h → KeptAt (H1 l N).nx e (fiKept N (i + 1)) fiJk → K .normal e h) : RunS Try.prog (fiC Try.prog) (mkJ (fiKept N i) fiJk j) (H1 l N) K :=
  run_path ixG (N := 3000) [true, true, true, true, true, false] [0, 2, 3, 4, 8, 9, 10] fiJk (bs := fiTests l N i) (o := (.normal, true, [some (.sl 0 0 N none), some (.s (.int .i64 0)), some (.s (.int .i64 0)), some (.s (.bool false)), some (.sl 0 0 N none), some (.s (.int .i64 N)), some (.s (.int .i64 (IntKind.i64.wrap ((i : Int) + 1))))], true)) (by kernel_rfl) (by kernel_rfl) (by rw [fiTests_eq l N i hi, decide_eq_false hm]) fun a ha => by
    obtain ⟨x, e, h⟩ := a
    simp only [obsA, Prod.mk.injEq, List.map_cons, List.map_nil, List.cons.injEq, and_true] at ha
    obtain ⟨h1, h2, ⟨g0, g2, g3, g4, g8, g9, g10⟩, h4⟩ := ha
    subst h1
    rw [wrap_id (by omega)] at g10
    exact hK e h (noOld_of rfl h4) ⟨h2, rfl, .inl g0, .inl g2, .inl g3, .inl g4, .inl g8, .inl g9, .inl (by rw [g10]; simp), trivial⟩
/-- The first two of a list that meet. -/
def firF (l : Nat → V) : Nat → Nat → Option (Int × Nat)
  | 0, _ => none
  | d + 1, i => if fiX l i ≥ 0 then some (fiX l i, i) else firF l d (i + 1)
def fiVal : Option (Int × Nat) → Value
  | none => .tuple #[.int .i64 0, .int .i64 0, .bool false]
  | some (x, i) => .tuple #[.int .i64 x, .int .i64 i, .bool true]
theorem fi_loop (l : Nat → V) (N : Nat) (hN : N ≤ 9223372036854775807) {K : Ex → T AV → Hp → Prop} (hR : ∀ (x : Int) (i : Nat) e h, firF l N 0 = some (x, i) → NoOld (H1 l N) h → e.get 2 = some (.s (.int .i64 x)) → e.get 3 = some (.s (.int .i64 i)) → e.get 4 = some (.v (.bool true)) → K .ret e h) (hE : firF l N 0 = none → ∀ e h, NoOld (H1 l N) h → KeptAt h.nx e [] (List.range 25) → K (.exit 0) e h) :
    ∀ (i : Nat) (j : Nat → Value), (i ≤ N ∧ firF l (N - i) i = firF l N 0) → RunS Try.prog (.loop (fiC Try.prog)) (mkJ (fiKept N i) fiJk j) (H1 l N) K := by
  refine RunS.loop (fun i => i ≤ N ∧ firF l (N - i) i = firF l N 0) (fun i => N - i) (fiKept N) fiJk (K := K) ?_
  intro i j ⟨hik, hx⟩
  by_cases c : i < N
  · have hstep : N - i = (N - (i + 1)) + 1 := by omega
    rw [hstep] at hx
    simp only [firF] at hx
    by_cases hm : fiX l i ≥ 0
    · rw [if_pos hm] at hx
      exact fi_hit l N i j c hm fun e h h1 g2 g3 g4 => ⟨h1, hR _ i e h hx.symm h1 g2 g3 g4⟩
    · rw [if_neg hm] at hx
      exact fi_miss l N i j c hN hm fun e h h1 h2 => ⟨h1, i + 1, ⟨by omega, hx⟩, by omega, h2⟩
  · have : N - i = 0 := by omega
    rw [this] at hx
    exact fi_end l N i j c fun e h h1 h2 => ⟨h1, hE hx.symm e h h1 h2⟩
def fiPost (l : Nat → V) (N : Nat) (x : Ex) (e : T AV) (h : Hp) : Prop := (x = .normal ∨ x = .ret) ∧ (∃ z2 z3 z4, e.get 2 = some z2 ∧ e.get 3 = some z3 ∧ e.get 4 = some z4 ∧ unP (mkTup [z2, z3, z4]) = some (fiVal (firF l N 0))) ∧ NoOld (H1 l N) h
theorem fi_run (l : Nat → V) (N : Nat) (hN : N ≤ 9223372036854775807) : RunS Try.prog (codeOf Try.prog 47) (params [.sl 0 0 N none]) (H1 l N) (fiPost l N) := by
  rw [fi_split]
  refine RunS.seq (K1 := fun x e h => x = .normal ∧ h = H1 l N ∧ KeptAt 1 e [(0, .sl 0 0 N none), (2, .s (.int .i64 0)), (3, .s (.int .i64 0)), (4, .s (.bool false))] []) ?_ ?_ (fun x e h hx hc => absurd hc.1 hx)
  · refine run_pathH ixG (N := 100) [] [0, 2, 3, 4] [] (bs := []) (o := (.normal, true, [some (.sl 0 0 N none), some (.v (.int .i64 0)), some (.v (.int .i64 0)), some (.v (.bool false))], true)) (H' := H1 l N) (by kernel_rfl) (by kernel_rfl) rfl fun x e ha => ?_
    simp only [obsA, Prod.mk.injEq, List.map_cons, List.map_nil, List.cons.injEq, and_true] at ha
    obtain ⟨h1, h2, ⟨g0, g2, g3, g4⟩, _⟩ := ha
    exact ⟨h1, rfl, h2, rfl, .inl g0, .inr ⟨_, rfl, g2⟩, .inr ⟨_, rfl, g3⟩, .inr ⟨_, rfl, g4⟩, trivial⟩
  · rintro e1 h1 ⟨_, rfl, hkept⟩
    refine RunS.weaken hkept fun j => ?_
    refine RunS.seq (K1 := fun x e h => NoOld (H1 l N) h ∧ ((x = .normal ∧ firF l N 0 = none ∧ KeptAt h.nx e [] (List.range 25)) ∨ (x = .ret ∧ ∃ (y : Int) (i : Nat), firF l N 0 = some (y, i) ∧ e.get 2 = some (.s (.int .i64 y)) ∧ e.get 3 = some (.s (.int .i64 i)) ∧ e.get 4 = some (.v (.bool true))))) ?_ ?_ ?_
    · refine RunS.seq (K1 := fun x e h => x = .normal ∧ h = H1 l N ∧ KeptAt 1 e (fiKept N 0) fiJk) ?_ ?_ (fun x e h hx hc => absurd hc.1 hx)
      · refine run_pathH ixG (N := 100) [] [0, 2, 3, 4, 8, 9, 10] fiJk (bs := []) (o := (.normal, true, [some (.sl 0 0 N none), some (.s (.int .i64 0)), some (.s (.int .i64 0)), some (.s (.bool false)), some (.sl 0 0 N none), some (.s (.int .i64 N)), some (.v (.int .i64 0))], true)) (H' := H1 l N) (by kernel_rfl) (by kernel_rfl) rfl fun x e ha => ?_
        simp only [obsA, Prod.mk.injEq, List.map_cons, List.map_nil, List.cons.injEq, and_true] at ha
        obtain ⟨h1, h2, ⟨g0, g2, g3, g4, g8, g9, g10⟩, _⟩ := ha
        exact ⟨h1, rfl, h2, rfl, .inl g0, .inl g2, .inl g3, .inl g4, .inl g8, .inl g9, .inr ⟨_, rfl, g10⟩, trivial⟩
      · rintro e1 h1 ⟨_, rfl, hkept⟩
        refine RunS.block (K1 := fun x e h => NoOld (H1 l N) h ∧ ((x = .exit 0 ∧ firF l N 0 = none ∧ KeptAt h.nx e [] (List.range 25)) ∨ (x = .ret ∧ ∃ (y : Int) (i : Nat), firF l N 0 = some (y, i) ∧ e.get 2 = some (.s (.int .i64 y)) ∧ e.get 3 = some (.s (.int .i64 i)) ∧ e.get 4 = some (.v (.bool true))))) ?_ ?_
        · refine RunS.weaken hkept fun j => fi_loop l N hN (fun x i e h hi h1 g2 g3 g4 => ⟨h1, .inr ⟨rfl, x, i, hi, g2, g3, g4⟩⟩) (fun hi e h h1 h2 => ⟨h1, .inl ⟨rfl, hi, h2⟩⟩) 0 j ⟨Nat.zero_le _, rfl⟩
        · rintro x e h ⟨h1, ⟨rfl, h2⟩ | ⟨rfl, h2⟩⟩
          · exact ⟨h1, .inl ⟨rfl, h2⟩⟩
          · exact ⟨h1, .inr ⟨rfl, h2⟩⟩
    · rintro e1 h1 ⟨hno, ⟨_, hidx, hkept⟩ | ⟨hx, _⟩⟩
      · refine RunS.weaken hkept fun j => ?_
        refine run_pathH ixG (N := 100) [] [2, 3, 4] [] (bs := []) (o := (.ret, false, [some (.v (.int .i64 0)), some (.v (.int .i64 0)), some (.v (.bool false))], h1.lg.all (fun n => Nat.ble h1.nx n))) (H' := h1) (by kernel_rfl) (by kernel_rfl) rfl fun x e ha => ?_
        simp only [obsA, Prod.mk.injEq, List.map_cons, List.map_nil, List.cons.injEq, and_true] at ha
        obtain ⟨h1', _, g2, g3, g4⟩ := ha
        exact ⟨.inr h1', ⟨_, _, _, g2, g3, g4, by rw [hidx]; rfl⟩, hno⟩
      · cases hx
    · rintro x e h hx ⟨hno, ⟨h1, _⟩ | ⟨h1, y, i, hi, g2, g3, g4⟩⟩
      · exact absurd h1 hx
      · exact ⟨.inr h1, ⟨_, _, _, g2, g3, g4, by rw [hi]; rfl⟩, hno⟩
theorem fi_calls (l : Nat → V) (N cap : Nat) (p : Pl) (w : World) (hp : ORel (fun _ => none) (.rows (gV l) N 4 vK) p w) (lp : p.b < w.heap.size) (hc : N ≤ cap) (hc2 : p.o + cap * 4 ≤ p.s) :
    Calls Try.prog 47 #[.slice (some ⟨p.b, p.o, none⟩) N cap] w fun e w' => e = .returned (fiVal (firF l N 0)) ∧ Fr noB w w' := by
  have hz : p.z = 4 := hp.1
  have hN := hp.2.1.2
  refine calls_run (P := Try.prog) (c := codeOf Try.prog 47) Try.func47 (by kernel_rfl) (by kernel_rfl) (args := [.sl 0 0 N none]) (h := H1 l N) (ρ := fun n => if n = 0 then some p else none) ?_ (HR.one hp lp) ((fi_run l N hN).mono ?_)
  · exact ⟨_, _, rfl, ⟨p, cap, rfl, by rw [Nat.zero_mul, Nat.add_zero], hc, by rw [hz, Nat.zero_add]; exact hc2, fun c h => by cases h⟩, rfl⟩
  · rintro x e h ⟨h1, ⟨z2, z3, z4, g2, g3, g4, hu⟩, h3⟩
    refine ⟨h1, ⟨[z2, z3, z4], ?_, hu⟩, h3⟩
    show resA Try.prog h e [.tmp 2, .tmp 3, .tmp 4] = some [z2, z3, z4]
    simp only [resA, Option.map_some, g2, g3, g4, Option.getD_some]
def fiA : Option (Int × Nat) → Int
  | none => 0
  | some (x, _) => x
def fiB : Option (Int × Nat) → Int
  | none => 0
  | some (_, i) => i
theorem fiVal_eq (o : Option (Int × Nat)) : fiVal o = .tuple #[.int .i64 (fiA o), .int .i64 (fiB o), .bool o.isSome] := by
  cases o with
  | none => rfl
  | some x => obtain ⟨x, i⟩ := x; rfl
def fiS : SumBr := fun f args h => bif Nat.beq f 47 then match args with
  | [.sl n off k _] => bif Nat.beq off 0 then match h.ob.get n with
    | some (.rows g N sz ks) => bif isVK ks && Nat.beq sz 4 then
        some (.test (Nat.beq k N) (.leaf (.s (.tuple #[.int .i64 (fiA (firF (fun i => toV (g i)) N 0)), .int .i64 (fiB (firF (fun i => toV (g i)) N 0)), .bool (firF (fun i => toV (g i)) N 0).isSome]), h)) .no) else none
    | _ => none
    else none
  | _ => none else none
theorem fiS_ok : SumG Try.prog (sumS fiS) := by
  have key : ∀ f args h v h', sumS fiS f args h = some (v, h') → h' = h ∧ f = 47 ∧ ∃ n cap g N, args = [.sl n 0 N cap] ∧ h.ob.get n = some (.rows g N 4 vK) ∧ v = .s (fiVal (firF (fun i => toV (g i)) N 0)) := by
    intro f args h v h' hs
    unfold sumS at hs
    split at hs
    · rename_i B hB
      unfold fiS at hB
      simp only [cond_eq_ite] at hB
      split at hB
      · rename_i hf
        split at hB
        · rename_i n off k cap
          split at hB
          · rename_i c1
            have c1 := Nat.eq_of_beq_eq_true c1
            subst c1
            split at hB
            · rename_i g N sz ks ho1
              split at hB
              · rename_i hk
                simp only [Bool.and_eq_true] at hk
                obtain ⟨k1, k2⟩ := hk
                have k1 := isVK_eq k1
                have k2 := Nat.eq_of_beq_eq_true k2
                subst k1 k2
                cases hB
                cases hkn : Nat.beq k N with
                | false => simp [Br.pure, Br.ev, hkn] at hs
                | true =>
                  have hkN := Nat.eq_of_beq_eq_true hkn
                  subst hkN
                  simp only [Br.pure, Br.ev, hkn, Bool.and_self, cond_true, Option.some.injEq, Prod.mk.injEq] at hs
                  obtain ⟨rfl, rfl⟩ := hs
                  exact ⟨rfl, Nat.eq_of_beq_eq_true hf, n, cap, g, k, rfl, ho1, by rw [fiVal_eq]⟩
              · cases hB
            · cases hB
          · cases hB
        · cases hB
      · cases hB
    · cases hs
  refine ⟨fun f args h v h' hs => ?_, fun f args h v h' hs => by obtain ⟨rfl, _⟩ := key _ _ _ _ _ hs; exact KL.refl _⟩
  obtain ⟨rfl, rfl, n, cap, g, N, rfl, ho1, rfl⟩ := key _ _ _ _ _ hs
  refine ⟨enters_of (by kernel_rfl), fun ρ w ys hys hh => ?_⟩
  obtain ⟨y1, r1, e1, ⟨p, kc, hp, rfl, q1, q2, _⟩, e2⟩ := hys
  simp only [VRels] at e2
  subst e2
  have hys' : ys = #[.slice (some ⟨p.b, p.o + 0 * p.z, none⟩) N kc] := Array.ext' (by simpa using e1)
  obtain ⟨p', hp', o1⟩ := hh.obj n _ ho1 (hh.dm _ _ hp)
  rw [hp] at hp'; cases hp'
  have := fi_calls (fun i => toV (g i)) N kc p w (rows_gV o1) (hh.dom n p hp).2 q1 (by have := o1.1; rw [this, Nat.zero_add] at q2; exact q2)
  rw [hys']
  simp only [Nat.zero_mul, Nat.add_zero]
  refine this.mono ?_
  rintro en w' ⟨rfl, hf⟩
  exact ⟨_, ρ, [], rfl, rfl, hh.fr hf, .ofFr hh.dm hf, rfl⟩
end Go.Proofs.Ytcncjghcnofioaa
