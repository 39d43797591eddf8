/- For every input the statement RuleNamed answers true, and each argument reads behind the call as it read before; on its tied card. No condition. -/
import Derived.Test.YtengccmjlaejfaaDoorRows
import Derived.Test.YtengccmjlaejfaaDoorTie
import Derived.Test.YtengccmjlaejfaaDoorCards
import Derived.Test.YtengccmjlaejfaaDoorMg27
import Derived.Test.YtengccmjlaejfaaDoorMg22
import Derived.WalkKit
import Derived.ProofKit
import Derived.OpenShut
import Derived.ShutString
import Derived.ChangeOld
import Derived.Below
import Derived.SizedLaws
import Derived.Lay
import Derived.LaidOnce
import Derived.SevenTiedAt
namespace Go.Proofs.YtengccmjlaejfaaDoor.ruleNamed
open Go.ChangeShapes Go.WideShapes Go.ChangeAt Go.RowKit Go.Proofs.YtengccmjlaejfaaDoor.Ev
theorem own : ownKnob Tryd.prog.godebug = none := by kernel_rfl
theorem laidOut : laidOutB Tryd.prog = true := by kernel_rfl
set_option maxRecDepth 100000 in
theorem lifted (os : Os) (started : os.Started) (H : Type) (enc : TypeId × Value → H) :
    ReturnsInHanded {} Tryd.checked os 5 .any (fun w args => (Rows.ruleNamedSpec.pre enc Tryd.prog Tryd.f5 [] false w args ∧ laidMetH Tryd.prog Rows.ruleNamedRow.laid w) ∧ sizedMet enc Tryd.prog Tryd.f5 (OpenSpec.ofChange Rows.ruleNamedSpec) false w args)
      (Rows.ruleNamedSpec.post enc Tryd.prog Tryd.f5 false true false false) := by
  refine returnsInHanded_of_change_and (C := Tryd.checked) (X := fun w _ => laidMetH Tryd.prog Rows.ruleNamedRow.laid w) (fun _ _ _ hh h => h.of_heap hh) own started (by kernel_rfl) Tryd.func5
    (ChangeSpec.witness_shaped (enc := enc) (C := Tryd.checked) (os := os) (X := fun w _ => laidMetH Tryd.prog Rows.ruleNamedRow.laid w) false (World.laidAll Tryd.prog os Rows.ruleNamedRow.laid) #[.agg #[.int .u8 0, .string ⟨#[]⟩, .string ⟨#[]⟩, .slice none 0 0, .int .u8 0, .int .u8 0, .int .i64 0, .int .i64 0, .string ⟨#[]⟩, .int .i64 0, .slice none 0 0, .string ⟨#[]⟩, .int .u8 0, .int .u8 0, .bool false, .bool false], .agg #[.string ⟨#[]⟩, .slice none 0 0, .string ⟨#[]⟩], .agg #[.int .u8 0, .string ⟨#[]⟩, .string ⟨#[]⟩, .slice none 0 0, .int .u8 0, .int .u8 0, .int .i64 0, .int .i64 0, .string ⟨#[]⟩, .int .i64 0, .slice none 0 0, .string ⟨#[]⟩, .int .u8 0, .int .u8 0, .bool false, .bool false], .agg #[.string ⟨#[]⟩, .slice none 0 0, .string ⟨#[]⟩], .int .i64 0, .agg #[.string ⟨#[]⟩, .int .u8 0, .int .u8 0, .int .i64 0, .int .i64 0, .string ⟨#[]⟩]] 8 (World.laidAll_os _ _ _)
      (World.shaped_of_ZipB (by kernel_rfl) (by kernel_rfl)) (by kernel_rfl) (by kernel_rfl) (by kernel_rfl)
      (by rw [MakeChecks.laidMetH_plain _ _ _ (by kernel_rfl)]; exact laidMet_laidAll _ (by kernel_rfl) (by kernel_rfl))) ?_
  intro W base args ds gs before hval0 hW _ _ _ _
  have hval : ∀ (j : Nat) t v, Tryd.f5.params[j]? = some t → args[j]? = some v → Value.okWide Tryd.prog W .any base t v := hval0
  have hW' := hW
  obtain ⟨p, q, hA0, hV, rfl, hfz, hnd⟩ := hW
  have hA : DataW.TrodAll enc Tryd.prog W 0 (fun _ => true) true Tryd.f5.params.toList args.toList ds p := hA0
  rw [Tryd.params5] at hA hval
  obtain ⟨v0, vs0, d0, ds0, p0, q0, hargs0, rfl, rfl, h0, r0⟩ := trodAll_cons hA
  obtain ⟨v1, vs1, d1, ds1, p1, q1, hargs1, rfl, rfl, h1, r1⟩ := trodAll_cons r0
  obtain ⟨v2, vs2, d2, ds2, p2, q2, hargs2, rfl, rfl, h2, r2⟩ := trodAll_cons r1
  obtain ⟨v3, vs3, d3, ds3, p3, q3, hargs3, rfl, rfl, h3, r3⟩ := trodAll_cons r2
  obtain ⟨v4, vs4, d4, ds4, p4, q4, hargs4, rfl, rfl, h4, r4⟩ := trodAll_cons r3
  obtain ⟨v5, vs5, d5, ds5, p5, q5, hargs5, rfl, rfl, h5, r5⟩ := trodAll_cons r4
  obtain ⟨hnil, rfl, rfl⟩ := trodAll_nil r5
  obtain ⟨rfl, rfl⟩ := trodVars_none hV
  obtain rfl : args = #[v0, v1, v2, v3, v4, v5] := by apply Array.ext'; rw [hargs0, hargs1, hargs2, hargs3, hargs4, hargs5, hnil]
  have k0 := h0
  have lt0 : ∀ x ∈ p0, x.block < W.heap.size := by obtain ⟨m, hm⟩ := k0; exact DataW.trod_lt m _ _ _ hm
  have k1 := h1
  have lt1 : ∀ x ∈ p1, x.block < W.heap.size := by obtain ⟨m, hm⟩ := k1; exact DataW.trod_lt m _ _ _ hm
  have k2 := h2
  have lt2 : ∀ x ∈ p2, x.block < W.heap.size := by obtain ⟨m, hm⟩ := k2; exact DataW.trod_lt m _ _ _ hm
  have k3 := h3
  have lt3 : ∀ x ∈ p3, x.block < W.heap.size := by obtain ⟨m, hm⟩ := k3; exact DataW.trod_lt m _ _ _ hm
  have k4 := h4
  have lt4 : ∀ x ∈ p4, x.block < W.heap.size := by obtain ⟨m, hm⟩ := k4; exact DataW.trod_lt m _ _ _ hm
  have k5 := h5
  have lt5 : ∀ x ∈ p5, x.block < W.heap.size := by obtain ⟨m, hm⟩ := k5; exact DataW.trod_lt m _ _ _ hm
  obtain ⟨c0, rfl, hc0⟩ := okWide_struct Tryd.underlying40 (hval 0 40 v0 rfl rfl)
  have hcc0 : c0.size = 16 := hc0.trans (by kernel_rfl)
  obtain ⟨fuel0, hf0⟩ := h0
  obtain ⟨t0, hr0⟩ := rl_read hcc0 (fun _ => rfl) hf0
  obtain ⟨c1, rfl, hc1⟩ := okWide_struct Tryd.underlying27 (hval 1 27 v1 rfl rfl)
  have hcc1 : c1.size = 3 := hc1.trans (by kernel_rfl)
  obtain ⟨fuel1, hf1⟩ := h1
  obtain ⟨t1, hr1⟩ := ta_read hcc1 (fun _ => rfl) hf1
  obtain ⟨c2, rfl, hc2⟩ := okWide_struct Tryd.underlying40 (hval 2 40 v2 rfl rfl)
  have hcc2 : c2.size = 16 := hc2.trans (by kernel_rfl)
  obtain ⟨fuel2, hf2⟩ := h2
  obtain ⟨t2, hr2⟩ := rl_read hcc2 (fun _ => rfl) hf2
  obtain ⟨c3, rfl, hc3⟩ := okWide_struct Tryd.underlying27 (hval 3 27 v3 rfl rfl)
  have hcc3 : c3.size = 3 := hc3.trans (by kernel_rfl)
  obtain ⟨fuel3, hf3⟩ := h3
  obtain ⟨t3, hr3⟩ := ta_read hcc3 (fun _ => rfl) hf3
  obtain ⟨s4, rfl⟩ := okWide_int Tryd.underlying3 (hval 4 3 v4 rfl rfl)
  obtain ⟨c5, rfl, hc5⟩ := okWide_struct Tryd.underlying33 (hval 5 33 v5 rfl rfl)
  have hcc5 : c5.size = 6 := hc5.trans (by kernel_rfl)
  obtain ⟨fuel5, hf5⟩ := h5
  obtain ⟨t5, hr5⟩ := co_read hcc5 (fun _ => rfl) hf5
  clear hA0 hval0
  refine (o_calls (rna_ok t0 t1 t2 t3 s4 t5) ⟨_, _, rfl, hr0, ⟨_, _, rfl, hr1, ⟨_, _, rfl, hr2, ⟨_, _, rfl, hr3, ⟨_, _, rfl, rfl, ⟨_, _, rfl, hr5, rfl⟩⟩⟩⟩⟩⟩).mono fun e W' ⟨he, hfr⟩ => ?_
  subst he
  have bel : Below W.heap.size W W' := hfr.below (Nat.le_refl _) (fun _ _ x => x)
  exact ⟨_, rfl, _, _, _, [], _, [], hW', trodAll_mk1 (shut_bool Tryd.underlying4 _), (trodAll_cons_mk (Below.trod laidOut (by kernel_rfl) (of_decide_eq_true (by kernel_rfl)) k0 bel lt0) (trodAll_cons_mk (Below.trod laidOut (by kernel_rfl) (of_decide_eq_true (by kernel_rfl)) k1 bel lt1) (trodAll_cons_mk (Below.trod laidOut (by kernel_rfl) (of_decide_eq_true (by kernel_rfl)) k2 bel lt2) (trodAll_cons_mk (Below.trod laidOut (by kernel_rfl) (of_decide_eq_true (by kernel_rfl)) k3 bel lt3) (trodAll_cons_mk (Below.trod laidOut (by kernel_rfl) (of_decide_eq_true (by kernel_rfl)) k4 bel lt4) (trodAll_cons_mk (Below.trod laidOut (by kernel_rfl) (of_decide_eq_true (by kernel_rfl)) k5 bel lt5) trodAll_mk0)))))), rfl, bel.frame _, fun h => by cases h⟩
theorem over : Rows.ruleNamedRow.holds Tryd.pinned (OpenSpec.ofChange Rows.ruleNamedSpec) :=
  OpenClaim.holds_of_wide 5 Tryd.f5 rfl rfl rfl rfl rfl rfl rfl ⟨rfl, rfl, rfl, rfl, rfl⟩ rfl rfl rfl rfl rfl (by kernel_rfl) Tryd.func5 (by kernel_rfl)
    (of_decide_eq_true (by kernel_rfl)) (by unfold Func.isWrapper; first | (rw [if_pos (by decide +kernel)]; kernel_rfl) | (rw [if_neg (by decide +kernel)]; exact ⟨rfl, rfl⟩))
    (fun os started H enc _ => lifted os started H enc)
end Go.Proofs.YtengccmjlaejfaaDoor.ruleNamed
namespace Go.Proofs.YtengccmjlaejfaaDoor
theorem ruleNamed_holds : Rows.RuleNamedCardSaid :=
  Claim7.holds_tied_plain_at .later [] [.data, .pinned] true (true, "beb333ce99a1a7dfc74db14fb62d5751325145be3e3bd6948835343b4092d133") false ruleNamed.over (fun _ h => by cases h) (by kernel_rfl) (fun _ h => by cases h) ruleNamed_row_tie rfl ⟨rfl, rfl⟩ (by kernel_rfl) rfl
    (fun f fn hf hfn => by
      obtain rfl : f = 5 := Option.some.inj ((show Tryd.prog.funcNamed "covenant/covenantlaw08.RuleNamed" = some 5 by kernel_rfl).symm.trans hf) |>.symm
      obtain rfl : fn = Tryd.f5 := (Option.some.inj (Tryd.func5.symm.trans hfn)).symm
      exact ⟨by kernel_rfl, fun j t ht => by
        rw [Tryd.params5] at ht
        have hm : t ∈ ([40, 27, 40, 27, 3, 33] : List TypeId) := by simpa using Array.mem_of_getElem? ht
        have hall : (([40, 27, 40, 27, 3, 33] : List TypeId).all fun u => !Tryd.prog.wantsStandIn u) = true := by kernel_rfl
        exact (show Tryd.prog.wantsStandIn t = false by simpa using List.all_eq_true.1 hall t hm)⟩)
    (by kernel_rfl)
#print axioms ruleNamed_holds
end Go.Proofs.YtengccmjlaejfaaDoor
