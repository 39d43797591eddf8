/- Is a role another one? No condition. -/
import Derived.Test.YtffcaapbmkaceaaDoorRpK
namespace Go.Proofs.YtffcaapbmkaceaaDoor
open Ev Go.RowKit
set_option maxRecDepth 100000
set_option linter.unusedVariables false
def stO (N : List ByteArray) (I : List (ByteArray × ByteArray)) : AO := .cells [.fz (eL N) N.length [.str], .fz (eL I) I.length [.str, .str]] 2 0 true false
def is_cf : Nat → Cfg := cfL [mkC 76 [2, 3, 7, 8, 9] [(3, []), (7, [])], mkC 76 [2, 3, 7, 8, 9, 38, 39, 40] [(3, []), (7, [])]]
def is_a (N : List ByteArray) (I : List (ByteArray × ByteArray)) (who to : ByteArray) : List AV := [stA N I, .s (.string who), .s (.string to)]
noncomputable def is_t (P : Program) (N : List ByteArray) (I : List (ByteArray × ByteArray)) (who to : ByteArray) : Br PO :=
(.test (!decide (idxS (dL ByteArray (eL N) N.length) who ≥ 0))
  (.leaf (.fin ⟨Ex.ret, true, [some (AV.v (Value.bool false))], []⟩))
  (.test (!decide (idxS (dL ByteArray (eL N) N.length) to ≥ 0))
    (.leaf (.fin ⟨Ex.ret, true, [some (AV.v (Value.bool false))], []⟩))
    (.leaf (.at 0 (ct P 15 0).1 (ct P 15 0).2 ⟨Ex.normal, true, [some (AV.s (Value.string to)), some (AV.ptr 65536 0 0), some (AV.sl 65537 0 1 (some 1)), some (AV.s (Value.bool (who.toList == to.toList))), some (AV.v (Value.int IntKind.i64 (0)))], [OS.o (AO.cells [AV.fz (eL N) N.length [TK.str], AV.fz (eL I) I.length [TK.str, TK.str]] 2 65536 true false), OS.o (AO.cells [AV.s (Value.string who)] 1 65539 true false)]⟩))
  )
)
theorem is_h (N : List ByteArray) (I : List (ByteArray × ByteArray)) (who to : ByteArray) : (ev Tryd.prog slX noS 3000 noL 3000 .normal [.c 0 (codeOf Tryd.prog 15)] (params (is_a N I who to)) Ev.start).map (lookP Tryd.prog (resOf Tryd.prog 15) [] is_cf) = is_t Tryd.prog N I who to := by kernel_rfl
def is_v0 (N : List ByteArray) (I : List (ByteArray × ByteArray)) (who to : ByteArray) (A : List ByteArray) (fd : Bool) (i : Nat) : List AV := [.s (.string to), .ptr 65536 0 0, .osl 65537 A.length, .s (.bool fd), .s (.int .i64 i)]
def is_o0 (N : List ByteArray) (I : List (ByteArray × ByteArray)) (who to : ByteArray) (A : List ByteArray) (fd : Bool) (i : Nat) : List AO := [stO N I, .rows (eL A) A.length [.str]]
noncomputable def is_t0 (P : Program) (N : List ByteArray) (I : List (ByteArray × ByteArray)) (who to : ByteArray) (A : List ByteArray) (fd : Bool) (i : Nat) : Br PO :=
(.test (decide ((↑i : Int) < (↑A.length : Int)))
  (.test (!fd)
    (.leaf (.at 1 (ct P 15 1).1 (ct P 15 1).2 ⟨Ex.normal, true, [some (AV.s (Value.string to)), some (AV.ptr 65536 0 0), some (AV.osl 65537 A.length), some (AV.s (Value.bool fd)), some (AV.s (Value.int IntKind.i64 (Int.ofNat i))), some (AV.fz (eL I) I.length [TK.str, TK.str]), some (AV.s (Value.int IntKind.i64 (Int.ofNat I.length))), some (AV.v (Value.int IntKind.i64 (0)))], [OS.o (AO.cells [AV.fz (eL N) N.length [TK.str], AV.fz (eL I) I.length [TK.str, TK.str]] 2 0 true false), OS.o (AO.rows (eL A) A.length [TK.str])]⟩))
    (.leaf (.fin ⟨Ex.ret, true, [some (AV.s (Value.bool fd))], []⟩))
  )
  (.leaf (.fin ⟨Ex.ret, true, [some (AV.s (Value.bool fd))], []⟩))
)
theorem is_h0 (N : List ByteArray) (I : List (ByteArray × ByteArray)) (who to : ByteArray) (A : List ByteArray) (fd : Bool) (i : Nat) (j : Nat → Value) : (ev Tryd.prog slX noS 3000 noL 3000 .normal (hd Tryd.prog 15 0) (mkE (is_cf 0) (is_v0 N I who to A fd i) j) (mkH openB (is_o0 N I who to A fd i))).map (lookP Tryd.prog (resOf Tryd.prog 15) [] is_cf) = is_t0 Tryd.prog N I who to A fd i := by kernel_rfl
def is_v1 (N : List ByteArray) (I : List (ByteArray × ByteArray)) (who to : ByteArray) (A : List ByteArray) (fd : Bool) (i j0 : Nat) : List AV := [.s (.string to), .ptr 65536 0 0, .osl 65537 A.length, .s (.bool fd), .s (.int .i64 i), .fz (eL I) I.length [.str, .str], .s (.int .i64 I.length), .s (.int .i64 j0)]
def is_o1 (N : List ByteArray) (I : List (ByteArray × ByteArray)) (who to : ByteArray) (A : List ByteArray) (fd : Bool) (i j0 : Nat) : List AO := [stO N I, .rows (eL A) A.length [.str]]
noncomputable def is_t1 (P : Program) (N : List ByteArray) (I : List (ByteArray × ByteArray)) (who to : ByteArray) (A : List ByteArray) (fd : Bool) (i j0 : Nat) : Br PO :=
(.test (decide ((↑j0 : Int) < (↑I.length : Int)))
  (.test (decide (0 ≤ (↑j0 : Int)) && decide ((↑j0 : Int) < (↑I.length : Int)))
    (.test (decide (0 ≤ (↑i : Int)) && decide ((↑i : Int) < (↑A.length : Int)))
      (.test ((↑i : Int).toNat.blt A.length)
        (.test (!(I.getD (↑j0 : Int).toNat default).fst.toList == (A.getD (↑i : Int).toNat default).toList)
          (.leaf (.at 1 (ct P 15 1).1 (ct P 15 1).2 ⟨Ex.normal, true, [some (AV.s (Value.string to)), some (AV.ptr 65536 0 0), some (AV.osl 65537 A.length), some (AV.s (Value.bool fd)), some (AV.s (Value.int IntKind.i64 (Int.ofNat i))), some (AV.fz (eL I) I.length [TK.str, TK.str]), some (AV.s (Value.int IntKind.i64 (Int.ofNat I.length))), some (AV.s (Value.int IntKind.i64 (IntKind.i64.wrap ((↑j0 : Int) + 1))))], [OS.o (AO.cells [AV.fz (eL N) N.length [TK.str], AV.fz (eL I) I.length [TK.str, TK.str]] 2 0 true false), OS.o (AO.rows (eL A) A.length [TK.str])]⟩))
          (.test (!decide (idxS (dL ByteArray (eL N) N.length) (I.getD (↑j0 : Int).toNat default).snd ≥ 0))
            (.leaf (.at 1 (ct P 15 1).1 (ct P 15 1).2 ⟨Ex.normal, true, [some (AV.s (Value.string to)), some (AV.ptr 65536 0 0), some (AV.osl 65537 A.length), some (AV.s (Value.bool fd)), some (AV.s (Value.int IntKind.i64 (Int.ofNat i))), some (AV.fz (eL I) I.length [TK.str, TK.str]), some (AV.s (Value.int IntKind.i64 (Int.ofNat I.length))), some (AV.s (Value.int IntKind.i64 (IntKind.i64.wrap ((↑j0 : Int) + 1))))], [OS.o (AO.cells [AV.fz (eL N) N.length [TK.str], AV.fz (eL I) I.length [TK.str, TK.str]] 2 0 true false), OS.o (AO.rows (eL A) A.length [TK.str])]⟩))
            (.test (A.length.ble A.length)
              (.test (decide (idxS (dL ByteArray (eL A) A.length) (I.getD (↑j0 : Int).toNat default).snd ≥ 0))
                (.leaf (.at 1 (ct P 15 1).1 (ct P 15 1).2 ⟨Ex.normal, true, [some (AV.s (Value.string to)), some (AV.ptr 65536 0 0), some (AV.osl 65537 A.length), some (AV.s (Value.bool fd)), some (AV.s (Value.int IntKind.i64 (Int.ofNat i))), some (AV.fz (eL I) I.length [TK.str, TK.str]), some (AV.s (Value.int IntKind.i64 (Int.ofNat I.length))), some (AV.s (Value.int IntKind.i64 (IntKind.i64.wrap ((↑j0 : Int) + 1))))], [OS.o (AO.cells [AV.fz (eL N) N.length [TK.str], AV.fz (eL I) I.length [TK.str, TK.str]] 2 0 true false), OS.o (AO.rows (eL A) A.length [TK.str])]⟩))
                (.test ((I.getD (↑j0 : Int).toNat default).snd.toList == to.toList)
                  (.leaf (.fin ⟨Ex.ret, true, [some (AV.s (Value.bool ((I.getD (↑j0 : Int).toNat default).snd.toList == to.toList)))], []⟩))
                  (.test (A.length.beq A.length && (true && (small (1 + A.length) && small (Tryd.prog.types[9].bytes * (1 + A.length)))))
                    (.leaf (.at 1 (ct P 15 1).1 (ct P 15 1).2 ⟨Ex.normal, true, [some (AV.s (Value.string to)), some (AV.ptr 65536 0 0), some (AV.osl 65537 (A.length + 1)), some (AV.s (Value.bool ((I.getD (↑j0 : Int).toNat default).snd.toList == to.toList))), some (AV.s (Value.int IntKind.i64 (Int.ofNat i))), some (AV.fz (eL I) I.length [TK.str, TK.str]), some (AV.s (Value.int IntKind.i64 (Int.ofNat I.length))), some (AV.s (Value.int IntKind.i64 (IntKind.i64.wrap ((↑j0 : Int) + 1))))], [OS.o (AO.cells [AV.fz (eL N) N.length [TK.str], AV.fz (eL I) I.length [TK.str, TK.str]] 2 0 true false), OS.o (AO.rows (catD (eL A) A.length (listD [D.v (Value.string (I.getD (↑j0 : Int).toNat default).snd)] [TK.str].length)) (A.length + 1) [TK.str])]⟩))
                    .no
                  )
                )
              )
              .no
            )
          )
        )
        .no
      )
      .no
    )
    .no
  )
  (.leaf (.at 0 (ct P 15 0).1 (ct P 15 0).2 ⟨Ex.normal, true, [some (AV.s (Value.string to)), some (AV.ptr 65536 0 0), some (AV.osl 65537 A.length), some (AV.s (Value.bool fd)), some (AV.s (Value.int IntKind.i64 (IntKind.i64.wrap ((↑i : Int) + 1))))], [OS.o (AO.cells [AV.fz (eL N) N.length [TK.str], AV.fz (eL I) I.length [TK.str, TK.str]] 2 0 true false), OS.o (AO.rows (eL A) A.length [TK.str])]⟩))
)
theorem is_h1 (N : List ByteArray) (I : List (ByteArray × ByteArray)) (who to : ByteArray) (A : List ByteArray) (fd : Bool) (i j0 : Nat) (j : Nat → Value) : (ev Tryd.prog slX noS 3000 noL 3000 .normal (hd Tryd.prog 15 1) (mkE (is_cf 1) (is_v1 N I who to A fd i j0) j) (mkH openB (is_o1 N I who to A fd i j0))).map (lookP Tryd.prog (resOf Tryd.prog 15) [] is_cf) = is_t1 Tryd.prog N I who to A fd i j0 := by kernel_rfl

/-- Who is reached. -/
inductive Reach (N : List ByteArray) (I : List (ByteArray × ByteArray)) (who : ByteArray) : ByteArray → Prop
  | refl : Reach N I who who
  | step (x y : ByteArray) (h : Reach N I who x) (hi : (x, y) ∈ I) (hn : y ∈ N) : Reach N I who y
open Classical in
noncomputable def isP (N : List ByteArray) (I : List (ByteArray × ByteArray)) (who to : ByteArray) : Bool := decide (who ∈ N ∧ to ∈ N ∧ Reach N I who to)
theorem isP_iff {N : List ByteArray} {I : List (ByteArray × ByteArray)} {who to : ByteArray} : isP N I who to = true ↔ (who ∈ N ∧ to ∈ N ∧ Reach N I who to) := by unfold isP; simp
theorem isP_true {N : List ByteArray} {I : List (ByteArray × ByteArray)} {who to : ByteArray} (h : who ∈ N ∧ to ∈ N ∧ Reach N I who to) : isP N I who to = true := isP_iff.2 h
theorem isP_false {N : List ByteArray} {I : List (ByteArray × ByteArray)} {who to : ByteArray} (h : ¬ (who ∈ N ∧ to ∈ N ∧ Reach N I who to)) : isP N I who to = false := by
  cases hx : isP N I who to with
  | false => rfl
  | true => exact absurd (isP_iff.1 hx) h
inductive IsS where
  | a (A : List ByteArray) (fd : Bool) (i : Nat)
  | b (A : List ByteArray) (fd : Bool) (i j : Nat)
def IsS.pc : IsS → Nat
  | .a _ _ _ => 0
  | .b _ _ _ _ => 1
/-- What holds at the outer loop's head. -/
structure IsJ (N : List ByteArray) (I : List (ByteArray × ByteArray)) (who to : ByteArray) (A : List ByteArray) (i : Nat) : Prop where
  hwho : who ∈ A
  nd : A.Nodup
  sub : ∀ x ∈ A, x ∈ N
  re : ∀ x ∈ A, Reach N I who x
  hi : i ≤ A.length
  cl : ∀ k, k < i → ∀ p ∈ I, p.1 = A.getD k default → p.2 ∈ N → p.2 ∈ A
theorem IsJ.le {N : List ByteArray} {I : List (ByteArray × ByteArray)} {who to : ByteArray} {A : List ByteArray} {i : Nat} (h : IsJ N I who to A i) : A.length ≤ N.length := nodup_le h.nd h.sub
theorem IsJ.app {N : List ByteArray} {I : List (ByteArray × ByteArray)} {who to : ByteArray} {A : List ByteArray} {i : Nat} (h : IsJ N I who to A i) {y : ByteArray} (hy : y ∉ A) (hn : y ∈ N) (hr : Reach N I who y) : IsJ N I who to (A ++ [y]) i := by
  refine ⟨by simp [h.hwho], ?_, fun x hx => ?_, fun x hx => ?_, by simp; have := h.hi; omega, fun k hk p hp he hpn => ?_⟩
  · rw [List.nodup_append]
    refine ⟨h.nd, by simp, fun a ha b hb => ?_⟩
    simp only [List.mem_singleton] at hb
    subst hb
    exact fun e => hy (e ▸ ha)
  · rcases List.mem_append.1 hx with hx | hx
    · exact h.sub x hx
    · simp only [List.mem_singleton] at hx; subst hx; exact hn
  · rcases List.mem_append.1 hx with hx | hx
    · exact h.re x hx
    · simp only [List.mem_singleton] at hx; subst hx; exact hr
  · rw [getD_app (by have := h.hi; omega)] at he
    exact List.mem_append_left _ (h.cl k hk p hp he hpn)
theorem IsJ.end {N : List ByteArray} {I : List (ByteArray × ByteArray)} {who to : ByteArray} {A : List ByteArray} {i : Nat} (h : IsJ N I who to A i) (hi : A.length ≤ i) {x : ByteArray} (hx : Reach N I who x) : x ∈ A := by
  induction hx with
  | refl => exact h.hwho
  | step x y _ hxy hy ih =>
    obtain ⟨k, hk, he⟩ := mem_getD ih
    exact h.cl k (by omega) (x, y) hxy he.symm hy
def IsJs (N : List ByteArray) (I : List (ByteArray × ByteArray)) (who to : ByteArray) : IsS → Prop
  | .a A fd i => (who ∈ N ∧ to ∈ N) ∧ IsJ N I who to A i ∧ (fd = true → Reach N I who to) ∧ (fd = false → to ∉ A)
  | .b A fd i j => (who ∈ N ∧ to ∈ N) ∧ IsJ N I who to A i ∧ (fd = false ∧ to ∉ A) ∧ i < A.length ∧ j ≤ I.length ∧ ∀ q, q < j → (I.getD q default).1 = A.getD i default → (I.getD q default).2 ∈ N → (I.getD q default).2 ∈ A
def IsV (N : List ByteArray) (I : List (ByteArray × ByteArray)) (who to : ByteArray) : IsS → List AV
  | .a A fd i => is_v0 N I who to A fd i
  | .b A fd i j => is_v1 N I who to A fd i j
def IsO (N : List ByteArray) (I : List (ByteArray × ByteArray)) (who to : ByteArray) : IsS → List AO
  | .a A fd i => is_o0 N I who to A fd i
  | .b A fd i j => is_o1 N I who to A fd i j
noncomputable def IsT (P : Program) (N : List ByteArray) (I : List (ByteArray × ByteArray)) (who to : ByteArray) : IsS → Br PO
  | .a A fd i => is_t0 P N I who to A fd i
  | .b A fd i j => is_t1 P N I who to A fd i j
def IsM (n m : Nat) : IsS → Nat × Nat
  | .a _ _ i => (n + 1 - i, m + 1)
  | .b _ _ i j => (n + 1 - i, m - j)
theorem st_le (N : List ByteArray) (I : List (ByteArray × ByteArray)) (fam : Nat) (tip : Bool) : OLe (.o (.cells [.fz (eL N) N.length [.str], .fz (eL I) I.length [.str, .str]] 2 fam tip false)) (stO N I) := .cells _ _ _ _ _ _ _ (Les.refl _)
theorem is_ok (N : List ByteArray) (I : List (ByteArray × ByteArray)) (who to : ByteArray) (hN : N.length ≤ 1000000) : OCalls Tryd.prog 15 (is_a N I who to) (.s (.bool (isP N I who to))) [] := OCalls.bnd fun hb => by
  have hI : I.length ≤ 9223372036854775807 := hb.1.2.1
  refine floyd ev_mix ev_ok slX_ok noSO (by kernel_rfl) [] is_cf (IsM N.length I.length) IsS.pc (IsV N I who to) (IsO N I who to) (IsJs N I who to) (IsT _ N I who to) (is_t _ N I who to) (is_h N I who to) (fun s j => by cases s; exact is_h0 N I who to _ _ _ j; exact is_h1 N I who to _ _ _ _ j) ?_ ?_
  · refine ⟨fun h => ?_, fun h => ⟨fun h2 => ?_, fun h2 => ?_⟩⟩
    · rw [idxS_ge, dL_eL, Bool.not_eq_true'] at h
      exact ⟨rfl, (.cons _ _ _ _ (by rw [isP_false fun c => inL_no.1 h c.1]; exact .vs _) .nil), .nil⟩
    · rw [idxS_ge, dL_eL, Bool.not_eq_true'] at h2
      exact ⟨rfl, (.cons _ _ _ _ (by rw [isP_false fun c => inL_no.1 h2 c.2.1]; exact .vs _) .nil), .nil⟩
    · rw [idxS_ge, dL_eL, Bool.not_eq_false'] at h h2
      have hw := inL_iff.1 h
      have ht := inL_iff.1 h2
      refine ⟨.a [who] (decide (who = to)) 0, ⟨⟨hw, ht⟩, ⟨by simp, by simp, fun x hx => by simp at hx; subst hx; exact hw, fun x hx => by simp at hx; subst hx; exact .refl, by simp, fun k hk => absurd hk (Nat.not_lt_zero k)⟩, fun e => ?_, fun e => ?_⟩, rfl, rfl, rfl, (.cons _ _ _ _ (.refl _) (.cons _ _ _ _ (.refl _) (.cons _ _ _ _ (.sl0 _ _ _) (.cons _ _ _ _ (.ofEq (by rw [ba_eq])) (.cons _ _ _ _ (.vs _) .nil))))), .cons _ _ _ _ (st_le N I _ _) (.cons _ _ _ _ (.row _ [.v (.string who)] _ _ _ 1 [.str] rfl rfl (by omega) fun i c hi hc => ?_) .nil)⟩
      · have e : who = to := by simpa using e
        subst e; exact .refl
      · have e : ¬ who = to := by simpa using e
        simp; exact fun x => e x.symm
      · have : c = 0 := by simp at hc; omega
        subst this
        obtain rfl : i = 0 := by omega
        rfl
  · intro s hs
    cases s with
    | a A fd i =>
      obtain ⟨⟨hw, ht⟩, hJ, hf, hnf⟩ := hs
      refine ⟨fun h => ⟨fun h2 => ?_, fun h2 => ?_⟩, fun h => ?_⟩
      · have hfd : fd = false := by simpa using h2
        simp only [decide_eq_true_eq] at h
        refine ⟨.b A fd i 0, ⟨⟨hw, ht⟩, hJ, ⟨hfd, hnf hfd⟩, by omega, Nat.zero_le _, fun q hq => absurd hq (Nat.not_lt_zero q)⟩, rel_r (by omega), rfl, rfl, rfl, (.cons _ _ _ _ (.refl _) (.cons _ _ _ _ (.refl _) (.cons _ _ _ _ (.refl _) (.cons _ _ _ _ (.refl _) (.cons _ _ _ _ (.refl _) (.cons _ _ _ _ (.refl _) (.cons _ _ _ _ (.refl _) (.cons _ _ _ _ (.vs _) .nil)))))))), .cons _ _ _ _ (st_le N I _ _) (.cons _ _ _ _ (OLe.same _ _ _) .nil)⟩
      · have hfd : fd = true := by simpa using h2
        exact ⟨rfl, (.cons _ _ _ _ (.ofEq (by rw [hfd, isP_true ⟨hw, ht, hf hfd⟩])) .nil), .nil⟩
      · simp only [decide_eq_false_iff_not] at h
        refine ⟨rfl, (.cons _ _ _ _ (.ofEq ?_) .nil), .nil⟩
        cases fd with
        | true => rw [isP_true ⟨hw, ht, hf rfl⟩]
        | false => rw [isP_false fun c => hnf rfl (hJ.end (by omega) c.2.2)]
    | b A fd i j =>
      obtain ⟨⟨hw, ht⟩, hJ, ⟨hfd, hnf⟩, hi, hj, hq⟩ := hs
      have hle := hJ.le
      -- on, with the list as it is
      have next : j < I.length → ((I.getD j default).1 = A.getD i default → (I.getD j default).2 ∈ N → (I.getD j default).2 ∈ A) → ∀ q, q < j + 1 → (I.getD q default).1 = A.getD i default → (I.getD q default).2 ∈ N → (I.getD q default).2 ∈ A := fun hlt h q hq' => by
        rcases Nat.lt_or_ge q j with c | c
        · exact hq q c
        · obtain rfl : q = j := by omega
          exact h
      refine ⟨fun h => ⟨fun _ => ⟨fun _ => ⟨fun _ => ⟨fun h2 => ?_, fun h2 => ⟨fun h3 => ?_, fun h3 => ⟨fun _ => ⟨fun h4 => ?_, fun h4 => ⟨fun h5 => ?_, fun h5 => ⟨fun h6 => ?_, fun h6 => ?_⟩⟩⟩, fun h4 => ?_⟩⟩⟩, fun h2 => ?_⟩, fun h2 => ?_⟩, fun h2 => ?_⟩, fun h => ?_⟩
      · simp only [decide_eq_true_eq] at h
        rw [ba_eq, Bool.not_eq_true', decide_eq_false_iff_not] at h2
        exact ⟨.b A fd i (j + 1), ⟨⟨hw, ht⟩, hJ, ⟨hfd, hnf⟩, hi, by omega, next (by omega) fun e => absurd e h2⟩, rel_r (by omega), rfl, rfl, rfl, (.cons _ _ _ _ (.refl _) (.cons _ _ _ _ (.refl _) (.cons _ _ _ _ (.refl _) (.cons _ _ _ _ (.refl _) (.cons _ _ _ _ (.refl _) (.cons _ _ _ _ (.refl _) (.cons _ _ _ _ (.refl _) (.cons _ _ _ _ (.ofEq (by rw [wrap_lt (by omega) (by omega)]; rfl)) .nil)))))))), .cons _ _ _ _ (st_le N I _ _) (.cons _ _ _ _ (OLe.same _ _ _) .nil)⟩
      · simp only [decide_eq_true_eq] at h
        rw [idxS_ge, dL_eL, Bool.not_eq_true'] at h3
        exact ⟨.b A fd i (j + 1), ⟨⟨hw, ht⟩, hJ, ⟨hfd, hnf⟩, hi, by omega, next (by omega) fun _ e => absurd e (inL_no.1 h3)⟩, rel_r (by omega), rfl, rfl, rfl, (.cons _ _ _ _ (.refl _) (.cons _ _ _ _ (.refl _) (.cons _ _ _ _ (.refl _) (.cons _ _ _ _ (.refl _) (.cons _ _ _ _ (.refl _) (.cons _ _ _ _ (.refl _) (.cons _ _ _ _ (.refl _) (.cons _ _ _ _ (.ofEq (by rw [wrap_lt (by omega) (by omega)]; rfl)) .nil)))))))), .cons _ _ _ _ (st_le N I _ _) (.cons _ _ _ _ (OLe.same _ _ _) .nil)⟩
      · simp only [decide_eq_true_eq] at h
        rw [idxS_ge, dL_eL] at h4
        exact ⟨.b A fd i (j + 1), ⟨⟨hw, ht⟩, hJ, ⟨hfd, hnf⟩, hi, by omega, next (by omega) fun _ _ => inL_iff.1 h4⟩, rel_r (by omega), rfl, rfl, rfl, (.cons _ _ _ _ (.refl _) (.cons _ _ _ _ (.refl _) (.cons _ _ _ _ (.refl _) (.cons _ _ _ _ (.refl _) (.cons _ _ _ _ (.refl _) (.cons _ _ _ _ (.refl _) (.cons _ _ _ _ (.refl _) (.cons _ _ _ _ (.ofEq (by rw [wrap_lt (by omega) (by omega)]; rfl)) .nil)))))))), .cons _ _ _ _ (st_le N I _ _) (.cons _ _ _ _ (OLe.same _ _ _) .nil)⟩
      · simp only [decide_eq_true_eq] at h
        rw [ba_eq, Bool.not_eq_false', decide_eq_true_eq] at h2
        rw [idxS_ge, dL_eL, Bool.not_eq_false'] at h3
        have hp : I.getD j default ∈ I := getD_mem (by omega)
        have hre : Reach N I who (I.getD j default).2 := .step _ _ (hJ.re _ (getD_mem hi)) (by rw [← show (I.getD j default).1 = A.getD i default from h2]; exact hp) (inL_iff.1 h3)
        refine ⟨rfl, (.cons _ _ _ _ (.ofEq ?_) .nil), .nil⟩
        have e : (I.getD j default).2 = to := by rw [ba_eq, decide_eq_true_eq] at h5; exact h5
        rw [isP_true ⟨hw, ht, e ▸ hre⟩]
        exact congrArg (fun b => AV.s (Value.bool b)) h5
      · simp only [decide_eq_true_eq] at h
        rw [ba_eq, Bool.not_eq_false', decide_eq_true_eq] at h2
        rw [idxS_ge, dL_eL, Bool.not_eq_false'] at h3
        rw [idxS_ge, dL_eL] at h4
        have hp : I.getD j default ∈ I := getD_mem (by omega)
        have hre : Reach N I who (I.getD j default).2 := .step _ _ (hJ.re _ (getD_mem hi)) (by rw [← show (I.getD j default).1 = A.getD i default from h2]; exact hp) (inL_iff.1 h3)
        have hne : (I.getD j default).2 ≠ to := by rw [ba_eq, decide_eq_false_iff_not] at h5; exact h5
        have hl : (A ++ [(I.getD j default).2]).length = A.length + 1 := by simp
        refine ⟨.b (A ++ [(I.getD j default).2]) false i (j + 1), ⟨⟨hw, ht⟩, hJ.app (inL_no.1 h4) (inL_iff.1 h3) hre, ⟨rfl, by simp; exact ⟨hnf, fun e => hne e.symm⟩⟩, by omega, by omega, fun q hq' he hn => ?_⟩, rel_r (by omega), rfl, rfl, rfl, (.cons _ _ _ _ (.refl _) (.cons _ _ _ _ (.refl _) (.cons _ _ _ _ (.ofEq (by rw [hl])) (.cons _ _ _ _ (.ofEq (congrArg (fun b => AV.s (Value.bool b)) h5)) (.cons _ _ _ _ (.refl _) (.cons _ _ _ _ (.refl _) (.cons _ _ _ _ (.refl _) (.cons _ _ _ _ (.ofEq (by rw [wrap_lt (by omega) (by omega)]; rfl)) .nil)))))))), .cons _ _ _ _ (st_le N I _ _) (.cons _ _ _ _ (OLe.snoc (x := (I.getD j default).2) fun c hc => ?_) .nil)⟩
        · rw [getD_app hi] at he
          rcases Nat.lt_or_ge q j with c | c
          · exact List.mem_append_left _ (hq q c he hn)
          · obtain rfl : q = j := by omega
            simp
        · have : c = 0 := by simp [Rec.ks] at hc; omega
          subst this; rfl
      · exfalso
        have hB : Tryd.prog.types[9].bytes = 16 := by kernel_rfl
        rw [hB, small_ok (by omega), small_ok (by omega), Nat.beq_refl] at h6
        cases h6
      · have := ble_no h4; omega
      · have := blt_no2 h2
        rw [show ((i : Int)).toNat = i by omega] at this; omega
      · simp only [Bool.and_eq_false_iff, decide_eq_false_iff_not] at h2; omega
      · simp only [decide_eq_true_eq] at h
        simp only [Bool.and_eq_false_iff, decide_eq_false_iff_not] at h2; omega
      · simp only [decide_eq_false_iff_not] at h
        refine ⟨.a A fd (i + 1), (⟨⟨hw, ht⟩, ⟨hJ.hwho, hJ.nd, hJ.sub, hJ.re, by omega, fun k hk p hp he hn => ?_⟩, fun e => (by rw [hfd] at e; cases e), fun _ => hnf⟩ : (who ∈ N ∧ to ∈ N) ∧ IsJ N I who to A (i + 1) ∧ (fd = true → Reach N I who to) ∧ (fd = false → to ∉ A)), rel_l (by omega), rfl, rfl, rfl, (.cons _ _ _ _ (.refl _) (.cons _ _ _ _ (.refl _) (.cons _ _ _ _ (.refl _) (.cons _ _ _ _ (.refl _) (.cons _ _ _ _ (.ofEq (by rw [wrap_lt (by omega) (by omega)]; rfl)) .nil))))), .cons _ _ _ _ (st_le N I _ _) (.cons _ _ _ _ (OLe.same _ _ _) .nil)⟩
        rcases Nat.lt_or_ge k i with c | c
        · exact hJ.cl k c p hp he hn
        · obtain rfl : k = i := by omega
          obtain ⟨q, hq1, rfl⟩ := mem_getD hp
          exact hq q (by omega) he hn
end Go.Proofs.YtffcaapbmkaceaaDoor
