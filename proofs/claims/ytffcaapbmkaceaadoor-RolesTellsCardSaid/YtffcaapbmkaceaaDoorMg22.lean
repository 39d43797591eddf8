/- Roles with a pair more: plain facts. No condition. -/
import Derived.Test.YtffcaapbmkaceaaDoorMg17
import Derived.Test.YtffcaapbmkaceaaDoorRpS
import Derived.Test.YtffcaapbmkaceaaDoorMg18
import Derived.Test.YtffcaapbmkaceaaDoorMg16
section
namespace Go.Proofs.YtffcaapbmkaceaaDoor
open Ev Go.RowKit
set_option linter.unusedVariables false
theorem mayP_pair {N : List ByteArray} {I : List (ByteArray × ByteArray)} {who to : ByteArray} (h : mayP N I = true) (hne : who ≠ to) (hw : who ∈ N) (ht : to ∈ N) (hx : (who, to) ∉ I) : mayP N (I ++ [(who, to)]) = true := by
  obtain ⟨h1, h2, h3, h4, h5, h6⟩ := mayP_get h
  refine mayP_mk ⟨h1, h2, h3, ?_, h5, fun p hp => ?_⟩
  · rw [List.nodup_append]
    refine ⟨h4, by simp, fun a ha b hb => ?_⟩
    simp only [List.mem_singleton] at hb
    subst hb
    exact fun e => hx (e ▸ ha)
  · rcases List.mem_append.1 hp with hp | hp
    · exact h6 p hp
    · simp only [List.mem_singleton] at hp
      subst hp
      exact ⟨hne, hw, ht⟩
theorem Reach.more {N : List ByteArray} {I J : List (ByteArray × ByteArray)} {x y : ByteArray} (hs : ∀ p ∈ I, p ∈ J) (h : Reach N I x y) : Reach N J x y := by
  induction h with
  | refl => exact .refl
  | step x y _ hi hn ih => exact .step _ _ ih (hs _ hi) hn
theorem isP_pair {N : List ByteArray} {I : List (ByteArray × ByteArray)} {who to a b : ByteArray} (hw : who ∈ N) (ht : to ∈ N) : isP N (I ++ [(who, to)]) a b = (isP N I a b || (isP N I a who && isP N I to b)) := by
  rw [Bool.eq_iff_iff]
  simp only [Bool.or_eq_true, Bool.and_eq_true, isP_iff]
  constructor
  · rintro ⟨h1, h2, h3⟩
    have key : ∀ y, Reach N (I ++ [(who, to)]) a y → Reach N I a y ∨ (Reach N I a who ∧ Reach N I to y) := by
      intro y hy
      induction hy with
      | refl => exact .inl .refl
      | step x y _ hi hn ih =>
        rcases List.mem_append.1 hi with hi | hi
        · rcases ih with ih | ⟨i1, i2⟩
          · exact .inl (.step _ _ ih hi hn)
          · exact .inr ⟨i1, .step _ _ i2 hi hn⟩
        · simp only [List.mem_singleton, Prod.mk.injEq] at hi
          obtain ⟨rfl, rfl⟩ := hi
          rcases ih with ih | ⟨i1, i2⟩
          · exact .inr ⟨ih, .refl⟩
          · exact .inr ⟨i1, .refl⟩
    rcases key b h3 with k | ⟨k1, k2⟩
    · exact .inl ⟨h1, h2, k⟩
    · exact .inr ⟨⟨h1, hw, k1⟩, ht, h2, k2⟩
  · rintro (⟨h1, h2, h3⟩ | ⟨⟨h1, _, h3⟩, _, h4, h5⟩)
    · exact ⟨h1, h2, h3.more fun p hp => List.mem_append_left _ hp⟩
    · exact ⟨h1, h4, ((Reach.step _ _ (h3.more fun p hp => List.mem_append_left _ hp) (List.mem_append_right _ (by simp)) ht)).trans (h5.more fun p hp => List.mem_append_left _ hp)⟩
theorem idxS_snoc {I : List (ByteArray × ByteArray)} {x : ByteArray × ByteArray} (hx : x ∉ I) : idxS (I ++ [x]) x = (I.length : Int) := by
  refine idxS_hit (by simp) (by simp [List.getD_eq_getElem?_getD]) (fun k hk e => hx ?_)
  rw [getD_app hk] at e
  exact e ▸ getD_mem hk
theorem dL_pair (I : List (ByteArray × ByteArray)) (a b : ByteArray) : dL (ByteArray × ByteArray) (catD (eL I) I.length (listD [D.v (Value.string a), D.v (Value.string b)] [TK.str, TK.str].length)) (I.length + 1) = I ++ [(a, b)] := dL_snoc I (a, b) _ _ rfl
theorem dL_congr {α : Type} [Inhabited α] [Rec α] {f g : Nat → Nat → D} {n : Nat} (h : ∀ i, i < n → f i = g i) : dL α f n = dL α g n := by
  unfold dL
  exact List.map_congr_left fun i hi => by rw [h i (by simpa using hi)]
theorem dL_cut (I : List (ByteArray × ByteArray)) (g : Nat → Nat → D) : dL (ByteArray × ByteArray) (cutD (catD (eL I) I.length g) I.length 1) I.length = I := by
  refine (dL_congr fun i hi => ?_).trans (dL_eL I)
  funext c
  have : Nat.blt i I.length = true := by simpa using hi
  simp [cutD, catD, this]
end Go.Proofs.YtffcaapbmkaceaaDoor
end
section
namespace Go.Proofs.YtffcaapbmkaceaaDoor
open Ev Go.RowKit
set_option maxRecDepth 100000
set_option linter.unusedVariables false
def lsame_cf : Nat → Cfg := cfL [mkC 46 [4, 9, 10] [(4, []), (4, [0]), (4, [1])], mkC 46 [4, 9, 11] [(4, []), (4, [0]), (4, [1])]]
def lsame_a (N : List ByteArray) (I : List (ByteArray × ByteArray)) (M : List ByteArray) (J : List (ByteArray × ByteArray)) (f : Int) : List AV := [.agg [.osl 65538 N.length, .osl 65539 I.length], .v (.int .i64 0), .agg [.osl 65536 M.length, .osl 65537 J.length], .s (.int .i64 f)]
noncomputable def lsame_t (P : Program) (N : List ByteArray) (I : List (ByteArray × ByteArray)) (M : List ByteArray) (J : List (ByteArray × ByteArray)) (f : Int) : Br PO :=
(.test (0 == f)
  (.test (N.length.ble N.length)
    (.test (I.length.ble I.length)
      (.test (M.length.ble M.length)
        (.test (J.length.ble J.length)
          (.leaf (.at 0 (ct P 21 0).1 (ct P 21 0).2 ⟨Ex.normal, true, [some (AV.ptr 65540 0 0), some (AV.s (Value.bool (sameP (dL ByteArray (eL N) N.length) (dL (ByteArray × ByteArray) (eL I) I.length) (dL ByteArray (eL M) M.length) (dL (ByteArray × ByteArray) (eL J) J.length)))), some (AV.v (Value.int IntKind.i64 (0)))], [OS.o (AO.rows (eL M) M.length [TK.str]), OS.o (AO.rows (eL J) J.length [TK.str, TK.str]), OS.o (AO.cells [AV.osl 65541 N.length, AV.osl 65542 I.length] 2 65540 true false), OS.o (AO.rows (eL N) N.length [TK.str]), OS.o (AO.rows (eL I) I.length [TK.str, TK.str])]⟩))
          .no
        )
        .no
      )
      .no
    )
    .no
  )
  (.leaf (.at 0 (ct P 21 0).1 (ct P 21 0).2 ⟨Ex.normal, true, [some (AV.ptr 65540 0 0), some (AV.v (Value.bool false)), some (AV.v (Value.int IntKind.i64 (0)))], [OS.o (AO.rows (eL M) M.length [TK.str]), OS.o (AO.rows (eL J) J.length [TK.str, TK.str]), OS.o (AO.cells [AV.osl 65541 N.length, AV.osl 65542 I.length] 2 65540 true false), OS.o (AO.rows (eL N) N.length [TK.str]), OS.o (AO.rows (eL I) I.length [TK.str, TK.str])]⟩))
)
def lsame_i (N : List ByteArray) (I : List (ByteArray × ByteArray)) (M : List ByteArray) (J : List (ByteArray × ByteArray)) (f : Int) : List AO := [.rows (eL M) M.length [.str], .rows (eL J) J.length [.str, .str], .rows (eL N) N.length [.str], .rows (eL I) I.length [.str, .str]]
theorem lsame_h (N : List ByteArray) (I : List (ByteArray × ByteArray)) (M : List ByteArray) (J : List (ByteArray × ByteArray)) (f : Int) : (ev Tryd.prog rsameX noS 3000 noL 3000 .normal [.c 0 (codeOf Tryd.prog 21)] (params (lsame_a N I M J f)) (mkH openB (lsame_i N I M J f))).map (lookW Tryd.prog 65540 2 (resOf Tryd.prog 21) [] [] lsame_cf) = lsame_t Tryd.prog N I M J f := by kernel_rfl
def lsame_v0 (N : List ByteArray) (I : List (ByteArray × ByteArray)) (M : List ByteArray) (J : List (ByteArray × ByteArray)) (f : Int) (ok : Bool) (A : List ByteArray) (B : List (ByteArray × ByteArray)) (i : Nat) : List AV := [.ptr 65540 0 0, .s (.bool ok), .s (.int .i64 i)]
def lsame_o0 (N : List ByteArray) (I : List (ByteArray × ByteArray)) (M : List ByteArray) (J : List (ByteArray × ByteArray)) (f : Int) (ok : Bool) (A : List ByteArray) (B : List (ByteArray × ByteArray)) (i : Nat) : List AO := [.rows (eL M) M.length [.str], .rows (eL J) J.length [.str, .str], .cells [.osl 65541 A.length, .osl 65542 B.length] 2 0 true false, .rows (eL A) A.length [.str], .rows (eL B) B.length [.str, .str]]
noncomputable def lsame_t0 (P : Program) (N : List ByteArray) (I : List (ByteArray × ByteArray)) (M : List ByteArray) (J : List (ByteArray × ByteArray)) (f : Int) (ok : Bool) (A : List ByteArray) (B : List (ByteArray × ByteArray)) (i : Nat) : Br PO :=
(.test (decide ((↑i : Int) < (↑A.length : Int)))
  (.test (decide (0 ≤ (↑i : Int)) && decide ((↑i : Int) < (↑A.length : Int)))
    (.test ((↑i : Int).toNat.blt A.length)
      (.leaf (.at 0 (ct P 21 0).1 (ct P 21 0).2 ⟨Ex.normal, true, [some (AV.ptr 65540 0 0), some (AV.s (Value.bool ok)), some (AV.s (Value.int IntKind.i64 (IntKind.i64.wrap ((↑i : Int) + 1))))], [OS.o (AO.rows (eL M) M.length [TK.str]), OS.o (AO.rows (eL J) J.length [TK.str, TK.str]), OS.o (AO.cells [AV.osl 65541 A.length, AV.osl 65542 B.length] 2 0 true false), OS.o (AO.rows (updD (eL A) (↑i : Int).toNat 0 [D.v (Value.string (⟨#[115, 112, 111, 105, 108, 116]⟩ : ByteArray))]) A.length [TK.str]), OS.o (AO.rows (eL B) B.length [TK.str, TK.str])]⟩))
      .no
    )
    .no
  )
  (.leaf (.at 1 (ct P 21 1).1 (ct P 21 1).2 ⟨Ex.normal, true, [some (AV.ptr 65540 0 0), some (AV.s (Value.bool ok)), some (AV.v (Value.int IntKind.i64 (0)))], [OS.o (AO.rows (eL M) M.length [TK.str]), OS.o (AO.rows (eL J) J.length [TK.str, TK.str]), OS.o (AO.cells [AV.osl 65541 A.length, AV.osl 65542 B.length] 2 0 true false), OS.o (AO.rows (eL A) A.length [TK.str]), OS.o (AO.rows (eL B) B.length [TK.str, TK.str])]⟩))
)
theorem lsame_h0 (N : List ByteArray) (I : List (ByteArray × ByteArray)) (M : List ByteArray) (J : List (ByteArray × ByteArray)) (f : Int) (ok : Bool) (A : List ByteArray) (B : List (ByteArray × ByteArray)) (i : Nat) (j : Nat → Value) : (ev Tryd.prog rsameX noS 3000 noL 3000 .normal (hd Tryd.prog 21 0) (mkE (lsame_cf 0) (lsame_v0 N I M J f ok A B i) j) (mkW 65540 2 (lsame_o0 N I M J f ok A B i))).map (lookW Tryd.prog 65540 2 (resOf Tryd.prog 21) [] [] lsame_cf) = lsame_t0 Tryd.prog N I M J f ok A B i := by kernel_rfl
def lsame_v1 (N : List ByteArray) (I : List (ByteArray × ByteArray)) (M : List ByteArray) (J : List (ByteArray × ByteArray)) (f : Int) (ok : Bool) (A : List ByteArray) (B : List (ByteArray × ByteArray)) (i : Nat) : List AV := [.ptr 65540 0 0, .s (.bool ok), .s (.int .i64 i)]
def lsame_o1 (N : List ByteArray) (I : List (ByteArray × ByteArray)) (M : List ByteArray) (J : List (ByteArray × ByteArray)) (f : Int) (ok : Bool) (A : List ByteArray) (B : List (ByteArray × ByteArray)) (i : Nat) : List AO := [.rows (eL M) M.length [.str], .rows (eL J) J.length [.str, .str], .cells [.osl 65541 A.length, .osl 65542 B.length] 2 0 true false, .rows (eL A) A.length [.str], .rows (eL B) B.length [.str, .str]]
noncomputable def lsame_t1 (P : Program) (N : List ByteArray) (I : List (ByteArray × ByteArray)) (M : List ByteArray) (J : List (ByteArray × ByteArray)) (f : Int) (ok : Bool) (A : List ByteArray) (B : List (ByteArray × ByteArray)) (i : Nat) : Br PO :=
(.test (decide ((↑i : Int) < (↑B.length : Int)))
  (.test (decide (0 ≤ (↑i : Int)) && decide ((↑i : Int) < (↑B.length : Int)))
    (.test ((↑i : Int).toNat.blt B.length)
      (.leaf (.at 1 (ct P 21 1).1 (ct P 21 1).2 ⟨Ex.normal, true, [some (AV.ptr 65540 0 0), some (AV.s (Value.bool ok)), some (AV.s (Value.int IntKind.i64 (IntKind.i64.wrap ((↑i : Int) + 1))))], [OS.o (AO.rows (eL M) M.length [TK.str]), OS.o (AO.rows (eL J) J.length [TK.str, TK.str]), OS.o (AO.cells [AV.osl 65541 A.length, AV.osl 65542 B.length] 2 0 true false), OS.o (AO.rows (eL A) A.length [TK.str]), OS.o (AO.rows (updD (eL B) (↑i : Int).toNat (0 + Int.toNat 0 * (fun x => x.size) Tryd.prog.types[9]) [D.v (Value.string (⟨#[115, 112, 111, 105, 108, 116]⟩ : ByteArray))]) B.length [TK.str, TK.str])]⟩))
      .no
    )
    .no
  )
  (.leaf (.fin ⟨Ex.ret, true, [some (AV.s (Value.bool ok))], [OS.o (AO.rows (eL M) M.length [TK.str]), OS.o (AO.rows (eL J) J.length [TK.str, TK.str])]⟩))
)
theorem lsame_h1 (N : List ByteArray) (I : List (ByteArray × ByteArray)) (M : List ByteArray) (J : List (ByteArray × ByteArray)) (f : Int) (ok : Bool) (A : List ByteArray) (B : List (ByteArray × ByteArray)) (i : Nat) (j : Nat → Value) : (ev Tryd.prog rsameX noS 3000 noL 3000 .normal (hd Tryd.prog 21 1) (mkE (lsame_cf 1) (lsame_v1 N I M J f ok A B i) j) (mkW 65540 2 (lsame_o1 N I M J f ok A B i))).map (lookW Tryd.prog 65540 2 (resOf Tryd.prog 21) [] [] lsame_cf) = lsame_t1 Tryd.prog N I M J f ok A B i := by kernel_rfl

inductive LsS where
  | a (ok : Bool) (A : List ByteArray) (B : List (ByteArray × ByteArray)) (i : Nat)
  | b (ok : Bool) (A : List ByteArray) (B : List (ByteArray × ByteArray)) (i : Nat)
def LsS.pc : LsS → Nat
  | .a _ _ _ _ => 0
  | .b _ _ _ _ => 1
section
variable (N : List ByteArray) (I : List (ByteArray × ByteArray)) (M : List ByteArray) (J : List (ByteArray × ByteArray)) (f : Int)
def LsV : LsS → List AV
  | .a ok A B i => lsame_v0 N I M J f ok A B i
  | .b ok A B i => lsame_v1 N I M J f ok A B i
def LsO : LsS → List AO
  | .a ok A B i => lsame_o0 N I M J f ok A B i
  | .b ok A B i => lsame_o1 N I M J f ok A B i
noncomputable def LsT (P : Program) : LsS → Br PO
  | .a ok A B i => lsame_t0 P N I M J f ok A B i
  | .b ok A B i => lsame_t1 P N I M J f ok A B i
noncomputable def lsP : Bool := decide (f = 0) && sameP N I M J
def LsJ : LsS → Prop
  | .a ok A B i => ok = lsP N I M J f ∧ (A.length ≤ 1000000 ∧ B.length ≤ 1000000) ∧ i ≤ A.length
  | .b ok A B i => ok = lsP N I M J f ∧ (A.length ≤ 1000000 ∧ B.length ≤ 1000000) ∧ i ≤ B.length
end
def LsM : LsS → Nat × Nat
  | .a _ A _ i => (1, A.length - i)
  | .b _ _ B i => (0, B.length - i)
theorem OLe.list' {α : Type} [Inhabited α] [Rec α] {f : Nat → Nat → D} {len : Nat} : OLe (.o (.rows f len (Rec.ks α))) (.rows (eL (dL α f len)) (dL α f len).length (Rec.ks α)) := by rw [dL_length]; exact OLe.list
theorem lsame_ok (N : List ByteArray) (I : List (ByteArray × ByteArray)) (M : List ByteArray) (J : List (ByteArray × ByteArray)) (f : Int) (hN : N.length ≤ 1000000) (hI : I.length ≤ 1000000) : OWCalls Tryd.prog 2 21 (lsame_a N I M J f) (lsame_i N I M J f) (.s (.bool (lsP N I M J f))) [.rows (eL M) M.length [.str], .rows (eL J) J.length [.str, .str]] := by
  refine floydW ev_mix ev_ok rsameX_ok noSO (by kernel_rfl) 2 65540 rfl (by simp [lsame_i]) [] [] lsame_cf LsM LsS.pc (LsV N I M J f) (LsO N I M J f) (LsJ N I M J f) (LsT N I M J f _) (lsame_t _ N I M J f) (lsame_h N I M J f) (fun s j => by cases s; exact lsame_h0 N I M J f _ _ _ _ j; exact lsame_h1 N I M J f _ _ _ _ j) ?_ ?_
  · unfold lsame_t
    simp only [dL_eL]
    refine ⟨fun h => hT (ble_yes (Nat.le_refl _)) (hT (ble_yes (Nat.le_refl _)) (hT (ble_yes (Nat.le_refl _)) (hT (ble_yes (Nat.le_refl _)) ?_))), fun h => ?_⟩
    · have hf : f = 0 := by simp at h; omega
      exact ⟨.a (sameP N I M J) N I 0, ⟨by unfold lsP; rw [decide_eq_true hf]; rfl, ⟨hN, hI⟩, Nat.zero_le _⟩, rfl, rfl, rfl, (.cons _ _ _ _ (.refl _) (.cons _ _ _ _ (.refl _) (.cons _ _ _ _ (.vs _) .nil))), .cons _ _ _ _ (OLe.same _ _ _) (.cons _ _ _ _ (OLe.same _ _ _) (.cons _ _ _ _ (.cells _ _ _ _ _ _ _ (Les.refl _)) (.cons _ _ _ _ (OLe.same _ _ _) (.cons _ _ _ _ (OLe.same _ _ _) .nil))))⟩
    · have hf : f ≠ 0 := by simp at h; omega
      exact ⟨.a false N I 0, ⟨by unfold lsP; rw [decide_eq_false hf]; rfl, ⟨hN, hI⟩, Nat.zero_le _⟩, rfl, rfl, rfl, (.cons _ _ _ _ (.refl _) (.cons _ _ _ _ (.vs _) (.cons _ _ _ _ (.vs _) .nil))), .cons _ _ _ _ (OLe.same _ _ _) (.cons _ _ _ _ (OLe.same _ _ _) (.cons _ _ _ _ (.cells _ _ _ _ _ _ _ (Les.refl _)) (.cons _ _ _ _ (OLe.same _ _ _) (.cons _ _ _ _ (OLe.same _ _ _) .nil))))⟩
  · intro s hs
    cases s with
    | a ok A B i =>
      obtain ⟨hok, ⟨hA, hB⟩, hi⟩ := hs
      refine hSd (fun h => ?_) fun h => ?_
      · have h : i < A.length := by omega
        refine hSi h (hT (by simpa using h) ?_)
        obtain ⟨F, hF⟩ : ∃ F, F = updD (eL A) (i : Int).toNat 0 [D.v (Value.string (⟨#[115, 112, 111, 105, 108, 116]⟩ : ByteArray))] := ⟨_, rfl⟩
        have hl : (dL ByteArray F A.length).length = A.length := dL_length _ _
        refine ⟨.a ok (dL ByteArray F A.length) B (i + 1), ⟨hok, ⟨by rw [hl]; exact hA, hB⟩, by rw [hl]; omega⟩, rel_r (by rw [hl]; omega), rfl, rfl, rfl, (.cons _ _ _ _ (.refl _) (.cons _ _ _ _ (.refl _) (.cons _ _ _ _ (.ofEq (by rw [wrap_lt (by omega) (by omega)]; rfl)) .nil))), .cons _ _ _ _ (OLe.same _ _ _) (.cons _ _ _ _ (OLe.same _ _ _) (.cons _ _ _ _ (.cells _ _ _ _ _ _ _ ?_) (.cons _ _ _ _ (hF ▸ OLe.list' (α := ByteArray)) (.cons _ _ _ _ (OLe.same _ _ _) .nil))))⟩
        rw [hl]; exact Les.refl _
      · exact ⟨.b ok A B 0, ⟨hok, ⟨hA, hB⟩, Nat.zero_le _⟩, rel_l (by omega), rfl, rfl, rfl, (.cons _ _ _ _ (.refl _) (.cons _ _ _ _ (.refl _) (.cons _ _ _ _ (.vs _) .nil))), .cons _ _ _ _ (OLe.same _ _ _) (.cons _ _ _ _ (OLe.same _ _ _) (.cons _ _ _ _ (.cells _ _ _ _ _ _ _ (Les.refl _)) (.cons _ _ _ _ (OLe.same _ _ _) (.cons _ _ _ _ (OLe.same _ _ _) .nil))))⟩
    | b ok A B i =>
      obtain ⟨hok, ⟨hA, hB⟩, hi⟩ := hs
      refine hSd (fun h => ?_) fun h => ?_
      · have h : i < B.length := by omega
        refine hSi h (hT (by simpa using h) ?_)
        obtain ⟨F, hF⟩ : ∃ F, F = updD (eL B) (i : Int).toNat (0 + Int.toNat 0 * (fun x => x.size) Tryd.prog.types[9]) [D.v (Value.string (⟨#[115, 112, 111, 105, 108, 116]⟩ : ByteArray))] := ⟨_, rfl⟩
        have hl : (dL (ByteArray × ByteArray) F B.length).length = B.length := dL_length _ _
        refine ⟨.b ok A (dL (ByteArray × ByteArray) F B.length) (i + 1), ⟨hok, ⟨hA, by rw [hl]; exact hB⟩, by rw [hl]; omega⟩, rel_r (by rw [hl]; omega), rfl, rfl, rfl, (.cons _ _ _ _ (.refl _) (.cons _ _ _ _ (.refl _) (.cons _ _ _ _ (.ofEq (by rw [wrap_lt (by omega) (by omega)]; rfl)) .nil))), .cons _ _ _ _ (OLe.same _ _ _) (.cons _ _ _ _ (OLe.same _ _ _) (.cons _ _ _ _ (.cells _ _ _ _ _ _ _ ?_) (.cons _ _ _ _ (OLe.same _ _ _) (.cons _ _ _ _ (hF ▸ OLe.list' (α := ByteArray × ByteArray)) .nil))))⟩
        rw [hl]; exact Les.refl _
      · rw [← hok]
        exact ⟨rfl, (.cons _ _ _ _ (.refl _) .nil), .cons _ _ _ _ (OLe.same _ _ _) (.cons _ _ _ _ (OLe.same _ _ _) .nil)⟩
def errZ : AV → Bool
  | .v (.int .i64 z) => decide (z = 0)
  | _ => false
theorem errZ_get {x : AV} (h : errZ x = true) : x = .v (.int .i64 0) := by
  unfold errZ at h
  split at h
  · rw [of_decide_eq_true h]
  · cases h
noncomputable def lsameX : SumBr := wX 21 [(2, [0]), (2, [1])] [(0, [0]), (0, [1])] fun ar oss => match ar, oss with
  | [.agg [.osl a n, .osl b m], x, .agg [.osl c p, .osl d q], y], [.o (.rows f1 l1 k1), .o (.rows f2 l2 k2), .o (.rows f3 l3 k3), .o (.rows f4 l4 k4)] => match i64A y with
    | some z => bif errZ x && ((Nat.beq a 65538 && Nat.beq b 65539 && (Nat.beq c 65536 && Nat.beq d 65537)) && ((ksEq [.str] k1 && ksEq [.str, .str] k2) && (ksEq [.str] k3 && ksEq [.str, .str] k4))) then
        some (.test ((Nat.beq p l1 && Nat.beq q l2) && (Nat.beq n l3 && Nat.beq m l4)) (.test (Nat.ble l3 1000000 && Nat.ble l4 1000000) (.leaf (.s (.bool (lsP (dL _ f3 l3) (dL _ f4 l4) (dL _ f1 l1) (dL _ f2 l2) z)), [.rows (eL (dL ByteArray f1 l1)) (dL ByteArray f1 l1).length [.str], .rows (eL (dL (ByteArray × ByteArray) f2 l2)) (dL (ByteArray × ByteArray) f2 l2).length [.str, .str]])) .no) .no) else none
    | none => none
  | _, _ => none
theorem lsameX_ok : SumGO Tryd.prog (sumS lsameX) := wX_ok (by kernel_rfl) fun ar oss B r h hB => by
  split at h
  · rename_i a n b m x c p d q y f1 l1 k1 f2 l2 k2 f3 l3 k3 f4 l4 k4
    split at h
    · rename_i z hz
      simp only [cond_eq_ite] at h
      split at h
      · rename_i hc
        simp only [Bool.and_eq_true] at hc
        obtain ⟨hx, ⟨⟨⟨ha, hb⟩, hc1, hd⟩, ⟨e1, e2⟩, e3, e4⟩⟩ := hc
        have ha := Nat.eq_of_beq_eq_true ha
        have hb := Nat.eq_of_beq_eq_true hb
        have hc1 := Nat.eq_of_beq_eq_true hc1
        have hd := Nat.eq_of_beq_eq_true hd
        have e1 := ksEq_eq e1
        have e2 := ksEq_eq e2
        have e3 := ksEq_eq e3
        have e4 := ksEq_eq e4
        have hx := errZ_get hx
        subst ha hb hc1 hd e1 e2 e3 e4 hx
        cases h
        rcases hB with ⟨g1, hB⟩ | ⟨_, hB⟩
        rotate_left
        · exact hB.elim
        rcases hB with ⟨g2, hB⟩ | ⟨_, hB⟩
        rotate_left
        · exact hB.elim
        cases hB
        simp only [Bool.and_eq_true, Nat.ble_eq] at g1 g2
        obtain ⟨⟨g3, g4⟩, g5, g6⟩ := g1
        have g3 := Nat.eq_of_beq_eq_true g3
        have g4 := Nat.eq_of_beq_eq_true g4
        have g5 := Nat.eq_of_beq_eq_true g5
        have g6 := Nat.eq_of_beq_eq_true g6
        subst g3 g4 g5 g6
        refine ⟨lsame_a (dL _ f3 n) (dL _ f4 m) (dL _ f1 p) (dL _ f2 q) z, lsame_i (dL _ f3 n) (dL _ f4 m) (dL _ f1 p) (dL _ f2 q) z, ?_, ?_, lsame_ok _ _ _ _ z (by rw [dL_length]; exact g2.1) (by rw [dL_length]; exact g2.2)⟩
        · intro _ hgc ρ ys ⟨y1, r1, e1, h1, y2, r2, e2, h2, y3, r3, e3, h3, y4, r4, e4, h4, h5⟩
          unfold lsame_a
          simp only [dL_length]
          exact ⟨y1, r1, e1, h1, y2, r2, e2, h2, y3, r3, e3, h3, y4, r4, e4, i64A_rel hz h4, h5⟩
        · exact .cons _ _ _ _ (OLe.list' (α := ByteArray)) (.cons _ _ _ _ (OLe.list' (α := ByteArray × ByteArray)) (.cons _ _ _ _ (OLe.list' (α := ByteArray)) (.cons _ _ _ _ (OLe.list' (α := ByteArray × ByteArray)) .nil)))
      · cases h
    · cases h
  · cases h
end Go.Proofs.YtffcaapbmkaceaaDoor
end
section
namespace Go.Proofs.YtffcaapbmkaceaaDoor
open Ev Go.RowKit
set_option maxRecDepth 100000
set_option linter.unusedVariables false
/-- All pairs but one. -/
def lvP (I : List (ByteArray × ByteArray)) (a : Nat) : List (ByteArray × ByteArray) := I.take a ++ I.drop (a + 1)
def lvJ (I : List (ByteArray × ByteArray)) (a i : Nat) : List (ByteArray × ByteArray) := if i ≤ a then I.take i else I.take a ++ (I.take i).drop (a + 1)
theorem lvJ_next {I : List (ByteArray × ByteArray)} {a i : Nat} (hi : i < I.length) (h : i ≠ a) : lvJ I a (i + 1) = lvJ I a i ++ [I.getD i default] := by
  unfold lvJ
  by_cases c : i < a
  · rw [if_pos (by omega), if_pos (by omega), take_snoc hi]
  · rw [if_neg (by omega), if_neg (by omega), take_snoc hi, List.drop_append_of_le_length (by simp; omega), List.append_assoc]
theorem lvJ_skip {I : List (ByteArray × ByteArray)} {a : Nat} : lvJ I a (a + 1) = lvJ I a a := by
  unfold lvJ
  rw [if_neg (by omega), if_pos (Nat.le_refl _), List.drop_eq_nil_of_le (by simp; omega), List.append_nil]
theorem lvJ_end {I : List (ByteArray × ByteArray)} {a : Nat} (h : a < I.length) : lvJ I a I.length = lvP I a := by
  unfold lvJ lvP
  rw [if_neg (by omega), List.take_length]
theorem lvJ_len {I : List (ByteArray × ByteArray)} {a i : Nat} : (lvJ I a i).length ≤ i := by
  unfold lvJ
  split
  · simp; omega
  · simp; omega
def keepO (N : List ByteArray) (I : List (ByteArray × ByteArray)) : List AO := [.rows (eL N) N.length [.str], .rows (eL I) I.length [.str, .str]]
def refuseV (N : List ByteArray) (I : List (ByteArray × ByteArray)) (e : Int) : AV × List AO := (.tup [.agg [.osl 65536 N.length, .osl 65537 I.length], .v (.int .i64 e)], keepO N I ++ [.rows (eL ([] : List ByteArray)) 0 [.str], .rows (eL ([] : List (ByteArray × ByteArray))) 0 [.str, .str]])
def leftV (N : List ByteArray) (I J : List (ByteArray × ByteArray)) : AV × List AO := (.tup [.agg [.osl 65538 N.length, .osl 65539 J.length], .v (.int .i64 0)], keepO N I ++ [.rows (eL N) N.length [.str], .rows (eL J) J.length [.str, .str]])
noncomputable def rlvV (N : List ByteArray) (I : List (ByteArray × ByteArray)) (who to : ByteArray) : AV × List AO := bif !mayP N I then refuseV N I 4 else bif decide (idxS I (who, to) < 0) then refuseV N I 5 else leftV N I (lvP I (idxS I (who, to)).toNat)
theorem idxS_cases {α : Type} [DecidableEq α] (L : List α) (x : α) : idxS L x < 0 ∨ ∃ a : Nat, idxS L x = (a : Int) ∧ a < L.length := by
  rcases Int.lt_or_le (idxS L x) 0 with c | c
  · exact .inl c
  · refine .inr ?_
    unfold idxS at c ⊢
    split at c
    · rename_i h
      rw [if_pos h]
      exact ⟨_, rfl, List.idxOf_lt_length_iff.2 h⟩
    · omega
theorem rleave_ok (N : List ByteArray) (I : List (ByteArray × ByteArray)) (who to : ByteArray) (hN : N.length ≤ 1000000) (hI : I.length ≤ 1000000) : OWCalls Tryd.prog 2 24 (rleave_a N I who to) (rleave_i N I who to) (rlvV N I who to).1 (rlvV N I who to).2 := by
  have hB : Tryd.prog.types[9].bytes = 16 := by kernel_rfl
  have hB2 : Tryd.prog.types[36].bytes = 32 := by kernel_rfl
  obtain ⟨a, ha⟩ : ∃ a, a = (idxS I (who, to)).toNat := ⟨_, rfl⟩
  have key := @floydW Tryd.prog _ _ ev_mix Go.Proofs.YtffcaapbmkaceaaDoor.ev_ok teX2_ok noSO 24 (by kernel_rfl) 3000 3000 noL (rleave_a N I who to) (rlvV N I who to).1 (rleave_i N I who to) (rlvV N I who to).2 2 65538 rfl (by simp [rleave_i]) [[0, 0], [0, 1]] [] rleave_cf Nat Nat inferInstance
  refine key (fun i => I.length - i) (fun _ => 0) (fun i => rleave_v0 N I who to a i (lvJ I a i)) (fun i => rleave_o0 N I who to a i (lvJ I a i)) (fun i => (mayP N I = true ∧ idxS I (who, to) = (a : Int) ∧ a < I.length) ∧ i ≤ I.length) (fun i => rleave_t0 Tryd.prog N I who to a i (lvJ I a i)) (rleave_t Tryd.prog N I who to) (rleave_h N I who to) (fun i j => rleave_h0 N I who to _ _ _ j) ?_ ?_
  · unfold rleave_t
    simp only [dL_eL]
    refine hT (ble_yes (Nat.le_refl _)) (hT (ble_yes (Nat.le_refl _)) ⟨fun h => ?_, fun h => hT (ble_yes (Nat.le_refl _)) (hT (ble_yes (Nat.le_refl _)) ⟨fun h2 => ?_, fun h2 => hT ?_ ?_⟩)⟩)
    · have e : rlvV N I who to = refuseV N I 4 := by unfold rlvV; rw [h]; rfl
      rw [e]
      exact ⟨rfl, (.cons _ _ _ _ (.refl _) .nil), .cons _ _ _ _ (OLe.same _ _ _) (.cons _ _ _ _ (OLe.same _ _ _) (.cons _ _ _ _ (.nil _ _) (.cons _ _ _ _ (.nil _ _) .nil)))⟩
    · have e : rlvV N I who to = refuseV N I 5 := by unfold rlvV; rw [h, h2]; rfl
      rw [e]
      exact ⟨rfl, (.cons _ _ _ _ (.refl _) .nil), .cons _ _ _ _ (OLe.same _ _ _) (.cons _ _ _ _ (OLe.same _ _ _) (.cons _ _ _ _ (.nil _ _) (.cons _ _ _ _ (.nil _ _) .nil)))⟩
    · rw [hB, small_ok (by omega), small_ok (by omega)]; simp
    · have h2 : ¬ idxS I (who, to) < 0 := by simpa using h2
      rcases idxS_cases I (who, to) with c | ⟨a', e1, e2⟩
      · exact absurd c h2
      · have e3 : a' = a := by rw [ha, e1]; rfl
        subst e3
        refine ⟨0, ⟨⟨by simpa using h, e1, e2⟩, Nat.zero_le _⟩, rfl, rfl, ?_⟩
        exact ⟨rfl, (.cons _ _ _ _ (.refl _) (.cons _ _ _ _ (.refl _) (.cons _ _ _ _ (.ofEq (by rw [e1])) (.cons _ _ _ _ (.refl _) (.cons _ _ _ _ (.vs _) .nil))))), .cons _ _ _ _ (OLe.same _ _ _) (.cons _ _ _ _ (OLe.same _ _ _) (.cons _ _ _ _ (.cells _ _ _ _ _ _ _ (Les.refl _)) (.cons _ _ _ _ (.cells _ _ _ _ _ _ _ (Les.refl _)) (.cons _ _ _ _ (.cells _ _ _ _ _ _ _ (.cons _ _ _ _ (.refl _) (.cons _ _ _ _ (.nilv _) .nil))) (.cons _ _ _ _ (OLe.same _ _ _) (.cons _ _ _ _ (.nil _ _) .nil))))))⟩
  · rintro i ⟨⟨hm, hx, hlt⟩, hi⟩
    have hle := lvJ_len (I := I) (a := a) (i := i)
    refine hSd (fun h => ?_) fun h => ?_
    · have h : i < I.length := by omega
      refine ⟨fun h2 => hSi h (hT (by simpa using h) (hT (app_ok (k := 32) hB2 (by omega) (by omega)) ?_)), fun h2 => ?_⟩
      · have h2 : i ≠ a := by simp at h2; omega
        have hl : (lvJ I a (i + 1)).length = (lvJ I a i).length + 1 := by rw [lvJ_next h h2]; simp
        refine ⟨i + 1, ⟨⟨hm, hx, hlt⟩, by omega⟩, rel_nat (by omega), rfl, rfl, rfl, (.cons _ _ _ _ (.refl _) (.cons _ _ _ _ (.refl _) (.cons _ _ _ _ (.refl _) (.cons _ _ _ _ (.refl _) (.cons _ _ _ _ (.ofEq (by rw [wrap_lt (by omega) (by omega)]; rfl)) .nil))))), .cons _ _ _ _ (OLe.same _ _ _) (.cons _ _ _ _ (OLe.same _ _ _) (.cons _ _ _ _ (.cells _ _ _ _ _ _ _ (Les.refl _)) (.cons _ _ _ _ (.cells _ _ _ _ _ _ _ (Les.refl _)) (.cons _ _ _ _ (.cells _ _ _ _ _ _ _ (.cons _ _ _ _ (.refl _) (.cons _ _ _ _ (.ofEq (by rw [hl])) .nil))) (.cons _ _ _ _ (OLe.same _ _ _) (.cons _ _ _ _ ?_ .nil))))))⟩
        rw [lvJ_next h h2]
        exact OLe.snoc (x := I.getD i default) fun c hc => by
          have : c = 0 ∨ c = 1 := by simp [Rec.ks] at hc; omega
          rcases this with rfl | rfl <;> rfl
      · have h2 : i = a := by simp at h2; omega
        subst h2
        refine ⟨i + 1, ⟨⟨hm, hx, hlt⟩, by omega⟩, rel_nat (by omega), rfl, rfl, ?_⟩
        rw [lvJ_skip]
        exact ⟨rfl, (.cons _ _ _ _ (.refl _) (.cons _ _ _ _ (.refl _) (.cons _ _ _ _ (.refl _) (.cons _ _ _ _ (.refl _) (.cons _ _ _ _ (.ofEq (by rw [wrap_lt (by omega) (by omega)]; rfl)) .nil))))), .cons _ _ _ _ (OLe.same _ _ _) (.cons _ _ _ _ (OLe.same _ _ _) (.cons _ _ _ _ (.cells _ _ _ _ _ _ _ (Les.refl _)) (.cons _ _ _ _ (.cells _ _ _ _ _ _ _ (Les.refl _)) (.cons _ _ _ _ (.cells _ _ _ _ _ _ _ (Les.refl _)) (.cons _ _ _ _ (OLe.same _ _ _) (.cons _ _ _ _ (OLe.same _ _ _) .nil))))))⟩
    · have h : i = I.length := by omega
      subst h
      have e : rlvV N I who to = leftV N I (lvJ I a I.length) := by
        unfold rlvV
        rw [hm, hx, decide_eq_false (show ¬ ((a : Nat) : Int) < 0 by omega), lvJ_end hlt]; rfl
      rw [e]
      exact ⟨rfl, (.cons _ _ _ _ (.refl _) .nil), .cons _ _ _ _ (OLe.same _ _ _) (.cons _ _ _ _ (OLe.same _ _ _) (.cons _ _ _ _ (OLe.same _ _ _) (.cons _ _ _ _ (OLe.same _ _ _) .nil)))⟩
noncomputable def rleaveX : SumBr := wX 24 [(0, [0]), (0, [1])] [] fun ar oss => match ar, oss with
  | [.agg [.osl a n, .osl b m], x, y], [.o (.rows f1 l1 k1), .o (.rows f2 l2 k2)] => match strV x, strV y with
    | some x', some y' => bif (Nat.beq a 65536 && Nat.beq b 65537) && (ksEq [.str] k1 && ksEq [.str, .str] k2) then
        some (.test ((Nat.beq n l1 && Nat.beq m l2) && (Nat.ble l1 1000000 && Nat.ble l2 1000000)) (.test (!mayP (dL _ f1 l1) (dL _ f2 l2)) (.leaf (refuseV (dL _ f1 l1) (dL _ f2 l2) 4)) (.test (decide (idxS (dL (ByteArray × ByteArray) f2 l2) (x', y') < 0)) (.leaf (refuseV (dL _ f1 l1) (dL _ f2 l2) 5)) (.leaf (leftV (dL _ f1 l1) (dL _ f2 l2) (lvP (dL _ f2 l2) (idxS (dL (ByteArray × ByteArray) f2 l2) (x', y')).toNat))))) .no) else none
    | _, _ => none
  | _, _ => none
theorem rleaveX_ok : SumGO Tryd.prog (sumS rleaveX) := wX_ok (by kernel_rfl) fun ar oss B r h hB => by
  split at h
  · rename_i a n b m x y f1 l1 k1 f2 l2 k2
    split at h
    · rename_i x' y' hx hy
      simp only [cond_eq_ite] at h
      split at h
      · rename_i hc
        simp only [Bool.and_eq_true] at hc
        obtain ⟨⟨ha, hb⟩, e1, e2⟩ := hc
        have ha := Nat.eq_of_beq_eq_true ha
        have hb := Nat.eq_of_beq_eq_true hb
        have e1 := ksEq_eq e1
        have e2 := ksEq_eq e2
        subst ha hb e1 e2
        cases h
        rcases hB with ⟨g1, hB⟩ | ⟨_, hB⟩
        rotate_left
        · exact hB.elim
        simp only [Bool.and_eq_true, Nat.ble_eq] at g1
        obtain ⟨⟨g3, g4⟩, g5, g6⟩ := g1
        have g3 := Nat.eq_of_beq_eq_true g3
        have g4 := Nat.eq_of_beq_eq_true g4
        subst g3 g4
        have hr : r = rlvV (dL _ f1 n) (dL _ f2 m) x' y' := by
          unfold rlvV
          rcases hB with ⟨c1, hB⟩ | ⟨c1, hB⟩
          · rw [c1]; exact hB
          · rw [c1]
            rcases hB with ⟨c2, hB⟩ | ⟨c2, hB⟩
            · rw [c2]; exact hB
            · rw [c2]; exact hB
        subst hr
        refine ⟨rleave_a (dL _ f1 n) (dL _ f2 m) x' y', rleave_i (dL _ f1 n) (dL _ f2 m) x' y', ?_, ?_, rleave_ok _ _ x' y' (by rw [dL_length]; exact g5) (by rw [dL_length]; exact g6)⟩
        · intro _ hgc ρ ys ⟨y1, r1, e1, h1, y2, r2, e2, h2, y3, r3, e3, h3, h4⟩
          unfold rleave_a
          simp only [dL_length]
          exact ⟨y1, r1, e1, h1, y2, r2, e2, strV_rel hx h2, y3, r3, e3, strV_rel hy h3, h4⟩
        · exact .cons _ _ _ _ (OLe.list' (α := ByteArray)) (.cons _ _ _ _ (OLe.list' (α := ByteArray × ByteArray)) .nil)
      · cases h
    · cases h
  · cases h
end Go.Proofs.YtffcaapbmkaceaaDoor
end
section
namespace Go.Proofs.YtffcaapbmkaceaaDoor
open Ev Go.RowKit
set_option maxRecDepth 100000
set_option linter.unusedVariables false
noncomputable def roX3 : SumBr := orX delX roX2
theorem roX3_ok : SumGO Tryd.prog (sumS roX3) := orX_open delX_ok roX2_ok
def rmo_cf : Nat → Cfg := cfL []
def rmo_a (N : List ByteArray) (I : List (ByteArray × ByteArray)) (who of a b : ByteArray) : List AV := [stA N I, .s (.string who), .s (.string of), .s (.string a), .s (.string b)]
noncomputable def rmo_t (P : Program) (N : List ByteArray) (I : List (ByteArray × ByteArray)) (who of a b : ByteArray) : Br PO :=
(.test (longP (dL ByteArray (eL N) N.length) (dL (ByteArray × ByteArray) (eL I) I.length))
  (.leaf (.fin ⟨Ex.ret, true, [some (AV.s (Value.bool true))], []⟩))
  (.test (decide ((↑who.size : Int) > 200))
    (.leaf (.fin ⟨Ex.ret, true, [some (AV.s (Value.bool true))], []⟩))
    (.test (decide ((↑of.size : Int) > 200))
      (.leaf (.fin ⟨Ex.ret, true, [some (AV.s (Value.bool true))], []⟩))
      (.test (decide ((↑a.size : Int) > 200))
        (.leaf (.fin ⟨Ex.ret, true, [some (AV.s (Value.bool true))], []⟩))
        (.test (decide ((↑b.size : Int) > 200))
          (.leaf (.fin ⟨Ex.ret, true, [some (AV.s (Value.bool true))], []⟩))
          (.test (false)
            (.leaf (.fin ⟨Ex.ret, true, [some (AV.s (Value.bool true))], []⟩))
            (.test (!mayP (dL ByteArray (eL N) N.length) (dL (ByteArray × ByteArray) (eL I) I.length))
              (.leaf (.fin ⟨Ex.ret, true, [some (AV.v (Value.bool true))], []⟩))
              (.test (who.toList == of.toList)
                (.leaf (.fin ⟨Ex.ret, true, [some (AV.v (Value.bool true))], []⟩))
                (.test (!decide (idxS (dL ByteArray (eL N) N.length) who ≥ 0))
                  (.leaf (.fin ⟨Ex.ret, true, [some (AV.v (Value.bool true))], []⟩))
                  (.test (!decide (idxS (dL ByteArray (eL N) N.length) of ≥ 0))
                    (.leaf (.fin ⟨Ex.ret, true, [some (AV.v (Value.bool true))], []⟩))
                    (.test (decide (idxS (dL (ByteArray × ByteArray) (eL I) I.length) (who, of) ≥ 0))
                      (.leaf (.fin ⟨Ex.ret, true, [some (AV.v (Value.bool true))], []⟩))
                      (.test (N.length.ble 1000000)
                        (.test (I.length.ble 1000000)
                          (.test (I.length.beq I.length && (true && (small (1 + I.length) && small (Tryd.prog.types[36].bytes * (1 + I.length)))))
                            (.test (N.length.ble N.length)
                              (.test ((I.length + 1).ble (I.length + 1))
                                (.test (!mayP (dL ByteArray (eL N) N.length) (dL (ByteArray × ByteArray) (catD (eL I) I.length (listD [D.v (Value.string who), D.v (Value.string of)] [TK.str, TK.str].length)) (I.length + 1)))
                                  (.leaf (.fin ⟨Ex.ret, true, [some (AV.v (Value.bool false))], []⟩))
                                  (.test ((I.length + 1).ble (I.length + 1))
                                    (.test (decide (idxS (dL (ByteArray × ByteArray) (catD (eL I) I.length (listD [D.v (Value.string who), D.v (Value.string of)] [TK.str, TK.str].length)) (I.length + 1)) (who, of) < 0))
                                      (.leaf (.fin ⟨Ex.ret, true, [some (AV.v (Value.bool false))], []⟩))
                                      (.test (N.length.ble N.length)
                                        (.test (N.length.ble 1000000)
                                          (.test ((I.length + 1).ble (I.length + 1))
                                            (.test ((I.length + 1).ble 1000000)
                                              (.test (decide (0 ≤ idxS (dL (ByteArray × ByteArray) (catD (eL I) I.length (listD [D.v (Value.string who), D.v (Value.string of)] [TK.str, TK.str].length)) (I.length + 1)) (who, of)) &&     decide (idxS (dL (ByteArray × ByteArray) (catD (eL I) I.length (listD [D.v (Value.string who), D.v (Value.string of)] [TK.str, TK.str].length)) (I.length + 1)) (who, of) < IntKind.i64.wrap (idxS (dL (ByteArray × ByteArray) (catD (eL I) I.length (listD [D.v (Value.string who), D.v (Value.string of)] [TK.str, TK.str].length)) (I.length + 1)) (who, of) + 1)) &&   (decide (IntKind.i64.wrap (idxS (dL (ByteArray × ByteArray) (catD (eL I) I.length (listD [D.v (Value.string who), D.v (Value.string of)] [TK.str, TK.str].length)) (I.length + 1)) (who, of) + 1) ≤ (↑(I.length + 1) : Int)) && (I.length + 1).beq (I.length + 1)))
                                                (.test (N.length.ble N.length)
                                                  (.test (decide (dL ByteArray (eL N) N.length = dL ByteArray (eL N) N.length))
                                                    (.test ((I.length + 1 - (IntKind.i64.wrap (idxS (dL (ByteArray × ByteArray) (catD (eL I) I.length (listD [D.v (Value.string who), D.v (Value.string of)] [TK.str, TK.str].length)) (I.length + 1)) (who, of) + 1) - idxS (dL (ByteArray × ByteArray) (catD (eL I) I.length (listD [D.v (Value.string who), D.v (Value.string of)] [TK.str, TK.str].length)) (I.length + 1)) (who, of)).toNat).ble   (I.length + 1 - (IntKind.i64.wrap (idxS (dL (ByteArray × ByteArray) (catD (eL I) I.length (listD [D.v (Value.string who), D.v (Value.string of)] [TK.str, TK.str].length)) (I.length + 1)) (who, of) + 1) - idxS (dL (ByteArray × ByteArray) (catD (eL I) I.length (listD [D.v (Value.string who), D.v (Value.string of)] [TK.str, TK.str].length)) (I.length + 1)) (who, of)).toNat))
                                                      (.test (!decide     (dL (ByteArray × ByteArray)         (cutD (catD (eL I) I.length (listD [D.v (Value.string who), D.v (Value.string of)] [TK.str, TK.str].length)) (idxS (dL (ByteArray × ByteArray) (catD (eL I) I.length (listD [D.v (Value.string who), D.v (Value.string of)] [TK.str, TK.str].length)) (I.length + 1)) (who, of)).toNat           (IntKind.i64.wrap (idxS (dL (ByteArray × ByteArray) (catD (eL I) I.length (listD [D.v (Value.string who), D.v (Value.string of)] [TK.str, TK.str].length)) (I.length + 1)) (who, of) + 1) - idxS (dL (ByteArray × ByteArray) (catD (eL I) I.length (listD [D.v (Value.string who), D.v (Value.string of)] [TK.str, TK.str].length)) (I.length + 1)) (who, of)).toNat)         (I.length + 1 - (IntKind.i64.wrap (idxS (dL (ByteArray × ByteArray) (catD (eL I) I.length (listD [D.v (Value.string who), D.v (Value.string of)] [TK.str, TK.str].length)) (I.length + 1)) (who, of) + 1) - idxS (dL (ByteArray × ByteArray) (catD (eL I) I.length (listD [D.v (Value.string who), D.v (Value.string of)] [TK.str, TK.str].length)) (I.length + 1)) (who, of)).toNat) =       dL (ByteArray × ByteArray) (eL I) I.length))
                                                        (.leaf (.fin ⟨Ex.ret, true, [some (AV.v (Value.bool false))], []⟩))
                                                        (.test (N.length.ble N.length)
                                                          (.test ((I.length + 1).ble (I.length + 1))
                                                            (.test (!mayP (dL ByteArray (eL N) N.length) (dL (ByteArray × ByteArray) (catD (eL I) I.length (listD [D.v (Value.string who), D.v (Value.string of)] [TK.str, TK.str].length)) (I.length + 1)))
                                                              (.leaf (.fin ⟨Ex.ret, true, [some (AV.v (Value.bool false))], []⟩))
                                                              (.test (N.length.ble N.length)
                                                                (.test ((I.length + 1).ble (I.length + 1))
                                                                  (.test (N.length.ble 1000000)
                                                                    (.test (N.length.ble 1000000)
                                                                      (.test (isP (dL ByteArray (eL N) N.length) (dL (ByteArray × ByteArray) (eL I) I.length) a b)
                                                                        (.leaf (.fin ⟨Ex.ret, true, [some (AV.s (Value.bool (isP (dL ByteArray (eL N) N.length) (dL (ByteArray × ByteArray) (catD (eL I) I.length (listD [D.v (Value.string who), D.v (Value.string of)] [TK.str, TK.str].length)) (I.length + 1)) a b == true)))], []⟩))
                                                                        (.test (N.length.ble 1000000)
                                                                          (.test (isP (dL ByteArray (eL N) N.length) (dL (ByteArray × ByteArray) (eL I) I.length) a who)
                                                                            (.test (N.length.ble 1000000)
                                                                              (.leaf (.fin ⟨Ex.ret, true, [some (AV.s (Value.bool (isP (dL ByteArray (eL N) N.length) (dL (ByteArray × ByteArray) (catD (eL I) I.length (listD [D.v (Value.string who), D.v (Value.string of)] [TK.str, TK.str].length)) (I.length + 1)) a b == isP (dL ByteArray (eL N) N.length) (dL (ByteArray × ByteArray) (eL I) I.length) of b)))], []⟩))
                                                                              .no
                                                                            )
                                                                            (.leaf (.fin ⟨Ex.ret, true, [some (AV.s (Value.bool (isP (dL ByteArray (eL N) N.length) (dL (ByteArray × ByteArray) (catD (eL I) I.length (listD [D.v (Value.string who), D.v (Value.string of)] [TK.str, TK.str].length)) (I.length + 1)) a b == false)))], []⟩))
                                                                          )
                                                                          .no
                                                                        )
                                                                      )
                                                                      .no
                                                                    )
                                                                    .no
                                                                  )
                                                                  .no
                                                                )
                                                                .no
                                                              )
                                                            )
                                                            .no
                                                          )
                                                          .no
                                                        )
                                                      )
                                                      .no
                                                    )
                                                    (.leaf (.fin ⟨Ex.ret, true, [some (AV.v (Value.bool false))], []⟩))
                                                  )
                                                  .no
                                                )
                                                .no
                                              )
                                              .no
                                            )
                                            .no
                                          )
                                          .no
                                        )
                                        .no
                                      )
                                    )
                                    .no
                                  )
                                )
                                .no
                              )
                              .no
                            )
                            .no
                          )
                          .no
                        )
                        .no
                      )
                    )
                  )
                )
              )
            )
          )
        )
      )
    )
  )
)
theorem rmo_h (N : List ByteArray) (I : List (ByteArray × ByteArray)) (who of a b : ByteArray) : (ev Tryd.prog roX3 awakeS 3000 noL 3000 .normal [.c 0 (codeOf Tryd.prog 6)] (params (rmo_a N I who of a b)) Ev.start).map (lookP Tryd.prog (resOf Tryd.prog 6) [] rmo_cf) = rmo_t Tryd.prog N I who of a b := by kernel_rfl

theorem rmo_ok (N : List ByteArray) (I : List (ByteArray × ByteArray)) (who to a b : ByteArray) : OCalls Tryd.prog 6 (rmo_a N I who to a b) (.s (.bool true)) [] := by
  have hB : Tryd.prog.types[36].bytes = 32 := by kernel_rfl
  have yev : Goes ⟨.ret, true, [some (.v (.bool true))], []⟩ [.s (.bool true)] [] := ⟨rfl, (.cons _ _ _ _ (.vs _) .nil), .nil⟩
  have yes : ∀ x, x = true → Goes ⟨.ret, true, [some (.s (.bool x))], []⟩ [.s (.bool true)] [] := fun x hx => ⟨rfl, (.cons _ _ _ _ (.ofEq (by rw [hx])) .nil), .nil⟩
  refine floyd0 ev_mix ev_ok roX3_ok awakeS_ok (by kernel_rfl) [] rmo_cf (rmo_t _ N I who to a b) (rmo_h N I who to a b) ?_
  unfold rmo_t
  simp only [dL_eL, dL_pair]
  refine ⟨fun _ => yes _ rfl, fun hl => ⟨fun _ => yes _ rfl, fun _ => ⟨fun _ => yes _ rfl, fun _ => ⟨fun _ => yes _ rfl, fun _ => ⟨fun _ => yes _ rfl, fun _ => ⟨fun _ => yes _ rfl, fun _ => ⟨fun _ => yev, fun hm => ⟨fun _ => yev, fun hne => ⟨fun _ => yev, fun hw => ⟨fun _ => yev, fun ht => ⟨fun _ => yev, fun hx => ?_⟩⟩⟩⟩⟩⟩⟩⟩⟩⟩⟩
  obtain ⟨hN, hI⟩ := longP_no hl
  have hm : mayP N I = true := by simpa using hm
  rw [ba_eq, decide_eq_false_iff_not] at hne
  rw [idxS_ge, Bool.not_eq_false', inL_iff] at hw ht
  rw [idxS_ge, inL_no] at hx
  have e1 := idxS_snoc hx
  have e2 : IntKind.i64.wrap ((I.length : Int) + 1) = (I.length : Int) + 1 := wrap_lt (by omega) (by omega)
  have e3 : ((I.length : Int) + 1 - I.length).toNat = 1 := by omega
  simp only [e1, e2, e3, Int.toNat_natCast, Nat.add_sub_cancel, dL_cut]
  have hM := mayP_pair hm hne hw ht hx
  refine hT (ble_yes (by omega)) (hT (ble_yes (by omega)) (hT (app_ok (k := 32) hB (by omega) (by omega)) (hT (ble_yes (Nat.le_refl _)) (hT (ble_yes (Nat.le_refl _)) (hF (by rw [hM]; rfl) (hT (ble_yes (Nat.le_refl _)) (hF (by simp) (hT (ble_yes (Nat.le_refl _)) (hT (ble_yes (by omega)) (hT (ble_yes (Nat.le_refl _)) (hT (ble_yes (by omega)) (hT ?_ (hT (ble_yes (Nat.le_refl _)) (hT (by simp) (hT (ble_yes (Nat.le_refl _)) (hF (by simp) (hT (ble_yes (Nat.le_refl _)) (hT (ble_yes (Nat.le_refl _)) (hF (by rw [hM]; rfl) (hT (ble_yes (Nat.le_refl _)) (hT (ble_yes (Nat.le_refl _)) (hT (ble_yes (by omega)) (hT (ble_yes (by omega)) ⟨fun h => ?_, fun h => hT (ble_yes (by omega)) ⟨fun h2 => hT (ble_yes (by omega)) ?_, fun h2 => ?_⟩⟩)))))))))))))))))))))))
  · simp only [Bool.and_eq_true, decide_eq_true_eq]
    refine ⟨⟨by omega, by omega⟩, by omega, by simp⟩
  · exact yes _ (by rw [isP_pair hw ht, show isP N I a b = true from h]; rfl)
  · exact yes _ (by rw [isP_pair hw ht, show isP N I a b = false from h, show isP N I a who = true from h2]; simp)
  · exact yes _ (by rw [isP_pair hw ht, show isP N I a b = false from h, show isP N I a who = false from h2]; rfl)
end Go.Proofs.YtffcaapbmkaceaaDoor
end
