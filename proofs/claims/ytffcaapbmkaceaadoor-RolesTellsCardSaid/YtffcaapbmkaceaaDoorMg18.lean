/- The document's Is. No condition. -/
import Derived.Test.YtffcaapbmkaceaaDoorMg17
import Derived.Test.YtffcaapbmkaceaaDoorMg16
import Derived.Test.YtffcaapbmkaceaaDoorMg11
section
namespace Go.Proofs.YtffcaapbmkaceaaDoor
open Ev Go.RowKit
set_option maxRecDepth 100000
set_option linter.unusedVariables false
def ris_cf : Nat → Cfg := cfL [mkC 117 [2, 3, 7, 8] [(3, []), (7, [])], mkC 117 [2, 3, 7, 8, 9, 10] [(3, []), (7, [])], mkC 117 [2, 3, 7, 8, 9, 10, 11, 12, 13] [(3, []), (7, [])], mkC 117 [2, 7, 14] [(7, [])]]
def ris_a (N : List ByteArray) (I : List (ByteArray × ByteArray)) (who to : ByteArray) : List AV := [stA N I, .s (.string who), .s (.string to)]
noncomputable def ris_t (P : Program) (N : List ByteArray) (I : List (ByteArray × ByteArray)) (who to : ByteArray) : Br PO :=
(.test (!inL who (dL ByteArray (eL N) N.length))
  (.leaf (.fin ⟨Ex.ret, true, [some (AV.v (Value.bool false))], []⟩))
  (.test (!inL to (dL ByteArray (eL N) N.length))
    (.leaf (.fin ⟨Ex.ret, true, [some (AV.v (Value.bool false))], []⟩))
    (.leaf (.at 0 (ct P 28 0).1 (ct P 28 0).2 ⟨Ex.normal, true, [some (AV.s (Value.string to)), some (AV.ptr 65536 0 0), some (AV.sl 65537 0 1 (some 1)), some (AV.v (Value.int IntKind.i64 (0)))], [OS.o (AO.cells [AV.fz (eL N) N.length [TK.str], AV.fz (eL I) I.length [TK.str, TK.str]] 2 65536 true false), OS.o (AO.cells [AV.s (Value.string who)] 1 65537 true false)]⟩))
  )
)
theorem ris_h (N : List ByteArray) (I : List (ByteArray × ByteArray)) (who to : ByteArray) : (ev Tryd.prog teX noS 3000 noL 3000 .normal [.c 0 (codeOf Tryd.prog 28)] (params (ris_a N I who to)) Ev.start).map (lookP Tryd.prog (resOf Tryd.prog 28) [] ris_cf) = ris_t Tryd.prog N I who to := by kernel_rfl
def ris_v0 (N : List ByteArray) (I : List (ByteArray × ByteArray)) (who to : ByteArray) (A : List ByteArray) (n : Nat) : List AV := [.s (.string to), .ptr 65536 0 0, .osl 65537 A.length, .s (.int .i64 n)]
def ris_o0 (N : List ByteArray) (I : List (ByteArray × ByteArray)) (who to : ByteArray) (A : List ByteArray) (n : Nat) : List AO := [stO N I, .rows (eL A) A.length [.str]]
noncomputable def ris_t0 (P : Program) (N : List ByteArray) (I : List (ByteArray × ByteArray)) (who to : ByteArray) (A : List ByteArray) (n : Nat) : Br PO :=
(.test (decide ((↑n : Int) < (↑N.length : Int)))
  (.leaf (.at 1 (ct P 28 1).1 (ct P 28 1).2 ⟨Ex.normal, true, [some (AV.s (Value.string to)), some (AV.ptr 65536 0 0), some (AV.osl 65537 A.length), some (AV.s (Value.int IntKind.i64 (Int.ofNat n))), some (AV.s (Value.int IntKind.i64 (Int.ofNat A.length))), some (AV.v (Value.int IntKind.i64 (0)))], [OS.o (AO.cells [AV.fz (eL N) N.length [TK.str], AV.fz (eL I) I.length [TK.str, TK.str]] 2 0 true false), OS.o (AO.rows (eL A) A.length [TK.str])]⟩))
  (.leaf (.at 3 (ct P 28 3).1 (ct P 28 3).2 ⟨Ex.normal, true, [some (AV.s (Value.string to)), some (AV.osl 65536 A.length), some (AV.v (Value.int IntKind.i64 (0)))], [OS.o (AO.rows (eL A) A.length [TK.str])]⟩))
)
theorem ris_h0 (N : List ByteArray) (I : List (ByteArray × ByteArray)) (who to : ByteArray) (A : List ByteArray) (n : Nat) (j : Nat → Value) : (ev Tryd.prog teX noS 3000 noL 3000 .normal (hd Tryd.prog 28 0) (mkE (ris_cf 0) (ris_v0 N I who to A n) j) (mkH openB (ris_o0 N I who to A n))).map (lookP Tryd.prog (resOf Tryd.prog 28) [] ris_cf) = ris_t0 Tryd.prog N I who to A n := by kernel_rfl
def ris_v1 (N : List ByteArray) (I : List (ByteArray × ByteArray)) (who to : ByteArray) (A : List ByteArray) (n was i : Nat) : List AV := [.s (.string to), .ptr 65536 0 0, .osl 65537 A.length, .s (.int .i64 n), .s (.int .i64 was), .s (.int .i64 i)]
def ris_o1 (N : List ByteArray) (I : List (ByteArray × ByteArray)) (who to : ByteArray) (A : List ByteArray) (n was i : Nat) : List AO := [stO N I, .rows (eL A) A.length [.str]]
noncomputable def ris_t1 (P : Program) (N : List ByteArray) (I : List (ByteArray × ByteArray)) (who to : ByteArray) (A : List ByteArray) (n was i : Nat) : Br PO :=
(.test (decide ((↑i : Int) < (↑I.length : Int)))
  (.leaf (.at 2 (ct P 28 2).1 (ct P 28 2).2 ⟨Ex.normal, true, [some (AV.s (Value.string to)), some (AV.ptr 65536 0 0), some (AV.osl 65537 A.length), some (AV.s (Value.int IntKind.i64 (Int.ofNat n))), some (AV.s (Value.int IntKind.i64 (Int.ofNat was))), some (AV.s (Value.int IntKind.i64 (Int.ofNat i))), some (AV.v (Value.bool false)), some (AV.v (Value.bool false)), some (AV.v (Value.int IntKind.i64 (0)))], [OS.o (AO.cells [AV.fz (eL N) N.length [TK.str], AV.fz (eL I) I.length [TK.str, TK.str]] 2 0 true false), OS.o (AO.rows (eL A) A.length [TK.str])]⟩))
  (.test ((↑A.length : Int) == (↑was : Int))
    (.leaf (.at 3 (ct P 28 3).1 (ct P 28 3).2 ⟨Ex.normal, true, [some (AV.s (Value.string to)), some (AV.osl 65536 A.length), some (AV.v (Value.int IntKind.i64 (0)))], [OS.o (AO.rows (eL A) A.length [TK.str])]⟩))
    (.leaf (.at 0 (ct P 28 0).1 (ct P 28 0).2 ⟨Ex.normal, true, [some (AV.s (Value.string to)), some (AV.ptr 65536 0 0), some (AV.osl 65537 A.length), some (AV.s (Value.int IntKind.i64 (IntKind.i64.wrap ((↑n : Int) + 1))))], [OS.o (AO.cells [AV.fz (eL N) N.length [TK.str], AV.fz (eL I) I.length [TK.str, TK.str]] 2 0 true false), OS.o (AO.rows (eL A) A.length [TK.str])]⟩))
  )
)
theorem ris_h1 (N : List ByteArray) (I : List (ByteArray × ByteArray)) (who to : ByteArray) (A : List ByteArray) (n was i : Nat) (j : Nat → Value) : (ev Tryd.prog teX noS 3000 noL 3000 .normal (hd Tryd.prog 28 1) (mkE (ris_cf 1) (ris_v1 N I who to A n was i) j) (mkH openB (ris_o1 N I who to A n was i))).map (lookP Tryd.prog (resOf Tryd.prog 28) [] ris_cf) = ris_t1 Tryd.prog N I who to A n was i := by kernel_rfl
def ris_v2 (N : List ByteArray) (I : List (ByteArray × ByteArray)) (who to : ByteArray) (A : List ByteArray) (n was i : Nat) (fr ton : Bool) (k : Nat) : List AV := [.s (.string to), .ptr 65536 0 0, .osl 65537 A.length, .s (.int .i64 n), .s (.int .i64 was), .s (.int .i64 i), .s (.bool fr), .s (.bool ton), .s (.int .i64 k)]
def ris_o2 (N : List ByteArray) (I : List (ByteArray × ByteArray)) (who to : ByteArray) (A : List ByteArray) (n was i : Nat) (fr ton : Bool) (k : Nat) : List AO := [stO N I, .rows (eL A) A.length [.str]]
noncomputable def ris_t2 (P : Program) (N : List ByteArray) (I : List (ByteArray × ByteArray)) (who to : ByteArray) (A : List ByteArray) (n was i : Nat) (fr ton : Bool) (k : Nat) : Br PO :=
(.test (decide ((↑k : Int) < (↑A.length : Int)))
  (.test (fr)
    (.test (ton)
      (.leaf (.at 2 (ct P 28 2).1 (ct P 28 2).2 ⟨Ex.normal, true, [some (AV.s (Value.string to)), some (AV.ptr 65536 0 0), some (AV.osl 65537 A.length), some (AV.s (Value.int IntKind.i64 (Int.ofNat n))), some (AV.s (Value.int IntKind.i64 (Int.ofNat was))), some (AV.s (Value.int IntKind.i64 (Int.ofNat i))), some (AV.v (Value.bool true)), some (AV.v (Value.bool true)), some (AV.s (Value.int IntKind.i64 (IntKind.i64.wrap ((↑k : Int) + 1))))], [OS.o (AO.cells [AV.fz (eL N) N.length [TK.str], AV.fz (eL I) I.length [TK.str, TK.str]] 2 0 true false), OS.o (AO.rows (eL A) A.length [TK.str])]⟩))
      (.test (decide (0 ≤ (↑k : Int)) && decide ((↑k : Int) < (↑A.length : Int)))
        (.test ((↑k : Int).toNat.blt A.length)
          (.test (decide (0 ≤ (↑i : Int)) && decide ((↑i : Int) < (↑I.length : Int)))
            (.leaf (.at 2 (ct P 28 2).1 (ct P 28 2).2 ⟨Ex.normal, true, [some (AV.s (Value.string to)), some (AV.ptr 65536 0 0), some (AV.osl 65537 A.length), some (AV.s (Value.int IntKind.i64 (Int.ofNat n))), some (AV.s (Value.int IntKind.i64 (Int.ofNat was))), some (AV.s (Value.int IntKind.i64 (Int.ofNat i))), some (AV.v (Value.bool true)), some (AV.s (Value.bool ((A.getD (↑k : Int).toNat default).toList == (I.getD (↑i : Int).toNat default).snd.toList))), some (AV.s (Value.int IntKind.i64 (IntKind.i64.wrap ((↑k : Int) + 1))))], [OS.o (AO.cells [AV.fz (eL N) N.length [TK.str], AV.fz (eL I) I.length [TK.str, TK.str]] 2 0 true false), OS.o (AO.rows (eL A) A.length [TK.str])]⟩))
            .no
          )
          .no
        )
        .no
      )
    )
    (.test (decide (0 ≤ (↑k : Int)) && decide ((↑k : Int) < (↑A.length : Int)))
      (.test ((↑k : Int).toNat.blt A.length)
        (.test (decide (0 ≤ (↑i : Int)) && decide ((↑i : Int) < (↑I.length : Int)))
          (.test (ton)
            (.leaf (.at 2 (ct P 28 2).1 (ct P 28 2).2 ⟨Ex.normal, true, [some (AV.s (Value.string to)), some (AV.ptr 65536 0 0), some (AV.osl 65537 A.length), some (AV.s (Value.int IntKind.i64 (Int.ofNat n))), some (AV.s (Value.int IntKind.i64 (Int.ofNat was))), some (AV.s (Value.int IntKind.i64 (Int.ofNat i))), some (AV.s (Value.bool ((A.getD (↑k : Int).toNat default).toList == (I.getD (↑i : Int).toNat default).fst.toList))), some (AV.v (Value.bool true)), some (AV.s (Value.int IntKind.i64 (IntKind.i64.wrap ((↑k : Int) + 1))))], [OS.o (AO.cells [AV.fz (eL N) N.length [TK.str], AV.fz (eL I) I.length [TK.str, TK.str]] 2 0 true false), OS.o (AO.rows (eL A) A.length [TK.str])]⟩))
            (.test (decide (0 ≤ (↑k : Int)) && decide ((↑k : Int) < (↑A.length : Int)))
              (.test ((↑k : Int).toNat.blt A.length)
                (.test (decide (0 ≤ (↑i : Int)) && decide ((↑i : Int) < (↑I.length : Int)))
                  (.leaf (.at 2 (ct P 28 2).1 (ct P 28 2).2 ⟨Ex.normal, true, [some (AV.s (Value.string to)), some (AV.ptr 65536 0 0), some (AV.osl 65537 A.length), some (AV.s (Value.int IntKind.i64 (Int.ofNat n))), some (AV.s (Value.int IntKind.i64 (Int.ofNat was))), some (AV.s (Value.int IntKind.i64 (Int.ofNat i))), some (AV.s (Value.bool ((A.getD (↑k : Int).toNat default).toList == (I.getD (↑i : Int).toNat default).fst.toList))), some (AV.s (Value.bool ((A.getD (↑k : Int).toNat default).toList == (I.getD (↑i : Int).toNat default).snd.toList))), some (AV.s (Value.int IntKind.i64 (IntKind.i64.wrap ((↑k : Int) + 1))))], [OS.o (AO.cells [AV.fz (eL N) N.length [TK.str], AV.fz (eL I) I.length [TK.str, TK.str]] 2 0 true false), OS.o (AO.rows (eL A) A.length [TK.str])]⟩))
                  .no
                )
                .no
              )
              .no
            )
          )
          .no
        )
        .no
      )
      .no
    )
  )
  (.test (fr)
    (.test (!ton)
      (.test (decide (0 ≤ (↑i : Int)) && decide ((↑i : Int) < (↑I.length : Int)))
        (.test (inL (I.getD (↑i : Int).toNat default).snd (dL ByteArray (eL N) N.length))
          (.test (decide (0 ≤ (↑i : Int)) && decide ((↑i : Int) < (↑I.length : Int)))
            (.test (A.length.beq A.length && (true && (small (1 + A.length) && small (Tryd.prog.types[9].bytes * (1 + A.length)))))
              (.leaf (.at 1 (ct P 28 1).1 (ct P 28 1).2 ⟨Ex.normal, true, [some (AV.s (Value.string to)), some (AV.ptr 65536 0 0), some (AV.osl 65537 (A.length + 1)), some (AV.s (Value.int IntKind.i64 (Int.ofNat n))), some (AV.s (Value.int IntKind.i64 (Int.ofNat was))), some (AV.s (Value.int IntKind.i64 (IntKind.i64.wrap ((↑i : Int) + 1))))], [OS.o (AO.cells [AV.fz (eL N) N.length [TK.str], AV.fz (eL I) I.length [TK.str, TK.str]] 2 0 true false), OS.o (AO.rows (catD (eL A) A.length (listD [D.v (Value.string (I.getD (↑i : Int).toNat default).snd)] [TK.str].length)) (A.length + 1) [TK.str])]⟩))
              .no
            )
            .no
          )
          (.leaf (.at 1 (ct P 28 1).1 (ct P 28 1).2 ⟨Ex.normal, true, [some (AV.s (Value.string to)), some (AV.ptr 65536 0 0), some (AV.osl 65537 A.length), some (AV.s (Value.int IntKind.i64 (Int.ofNat n))), some (AV.s (Value.int IntKind.i64 (Int.ofNat was))), some (AV.s (Value.int IntKind.i64 (IntKind.i64.wrap ((↑i : Int) + 1))))], [OS.o (AO.cells [AV.fz (eL N) N.length [TK.str], AV.fz (eL I) I.length [TK.str, TK.str]] 2 0 true false), OS.o (AO.rows (eL A) A.length [TK.str])]⟩))
        )
        .no
      )
      (.leaf (.at 1 (ct P 28 1).1 (ct P 28 1).2 ⟨Ex.normal, true, [some (AV.s (Value.string to)), some (AV.ptr 65536 0 0), some (AV.osl 65537 A.length), some (AV.s (Value.int IntKind.i64 (Int.ofNat n))), some (AV.s (Value.int IntKind.i64 (Int.ofNat was))), some (AV.s (Value.int IntKind.i64 (IntKind.i64.wrap ((↑i : Int) + 1))))], [OS.o (AO.cells [AV.fz (eL N) N.length [TK.str], AV.fz (eL I) I.length [TK.str, TK.str]] 2 0 true false), OS.o (AO.rows (eL A) A.length [TK.str])]⟩))
    )
    (.leaf (.at 1 (ct P 28 1).1 (ct P 28 1).2 ⟨Ex.normal, true, [some (AV.s (Value.string to)), some (AV.ptr 65536 0 0), some (AV.osl 65537 A.length), some (AV.s (Value.int IntKind.i64 (Int.ofNat n))), some (AV.s (Value.int IntKind.i64 (Int.ofNat was))), some (AV.s (Value.int IntKind.i64 (IntKind.i64.wrap ((↑i : Int) + 1))))], [OS.o (AO.cells [AV.fz (eL N) N.length [TK.str], AV.fz (eL I) I.length [TK.str, TK.str]] 2 0 true false), OS.o (AO.rows (eL A) A.length [TK.str])]⟩))
  )
)
theorem ris_h2 (N : List ByteArray) (I : List (ByteArray × ByteArray)) (who to : ByteArray) (A : List ByteArray) (n was i : Nat) (fr ton : Bool) (k : Nat) (j : Nat → Value) : (ev Tryd.prog teX noS 3000 noL 3000 .normal (hd Tryd.prog 28 2) (mkE (ris_cf 2) (ris_v2 N I who to A n was i fr ton k) j) (mkH openB (ris_o2 N I who to A n was i fr ton k))).map (lookP Tryd.prog (resOf Tryd.prog 28) [] ris_cf) = ris_t2 Tryd.prog N I who to A n was i fr ton k := by kernel_rfl
def ris_v3 (N : List ByteArray) (I : List (ByteArray × ByteArray)) (who to : ByteArray) (A : List ByteArray) (k : Nat) : List AV := [.s (.string to), .osl 65536 A.length, .s (.int .i64 k)]
def ris_o3 (N : List ByteArray) (I : List (ByteArray × ByteArray)) (who to : ByteArray) (A : List ByteArray) (k : Nat) : List AO := [.rows (eL A) A.length [.str]]
noncomputable def ris_t3 (P : Program) (N : List ByteArray) (I : List (ByteArray × ByteArray)) (who to : ByteArray) (A : List ByteArray) (k : Nat) : Br PO :=
(.test (decide ((↑k : Int) < (↑A.length : Int)))
  (.test (decide (0 ≤ (↑k : Int)) && decide ((↑k : Int) < (↑A.length : Int)))
    (.test ((↑k : Int).toNat.blt A.length)
      (.test ((A.getD (↑k : Int).toNat default).toList == to.toList)
        (.leaf (.fin ⟨Ex.ret, true, [some (AV.v (Value.bool true))], []⟩))
        (.leaf (.at 3 (ct P 28 3).1 (ct P 28 3).2 ⟨Ex.normal, true, [some (AV.s (Value.string to)), some (AV.osl 65536 A.length), some (AV.s (Value.int IntKind.i64 (IntKind.i64.wrap ((↑k : Int) + 1))))], [OS.o (AO.rows (eL A) A.length [TK.str])]⟩))
      )
      .no
    )
    .no
  )
  (.leaf (.fin ⟨Ex.ret, true, [some (AV.v (Value.bool false))], []⟩))
)
theorem ris_h3 (N : List ByteArray) (I : List (ByteArray × ByteArray)) (who to : ByteArray) (A : List ByteArray) (k : Nat) (j : Nat → Value) : (ev Tryd.prog teX noS 3000 noL 3000 .normal (hd Tryd.prog 28 3) (mkE (ris_cf 3) (ris_v3 N I who to A k) j) (mkH openB (ris_o3 N I who to A k))).map (lookP Tryd.prog (resOf Tryd.prog 28) [] ris_cf) = ris_t3 Tryd.prog N I who to A k := by kernel_rfl

inductive RiS where
  | a (A : List ByteArray) (n : Nat)
  | b (A : List ByteArray) (n was i : Nat)
  | c (A : List ByteArray) (n was i : Nat) (fr ton : Bool) (k : Nat)
  | d (A : List ByteArray) (k : Nat)
def RiS.pc : RiS → Nat
  | .a _ _ => 0
  | .b _ _ _ _ => 1
  | .c _ _ _ _ _ _ _ => 2
  | .d _ _ => 3
def RiV (N : List ByteArray) (I : List (ByteArray × ByteArray)) (who to : ByteArray) : RiS → List AV
  | .a A n => ris_v0 N I who to A n
  | .b A n was i => ris_v1 N I who to A n was i
  | .c A n was i fr ton k => ris_v2 N I who to A n was i fr ton k
  | .d A k => ris_v3 N I who to A k
def RiO (N : List ByteArray) (I : List (ByteArray × ByteArray)) (who to : ByteArray) : RiS → List AO
  | .a A n => ris_o0 N I who to A n
  | .b A n was i => ris_o1 N I who to A n was i
  | .c A n was i fr ton k => ris_o2 N I who to A n was i fr ton k
  | .d A k => ris_o3 N I who to A k
noncomputable def RiT (P : Program) (N : List ByteArray) (I : List (ByteArray × ByteArray)) (who to : ByteArray) : RiS → Br PO
  | .a A n => ris_t0 P N I who to A n
  | .b A n was i => ris_t1 P N I who to A n was i
  | .c A n was i fr ton k => ris_t2 P N I who to A n was i fr ton k
  | .d A k => ris_t3 P N I who to A k
def RiM (nN nI : Nat) : RiS → Nat × Nat × Nat
  | .a A n => (2 * (nN - n) + 2, 0, 0)
  | .b A n was i => (2 * (nN - n) + 1, 2 * (nI - i) + 1, 0)
  | .c A n was i fr ton k => (2 * (nN - n) + 1, 2 * (nI - i), A.length - k)
  | .d A k => (0, 0, A.length - k)
theorem r3a {a b : Nat} {x y : Nat × Nat} (h : a < b) : WellFoundedRelation.rel (a, x) (b, y) := Prod.Lex.left _ _ h
theorem r3b {a b c x y : Nat} (h : b < c) : WellFoundedRelation.rel (a, b, x) (a, c, y) := Prod.Lex.right _ (Prod.Lex.left _ _ h)
theorem r3c {a b x y : Nat} (h : x < y) : WellFoundedRelation.rel (a, b, x) (a, b, y) := Prod.Lex.right _ (Prod.Lex.right _ h)
def clO (N A : List ByteArray) (p : ByteArray × ByteArray) : Prop := p.1 ∈ A → p.2 ∈ N → p.2 ∈ A
def RiJ (N : List ByteArray) (I : List (ByteArray × ByteArray)) (who to : ByteArray) : RiS → Prop
  | .a A n => (who ∈ N ∧ to ∈ N) ∧ IsJ N I who to A 0 ∧ n + 1 ≤ A.length
  | .b A n was i => (who ∈ N ∧ to ∈ N) ∧ IsJ N I who to A 0 ∧ (n < N.length ∧ n + 1 ≤ was ∧ was ≤ A.length) ∧ i ≤ I.length ∧ (A.length = was → ∀ q, q < i → clO N A (I.getD q default))
  | .c A n was i fr ton k => (who ∈ N ∧ to ∈ N) ∧ IsJ N I who to A 0 ∧ (n < N.length ∧ n + 1 ≤ was ∧ was ≤ A.length) ∧ i < I.length ∧ (A.length = was → ∀ q, q < i → clO N A (I.getD q default)) ∧ k ≤ A.length ∧ fr = inL (I.getD i default).1 (A.take k) ∧ ton = inL (I.getD i default).2 (A.take k)
  | .d A k => (who ∈ N ∧ to ∈ N) ∧ IsJ N I who to A 0 ∧ (∀ p ∈ I, clO N A p) ∧ k ≤ A.length ∧ ∀ q, q < k → A.getD q default ≠ to
theorem IsJ.closed {N : List ByteArray} {I : List (ByteArray × ByteArray)} {who to : ByteArray} {A : List ByteArray} (h : IsJ N I who to A 0) (hc : ∀ p ∈ I, clO N A p) {x : ByteArray} (hx : Reach N I who x) : x ∈ A := by
  have h' : IsJ N I who to A A.length := ⟨h.hwho, h.nd, h.sub, h.re, Nat.le_refl _, fun k hk p hp he hn => hc p hp (he ▸ getD_mem hk) hn⟩
  exact h'.end (Nat.le_refl _) hx
theorem inL_next {x : ByteArray} {A : List ByteArray} {k : Nat} (h : k < A.length) : inL x (A.take (k + 1)) = (inL x (A.take k) || (A.getD k default).toList == x.toList) := by
  rw [Bool.eq_iff_iff, Bool.or_eq_true, inL_iff, inL_iff, take_snoc h, List.mem_append, List.mem_singleton, ba_eq, decide_eq_true_eq]
  exact or_congr Iff.rfl eq_comm
theorem ris_ok (N : List ByteArray) (I : List (ByteArray × ByteArray)) (who to : ByteArray) (hsm : N.length ≤ 1000000) : OCalls Tryd.prog 28 (ris_a N I who to) (.s (.bool (isP N I who to))) [] := OCalls.bnd fun hb => by
  have hLI : I.length ≤ 9223372036854775807 := hb.1.2.1
  have hB : Tryd.prog.types[9].bytes = 16 := by kernel_rfl
  have no : ¬ (who ∈ N ∧ to ∈ N ∧ Reach N I who to) → Goes ⟨.ret, true, [some (.v (.bool false))], []⟩ [.s (.bool (isP N I who to))] [] := fun h => ⟨rfl, (.cons _ _ _ _ (by rw [isP_false h]; exact .vs _) .nil), .nil⟩
  refine floyd ev_mix ev_ok teX_ok noSO (by kernel_rfl) [] ris_cf (RiM N.length I.length) RiS.pc (RiV N I who to) (RiO N I who to) (RiJ N I who to) (RiT _ N I who to) (ris_t _ N I who to) (ris_h N I who to) (fun s j => by cases s; exact ris_h0 N I who to _ _ j; exact ris_h1 N I who to _ _ _ _ j; exact ris_h2 N I who to _ _ _ _ _ _ _ j; exact ris_h3 N I who to _ _ j) ?_ ?_
  · unfold ris_t
    rw [dL_eL]
    refine ⟨fun h => no fun hx => ?_, fun h => ⟨fun h2 => no fun hx => ?_, fun h2 => ?_⟩⟩
    · rw [Bool.not_eq_true', inL_no] at h; exact h hx.1
    · rw [Bool.not_eq_true', inL_no] at h2; exact h2 hx.2.1
    · rw [Bool.not_eq_false', inL_iff] at h h2
      refine ⟨.a [who] 0, ⟨⟨h, h2⟩, ⟨by simp, by simp, fun x hx => by simp at hx; exact hx ▸ h, fun x hx => by simp at hx; exact hx ▸ .refl, Nat.zero_le _, fun k hk => absurd hk (Nat.not_lt_zero k)⟩, by simp⟩, rfl, rfl, rfl, (.cons _ _ _ _ (.refl _) (.cons _ _ _ _ (.refl _) (.cons _ _ _ _ (.sl0 _ _ _) (.cons _ _ _ _ (.vs _) .nil)))), .cons _ _ _ _ (st_le N I _ _) (.cons _ _ _ _ (.row [.s (.string who)] [.v (.string who)] _ _ _ 1 [.str] rfl rfl (by omega) (fun i c hi hc => ?_)) .nil)⟩
      have : i = 0 := by omega
      subst this
      have : c = 0 := by simp at hc; omega
      subst this
      rfl
  · intro s hs
    cases s with
    | a A n =>
      obtain ⟨hm, hJ, hn⟩ := hs
      have hle := hJ.le
      refine hSd (fun h => ?_) fun h => ?_
      · exact ⟨.b A n A.length 0, ⟨hm, hJ, ⟨by omega, hn, Nat.le_refl _⟩, Nat.zero_le _, fun _ q hq => absurd hq (Nat.not_lt_zero q)⟩, r3a (by omega), rfl, rfl, rfl, (.cons _ _ _ _ (.refl _) (.cons _ _ _ _ (.refl _) (.cons _ _ _ _ (.refl _) (.cons _ _ _ _ (.refl _) (.cons _ _ _ _ (.refl _) (.cons _ _ _ _ (.vs _) .nil)))))), .cons _ _ _ _ (st_le N I _ _) (.cons _ _ _ _ (OLe.same _ _ _) .nil)⟩
      · omega
    | b A n was i =>
      obtain ⟨hm, hJ, ⟨hn, hw1, hw2⟩, hi, hc⟩ := hs
      have hle := hJ.le
      refine hSd (fun h => ?_) fun h => hSe (fun h2 => ?_) fun h2 => ?_
      · exact ⟨.c A n was i false false 0, ⟨hm, hJ, ⟨hn, hw1, hw2⟩, by omega, hc, Nat.zero_le _, rfl, rfl⟩, r3b (by omega), rfl, rfl, rfl, (.cons _ _ _ _ (.refl _) (.cons _ _ _ _ (.refl _) (.cons _ _ _ _ (.refl _) (.cons _ _ _ _ (.refl _) (.cons _ _ _ _ (.refl _) (.cons _ _ _ _ (.refl _) (.cons _ _ _ _ (.vs _) (.cons _ _ _ _ (.vs _) (.cons _ _ _ _ (.vs _) .nil))))))))), .cons _ _ _ _ (st_le N I _ _) (.cons _ _ _ _ (OLe.same _ _ _) .nil)⟩
      · have : i = I.length := by omega
        subst this
        refine ⟨.d A 0, ⟨hm, hJ, fun p hp => ?_, Nat.zero_le _, fun q hq => absurd hq (Nat.not_lt_zero q)⟩, r3a (by omega), rfl, rfl, rfl, (.cons _ _ _ _ (.refl _) (.cons _ _ _ _ (.refl _) (.cons _ _ _ _ (.vs _) .nil))), .cons _ _ _ _ (OLe.same _ _ _) .nil⟩
        obtain ⟨q, h1, rfl⟩ := mem_getD hp
        exact hc (by omega) q h1
      · exact ⟨.a A (n + 1), ⟨hm, hJ, by omega⟩, r3a (by omega), rfl, rfl, rfl, (.cons _ _ _ _ (.refl _) (.cons _ _ _ _ (.refl _) (.cons _ _ _ _ (.refl _) (.cons _ _ _ _ (.ofEq (by rw [wrap_lt (by omega) (by omega)]; rfl)) .nil)))), .cons _ _ _ _ (st_le N I _ _) (.cons _ _ _ _ (OLe.same _ _ _) .nil)⟩
    | c A n was i fr ton k =>
      obtain ⟨hm, hJ, ⟨hn, hw1, hw2⟩, hi, hc, hk, hfr, hto⟩ := hs
      have hle := hJ.le
      refine hSd (fun h => ?_) fun h => ?_
      · have h : k < A.length := by omega
        have next : ∀ fr' ton', fr' = inL (I.getD i default).1 (A.take (k + 1)) → ton' = inL (I.getD i default).2 (A.take (k + 1)) → RiJ N I who to (.c A n was i fr' ton' (k + 1)) := fun fr' ton' e1 e2 => ⟨hm, hJ, ⟨hn, hw1, hw2⟩, hi, hc, by omega, e1, e2⟩
        rw [inL_next h, inL_next h, ← hfr, ← hto] at next
        have lt : A.length - (k + 1) < A.length - k := by omega
        have b1 : Nat.blt k A.length = true := by simpa using h
        refine ⟨fun h1 => ⟨fun h2 => ?_, fun h2 => ?_⟩, fun h1 => ?_⟩
        · exact ⟨.c A n was i true true (k + 1), next _ _ (by rw [h1]; rfl) (by rw [h2]; rfl), r3c lt, rfl, rfl, rfl, (.cons _ _ _ _ (.refl _) (.cons _ _ _ _ (.refl _) (.cons _ _ _ _ (.refl _) (.cons _ _ _ _ (.refl _) (.cons _ _ _ _ (.refl _) (.cons _ _ _ _ (.refl _) (.cons _ _ _ _ (.vs _) (.cons _ _ _ _ (.vs _) (.cons _ _ _ _ (.ofEq (by rw [wrap_lt (by omega) (by omega)]; rfl)) .nil))))))))), .cons _ _ _ _ (st_le N I _ _) (.cons _ _ _ _ (OLe.same _ _ _) .nil)⟩
        · refine hSi h (hT b1 (hSi hi ?_))
          exact ⟨.c A n was i true _ (k + 1), next _ _ (by rw [h1]; rfl) rfl, r3c lt, rfl, rfl, rfl, (.cons _ _ _ _ (.refl _) (.cons _ _ _ _ (.refl _) (.cons _ _ _ _ (.refl _) (.cons _ _ _ _ (.refl _) (.cons _ _ _ _ (.refl _) (.cons _ _ _ _ (.refl _) (.cons _ _ _ _ (.vs _) (.cons _ _ _ _ (.ofEq (by rw [h2]; rfl)) (.cons _ _ _ _ (.ofEq (by rw [wrap_lt (by omega) (by omega)]; rfl)) .nil))))))))), .cons _ _ _ _ (st_le N I _ _) (.cons _ _ _ _ (OLe.same _ _ _) .nil)⟩
        · refine hSi h (hT b1 (hSi hi ⟨fun h2 => ?_, fun h2 => ?_⟩))
          · exact ⟨.c A n was i _ true (k + 1), next _ _ rfl (by rw [h2]; rfl), r3c lt, rfl, rfl, rfl, (.cons _ _ _ _ (.refl _) (.cons _ _ _ _ (.refl _) (.cons _ _ _ _ (.refl _) (.cons _ _ _ _ (.refl _) (.cons _ _ _ _ (.refl _) (.cons _ _ _ _ (.refl _) (.cons _ _ _ _ (.ofEq (by rw [h1]; rfl)) (.cons _ _ _ _ (.vs _) (.cons _ _ _ _ (.ofEq (by rw [wrap_lt (by omega) (by omega)]; rfl)) .nil))))))))), .cons _ _ _ _ (st_le N I _ _) (.cons _ _ _ _ (OLe.same _ _ _) .nil)⟩
          · refine hSi h (hT b1 (hSi hi ?_))
            exact ⟨.c A n was i _ _ (k + 1), next _ _ rfl rfl, r3c lt, rfl, rfl, rfl, (.cons _ _ _ _ (.refl _) (.cons _ _ _ _ (.refl _) (.cons _ _ _ _ (.refl _) (.cons _ _ _ _ (.refl _) (.cons _ _ _ _ (.refl _) (.cons _ _ _ _ (.refl _) (.cons _ _ _ _ (.ofEq (by rw [h1]; rfl)) (.cons _ _ _ _ (.ofEq (by rw [h2]; rfl)) (.cons _ _ _ _ (.ofEq (by rw [wrap_lt (by omega) (by omega)]; rfl)) .nil))))))))), .cons _ _ _ _ (st_le N I _ _) (.cons _ _ _ _ (OLe.same _ _ _) .nil)⟩
      · have h : k = A.length := by omega
        subst h
        rw [List.take_length] at hfr hto
        have keep : clO N A (I.getD i default) → RiJ N I who to (.b A n was (i + 1)) := fun hcl => ⟨hm, hJ, ⟨hn, hw1, hw2⟩, by omega, fun e => upto_next (hc e) hcl⟩
        have lt : 2 * (I.length - (i + 1)) + 1 < 2 * (I.length - i) := by omega
        rw [dL_eL] at *
        refine ⟨fun h1 => ⟨fun h2 => hSi hi ⟨fun h3 => hSi hi (hT (app_ok (k := 16) hB (by omega) (by omega)) ?_), fun h3 => ?_⟩, fun h2 => ?_⟩, fun h1 => ?_⟩
        · rw [Bool.not_eq_true'] at h2
          have h1' : (I.getD i default).1 ∈ A := inL_iff.1 (hfr ▸ h1)
          have h2' : (I.getD i default).2 ∉ A := inL_no.1 (hto ▸ h2)
          have h3' : (I.getD i default).2 ∈ N := inL_iff.1 h3
          have hl : (A ++ [(I.getD i default).2]).length = A.length + 1 := by simp
          exact ⟨.b (A ++ [(I.getD i default).2]) n was (i + 1), ⟨hm, hJ.app h2' h3' (.step _ _ (hJ.re _ h1') (getD_mem hi) h3'), ⟨hn, hw1, by omega⟩, by omega, fun e => by omega⟩, r3b lt, rfl, rfl, rfl, (.cons _ _ _ _ (.refl _) (.cons _ _ _ _ (.refl _) (.cons _ _ _ _ (.ofEq (by rw [hl])) (.cons _ _ _ _ (.refl _) (.cons _ _ _ _ (.refl _) (.cons _ _ _ _ (.ofEq (by rw [wrap_lt (by omega) (by omega)]; rfl)) .nil)))))), .cons _ _ _ _ (st_le N I _ _) (.cons _ _ _ _ (OLe.snoc (x := (I.getD i default).2) fun c hc => by have : c = 0 := (by simp [Rec.ks] at hc; omega); subst this; rfl) .nil)⟩
        · exact ⟨_, keep fun _ hx => absurd hx (inL_no.1 h3), r3b lt, rfl, rfl, rfl, (.cons _ _ _ _ (.refl _) (.cons _ _ _ _ (.refl _) (.cons _ _ _ _ (.refl _) (.cons _ _ _ _ (.refl _) (.cons _ _ _ _ (.refl _) (.cons _ _ _ _ (.ofEq (by rw [wrap_lt (by omega) (by omega)]; rfl)) .nil)))))), .cons _ _ _ _ (st_le N I _ _) (.cons _ _ _ _ (OLe.same _ _ _) .nil)⟩
        · rw [Bool.not_eq_false'] at h2
          exact ⟨_, keep fun _ _ => inL_iff.1 (hto ▸ h2), r3b lt, rfl, rfl, rfl, (.cons _ _ _ _ (.refl _) (.cons _ _ _ _ (.refl _) (.cons _ _ _ _ (.refl _) (.cons _ _ _ _ (.refl _) (.cons _ _ _ _ (.refl _) (.cons _ _ _ _ (.ofEq (by rw [wrap_lt (by omega) (by omega)]; rfl)) .nil)))))), .cons _ _ _ _ (st_le N I _ _) (.cons _ _ _ _ (OLe.same _ _ _) .nil)⟩
        · exact ⟨_, keep fun hx => absurd hx (inL_no.1 (hfr ▸ h1)), r3b lt, rfl, rfl, rfl, (.cons _ _ _ _ (.refl _) (.cons _ _ _ _ (.refl _) (.cons _ _ _ _ (.refl _) (.cons _ _ _ _ (.refl _) (.cons _ _ _ _ (.refl _) (.cons _ _ _ _ (.ofEq (by rw [wrap_lt (by omega) (by omega)]; rfl)) .nil)))))), .cons _ _ _ _ (st_le N I _ _) (.cons _ _ _ _ (OLe.same _ _ _) .nil)⟩
    | d A k =>
      obtain ⟨hm, hJ, hc, hk, hq⟩ := hs
      have hle := hJ.le
      refine hSd (fun h => ?_) fun h => ?_
      · have h : k < A.length := by omega
        refine hSi h (hT (by simpa using h) (hSb (fun h2 => ?_) fun h2 => ?_))
        · exact ⟨rfl, (.cons _ _ _ _ (by rw [isP_true ⟨hm.1, hm.2, (show A.getD k default = to from h2) ▸ hJ.re _ (getD_mem h)⟩]; exact .vs _) .nil), .nil⟩
        · exact ⟨.d A (k + 1), ⟨hm, hJ, hc, by omega, upto_next hq h2⟩, r3c (by omega), rfl, rfl, rfl, (.cons _ _ _ _ (.refl _) (.cons _ _ _ _ (.refl _) (.cons _ _ _ _ (.ofEq (by rw [wrap_lt (by omega) (by omega)]; rfl)) .nil))), .cons _ _ _ _ (OLe.same _ _ _) .nil⟩
      · have h : k = A.length := by omega
        subst h
        refine no fun hx => ?_
        obtain ⟨q, h1, h2⟩ := mem_getD (hJ.closed hc hx.2.2)
        exact hq q h1 h2
noncomputable def risX : SumBr := oX 28 fun
  | [v, a, b] => match stV v, strV a, strV b with
    | some ((f, n), (g, m)), some x, some y => some (.test (Nat.ble n 1000000) (.leaf (.s (.bool (isP (dL _ f n) (dL _ g m) x y)), [])) .no)
    | _, _, _ => none
  | _ => none
theorem risX_ok : SumGO Tryd.prog (sumS risX) := oX_ok (by kernel_rfl) fun xs B r h hB => by
  split at h
  · split at h
    · rename_i v a b f n g m x y hv ha hb
      cases h
      rcases hB with ⟨hn, hB⟩ | ⟨_, hB⟩
      · cases hB
        exact (ris_ok (dL _ f n) (dL _ g m) x y (by rw [dL_length]; simpa using hn)).leS fun m ys ⟨y, r, e, h1, ⟨y2, r2, e2, h2, ⟨y3, r3, e3, h3, h4⟩⟩⟩ => by
          letI : Fz := ⟨m, false⟩
          exact ⟨y, r, e, stV_rel rfl hv h1, y2, r2, e2, strV_rel ha h2, y3, r3, e3, strV_rel hb h3, h4⟩
      · exact hB.elim
    · cases h
  · cases h
end Go.Proofs.YtffcaapbmkaceaaDoor
end
section
namespace Go.Proofs.YtffcaapbmkaceaaDoor
open Ev Go.RowKit
set_option maxRecDepth 100000
set_option linter.unusedVariables false
noncomputable def teX2 : SumBr := orX risX (orX rmayX (orX textsX teX))
theorem teX2_ok : SumGO Tryd.prog (sumS teX2) := orX_open risX_ok (orX_open rmayX_ok (orX_open textsX_ok teX_ok))
def rall_cf : Nat → Cfg := cfL [mkC 56 [1, 2, 5, 6] [(2, []), (5, [])], mkC 56 [1, 2, 5, 6, 7, 8] [(2, []), (5, [])]]
def rall_a (N : List ByteArray) (I : List (ByteArray × ByteArray)) (who : ByteArray) : List AV := [stA N I, .s (.string who)]
noncomputable def rall_t (P : Program) (N : List ByteArray) (I : List (ByteArray × ByteArray)) (who : ByteArray) : Br PO :=
(.leaf (.at 0 (ct P 25 0).1 (ct P 25 0).2 ⟨Ex.normal, true, [some (AV.s (Value.string who)), some (AV.ptr 65536 0 0), some (AV.v (Value.slice none 0 0)), some (AV.v (Value.int IntKind.i64 (0)))], [OS.o (AO.cells [AV.fz (eL N) N.length [TK.str], AV.fz (eL I) I.length [TK.str, TK.str]] 2 65536 true false), OS.nil]⟩))
theorem rall_h (N : List ByteArray) (I : List (ByteArray × ByteArray)) (who : ByteArray) : (ev Tryd.prog teX2 noS 3000 noL 3000 .normal [.c 0 (codeOf Tryd.prog 25)] (params (rall_a N I who)) Ev.start).map (lookP Tryd.prog (resOf Tryd.prog 25) [[]] rall_cf) = rall_t Tryd.prog N I who := by kernel_rfl
def rall_v0 (N : List ByteArray) (I : List (ByteArray × ByteArray)) (who : ByteArray) (A : List ByteArray) (i : Nat) : List AV := [.s (.string who), .ptr 65536 0 0, .osl 65537 A.length, .s (.int .i64 i)]
def rall_o0 (N : List ByteArray) (I : List (ByteArray × ByteArray)) (who : ByteArray) (A : List ByteArray) (i : Nat) : List AO := [stO N I, .rows (eL A) A.length [.str]]
noncomputable def rall_t0 (P : Program) (N : List ByteArray) (I : List (ByteArray × ByteArray)) (who : ByteArray) (A : List ByteArray) (i : Nat) : Br PO :=
(.test (decide ((↑i : Int) < (↑N.length : Int)))
  (.leaf (.at 1 (ct P 25 1).1 (ct P 25 1).2 ⟨Ex.normal, true, [some (AV.s (Value.string who)), some (AV.ptr 65536 0 0), some (AV.osl 65537 A.length), some (AV.s (Value.int IntKind.i64 (Int.ofNat i))), some (AV.v (Value.bool false)), some (AV.v (Value.int IntKind.i64 (0)))], [OS.o (AO.cells [AV.fz (eL N) N.length [TK.str], AV.fz (eL I) I.length [TK.str, TK.str]] 2 0 true false), OS.o (AO.rows (eL A) A.length [TK.str])]⟩))
  (.leaf (.fin ⟨Ex.ret, true, [some (AV.osl 65536 A.length)], [OS.o (AO.rows (eL A) A.length [TK.str])]⟩))
)
theorem rall_h0 (N : List ByteArray) (I : List (ByteArray × ByteArray)) (who : ByteArray) (A : List ByteArray) (i : Nat) (j : Nat → Value) : (ev Tryd.prog teX2 noS 3000 noL 3000 .normal (hd Tryd.prog 25 0) (mkE (rall_cf 0) (rall_v0 N I who A i) j) (mkH openB (rall_o0 N I who A i))).map (lookP Tryd.prog (resOf Tryd.prog 25) [[]] rall_cf) = rall_t0 Tryd.prog N I who A i := by kernel_rfl
def rall_v1 (N : List ByteArray) (I : List (ByteArray × ByteArray)) (who : ByteArray) (A : List ByteArray) (i : Nat) (tw : Bool) (k : Nat) : List AV := [.s (.string who), .ptr 65536 0 0, .osl 65537 A.length, .s (.int .i64 i), .s (.bool tw), .s (.int .i64 k)]
def rall_o1 (N : List ByteArray) (I : List (ByteArray × ByteArray)) (who : ByteArray) (A : List ByteArray) (i : Nat) (tw : Bool) (k : Nat) : List AO := [stO N I, .rows (eL A) A.length [.str]]
noncomputable def rall_t1 (P : Program) (N : List ByteArray) (I : List (ByteArray × ByteArray)) (who : ByteArray) (A : List ByteArray) (i : Nat) (tw : Bool) (k : Nat) : Br PO :=
(.test (decide ((↑k : Int) < (↑i : Int)))
  (.test (tw)
    (.leaf (.at 1 (ct P 25 1).1 (ct P 25 1).2 ⟨Ex.normal, true, [some (AV.s (Value.string who)), some (AV.ptr 65536 0 0), some (AV.osl 65537 A.length), some (AV.s (Value.int IntKind.i64 (Int.ofNat i))), some (AV.v (Value.bool true)), some (AV.s (Value.int IntKind.i64 (IntKind.i64.wrap ((↑k : Int) + 1))))], [OS.o (AO.cells [AV.fz (eL N) N.length [TK.str], AV.fz (eL I) I.length [TK.str, TK.str]] 2 0 true false), OS.o (AO.rows (eL A) A.length [TK.str])]⟩))
    (.test (decide (0 ≤ (↑k : Int)) && decide ((↑k : Int) < (↑N.length : Int)))
      (.test (decide (0 ≤ (↑i : Int)) && decide ((↑i : Int) < (↑N.length : Int)))
        (.leaf (.at 1 (ct P 25 1).1 (ct P 25 1).2 ⟨Ex.normal, true, [some (AV.s (Value.string who)), some (AV.ptr 65536 0 0), some (AV.osl 65537 A.length), some (AV.s (Value.int IntKind.i64 (Int.ofNat i))), some (AV.s (Value.bool ((N.getD (↑k : Int).toNat default).toList == (N.getD (↑i : Int).toNat default).toList))), some (AV.s (Value.int IntKind.i64 (IntKind.i64.wrap ((↑k : Int) + 1))))], [OS.o (AO.cells [AV.fz (eL N) N.length [TK.str], AV.fz (eL I) I.length [TK.str, TK.str]] 2 0 true false), OS.o (AO.rows (eL A) A.length [TK.str])]⟩))
        .no
      )
      .no
    )
  )
  (.test (!tw)
    (.test (decide (0 ≤ (↑i : Int)) && decide ((↑i : Int) < (↑N.length : Int)))
      (.test (N.length.ble 1000000)
        (.test (isP (dL ByteArray (eL N) N.length) (dL (ByteArray × ByteArray) (eL I) I.length) who (N.getD (↑i : Int).toNat default))
          (.test (decide (0 ≤ (↑i : Int)) && decide ((↑i : Int) < (↑N.length : Int)))
            (.test (A.length.beq A.length && (true && (small (1 + A.length) && small (Tryd.prog.types[9].bytes * (1 + A.length)))))
              (.leaf (.at 0 (ct P 25 0).1 (ct P 25 0).2 ⟨Ex.normal, true, [some (AV.s (Value.string who)), some (AV.ptr 65536 0 0), some (AV.osl 65537 (A.length + 1)), some (AV.s (Value.int IntKind.i64 (IntKind.i64.wrap ((↑i : Int) + 1))))], [OS.o (AO.cells [AV.fz (eL N) N.length [TK.str], AV.fz (eL I) I.length [TK.str, TK.str]] 2 0 true false), OS.o (AO.rows (catD (eL A) A.length (listD [D.v (Value.string (N.getD (↑i : Int).toNat default))] [TK.str].length)) (A.length + 1) [TK.str])]⟩))
              .no
            )
            .no
          )
          (.leaf (.at 0 (ct P 25 0).1 (ct P 25 0).2 ⟨Ex.normal, true, [some (AV.s (Value.string who)), some (AV.ptr 65536 0 0), some (AV.osl 65537 A.length), some (AV.s (Value.int IntKind.i64 (IntKind.i64.wrap ((↑i : Int) + 1))))], [OS.o (AO.cells [AV.fz (eL N) N.length [TK.str], AV.fz (eL I) I.length [TK.str, TK.str]] 2 0 true false), OS.o (AO.rows (eL A) A.length [TK.str])]⟩))
        )
        .no
      )
      .no
    )
    (.leaf (.at 0 (ct P 25 0).1 (ct P 25 0).2 ⟨Ex.normal, true, [some (AV.s (Value.string who)), some (AV.ptr 65536 0 0), some (AV.osl 65537 A.length), some (AV.s (Value.int IntKind.i64 (IntKind.i64.wrap ((↑i : Int) + 1))))], [OS.o (AO.cells [AV.fz (eL N) N.length [TK.str], AV.fz (eL I) I.length [TK.str, TK.str]] 2 0 true false), OS.o (AO.rows (eL A) A.length [TK.str])]⟩))
  )
)
theorem rall_h1 (N : List ByteArray) (I : List (ByteArray × ByteArray)) (who : ByteArray) (A : List ByteArray) (i : Nat) (tw : Bool) (k : Nat) (j : Nat → Value) : (ev Tryd.prog teX2 noS 3000 noL 3000 .normal (hd Tryd.prog 25 1) (mkE (rall_cf 1) (rall_v1 N I who A i tw k) j) (mkH openB (rall_o1 N I who A i tw k))).map (lookP Tryd.prog (resOf Tryd.prog 25) [[]] rall_cf) = rall_t1 Tryd.prog N I who A i tw k := by kernel_rfl

def rsame_cf : Nat → Cfg := cfL [mkC 39 [2, 3, 5] [(2, []), (3, [])]]
def rsame_a (N : List ByteArray) (I : List (ByteArray × ByteArray)) (M : List ByteArray) (J : List (ByteArray × ByteArray)) : List AV := [stA N I, stA M J]
noncomputable def rsame_t (P : Program) (N : List ByteArray) (I : List (ByteArray × ByteArray)) (M : List ByteArray) (J : List (ByteArray × ByteArray)) : Br PO :=
(.test (!decide (dL ByteArray (eL N) N.length = dL ByteArray (eL M) M.length))
  (.leaf (.fin ⟨Ex.ret, true, [some (AV.v (Value.bool false))], []⟩))
  (.test ((↑I.length : Int) != (↑J.length : Int))
    (.leaf (.fin ⟨Ex.ret, true, [some (AV.v (Value.bool false))], []⟩))
    (.leaf (.at 0 (ct P 22 0).1 (ct P 22 0).2 ⟨Ex.normal, true, [some (AV.ptr 65536 0 0), some (AV.ptr 65537 0 0), some (AV.v (Value.int IntKind.i64 (0)))], [OS.o (AO.cells [AV.fz (eL N) N.length [TK.str], AV.fz (eL I) I.length [TK.str, TK.str]] 2 65536 true false), OS.o (AO.cells [AV.fz (eL M) M.length [TK.str], AV.fz (eL J) J.length [TK.str, TK.str]] 2 65537 true false)]⟩))
  )
)
theorem rsame_h (N : List ByteArray) (I : List (ByteArray × ByteArray)) (M : List ByteArray) (J : List (ByteArray × ByteArray)) : (ev Tryd.prog teX2 noS 3000 noL 3000 .normal [.c 0 (codeOf Tryd.prog 22)] (params (rsame_a N I M J)) Ev.start).map (lookP Tryd.prog (resOf Tryd.prog 22) [] rsame_cf) = rsame_t Tryd.prog N I M J := by kernel_rfl
def rsame_v0 (N : List ByteArray) (I : List (ByteArray × ByteArray)) (M : List ByteArray) (J : List (ByteArray × ByteArray)) (i : Nat) : List AV := [.ptr 65536 0 0, .ptr 65537 0 0, .s (.int .i64 i)]
def rsame_o0 (N : List ByteArray) (I : List (ByteArray × ByteArray)) (M : List ByteArray) (J : List (ByteArray × ByteArray)) (i : Nat) : List AO := [stO N I, stO M J]
noncomputable def rsame_t0 (P : Program) (N : List ByteArray) (I : List (ByteArray × ByteArray)) (M : List ByteArray) (J : List (ByteArray × ByteArray)) (i : Nat) : Br PO :=
(.test (decide ((↑i : Int) < (↑I.length : Int)))
  (.test (decide (0 ≤ (↑i : Int)) && decide ((↑i : Int) < (↑I.length : Int)))
    (.test (decide (0 ≤ (↑i : Int)) && decide ((↑i : Int) < (↑J.length : Int)))
      (.test (!((I.getD (↑i : Int).toNat default).fst.toList == (J.getD (↑i : Int).toNat default).fst.toList && ((I.getD (↑i : Int).toNat default).snd.toList == (J.getD (↑i : Int).toNat default).snd.toList && true)))
        (.leaf (.fin ⟨Ex.ret, true, [some (AV.v (Value.bool false))], []⟩))
        (.leaf (.at 0 (ct P 22 0).1 (ct P 22 0).2 ⟨Ex.normal, true, [some (AV.ptr 65536 0 0), some (AV.ptr 65537 0 0), some (AV.s (Value.int IntKind.i64 (IntKind.i64.wrap ((↑i : Int) + 1))))], [OS.o (AO.cells [AV.fz (eL N) N.length [TK.str], AV.fz (eL I) I.length [TK.str, TK.str]] 2 0 true false), OS.o (AO.cells [AV.fz (eL M) M.length [TK.str], AV.fz (eL J) J.length [TK.str, TK.str]] 2 0 true false)]⟩))
      )
      .no
    )
    .no
  )
  (.leaf (.fin ⟨Ex.ret, true, [some (AV.v (Value.bool true))], []⟩))
)
theorem rsame_h0 (N : List ByteArray) (I : List (ByteArray × ByteArray)) (M : List ByteArray) (J : List (ByteArray × ByteArray)) (i : Nat) (j : Nat → Value) : (ev Tryd.prog teX2 noS 3000 noL 3000 .normal (hd Tryd.prog 22 0) (mkE (rsame_cf 0) (rsame_v0 N I M J i) j) (mkH openB (rsame_o0 N I M J i))).map (lookP Tryd.prog (resOf Tryd.prog 22) [] rsame_cf) = rsame_t0 Tryd.prog N I M J i := by kernel_rfl

def rleave_cf : Nat → Cfg := cfL [mkC 48 [3, 6, 8, 9, 10] [(3, []), (6, []), (9, []), (9, [0]), (9, [1])]]
def rleave_a (N : List ByteArray) (I : List (ByteArray × ByteArray)) (who to : ByteArray) : List AV := [.agg [.osl 65536 N.length, .osl 65537 I.length], .s (.string who), .s (.string to)]
noncomputable def rleave_t (P : Program) (N : List ByteArray) (I : List (ByteArray × ByteArray)) (who to : ByteArray) : Br PO :=
(.test (N.length.ble N.length)
  (.test (I.length.ble I.length)
    (.test (!mayP (dL ByteArray (eL N) N.length) (dL (ByteArray × ByteArray) (eL I) I.length))
      (.leaf (.fin ⟨Ex.ret, true, [some (AV.tup [AV.agg [AV.osl 65536 N.length, AV.osl 65537 I.length], AV.v (Value.int IntKind.i64 (4))])], [OS.o (AO.rows (eL N) N.length [TK.str]), OS.o (AO.rows (eL I) I.length [TK.str, TK.str]), OS.nil, OS.nil]⟩))
      (.test (N.length.ble N.length)
        (.test (I.length.ble I.length)
          (.test (decide (idxS (dL (ByteArray × ByteArray) (eL I) I.length) (who, to) < 0))
            (.leaf (.fin ⟨Ex.ret, true, [some (AV.tup [AV.agg [AV.osl 65536 N.length, AV.osl 65537 I.length], AV.v (Value.int IntKind.i64 (5))])], [OS.o (AO.rows (eL N) N.length [TK.str]), OS.o (AO.rows (eL I) I.length [TK.str, TK.str]), OS.nil, OS.nil]⟩))
            (.test (N.length.ble N.length && (small N.length && small (Tryd.prog.types[9].bytes * N.length)))
              (.leaf (.at 0 (ct P 24 0).1 (ct P 24 0).2 ⟨Ex.normal, true, [some (AV.ptr 65538 0 0), some (AV.ptr 65539 0 0), some (AV.s (Value.int IntKind.i64 (idxS (dL (ByteArray × ByteArray) (eL I) I.length) (who, to)))), some (AV.ptr 65540 0 0), some (AV.v (Value.int IntKind.i64 (0)))], [OS.o (AO.rows (eL N) N.length [TK.str]), OS.o (AO.rows (eL I) I.length [TK.str, TK.str]), OS.o (AO.cells [AV.osl 65536 N.length, AV.osl 65537 I.length] 2 65538 true false), OS.o (AO.cells [AV.v (Value.slice none 0 0), AV.v (Value.slice none 0 0)] 2 65539 true false), OS.o (AO.cells [AV.osl 65541 N.length, AV.v (Value.slice none 0 0)] 2 65542 true false), OS.o (AO.rows (eL N) N.length [TK.str]), OS.nil]⟩))
              .no
            )
          )
          .no
        )
        .no
      )
    )
    .no
  )
  .no
)
def rleave_i (N : List ByteArray) (I : List (ByteArray × ByteArray)) (who to : ByteArray) : List AO := [.rows (eL N) N.length [.str], .rows (eL I) I.length [.str, .str]]
theorem rleave_h (N : List ByteArray) (I : List (ByteArray × ByteArray)) (who to : ByteArray) : (ev Tryd.prog teX2 noS 3000 noL 3000 .normal [.c 0 (codeOf Tryd.prog 24)] (params (rleave_a N I who to)) (mkH openB (rleave_i N I who to))).map (lookW Tryd.prog 65538 2 (resOf Tryd.prog 24) [[0, 0], [0, 1]] [] rleave_cf) = rleave_t Tryd.prog N I who to := by kernel_rfl
def rleave_v0 (N : List ByteArray) (I : List (ByteArray × ByteArray)) (who to : ByteArray) (at' i : Nat) (J : List (ByteArray × ByteArray)) : List AV := [.ptr 65538 0 0, .ptr 65539 0 0, .s (.int .i64 at'), .ptr 65540 0 0, .s (.int .i64 i)]
def rleave_o0 (N : List ByteArray) (I : List (ByteArray × ByteArray)) (who to : ByteArray) (at' i : Nat) (J : List (ByteArray × ByteArray)) : List AO := [.rows (eL N) N.length [.str], .rows (eL I) I.length [.str, .str], .cells [.osl 65536 N.length, .osl 65537 I.length] 2 0 true false, .cells [.v (.slice none 0 0), .v (.slice none 0 0)] 2 0 true false, .cells [.osl 65541 N.length, .osl 65542 J.length] 2 0 true false, .rows (eL N) N.length [.str], .rows (eL J) J.length [.str, .str]]
noncomputable def rleave_t0 (P : Program) (N : List ByteArray) (I : List (ByteArray × ByteArray)) (who to : ByteArray) (at' i : Nat) (J : List (ByteArray × ByteArray)) : Br PO :=
(.test (decide ((↑i : Int) < (↑I.length : Int)))
  (.test ((↑i : Int) != (↑at' : Int))
    (.test (decide (0 ≤ (↑i : Int)) && decide ((↑i : Int) < (↑I.length : Int)))
      (.test ((↑i : Int).toNat.blt I.length)
        (.test (J.length.beq J.length && (true && (small (1 + J.length) && small (Tryd.prog.types[36].bytes * (1 + J.length)))))
          (.leaf (.at 0 (ct P 24 0).1 (ct P 24 0).2 ⟨Ex.normal, true, [some (AV.ptr 65538 0 0), some (AV.ptr 65539 0 0), some (AV.s (Value.int IntKind.i64 (Int.ofNat at'))), some (AV.ptr 65540 0 0), some (AV.s (Value.int IntKind.i64 (IntKind.i64.wrap ((↑i : Int) + 1))))], [OS.o (AO.rows (eL N) N.length [TK.str]), OS.o (AO.rows (eL I) I.length [TK.str, TK.str]), OS.o (AO.cells [AV.osl 65536 N.length, AV.osl 65537 I.length] 2 0 true false), OS.o (AO.cells [AV.v (Value.slice none 0 0), AV.v (Value.slice none 0 0)] 2 0 true false), OS.o (AO.cells [AV.osl 65541 N.length, AV.osl 65542 (J.length + 1)] 2 0 true false), OS.o (AO.rows (eL N) N.length [TK.str]), OS.o (AO.rows (catD (eL J) J.length (listD [D.v (Value.string (I.getD (↑i : Int).toNat default).fst), D.v (Value.string (I.getD (↑i : Int).toNat default).snd)] [TK.str, TK.str].length)) (J.length + 1) [TK.str, TK.str])]⟩))
          .no
        )
        .no
      )
      .no
    )
    (.leaf (.at 0 (ct P 24 0).1 (ct P 24 0).2 ⟨Ex.normal, true, [some (AV.ptr 65538 0 0), some (AV.ptr 65539 0 0), some (AV.s (Value.int IntKind.i64 (Int.ofNat at'))), some (AV.ptr 65540 0 0), some (AV.s (Value.int IntKind.i64 (IntKind.i64.wrap ((↑i : Int) + 1))))], [OS.o (AO.rows (eL N) N.length [TK.str]), OS.o (AO.rows (eL I) I.length [TK.str, TK.str]), OS.o (AO.cells [AV.osl 65536 N.length, AV.osl 65537 I.length] 2 0 true false), OS.o (AO.cells [AV.v (Value.slice none 0 0), AV.v (Value.slice none 0 0)] 2 0 true false), OS.o (AO.cells [AV.osl 65541 N.length, AV.osl 65542 J.length] 2 0 true false), OS.o (AO.rows (eL N) N.length [TK.str]), OS.o (AO.rows (eL J) J.length [TK.str, TK.str])]⟩))
  )
  (.leaf (.fin ⟨Ex.ret, true, [some (AV.tup [AV.agg [AV.osl 65538 N.length, AV.osl 65539 J.length], AV.v (Value.int IntKind.i64 (0))])], [OS.o (AO.rows (eL N) N.length [TK.str]), OS.o (AO.rows (eL I) I.length [TK.str, TK.str]), OS.o (AO.rows (eL N) N.length [TK.str]), OS.o (AO.rows (eL J) J.length [TK.str, TK.str])]⟩))
)
theorem rleave_h0 (N : List ByteArray) (I : List (ByteArray × ByteArray)) (who to : ByteArray) (at' i : Nat) (J : List (ByteArray × ByteArray)) (j : Nat → Value) : (ev Tryd.prog teX2 noS 3000 noL 3000 .normal (hd Tryd.prog 24 0) (mkE (rleave_cf 0) (rleave_v0 N I who to at' i J) j) (mkW 65538 2 (rleave_o0 N I who to at' i J))).map (lookW Tryd.prog 65538 2 (resOf Tryd.prog 24) [[0, 0], [0, 1]] [] rleave_cf) = rleave_t0 Tryd.prog N I who to at' i J := by kernel_rfl

theorem mem_allF {N : List ByteArray} {I : List (ByteArray × ByteArray)} {who x : ByteArray} : ∀ {M out : List ByteArray}, x ∈ M.foldl (allF N I who) out ↔ x ∈ out ∨ (x ∈ M ∧ isP N I who x = true)
  | [], out => by simp
  | n :: M, out => by
    rw [List.foldl_cons, mem_allF]
    have : x ∈ allF N I who out n ↔ x ∈ out ∨ (x = n ∧ isP N I who n = true) := by
      unfold allF
      cases h1 : isP N I who n with
      | false => simp
      | true =>
        cases h2 : inL n out with
        | false => simp
        | true => have := inL_iff.1 h2; simp; rintro rfl; exact this
    rw [this, List.mem_cons]
    constructor
    · rintro ((h | ⟨h, h'⟩) | ⟨h, h'⟩)
      · exact .inl h
      · exact .inr ⟨.inl h, h ▸ h'⟩
      · exact .inr ⟨.inr h, h'⟩
    · rintro (h | ⟨h | h, h'⟩)
      · exact .inl (.inl h)
      · exact .inl (.inr ⟨h, h ▸ h'⟩)
      · exact .inr ⟨h, h'⟩
inductive RaS where
  | a (i : Nat)
  | b (i : Nat) (tw : Bool) (k : Nat)
def RaS.pc : RaS → Nat
  | .a _ => 0
  | .b _ _ _ => 1
noncomputable def raA (N : List ByteArray) (I : List (ByteArray × ByteArray)) (who : ByteArray) (i : Nat) : List ByteArray := (N.take i).foldl (allF N I who) []
noncomputable def RaV (N : List ByteArray) (I : List (ByteArray × ByteArray)) (who : ByteArray) : RaS → List AV
  | .a i => rall_v0 N I who (raA N I who i) i
  | .b i tw k => rall_v1 N I who (raA N I who i) i tw k
noncomputable def RaO (N : List ByteArray) (I : List (ByteArray × ByteArray)) (who : ByteArray) : RaS → List AO
  | .a i => rall_o0 N I who (raA N I who i) i
  | .b i tw k => rall_o1 N I who (raA N I who i) i tw k
noncomputable def RaT (P : Program) (N : List ByteArray) (I : List (ByteArray × ByteArray)) (who : ByteArray) : RaS → Br PO
  | .a i => rall_t0 P N I who (raA N I who i) i
  | .b i tw k => rall_t1 P N I who (raA N I who i) i tw k
def RaM (n : Nat) : RaS → Nat × Nat
  | .a i => (2 * (n - i) + 1, 0)
  | .b i _ k => (2 * (n - i), i - k)
def RaJ (N : List ByteArray) : RaS → Prop
  | .a i => i ≤ N.length
  | .b i tw k => i < N.length ∧ k ≤ i ∧ tw = inL (N.getD i default) (N.take k)
theorem rall_ok (N : List ByteArray) (I : List (ByteArray × ByteArray)) (who : ByteArray) (hN : N.length ≤ 1000000) : OCalls Tryd.prog 25 (rall_a N I who) (.osl 65536 (allP N I who).length) [.rows (eL (allP N I who)) (allP N I who).length [.str]] := by
  have hB : Tryd.prog.types[9].bytes = 16 := by kernel_rfl
  refine floyd ev_mix ev_ok teX2_ok noSO (by kernel_rfl) [[]] rall_cf (RaM N.length) RaS.pc (RaV N I who) (RaO N I who) (RaJ N) (RaT _ N I who) (rall_t _ N I who) (rall_h N I who) (fun s j => by cases s; exact rall_h0 N I who _ _ j; exact rall_h1 N I who _ _ _ _ j) ?_ ?_
  · exact ⟨.a 0, Nat.zero_le _, rfl, rfl, rfl, (.cons _ _ _ _ (.refl _) (.cons _ _ _ _ (.refl _) (.cons _ _ _ _ (.nilv _) (.cons _ _ _ _ (.vs _) .nil)))), .cons _ _ _ _ (st_le N I _ _) (.cons _ _ _ _ (.nil _ _) .nil)⟩
  · intro s hs
    cases s with
    | a i =>
      have hi : i ≤ N.length := hs
      refine hSd (fun h => ?_) fun h => ?_
      · exact ⟨.b i false 0, ⟨by omega, Nat.zero_le _, rfl⟩, rel_l (by omega), rfl, rfl, rfl, (.cons _ _ _ _ (.refl _) (.cons _ _ _ _ (.refl _) (.cons _ _ _ _ (.refl _) (.cons _ _ _ _ (.refl _) (.cons _ _ _ _ (.vs _) (.cons _ _ _ _ (.vs _) .nil)))))), .cons _ _ _ _ (st_le N I _ _) (.cons _ _ _ _ (OLe.same _ _ _) .nil)⟩
      · have : raA N I who i = allP N I who := by unfold raA allP; rw [List.take_of_length_le (by omega)]
        rw [← this]
        exact ⟨rfl, (.cons _ _ _ _ (.refl _) .nil), .cons _ _ _ _ (OLe.same _ _ _) .nil⟩
    | b i tw k =>
      obtain ⟨hi, hk, htw⟩ := hs
      obtain ⟨A, hA⟩ : ∃ A, A = raA N I who i := ⟨_, rfl⟩
      have hlen : A.length ≤ i := by rw [hA]; have := allF_len N I who (N.take i) []; unfold raA; simp at this; omega
      have hn : raA N I who (i + 1) = allF N I who A (N.getD i default) := by rw [hA]; unfold raA; rw [take_snoc hi, List.foldl_append]; rfl
      show (rall_t1 _ N I who (raA N I who i) i tw k).Holds _
      rw [← hA]
      refine hSd (fun h => ?_) fun h => ?_
      · have h : k < i := by omega
        have nx : inL (N.getD i default) (N.take (k + 1)) = (tw || (N.getD k default).toList == (N.getD i default).toList) := by rw [inL_next (by omega), ← htw]
        refine ⟨fun h1 => ?_, fun h1 => hSi (show k < N.length by omega) (hSi hi ?_)⟩
        · exact ⟨.b i true (k + 1), ⟨hi, by omega, by rw [nx, h1]; rfl⟩, rel_r (by omega), rfl, rfl, rfl, hA ▸ (.cons _ _ _ _ (.refl _) (.cons _ _ _ _ (.refl _) (.cons _ _ _ _ (.refl _) (.cons _ _ _ _ (.refl _) (.cons _ _ _ _ (.vs _) (.cons _ _ _ _ (.ofEq (by rw [wrap_lt (by omega) (by omega)]; rfl)) .nil)))))), .cons _ _ _ _ (st_le N I _ _) (.cons _ _ _ _ (hA ▸ OLe.same _ _ _) .nil)⟩
        · exact ⟨.b i _ (k + 1), ⟨hi, by omega, nx.symm⟩, rel_r (by omega), rfl, rfl, rfl, hA ▸ (.cons _ _ _ _ (.refl _) (.cons _ _ _ _ (.refl _) (.cons _ _ _ _ (.refl _) (.cons _ _ _ _ (.refl _) (.cons _ _ _ _ (.ofEq (by rw [h1]; rfl)) (.cons _ _ _ _ (.ofEq (by rw [wrap_lt (by omega) (by omega)]; rfl)) .nil)))))), .cons _ _ _ _ (st_le N I _ _) (.cons _ _ _ _ (hA ▸ OLe.same _ _ _) .nil)⟩
      · have h : k = i := by omega
        subst h
        have hin : isP N I who (N.getD k default) = true → inL (N.getD k default) A = tw := fun h1 => by
          rw [htw, Bool.eq_iff_iff, inL_iff, inL_iff, hA]
          unfold raA
          rw [mem_allF]
          constructor
          · rintro (h | ⟨h, _⟩)
            · simp at h
            · exact h
          · exact fun h => .inr ⟨h, h1⟩
        have same : (isP N I who (N.getD k default) && !tw) = false → raA N I who (k + 1) = A := fun e => by
          rw [hn]; unfold allF
          cases h1 : isP N I who (N.getD k default) with
          | false => rfl
          | true => rw [h1] at e; rw [hin h1]; rw [e]; rfl
        simp only [dL_eL]
        refine ⟨fun h2 => hSi hi (hT (ble_yes hN) ⟨fun h1 => hSi hi (hT (app_ok (k := 16) hB (by omega) (by omega)) ?_), fun h1 => ?_⟩), fun h2 => ?_⟩
        · have h1 : isP N I who (N.getD k default) = true := h1
          have ha : raA N I who (k + 1) = A ++ [N.getD k default] := by
            rw [hn]; unfold allF; rw [h1, hin h1]; rw [Bool.not_eq_true'] at h2; rw [h2]; rfl
          have hl : (A ++ [N.getD k default]).length = A.length + 1 := by simp
          refine ⟨.a (k + 1), by show k + 1 ≤ N.length; omega, rel_l (by omega), rfl, rfl, rfl, ?_, ?_⟩
          · show VLes _ (rall_v0 N I who (raA N I who (k + 1)) (k + 1))
            rw [ha]; exact (.cons _ _ _ _ (.refl _) (.cons _ _ _ _ (.refl _) (.cons _ _ _ _ (.ofEq (by rw [hl])) (.cons _ _ _ _ (.ofEq (by rw [wrap_lt (by omega) (by omega)]; rfl)) .nil))))
          · show OLes _ (rall_o0 N I who (raA N I who (k + 1)) (k + 1))
            rw [ha]; exact .cons _ _ _ _ (st_le N I _ _) (.cons _ _ _ _ (OLe.snoc (x := N.getD k default) fun c hc => by have : c = 0 := (by simp [Rec.ks] at hc; omega); subst this; rfl) .nil)
        · have e := same (by rw [show isP N I who (N.getD k default) = false from h1]; rfl)
          refine ⟨.a (k + 1), by show k + 1 ≤ N.length; omega, rel_l (by omega), rfl, rfl, rfl, ?_, ?_⟩
          · show VLes _ (rall_v0 N I who (raA N I who (k + 1)) (k + 1))
            rw [e]; exact (.cons _ _ _ _ (.refl _) (.cons _ _ _ _ (.refl _) (.cons _ _ _ _ (.refl _) (.cons _ _ _ _ (.ofEq (by rw [wrap_lt (by omega) (by omega)]; rfl)) .nil))))
          · show OLes _ (rall_o0 N I who (raA N I who (k + 1)) (k + 1))
            rw [e]; exact .cons _ _ _ _ (st_le N I _ _) (.cons _ _ _ _ (OLe.same _ _ _) .nil)
        · have e := same (by rw [h2, Bool.and_false])
          refine ⟨.a (k + 1), by show k + 1 ≤ N.length; omega, rel_l (by omega), rfl, rfl, rfl, ?_, ?_⟩
          · show VLes _ (rall_v0 N I who (raA N I who (k + 1)) (k + 1))
            rw [e]; exact (.cons _ _ _ _ (.refl _) (.cons _ _ _ _ (.refl _) (.cons _ _ _ _ (.refl _) (.cons _ _ _ _ (.ofEq (by rw [wrap_lt (by omega) (by omega)]; rfl)) .nil))))
          · show OLes _ (rall_o0 N I who (raA N I who (k + 1)) (k + 1))
            rw [e]; exact .cons _ _ _ _ (st_le N I _ _) (.cons _ _ _ _ (OLe.same _ _ _) .nil)
noncomputable def rallX : SumBr := oX 25 fun
  | [v, a] => match stV v, strV a with
    | some ((f, n), (g, m)), some x => some (.test (Nat.ble n 1000000) (.leaf (.osl 65536 (allP (dL _ f n) (dL _ g m) x).length, [.rows (eL (allP (dL _ f n) (dL _ g m) x)) (allP (dL _ f n) (dL _ g m) x).length [.str]])) .no)
    | _, _ => none
  | _ => none
theorem rallX_ok : SumGO Tryd.prog (sumS rallX) := oX_ok (by kernel_rfl) fun xs B r h hB => by
  split at h
  · split at h
    · rename_i v a f n g m x hv ha
      cases h
      rcases hB with ⟨hn, hB⟩ | ⟨_, hB⟩
      · cases hB
        exact (rall_ok (dL _ f n) (dL _ g m) x (by rw [dL_length]; simpa using hn)).leS fun m ys ⟨y, r, e, h1, ⟨y2, r2, e2, h2, h3⟩⟩ => by
          letI : Fz := ⟨m, false⟩
          exact ⟨y, r, e, stV_rel rfl hv h1, y2, r2, e2, strV_rel ha h2, h3⟩
      · exact hB.elim
    · cases h
  · cases h
/-- Two states are the same. -/
noncomputable def sameP (N : List ByteArray) (I : List (ByteArray × ByteArray)) (M : List ByteArray) (J : List (ByteArray × ByteArray)) : Bool := decide (N = M) && decide (I = J)
theorem rsame_ok (N : List ByteArray) (I : List (ByteArray × ByteArray)) (M : List ByteArray) (J : List (ByteArray × ByteArray)) : OCalls Tryd.prog 22 (rsame_a N I M J) (.s (.bool (sameP N I M J))) [] := OCalls.bnd fun hb => by
  have hLI : I.length ≤ 9223372036854775807 := hb.1.2.1
  have no : ¬ (N = M ∧ I = J) → Goes ⟨.ret, true, [some (.v (.bool false))], []⟩ [.s (.bool (sameP N I M J))] [] := fun h => ⟨rfl, (.cons _ _ _ _ (by rw [show sameP N I M J = false from Bool.eq_false_iff.2 fun e => h (by unfold sameP at e; simpa using e)]; exact .vs _) .nil), .nil⟩
  refine floyd ev_mix ev_ok teX2_ok noSO (by kernel_rfl) [] rsame_cf (fun i => I.length - i) (fun _ => 0) (rsame_v0 N I M J) (rsame_o0 N I M J) (fun i => (N = M ∧ I.length = J.length) ∧ i ≤ I.length ∧ ∀ k, k < i → I.getD k default = J.getD k default) (rsame_t0 _ N I M J) (rsame_t _ N I M J) (rsame_h N I M J) (rsame_h0 N I M J) ?_ ?_
  · unfold rsame_t
    simp only [dL_eL]
    refine hSn (fun h => no fun hx => h hx.1) fun h => ⟨fun h2 => no fun hx => ?_, fun h2 => ?_⟩
    · rw [hx.2] at h2; simp at h2
    · have h2 : I.length = J.length := by simp at h2; omega
      exact ⟨0, ⟨⟨h, h2⟩, Nat.zero_le _, fun k hk => absurd hk (Nat.not_lt_zero k)⟩, rfl, rfl, rfl, (.cons _ _ _ _ (.refl _) (.cons _ _ _ _ (.refl _) (.cons _ _ _ _ (.vs _) .nil))), .cons _ _ _ _ (st_le N I _ _) (.cons _ _ _ _ (st_le M J _ _) .nil)⟩
  · rintro i ⟨⟨hNM, hl⟩, hi, hk⟩
    refine hSd (fun h => ?_) fun h => ?_
    · have h : i < I.length := by omega
      refine hSi h (hSi (show i < J.length by omega) ⟨fun h2 => no fun hx => ?_, fun h2 => ?_⟩)
      · rw [ba_eq3, Bool.not_eq_true', decide_eq_false_iff_not] at h2
        exact h2 (by rw [hx.2])
      · rw [ba_eq3, Bool.not_eq_false', decide_eq_true_eq] at h2
        exact ⟨i + 1, ⟨⟨hNM, hl⟩, by omega, upto_next hk h2⟩, rel_nat (by omega), rfl, rfl, rfl, (.cons _ _ _ _ (.refl _) (.cons _ _ _ _ (.refl _) (.cons _ _ _ _ (.ofEq (by rw [wrap_lt (by omega) (by omega)]; rfl)) .nil))), .cons _ _ _ _ (st_le N I _ _) (.cons _ _ _ _ (st_le M J _ _) .nil)⟩
    · have hIJ : I = J := eq_getD hl fun k hk' => hk k (by omega)
      have e : sameP N I M J = true := by unfold sameP; rw [decide_eq_true hNM, decide_eq_true hIJ]; rfl
      exact ⟨rfl, (.cons _ _ _ _ (by rw [e]; exact .vs _) .nil), .nil⟩
noncomputable def rsameX : SumBr := oX 22 fun
  | [v, u] => match stV v, stV u with
    | some ((f, n), (g, m)), some ((f', n'), (g', m')) => some (.leaf (.s (.bool (sameP (dL _ f n) (dL _ g m) (dL _ f' n') (dL _ g' m'))), []))
    | _, _ => none
  | _ => none
theorem rsameX_ok : SumGO Tryd.prog (sumS rsameX) := oX_ok (by kernel_rfl) fun xs B r h hB => by
  split at h
  · split at h
    · rename_i v u f n g m f' n' g' m' hv hu
      cases h
      cases hB
      exact (rsame_ok (dL _ f n) (dL _ g m) (dL _ f' n') (dL _ g' m')).leS fun m ys ⟨y, r, e, h1, ⟨y2, r2, e2, h2, h3⟩⟩ => by
        letI : Fz := ⟨m, false⟩
        exact ⟨y, r, e, stV_rel rfl hv h1, y2, r2, e2, stV_rel rfl hu h2, h3⟩
    · cases h
  · cases h
end Go.Proofs.YtffcaapbmkaceaaDoor
end
