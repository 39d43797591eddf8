/- slices.Sort and slices.Compact at []int: the kit's contracts, at this program. No condition. -/
import Derived.Test.YtengccmjlaejfaaMg16
import Derived.Test.YtengccmjlaejfaaMix
import Derived.Shelf.Sort.Plain
import Derived.Shelf.Slices.CompactI
import Derived.Test.YtengccmjlaejfaaMg18
section
namespace Go.Proofs.Ytengccmjlaejfaa
open Ev Go.RowKit
set_option maxRecDepth 100000
def sortL_ren : Go.Shelf.Ren := ⟨fun k => match k with
  | 125 => 43
  | 128 => 59
  | 129 => 60
  | 189 => 31
  | 215 => 79
  | 216 => 56
  | 257 => 42
  | 294 => 50
  | 295 => 51
  | 296 => 52
  | 297 => 53
  | 298 => 54
  | 299 => 55
  | 300 => 57
  | 301 => 58
  | 328 => 74
  | 329 => 75
  | 330 => 76
  | 331 => 77
  | 332 => 78
  | 343 => 90
  | k => k, fun k => match k with
  | 0 => 0
  | 3 => 3
  | 4 => 4
  | 5 => 5
  | 9 => 9
  | 28 => 30
  | 46 => 70
  | 51 => 88
  | 53 => 90
  | 131 => 85
  | 182 => 79
  | 183 => 80
  | 218 => 95
  | 222 => 99
  | 228 => 108
  | 229 => 109
  | k => k, fun x => x⟩
theorem sortL : Go.Proofs.Lays.n189 Try.prog sortL_ren where
  mixed := by kernel_rfl
  f125 := by kernel_rfl
  f128 := by kernel_rfl
  f129 := by kernel_rfl
  f189 := by kernel_rfl
  f215 := by kernel_rfl
  f216 := by kernel_rfl
  f257 := by kernel_rfl
  f294 := by kernel_rfl
  f295 := by kernel_rfl
  f296 := by kernel_rfl
  f297 := by kernel_rfl
  f298 := by kernel_rfl
  f299 := by kernel_rfl
  f300 := by kernel_rfl
  f301 := by kernel_rfl
  f328 := by kernel_rfl
  f329 := by kernel_rfl
  f330 := by kernel_rfl
  f331 := by kernel_rfl
  f332 := by kernel_rfl
  f343 := by kernel_rfl
  t0 := by kernel_rfl
  a0 := fun _ => by kernel_rfl
  z0 := fun _ => by kernel_rfl
  v0 := fun _ => by kernel_rfl
  t3 := by kernel_rfl
  a3 := fun _ => by kernel_rfl
  z3 := fun _ => by kernel_rfl
  v3 := fun _ => by kernel_rfl
  t4 := by kernel_rfl
  a4 := fun _ => by kernel_rfl
  z4 := fun _ => by kernel_rfl
  v4 := fun _ => by kernel_rfl
  t5 := by kernel_rfl
  a5 := fun _ => by kernel_rfl
  z5 := fun _ => by kernel_rfl
  v5 := fun _ => by kernel_rfl
  t9 := by kernel_rfl
  a9 := fun _ => by kernel_rfl
  z9 := fun _ => by kernel_rfl
  v9 := fun _ => by kernel_rfl
  t28 := by kernel_rfl
  a28 := fun _ => by kernel_rfl
  z28 := fun _ => by kernel_rfl
  v28 := fun _ => by kernel_rfl
  t46 := by kernel_rfl
  a46 := fun _ => by kernel_rfl
  z46 := fun _ => by kernel_rfl
  v46 := fun _ => by kernel_rfl
  t51 := by kernel_rfl
  a51 := fun _ => by kernel_rfl
  z51 := fun _ => by kernel_rfl
  v51 := fun _ => by kernel_rfl
  t53 := by kernel_rfl
  a53 := fun _ => by kernel_rfl
  z53 := fun _ => by kernel_rfl
  v53 := fun _ => by kernel_rfl
  t131 := by kernel_rfl
  a131 := fun _ => by kernel_rfl
  z131 := fun _ => by kernel_rfl
  v131 := fun _ => by kernel_rfl
  t182 := by kernel_rfl
  a182 := fun _ => by kernel_rfl
  z182 := fun _ => by kernel_rfl
  v182 := fun _ => by kernel_rfl
  t183 := by kernel_rfl
  a183 := fun _ => by kernel_rfl
  z183 := fun _ => by kernel_rfl
  v183 := fun _ => by kernel_rfl
  t218 := by kernel_rfl
  a218 := fun _ => by kernel_rfl
  z218 := fun _ => by kernel_rfl
  v218 := fun _ => by kernel_rfl
  t222 := by kernel_rfl
  a222 := fun _ => by kernel_rfl
  z222 := fun _ => by kernel_rfl
  v222 := fun _ => by kernel_rfl
  t228 := by kernel_rfl
  a228 := fun _ => by kernel_rfl
  z228 := fun _ => by kernel_rfl
  v228 := fun _ => by kernel_rfl
  t229 := by kernel_rfl
  a229 := fun _ => by kernel_rfl
  z229 := fun _ => by kernel_rfl
  v229 := fun _ => by kernel_rfl

def compL_ren : Go.Shelf.Ren := ⟨fun k => match k with
  | 20 => 32
  | k => k, fun k => match k with
  | 0 => 0
  | 3 => 3
  | 4 => 4
  | 22 => 30
  | k => k, fun x => x⟩
theorem compL : Go.Proofs.Lays2.n20 Try.prog compL_ren where
  mixed := by kernel_rfl
  f20 := by kernel_rfl
  t0 := by kernel_rfl
  a0 := fun _ => by kernel_rfl
  z0 := fun _ => by kernel_rfl
  v0 := fun _ => by kernel_rfl
  t3 := by kernel_rfl
  a3 := fun _ => by kernel_rfl
  z3 := fun _ => by kernel_rfl
  v3 := fun _ => by kernel_rfl
  t4 := by kernel_rfl
  a4 := fun _ => by kernel_rfl
  z4 := fun _ => by kernel_rfl
  v4 := fun _ => by kernel_rfl
  t22 := by kernel_rfl
  a22 := fun _ => by kernel_rfl
  z22 := fun _ => by kernel_rfl
  v22 := fun _ => by kernel_rfl
  i3 := by kernel_rfl

end Go.Proofs.Ytengccmjlaejfaa
end
section
namespace Go.Proofs.Ytengccmjlaejfaa
namespace Ev
open Go.RowKit Go.Sort
set_option maxRecDepth 100000
set_option linter.unusedVariables false
variable {P : Program}
section
variable [I : Fz]
/-- One row, changed in its place. -/
theorem HR.oneRow {ρ : Rho} {w w' : World} {f g : Nat → Nat → D} {len len' : Nat} {ks : List TK} {p : Pl} (hh : HR ρ (mkH openB [.rows f len ks]) w) (hp : ρ openB = some p) (hs : w.heap.size ≤ w'.heap.size)
    (hb : ∀ b, b < w.heap.size → b ≠ p.b → w'.heap[b]? = w.heap[b]?) (ho : ORel ρ (.rows g len' ks) p w') : HR ρ (mkH openB [.rows g len' ks]) w' := by
  have only : ∀ n (o : AO) (q : AO), (mkH openB [q]).ob.get n = some o → n = openB ∧ o = q := fun n o q e => by
    unfold mkH at e
    rw [get_putO] at e
    split at e
    · cases e
    · rename_i c
      have hn : n = openB := by
        have := (List.getElem?_eq_some_iff.1 e).1
        simp at this c
        omega
      subst hn
      simp at e
      exact ⟨rfl, e.symm⟩
  refine ⟨fun n q e => ?_, fun n o e hn => ?_, fun n m q q' o o' hne h1 h2 h3 h4 h5 => ?_, fun n m q q' o o' h1 h2 h3 h4 h5 h6 => ?_, fun n m q q' o o' hne h1 h2 h3 h4 h5 h6 => ?_, fun b o e => ?_, fun n q e => hh.nf n q e, fun e => hh.op e⟩
  · obtain ⟨h1, h2⟩ := hh.dom n q e
    exact ⟨h1, Nat.lt_of_lt_of_le h2 hs⟩
  · obtain ⟨rfl, rfl⟩ := only n o _ e
    exact .inl ⟨p, hp, ho⟩
  · obtain ⟨rfl, _⟩ := only n o _ h4
    obtain ⟨rfl, _⟩ := only m o' _ h5
    exact absurd rfl hne
  · obtain ⟨_, rfl⟩ := only n o _ h4
    cases h6
  · obtain ⟨rfl, _⟩ := only n o _ h4
    obtain ⟨rfl, _⟩ := only m o' _ h5
    exact absurd rfl hne
  · have h1 := hh.fz b o e
    have h2 : b < w.heap.size := (Array.getElem?_eq_some_iff.1 h1).1
    by_cases c : b = p.b
    · subst c
      have := hh.nf _ _ hp
      rw [this] at e; cases e
    · rw [hb b h2 c]; exact h1
end
/-- What is known of a row of numbers. -/
theorem rows_holds [I : Fz] {ρ : Rho} {L : List Int} {p : Pl} {w : World} (h : ORel ρ (.rows (eL L) L.length [.int .i64]) p w) : Holds (Value.int .i64) w p.b p.o L.toArray := by
  obtain ⟨_, _, C, e, h1, h2, h3⟩ := h
  intro j hj
  have hj' : j < L.length := by simpa using hj
  obtain ⟨_, z, h4, h5⟩ := h3 j 0 hj' (by simp)
  have h4 : C[p.o + j]? = some z := by simpa using h4
  have hz : z = .int .i64 (L.getD j default) := h5
  have hg : L.toArray[j]! = L.getD j default := by
    rw [getElem!_pos _ j hj]
    simp [List.getD_eq_getElem?_getD, hj']
  refine ⟨?_, ?_⟩
  · rw [hg]
    simp [World.cell?, h1, h4, hz]
  · simp [World.frozen?, h1]
/-- The row behind a turn of its cells. -/
theorem rows_put [I : Fz] {ρ : Rho} {L M M' : List Int} {p : Pl} {w : World} (h : ORel ρ (.rows (eL L) L.length [.int .i64]) p w) (hl : M'.length = L.length) (hm : M.length ≤ M'.length) (hpre : ∀ j, j < M.length → M'.getD j 0 = M.getD j 0) (n : Nat) (os : Array Obj) (hb : p.b < w.heap.size) :
    ORel ρ (.rows (eL M) M.length [.int .i64]) p (grow (putRow (Value.int .i64) (Go.Sort.ahead w n) p.b p.o M'.toArray) os) := by
  obtain ⟨h0, ⟨hgc, hsz, hlm⟩, C, e, h1, h2, h3⟩ := h
  have hk : [TK.int IntKind.i64].length = 1 := rfl
  rw [hk, Nat.mul_one] at hsz
  refine ⟨h0, ⟨hgc, by rw [hk]; omega, by omega⟩, putCells (Value.int .i64) p.o M'.toArray C, e, ?_, by simp [putCells, h2], fun i c hi hc => ?_⟩
  · show (((putRow (Value.int .i64) (Go.Sort.ahead w n) p.b p.o M'.toArray).heap ++ os)[p.b]?) = _
    rw [Array.getElem?_append_left (by rw [size_putRow]; exact hb)]
    show ((w.heap.modify p.b (onCells (putCells (Value.int .i64) p.o M'.toArray)))[p.b]?) = _
    rw [Array.getElem?_modify, if_pos rfl, h1]
    rfl
  · have hc0 : c = 0 := by simp at hc; omega
    subst hc0
    refine ⟨⟨.int .i64, rfl, rfl⟩, .int .i64 (M.getD i default), ?_, rfl⟩
    have hlt : p.o + i < C.size := by omega
    show (putCells (Value.int .i64) p.o M'.toArray C)[p.o + (i * 1 + 0)]? = _
    rw [Nat.mul_one, Nat.add_zero]
    unfold putCells
    rw [Array.getElem?_mapIdx, Array.getElem?_eq_getElem hlt]
    simp only [Option.map_some]
    rw [if_pos ⟨by omega, by simp; omega⟩, Nat.add_sub_cancel_left]
    have : M'.toArray[i]! = M.getD i default := by
      have hi' : i < M'.length := by omega
      rw [getElem!_pos _ i (by simpa using hi')]
      have := hpre i hi
      simp only [List.getD_eq_getElem?_getD, List.getElem?_eq_getElem hi', List.getElem?_eq_getElem hi, Option.getD_some] at this ⊢
      simpa using this
    rw [this]
/-- A contract that turns a list in its place. -/
theorem ow_row {f : FuncId} {L M M' : List Int} {v : AV} (hl : M'.length = L.length) (hm : M.length ≤ M'.length) (hpre : ∀ j, j < M.length → M'.getD j 0 = M.getD j 0) (R : Nat → Nat → Nat → Value)
    (hR : ∀ [Fz], Fz.gc = false → ∀ (ρ : Rho) (p : Pl) (cap : Nat), ρ openB = some p → L.length ≤ cap → p.o + cap * p.z ≤ p.s → VRel ρ v (R p.b p.o cap))
    (hc : ∀ (blk off cap : Nat) (w : World), L.length ≤ cap → Holds (Value.int .i64) w blk off L.toArray → blk < w.heap.size → Calls P f #[.slice (some ⟨blk, off, none⟩) L.length cap] w fun e w' => e = .returned (R blk off cap) ∧ ∃ n os, w' = grow (putRow (Value.int .i64) (Go.Sort.ahead w n) blk off M'.toArray) os)
    (h0 : L = [] → M = [] ∧ ∀ (a : Option Addr) (w : World), Calls P f #[.slice a 0 0] w fun e w' => ∃ y, e = .returned y ∧ Go.Proofs.Ytengccmjlaejfaa.Fr noB w w' ∧ ∀ [Fz], Fz.gc = false → ∀ ρ : Rho, VRel ρ v y) :
    OWCalls P 1 f [.osl 65536 L.length] [.rows (eL L) L.length [.int .i64]] v [.rows (eL M) M.length [.int .i64]] := by
  refine ⟨@fun I hgc ρ w ys hys hh => ?_⟩
  obtain ⟨y, r, e1, ⟨_, hy⟩, e2⟩ := hys
  subst e2
  obtain rfl : ys = #[y] := by apply Array.ext'; rw [e1]
  rcases hy with ⟨hL, a, rfl⟩ | ⟨p, k, hp, rfl, hk, hs⟩
  · have hL : L = [] := List.length_eq_zero_iff.1 hL
    obtain ⟨hM, g0⟩ := h0 hL
    subst hL hM
    refine (g0 a w).mono ?_
    rintro e w' ⟨y, rfl, hf, hv⟩
    refine ⟨y, ρ, rfl, hv hgc ρ, hh.fr hf, fun _ _ => rfl, fun n p hn e => ?_, hf.size, hf.os, hf.tape, hf.output, fun b hb _ => hf.block b hb (fun x => x)⟩
    have := (hh.dom n p e).1
    exact absurd this (by show ¬ n < openB + 1; omega)
  · have hob : (mkH openB [.rows (eL L) L.length [.int .i64]]).ob.get openB = some (.rows (eL L) L.length [.int .i64]) := by
      unfold mkH
      rw [get_putO]
      simp
    have hO := hh.objP hp hob
    have hb := (hh.dom _ _ hp).2
    refine (hc p.b p.o k w hk (rows_holds hO) hb).mono ?_
    rintro e w' ⟨rfl, n, os, rfl⟩
    have hsz : w.heap.size ≤ (grow (putRow (Value.int .i64) (Go.Sort.ahead w n) p.b p.o M'.toArray) os).heap.size := by
      show _ ≤ ((putRow (Value.int .i64) (Go.Sort.ahead w n) p.b p.o M'.toArray).heap ++ os).size
      rw [Array.size_append, size_putRow]
      exact Nat.le_add_right _ _
    have hoth : ∀ b, b < w.heap.size → b ≠ p.b → (grow (putRow (Value.int .i64) (Go.Sort.ahead w n) p.b p.o M'.toArray) os).heap[b]? = w.heap[b]? := fun b hb hne => by
      show (((putRow (Value.int .i64) (Go.Sort.ahead w n) p.b p.o M'.toArray).heap ++ os)[b]?) = _
      rw [Array.getElem?_append_left (by rw [size_putRow]; exact hb)]
      show ((w.heap.modify p.b (onCells (putCells (Value.int .i64) p.o M'.toArray)))[b]?) = _
      rw [Array.getElem?_modify, if_neg (fun x => hne x.symm)]
    refine ⟨_, ρ, rfl, hR hgc ρ p k hp hk hs, HR.oneRow hh hp hsz hoth (rows_put hO hl hm hpre n os hb), fun _ _ => rfl, fun n p hn e => ?_, hsz, rfl, rfl, rfl, fun b hb' hne => hoth b hb' fun c => hne openB p (Nat.le_refl _) (by show openB < openB + 1; omega) hp c.symm⟩
    have := (hh.dom n p e).1
    exact absurd this (by show ¬ n < openB + 1; omega)
end Ev
end Go.Proofs.Ytengccmjlaejfaa
end
section
namespace Go.Proofs.Ytengccmjlaejfaa
open Ev Go.RowKit
set_option maxRecDepth 100000
set_option linter.unusedVariables false
def sortI (L : List Int) : List Int := L.mergeSort fun x y => decide (x ≤ y)
theorem ocalls_plain {P : Program} {f : FuncId} {args : List AV} {x : Value} (h : OCalls P f args (.v x) []) {w : World} {ys : Array Value} (hys : @VRels ⟨fun _ => none, false⟩ (fun _ => none) args ys.toList) :
    Calls P f ys w fun e w' => e = .returned x ∧ Go.Proofs.Ytengccmjlaejfaa.Fr noB w w' := by
  refine (h (fun _ => none) w ys (fun _ _ e => by cases e) hys).mono ?_
  rintro e w' ⟨y, ρ', rfl, hf, hv, _⟩
  exact ⟨by rw [show y = x from hv], hf⟩
theorem sort0 : (ev Try.prog noX noS 3000 noL 3000 .normal [.c 0 (codeOf Try.prog 31)] (params [.z0]) Ev.start).map (lookP Try.prog (resOf Try.prog 31) [] (cfL [])) = .leaf (.fin ⟨.normal, true, [some (.v (.tuple #[]))], []⟩) := by kernel_rfl
theorem sort_none : OCalls Try.prog 31 [.z0] (.v (.tuple #[])) [] := by
  refine floyd0 ev_mix ev_ok noX_open noSQ (by kernel_rfl) [] (cfL []) _ sort0 ?_
  exact ⟨rfl, .cons _ _ _ _ (.refl _) .nil, .nil⟩
theorem sort_ok (L : List Int) (hL : L.length ≤ 1000000) : OWCalls Try.prog 1 31 [.osl 65536 L.length] [.rows (eL L) L.length [.int .i64]] (.v (.tuple #[])) [.rows (eL (sortI L)) (sortI L).length [.int .i64]] := by
  have hl : (sortI L).length = L.length := List.length_mergeSort _
  refine ow_row (M' := sortI L) hl (Nat.le_refl _) (fun _ _ => rfl) (fun _ _ _ => .tuple #[]) (fun _ _ _ _ _ _ _ => rfl) (fun blk off cap w _ hH hb => ?_) fun h => ?_
  · exact Go.Proofs.Any.slices_Sort_int sortL blk off cap L w hH hb (by omega)
  · subst h
    refine ⟨by simp [sortI], fun a w => ?_⟩
    refine (ocalls_plain sort_none (w := w) (ys := #[.slice a 0 0]) ⟨_, _, rfl, ⟨a, rfl⟩, rfl⟩).mono ?_
    rintro e w' ⟨rfl, hf⟩
    exact ⟨_, rfl, hf, fun _ _ => rfl⟩
theorem compact_len (L : List Int) : (Lib.compact L).length ≤ L.length := by
  unfold Lib.compact Lib.compactUpTo
  rw [List.length_map]
  exact Nat.le_trans (List.length_filter_le _ _) (by simp)
theorem comp_ok (L : List Int) (hL : L.length ≤ 1000000) : OWCalls Try.prog 1 32 [.osl 65536 L.length] [.rows (eL L) L.length [.int .i64]] (.osl 65536 (Lib.compact L).length) [.rows (eL (Lib.compact L)) (Lib.compact L).length [.int .i64]] := by
  have hl := compact_len L
  refine ow_row (M' := Lib.compact L ++ List.replicate (L.length - (Lib.compact L).length) 0) (by simp; omega) (by simp) (fun j hj => ?_) (fun b o cap => .slice (some ⟨b, o, none⟩) (Lib.compact L).length cap) (fun hgc ρ p cap hp hk hs => ⟨hgc, .inr ⟨p, cap, hp, rfl, by omega, hs⟩⟩) (fun blk off cap w hk hH hb => ?_) fun h => ?_
  · simp only [List.getD_eq_getElem?_getD]
    rw [List.getElem?_append_left hj]
  · refine (Go.Proofs.Any.slices_Compact_int compL blk off cap L w hH (by omega) hk).mono ?_
    rintro e w' ⟨rfl, q, rfl⟩
    exact ⟨rfl, q, #[], by rw [Go.Sort.grow_empty]⟩
  · subst h
    refine ⟨rfl, fun a w => ?_⟩
    refine (Go.Proofs.Any.slices_Compact_int_empty compL a 0 w).mono ?_
    rintro e w' ⟨rfl, rfl⟩
    exact ⟨_, rfl, Go.Proofs.Ytengccmjlaejfaa.Fr.refl _ _, fun hgc ρ => ⟨hgc, .inl ⟨rfl, a, rfl⟩⟩⟩
end Go.Proofs.Ytengccmjlaejfaa
end
section
namespace Go.Proofs.Ytengccmjlaejfaa
open Ev Go.RowKit
set_option maxRecDepth 100000
set_option linter.unusedVariables false
mutual
def namF : Tr → List Int
  | ⟨op, _, _, _, _, n, as1⟩ => (if op = 2 then [n] else []) ++ namLs as1
def namLs : List Tr → List Int
  | [] => []
  | a :: r => namF a ++ namLs r
end
def outO (L : List Int) : AO := .cells [.osl 65537 L.length] 1 0 true false
def iR (L : List Int) : AO := .rows (eL L) L.length [.int .i64]
def colsF (t : Tr) : List Int := Lib.compact (sortI (namF t))
def fmD : AV → Int
  | .fn _ [.fzp f _ _ _ _] => match f 0 0 with
    | .v (.int _ z) => z
    | _ => 0
  | _ => 0
def idxGe (m : Int) (L : List Int) : Int := idxF (fun n => decide (n ≥ m)) L
noncomputable def acX : SumBr := obW Try.prog 29 [(1, [0])] [(1, [0, 0])] (AKs.cons aTr (AKs.cons aX AKs.nil)) fun z oss => match oss with
  | [.o (.cells [.osl _ _] _ _ _ false), .o (.rows f n _)] => some ([outO (dL Int f n), iR (dL Int f n)], .leaf (.v (.tuple #[]), [outO (dL Int f n ++ namF z.1), iR (dL Int f n ++ namF z.1)]))
  | [.o (.cells [.v _] _ _ _ false), .nil] => some ([outO [], iR []], .leaf (.v (.tuple #[]), [outO (namF z.1), iR (namF z.1)]))
  | _ => none
noncomputable def soX : SumBr := obW Try.prog 31 [(0, [])] [] (AKs.cons aX AKs.nil) fun z oss => match oss with
  | [.o (.rows f n _)] => some ([iR (dL Int f n)], .leaf (.v (.tuple #[]), [iR (sortI (dL Int f n))]))
  | _ => none
noncomputable def coX : SumBr := obW Try.prog 32 [(0, [])] [] (AKs.cons aX AKs.nil) fun z oss => match oss with
  | [.o (.rows f n _)] => some ([iR (dL Int f n)], .leaf (.osl 65536 (Lib.compact (dL Int f n)).length, [iR (Lib.compact (dL Int f n))]))
  | _ => none
noncomputable def cX : SumBr := orX acX (orX soX coX)
noncomputable def clX : SumBr := obX Try.prog 10 (AKs.cons aTr AKs.nil) fun z => .leaf (.osl 65536 (colsF z.1).length, [iR (colsF z.1)])
noncomputable def ixX : SumBr := obX Try.prog 61 (AKs.cons (aL Int) (AKs.cons aX AKs.nil)) fun z => .leaf (.s (.int .i64 (idxGe (fmD z.2.1) z.1)), [])
noncomputable def maX : SumBr := obX Try.prog 14 (AKs.cons aTr AKs.nil) fun z => .leaf (.s (.bool (mayF z.1)), [])
noncomputable def fmX : SumBr := orX ixX (orX clX maX)
theorem cX_ok : SumGO Try.prog (sumS cX) := orX_open (obW_ok (by kernel_rfl)) (orX_open (obW_ok (by kernel_rfl)) (obW_ok (by kernel_rfl)))
theorem fmX_ok : SumGO Try.prog (sumS fmX) := orX_open (obX_ok (by kernel_rfl)) (orX_open (obX_ok (by kernel_rfl)) (obX_ok (by kernel_rfl)))
def ac_cf : Nat → Cfg := cfL [mkC 20 [1, 10, 11, 12] [(1, [0, 0])]]
def ac_a (t : Tr) (L : List Int) : List AV := [trO t, .fn 30 [.ptr 65536 0 0]]
noncomputable def ac_t (P : Program) (t : Tr) (L : List Int) : Br PO :=
(.test (t.op == 2)
  (.test (L.length.beq L.length && (true && (small (1 + L.length) && small (Try.prog.types[3].bytes * (1 + L.length)))))
    (.leaf (.at 0 (ct P 29 0).1 (ct P 29 0).2 ⟨Ex.normal, true, [some (AV.fn 30 [AV.ptr 65536 0 0]), some (AV.fz (eT t.args) t.args.length ksE), some (AV.s (Value.int IntKind.i64 (Int.ofNat t.args.length))), some (AV.v (Value.int IntKind.i64 (0)))], [OS.o (AO.cells [AV.osl 65538 (L.length + 1)] 1 0 true false), OS.o (AO.rows (catD (eL L) L.length (listD [D.v (Value.int IntKind.i64 t.n)] 1)) (L.length + 1) [TK.int IntKind.i64])]⟩))
    .no
  )
  (.leaf (.at 0 (ct P 29 0).1 (ct P 29 0).2 ⟨Ex.normal, true, [some (AV.fn 30 [AV.ptr 65536 0 0]), some (AV.fz (eT t.args) t.args.length ksE), some (AV.s (Value.int IntKind.i64 (Int.ofNat t.args.length))), some (AV.v (Value.int IntKind.i64 (0)))], [OS.o (AO.cells [AV.osl 65538 L.length] 1 0 true false), OS.o (AO.rows (eL L) L.length [TK.int IntKind.i64])]⟩))
)
def ac_i (t : Tr) (L : List Int) : List AO := [outO L, iR L]
theorem ac_h (t : Tr) (L : List Int) : (ev Try.prog acX noS 3000 noL 3000 .normal [.c 0 (codeOf Try.prog 29)] (params (ac_a t L)) (mkH openB (ac_i t L))).map (lookW Try.prog 65538 1 (resOf Try.prog 29) [] [(1, [0])] ac_cf) = ac_t Try.prog t L := by kernel_rfl
def ac_v0 (t : Tr) (L : List Int) (M : List Int) (i : Nat) : List AV := [.fn 30 [.ptr 65536 0 0], .fz (eT t.args) t.args.length ksE, .s (.int .i64 t.args.length), .s (.int .i64 i)]
def ac_o0 (t : Tr) (L : List Int) (M : List Int) (i : Nat) : List AO := [.cells [.osl 65538 M.length] 1 0 true false, iR M]
noncomputable def ac_t0 (P : Program) (t : Tr) (L : List Int) (M : List Int) (i : Nat) : Br PO :=
(.test (decide ((↑i : Int) < (↑t.args.length : Int)))
  (.test (decide (0 ≤ (↑i : Int)) && decide ((↑i : Int) < (↑t.args.length : Int)))
    (.ob (ObE   (trA (t.args.getD (↑i : Int).toNat default))   (trA     (trD       (trA (t.args.getD (↑i : Int).toNat default)))))
      (.ob (ObO [OS.o (AO.cells [AV.osl 65537 M.length] 1 0 true false), OS.o (AO.rows (eL M) M.length [TK.int IntKind.i64])] [outO (dL Int (eL M) M.length), iR (dL Int (eL M) M.length)])
        (.ob (ObW Try.prog 1 29   [trA       (trD         (trA (t.args.getD (↑i : Int).toNat default))),     AV.fn 30 [AV.ptr 65536 0 0]]   [outO (dL Int (eL M) M.length), iR (dL Int (eL M) M.length)] (AV.v (Value.tuple { toList := [] }))   [outO       (dL Int (eL M) M.length ++         namF           (trD             (trA (t.args.getD (↑i : Int).toNat default)))),     iR       (dL Int (eL M) M.length ++         namF           (trD             (trA (t.args.getD (↑i : Int).toNat default))))])
          (.leaf (.at 0 (ct P 29 0).1 (ct P 29 0).2 ⟨Ex.normal, true, [some (AV.fn 30 [AV.ptr 65536 0 0]), some (AV.fz (eT t.args) t.args.length ksE), some (AV.s (Value.int IntKind.i64 (Int.ofNat t.args.length))), some (AV.s (Value.int IntKind.i64 (IntKind.i64.wrap ((↑i : Int) + 1))))], [OS.o   (AO.cells     [AV.osl 65538         (dL Int (eL M) M.length ++             namF               (trD                 (trA (t.args.getD (↑i : Int).toNat default)))).length]     1 0 true false), OS.o   (AO.rows     (eL       (dL Int (eL M) M.length ++         namF           (trD             (trA (t.args.getD (↑i : Int).toNat default)))))     (dL Int (eL M) M.length ++         namF           (trD             (trA (t.args.getD (↑i : Int).toNat default)))).length     [TK.int IntKind.i64])]⟩))
        )
      )
    )
    .no
  )
  (.leaf (.fin ⟨Ex.normal, true, [some (AV.v (Value.tuple { toList := [] }))], [OS.o (AO.cells [AV.osl 65537 M.length] 1 0 true false), OS.o (AO.rows (eL M) M.length [TK.int IntKind.i64])]⟩))
)
theorem ac_h0 (t : Tr) (L : List Int) (M : List Int) (i : Nat) (j : Nat → Value) : (ev Try.prog acX noS 3000 noL 3000 .normal (hd Try.prog 29 0) (mkE (ac_cf 0) (ac_v0 t L M i) j) (mkW 65538 1 (ac_o0 t L M i))).map (lookW Try.prog 65538 1 (resOf Try.prog 29) [] [(1, [0])] ac_cf) = ac_t0 Try.prog t L M i := by kernel_rfl

def cl_cf : Nat → Cfg := cfL []
def cl_a (t : Tr) : List AV := [trO t]
noncomputable def cl_t (P : Program) (t : Tr) : Br PO :=
(.ob (ObE (trO t)   (trA (trD (trO t))))
  (.ob (ObO [OS.o (AO.cells [AV.v (Value.slice none 0 0)] 1 65537 true false), OS.nil] [outO [], iR []])
    (.ob (ObW Try.prog 1 29 [trA (trD (trO t)), AV.fn 30 [AV.ptr 65536 0 0]] [outO [], iR []] (AV.v (Value.tuple { toList := [] }))   [outO (namF (trD (trO t))),     iR (namF (trD (trO t)))])
      (.ob (ObO   [OS.o       (AO.rows (eL (namF (trD (trO t))))         (namF (trD (trO t))).length [TK.int IntKind.i64])]   [iR       (dL Int (eL (namF (trD (trO t))))         (namF (trD (trO t))).length)])
        (.ob (ObW Try.prog 1 31 [AV.osl 65536 (namF (trD (trO t))).length]   [iR       (dL Int (eL (namF (trD (trO t))))         (namF (trD (trO t))).length)]   (AV.v (Value.tuple { toList := [] }))   [iR       (sortI         (dL Int (eL (namF (trD (trO t))))           (namF (trD (trO t))).length))])
          (.ob (ObO   [OS.o       (AO.rows         (eL           (sortI             (dL Int (eL (namF (trD (trO t))))               (namF (trD (trO t))).length)))         (sortI             (dL Int (eL (namF (trD (trO t))))               (namF (trD (trO t))).length)).length         [TK.int IntKind.i64])]   [iR       (dL Int         (eL           (sortI             (dL Int (eL (namF (trD (trO t))))               (namF (trD (trO t))).length)))         (sortI             (dL Int (eL (namF (trD (trO t))))               (namF (trD (trO t))).length)).length)])
            (.ob (ObW Try.prog 1 32 [AV.osl 65536 (namF (trD (trO t))).length]   [iR       (dL Int         (eL           (sortI             (dL Int (eL (namF (trD (trO t))))               (namF (trD (trO t))).length)))         (sortI             (dL Int (eL (namF (trD (trO t))))               (namF (trD (trO t))).length)).length)]   (AV.osl 65536     (Lib.compact         (dL Int           (eL             (sortI               (dL Int (eL (namF (trD (trO t), AV.fn 30 [(fun m => AV.ptr m 0 0) openB], ()).fst))                 (namF (trD (trO t), AV.fn 30 [(fun m => AV.ptr m 0 0) openB], ()).fst).length)))           (sortI               (dL Int (eL (namF (trD (trO t), AV.fn 30 [(fun m => AV.ptr m 0 0) openB], ()).fst))                 (namF (trD (trO t), AV.fn 30 [(fun m => AV.ptr m 0 0) openB], ()).fst).length)).length)).length)   [iR       (Lib.compact         (dL Int           (eL             (sortI               (dL Int (eL (namF (trD (trO t), AV.fn 30 [(fun m => AV.ptr m 0 0) openB], ()).fst))                 (namF (trD (trO t), AV.fn 30 [(fun m => AV.ptr m 0 0) openB], ()).fst).length)))           (sortI               (dL Int (eL (namF (trD (trO t), AV.fn 30 [(fun m => AV.ptr m 0 0) openB], ()).fst))                 (namF (trD (trO t), AV.fn 30 [(fun m => AV.ptr m 0 0) openB], ()).fst).length)).length))])
              (.leaf (.fin ⟨Ex.ret, true, [some   (AV.osl 65536     (Lib.compact         (dL Int           (eL             (sortI               (dL Int (eL (namF (trD (trO t), AV.fn 30 [(fun m => AV.ptr m 0 0) openB], ()).fst))                 (namF (trD (trO t), AV.fn 30 [(fun m => AV.ptr m 0 0) openB], ()).fst).length)))           (sortI               (dL Int (eL (namF (trD (trO t), AV.fn 30 [(fun m => AV.ptr m 0 0) openB], ()).fst))                 (namF (trD (trO t), AV.fn 30 [(fun m => AV.ptr m 0 0) openB], ()).fst).length)).length)).length)], [OS.o   (AO.rows     (eL       (Lib.compact         (dL Int           (eL             (sortI               (dL Int (eL (namF (trD (trO t), AV.fn 30 [(fun m => AV.ptr m 0 0) openB], ()).fst))                 (namF (trD (trO t), AV.fn 30 [(fun m => AV.ptr m 0 0) openB], ()).fst).length)))           (sortI               (dL Int (eL (namF (trD (trO t), AV.fn 30 [(fun m => AV.ptr m 0 0) openB], ()).fst))                 (namF (trD (trO t), AV.fn 30 [(fun m => AV.ptr m 0 0) openB], ()).fst).length)).length)))     (Lib.compact         (dL Int           (eL             (sortI               (dL Int (eL (namF (trD (trO t), AV.fn 30 [(fun m => AV.ptr m 0 0) openB], ()).fst))                 (namF (trD (trO t), AV.fn 30 [(fun m => AV.ptr m 0 0) openB], ()).fst).length)))           (sortI               (dL Int (eL (namF (trD (trO t), AV.fn 30 [(fun m => AV.ptr m 0 0) openB], ()).fst))                 (namF (trD (trO t), AV.fn 30 [(fun m => AV.ptr m 0 0) openB], ()).fst).length)).length)).length     [TK.int IntKind.i64])]⟩))
            )
          )
        )
      )
    )
  )
)
theorem cl_h (t : Tr) : (ev Try.prog cX noS 3000 noL 3000 .normal [.c 0 (codeOf Try.prog 10)] (params (cl_a t)) Ev.start).map (lookP Try.prog (resOf Try.prog 10) [[]] cl_cf) = cl_t Try.prog t := by kernel_rfl

def ix_cf : Nat → Cfg := cfL [mkC 19 [0, 1, 7, 8] []]
def ix_a (L : List Int) (m : Int) : List AV := [.fz (eL L) L.length [.int .i64], .fn 45 [.fzp (listD [.v (.int .i64 m)] 1) 1 [.int .i64] 0 0]]
noncomputable def ix_t (P : Program) (L : List Int) (m : Int) : Br PO :=
(.leaf (.at 0 (ct P 61 0).1 (ct P 61 0).2 ⟨Ex.normal, true, [some (AV.fz (eL L) L.length [TK.int IntKind.i64]), some (AV.fn 45 [AV.fzp (listD [D.v (Value.int IntKind.i64 m)] 1) 1 [TK.int IntKind.i64] 0 0]), some (AV.s (Value.int IntKind.i64 (Int.ofNat L.length))), some (AV.v (Value.int IntKind.i64 (0)))], []⟩))
theorem ix_h (L : List Int) (m : Int) : (ev Try.prog noX noS 3000 noL 3000 .normal [.c 0 (codeOf Try.prog 61)] (params (ix_a L m)) Ev.start).map (lookP Try.prog (resOf Try.prog 61) [] ix_cf) = ix_t Try.prog L m := by kernel_rfl
def ix_v0 (L : List Int) (m : Int) (i : Nat) : List AV := [.fz (eL L) L.length [.int .i64], .fn 45 [.fzp (listD [.v (.int .i64 m)] 1) 1 [.int .i64] 0 0], .s (.int .i64 L.length), .s (.int .i64 i)]
def ix_o0 (L : List Int) (m : Int) (i : Nat) : List AO := []
noncomputable def ix_t0 (P : Program) (L : List Int) (m : Int) (i : Nat) : Br PO :=
(.test (decide ((↑i : Int) < (↑L.length : Int)))
  (.test (decide (0 ≤ (↑i : Int)) && decide ((↑i : Int) < (↑L.length : Int)))
    (.test (decide (L.getD (↑i : Int).toNat default ≥ m))
      (.leaf (.fin ⟨Ex.ret, true, [some (AV.s (Value.int IntKind.i64 (Int.ofNat i)))], []⟩))
      (.leaf (.at 0 (ct P 61 0).1 (ct P 61 0).2 ⟨Ex.normal, true, [some (AV.fz (eL L) L.length [TK.int IntKind.i64]), some (AV.fn 45 [AV.fzp (listD [D.v (Value.int IntKind.i64 m)] 1) 1 [TK.int IntKind.i64] 0 0]), some (AV.s (Value.int IntKind.i64 (Int.ofNat L.length))), some (AV.s (Value.int IntKind.i64 (IntKind.i64.wrap ((↑i : Int) + 1))))], []⟩))
    )
    .no
  )
  (.leaf (.fin ⟨Ex.ret, true, [some (AV.v (Value.int IntKind.i64 (Int.negSucc 0)))], []⟩))
)
theorem ix_h0 (L : List Int) (m : Int) (i : Nat) (j : Nat → Value) : (ev Try.prog noX noS 3000 noL 3000 .normal (hd Try.prog 61 0) (mkE (ix_cf 0) (ix_v0 L m i) j) (mkH openB (ix_o0 L m i))).map (lookP Try.prog (resOf Try.prog 61) [] ix_cf) = ix_t0 Try.prog L m i := by kernel_rfl

def fm_cf : Nat → Cfg := cfL []
def fm_a (t : Tr) (m : Int) : List AV := [trO t, .s (.int .i64 m)]
noncomputable def fm_t (P : Program) (t : Tr) (m : Int) : Br PO :=
(.ob (ObE (trO t)   (trA (trD (trO t))))
  (.ob (ObC Try.prog 14 [trA (trD (trO t))]   (AV.s (Value.bool (mayF (trD (trO t))))) [])
    (.test (mayF (trD (trO t)))
      (.ob (ObE (trO t)   (trA (trD (trO t))))
        (.ob (ObC Try.prog 10 [trA (trD (trO t))]   (AV.osl 65536 (colsF (trD (trO t))).length)   [iR (colsF (trD (trO t)))])
          (.test ((colsF (trD (trO t))).length.ble   (colsF (trD (trO t))).length)
            (.ob (ObC Try.prog 61   [AV.fz       (eL         (dL Int (eL (colsF (trD (trO t))))           (colsF (trD (trO t))).length))       (dL Int (eL (colsF (trD (trO t))))           (colsF (trD (trO t))).length).length       (Rec.ks Int),     AV.fn 45 [AV.fzp (listD [D.v (Value.int IntKind.i64 m)] 1) 1 [TK.int IntKind.i64] 0 0]]   (AV.s     (Value.int IntKind.i64       (idxGe (fmD (AV.fn 45 [AV.fzp (listD [D.v (Value.int IntKind.i64 m)] 1) 1 [TK.int IntKind.i64] 0 0]))         (dL Int (eL (colsF (trD (trO t))))           (colsF (trD (trO t))).length))))   [])
              (.leaf (.fin ⟨Ex.ret, true, [some   (AV.s     (Value.bool       !decide           (idxGe (fmD (AV.fn 45 [AV.fzp (listD [D.v (Value.int IntKind.i64 m)] 1) 1 [TK.int IntKind.i64] 0 0]))               (dL Int (eL (colsF (trD (trO t))))                 (colsF (trD (trO t))).length) ≥             0)))], []⟩))
            )
            .no
          )
        )
      )
      (.leaf (.fin ⟨Ex.ret, true, [some (AV.v (Value.bool false))], []⟩))
    )
  )
)
theorem fm_h (t : Tr) (m : Int) : (ev Try.prog fmX noS 3000 noL 3000 .normal [.c 0 (codeOf Try.prog 33)] (params (fm_a t m)) Ev.start).map (lookP Try.prog (resOf Try.prog 33) [] fm_cf) = fm_t Try.prog t m := by kernel_rfl

theorem namF_eq (t : Tr) : namF t = (if t.op = 2 then [t.n] else []) ++ namLs t.args := by obtain ⟨_, _, _, _, _, _, as1⟩ := t; simp only [namF]
theorem namLs_nil : namLs [] = [] := by simp only [namLs]
theorem namLs_cons (a : Tr) (r : List Tr) : namLs (a :: r) = namF a ++ namLs r := by simp only [namLs]
theorem cntLs_nil : cntLs [] = 0 := by simp only [cntLs]
theorem cntLs_cons (a : Tr) (r : List Tr) : cntLs (a :: r) = cntF a + cntLs r := by simp only [cntLs]
theorem namLs_len : ∀ (L : List Tr), (∀ a ∈ L, (namF a).length ≤ cntF a) → (namLs L).length ≤ cntLs L
  | [], _ => by rw [namLs_nil, cntLs_nil]; simp
  | a :: L, h => by
    rw [namLs_cons, cntLs_cons, List.length_append]
    have h1 := h a (by simp)
    have h2 := namLs_len L fun b hb => h b (by simp [hb])
    omega
theorem namF_len (t : Tr) : (namF t).length ≤ cntF t := by
  induction t using Tr.ind with
  | h t ih =>
    rw [namF_eq, cntF_eq, List.length_append]
    have := namLs_len _ ih
    split <;> simp <;> omega
theorem sortI_len (L : List Int) : (sortI L).length = L.length := List.length_mergeSort _
theorem int_snoc (L : List Int) (x : Int) : OLe (.o (.rows (catD (eL L) L.length (listD [.v (.int .i64 x)] 1)) (L.length + 1) [.int .i64])) (iR (L ++ [x])) := OLe.snoc (α := Int) (x := x) fun c hc => by
  have : c = 0 := by simp [Rec.ks] at hc; omega
  subst this; rfl
theorem ac_ok (t : Tr) : ∀ (L : List Int), L.length + cntF t ≤ 100000 → OWCalls Try.prog 1 29 [trA t, .fn 30 [.ptr 65536 0 0]] [outO L, iR L] (.v (.tuple #[])) [outO (L ++ namF t), iR (L ++ namF t)] := by
  have hB : Try.prog.types[3].bytes = 8 := by kernel_rfl
  induction t using Tr.ind with
  | h t ih =>
  intro L hL
  rw [cntF_eq] at hL
  refine OWCalls.le (args := ac_a t L) (OWCalls.bnd fun hb => ?_) (.cons _ _ _ _ (trO_le t) (Les.refl _))
  have hlen : t.args.length ≤ 9223372036854775807 := hb.1.2.2.2.2.2.2.1
  refine floydW ev_mix ev_ok (obW_ok (by kernel_rfl)) noSQ (by kernel_rfl) 1 65538 rfl (by simp [ac_i]) [] [(1, [0])] ac_cf (fun s : List Int × Nat => t.args.length - s.2) (fun _ => 0) (fun s => ac_v0 t L s.1 s.2) (fun s => ac_o0 t L s.1 s.2) (fun s => (s.2 ≤ t.args.length ∧ s.1 ++ namLs (t.args.drop s.2) = L ++ namF t) ∧ s.1.length + cntLs (t.args.drop s.2) ≤ 100000) (fun s => ac_t0 _ t L s.1 s.2) (ac_t _ t L) (ac_h t L) (fun s => ac_h0 t L s.1 s.2) ?_ ?_
  · unfold ac_t
    refine ⟨fun h => hT (app_ok (k := 8) hB (by omega) (by omega)) ?_, fun h => ?_⟩
    · have h : t.op = 2 := by simpa using h
      refine ⟨(L ++ [t.n], 0), ⟨⟨Nat.zero_le _, by rw [List.drop_zero, namF_eq, if_pos h, List.append_assoc]⟩, by rw [List.drop_zero]; simp; omega⟩, rfl, rfl, rfl, (.cons _ _ _ _ (.refl _) (.cons _ _ _ _ (.refl _) (.cons _ _ _ _ (.refl _) (.cons _ _ _ _ (.vs _) .nil)))), .cons _ _ _ _ (.cells _ _ _ _ _ _ _ (.cons _ _ _ _ (.ofEq (by simp)) .nil)) (.cons _ _ _ _ (int_snoc L t.n) .nil)⟩
    · have h : t.op ≠ 2 := by simpa using h
      exact ⟨(L, 0), ⟨⟨Nat.zero_le _, by rw [List.drop_zero, namF_eq, if_neg h, List.nil_append]⟩, by rw [List.drop_zero]; simp only; omega⟩, rfl, rfl, rfl, (.cons _ _ _ _ (.refl _) (.cons _ _ _ _ (.refl _) (.cons _ _ _ _ (.refl _) (.cons _ _ _ _ (.vs _) .nil)))), (.cons _ _ _ _ (by first | exact OLe.same _ _ _ | exact OLe.cells _ _ _ _ _ _ _ (Les.refl _) | exact OLe.cells _ _ _ _ _ _ _ (.cons _ _ _ _ (.xsf _ _ _) (.cons _ _ _ _ (.xsf _ _ _) .nil)) | exact OLe.cells _ _ _ _ _ _ _ (.cons _ _ _ _ (.xso _ _) (.cons _ _ _ _ (.xso _ _) .nil)) |  exact OLe.nil _ _) (.cons _ _ _ _ (by first | exact OLe.same _ _ _ | exact OLe.cells _ _ _ _ _ _ _ (Les.refl _) | exact OLe.cells _ _ _ _ _ _ _ (.cons _ _ _ _ (.xsf _ _ _) (.cons _ _ _ _ (.xsf _ _ _) .nil)) | exact OLe.cells _ _ _ _ _ _ _ (.cons _ _ _ _ (.xso _ _) (.cons _ _ _ _ (.xso _ _) .nil)) |  exact OLe.nil _ _) .nil))⟩
  · rintro ⟨M, i⟩ ⟨⟨hi, hs⟩, hc⟩
    simp only at hi hs hc
    unfold ac_t0
    simp only [Int.toNat_natCast, trD_A, dL_eL]
    refine hSd (fun h => hSi (by omega) (hOA (hO ⟨(.cons _ _ _ _ (by first | exact OLe.same _ _ _ | exact OLe.cells _ _ _ _ _ _ _ (Les.refl _) | exact OLe.cells _ _ _ _ _ _ _ (.cons _ _ _ _ (.xsf _ _ _) (.cons _ _ _ _ (.xsf _ _ _) .nil)) | exact OLe.cells _ _ _ _ _ _ _ (.cons _ _ _ _ (.xso _ _) (.cons _ _ _ _ (.xso _ _) .nil)) |  exact OLe.nil _ _) (.cons _ _ _ _ (by first | exact OLe.same _ _ _ | exact OLe.cells _ _ _ _ _ _ _ (Les.refl _) | exact OLe.cells _ _ _ _ _ _ _ (.cons _ _ _ _ (.xsf _ _ _) (.cons _ _ _ _ (.xsf _ _ _) .nil)) | exact OLe.cells _ _ _ _ _ _ _ (.cons _ _ _ _ (.xso _ _) (.cons _ _ _ _ (.xso _ _) .nil)) |  exact OLe.nil _ _) .nil))⟩ (hO ⟨ih _ (getD_mem (by omega)) M ?_⟩ ?_)))) fun h => ?_
    · rw [drop_getD (show i < t.args.length by omega), cntLs_cons] at hc; omega
    · have h : i < t.args.length := by omega
      have hn := namF_len (t.args.getD i default)
      rw [drop_getD h, cntLs_cons] at hc
      rw [drop_getD h, namLs_cons, ← List.append_assoc] at hs
      exact ⟨(M ++ namF (t.args.getD i default), i + 1), ⟨⟨by simp only; omega, hs⟩, by simp only [List.length_append]; omega⟩, rel_nat (by simp only; omega), rfl, rfl, rfl, (.cons _ _ _ _ (.refl _) (.cons _ _ _ _ (.refl _) (.cons _ _ _ _ (.refl _) (.cons _ _ _ _ (.ofEq (by rw [wrap_lt (by omega) (by omega)]; rfl)) .nil)))), (.cons _ _ _ _ (by first | exact OLe.same _ _ _ | exact OLe.cells _ _ _ _ _ _ _ (Les.refl _) | exact OLe.cells _ _ _ _ _ _ _ (.cons _ _ _ _ (.xsf _ _ _) (.cons _ _ _ _ (.xsf _ _ _) .nil)) | exact OLe.cells _ _ _ _ _ _ _ (.cons _ _ _ _ (.xso _ _) (.cons _ _ _ _ (.xso _ _) .nil)) |  exact OLe.nil _ _) (.cons _ _ _ _ (by first | exact OLe.same _ _ _ | exact OLe.cells _ _ _ _ _ _ _ (Les.refl _) | exact OLe.cells _ _ _ _ _ _ _ (.cons _ _ _ _ (.xsf _ _ _) (.cons _ _ _ _ (.xsf _ _ _) .nil)) | exact OLe.cells _ _ _ _ _ _ _ (.cons _ _ _ _ (.xso _ _) (.cons _ _ _ _ (.xso _ _) .nil)) |  exact OLe.nil _ _) .nil))⟩
    · rw [List.drop_eq_nil_of_le (by omega), namLs_nil, List.append_nil] at hs
      rw [← hs]
      exact ⟨rfl, (.cons _ _ _ _ (.refl _) .nil), (.cons _ _ _ _ (by first | exact OLe.same _ _ _ | exact OLe.cells _ _ _ _ _ _ _ (Les.refl _) | exact OLe.cells _ _ _ _ _ _ _ (.cons _ _ _ _ (.xsf _ _ _) (.cons _ _ _ _ (.xsf _ _ _) .nil)) | exact OLe.cells _ _ _ _ _ _ _ (.cons _ _ _ _ (.xso _ _) (.cons _ _ _ _ (.xso _ _) .nil)) |  exact OLe.nil _ _) (.cons _ _ _ _ (by first | exact OLe.same _ _ _ | exact OLe.cells _ _ _ _ _ _ _ (Les.refl _) | exact OLe.cells _ _ _ _ _ _ _ (.cons _ _ _ _ (.xsf _ _ _) (.cons _ _ _ _ (.xsf _ _ _) .nil)) | exact OLe.cells _ _ _ _ _ _ _ (.cons _ _ _ _ (.xso _ _) (.cons _ _ _ _ (.xso _ _) .nil)) |  exact OLe.nil _ _) .nil))⟩
theorem cl_ok (t : Tr) (hc : cntF t ≤ 100000) : OCalls Try.prog 10 [trA t] (.osl 65536 (colsF t).length) [iR (colsF t)] := by
  have hn := namF_len t
  refine OCalls.le (args := cl_a t) ?_ (.cons _ _ _ _ (trO_le t) (Les.refl _))
  refine floyd0 ev_mix ev_ok cX_ok noSQ (by kernel_rfl) [[]] cl_cf (cl_t _ t) (cl_h t) ?_
  unfold cl_t
  simp only [trD_B, dL_eL]
  have h1 := ac_ok t [] (by simpa using hc)
  have h2 := sort_ok (namF t) (by omega)
  have h3 := comp_ok (sortI (namF t)) (by rw [sortI_len]; omega)
  refine hOB (hO ⟨.cons _ _ _ _ (.cells _ _ _ _ _ _ _ (.cons _ _ _ _ (.nilv _) .nil)) (.cons _ _ _ _ (.nil _ _) .nil)⟩ (hO ⟨h1⟩ (hO ⟨(.cons _ _ _ _ (by first | exact OLe.same _ _ _ | exact OLe.cells _ _ _ _ _ _ _ (Les.refl _) | exact OLe.cells _ _ _ _ _ _ _ (.cons _ _ _ _ (.xsf _ _ _) (.cons _ _ _ _ (.xsf _ _ _) .nil)) | exact OLe.cells _ _ _ _ _ _ _ (.cons _ _ _ _ (.xso _ _) (.cons _ _ _ _ (.xso _ _) .nil)) |  exact OLe.nil _ _) .nil)⟩ (hO ⟨h2⟩ (hO ⟨(.cons _ _ _ _ (by first | exact OLe.same _ _ _ | exact OLe.cells _ _ _ _ _ _ _ (Les.refl _) | exact OLe.cells _ _ _ _ _ _ _ (.cons _ _ _ _ (.xsf _ _ _) (.cons _ _ _ _ (.xsf _ _ _) .nil)) | exact OLe.cells _ _ _ _ _ _ _ (.cons _ _ _ _ (.xso _ _) (.cons _ _ _ _ (.xso _ _) .nil)) |  exact OLe.nil _ _) .nil)⟩ (hO ⟨h3.le (.cons _ _ _ _ (.ofEq (by rw [sortI_len])) .nil)⟩ ?_))))))
  exact ⟨rfl, (.cons _ _ _ _ (.refl _) .nil), (.cons _ _ _ _ (by first | exact OLe.same _ _ _ | exact OLe.cells _ _ _ _ _ _ _ (Les.refl _) | exact OLe.cells _ _ _ _ _ _ _ (.cons _ _ _ _ (.xsf _ _ _) (.cons _ _ _ _ (.xsf _ _ _) .nil)) | exact OLe.cells _ _ _ _ _ _ _ (.cons _ _ _ _ (.xso _ _) (.cons _ _ _ _ (.xso _ _) .nil)) |  exact OLe.nil _ _) .nil)⟩
theorem ix_ok (L : List Int) (m : Int) : OCalls Try.prog 61 (ix_a L m) (.s (.int .i64 (idxGe m L))) [] := OCalls.bnd fun hb => by
  have hL : L.length ≤ 9223372036854775807 := hb.1
  refine floyd ev_mix ev_ok noX_open noSQ (by kernel_rfl) [] ix_cf (fun i => L.length - i) (fun _ => 0) (ix_v0 L m) (ix_o0 L m) (fun i => i ≤ L.length ∧ ∀ k, k < i → decide (L.getD k default ≥ m) = false) (ix_t0 _ L m) (ix_t _ L m) (ix_h L m) (ix_h0 L m) ?_ ?_
  · exact ⟨0, ⟨Nat.zero_le _, fun k hk => absurd hk (Nat.not_lt_zero k)⟩, rfl, rfl, rfl, (.cons _ _ _ _ (.refl _) (.cons _ _ _ _ (.refl _) (.cons _ _ _ _ (.refl _) (.cons _ _ _ _ (.vs _) .nil)))), .nil⟩
  · rintro i ⟨hi, hk⟩
    unfold ix_t0
    simp only [Int.toNat_natCast]
    refine hSd (fun h => hSi (by omega) ⟨fun h2 => ?_, fun h2 => ?_⟩) fun h => ?_
    · exact ⟨rfl, (.cons _ _ _ _ (.ofEq (by unfold idxGe; rw [idxF_hit (by omega) h2 hk]; rfl)) .nil), .nil⟩
    · exact ⟨i + 1, ⟨by omega, upto_next hk h2⟩, rel_nat (by omega), rfl, rfl, rfl, (.cons _ _ _ _ (.refl _) (.cons _ _ _ _ (.refl _) (.cons _ _ _ _ (.refl _) (.cons _ _ _ _ (.ofEq (by rw [wrap_lt (by omega) (by omega)]; rfl)) .nil)))), .nil⟩
    · have h : i = L.length := by omega
      subst h
      exact ⟨rfl, (.cons _ _ _ _ (by unfold idxGe; rw [idxF_none hk]; exact .vs _) .nil), .nil⟩
def formF (t : Tr) (m : Int) : Bool := mayF t && !((colsF t).any fun n => decide (n ≥ m))
theorem fm_ok (t : Tr) (m : Int) : OCalls Try.prog 33 [trA t, .s (.int .i64 m)] (.s (.bool (formF t m))) [] := by
  refine OCalls.le (args := fm_a t m) ?_ (.cons _ _ _ _ (trO_le t) (Les.refl _))
  refine floyd0 ev_mix ev_ok fmX_ok noSQ (by kernel_rfl) [] fm_cf (fm_t _ t m) (fm_h t m) ?_
  unfold fm_t
  simp only [trD_B, dL_eL]
  refine hOB (hO ⟨may_ok _⟩ ⟨fun h => hOB (hO ⟨cl_ok _ (by have := (mayF_iff t).1 h; omega)⟩ (hT (ble_yes (Nat.le_refl _)) (hO ⟨ix_ok _ m⟩ ?_))), fun h => ?_⟩)
  · exact ⟨rfl, (.cons _ _ _ _ (.ofEq (by unfold formF idxGe; rw [h, idxF_ge]; rfl)) .nil), .nil⟩
  · exact ⟨rfl, (.cons _ _ _ _ (by unfold formF; rw [h]; exact .vs _) .nil), .nil⟩
end Go.Proofs.Ytengccmjlaejfaa
end
section
namespace Go.Proofs.Ytengccmjlaejfaa
open Ev Go.RowKit
set_option linter.unusedVariables false
theorem compact_facts {L : List Int} (hs : ∀ i j, i ≤ j → j < L.length → L.getD i 0 ≤ L.getD j 0) : ∀ m, m ≤ L.length → (Lib.compactUpTo L.toArray m).Pairwise (· < ·) ∧ (∀ x, x ∈ Lib.compactUpTo L.toArray m ↔ ∃ j, j < m ∧ L.getD j 0 = x)
  | 0, _ => by simp [Lib.compactUpTo]
  | m + 1, hm => by
    obtain ⟨h1, h2⟩ := compact_facts hs m (by omega)
    have get : ∀ j, j < L.length → L.toArray[j]! = L.getD j 0 := fun j hj => by
      rw [getElem!_pos _ j (by simpa using hj)]
      simp [List.getD_eq_getElem?_getD, hj]
    rw [Lib.compactUpTo_succ]
    have hk : Lib.keeps L.toArray m = true ↔ m = 0 ∨ L.getD m 0 ≠ L.getD (m - 1) 0 := by
      unfold Lib.keeps
      rw [decide_eq_true_eq, get m (by omega), get (m - 1) (by omega)]
    by_cases c : Lib.keeps L.toArray m = true
    · rw [if_pos c, get m (by omega)]
      refine ⟨?_, fun x => ?_⟩
      · rw [List.pairwise_append]
        refine ⟨h1, by simp, fun a ha b hb => ?_⟩
        simp only [List.mem_singleton] at hb
        subst hb
        obtain ⟨j, hj, rfl⟩ := (h2 a).1 ha
        rcases hk.1 c with h | h
        · omega
        · have e1 := hs j (m - 1) (by omega) (by omega)
          have e2 := hs (m - 1) m (by omega) (by omega)
          omega
      · rw [List.mem_append, h2, List.mem_singleton]
        constructor
        · rintro (⟨j, hj, rfl⟩ | rfl)
          · exact ⟨j, by omega, rfl⟩
          · exact ⟨m, by omega, rfl⟩
        · rintro ⟨j, hj, rfl⟩
          by_cases e : j = m
          · subst e; exact .inr rfl
          · exact .inl ⟨j, by omega, rfl⟩
    · rw [if_neg c, List.append_nil]
      refine ⟨h1, fun x => ?_⟩
      rw [h2]
      have h3 : ¬ (m = 0 ∨ L.getD m 0 ≠ L.getD (m - 1) 0) := fun x => c (hk.2 x)
      constructor
      · rintro ⟨j, hj, rfl⟩; exact ⟨j, by omega, rfl⟩
      · rintro ⟨j, hj, rfl⟩
        by_cases e : j = m
        · subst e
          have h4 : ¬ j = 0 := fun x => h3 (.inl x)
          refine ⟨j - 1, by omega, ?_⟩
          by_cases q : L.getD j 0 = L.getD (j - 1) 0
          · exact q.symm
          · exact absurd (.inr q) h3
        · exact ⟨j, by omega, rfl⟩
theorem sortI_le (L : List Int) : ∀ i j, i ≤ j → j < (sortI L).length → (sortI L).getD i 0 ≤ (sortI L).getD j 0 := by
  have hp : (sortI L).Pairwise fun a b => (decide (a ≤ b)) = true := List.pairwise_mergeSort (fun a b c h1 h2 => by simp only [decide_eq_true_eq] at *; omega) (fun a b => by simp only [Bool.or_eq_true, decide_eq_true_eq]; omega) L
  intro i j hij hj
  by_cases e : i = j
  · subst e; exact Int.le_refl _
  · have := List.pairwise_iff_getElem.1 hp i j (by omega) hj (by omega)
    simp only [decide_eq_true_eq] at this
    simpa [List.getD_eq_getElem?_getD, List.getElem?_eq_getElem hj, List.getElem?_eq_getElem (show i < (sortI L).length by omega)] using this
theorem mem_sortI {L : List Int} {x : Int} : x ∈ sortI L ↔ x ∈ L := List.mem_mergeSort
theorem colsF_facts (t : Tr) : (colsF t).Pairwise (· < ·) ∧ ∀ x, x ∈ colsF t ↔ x ∈ namF t := by
  obtain ⟨h1, h2⟩ := compact_facts (sortI_le (namF t)) _ (Nat.le_refl _)
  refine ⟨h1, fun x => ?_⟩
  show x ∈ Lib.compactUpTo _ _ ↔ _
  rw [h2, ← mem_sortI (L := namF t)]
  constructor
  · rintro ⟨j, hj, rfl⟩
    rw [List.getD_eq_getElem?_getD, List.getElem?_eq_getElem hj]
    exact List.getElem_mem _
  · intro h
    obtain ⟨j, hj, rfl⟩ := List.getElem_of_mem h
    exact ⟨j, hj, by simp [List.getD_eq_getElem?_getD, hj]⟩
theorem formF_iff (t : Tr) (m : Int) : formF t m = true ↔ mayF t = true ∧ ∀ n ∈ namF t, n < m := by
  unfold formF
  rw [Bool.and_eq_true, Bool.not_eq_true', List.any_eq_false]
  constructor
  · rintro ⟨h1, h2⟩
    refine ⟨h1, fun n hn => ?_⟩
    have := h2 n ((colsF_facts t).2 n |>.2 hn)
    simp only [decide_eq_true_eq] at this
    omega
  · rintro ⟨h1, h2⟩
    refine ⟨h1, fun n hn => ?_⟩
    have := h2 n ((colsF_facts t).2 n |>.1 hn)
    simp only [decide_eq_true_eq]
    omega
end Go.Proofs.Ytengccmjlaejfaa
end
