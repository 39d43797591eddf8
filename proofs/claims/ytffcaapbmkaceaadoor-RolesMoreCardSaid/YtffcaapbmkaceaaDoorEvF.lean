/- Regions that draw their order: what holds between two operations, whichever have come up. No condition. -/
import Derived.Test.YtffcaapbmkaceaaDoorEvE
namespace Go.Proofs.YtffcaapbmkaceaaDoor
namespace Ev
open Go.RowKit
set_option linter.unusedSectionVars false
variable [Fz]
variable {P : Program} {call : Sum} {ops : Array Oper} {e0 : T AV} {h0 : Hp} {D : Nat → DRec} {W : Nat → Option Nat}

def cut (ρ : Rho) (l : Nat) : Rho := fun k => if k < l then ρ k else none
theorem cut_some {ρ : Rho} {l n : Nat} {p : Pl} (h : cut ρ l n = some p) : ρ n = some p ∧ n < l := by
  unfold cut at h
  split at h
  · exact ⟨h, by assumption⟩
  · cases h
theorem cut_lt {ρ : Rho} {l n : Nat} (h : n < l) : cut ρ l n = ρ n := by unfold cut; rw [if_pos h]
theorem cut_sub (ρ : Rho) {l l' : Nat} (h : l ≤ l') : Sub (cut ρ l) (cut ρ l') := fun n p e => by
  obtain ⟨h1, h2⟩ := cut_some e
  rw [cut_lt (by omega)]; exact h1

abbrev X (D : Nat → DRec) (h0 : Hp) : Nat → Nat := nxR D h0.nx
def cont (D : Nat → DRec) (h0 : Hp) (ops : Array Oper) (S : Nat → Bool) (n : Nat) : Option AO := entR D S n (baseAt h0 n) ops.size
def Made (D : Nat → DRec) (h0 : Hp) (S : Nat → Bool) (n : Nat) : Prop := n < h0.nx ∨ ∃ j, S j = true ∧ mine D h0.nx n j

structure Inv (ops : Array Oper) (e0 : T AV) (h0 : Hp) (D : Nat → DRec) (W : Nat → Option Nat) (S : Nat → Bool) (ρ0 ρ : Rho) (w0 w : World) (a : Act) (N : Nat) (ds : List Deferred) : Prop where
  lt : ∀ i, S i = true → i < ops.size
  closed : ∀ i j, S i = true → (msk (bsO ops) i).testBit j = true → S j = true
  envS : ∀ t j, W t = some j → S j = true → VRel (cut ρ (X D h0 (j + 1))) (D j).v (a.tmps.getD t undef)
  env0 : ∀ t, (∀ j, W t = some j → S j = false) → VRel ρ0 ((e0.get t).getD (.v undef)) (a.tmps.getD t undef)
  dom : ∀ n p, ρ n = some p → p.b < w.heap.size ∧ Made D h0 S n
  old : ∀ n, n < h0.nx → ρ n = ρ0 n
  dom0 : ∀ n p, ρ0 n = some p → n < h0.nx
  obj : ∀ n o, Made D h0 S n → cont D h0 ops S n = some o → (∃ p l, ρ n = some p ∧ ORel (cut ρ l) o p w ∧ ∀ i, i ≤ ops.size → (∀ k, S k = true → (lookE n (D k).en).isSome = true → k < i) → l ≤ X D h0 i) ∨ (ρ n = none ∧ o.nil0)
  fz : ∀ b o, Fz.m b = some o → w.heap[b]? = some o
  nf : ∀ n p, ρ n = some p → Fz.m p.b = none
  opn : Fz.gc = false → openB ≤ h0.nx
  sep : ∀ n m p q o o', n ≠ m → ρ n = some p → ρ m = some q → p.b = q.b → cont D h0 ops S n = some o → cont D h0 ops S m = some o' → o.fam = o'.fam ∧ o.sh = true ∧ o'.sh = true
  tip : ∀ n m p q o o', ρ n = some p → ρ m = some q → p.b = q.b → cont D h0 ops S n = some o → cont D h0 ops S m = some o' → o.tp = true → q.o + o'.len ≤ p.o + o.len
  one : ∀ n m p q o o', n ≠ m → ρ n = some p → ρ m = some q → p.b = q.b → cont D h0 ops S n = some o → cont D h0 ops S m = some o' → o.tp = true → o'.tp = false
  size : w0.heap.size ≤ w.heap.size
  os : w.os = w0.os
  tape : w.tape = w0.tape
  output : w.output = w0.output
  new : ∀ n p, h0.nx ≤ n → ρ n = some p → w0.heap.size ≤ p.b ∨ ∃ m q j, S j = true ∧ m ∈ (D j).wr ∧ m < h0.nx ∧ ρ0 m = some q ∧ q.b = p.b
  block : ∀ b, b < w0.heap.size → (∀ n p j, S j = true → n ∈ (D j).wr → n < h0.nx → ρ0 n = some p → p.b ≠ b) → w.heap[b]? = w0.heap[b]?
  d : a.defers = ds
  n : N ≤ a.tmps.size

instance (D : Nat → DRec) (x n k : Nat) : Decidable (mine D x n k) := by unfold mine; infer_instance
theorem mine_cover {n : Nat} : ∀ (i : Nat), h0.nx ≤ n → n < X D h0 i → ∃ j, j < i ∧ mine D h0.nx n j
  | 0, h, k => by unfold X at k; simp only [nxR] at k; omega
  | i + 1, h, k => by
    by_cases c : n < X D h0 i
    · obtain ⟨j, h1, h2⟩ := mine_cover i h c; exact ⟨j, by omega, h2⟩
    · exact ⟨i, by omega, by unfold mine; unfold X at c k; omega⟩

theorem baseAt_lt {n : Nat} (h : n < h0.nx) : baseAt h0 n = h0.ob.get n := by
  unfold baseAt
  rw [show Nat.blt n h0.nx = true by simpa using h]; rfl
theorem baseAt_ge {n : Nat} (h : h0.nx ≤ n) : baseAt h0 n = none := by
  unfold baseAt
  have : Nat.blt n h0.nx = false := by
    cases hc : Nat.blt n h0.nx with
    | false => rfl
    | true => simp at hc; omega
  rw [this]; rfl

section
variable {S : Nat → Bool} {ρ0 ρ : Rho} {w0 w : World} {a : Act} {N : Nat} {ds : List Deferred}

/-- The makers of what an operation sees lie ahead of it. -/
theorem Inv.seen (F : DrawF P call ops e0 h0 D W) (I : Inv ops e0 h0 D W S ρ0 ρ w0 w a N ds) {i : Nat} (hi : i < ops.size) (hS : S i = false) (hp : ∀ j, (msk (bsO ops) i).testBit j = true → S j = true) {n : Nat} {o : AO}
    (hn : n < X D h0 i) (hv : ∀ l, (D i).vw = some l → n ∈ l) (hg : entR D (fun j => (msk (bsO ops) i).testBit j) n (baseAt h0 n) i = some o) :
    cont D h0 ops S n = some o ∧ Made D h0 S n ∧ ∀ k, S k = true → (lookE n (D k).en).isSome = true → k < i := by
  have hmak : ∀ k, S k = true → (lookE n (D k).en).isSome = true → (msk (bsO ops) i).testBit k = true := by
    intro k hk hl
    have hki : i ≠ k := fun c => by subst c; rw [hS] at hk; cases hk
    cases ho : ordered (bsO ops) i k with
    | true =>
      unfold ordered at ho
      simp only [Bool.or_eq_true] at ho
      rcases ho with h | h
      · exact h
      · have := I.closed k i hk h; rw [hS] at this; cases this
    | false =>
      have hlk := (F.look (I.lt k hk)).1 hl
      exfalso
      rcases F.clear i k hi (I.lt k hk) hki ho with ⟨h1, h2⟩ | h
      · rcases hlk with h | h
        · unfold mine at h
          rw [F.lo (I.lt k hk)] at h2
          have : nxR D h0.nx (k + 1) = (D k).hi := rfl
          omega
        · rw [h1] at h; simp at h
      · have h := h.1
        unfold Clear1 at h
        cases hvw : (D i).vw with
        | some l =>
          rw [hvw] at h
          simp only [List.all_eq_true] at h
          have := h n (hv l hvw)
          simp only [Bool.and_eq_true, Bool.not_eq_true', Bool.and_eq_false_iff] at this
          rcases hlk with hm | hm
          · unfold mine at hm
            rw [F.lo (I.lt k hk)] at this
            have e : nxR D h0.nx (k + 1) = (D k).hi := rfl
            rcases this.1 with x | x
            · have := ble_false x; omega
            · have := blt_false x; omega
          · have := this.2
            simp at this
            exact this hm
        | none =>
          rw [hvw] at h
          rcases hlk with hm | hm
          · have hge : h0.nx ≤ n := Nat.le_trans (F.mono (i := 0) (j := k) (by omega) (Nat.le_of_lt (I.lt k hk))) hm.1
            rw [baseAt_ge hge] at hg
            rcases entR_find D (fun j => (msk (bsO ops) i).testBit j) n none i with ⟨h1, _⟩ | ⟨k', o', h1, h2, h3, _, _⟩
            · rw [h1] at hg; cases hg
            · have h2 : (msk (bsO ops) i).testBit k' = true := h2
              have hl' := (F.look (k := k') (n := n) (by omega)).1 (by rw [h3]; rfl)
              have hik : (msk (bsO ops) i).testBit k = true := by
                rcases hl' with hm' | hm'
                · have := F.uniq (by omega) (I.lt k hk) hm' hm
                  subst this; exact h2
                · exact mk_trans F.ok.back h2 (F.wknows k' (by omega) n k hm' (I.lt k hk) hm)
              unfold ordered at ho
              rw [hik] at ho; simp at ho
          · obtain ⟨hge, hno⟩ := h n hm
            rw [baseAt_ge hge] at hg
            rcases entR_find D (fun j => (msk (bsO ops) i).testBit j) n none i with ⟨h1, _⟩ | ⟨k', o', h1, h2, h3, _, _⟩
            · rw [h1] at hg; cases hg
            · have h2 : (msk (bsO ops) i).testBit k' = true := h2
              have hl' := (F.look (k := k') (n := n) (by omega)).1 (by rw [h3]; rfl)
              rcases hl' with hm' | hm'
              · exact hno k' (by omega) h2 (by rw [F.lo (by omega)]; exact hm')
              · obtain ⟨j, hj, hmj⟩ := mine_cover i hge hn
                have hj2 := F.wknows k' (by omega) n j hm' (by omega) hmj
                exact hno j (by omega) (mk_trans F.ok.back h2 hj2) (by rw [F.lo (by omega)]; exact hmj)
  have hc : cont D h0 ops S n = some o := by
    rw [← hg]
    unfold cont
    refine entR_congr fun k => ?_
    constructor
    · rintro ⟨h1, h2, h3⟩; exact ⟨mk_lt F.ok.back (hmak k h2 h3), hmak k h2 h3, h3⟩
    · rintro ⟨h1, h2, h3⟩; exact ⟨by omega, hp k h2, h3⟩
  refine ⟨hc, ?_, fun k h1 h2 => mk_lt F.ok.back (hmak k h1 h2)⟩
  by_cases c : n < h0.nx
  · exact .inl c
  · obtain ⟨j, hj, hm⟩ := mine_cover i (by omega) hn
    rw [baseAt_ge (by omega)] at hg
    rcases entR_find D (fun j => (msk (bsO ops) i).testBit j) n none i with ⟨h1, _⟩ | ⟨k', o', h1, h2, h3, _, _⟩
    · rw [h1] at hg; cases hg
    · have h2 : (msk (bsO ops) i).testBit k' = true := h2
      have hl' := (F.look (k := k') (n := n) (by omega)).1 (by rw [h3]; rfl)
      rcases hl' with hm' | hm'
      · exact .inr ⟨k', hp k' h2, hm'⟩
      · exact .inr ⟨j, I.closed k' j (hp k' h2) (F.wknows k' (by omega) n j hm' (by omega) hm), hm⟩

/-- What an operation sees stands in memory. -/
theorem Inv.view (F : DrawF P call ops e0 h0 D W) (I : Inv ops e0 h0 D W S ρ0 ρ w0 w a N ds) {i : Nat} (hi : i < ops.size) (hS : S i = false) (hp : ∀ j, (msk (bsO ops) i).testBit j = true → S j = true) {g : Nat → Option AO}
    (hg : ∀ n o, g n = some o → n < X D h0 i → (∀ l, (D i).vw = some l → n ∈ l) ∧ entR D (fun j => (msk (bsO ops) i).testBit j) n (baseAt h0 n) i = some o) :
    HRel (cut ρ (X D h0 i)) g (X D h0 i) w := by
  have see : ∀ n o p, g n = some o → cut ρ (X D h0 i) n = some p → ρ n = some p ∧ cont D h0 ops S n = some o := fun n o p h1 h2 => by
    obtain ⟨h3, h4⟩ := cut_some h2
    obtain ⟨h5, h6⟩ := hg n o h1 h4
    exact ⟨h3, (I.seen F hi hS hp h4 h5 h6).1⟩
  refine ⟨fun n p e => ⟨(cut_some e).2, (I.dom n p (cut_some e).1).1⟩, fun n o e hn => ?_, fun n m p q o o' hnm e1 e2 hb e3 e4 => ?_, fun n m p q o o' e1 e2 hb e3 e4 ht => ?_, fun n m p q o o' hnm e1 e2 hb e3 e4 ht => ?_, I.fz, fun n p e => I.nf n p (cut_some e).1, fun e => Nat.le_trans (I.opn e) (F.mono (i := 0) (j := i) (by omega) (Nat.le_of_lt hi))⟩
  · obtain ⟨h5, h6⟩ := hg n o e hn
    obtain ⟨h7, h8, h9⟩ := I.seen F hi hS hp hn h5 h6
    rcases I.obj n o h8 h7 with ⟨p, l, h10, h11, h12⟩ | ⟨h10, h11⟩
    rotate_left
    · exact .inr ⟨by rw [cut_lt hn]; exact h10, h11⟩
    exact .inl ⟨p, by rw [cut_lt hn]; exact h10, h11.mono (cut_sub ρ (h12 i (by omega) h9))⟩
  · exact I.sep n m p q o o' hnm (see n o p e3 e1).1 (see m o' q e4 e2).1 hb (see n o p e3 e1).2 (see m o' q e4 e2).2
  · exact I.tip n m p q o o' (see n o p e3 e1).1 (see m o' q e4 e2).1 hb (see n o p e3 e1).2 (see m o' q e4 e2).2 ht
  · exact I.one n m p q o o' hnm (see n o p e3 e1).1 (see m o' q e4 e2).1 hb (see n o p e3 e1).2 (see m o' q e4 e2).2 ht

def addS (S : Nat → Bool) (i : Nat) : Nat → Bool := fun k => k == i || S k
def merge (ρ ρ' : Rho) (l r : Nat) : Rho := fun n => if l ≤ n ∧ n < r then ρ' n else ρ n

/-- One operation more has come up. -/
theorem Inv.add (F : DrawF P call ops e0 h0 D W) (I : Inv ops e0 h0 D W S ρ0 ρ w0 w a N ds) {i : Nat} {o : Oper} (ho : ops[i]? = some o) (hS : S i = false) (hp : ∀ j, (msk (bsO ops) i).testBit j = true → S j = true)
    {ρ' : Rho} {w' : World} {L : List Nat} {g' : Nat → Option AO} {y : Value} (hy : VRel ρ' (D i).v y) (hst : Stepped (cut ρ (X D h0 i)) (X D h0 i) L w ρ' (X D h0 (i + 1)) w') (hh : HRel ρ' g' (X D h0 (i + 1)) w')
    (hlook : ∀ n, lookE n (D i).en = if mine D h0.nx n i ∨ n ∈ (D i).wr then some (g' n) else none) (hL : ∀ n ∈ L, n < X D h0 i → n ∈ (D i).wr)
    (hwr : ∀ n ∈ (D i).wr, n < X D h0 i ∧ Made D h0 S n ∧ (cont D h0 ops S n).isSome = true ∧ ∀ k, S k = true → (lookE n (D k).en).isSome = true → k < i)
    (hsh : (∀ n ∈ (D i).wr, unshared (cont D h0 ops S n) = true) ∨ ∀ m q o', ρ m = some q → cont D h0 ops S m = some o' → o'.sh = true → m ∈ (D i).wr) (hdst : ∀ x, o.dst = some x → x < a.tmps.size) :
    Inv ops e0 h0 D W (addS S i) ρ0 (merge ρ ρ' (X D h0 i) (X D h0 (i + 1))) w0 w' (a.put o.dst y) N ds := by
  have hi := (Array.getElem?_eq_some_iff.1 ho).1
  have hX : X D h0 i ≤ X D h0 (i + 1) := F.step hi
  have hX0 : ∀ k, k ≤ ops.size → h0.nx ≤ X D h0 k := fun k hk => F.mono (i := 0) (j := k) (by omega) hk
  have aS : ∀ k, addS S i k = true ↔ k = i ∨ S k = true := fun k => by unfold addS; simp
  have notmine : ∀ n, Made D h0 S n → ¬ mine D h0.nx n i := fun n hm hmi => by
    rcases hm with hm | ⟨j, hj, hm⟩
    · have := hX0 i (by omega); unfold mine at hmi; unfold X at this; omega
    · have := F.uniq (I.lt j hj) hi hm hmi
      subst this; rw [hS] at hj; cases hj
  -- old names keep their places
  have hkeep : ∀ n p, ρ n = some p → merge ρ ρ' (X D h0 i) (X D h0 (i + 1)) n = some p := fun n p e => by
    unfold merge
    rw [if_neg]
    · exact e
    · exact notmine n (I.dom n p e).2
  have hsub : Sub ρ (merge ρ ρ' (X D h0 i) (X D h0 (i + 1))) := hkeep
  have hsubc : ∀ l, Sub (cut ρ l) (cut (merge ρ ρ' (X D h0 i) (X D h0 (i + 1))) l) := fun l n p e => by
    obtain ⟨h1, h2⟩ := cut_some e
    rw [cut_lt h2]; exact hkeep n p h1
  have hcut : cut (merge ρ ρ' (X D h0 i) (X D h0 (i + 1))) (X D h0 (i + 1)) = ρ' := by
    funext n
    unfold cut merge
    by_cases c1 : n < X D h0 (i + 1)
    · rw [if_pos c1]
      by_cases c2 : X D h0 i ≤ n
      · rw [if_pos ⟨c2, c1⟩]
      · rw [if_neg (by omega)]
        have := hst.old n (by omega)
        rw [cut_lt (by omega)] at this
        exact this.symm
    · rw [if_neg c1]
      cases hr : ρ' n with
      | none => rfl
      | some p => exact absurd (hh.dom n p hr).1 c1
  have hnew : ∀ n p, merge ρ ρ' (X D h0 i) (X D h0 (i + 1)) n = some p → (mine D h0.nx n i ∧ ρ' n = some p) ∨ (¬ mine D h0.nx n i ∧ ρ n = some p) := fun n p e => by
    unfold merge at e
    split at e
    · rename_i c; exact .inl ⟨c, e⟩
    · rename_i c; exact .inr ⟨c, e⟩
  -- contents
  have contI : ∀ n, (mine D h0.nx n i ∨ n ∈ (D i).wr) → cont D h0 ops (addS S i) n = g' n := fun n hn => by
    unfold cont
    have hli : lookE n (D i).en = some (g' n) := by rw [hlook, if_pos hn]
    -- i is the last of its makers
    have hlast : ∀ k, addS S i k = true → (lookE n (D k).en).isSome = true → k ≤ i := fun k hk hl => by
      rcases (aS k).1 hk with rfl | hk
      · exact Nat.le_refl _
      · rcases hn with hn | hn
        · rcases (F.look (I.lt k hk)).1 hl with h | h
          · have := F.uniq (I.lt k hk) hi h hn; omega
          · have := F.wknows k (I.lt k hk) n i h hi hn
            have := I.closed k i hk this; rw [hS] at this; cases this
        · exact Nat.le_of_lt ((hwr n hn).2.2.2 k hk hl)
    rcases entR_find D (addS S i) n (baseAt h0 n) ops.size with ⟨h1, h2⟩ | ⟨k, o', h1, h2, h3, h4, h5⟩
    · have := h2 i hi ((aS i).2 (.inl rfl)); rw [hli] at this; cases this
    · have hk := hlast k h2 (by rw [h3]; rfl)
      by_cases c : k = i
      · subst c; rw [hli] at h3; cases h3; exact h4
      · have := h5 i (by omega) hi ((aS i).2 (.inl rfl)); rw [hli] at this; cases this
  have contO : ∀ n, ¬ (mine D h0.nx n i ∨ n ∈ (D i).wr) → cont D h0 ops (addS S i) n = cont D h0 ops S n := fun n hn => by
    unfold cont
    refine entR_congr fun k => ?_
    have hli : lookE n (D i).en = none := by rw [hlook, if_neg hn]
    constructor
    · rintro ⟨h1, h2, h3⟩
      rcases (aS k).1 h2 with rfl | h2
      · rw [hli] at h3; cases h3
      · exact ⟨h1, h2, h3⟩
    · rintro ⟨h1, h2, h3⟩; exact ⟨h1, (aS k).2 (.inr h2), h3⟩
  have ush : ∀ {x : Option AO}, unshared x = true → ∃ o, x = some o ∧ o.sh = false := fun {x} h => by
    unfold unshared at h
    split at h
    · rename_i sh; exact ⟨_, rfl, by simpa [AO.sh] using h⟩
    · exact ⟨_, rfl, rfl⟩
    · exact ⟨_, rfl, rfl⟩
    · cases h
  -- who is not written keeps its block
  have hblock : ∀ m q o', ρ m = some q → cont D h0 ops S m = some o' → m ∉ (D i).wr → w'.heap[q.b]? = w.heap[q.b]? := fun m q o' hq ho' hm => by
    refine hst.block q.b (I.dom m q hq).1 fun n p hn hlt hp hb => ?_
    have hnw := hL n hn hlt
    obtain ⟨o1, e1⟩ := Option.isSome_iff_exists.1 (hwr n hnw).2.2.1
    have hsep := I.sep n m p q o1 o' (fun c => hm (c ▸ hnw)) (cut_some hp).1 hq hb e1 ho'
    rcases hsh with hsh | hsh
    rotate_left
    · exact hm (hsh m q o' hq ho' hsep.2.2)
    obtain ⟨o1, e1, e2⟩ := ush (hsh n hnw)
    have := I.sep n m p q o1 o' (fun c => hm (c ▸ hnw)) (cut_some hp).1 hq hb e1 ho'
    rw [e2] at this; exact absurd this.2.1 (by simp)
  -- whose block it is
  let Mark : Nat → Prop := fun b => w.heap.size ≤ b ∨ ∃ m q o2, m ∈ (D i).wr ∧ ρ m = some q ∧ q.b = b ∧ cont D h0 ops S m = some o2 ∧ (o2.sh = false ∨ ∀ m q o', ρ m = some q → cont D h0 ops S m = some o' → o'.sh = true → m ∈ (D i).wr)
  have hfresh : ∀ n p, mine D h0.nx n i → ρ' n = some p → Mark p.b := fun n p hm hp' => by
    rcases hst.new n p hm.1 hp' with h | ⟨m, q, h1, h2, h3, h4⟩
    · exact .inl h
    · have hmw := hL m h1 h2
      rcases hsh with hsh | hsh
      · obtain ⟨o2, e1, e2⟩ := ush (hsh m hmw)
        exact .inr ⟨m, q, o2, hmw, (cut_some h3).1, h4, e1, .inl e2⟩
      · obtain ⟨o2, e1⟩ := Option.isSome_iff_exists.1 (hwr m hmw).2.2.1
        exact .inr ⟨m, q, o2, hmw, (cut_some h3).1, h4, e1, .inr hsh⟩
  -- a live name of the new set: of the step, or old and not written
  have live : ∀ n p o1, merge ρ ρ' (X D h0 i) (X D h0 (i + 1)) n = some p → cont D h0 ops (addS S i) n = some o1 →
      (ρ' n = some p ∧ g' n = some o1 ∧ Mark p.b) ∨ (n ∉ (D i).wr ∧ ρ n = some p ∧ cont D h0 ops S n = some o1 ∧ p.b < w.heap.size) := fun n p o1 e1 e2 => by
    rcases hnew n p e1 with ⟨h1, h2⟩ | ⟨h1, h2⟩
    · rw [contI n (.inl h1)] at e2
      exact .inl ⟨h2, e2, hfresh n p h1 h2⟩
    · by_cases c : n ∈ (D i).wr
      · rw [contI n (.inr c)] at e2
        have hlt := (hwr n c).1
        obtain ⟨o2, e3⟩ := Option.isSome_iff_exists.1 (hwr n c).2.2.1
        refine .inl ⟨?_, e2, .inr ⟨n, p, o2, c, h2, rfl, e3, ?_⟩⟩
        rotate_left
        · rcases hsh with hsh | hsh
          · have := hsh n c
            obtain ⟨o3, e5, e6⟩ := ush this
            rw [e3] at e5; cases e5; exact .inl e6
          · exact .inr hsh
        rw [hst.old n hlt, cut_lt hlt]; exact h2
      · rw [contO n (by rintro (x | x) <;> first | exact h1 x | exact c x)] at e2
        exact .inr ⟨c, h2, e2, (I.dom n p h2).1⟩
  -- the two never meet
  have apart : ∀ m q o2 b, Mark b → m ∉ (D i).wr → ρ m = some q → cont D h0 ops S m = some o2 → q.b = b → q.b < w.heap.size → False := fun m q o2 b hM hm hq hc hb hlt => by
    rcases hM with h | ⟨k, r, o3, h1, h2, h3, h4, h5⟩
    · omega
    · have := I.sep k m r q o3 o2 (fun c => hm (c ▸ h1)) h2 hq (h3.trans hb.symm) h4 hc
      rcases h5 with h5 | h5
      · rw [h5] at this; exact absurd this.2.1 (by simp)
      · exact hm (h5 m q o2 hq hc this.2.2)
  have putD : ∀ t, o.dst ≠ some t → (a.put o.dst y).tmps.getD t undef = a.tmps.getD t undef := fun t ht => by
    cases hd : o.dst with
    | none => rfl
    | some q =>
      have hq : q ≠ t := fun c => ht (by rw [hd, c])
      simp [Act.put, Array.getElem?_setIfInBounds_ne hq]
  have putS : ∀ t, o.dst = some t → (a.put o.dst y).tmps.getD t undef = y := fun t ht => by
    have := hdst t ht
    rw [ht]
    simp [Act.put, this]
  refine
    { lt := fun k hk => ?_, closed := fun k j hk hj => ?_, envS := fun t j hw hj => ?_, env0 := fun t hw => ?_, dom := fun n p e => ?_, old := fun n hn => ?_, dom0 := I.dom0, obj := fun n o1 hm hc => ?_, sep := fun n m p q o1 o2 hnm e1 e2 hb e3 e4 => ?_, tip := fun n m p q o1 o2 e1 e2 hb e3 e4 ht => ?_, one := fun n m p q o1 o2 hnm e1 e2 hb e3 e4 ht => ?_,
      size := Nat.le_trans I.size hst.size, os := hst.os.trans I.os, tape := hst.tape.trans I.tape, output := hst.output.trans I.output, fz := hh.fz, nf := fun n p e => (hnew n p e).elim (fun x => hh.nf n p x.2) (fun x => I.nf n p x.2), opn := I.opn, new := fun n p hn e => ?_, block := fun b hb hne => ?_, d := by rw [put_defers]; exact I.d, n := by rw [put_size]; exact I.n }
  · rcases (aS k).1 hk with rfl | hk
    · exact hi
    · exact I.lt k hk
  · rcases (aS k).1 hk with rfl | hk
    · exact (aS j).2 (.inr (hp j hj))
    · exact (aS j).2 (.inr (I.closed k j hk hj))
  · obtain ⟨oj, hoj, hdj⟩ := (F.ok.w t j).1 hw
    rcases (aS j).1 hj with rfl | hj
    · rw [ho] at hoj; cases hoj
      rw [putS t hdj, hcut]; exact hy
    · have hne : o.dst ≠ some t := fun c => by
        have := (F.ok.w t i).2 ⟨o, ho, c⟩
        rw [hw] at this; cases this; rw [hS] at hj; cases hj
      rw [putD t hne]
      exact (I.envS t j hw hj).mono (hsubc _)
  · have hne : o.dst ≠ some t := fun c => by
      have := hw i ((F.ok.w t i).2 ⟨o, ho, c⟩)
      rw [(aS i).2 (.inl rfl)] at this; cases this
    rw [putD t hne]
    refine I.env0 t fun j hj => ?_
    have := hw j hj
    cases hSj : S j with
    | false => rfl
    | true => rw [(aS j).2 (.inr hSj)] at this; cases this
  · rcases hnew n p e with ⟨h1, h2⟩ | ⟨h1, h2⟩
    · exact ⟨(hh.dom n p h2).2, .inr ⟨i, (aS i).2 (.inl rfl), h1⟩⟩
    · obtain ⟨h3, h4⟩ := I.dom n p h2
      refine ⟨Nat.lt_of_lt_of_le h3 hst.size, ?_⟩
      rcases h4 with h4 | ⟨j, h4, h5⟩
      · exact .inl h4
      · exact .inr ⟨j, (aS j).2 (.inr h4), h5⟩
  · rw [← I.old n hn]
    unfold merge
    rw [if_neg]
    exact notmine n (.inl hn)
  · by_cases c : mine D h0.nx n i ∨ n ∈ (D i).wr
    · rw [contI n c] at hc
      have hlt : n < X D h0 (i + 1) := by
        rcases c with c | c
        · exact c.2
        · exact Nat.lt_of_lt_of_le (hwr n c).1 hX
      rcases hh.obj0 n o1 hc hlt with ⟨p, h1, h2⟩ | ⟨h1, h2⟩
      rotate_left
      · refine .inr ⟨?_, h2⟩
        have := congrFun hcut n
        rw [cut_lt hlt] at this
        rw [this]; exact h1
      refine .inl ⟨p, X D h0 (i + 1), ?_, by rw [hcut]; exact h2, fun i' hi' hk => ?_⟩
      · have := congrFun hcut n
        rw [cut_lt hlt] at this
        rw [this]; exact h1
      · have := hk i ((aS i).2 (.inl rfl)) (by rw [hlook, if_pos c]; rfl)
        exact F.mono (by omega) hi'
    · rw [contO n c] at hc
      have hm' : Made D h0 S n := by
        rcases hm with hm | ⟨j, h1, h2⟩
        · exact .inl hm
        · rcases (aS j).1 h1 with rfl | h1
          · exact absurd (.inl h2) c
          · exact .inr ⟨j, h1, h2⟩
      rcases I.obj n o1 hm' hc with ⟨p, l, h1, h2, h3⟩ | ⟨h1, h2⟩
      rotate_left
      · refine .inr ⟨?_, h2⟩
        unfold merge
        rw [if_neg]
        · exact h1
        · exact fun x => c (.inl x)
      exact .inl ⟨p, l, hkeep n p h1, (h2.mono (hsubc l)).world (hblock n p o1 h1 hc (fun x => c (.inr x))), fun i' hi' hk => h3 i' hi' fun k hkS => hk k ((aS k).2 (.inr hkS))⟩
  · rcases live n p o1 e1 e3 with ⟨a1, a2, a3⟩ | ⟨a1, a2, a3, a4⟩ <;> rcases live m q o2 e2 e4 with ⟨b1, b2, b3⟩ | ⟨b1, b2, b3, b4⟩
    · exact hh.sep n m p q o1 o2 hnm a1 b1 hb a2 b2
    · exact (apart m q o2 _ a3 b1 b2 b3 hb.symm b4).elim
    · exact (apart n p o1 _ b3 a1 a2 a3 hb a4).elim
    · exact I.sep n m p q o1 o2 hnm a2 b2 hb a3 b3
  · rcases live n p o1 e1 e3 with ⟨a1, a2, a3⟩ | ⟨a1, a2, a3, a4⟩ <;> rcases live m q o2 e2 e4 with ⟨b1, b2, b3⟩ | ⟨b1, b2, b3, b4⟩
    · exact hh.tip n m p q o1 o2 a1 b1 hb a2 b2 ht
    · exact (apart m q o2 _ a3 b1 b2 b3 hb.symm b4).elim
    · exact (apart n p o1 _ b3 a1 a2 a3 hb a4).elim
    · exact I.tip n m p q o1 o2 a2 b2 hb a3 b3 ht
  · rcases live n p o1 e1 e3 with ⟨a1, a2, a3⟩ | ⟨a1, a2, a3, a4⟩ <;> rcases live m q o2 e2 e4 with ⟨b1, b2, b3⟩ | ⟨b1, b2, b3, b4⟩
    · exact hh.one n m p q o1 o2 hnm a1 b1 hb a2 b2 ht
    · exact (apart m q o2 _ a3 b1 b2 b3 hb.symm b4).elim
    · exact (apart n p o1 _ b3 a1 a2 a3 hb a4).elim
    · exact I.one n m p q o1 o2 hnm a2 b2 hb a3 b3 ht
  · have up : (w0.heap.size ≤ p.b ∨ ∃ m q j, S j = true ∧ m ∈ (D j).wr ∧ m < h0.nx ∧ ρ0 m = some q ∧ q.b = p.b) → w0.heap.size ≤ p.b ∨ ∃ m q j, addS S i j = true ∧ m ∈ (D j).wr ∧ m < h0.nx ∧ ρ0 m = some q ∧ q.b = p.b := by
      rintro (x | ⟨m, q, j, x1, x2⟩)
      · exact .inl x
      · exact .inr ⟨m, q, j, (aS j).2 (.inr x1), x2⟩
    rcases hnew n p e with ⟨h1, h2⟩ | ⟨h1, h2⟩
    · rcases hst.new n p h1.1 h2 with h | ⟨m, q, x1, x2, x3, x4⟩
      · exact .inl (Nat.le_trans I.size h)
      · have hmw := hL m x1 x2
        have hρm := (cut_some x3).1
        by_cases c : m < h0.nx
        · exact .inr ⟨m, q, i, (aS i).2 (.inl rfl), hmw, c, by rw [← I.old m c]; exact hρm, x4⟩
        · have := I.new m q (by omega) hρm
          rw [x4] at this
          exact up this
    · exact up (I.new n p hn h2)
  · rw [hst.block b (Nat.lt_of_lt_of_le hb I.size) ?_, I.block b hb fun n p j hj => hne n p j ((aS j).2 (.inr hj))]
    intro n p hn hlt hp' hbe
    have hnw := hL n hn hlt
    have hρn := (cut_some hp').1
    by_cases c : n < h0.nx
    · exact hne n p i ((aS i).2 (.inl rfl)) hnw c (by rw [← I.old n c]; exact hρn) hbe
    · rcases I.new n p (by omega) hρn with h | ⟨m, q, j, x1, x2, x3, x4, x5⟩
      · omega
      · exact hne m q j ((aS j).2 (.inr x1)) x2 x3 x4 (x5.trans hbe)
end

end Ev
end Go.Proofs.YtffcaapbmkaceaaDoor
