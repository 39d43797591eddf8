/- Any operation of the evaluator: those on lists too. No condition. -/
import Derived.Test.YtffcaapbmkaceaaDoorEvC
import Derived.Test.YtffcaapbmkaceaaDoorEvA
namespace Go.Proofs.YtffcaapbmkaceaaDoor
namespace Ev
open Go.RowKit
set_option linter.unusedSectionVars false
variable [Fz]
variable {P : Program}

theorem intA_rel {x : AV} {j : Int} {y : Value} {ρ : Rho} (h : intA x = some j) (r : VRel ρ x y) : ∃ k, y = .int k j := by
  unfold intA at h
  split at h
  · cases h; exact ⟨_, r⟩
  · cases h; exact ⟨_, r⟩
  · cases h
theorem intA_bound {x : Operand} {f : Operand → AV} {j : Int} {d : Nat} (h : intA (f x) = some j) (h0 : 0 ≤ j) : boundA d f (some x) = some j.toNat := by
  unfold intA at h
  unfold boundA
  simp only []
  split at h
  · rename_i k j' hx; cases h; rw [decide_eq_true h0]; rfl
  · rename_i k j' hx; cases h; rw [decide_eq_true h0]; rfl
  · cases h
theorem store_rows {t : TypeId} {n i c len k : Nat} {f : Nat → Nat → D} {ks : List TK} {ds : List D} {x : AV} {y u : Value} {ρ : Rho} {h : Hp} {w : World} (hh : HR ρ h w) (hx : VRel ρ (.ptr n i c) y) (hv : VRel ρ x u) (ho : h.ob.get n = some (.rows f len ks)) (hi : i < len) (hk : szOf P t = some k) (hd : avDs x.cells = some ds) (hl : ds.length = k) (hf : fitsD ((ks.drop c).take k) ds = true) :
    ∃ w' L, (Instr.storeAt t y u).run P w = .ok () w' ∧ HR ρ (h.set n (.rows (updD f i c ds) len ks)) w' ∧ Stepped ρ h.nx L w ρ (h.set n (.rows (updD f i c ds) len ks)).nx w' ∧ (h.set n (.rows (updD f i c ds) len ks)).lg = L ++ h.lg := by
  obtain ⟨p, hp, rfl⟩ := hx
  obtain ⟨hz1, ⟨hgc, hz2, hz3⟩, C, e, hb, hC, hcell⟩ := hh.objP hp ho
  have hc := cells_rel hv
  obtain ⟨U, hU⟩ : ∃ U, u.cells.toList = U := ⟨_, rfl⟩
  rw [hU] at hc
  obtain ⟨a1, a2⟩ := avDs_rel hd hc
  obtain ⟨f1, f2⟩ := fitsD_get hf
  simp only [List.length_take, List.length_drop] at f1
  have hck : c + k ≤ ks.length ∨ k = 0 := by omega
  have hY : U.length = k := by omega
  have hone : ∀ v ∈ U, v.oneCell' = true := by
    intro v hv
    obtain ⟨j, hj⟩ := List.getElem?_of_mem hv
    have hlt := (List.getElem?_eq_some_iff.1 hj).1
    have hlt' : j < ds.length := by omega
    obtain ⟨tk, _, g2⟩ := f2 j ds[j] (by simp [hlt'])
    exact fit_one g2 (a2 j _ v (by simp [hlt']) hj)
  have hin : (p.o + (i * ks.length + c) + k ≤ C.size ∧ c + k ≤ ks.length) ∨ k = 0 := by
    rcases hck with hck | hk0
    · have := Nat.mul_le_mul_right ks.length (show i + 1 ≤ len by omega)
      rw [Nat.add_mul] at this; left; omega
    · exact .inr hk0
  have hrow : (storeCells ⟨p.b, p.o + (i * ks.length + c), none⟩ U).run P w = .ok () (w.setRow p.b (C.toList.take (p.o + (i * ks.length + c)) ++ U ++ C.toList.drop (p.o + (i * ks.length + c) + U.length)).toArray) := by
    rcases hin with hin | hk0
    · have := run_storeCells_at P p.b (p.o + (i * ks.length + c)) e U 0 C w hb (by omega) hone
      simpa using this
    · have hnil : U = [] := List.length_eq_zero_iff.1 (by omega)
      rw [hnil]
      simp only [storeCells, List.append_nil, List.length_nil, Nat.add_zero, List.take_append_drop, Array.toArray_toList]
      rw [setRow_self w p.b C e (0, 0) hb]
      rfl
  generalize hC' : (C.toList.take (p.o + (i * ks.length + c)) ++ U ++ C.toList.drop (p.o + (i * ks.length + c) + U.length)).toArray = C' at hrow
  have hsz : C'.size = C.size := by
    subst hC'
    rcases hin with hin | hk0
    · simp only [List.size_toArray, List.length_append, List.length_take, List.length_drop, Array.length_toList]; omega
    · have hnil : U = [] := List.length_eq_zero_iff.1 (by omega)
      rw [hnil]; simp
  have hor : ORel ρ (.rows (updD f i c ds) len ks) p (w.setRow p.b C') := by
    refine ⟨hz1, ⟨hgc, hz2, hz3⟩, C', _, setRow_heap w p.b C C' _ _ hb, hsz.trans hC, fun i' c' hi' hc' => ?_⟩
    unfold updD
    cases hcond : (Nat.beq i' i && (Nat.ble c c' && Nat.blt c' (c + ds.length))) with
    | true =>
      simp only [Bool.and_eq_true, Nat.ble_eq, Nat.blt_eq] at hcond
      obtain ⟨e1, e2, e3⟩ := hcond
      have e1 := Nat.eq_of_beq_eq_true e1
      subst e1
      simp only [cond_true]
      have hlt : c' - c < ds.length := by omega
      obtain ⟨tk, g1, g2⟩ := f2 (c' - c) ds[c' - c] (by simp [hlt])
      have hd' : ds.getD (c' - c) (.v undef) = ds[c' - c] := by simp [List.getD_eq_getElem?_getD, hlt]
      rw [hd']
      rw [List.getElem?_take_of_lt (by omega), List.getElem?_drop, show c + (c' - c) = c' by omega] at g1
      have hlu : c' - c < U.length := by omega
      refine ⟨⟨tk, g1, g2⟩, U[c' - c], ?_, a2 (c' - c) ds[c' - c] U[c' - c] (by simp [hlt]) (by simp [hlu])⟩
      subst hC'
      rcases hin with hin | hk0
      · simp only [List.getElem?_toArray]
        rw [List.append_assoc, List.getElem?_append_right (by simp; omega), List.getElem?_append_left (by simp only [List.length_take, Array.length_toList]; omega)]
        simp only [List.length_take, Array.length_toList]
        rw [Nat.min_eq_left (by omega), show p.o + (i' * ks.length + c') - (p.o + (i' * ks.length + c)) = c' - c by omega]
        simp [hlu]
      · omega
    | false =>
      simp only [cond_false]
      obtain ⟨g1, z, g2, g3⟩ := hcell i' c' hi' hc'
      refine ⟨g1, z, ?_, g3⟩
      have hbd := (Array.getElem?_eq_some_iff.1 g2).1
      subst hC'
      rcases hin with hin | hk0
      · have hdis : i' * ks.length + c' < i * ks.length + c ∨ i * ks.length + c + k ≤ i' * ks.length + c' := by
          rcases Nat.lt_trichotomy i' i with hlt | rfl | hgt
          · left
            have := Nat.mul_le_mul_right ks.length (show i' + 1 ≤ i by omega)
            rw [Nat.add_mul] at this; omega
          · rw [show Nat.beq i' i' = true from Nat.beq_refl i'] at hcond
            rcases Nat.lt_or_ge c' c with h1 | h1
            · left; omega
            · right
              have : ¬ c' < c + ds.length := fun h2 => by
                have e1 : Nat.ble c c' = true := by simpa using h1
                have e2 : Nat.blt c' (c + ds.length) = true := by simpa using h2
                rw [e1, e2] at hcond; cases hcond
              omega
          · right
            have := Nat.mul_le_mul_right ks.length (show i + 1 ≤ i' by omega)
            rw [Nat.add_mul] at this; omega
        simp only [List.getElem?_toArray]
        rcases hdis with hd1 | hd1
        · rw [List.append_assoc, List.getElem?_append_left (by simp only [List.length_take, Array.length_toList]; omega), List.getElem?_take_of_lt (by omega)]
          simpa using g2
        · rw [List.getElem?_append_right (by simp only [List.length_append, List.length_take, Array.length_toList]; omega)]
          simp only [List.length_append, List.length_take, Array.length_toList]
          rw [List.getElem?_drop, Nat.min_eq_left (by omega), show p.o + (i * ks.length + c) + U.length + (p.o + (i' * ks.length + c') - (p.o + (i * ks.length + c) + U.length)) = p.o + (i' * ks.length + c') by omega]
          simpa using g2
      · have hnil : U = [] := List.length_eq_zero_iff.1 (by omega)
        rw [hnil]
        simpa using g2
  have hst := HRel.setObj (o' := .rows (updD f i c ds) len ks) hh hp ho rfl rfl (w' := w.setRow p.b C') (by simp) (fun b hb => setRow_other w p.b b C' hb) hor
  refine ⟨w.setRow p.b C', [n], ?_, ?_, ⟨Nat.le_refl _, fun _ _ => rfl, fun k q hk e => absurd (hh.dm k q e) (by simpa using hk), by simp, rfl, rfl, rfl, fun b hb' hne => setRow_other w p.b b C' (fun e => hne n p (by simp) (hh.dm _ _ hp) hp e.symm)⟩, rfl⟩
  · have hus : u.cells.size = k := by rw [← hY, ← hU]; simp
    simp [Instr.storeAt, Instr.sureAddr, storeVar, szOf_run hk, hus, hz1, hU, hrow]
  · unfold HR Hp.set Hp.log Hp.put
    rw [T.get_put]
    exact hst

/-- A part of a list. -/
theorem slice_run {t e : TypeId} {a : Option Addr} {lo hi : Option Operand} {l j : Int} {len q k : Nat} {f : Operand → AV} {g : Operand → Value} {r : Rho} {w : World} (hf : ∀ x, VRel r (f x) (g x)) (hu : P.underlying t = some (.slice e)) (hk : szOf P e = some k)
    (hl : (match lo with
        | none => some (0 : Int)
        | some l => intA (f l)) = some l) (hj : (match hi with
        | none => some (len : Int)
        | some hi => intA (f hi)) = some j) (h0 : 0 ≤ l) (h1 : l ≤ j) (h2 : j ≤ len) (hq : len ≤ q) :
    (Instr.sliceAt t (.slice a len q) (lo.map g) (hi.map g) none).run P w = .ok (.slice (if q = l.toNat then a else a.map (·.add (l.toNat * k))) (j - l).toNat (q - l.toNat)) w := by
  have b1 : boundA 0 f lo = some l.toNat := by
    cases lo with
    | none => simp only [Option.some.injEq] at hl; subst hl; rfl
    | some x => exact intA_bound hl h0
  have b2 : boundA len f hi = some j.toNat := by
    cases hi with
    | none => simp only [Option.some.injEq] at hj; subst hj; simp [boundA]
    | some x => exact intA_bound hj (by omega)
  have hrun := bounds_run (P := P) (r := r) (f := g) (lo := lo) (hi := hi) (mx := none) (m := q) (n := 0) (cap := q) hf b1 b2 (fun _ => rfl) (fun x h => by cases h) (by omega) (by omega) (Nat.le_refl _) true w
  simp only [Option.map_none] at hrun
  rw [show (j - l).toNat = j.toNat - l.toNat by omega]
  simp [Instr.sliceAt, Instr.slice, run_underlying hu, hrun, szOf_run hk]

theorem openL_val {f : Operand → AV} {g : Operand → Value} {o : Oper} {v : AV} {h h' : Hp} {ρ : Rho} {w : World} (hh : HR ρ h w) (hf : ∀ x, VRel ρ (f x) (g x)) (ha : openL P f o h = some (true, some (v, h'))) :
    OpOk (fun w => (execOp g o).run P w) ρ h w v h' := by
  obtain ⟨dst, op, ty, pos, after, guard⟩ := o
  unfold openL at ha
  cases op <;> simp only [] at ha <;> try (cases ha; done)
  case load t a =>
    split at ha
    · rename_i n i c hx
      split at ha
      · rename_i fd len ks ho
        simp only [Option.some.injEq, Prod.mk.injEq, Option.map_eq_some_iff, Nat.blt_eq] at ha
        obtain ⟨hi, z, hz, rfl, rfl⟩ := ha
        have hxa := hf a
        rw [hx] at hxa
        obtain ⟨p, hp, hga⟩ := hxa
        obtain ⟨hz1, ⟨hgc, _, _⟩, C, e, hb, _, hcell⟩ := hh.objP hp ho
        have hl := loadD_run (P := P) (ρ := ρ) hgc hb hi hcell hz
        refine .ofV (P := P) (m := Instr.loadAt t (g a)) hh (fun y hy => by simp [execOp, hy]) ?_
        rw [hga, hz1]
        exact hl
      · cases ha
    · cases ha
  case store t a x =>
    split at ha
    · rename_i n i c hx
      split at ha
      · rename_i fd len ks ho
        simp only [Option.some.injEq, Prod.mk.injEq, Nat.blt_eq] at ha
        obtain ⟨hi, ha⟩ := ha
        split at ha
        · rename_i k ds hk hds
          cases hc : (Nat.beq ds.length k && fitsD ((ks.drop c).take k) ds) with
          | false => rw [hc] at ha; cases ha
          | true =>
            rw [hc] at ha
            cases ha
            simp only [Bool.and_eq_true] at hc
            have hxa := hf a
            rw [hx] at hxa
            obtain ⟨w', L, a1, a2, a3, a4⟩ := store_rows (P := P) hh hxa (hf x) ho hi hk hds (Nat.eq_of_beq_eq_true hc.1) hc.2
            exact ⟨ρ, w', undef, L, .inr ⟨by simp [execOp, a1], rfl⟩, rfl, a2, a3, a4⟩
        · cases ha
      · cases ha
    · cases ha
  case indexAddr t x i =>
    split at ha
    · rename_i e j hu hj
      obtain ⟨kd, hgi⟩ := intA_rel hj (hf i)
      split at ha
      · rename_i k hk
        have hxx := hf x
        split at ha
        · rename_i n len hx
          rw [hx] at hxx
          split at ha
          · rename_i fd len' ks ho
            cases hc : Nat.beq ks.length k with
            | false => rw [hc] at ha; cases ha
            | true =>
              rw [hc] at ha
              simp only [cond_true, Option.some.injEq, Prod.mk.injEq, Bool.and_eq_true, decide_eq_true_eq] at ha
              obtain ⟨⟨h1, h2⟩, rfl, rfl⟩ := ha
              rcases hxx with ⟨hgc, ⟨hl, _⟩ | ⟨p, q, hp, hgx, hq, _⟩⟩
              · omega
              · have hz := (hh.objP hp ho).1
                have hck := Nat.eq_of_beq_eq_true hc
                refine .ofV (P := P) (m := Instr.indexAt t (g x) (g i)) hh (fun y hy => by simp [execOp, hy]) ⟨_, ?_, ⟨p, hp, rfl⟩⟩
                rw [hgx, hgi]
                simp [Instr.indexAt, run_underlying hu, asIntOf, h1, h2, szOf_run hk, add_at, hz, hck]
          · cases ha
        · rename_i fd len ks hx
          rw [hx] at hxx
          cases hc : Nat.beq ks.length k with
          | false => rw [hc] at ha; cases ha
          | true =>
            rw [hc] at ha
            simp only [cond_true, Option.some.injEq, Prod.mk.injEq, Bool.and_eq_true, decide_eq_true_eq] at ha
            obtain ⟨⟨h1, h2⟩, rfl, rfl⟩ := ha
            obtain ⟨hgc, hxx⟩ := hxx
            unfold FzRel at hxx
            rcases hxx with ⟨hl, _⟩ | ⟨b, o, q, C, e', fr, hgx, hq, r1, r2, r3⟩
            · omega
            · have hck := Nat.eq_of_beq_eq_true hc
              refine .ofV (P := P) (m := Instr.indexAt t (g x) (g i)) hh (fun y hy => by simp [execOp, hy]) ⟨_, ?_, ⟨hgc, b, o, ⟨C, e', fr, r1, r2, r3⟩, by omega, rfl⟩⟩
              rw [hgx, hgi]
              simp [Instr.indexAt, run_underlying hu, asIntOf, h1, h2, szOf_run hk, add_at, hck]
        · cases ha
      · cases ha
    · cases ha
  case slice t x lo hi mx =>
    cases mx with
    | some m => cases ha
    | none =>
      simp only [] at ha
      split at ha
      · rename_i e hu
        split at ha
        · rename_i k l hk hl
          have hxx := hf x
          split at ha
          · rename_i n len hx
            rw [hx] at hxx
            split at ha
            · rename_i hi' 
              split at ha
              · rename_i j fd len' ks hj ho
                cases hc : Nat.beq ks.length k with
                | false => rw [hc] at ha; cases ha
                | true =>
                  rw [hc] at ha
                  simp only [cond_true, Option.some.injEq, Prod.mk.injEq, Bool.and_eq_true, decide_eq_true_eq] at ha
                  obtain ⟨⟨h1, h2⟩, rfl, rfl⟩ := ha
                  simp only [Option.some.injEq] at hl
                  subst hl
                  have run : ∀ a q, g x = .slice a len q → len ≤ q → (execOp g ⟨dst, .slice t x none (some hi') none, ty, pos, after, guard⟩).run P w = .ok (.value (.slice a j.toNat q)) w := fun a q e1 e2 => by
                    have := slice_run (P := P) (a := a) (lo := none) (hi := some hi') (l := 0) (j := j) (w := w) hf hu hk rfl hj (Int.le_refl _) h1 h2 e2
                    simp only [Option.map_none, Option.map_some] at this
                    simp only [execOp, e1, Sem.run_bind, this, Result.andThen_ok, Option.map_none, Option.map_some]
                    cases a <;> simp [Addr.add]
                  rcases hxx with ⟨hgc, ⟨hl0, a, hgx⟩ | ⟨p, q, hp, hgx, hq, hs⟩⟩
                  · subst hl0
                    exact .same hh (run a 0 hgx (Nat.le_refl _)) ⟨hgc, .inl ⟨by omega, a, by rw [show j.toNat = 0 by omega]⟩⟩
                  · exact .same hh (run _ q hgx hq) ⟨hgc, .inr ⟨p, q, hp, rfl, by omega, hs⟩⟩
              · cases ha
            · simp only [Option.some.injEq, Prod.mk.injEq] at ha
              obtain ⟨_, rfl, rfl⟩ := ha
              simp only [Option.some.injEq] at hl
              subst hl
              have run : ∀ a q, g x = .slice a len q → len ≤ q → (execOp g ⟨dst, .slice t x none none none, ty, pos, after, guard⟩).run P w = .ok (.value (.slice a len q)) w := fun a q e1 e2 => by
                have := slice_run (P := P) (a := a) (lo := none) (hi := none) (l := 0) (j := len) (w := w) hf hu hk rfl rfl (Int.le_refl _) (by omega) (Int.le_refl _) e2
                simp only [Option.map_none] at this
                simp only [execOp, e1, Sem.run_bind, this, Result.andThen_ok, Option.map_none]
                cases a <;> simp [Addr.add]
              rcases hxx with ⟨hgc, ⟨hl0, a, hgx⟩ | ⟨p, q, hp, hgx, hq, hs⟩⟩
              · subst hl0
                exact .same hh (run a 0 hgx (Nat.le_refl _)) ⟨hgc, .inl ⟨rfl, a, rfl⟩⟩
              · exact .same hh (run _ q hgx hq) ⟨hgc, .inr ⟨p, q, hp, rfl, hq, hs⟩⟩
            · cases ha
          · rename_i fd len ks hx
            rw [hx] at hxx
            split at ha
            · rename_i j hj
              cases hc : Nat.beq ks.length k with
              | false => rw [hc] at ha; cases ha
              | true =>
                rw [hc] at ha
                simp only [cond_true, Option.some.injEq, Prod.mk.injEq, Bool.and_eq_true, decide_eq_true_eq] at ha
                obtain ⟨⟨⟨h0, h1⟩, h2⟩, rfl, rfl⟩ := ha
                have hck := Nat.eq_of_beq_eq_true hc
                have run : ∀ a q, g x = .slice a len q → len ≤ q → (execOp g ⟨dst, .slice t x lo hi none, ty, pos, after, guard⟩).run P w = .ok (.value (.slice (if q = l.toNat then a else a.map (·.add (l.toNat * k))) (j - l).toNat (q - l.toNat))) w := fun a q e1 e2 => by
                  have := slice_run (P := P) (a := a) (lo := lo) (hi := hi) (w := w) hf hu hk hl hj h0 h1 h2 e2
                  simp [execOp, e1, this]
                obtain ⟨hgc, hxx⟩ := hxx
                unfold FzRel at hxx
                rcases hxx with ⟨hl0, a, q, hgx, hq0⟩ | ⟨b, o, q, C, e', fr, hgx, hq, r1, ⟨r2, r2'⟩, r3⟩
                · subst hl0
                  refine .same hh (run a q hgx (Nat.zero_le _)) ?_
                  have e0 : (j - l).toNat = 0 := by omega
                  rw [e0]
                  refine ⟨hgc, ?_⟩
                  unfold FzRel
                  refine .inl ⟨rfl, _, _, rfl, fun e1 => ?_⟩
                  cases a with
                  | none => have := hq0 rfl; omega
                  | some a => split at e1 <;> cases e1
                · refine .same hh (run _ q hgx hq) ?_
                  refine ⟨hgc, ?_⟩
                  unfold FzRel
                  rcases Nat.eq_zero_or_pos (j - l).toNat with e0 | e0
                  · rw [e0]; refine .inl ⟨rfl, _, _, rfl, fun e1 => ?_⟩; split at e1 <;> cases e1
                  · refine .inr ⟨b, o + l.toNat * ks.length, q - l.toNat, C, e', fr, ?_, by omega, r1, ⟨?_, by omega⟩, fun i c hi hc => ?_⟩
                    · rw [if_neg (by omega)]
                      simp [add_at, hck]
                    · have := Nat.mul_le_mul_right ks.length (show l.toNat + (j - l).toNat ≤ len by omega)
                      rw [Nat.add_mul] at this; omega
                    · obtain ⟨g1, z, g2, g3⟩ := r3 (i + l.toNat) c (by omega) hc
                      refine ⟨g1, z, ?_, g3⟩
                      rw [show o + l.toNat * ks.length + (i * ks.length + c) = o + ((i + l.toNat) * ks.length + c) by rw [Nat.add_mul]; omega]
                      exact g2
            · cases ha
          · cases ha
        · cases ha
      · cases ha
  case call c =>
    split at ha
    · rename_i hb
      split at ha
      · rename_i s x st hm hts
        cases hn : noIntB P c.argTypes with
        | false => rw [hn] at ha; cases ha
        | true =>
          rw [hn] at ha
          simp only [cond_true] at ha
          have hr := maps_rel hf c.args.toList
          rw [hm] at hr
          obtain ⟨y1, r1, e1, hs, y2, r2, e2, hx, hnil⟩ := hr
          simp only [VRels] at hnil
          subst hnil
          subst e2
          obtain ⟨ρ', w', y, L, a1, a2, a3, a4, a5⟩ := appendR_run (P := P) (ty := ty) hh hs hx hts (noIntB_ok hn) ha
          refine ⟨ρ', w', y, L, .inl ?_, a2, a3, a4, a5⟩
          have em : c.args.map g = #[y1, y2] := by apply Array.ext'; simpa using e1
          simp [execOp, resolve, hb, invoke, em, builtin, a1]
      · cases ha
    · cases ha

theorem strB_rel {x : AV} {s : ByteArray} {y : Value} {ρ : Rho} (h : strB x = some s) (r : VRel ρ x y) : y = .string s := by
  unfold strB at h
  split at h
  · cases h; exact r
  · cases h; exact r
  · cases h
theorem openS_val {f : Operand → AV} {g : Operand → Value} {o : Oper} {v : AV} {h h' : Hp} {ρ : Rho} {w : World} (hh : HR ρ h w) (hf : ∀ x, VRel ρ (f x) (g x)) (ha : openS P f o h = some (true, some (v, h'))) :
    OpOk (fun w => (execOp g o).run P w) ρ h w v h' := by
  obtain ⟨dst, op, ty, pos, after, guard⟩ := o
  unfold openS at ha
  cases op <;> simp only [] at ha <;> try (cases ha; done)
  case index t x i =>
    split at ha
    · rename_i s j hu hs hj
      obtain ⟨kd, hgi⟩ := intA_rel hj (hf i)
      have hgx := strB_rel hs (hf x)
      cases hb : ((f x).isS || (f i).isS) with
      | false => rw [hb] at ha; cases ha
      | true =>
        rw [hb] at ha
        simp only [cond_true, Option.some.injEq, Prod.mk.injEq, Bool.and_eq_true, decide_eq_true_eq] at ha
        obtain ⟨⟨h1, h2⟩, rfl, rfl⟩ := ha
        have hlt : j.toNat < s.size := by omega
        refine .ofV (P := P) (m := Instr.index t (g x) (g i)) hh (fun y hy => by simp [execOp, hy]) ⟨.int .u8 (byteAt s j.toNat), ?_, rfl⟩
        rw [hgx, hgi]
        have e1 : s[j.toNat]? = some s[j.toNat] := by simp [hlt]
        have hlt' : j.toNat < s.data.size := hlt
        have e2 : byteAt s j.toNat = (s[j.toNat].toNat : Int) := by
          unfold byteAt
          rw [Array.getD_eq_getD_getElem?, Array.getElem?_eq_getElem hlt']
          rfl
        rw [e2]
        simp [Instr.index, run_underlying hu, asIntOf, h1, e1]
    · cases ha
  case slice t x lo hi mx =>
    cases mx with
    | some m => cases ha
    | none =>
      simp only [] at ha
      split at ha
      · rename_i s hu hs
        have hgx := strB_rel hs (hf x)
        cases hb : ((f x).isS || (optS f lo || optS f hi)) with
        | false => rw [hb] at ha; cases ha
        | true =>
          rw [hb] at ha
          simp only [cond_true] at ha
          split at ha
          · rename_i l j hl hj
            simp only [Option.some.injEq, Prod.mk.injEq, Bool.and_eq_true, decide_eq_true_eq] at ha
            obtain ⟨⟨⟨h0, h1⟩, h2⟩, rfl, rfl⟩ := ha
            have b1 : boundA 0 f lo = some l.toNat := by
              cases lo with
              | none => simp only [Option.some.injEq] at hl; subst hl; rfl
              | some x => exact intA_bound hl h0
            have b2 : boundA s.size f hi = some j.toNat := by
              cases hi with
              | none => simp only [Option.some.injEq] at hj; subst hj; simp [boundA]
              | some x => exact intA_bound hj (by omega)
            have hrun := bounds_run (P := P) (r := ρ) (f := g) (lo := lo) (hi := hi) (mx := none) (m := s.size) (n := 0) (cap := s.size) hf b1 b2 (fun _ => rfl) (fun x h => by cases h) (by omega) (by omega) (Nat.le_refl _) false w
            simp only [Option.map_none] at hrun
            exact .same (y := .string (s.extract l.toNat j.toNat)) hh (by simp [execOp, hgx, Instr.sliceAt, Instr.slice, run_underlying hu, hrun]) rfl
          · cases ha
      · cases ha
theorem openA_val {f : Operand → AV} {g : Operand → Value} {o : Oper} {v : AV} {h h' : Hp} {ρ : Rho} {w : World} (hh : HR ρ h w) (hf : ∀ x, VRel ρ (f x) (g x)) (ha : openA P f o h = some (true, some (v, h'))) :
    OpOk (fun w => (execOp g o).run P w) ρ h w v h' := by
  unfold openA at ha
  split at ha
  · rename_i r hr
    exact openS_val hh hf (hr.trans ha)
  · exact openL_val hh hf ha

theorem aop_val {f : Operand → AV} {g : Operand → Value} {o : Oper} {v : AV} {h h' : Hp} {ρ : Rho} {w : World} (hh : HR ρ h w) (hf : ∀ x, VRel ρ (f x) (g x)) (ha : aop P f o h = some (.val v h')) :
    OpOk (fun w => (execOp g o).run P w) ρ h w v h' := by
  unfold aop at ha
  split at ha
  · rename_i b r ho
    cases b with
    | false => cases ha
    | true =>
      simp only [cond_true, Option.map_eq_some_iff, Prod.exists, Stp.val.injEq] at ha
      obtain ⟨v', h'', rfl, rfl, rfl⟩ := ha
      exact openA_val hh hf ho
  · exact aopC_val hh hf ha
theorem aop_notC {f : Operand → AV} {o : Oper} {h : Hp} {s : Stp} (ha : aop P f o h = some s) (hs : ∀ v h', s ≠ .val v h') : aopC P f o h = some s := by
  unfold aop at ha
  split at ha
  · rename_i b r ho
    cases b with
    | false => cases ha
    | true =>
      simp only [cond_true, Option.map_eq_some_iff] at ha
      obtain ⟨x, _, rfl⟩ := ha
      exact absurd rfl (hs _ _)
  · exact ha
theorem aop_call {f : Operand → AV} {g : Operand → Value} {o : Oper} {fid : FuncId} {args : List AV} {h h' : Hp} {ρ : Rho} (hf : ∀ x, VRel ρ (f x) (g x)) (ha : aop P f o h = some (.call fid args h')) :
    h' = h ∧ ∃ ys : Array Value, VRels ρ args ys.toList ∧ ∀ w, (execOp g o).run P w = (callFunc fid ys).run P w :=
  aopC_call hf (aop_notC ha fun _ _ e => by cases e)
theorem aop_yield {f : Operand → AV} {g : Operand → Value} {o : Oper} {n : Nat} {args : List AV} {h h' : Hp} {ρ : Rho} (hf : ∀ x, VRel ρ (f x) (g x)) (ha : aop P f o h = some (.yield n args h')) :
    h' = h ∧ ∃ (ys : Array Value) (p : Pl), VRels ρ args ys.toList ∧ ρ n = some p ∧ ∀ w, (execOp g o).run P w = (Instr.yield p.b ys).run P w :=
  aopC_yield hf (aop_notC ha fun _ _ e => by cases e)

end Ev
end Go.Proofs.YtffcaapbmkaceaaDoor
