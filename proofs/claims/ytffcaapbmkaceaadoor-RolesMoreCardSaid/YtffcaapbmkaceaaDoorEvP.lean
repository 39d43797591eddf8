/- The evaluator's append, and what it makes. No condition. -/
import Derived.Test.YtffcaapbmkaceaaDoorEvO
namespace Go.Proofs.YtffcaapbmkaceaaDoor
namespace Ev
open Go.RowKit
set_option linter.unusedSectionVars false
variable [Fz]
variable {P : Program}

theorem HR.heap {ρ : Rho} {h : Hp} {w w' : World} (hh : HR ρ h w) (e : w'.heap = w.heap) : HR ρ h w' := HRel.world hh (by rw [e]; exact Nat.le_refl _) (fun _ _ _ => by rw [e]) (fun _ _ _ => by rw [e])

theorem zeroCells_size (z : Array Value) (n : Nat) : (Builtin.zeroCells z n).size = n * z.size := by simp [Builtin.zeroCells]

/-- An append that takes new memory. -/
theorem grow_new {st e ty : TypeId} {ts : Array TypeId} {inf : TypeInfo} {s x : AV} {base : Option Addr} {sLen sCap m xl : Nat} {xb : Option Addr} {old new zs : List AV} {ρ : Rho} {h h1 : Hp} {w : World} {L : List Nat} {fam : Nat} {sh : Bool}
    (hh : HR ρ h w) (hh1 : ∀ w', w'.heap = w.heap → HR ρ h1 w') (hst1 : Stepped ρ h.nx L w ρ h1.nx w) (hnx : h1.nx = h.nx) (hlg : h1.lg = L ++ h.lg)
    (hts : ts[0]? = some st) (hu : P.underlying st = some (.slice e)) (hi : P.info? e = some inf) (hz : noInt P ts)
    (hs : VRel ρ s (.slice base sLen sCap)) (hx : VRel ρ x (.slice xb m xl)) (hls : lenA s = some sLen) (hlx : lenA x = some m) (hold : rowA h inf.size s = some old) (hnew : rowA h inf.size x = some new) (hzero : zeroOf P e = some zs) (hzl : zs.length = inf.size)
    (hgt : sCap < sLen + m) (hb1 : sLen + m ≤ 1073741824) (hb2 : inf.bytes * (sLen + m) ≤ 1073741824) :
    ∃ ρ' w' y, (Builtin.append_ ts ty #[.slice base sLen sCap, .slice xb m xl]).run P w = .ok y w' ∧ VRel ρ' (.sl h.nx 0 (sLen + m) none) y ∧ HR ρ' (h1.new (.cells (old ++ new) inf.size fam true sh)) w' ∧
      Stepped ρ h.nx L w ρ' (h1.new (.cells (old ++ new) inf.size fam true sh)).nx w' ∧ (h1.new (.cells (old ++ new) inf.size fam true sh)).lg = L ++ h.lg := by
  obtain ⟨zv, hzr, hze⟩ := zeroOf_run hzero
  obtain ⟨YO, o1, o2, o3⟩ := rowA_run (P := P) hh hold hls hs
  obtain ⟨YN, n1, n2, n3⟩ := rowA_run (P := P) hh hnew hlx hx
  obtain ⟨c, hc, hrun⟩ := append_grow (P := P) (ty := ty) hts hu hi hz n3 o3 hzr hgt hb1 hb2
  generalize hC : YO.toArray ++ YN.toArray ++ Builtin.zeroCells zv.cells (c - (sLen + m)) = C at hrun
  have hzs : zv.cells.size = inf.size := by rw [← hzl, hze]; simp
  have hsz : C.size = c * inf.size := by
    subst hC
    simp only [Array.size_append, List.size_toArray, o2, n2, zeroCells_size, hzs]
    rw [← Nat.add_mul, ← Nat.add_mul]
    congr 1
    omega
  have hcells : ∀ (j : Nat) x, (old ++ new)[j]? = some x → ∃ y, C[j]? = some y ∧ VRel ρ x y := fun j x hj => by
    obtain ⟨y, hy, hr⟩ := (o1.append n1).get hj
    have hlt := (List.getElem?_eq_some_iff.1 hy).1
    refine ⟨y, ?_, hr⟩
    subst hC
    rw [Array.getElem?_append_left (by simpa using hlt)]
    simpa using hy
  have hf := (hh1 w.drew rfl).fresh hcells inf.size e fam true sh
  refine ⟨upd ρ h.nx ⟨w.heap.size, 0, inf.size, C.size⟩, _, _, hrun, ⟨_, c, upd_same _ _ _, ?_, hc, ?_, fun _ h => by cases h⟩, ?_, ?_, ?_⟩
  · simp
  · simp only [Nat.zero_add]; omega
  · unfold HR Hp.new
    rw [T.get_put, hnx]
    rw [hnx] at hf
    exact hf
  · have h2 := Stepped.fresh (ρ := ρ) (nx := h1.nx) (w := w.drew) (hh1 w.drew rfl).dm inf.size C.size (.cells C e (0, 0))
    have h3 := (hst1.drew).trans h2
    rw [hnx] at h3
    unfold Hp.new
    rw [hnx]
    simpa using h3
  · exact hlg

theorem OpOk.ofRun {s : World → Result Next} {ρ ρ' : Rho} {h h' : Hp} {w w' : World} {v : AV} {y : Value} {L : List Nat} (hr : s w = .ok (.value y) w') (h1 : VRel ρ' v y) (h2 : HR ρ' h' w') (h3 : Stepped ρ h.nx L w ρ' h'.nx w') (h4 : h'.lg = L ++ h.lg) : OpOk s ρ h w v h' :=
  ⟨ρ', w', y, L, .inl hr, h1, h2, h3, h4⟩

theorem appendA_run {st ty : TypeId} {ts : Array TypeId} {s x v : AV} {ys yx : Value} {ρ : Rho} {h h' : Hp} {w : World} (hh : HR ρ h w) (hs : VRel ρ s ys) (hx : VRel ρ x yx) (hts : ts[0]? = some st) (hz : noInt P ts) (ha : appendA P st s x h = some (v, h')) :
    ∃ ρ' w' y L, (Builtin.append_ ts ty #[ys, yx]).run P w = .ok y w' ∧ VRel ρ' v y ∧ HR ρ' h' w' ∧ Stepped ρ h.nx L w ρ' h'.nx w' ∧ h'.lg = L ++ h.lg := by
  unfold appendA at ha
  split at ha
  · rename_i e hu
    split at ha
    · rename_i inf m hi hlx
      split at ha
      · rename_i new old zs hnew hold hzero
        have hlsE : ∃ sLen, lenA s = some sLen := by
          unfold rowA at hold
          split at hold
          · exact ⟨0, rfl⟩
          · exact ⟨0, rfl⟩
          · exact ⟨_, rfl⟩
          · cases hold
        obtain ⟨sLen, hls⟩ := hlsE
        obtain ⟨base, sCap, rfl, hcap⟩ := lenA_rel hls hs
        obtain ⟨xb, xl, rfl, hxl⟩ := lenA_rel hlx hx
        obtain ⟨YN, n1, n2, n3⟩ := rowA_run (P := P) hh hnew hlx hx
        obtain ⟨YO, o1, o2, o3⟩ := rowA_run (P := P) hh hold hls hs
        cases hm0 : Nat.beq m 0 with
        | true =>
          have := beq0 hm0
          subst this
          simp only [hm0, cond_true, Option.some.injEq, Prod.mk.injEq] at ha
          obtain ⟨rfl, rfl⟩ := ha
          have hYN : YN = [] := by simpa using n2
          have hf := append_fit (P := P) (ty := ty) (k := inf.size) (base := base) (sLen := sLen) (sCap := sCap) hts hu hi hz (n3 w rfl) (by omega) rfl
          refine ⟨ρ, w, _, [], ?_, hs, hh, .refl hh.dm, rfl⟩
          rw [hf, hYN]
          cases base <;> simp [storeCells]
        | false =>
          have hmpos : 0 < m := by
            rcases Nat.eq_zero_or_pos m with c | c
            · subst c; simp at hm0
            · exact c
          simp only [hm0, cond_false, hls, Option.getD_some] at ha
          cases hc : ((Nat.beq zs.length inf.size && new.all AV.cell) && (small (m + sLen) && small (inf.bytes * (m + sLen)))) with
          | false => simp [hc] at ha
          | true =>
            simp only [hc, cond_true] at ha
            simp only [Bool.and_eq_true, small, Nat.ble_eq] at hc
            obtain ⟨⟨hzl, hcl⟩, hb1, hb2⟩ := hc
            have hzl := Nat.eq_of_beq_eq_true hzl
            have hb1' : sLen + m ≤ 1073741824 := by omega
            have hb2' : inf.bytes * (sLen + m) ≤ 1073741824 := by rw [Nat.add_comm sLen m]; exact hb2
            split at ha
            · rename_i n off len cap
              simp only [lenA, Option.some.injEq] at hls
              subst hls
              obtain ⟨p, q, hp, hye, hq1, hq2, hq3⟩ := hs
              cases hye
              split at ha
              · -- the mark, or new memory
                rename_i cs sz fam tip sh ho
                obtain ⟨p', hp', hpz, hple, C, eC, hb, hC, hcell⟩ := hh.obj n _ ho (hh.dm _ _ hp)
                rw [hp] at hp'; cases hp'
                cases hcd : (tip && Nat.beq ((off + len) * sz) cs.length) with
                | false => simp [hcd] at ha
                | true =>
                  simp only [hcd, cond_true, Option.some.injEq, Prod.mk.injEq] at ha
                  obtain ⟨rfl, rfl⟩ := ha
                  simp only [Bool.and_eq_true] at hcd
                  obtain ⟨rfl, hend⟩ := hcd
                  have hend := Nat.eq_of_beq_eq_true hend
                  -- the row's element size is the slice's
                  have hszE : sz = inf.size := by
                    simp only [rowA, ho] at hold
                    cases hbq : Nat.beq inf.size sz with
                    | false => simp [hbq] at hold
                    | true => exact (Nat.eq_of_beq_eq_true hbq).symm
                  subst hszE
                  have holdE : old = cs.drop (off * inf.size) := by
                    simp only [rowA, ho, Nat.beq_refl, cond_true] at hold
                    obtain ⟨h1, h2⟩ := window_some hold
                    rw [h1, List.take_of_length_le]
                    simp; rw [← hend, Nat.add_mul]; omega
                  have hut := hh.untip ho
                  have hput : ∀ o, (((h.put n (.cells cs inf.size fam false true)).log n).new o).ob.get = upd (upd h.ob.get n (.cells cs inf.size fam false true)) h.nx o := fun o => by
                    unfold Hp.new Hp.log Hp.put; simp only [T.get_put]
                  have hst1 : Stepped ρ h.nx [n] w ρ h.nx w := ⟨Nat.le_refl _, fun _ _ => rfl, fun k r hk e => absurd (hh.dm k r e) (by omega), Nat.le_refl _, rfl, rfl, rfl, fun _ _ _ => rfl⟩
                  by_cases hfit : len + m ≤ sCap
                  · -- where it lies
                    have hf := append_fit (P := P) (ty := ty) (k := inf.size) (base := some ⟨p.b, p.o + off * p.z, none⟩) (sLen := len) (sCap := sCap) hts hu hi hz (n3 w rfl) hfit rfl
                    have hone : ∀ y ∈ YN, y.oneCell' = true := cells_one hcl n1
                    have hq2' : p.o + (off + (len + m)) * inf.size ≤ p.s := by
                      have := Nat.mul_le_mul_right p.z (show off + (len + m) ≤ off + sCap by omega)
                      rw [hpz] at this hq2; omega
                    have hendm : (off + (len + m)) * inf.size = cs.length + m * inf.size := by rw [← hend, ← Nat.add_mul]; congr 1; omega
                    have hrow := run_storeCells_at P p.b (p.o + off * p.z + len * inf.size) eC YN 0 C w hb (by rw [n2, hpz, hC]; rw [Nat.add_mul, Nat.add_mul] at hq2'; omega) hone
                    simp only [Nat.add_zero] at hrow
                    generalize hC' : (C.toList.take (p.o + off * p.z + len * inf.size) ++ YN ++ C.toList.drop (p.o + off * p.z + len * inf.size + YN.length)).toArray = C' at hrow
                    have hoff0 : p.o + off * p.z + len * inf.size = p.o + cs.length := by rw [hpz, ← hend, Nat.add_mul]; omega
                    rw [hoff0] at hrow hC'
                    have hNl : new.length = m * inf.size := by rw [← n1.length]; exact n2
                    have hsz' : C'.size = C.size := by subst hC'; simp; omega
                    have hin := hh.inplace (C := C) (C' := C') (new := new) (off := off) ho hp hb (by rw [← hend]; exact Nat.mul_le_mul_right _ (by omega)) hsz' (by rw [hNl]; omega) (fun j hj => by
                      subst hC'
                      simp only [List.getElem?_toArray]
                      rw [List.append_assoc, List.getElem?_append_left (by simp; omega), List.getElem?_take_of_lt hj]
                      simp) (fun j x hj => by
                      obtain ⟨y, hy, hr⟩ := n1.get hj
                      have hlt := (List.getElem?_eq_some_iff.1 hy).1
                      refine ⟨y, ?_, hr⟩
                      subst hC'
                      simp only [List.getElem?_toArray]
                      rw [List.append_assoc, List.getElem?_append_right (by simp; omega), List.getElem?_append_left (by simp; omega)]
                      simp only [List.length_take, Array.length_toList]
                      rw [Nat.min_eq_left (by omega), show p.o + cs.length + j - (p.o + cs.length) = j by omega]
                      exact hy)
                    refine ⟨upd ρ h.nx ⟨p.b, p.o + off * inf.size, inf.size, p.s⟩, w.setRow p.b C', .slice (some ⟨p.b, p.o + off * p.z, none⟩) (len + m) sCap, [n], ?_, ?_, ?_, ?_, rfl⟩
                    · rw [hf]
                      simp only [add_at, hoff0, hrow, Result.andThen_ok]
                    · refine ⟨_, sCap, upd_same _ _ _, ?_, hfit, ?_, fun _ h => by cases h⟩
                      · simp [hpz]
                      · simp only [Nat.zero_add]; rw [hpz] at hq2; rw [Nat.add_mul] at hq2; omega
                    · unfold HR
                      rw [hput, holdE]
                      exact hin
                    · refine ⟨by simp [Hp.new, Hp.log, Hp.put], fun k hk => upd_ne _ _ (by omega), fun k r hk e => ?_, by simp, rfl, rfl, rfl, fun b hb' hne => setRow_other w p.b b C' (fun e => hne n p (by simp) (hh.dm _ _ hp) hp e.symm)⟩
                      by_cases ck : k = h.nx
                      · subst ck; rw [upd_same] at e; cases e; exact .inr ⟨n, p, by simp, hh.dm _ _ hp, hp, rfl⟩
                      · rw [upd_ne _ _ ck] at e; exact absurd (hh.dm k r e) (by omega)
                  · have hh1 : ∀ w', w'.heap = w.heap → HR ρ ((h.put n (.cells cs inf.size fam false true)).log n) w' := fun w' e => by
                      have := HR.heap (h := h) hh e
                      unfold HR Hp.log Hp.put
                      simp only [T.get_put]
                      exact HRel.untip this ho
                    obtain ⟨ρ', w', y, r1, r2, r3, r4, r5⟩ := grow_new (P := P) (ty := ty) (s := .sl n off len none) (x := x) (fam := fam) (sh := true) (sCap := sCap) (sLen := len) hh hh1 hst1 rfl rfl hts hu hi hz ⟨p, sCap, hp, rfl, hq1, hq2, hq3⟩ hx rfl hlx hold hnew hzero hzl (by omega) hb1' hb2'
                    exact ⟨ρ', w', y, [n], r1, r2, r3, r4, r5⟩
              · rename_i cs sz fam tip sh k ho
                cases hk : Nat.blt k (len + m) with
                | false => simp [hk] at ha
                | true =>
                  simp only [hk, cond_true, Option.some.injEq, Prod.mk.injEq] at ha
                  obtain ⟨rfl, rfl⟩ := ha
                  have hszE : sz = inf.size := by
                    simp only [rowA, ho] at hold
                    cases hbq : Nat.beq inf.size sz with
                    | false => simp [hbq] at hold
                    | true => exact (Nat.eq_of_beq_eq_true hbq).symm
                  subst hszE
                  have := hq3 k rfl
                  subst this
                  simp only [Nat.blt_eq] at hk
                  obtain ⟨ρ', w', y, r1, r2, r3, r4, r5⟩ := grow_new (P := P) (ty := ty) (s := .sl n off len (some sCap)) (x := x) (fam := h.nx) (sh := false) (sCap := sCap) (sLen := len) (L := []) hh (fun w' e => HR.heap (h := h) hh e) (.refl hh.dm) rfl rfl hts hu hi hz ⟨p, sCap, hp, rfl, hq1, hq2, hq3⟩ hx rfl hlx hold hnew hzero hzl (by omega) hb1' hb2'
                  exact ⟨ρ', w', y, [], r1, r2, r3, r4, r5⟩
              · cases ha
            · simp only [lenA, Option.some.injEq] at hls
              subst hls
              cases hs
              simp only [Option.some.injEq, Prod.mk.injEq] at ha
              obtain ⟨rfl, rfl⟩ := ha
              obtain ⟨ρ', w', y, r1, r2, r3, r4, r5⟩ := grow_new (P := P) (ty := ty) (s := .v (.slice none 0 0)) (x := x) (fam := h.nx) (sh := false) (sCap := 0) (sLen := 0) (L := []) hh (fun w' e => HR.heap (h := h) hh e) (.refl hh.dm) rfl rfl hts hu hi hz rfl hx rfl hlx hold hnew hzero hzl (by omega) hb1' hb2'
              simp only [rowA, Option.some.injEq] at hold
              subst hold
              simp only [Nat.zero_add, List.nil_append] at r2 r3 r4 r5
              exact ⟨ρ', w', y, [], r1, r2, r3, r4, r5⟩
            · simp only [lenA, Option.some.injEq] at hls
              subst hls
              have hs' := hs
              obtain ⟨a, k, hye, hk0⟩ := hs'
              have := hk0 rfl
              subst this
              cases hye
              simp only [Option.some.injEq, Prod.mk.injEq] at ha
              obtain ⟨rfl, rfl⟩ := ha
              obtain ⟨ρ', w', y, r1, r2, r3, r4, r5⟩ := grow_new (P := P) (ty := ty) (s := .none0 true) (x := x) (fam := h.nx) (sh := false) (sLen := 0) (L := []) hh (fun w' e => HR.heap (h := h) hh e) (.refl hh.dm) rfl rfl hts hu hi hz hs hx rfl hlx hold hnew hzero hzl (by omega) hb1' hb2'
              simp only [rowA, Option.some.injEq] at hold
              subst hold
              simp only [Nat.zero_add, List.nil_append] at r2 r3 r4 r5
              exact ⟨ρ', w', y, [], r1, r2, r3, r4, r5⟩
            · cases ha
      · cases ha
    · cases ha
  · cases ha

end Ev
end Go.Proofs.YtffcaapbmkaceaaDoor
