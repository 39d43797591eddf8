/- The evaluator's other operations, and all of them together. No condition. -/
import Derived.Laws.MakeOwn
import Derived.Laws.BytesArg
import Derived.Laws.StructEq
import Derived.ChangeKeysEq
import Derived.Test.YtffcaapbmkaceaaDoorEvH
import Derived.Great.FillDense
import Derived.Laws.Tables
namespace Go.Proofs.YtffcaapbmkaceaaDoor
namespace Ev
open Go.RowKit
set_option linter.unusedSectionVars false
variable [Fz]
variable {P : Program}

def PRels (ρ : Rho) : List (Nat × AV) → List (Nat × Value) → Prop
  | [], ys => ys = []
  | (i, x) :: r, ys => ∃ y s, ys = (i, y) :: s ∧ VRel ρ x y ∧ PRels ρ r s
theorem PRels.map {ρ : Rho} {f : Operand → AV} {g : Operand → Value} (h : ∀ x, VRel ρ (f x) (g x)) : ∀ (l : List (Nat × Operand)), PRels ρ (l.map fun (i, x) => (i, f x)) (l.map fun (i, x) => (i, g x))
  | [] => rfl
  | (_, x) :: r => ⟨g x, _, rfl, h x, PRels.map h r⟩

theorem VRels.splice {ρ : Rho} {cs ys : List AV} {C Y : List Value} (p : Nat) (h : VRels ρ cs C) (k : VRels ρ ys Y) : VRels ρ (Ev.splice cs p ys) (C.take p ++ Y ++ C.drop (p + Y.length)) := by
  unfold Ev.splice
  rw [k.length]
  exact ((h.take p).append k).append (h.drop _)

theorem fold_splice (off : Nat) (v C : Array Value) (h : off + v.size ≤ C.size) : (v.zipIdx.foldl (fun cs (c, j) => cs.setIfInBounds (off + j) c) C).toList = C.toList.take off ++ v.toList ++ C.toList.drop (off + v.toList.length) := by
  obtain ⟨h1, h2⟩ := Go.Great.foldl_set off v.toList 0 C
  have e : v.zipIdx.foldl (fun cs (c, j) => cs.setIfInBounds (off + j) c) C = (v.toList.zipIdx 0).foldl (fun cs (x : Value × Nat) => cs.setIfInBounds (off + x.2) x.1) C := by
    rw [← Array.foldl_toList]
    simp
  rw [e]
  apply List.ext_getElem?
  intro k
  have := h2 k
  rw [Array.getElem?_toList, this]
  simp only [Nat.add_zero]
  by_cases c1 : k < off
  · rw [if_neg (by omega), List.append_assoc, List.getElem?_append_left (by simp; omega), List.getElem?_take_of_lt c1]; simp
  · by_cases c2 : k < off + v.size
    · rw [if_pos (by simp; omega), List.append_assoc, List.getElem?_append_right (by simp; omega), List.getElem?_append_left (by simp; omega)]
      simp only [List.length_take, Array.length_toList, Nat.min_eq_left (show off ≤ C.size by omega)]
    · rw [if_neg (by simp; omega), List.getElem?_append_right (by simp; omega), List.getElem?_drop]
      simp only [List.length_append, List.length_take, Array.length_toList, Nat.min_eq_left (show off ≤ C.size by omega)]
      rw [show off + v.size + (k - (off + v.size)) = k by omega]
      simp

theorem fillA_rel {ρ : Rho} {place : Nat → Option (Nat × Nat)} : ∀ {parts : List (Nat × AV)} {cs cs' : List AV} {C : Array Value} {ps : List (Nat × Value)}, fillA place cs parts = some cs' → PRels ρ parts ps → VRels ρ cs C.toList → ∃ C', Instr.fill place C ps = some C' ∧ VRels ρ cs' C'.toList
  | [], cs, cs', C, ps, h, hp, hc => by simp only [fillA] at h; cases h; simp only [PRels] at hp; subst hp; exact ⟨C, rfl, hc⟩
  | (i, x) :: r, cs, cs', C, ps, h, ⟨y, s, e, hx, hr⟩, hc => by
    subst e
    simp only [fillA] at h
    split at h
    · rename_i off size hpl
      cases hb : (Nat.beq x.cells.length size && Nat.ble (off + size) cs.length) with
      | false => simp [hb] at h
      | true =>
        simp only [hb, cond_true] at h
        simp only [Bool.and_eq_true, Nat.ble_eq] at hb
        have hl := Nat.eq_of_beq_eq_true hb.1
        have hle := hb.2
        have hcr := cells_rel hx
        have hcl := hcr.length
        have hCl := hc.length
        simp only [Array.length_toList] at hcl hCl
        have hfs := fold_splice off y.cells C (by omega)
        obtain ⟨C', h1, h2⟩ := fillA_rel h hr (C := y.cells.zipIdx.foldl (fun cs (c, j) => cs.setIfInBounds (off + j) c) C) (by rw [hfs]; exact hc.splice off hcr)
        refine ⟨C', ?_, h2⟩
        unfold Instr.fill
        simp only [hpl]
        rw [if_neg (by simp; omega)]
        exact h1
    · cases h

theorem fillA_len {place : Nat → Option (Nat × Nat)} : ∀ {parts : List (Nat × AV)} {cs cs' : List AV}, fillA place cs parts = some cs' → cs'.length = cs.length
  | [], _, _, h => by simp only [fillA] at h; cases h; rfl
  | (i, x) :: r, cs, cs', h => by
    simp only [fillA] at h
    split at h
    · rename_i off size hpl
      cases hb : (Nat.beq x.cells.length size && Nat.ble (off + size) cs.length) with
      | false => simp [hb] at h
      | true =>
        simp only [hb, cond_true] at h
        simp only [Bool.and_eq_true, Nat.ble_eq] at hb
        have hl := Nat.eq_of_beq_eq_true hb.1
        rw [fillA_len h, splice_len (by omega)]
    · cases h

theorem placesA_eq : ∀ {fs : List Field} {pl : List (Nat × Nat)}, placesA P fs = some pl → fs.mapM (fun f => (P.info? f.type).map fun i => (f.offset, i.size)) = some pl
  | [], pl, h => by simp only [placesA] at h; cases h; rfl
  | f :: fs, pl, h => by
    simp only [placesA] at h
    split at h
    · rename_i k l hk hl
      cases h
      unfold szOf at hk
      cases hi : P.info? f.type with
      | none => simp [hi] at hk
      | some i => simp [hi] at hk; subst hk; simp [List.mapM_cons, hi, placesA_eq hl]
    · cases h

theorem buildA_run {t : TypeId} {parts : List (Nat × AV)} {ps : Array (Nat × Value)} {v : AV} {ρ : Rho} {w : World} (h : buildA P t parts = some v) (hp : PRels ρ parts ps.toList) : ∃ z, (Instr.build t ps).run P w = .ok z w ∧ VRel ρ v z := by
  unfold buildA at h
  split at h
  · rename_i zs fs hz hu
    split at h
    · rename_i pl hpl
      simp only [Option.map_eq_some_iff] at h
      obtain ⟨cs, hf, rfl⟩ := h
      unfold zeroOf at hz
      cases hi : P.info? t with
      | none => simp [hi] at hz
      | some it =>
        simp only [hi] at hz
        cases hzz : it.zero with
        | none => simp [hzz] at hz
        | some zv =>
          simp only [hzz, Option.some.injEq] at hz
          obtain ⟨C', h1, h2⟩ := fillA_rel (C := zv.cells) hf hp (by rw [← hz]; exact VRels.ofPlain _)
          have hb : P.built t ps.toList = some C' := by
            unfold Program.built
            simp only [hi, hu, hzz, placesA_eq hpl]
            simpa using h1
          exact ⟨_, run_build w t ps C' hb, by have := mkAgg_rel h2; simpa using this⟩
    · cases h
  · rename_i zs n e hz hu
    split at h
    · rename_i k hk
      simp only [Option.map_eq_some_iff] at h
      obtain ⟨cs, hf, rfl⟩ := h
      unfold zeroOf at hz
      unfold szOf at hk
      cases hi : P.info? t with
      | none => simp [hi] at hz
      | some it =>
        simp only [hi] at hz
        cases hie : P.info? e with
        | none => simp [hie] at hk
        | some ie =>
          simp only [hie, Option.map_some, Option.some.injEq] at hk
          subst hk
          cases hzz : it.zero with
          | none => simp [hzz] at hz
          | some zv =>
            simp only [hzz, Option.some.injEq] at hz
            obtain ⟨C', h1, h2⟩ := fillA_rel (C := zv.cells) hf hp (by rw [← hz]; exact VRels.ofPlain _)
            have hb : P.built t ps.toList = some C' := by
              unfold Program.built
              simp only [hi, hu, hzz, hie]
              exact h1
            exact ⟨_, run_build w t ps C' hb, by have := mkAgg_rel h2; simpa using this⟩
    · cases h
  · cases h

theorem repeat_rel {ρ : Rho} (z : Array Value) (zs : List AV) (hz : VRels ρ zs z.toList) (hpos : zs.length = z.size) : ∀ (n : Nat), VRels ρ (repeatA zs n) ((List.range (n * z.size)).map fun i => z[i % z.size]!)
  | 0 => by simp [repeatA, VRels]
  | n + 1 => by
    have ih := repeat_rel z zs hz hpos n
    have e : (List.range ((n + 1) * z.size)).map (fun i => z[i % z.size]!) = z.toList ++ (List.range (n * z.size)).map fun i => z[i % z.size]! := by
      rw [Nat.add_mul, Nat.one_mul, Nat.add_comm, List.range_add, List.map_append, List.map_map]
      congr 1
      · apply List.ext_getElem?
        intro k
        by_cases hk : k < z.size
        · simp [hk, Nat.mod_eq_of_lt hk]
        · simp [hk]
      · apply List.map_congr_left
        intro i _
        simp
    rw [e]
    exact hz.append ih

theorem buildSliceA_run {t : TypeId} {n : Nat} {parts : List (Nat × AV)} {ps : Array (Nat × Value)} {v : AV} {h h' : Hp} {ρ : Rho} {w : World} (hh : HR ρ h w) (hb : buildSliceA P t n parts h = some (v, h')) (hp : PRels ρ parts ps.toList) :
    ∃ ρ' w' y L, (Instr.buildSlice t n ps).run P w = .ok y w' ∧ VRel ρ' v y ∧ HR ρ' h' w' ∧ Stepped ρ h.nx L w ρ' h'.nx w' ∧ h'.lg = L ++ h.lg := by
  unfold buildSliceA at hb
  split at hb
  · rename_i e hu
    split at hb
    · rename_i k zs hk hz
      cases hc : (Nat.ble (n * k) 16777216 && Nat.beq zs.length k) with
      | false => simp [hc] at hb
      | true =>
        simp only [hc, cond_true, Option.map_eq_some_iff, Prod.mk.injEq] at hb
        obtain ⟨cs, hf, rfl, rfl⟩ := hb
        simp only [Bool.and_eq_true, Nat.ble_eq] at hc
        have hzl := Nat.eq_of_beq_eq_true hc.2
        obtain ⟨zv, hzr, hze⟩ := zeroOf_run hz
        have hzs : zv.cells.size = k := by rw [← hzl, hze]; simp
        have hrep := repeat_rel (ρ := ρ) zv.cells zs (by rw [hze]; exact VRels.ofPlain _) (by rw [hzs, hzl]) n
        obtain ⟨C', h1, h2⟩ := fillA_rel (C := (Array.range (n * k)).map fun i => zv.cells[i % zv.cells.size]!) hf hp (by rw [← hzs]; simpa using hrep)
        have hlen : cs.length = n * k := by
          have e1 := hrep.length
          have : cs.length = (repeatA zs n).length := fillA_len hf
          rw [this, ← e1]; simp [hzs]
        have hrun : (Instr.buildSlice t n ps).run P w = .ok (.slice (some ⟨w.heap.size, 0, none⟩) n n) (w.alloc (.cells C' e (0, 0))) := by
          have hng : ¬ (n * k > 2 ^ 24) := by have := hc.1; omega
          unfold Instr.buildSlice
          by_cases c : n * k = 0
          · have h1' : Instr.fill (fun i => some (i * k, k)) ((Array.range (n * k)).map fun x => (#[] : Array Value)[x % (#[] : Array Value).size]!) ps.toList = some C' := by rw [c] at h1 ⊢; simpa [show Array.range 0 = #[] from rfl] using h1
            simp only [Sem.run_bind, run_underlying hu, Result.andThen_ok, szOf_run hk, if_neg hng, if_pos c, Sem.run_pure, h1', newRow, run_newObj_alloc]
          · simp only [Sem.run_bind, run_underlying hu, Result.andThen_ok, szOf_run hk, if_neg hng, if_neg c, Sem.run_pure, hzr, h1, newRow, run_newObj_alloc]
        refine ⟨upd ρ h.nx ⟨w.heap.size, 0, k, C'.size⟩, _, _, [], hrun, ⟨_, n, upd_same _ _ _, ?_, Nat.le_refl _, ?_, fun c hc => by cases hc; rfl⟩, ?_, ?_, rfl⟩
        · simp
        · have := h2.length
          simp only [Array.length_toList] at this
          simp only [Nat.zero_add]; rw [this, hlen]; exact Nat.le_refl _
        · have := hh.fresh (cs := cs) (C := C') (fun j x hj => by obtain ⟨y, hy, hr⟩ := h2.get hj; exact ⟨y, by simpa using hy, hr⟩) k e h.nx true false
          unfold HR Hp.fresh Hp.new
          rw [T.get_put]
          exact this
        · exact Stepped.fresh hh.dm k C'.size _
    · cases hb
  · cases hb


theorem makeSliceA_run {t : TypeId} {l c v : AV} {yl yc : Value} {h h' : Hp} {ρ : Rho} {w : World} (hh : HR ρ h w) (hb : makeSliceA P t l c h = some (v, h')) (hl : VRel ρ l yl) (hc : VRel ρ c yc) :
    ∃ ρ' w' y L, (Instr.makeSlice t yl yc).run P w = .ok y w' ∧ VRel ρ' v y ∧ HR ρ' h' w' ∧ Stepped ρ h.nx L w ρ' h'.nx w' ∧ h'.lg = L ++ h.lg := by
  unfold makeSliceA at hb
  split at hb
  · rename_i e hu
    split at hb
    · rename_i i zs ki l kc c hi hz
      cases hl; cases hc
      rw [cond_eq_ite] at hb
      split at hb
      · rename_i hcd
        simp only [Bool.and_eq_true, decide_eq_true_eq] at hcd
        obtain ⟨⟨⟨c1, c2⟩, c3, c4⟩, c5⟩ := hcd
        have hzl := Nat.eq_of_beq_eq_true c5
        simp only [Option.some.injEq, Prod.mk.injEq] at hb
        obtain ⟨rfl, rfl⟩ := hb
        unfold zeroOf at hz
        rw [hi] at hz
        simp only [] at hz
        split at hz
        · rename_i zv hzv
          simp only [Option.some.injEq] at hz
          have hzs : zv.cells.size = i.size := by rw [← hzl, ← hz]; simp
          have hrep := repeat_rel (ρ := ρ) zv.cells zs (by rw [← hz]; exact VRels.ofPlain _) (by rw [hzs, hzl]) c.toNat
          have hrun := run_make (P := P) w t e i zv hu hi hzv ki kc l c c1 c2 c3 c4
          rw [← hzs] at hrun
          have hlen := hrep.length
          simp only [List.length_map, List.length_range] at hlen
          have hn : l.toNat ≤ c.toNat := by omega
          have hrep' : VRels ρ (repeatA zs c.toNat) (madeCells zv.cells (c.toNat * zv.cells.size)).toList := by unfold madeCells; simpa using hrep
          refine ⟨upd ρ h.nx ⟨w.heap.size, 0, i.size, (madeCells zv.cells (c.toNat * zv.cells.size)).size⟩, _, _, [], hrun, ⟨_, c.toNat, upd_same _ _ _, ?_, hn, ?_, fun c' hc => by cases hc; rfl⟩, ?_, ?_, rfl⟩
          · simp
          · simp only [size_madeCells, Nat.zero_add]; rw [hzs]; exact Nat.le_refl _
          · have := hh.fresh (cs := repeatA zs c.toNat) (C := madeCells zv.cells (c.toNat * zv.cells.size)) (fun j x hj => by obtain ⟨y, hy, hr⟩ := hrep'.get hj; exact ⟨y, by simpa using hy, hr⟩) i.size e h.nx true false
            unfold HR Hp.fresh Hp.new
            rw [T.get_put]
            exact this
          · exact Stepped.fresh hh.dm i.size _ _
        · cases hz
      · cases hb
    · cases hb
  · cases hb

theorem agg_of {x : AV} {y : Value} {ρ : Rho} (h : x.isAgg = true) (r : VRel ρ x y) : ∃ a, y = .agg a := by
  cases x with
  | v z => cases z <;> simp [AV.isAgg] at h; cases r; exact ⟨_, rfl⟩
  | s z => cases z <;> simp [AV.isAgg] at h; cases r; exact ⟨_, rfl⟩
  | agg cs => obtain ⟨ys, e, _⟩ := r; exact ⟨ys, e⟩
  | _ => simp [AV.isAgg] at h

theorem fieldVA_run {t : TypeId} {x v : AV} {y : Value} {f : Nat} {ρ : Rho} {w : World} (hx : VRel ρ x y) (h : fieldVA P t x f = some v) : ∃ z, (Instr.field t y f).run P w = .ok z w ∧ VRel ρ v z := by
  unfold fieldVA at h
  split at h
  · rename_i fs hu
    split at h
    · rename_i fd hfd
      split at h
      · rename_i k g hk hg
        cases ha : x.isAgg with
        | false => simp [ha] at h
        | true =>
          simp only [ha, cond_true] at h
          obtain ⟨a, rfl⟩ := agg_of ha hx
          have hc := cells_rel hx
          cases g with
          | true =>
            simp only [cond_true, Option.map_eq_some_iff] at h
            obtain ⟨xs, hw, rfl⟩ := h
            obtain ⟨e1, e2⟩ := window_some hw
            have := (hc.drop fd.offset).take k
            rw [← e1] at this
            refine ⟨.agg (a.extract fd.offset (fd.offset + k)), ?_, ?_⟩
            · simp [Instr.field, run_underlying hu, hfd, asAgg, part, aggT_run hg, szOf_run hk]
            · have h3 := mkAgg_rel this
              have e3 : a.extract fd.offset (fd.offset + k) = (((Value.agg a).cells.toList.drop fd.offset).take k).toArray := by
                apply Array.ext'
                simp [Value.cells, List.take_drop, Nat.add_comm]
              rw [e3]; exact h3
          | false =>
            simp only [cond_false] at h
            obtain ⟨z, hz, hr⟩ := hc.get h
            have hz' : a[fd.offset]? = some z := by simpa [Value.cells] using hz
            exact ⟨z, by simp [Instr.field, run_underlying hu, hfd, asAgg, part, aggT_run hg, hz'], hr⟩
      · cases h
    · cases h
  · cases h

theorem noIntB_ok {ts : Array TypeId} (h : noIntB P ts = true) : noInt P ts := by
  unfold noIntB at h
  unfold noInt
  split at h
  · rename_i e; simp [e]
  · rename_i x e
    simp only [e]
    split at h
    · cases h
    · rename_i d hn hd; exact ⟨d, hd, fun k hk => hn k hk⟩
    · cases h

theorem builtinA_run {b : Builtin} {ts : Array TypeId} {t : TypeId} {cn : Array Bool} {args : List AV} {ys : List Value} {v : AV} {ρ : Rho} {h h' : Hp} {w : World} (hh : HR ρ h w) (hr : VRels ρ args ys) (hb : builtinA P b ts t cn args h = some (.val v h')) :
    OpOk (fun w => (builtin b ts t cn ys.toArray).run P w) ρ h w v h' := by
  unfold builtinA at hb
  split at hb
  · rename_i s x
    split at hb
    · rename_i st hst
      cases hn : noIntB P ts with
      | false => simp [hn] at hb
      | true =>
        simp only [hn, cond_true, Option.map_eq_some_iff, Prod.exists, Stp.val.injEq] at hb
        obtain ⟨v', h'', ha, rfl, rfl⟩ := hb
        obtain ⟨y1, r1, rfl, hs, y2, r2, rfl, hx, hnil⟩ := hr
        simp only [VRels] at hnil
        subst hnil
        obtain ⟨ρ', w', y, L, a1, a2, a3, a4, a5⟩ := appendA_run (P := P) (ty := t) hh hs hx hst (noIntB_ok hn) ha
        exact .ofRun (by simp [builtin, a1]) a2 a3 a4 a5
    · cases hb
  · rename_i n off len cap
    split at hb
    · rename_i e he
      obtain ⟨y, r, rfl, ⟨p, k, hp, rfl, _⟩, hnil⟩ := hr
      simp only [VRels] at hnil
      subst hnil
      cases ht : ts[0]? with
      | none => simp [ht] at he
      | some t0 =>
        simp only [ht, Option.bind_some] at he
        cases hb; exact .same hh (by simp [builtin, Builtin.len_, ht, run_underlying he]) rfl
    · cases hb
  · rename_i n len
    split at hb
    · rename_i e he
      cases hb
      obtain ⟨y, r, rfl, hx, hnil⟩ := hr
      simp only [VRels] at hnil
      subst hnil
      obtain ⟨b, k, rfl, _⟩ := lenA_rel (x := .osl n len) rfl hx
      cases ht : ts[0]? with
      | none => simp [ht] at he
      | some t0 =>
        simp only [ht, Option.bind_some] at he
        exact .same hh (by simp [builtin, Builtin.len_, ht, run_underlying he]) rfl
    · cases hb
  · rename_i f len ks
    split at hb
    · rename_i e he
      cases hb
      obtain ⟨y, r, rfl, hx, hnil⟩ := hr
      simp only [VRels] at hnil
      subst hnil
      obtain ⟨b, k, rfl, _⟩ := lenA_rel (x := .fz f len ks) rfl hx
      cases ht : ts[0]? with
      | none => simp [ht] at he
      | some t0 =>
        simp only [ht, Option.bind_some] at he
        exact .same hh (by simp [builtin, Builtin.len_, ht, run_underlying he]) rfl
    · cases hb
  · split at hb
    · rename_i e he
      cases hb
      obtain ⟨y, r, rfl, hx, hnil⟩ := hr
      simp only [VRels] at hnil
      subst hnil
      obtain ⟨b, k, rfl, _⟩ := lenA_rel (x := .z0) rfl hx
      cases ht : ts[0]? with
      | none => simp [ht] at he
      | some t0 =>
        simp only [ht, Option.bind_some] at he
        exact .same hh (by simp [builtin, Builtin.len_, ht, run_underlying he]) rfl
    · cases hb
  · rename_i z
    split at hb
    · rename_i e he
      cases hb
      obtain ⟨y, r, rfl, ⟨a, k, rfl, _⟩, hnil⟩ := hr
      simp only [VRels] at hnil
      subst hnil
      cases ht : ts[0]? with
      | none => simp [ht] at he
      | some t0 =>
        simp only [ht, Option.bind_some] at he
        exact .same hh (by simp [builtin, Builtin.len_, ht, run_underlying he]) rfl
    · cases hb
  · rename_i n
    split at hb
    · rename_i kt et he
      split at hb
      · rename_i es clk ho
        cases hb
        obtain ⟨y, r, rfl, hx, hnil⟩ := hr
        simp only [VRels] at hnil
        subst hnil
        obtain ⟨p, E, hp, rfl, hbk, hE, _⟩ := map_at hh hx ho
        cases ht : ts[0]? with
        | none => simp [ht] at he
        | some t0 =>
          simp only [ht, Option.bind_some] at he
          have hl := hE.length
          simp only [Array.length_toList] at hl
          exact .same hh (by simp [builtin, Builtin.len_, ht, run_underlying he, run_getM hbk, hl]) rfl
      · cases hb
    · cases hb
  · rename_i n k
    split at hb
    · rename_i mt hmt
      simp only [Option.map_eq_some_iff, Stp.val.injEq] at hb
      obtain ⟨h'', hd, rfl, rfl⟩ := hb
      obtain ⟨y, r, rfl, hx, y2, r2, rfl, hk, hnil⟩ := hr
      simp only [VRels] at hnil
      subst hnil
      obtain ⟨w', L, a1, a2, a3, a4⟩ := mapDelA_run (P := P) (ty := t) hmt hh hx hk hd
      exact .ofRun (by simp [builtin, a1]) rfl a2 a3 a4
    · cases hb
  · split at hb
    · rename_i vs hvs
      have := plains_rel hvs hr
      subst this
      split at hb
      · rename_i u hu
        cases hb
        exact .same hh (pureRun_ok _ _ hu w) rfl
      · cases hb
    · split at hb
      · rename_i vs hvs
        have := unPs_rel hvs hr
        subst this
        split at hb
        · rename_i u hu
          cases hb
          exact .same hh (pureRun_ok _ _ hu w) rfl
        · cases hb
      · cases hb

theorem pureS_run {s : Sem Value} {h h' : Hp} {v : AV} {ρ : Rho} {w : World} (hh : HR ρ h w) (hp : pureS P s h = some (.val v h')) (r : World → Result Next) (hr : ∀ y, s.run P w = .ok y w → r w = .ok (.value y) w) : OpOk r ρ h w v h' := by
  unfold pureS at hp
  simp only [Option.map_eq_some_iff, Stp.val.injEq] at hp
  obtain ⟨y, hy, rfl, rfl⟩ := hp
  exact .same hh (hr y (pureRun_ok _ _ hy w)) rfl
theorem partA_run {t : TypeId} {xs : Array Value} {off : Nat} {v : Value} (h : partA P t xs off = some v) (w : World) : (part t xs off).run P w = .ok v w := by
  unfold partA at h
  split at h
  · rename_i hg
    simp only [Option.map_eq_some_iff] at h
    obtain ⟨k, hk, rfl⟩ := h
    simp [part, aggT_run hg, szOf_run hk, Sem.run_bind, Result.andThen]
  · rename_i hg
    simp [part, aggT_run hg, Sem.run_bind, Result.andThen, h]
  · cases h
theorem eqFs_run {q : TypeId → Value → Value → Option Bool} {d : Nat} (hq : ∀ t a b r, q t a b = some r → ∀ w, (Op.equalIn d t a b).run P w = .ok r w) {xs ys : Array Value} : ∀ {fs : List Field} {r : Bool}, eqFs P q xs ys fs = some r → ∀ w, (Op.eqFields d xs ys fs).run P w = .ok r w
  | [], r, h, w => by simp only [eqFs] at h; cases h; simp [Op.eqFields]
  | f :: fs, r, h, w => by
    simp only [eqFs, cond_eq_ite] at h
    split at h
    · rename_i hn
      have hn : f.name = "_" := by simpa using hn
      simp only [Op.eqFields, hn, ne_eq, not_true_eq_false, if_false]
      exact eqFs_run hq h w
    · rename_i hn
      have hn : ¬ f.name = "_" := by simpa using hn
      split at h
      · rename_i a b ha hb
        split at h
        · rename_i p s hp hs
          cases h
          simp only [Op.eqFields, ne_eq, hn, not_false_eq_true, if_true, Sem.run_bind, partA_run ha, partA_run hb, hq _ _ _ _ hp, Result.andThen_ok]
          cases p with
          | true => simpa using eqFs_run hq hs w
          | false => simp
        · cases h
      · cases h
theorem eqIs_run {q : Value → Value → Option Bool} {d : Nat} {e : TypeId} (hq : ∀ a b r, q a b = some r → ∀ w, (Op.equalIn d e a b).run P w = .ok r w) {xs ys : Array Value} : ∀ {is : List Nat} {r : Bool}, eqIs q (pairA P e xs ys) is = some r → ∀ w, (Op.eqItems d e (P.cellsOf e) xs ys is).run P w = .ok r w
  | [], r, h, w => by simp only [eqIs] at h; cases h; simp [Op.eqItems]
  | i :: is, r, h, w => by
    simp only [eqIs] at h
    split at h
    · rename_i a b hab
      split at h
      · rename_i p s hp hs
        cases h
        unfold pairA at hab
        split at hab
        · split at hab
          · rename_i a' b' ha hb
            cases hab
            simp only [Op.eqItems, Sem.run_bind, partA_run ha, partA_run hb, hq _ _ _ hp, Result.andThen_ok]
            cases p with
            | true => simpa using eqIs_run hq hs w
            | false => simp
          · cases hab
        · cases hab
      · cases h
    · cases h
theorem eqA_run : ∀ {d : Nat} {t : TypeId} {x y : Value} {r : Bool}, eqA P d t x y = some r → ∀ w, (Op.equalIn d t x y).run P w = .ok r w
  | 0, _, _, _, _, h, _ => by simp [eqA] at h
  | d + 1, t, x, y, r, h, w => by
    simp only [eqA] at h
    split at h
    · rename_i hu; cases h; simp [Op.equalIn, run_underlying hu, Sem.run_bind, Result.andThen]
    · rename_i k' k a k2 b hu
      rw [cond_eq_ite] at h
      split at h
      · rename_i hk
        cases h
        have : k = k2 := by simpa using hk
        subst this
        simp [Op.equalIn, run_underlying hu, Sem.run_bind, Result.andThen]
      · cases h
    · rename_i a b hu; cases h; exact run_equalIn_string w d t a b hu
    · rename_i fs xs ys hu
      rw [cond_eq_ite] at h
      split at h
      · cases h
      · rename_i hs
        have hs : P.stoodInHeld t = false := by simpa using hs
        have hf : P.fieldsOf t = fs := by simp [Program.fieldsOf, hu]
        rw [run_equalIn_struct w d t xs ys (by rw [hf]; exact hu) hs, hf]
        exact eqFs_run (fun t a b r h w => eqA_run h w) h w
    · rename_i n e xs ys hu
      rw [cond_eq_ite] at h
      split at h
      · rename_i hi
        obtain ⟨i, hi⟩ := Option.isSome_iff_exists.1 hi
        rw [run_equalIn_array w d xs ys hu hi]
        exact eqIs_run (fun a b r h w => eqA_run h w) h w
      · cases h
    · cases h
theorem binS_run {op : BinOp} {t : TypeId} {x y : Operand} {a b : Value} {h h' : Hp} {v : AV} {ρ : Rho} {w : World} (hh : HR ρ h w) (hb : binS P op t x y a b h = some (.val v h')) (r : World → Result Next) (hr : ∀ z, (do eqGuard op t x y a b; binOp op t a b : Sem Value).run P w = .ok z w → r w = .ok (.value z) w) : OpOk r ρ h w v h' := by
  unfold binS at hb
  split at hb
  · rename_i xs ys
    rw [cond_eq_ite] at hb
    split at hb
    · cases hb
    · rename_i hg
      have hg : P.eqGuardType P.depth t = false := by simpa using hg
      split at hb
      · rename_i q hq
        cases hb
        exact .same hh (hr _ (by rw [Sem.run_bind, run_eqGuard_agg w _ _ _ _ _ _ hg, Result.andThen_ok, run_eql_struct, eqA_run hq]; rfl)) rfl
      · rename_i q hq
        cases hb
        exact .same hh (hr _ (by rw [Sem.run_bind, run_eqGuard_agg w _ _ _ _ _ _ hg, Result.andThen_ok, run_neq_struct, eqA_run hq]; rfl)) rfl
      · cases hb
  · exact pureS_run hh hb r hr

theorem pureA_run {s : Sem Value} {h h' : Hp} {v : AV} {ρ : Rho} {w : World} (hh : HR ρ h w) (hp : pureA P s h = some (.val v h')) (r : World → Result Next) (hr : ∀ y, s.run P w = .ok y w → r w = .ok (.value y) w) : OpOk r ρ h w v h' := by
  unfold pureA at hp
  simp only [Option.map_eq_some_iff, Stp.val.injEq] at hp
  obtain ⟨y, hy, rfl, rfl⟩ := hp
  exact .same hh (hr y (pureRun_ok _ _ hy w)) rfl

theorem neq0 (n : Nat) {t : TypeId} {w : World} {e : TypeId} {x : Addr} (hu : P.underlying t = some (.pointer e)) : (Op.equalIn (n + 1) t (.pointer (some x)) (.pointer none)).run P w = .ok false w := by
  simp only [Op.equalIn, Sem.run_bind, run_underlying hu, Result.andThen_ok]; rfl
theorem neq1 (n : Nat) {t : TypeId} {w : World} {e : TypeId} {x : Addr} (hu : P.underlying t = some (.pointer e)) : (Op.equalIn (n + 1) t (.pointer none) (.pointer (some x))).run P w = .ok false w := by
  simp only [Op.equalIn, Sem.run_bind, run_underlying hu, Result.andThen_ok]; rfl
theorem neq2 (n : Nat) {t : TypeId} {w : World} {e : TypeId} {x : Addr} {l c l' c' : Nat} (hu : P.underlying t = some (.slice e)) : (Op.equalIn (n + 1) t (.slice (some x) l c) (.slice none l' c')).run P w = .ok false w := by
  simp only [Op.equalIn, Sem.run_bind, run_underlying hu, Result.andThen_ok]; rfl
theorem neq3 (n : Nat) {t : TypeId} {w : World} {e : TypeId} {x : Addr} {l c l' c' : Nat} (hu : P.underlying t = some (.slice e)) : (Op.equalIn (n + 1) t (.slice none l' c') (.slice (some x) l c)).run P w = .ok false w := by
  simp only [Op.equalIn, Sem.run_bind, run_underlying hu, Result.andThen_ok]; rfl
theorem neq4 (n : Nat) {t : TypeId} {w : World} {e : TypeId} {x : Addr} {l c l' c' : Nat} (hu : P.underlying t = some (.slice e)) : (Op.equalIn (n + 1) t (.slice (some x) l c) (.slice none l' c')).run P w = .ok false w := by
  simp only [Op.equalIn, Sem.run_bind, run_underlying hu, Result.andThen_ok]; rfl
theorem neq5 (n : Nat) {t : TypeId} {w : World} {e : TypeId} {x : Addr} {l c l' c' : Nat} (hu : P.underlying t = some (.slice e)) : (Op.equalIn (n + 1) t (.slice none l' c') (.slice (some x) l c)).run P w = .ok false w := by
  simp only [Op.equalIn, Sem.run_bind, run_underlying hu, Result.andThen_ok]; rfl
theorem neq6 (n : Nat) {t : TypeId} {w : World} {kt e : TypeId} {x : Nat} (hu : P.underlying t = some (.map kt e)) : (Op.equalIn (n + 1) t (.map (some x)) (.map none)).run P w = .ok false w := by
  simp only [Op.equalIn, Sem.run_bind, run_underlying hu, Result.andThen_ok]; rfl
theorem neq7 (n : Nat) {t : TypeId} {w : World} {kt e : TypeId} {x : Nat} (hu : P.underlying t = some (.map kt e)) : (Op.equalIn (n + 1) t (.map none) (.map (some x))).run P w = .ok false w := by
  simp only [Op.equalIn, Sem.run_bind, run_underlying hu, Result.andThen_ok]; rfl
theorem neq8 (n : Nat) {t : TypeId} {w : World} {ps rs : Array TypeId} {vr : Bool} {fn : Fn} {x y : Array Value} (hu : P.underlying t = some (.func ps rs vr)) : (Op.equalIn (n + 1) t (.func fn x y) (.nilFunc)).run P w = .ok false w := by
  simp only [Op.equalIn, Sem.run_bind, run_underlying hu, Result.andThen_ok]; rfl
theorem neq9 (n : Nat) {t : TypeId} {w : World} {ps rs : Array TypeId} {vr : Bool} {fn : Fn} {x y : Array Value} (hu : P.underlying t = some (.func ps rs vr)) : (Op.equalIn (n + 1) t (.nilFunc) (.func fn x y)).run P w = .ok false w := by
  simp only [Op.equalIn, Sem.run_bind, run_underlying hu, Result.andThen_ok]; rfl

theorem bytesL_rel {ρ : Rho} : ∀ {cs : List AV} {ys : List Value} {ns : List Int}, bytesL cs = some ns → VRels ρ cs ys → ys = ns.map (Value.int .u8)
  | [], ys, ns, h, r => by simp only [bytesL] at h; cases h; exact r
  | x :: cs, ys, ns, h, ⟨y, r, e, hx, hr⟩ => by
    unfold bytesL at h
    split at h
    · rename_i h1; cases h1
    · rename_i n r' h1
      cases h1
      simp only [Option.map_eq_some_iff] at h
      obtain ⟨ms, hm, rfl⟩ := h
      rw [e, bytesL_rel hm hr, show y = .int .u8 n from hx]
      rfl
    · cases h
theorem bytesA_run {s d : TypeId} {n off len : Nat} {cap : Option Nat} {y v : Value} {ρ : Rho} {h : Hp} {w : World} (hh : HR ρ h w) (hx : VRel ρ (.sl n off len cap) y) (hb : bytesA P s d (.sl n off len cap) h = some v) :
    (convert s d y).run P w = .ok v w := by
  unfold bytesA at hb
  split at hb
  · rename_i e hs hd
    split at hb
    · rename_i cs he hr
      simp only [Option.map_eq_some_iff] at hb
      obtain ⟨ns, hn, rfl⟩ := hb
      obtain ⟨ys, h1, h2, h3⟩ := rowA_run (P := P) hh hr (m := len) rfl hx
      obtain ⟨p, k, hp, rfl, _⟩ := hx
      have h4 := h3 w rfl
      rw [bytesL_rel hn h1] at h4
      simp only [Builtin.firstCells, Nat.mul_one] at h4
      rw [run_convert_bytes_string w s d e _ len k hs he hd, run_bytesToString w _ len k ns h4, foldl_push_bytes]
      simp [strA, ByteArray.empty, ByteArray.emptyWithCapacity]
      try rfl
    · cases hb
  · cases hb

theorem eqNil_run {t : TypeId} {d : TypeDesc} {neg : Bool} {x y : AV} {a b v : Value} {ρ : Rho} {w : World} {u1 u2 : Operand} (hu : P.underlying t = some d) (hx : VRel ρ x a) (hy : VRel ρ y b) (h : eqNil d neg x y = some v) :
    (do eqGuard (bif neg then .neq else .eql) t u1 u2 a b; binOp (bif neg then .neq else .eql) t a b : Sem Value).run P w = .ok v w := by
  unfold eqNil at h
  simp only [Option.map_eq_some_iff] at h
  obtain ⟨r, hr, rfl⟩ := h
  have key : ∀ (a b : Value), (∀ o, o = .eql ∨ o = .neq → eqGuard o t u1 u2 a b = pure ()) → binOp .eql t a b = (do pure (.bool (← Op.equal t a b))) → binOp .neq t a b = (do pure (.bool (!(← Op.equal t a b)))) → (Op.equal t a b).run P w = .ok false w →
      (do eqGuard (bif neg then .neq else .eql) t u1 u2 a b; binOp (bif neg then .neq else .eql) t a b : Sem Value).run P w = .ok (.bool (false != neg)) w := fun a b h1 h2 h3 h4 => by
    cases neg
    · simp [h1 .eql (.inl rfl), h2, h4]
    · simp [h1 .neq (.inr rfl), h3, h4]
  split at hr <;> cases hr
  · obtain ⟨p, hp, rfl⟩ := hx; cases hy
    exact key _ _ (fun o ho => by rcases ho with rfl | rfl <;> rfl) rfl rfl (neq0 9999 hu)
  · obtain ⟨p, hp, rfl⟩ := hy; cases hx
    exact key _ _ (fun o ho => by rcases ho with rfl | rfl <;> rfl) rfl rfl (neq1 9999 hu)
  · obtain ⟨p, k, hp, rfl, _⟩ := hx; cases hy
    exact key _ _ (fun o ho => by rcases ho with rfl | rfl <;> rfl) rfl rfl (neq2 9999 hu)
  · obtain ⟨p, k, hp, rfl, _⟩ := hy; cases hx
    exact key _ _ (fun o ho => by rcases ho with rfl | rfl <;> rfl) rfl rfl (neq3 9999 hu)
  · obtain ⟨q, k, rfl, _⟩ := hx; cases hy
    exact key _ _ (fun o ho => by rcases ho with rfl | rfl <;> rfl) rfl rfl (neq4 9999 hu)
  · obtain ⟨q, k, rfl, _⟩ := hy; cases hx
    exact key _ _ (fun o ho => by rcases ho with rfl | rfl <;> rfl) rfl rfl (neq5 9999 hu)
  · obtain ⟨_, hx⟩ := hx; unfold FzRel at hx; cases hy
    rcases hx with ⟨h0, _⟩ | ⟨b, o, k, C, e', fr, rfl, _⟩
    · cases h0
    · exact key _ _ (fun o ho => by rcases ho with rfl | rfl <;> rfl) rfl rfl (neq4 9999 hu)
  · obtain ⟨_, hy⟩ := hy; unfold FzRel at hy; cases hx
    rcases hy with ⟨h0, _⟩ | ⟨b, o, k, C, e', fr, rfl, _⟩
    · cases h0
    · exact key _ _ (fun o ho => by rcases ho with rfl | rfl <;> rfl) rfl rfl (neq5 9999 hu)
  · obtain ⟨p, hp, rfl⟩ := hx; cases hy
    exact key _ _ (fun o ho => by rcases ho with rfl | rfl <;> rfl) rfl rfl (neq6 9999 hu)
  · obtain ⟨p, hp, rfl⟩ := hy; cases hx
    exact key _ _ (fun o ho => by rcases ho with rfl | rfl <;> rfl) rfl rfl (neq7 9999 hu)
  · obtain ⟨ys, rfl, _⟩ := hx; cases hy
    exact key _ _ (fun o ho => by rcases ho with rfl | rfl <;> rfl) rfl rfl (neq8 9999 hu)
  · obtain ⟨ys, rfl, _⟩ := hy; cases hx
    exact key _ _ (fun o ho => by rcases ho with rfl | rfl <;> rfl) rfl rfl (neq9 9999 hu)

end Ev
end Go.Proofs.YtffcaapbmkaceaaDoor
