/- The evaluator's other operations, and all of them together. No condition. -/
import Derived.Laws.MakeOwn
import Derived.Laws.BytesArg
import Derived.Laws.StructEq
import Derived.ChangeKeysEq
import Derived.Test.YtengccmjlaejfaaMg4
import Derived.Great.FillDense
import Derived.Laws.Tables
import Derived.Test.YtengccmjlaejfaaEvA
section
namespace Go.Proofs.Ytengccmjlaejfaa
namespace Ev
open Go.RowKit
set_option linter.unusedSectionVars false
variable [Fz]
variable {P : Program}

def PRels (ρ : Rho) : List (Nat × AV) → List (Nat × Value) → Prop
  | [], ys => ys = []
  | (i, x) :: r, ys => ∃ y s, ys = (i, y) :: s ∧ VRel ρ x y ∧ PRels ρ r s
theorem PRels.map {ρ : Rho} {f : Operand → AV} {g : Operand → Value} (h : ∀ x, VRel ρ (f x) (g x)) : ∀ (l : List (Nat × Operand)), PRels ρ (l.map fun (i, x) => (i, f x)) (l.map fun (i, x) => (i, g x))
  | [] => rfl
  | (_, x) :: r => ⟨g x, _, rfl, h x, PRels.map h r⟩

theorem VRels.splice {ρ : Rho} {cs ys : List AV} {C Y : List Value} (p : Nat) (h : VRels ρ cs C) (k : VRels ρ ys Y) : VRels ρ (Ev.splice cs p ys) (C.take p ++ Y ++ C.drop (p + Y.length)) := by
  unfold Ev.splice
  rw [k.length]
  exact ((h.take p).append k).append (h.drop _)

theorem fold_splice (off : Nat) (v C : Array Value) (h : off + v.size ≤ C.size) : (v.zipIdx.foldl (fun cs (c, j) => cs.setIfInBounds (off + j) c) C).toList = C.toList.take off ++ v.toList ++ C.toList.drop (off + v.toList.length) := by
  obtain ⟨h1, h2⟩ := Go.Great.foldl_set off v.toList 0 C
  have e : v.zipIdx.foldl (fun cs (c, j) => cs.setIfInBounds (off + j) c) C = (v.toList.zipIdx 0).foldl (fun cs (x : Value × Nat) => cs.setIfInBounds (off + x.2) x.1) C := by
    rw [← Array.foldl_toList]
    simp
  rw [e]
  apply List.ext_getElem?
  intro k
  have := h2 k
  rw [Array.getElem?_toList, this]
  simp only [Nat.add_zero]
  by_cases c1 : k < off
  · rw [if_neg (by omega), List.append_assoc, List.getElem?_append_left (by simp; omega), List.getElem?_take_of_lt c1]; simp
  · by_cases c2 : k < off + v.size
    · rw [if_pos (by simp; omega), List.append_assoc, List.getElem?_append_right (by simp; omega), List.getElem?_append_left (by simp; omega)]
      simp only [List.length_take, Array.length_toList, Nat.min_eq_left (show off ≤ C.size by omega)]
    · rw [if_neg (by simp; omega), List.getElem?_append_right (by simp; omega), List.getElem?_drop]
      simp only [List.length_append, List.length_take, Array.length_toList, Nat.min_eq_left (show off ≤ C.size by omega)]
      rw [show off + v.size + (k - (off + v.size)) = k by omega]
      simp

theorem fillA_rel {ρ : Rho} {place : Nat → Option (Nat × Nat)} : ∀ {parts : List (Nat × AV)} {cs cs' : List AV} {C : Array Value} {ps : List (Nat × Value)}, fillA place cs parts = some cs' → PRels ρ parts ps → VRels ρ cs C.toList → ∃ C', Instr.fill place C ps = some C' ∧ VRels ρ cs' C'.toList
  | [], cs, cs', C, ps, h, hp, hc => by simp only [fillA] at h; cases h; simp only [PRels] at hp; subst hp; exact ⟨C, rfl, hc⟩
  | (i, x) :: r, cs, cs', C, ps, h, ⟨y, s, e, hx, hr⟩, hc => by
    subst e
    simp only [fillA] at h
    split at h
    · rename_i off size hpl
      cases hb : (Nat.beq x.cells.length size && Nat.ble (off + size) cs.length) with
      | false => simp [hb] at h
      | true =>
        simp only [hb, cond_true] at h
        simp only [Bool.and_eq_true, Nat.ble_eq] at hb
        have hl := Nat.eq_of_beq_eq_true hb.1
        have hle := hb.2
        have hcr := cells_rel hx
        have hcl := hcr.length
        have hCl := hc.length
        simp only [Array.length_toList] at hcl hCl
        have hfs := fold_splice off y.cells C (by omega)
        obtain ⟨C', h1, h2⟩ := fillA_rel h hr (C := y.cells.zipIdx.foldl (fun cs (c, j) => cs.setIfInBounds (off + j) c) C) (by rw [hfs]; exact hc.splice off hcr)
        refine ⟨C', ?_, h2⟩
        unfold Instr.fill
        simp only [hpl]
        rw [if_neg (by simp; omega)]
        exact h1
    · cases h

theorem fillA_len {place : Nat → Option (Nat × Nat)} : ∀ {parts : List (Nat × AV)} {cs cs' : List AV}, fillA place cs parts = some cs' → cs'.length = cs.length
  | [], _, _, h => by simp only [fillA] at h; cases h; rfl
  | (i, x) :: r, cs, cs', h => by
    simp only [fillA] at h
    split at h
    · rename_i off size hpl
      cases hb : (Nat.beq x.cells.length size && Nat.ble (off + size) cs.length) with
      | false => simp [hb] at h
      | true =>
        simp only [hb, cond_true] at h
        simp only [Bool.and_eq_true, Nat.ble_eq] at hb
        have hl := Nat.eq_of_beq_eq_true hb.1
        rw [fillA_len h, splice_len (by omega)]
    · cases h

theorem placesA_eq : ∀ {fs : List Field} {pl : List (Nat × Nat)}, placesA P fs = some pl → fs.mapM (fun f => (P.info? f.type).map fun i => (f.offset, i.size)) = some pl
  | [], pl, h => by simp only [placesA] at h; cases h; rfl
  | f :: fs, pl, h => by
    simp only [placesA] at h
    split at h
    · rename_i k l hk hl
      cases h
      unfold szOf at hk
      cases hi : P.info? f.type with
      | none => simp [hi] at hk
      | some i => simp [hi] at hk; subst hk; simp [List.mapM_cons, hi, placesA_eq hl]
    · cases h

theorem buildA_run {t : TypeId} {parts : List (Nat × AV)} {ps : Array (Nat × Value)} {v : AV} {ρ : Rho} {w : World} (h : buildA P t parts = some v) (hp : PRels ρ parts ps.toList) : ∃ z, (Instr.build t ps).run P w = .ok z w ∧ VRel ρ v z := by
  unfold buildA at h
  split at h
  · rename_i zs fs hz hu
    split at h
    · rename_i pl hpl
      simp only [Option.map_eq_some_iff] at h
      obtain ⟨cs, hf, rfl⟩ := h
      unfold zeroOf at hz
      cases hi : P.info? t with
      | none => simp [hi] at hz
      | some it =>
        simp only [hi] at hz
        cases hzz : it.zero with
        | none => simp [hzz] at hz
        | some zv =>
          simp only [hzz, Option.some.injEq] at hz
          obtain ⟨C', h1, h2⟩ := fillA_rel (C := zv.cells) hf hp (by rw [← hz]; exact VRels.ofPlain _)
          have hb : P.built t ps.toList = some C' := by
            unfold Program.built
            simp only [hi, hu, hzz, placesA_eq hpl]
            simpa using h1
          exact ⟨_, run_build w t ps C' hb, by have := mkAgg_rel h2; simpa using this⟩
    · cases h
  · rename_i zs n e hz hu
    split at h
    · rename_i k hk
      simp only [Option.map_eq_some_iff] at h
      obtain ⟨cs, hf, rfl⟩ := h
      unfold zeroOf at hz
      unfold szOf at hk
      cases hi : P.info? t with
      | none => simp [hi] at hz
      | some it =>
        simp only [hi] at hz
        cases hie : P.info? e with
        | none => simp [hie] at hk
        | some ie =>
          simp only [hie, Option.map_some, Option.some.injEq] at hk
          subst hk
          cases hzz : it.zero with
          | none => simp [hzz] at hz
          | some zv =>
            simp only [hzz, Option.some.injEq] at hz
            obtain ⟨C', h1, h2⟩ := fillA_rel (C := zv.cells) hf hp (by rw [← hz]; exact VRels.ofPlain _)
            have hb : P.built t ps.toList = some C' := by
              unfold Program.built
              simp only [hi, hu, hzz, hie]
              exact h1
            exact ⟨_, run_build w t ps C' hb, by have := mkAgg_rel h2; simpa using this⟩
    · cases h
  · cases h

theorem repeat_rel {ρ : Rho} (z : Array Value) (zs : List AV) (hz : VRels ρ zs z.toList) (hpos : zs.length = z.size) : ∀ (n : Nat), VRels ρ (repeatA zs n) ((List.range (n * z.size)).map fun i => z[i % z.size]!)
  | 0 => by simp [repeatA, VRels]
  | n + 1 => by
    have ih := repeat_rel z zs hz hpos n
    have e : (List.range ((n + 1) * z.size)).map (fun i => z[i % z.size]!) = z.toList ++ (List.range (n * z.size)).map fun i => z[i % z.size]! := by
      rw [Nat.add_mul, Nat.one_mul, Nat.add_comm, List.range_add, List.map_append, List.map_map]
      congr 1
      · apply List.ext_getElem?
        intro k
        by_cases hk : k < z.size
        · simp [hk, Nat.mod_eq_of_lt hk]
        · simp [hk]
      · apply List.map_congr_left
        intro i _
        simp
    rw [e]
    exact hz.append ih

theorem buildSliceA_run {t : TypeId} {n : Nat} {parts : List (Nat × AV)} {ps : Array (Nat × Value)} {v : AV} {h h' : Hp} {ρ : Rho} {w : World} (hh : HR ρ h w) (hb : buildSliceA P t n parts h = some (v, h')) (hp : PRels ρ parts ps.toList) :
    ∃ ρ' w' y L, (Instr.buildSlice t n ps).run P w = .ok y w' ∧ VRel ρ' v y ∧ HR ρ' h' w' ∧ Stepped ρ h.nx L w ρ' h'.nx w' ∧ h'.lg = L ++ h.lg := by
  unfold buildSliceA at hb
  split at hb
  · rename_i e hu
    split at hb
    · rename_i k zs hk hz
      cases hc : (Nat.ble (n * k) 16777216 && Nat.beq zs.length k) with
      | false => simp [hc] at hb
      | true =>
        simp only [hc, cond_true, Option.map_eq_some_iff, Prod.mk.injEq] at hb
        obtain ⟨cs, hf, rfl, rfl⟩ := hb
        simp only [Bool.and_eq_true, Nat.ble_eq] at hc
        have hzl := Nat.eq_of_beq_eq_true hc.2
        obtain ⟨zv, hzr, hze⟩ := zeroOf_run hz
        have hzs : zv.cells.size = k := by rw [← hzl, hze]; simp
        have hrep := repeat_rel (ρ := ρ) zv.cells zs (by rw [hze]; exact VRels.ofPlain _) (by rw [hzs, hzl]) n
        obtain ⟨C', h1, h2⟩ := fillA_rel (C := (Array.range (n * k)).map fun i => zv.cells[i % zv.cells.size]!) hf hp (by rw [← hzs]; simpa using hrep)
        have hlen : cs.length = n * k := by
          have e1 := hrep.length
          have : cs.length = (repeatA zs n).length := fillA_len hf
          rw [this, ← e1]; simp [hzs]
        have hrun : (Instr.buildSlice t n ps).run P w = .ok (.slice (some ⟨w.heap.size, 0, none⟩) n n) (w.alloc (.cells C' e (0, 0))) := by
          have hng : ¬ (n * k > 2 ^ 24) := by have := hc.1; omega
          unfold Instr.buildSlice
          by_cases c : n * k = 0
          · have h1' : Instr.fill (fun i => some (i * k, k)) ((Array.range (n * k)).map fun x => (#[] : Array Value)[x % (#[] : Array Value).size]!) ps.toList = some C' := by rw [c] at h1 ⊢; simpa [show Array.range 0 = #[] from rfl] using h1
            simp only [Sem.run_bind, run_underlying hu, Result.andThen_ok, szOf_run hk, if_neg hng, if_pos c, Sem.run_pure, h1', newRow, run_newObj_alloc]
          · simp only [Sem.run_bind, run_underlying hu, Result.andThen_ok, szOf_run hk, if_neg hng, if_neg c, Sem.run_pure, hzr, h1, newRow, run_newObj_alloc]
        refine ⟨upd ρ h.nx ⟨w.heap.size, 0, k, C'.size⟩, _, _, [], hrun, ⟨_, n, upd_same _ _ _, ?_, Nat.le_refl _, ?_, fun c hc => by cases hc; rfl⟩, ?_, ?_, rfl⟩
        · simp
        · have := h2.length
          simp only [Array.length_toList] at this
          simp only [Nat.zero_add]; rw [this, hlen]; exact Nat.le_refl _
        · have := hh.fresh (cs := cs) (C := C') (fun j x hj => by obtain ⟨y, hy, hr⟩ := h2.get hj; exact ⟨y, by simpa using hy, hr⟩) k e h.nx true false
          unfold HR Hp.fresh Hp.new
          rw [T.get_put]
          exact this
        · exact Stepped.fresh hh.dm k C'.size _
    · cases hb
  · cases hb


theorem makeSliceA_run {t : TypeId} {l c v : AV} {yl yc : Value} {h h' : Hp} {ρ : Rho} {w : World} (hh : HR ρ h w) (hb : makeSliceA P t l c h = some (v, h')) (hl : VRel ρ l yl) (hc : VRel ρ c yc) :
    ∃ ρ' w' y L, (Instr.makeSlice t yl yc).run P w = .ok y w' ∧ VRel ρ' v y ∧ HR ρ' h' w' ∧ Stepped ρ h.nx L w ρ' h'.nx w' ∧ h'.lg = L ++ h.lg := by
  unfold makeSliceA at hb
  split at hb
  · rename_i e hu
    split at hb
    · rename_i i zs ki l kc c hi hz
      cases hl; cases hc
      rw [cond_eq_ite] at hb
      split at hb
      · rename_i hcd
        simp only [Bool.and_eq_true, decide_eq_true_eq] at hcd
        obtain ⟨⟨⟨c1, c2⟩, c3, c4⟩, c5⟩ := hcd
        have hzl := Nat.eq_of_beq_eq_true c5
        simp only [Option.some.injEq, Prod.mk.injEq] at hb
        obtain ⟨rfl, rfl⟩ := hb
        unfold zeroOf at hz
        rw [hi] at hz
        simp only [] at hz
        split at hz
        · rename_i zv hzv
          simp only [Option.some.injEq] at hz
          have hzs : zv.cells.size = i.size := by rw [← hzl, ← hz]; simp
          have hrep := repeat_rel (ρ := ρ) zv.cells zs (by rw [← hz]; exact VRels.ofPlain _) (by rw [hzs, hzl]) c.toNat
          have hrun := run_make (P := P) w t e i zv hu hi hzv ki kc l c c1 c2 c3 c4
          rw [← hzs] at hrun
          have hlen := hrep.length
          simp only [List.length_map, List.length_range] at hlen
          have hn : l.toNat ≤ c.toNat := by omega
          have hrep' : VRels ρ (repeatA zs c.toNat) (madeCells zv.cells (c.toNat * zv.cells.size)).toList := by unfold madeCells; simpa using hrep
          refine ⟨upd ρ h.nx ⟨w.heap.size, 0, i.size, (madeCells zv.cells (c.toNat * zv.cells.size)).size⟩, _, _, [], hrun, ⟨_, c.toNat, upd_same _ _ _, ?_, hn, ?_, fun c' hc => by cases hc; rfl⟩, ?_, ?_, rfl⟩
          · simp
          · simp only [size_madeCells, Nat.zero_add]; rw [hzs]; exact Nat.le_refl _
          · have := hh.fresh (cs := repeatA zs c.toNat) (C := madeCells zv.cells (c.toNat * zv.cells.size)) (fun j x hj => by obtain ⟨y, hy, hr⟩ := hrep'.get hj; exact ⟨y, by simpa using hy, hr⟩) i.size e h.nx true false
            unfold HR Hp.fresh Hp.new
            rw [T.get_put]
            exact this
          · exact Stepped.fresh hh.dm i.size _ _
        · cases hz
      · cases hb
    · cases hb
  · cases hb

theorem agg_of {x : AV} {y : Value} {ρ : Rho} (h : x.isAgg = true) (r : VRel ρ x y) : ∃ a, y = .agg a := by
  cases x with
  | v z => cases z <;> simp [AV.isAgg] at h; cases r; exact ⟨_, rfl⟩
  | s z => cases z <;> simp [AV.isAgg] at h; cases r; exact ⟨_, rfl⟩
  | agg cs => obtain ⟨ys, e, _⟩ := r; exact ⟨ys, e⟩
  | _ => simp [AV.isAgg] at h

theorem fieldVA_run {t : TypeId} {x v : AV} {y : Value} {f : Nat} {ρ : Rho} {w : World} (hx : VRel ρ x y) (h : fieldVA P t x f = some v) : ∃ z, (Instr.field t y f).run P w = .ok z w ∧ VRel ρ v z := by
  unfold fieldVA at h
  split at h
  · rename_i fs hu
    split at h
    · rename_i fd hfd
      split at h
      · rename_i k g hk hg
        cases ha : x.isAgg with
        | false => simp [ha] at h
        | true =>
          simp only [ha, cond_true] at h
          obtain ⟨a, rfl⟩ := agg_of ha hx
          have hc := cells_rel hx
          cases g with
          | true =>
            simp only [cond_true, Option.map_eq_some_iff] at h
            obtain ⟨xs, hw, rfl⟩ := h
            obtain ⟨e1, e2⟩ := window_some hw
            have := (hc.drop fd.offset).take k
            rw [← e1] at this
            refine ⟨.agg (a.extract fd.offset (fd.offset + k)), ?_, ?_⟩
            · simp [Instr.field, run_underlying hu, hfd, asAgg, part, aggT_run hg, szOf_run hk]
            · have h3 := mkAgg_rel this
              have e3 : a.extract fd.offset (fd.offset + k) = (((Value.agg a).cells.toList.drop fd.offset).take k).toArray := by
                apply Array.ext'
                simp [Value.cells, List.take_drop, Nat.add_comm]
              rw [e3]; exact h3
          | false =>
            simp only [cond_false] at h
            obtain ⟨z, hz, hr⟩ := hc.get h
            have hz' : a[fd.offset]? = some z := by simpa [Value.cells] using hz
            exact ⟨z, by simp [Instr.field, run_underlying hu, hfd, asAgg, part, aggT_run hg, hz'], hr⟩
      · cases h
    · cases h
  · cases h

theorem noIntB_ok {ts : Array TypeId} (h : noIntB P ts = true) : noInt P ts := by
  unfold noIntB at h
  unfold noInt
  split at h
  · rename_i e; simp [e]
  · rename_i x e
    simp only [e]
    split at h
    · cases h
    · rename_i d hn hd; exact ⟨d, hd, fun k hk => hn k hk⟩
    · cases h

theorem builtinA_run {b : Builtin} {ts : Array TypeId} {t : TypeId} {cn : Array Bool} {args : List AV} {ys : List Value} {v : AV} {ρ : Rho} {h h' : Hp} {w : World} (hh : HR ρ h w) (hr : VRels ρ args ys) (hb : builtinA P b ts t cn args h = some (.val v h')) :
    OpOk (fun w => (builtin b ts t cn ys.toArray).run P w) ρ h w v h' := by
  unfold builtinA at hb
  split at hb
  · rename_i s x
    split at hb
    · rename_i st hst
      cases hn : noIntB P ts with
      | false => simp [hn] at hb
      | true =>
        simp only [hn, cond_true, Option.map_eq_some_iff, Prod.exists, Stp.val.injEq] at hb
        obtain ⟨v', h'', ha, rfl, rfl⟩ := hb
        obtain ⟨y1, r1, rfl, hs, y2, r2, rfl, hx, hnil⟩ := hr
        simp only [VRels] at hnil
        subst hnil
        obtain ⟨ρ', w', y, L, a1, a2, a3, a4, a5⟩ := appendA_run (P := P) (ty := t) hh hs hx hst (noIntB_ok hn) ha
        exact .ofRun (by simp [builtin, a1]) a2 a3 a4 a5
    · cases hb
  · rename_i n off len cap
    split at hb
    · rename_i e he
      obtain ⟨y, r, rfl, ⟨p, k, hp, rfl, _⟩, hnil⟩ := hr
      simp only [VRels] at hnil
      subst hnil
      cases ht : ts[0]? with
      | none => simp [ht] at he
      | some t0 =>
        simp only [ht, Option.bind_some] at he
        cases hb; exact .same hh (by simp [builtin, Builtin.len_, ht, run_underlying he]) rfl
    · cases hb
  · rename_i n len
    split at hb
    · rename_i e he
      cases hb
      obtain ⟨y, r, rfl, hx, hnil⟩ := hr
      simp only [VRels] at hnil
      subst hnil
      obtain ⟨b, k, rfl, _⟩ := lenA_rel (x := .osl n len) rfl hx
      cases ht : ts[0]? with
      | none => simp [ht] at he
      | some t0 =>
        simp only [ht, Option.bind_some] at he
        exact .same hh (by simp [builtin, Builtin.len_, ht, run_underlying he]) rfl
    · cases hb
  · rename_i f len ks
    split at hb
    · rename_i e he
      cases hb
      obtain ⟨y, r, rfl, hx, hnil⟩ := hr
      simp only [VRels] at hnil
      subst hnil
      obtain ⟨b, k, rfl, _⟩ := lenA_rel (x := .fz f len ks) rfl hx
      cases ht : ts[0]? with
      | none => simp [ht] at he
      | some t0 =>
        simp only [ht, Option.bind_some] at he
        exact .same hh (by simp [builtin, Builtin.len_, ht, run_underlying he]) rfl
    · cases hb
  · split at hb
    · rename_i e he
      cases hb
      obtain ⟨y, r, rfl, hx, hnil⟩ := hr
      simp only [VRels] at hnil
      subst hnil
      obtain ⟨b, k, rfl, _⟩ := lenA_rel (x := .z0) rfl hx
      cases ht : ts[0]? with
      | none => simp [ht] at he
      | some t0 =>
        simp only [ht, Option.bind_some] at he
        exact .same hh (by simp [builtin, Builtin.len_, ht, run_underlying he]) rfl
    · cases hb
  · rename_i z
    split at hb
    · rename_i e he
      cases hb
      obtain ⟨y, r, rfl, ⟨a, k, rfl, _⟩, hnil⟩ := hr
      simp only [VRels] at hnil
      subst hnil
      cases ht : ts[0]? with
      | none => simp [ht] at he
      | some t0 =>
        simp only [ht, Option.bind_some] at he
        exact .same hh (by simp [builtin, Builtin.len_, ht, run_underlying he]) rfl
    · cases hb
  · rename_i n
    split at hb
    · rename_i kt et he
      split at hb
      · rename_i es clk ho
        cases hb
        obtain ⟨y, r, rfl, hx, hnil⟩ := hr
        simp only [VRels] at hnil
        subst hnil
        obtain ⟨p, E, hp, rfl, hbk, hE, _⟩ := map_at hh hx ho
        cases ht : ts[0]? with
        | none => simp [ht] at he
        | some t0 =>
          simp only [ht, Option.bind_some] at he
          have hl := hE.length
          simp only [Array.length_toList] at hl
          exact .same hh (by simp [builtin, Builtin.len_, ht, run_underlying he, run_getM hbk, hl]) rfl
      · cases hb
    · cases hb
  · rename_i n k
    split at hb
    · rename_i mt hmt
      simp only [Option.map_eq_some_iff, Stp.val.injEq] at hb
      obtain ⟨h'', hd, rfl, rfl⟩ := hb
      obtain ⟨y, r, rfl, hx, y2, r2, rfl, hk, hnil⟩ := hr
      simp only [VRels] at hnil
      subst hnil
      obtain ⟨w', L, a1, a2, a3, a4⟩ := mapDelA_run (P := P) (ty := t) hmt hh hx hk hd
      exact .ofRun (by simp [builtin, a1]) rfl a2 a3 a4
    · cases hb
  · split at hb
    · rename_i vs hvs
      have := plains_rel hvs hr
      subst this
      split at hb
      · rename_i u hu
        cases hb
        exact .same hh (pureRun_ok _ _ hu w) rfl
      · cases hb
    · split at hb
      · rename_i vs hvs
        have := unPs_rel hvs hr
        subst this
        split at hb
        · rename_i u hu
          cases hb
          exact .same hh (pureRun_ok _ _ hu w) rfl
        · cases hb
      · cases hb

theorem pureS_run {s : Sem Value} {h h' : Hp} {v : AV} {ρ : Rho} {w : World} (hh : HR ρ h w) (hp : pureS P s h = some (.val v h')) (r : World → Result Next) (hr : ∀ y, s.run P w = .ok y w → r w = .ok (.value y) w) : OpOk r ρ h w v h' := by
  unfold pureS at hp
  simp only [Option.map_eq_some_iff, Stp.val.injEq] at hp
  obtain ⟨y, hy, rfl, rfl⟩ := hp
  exact .same hh (hr y (pureRun_ok _ _ hy w)) rfl
theorem partA_run {t : TypeId} {xs : Array Value} {off : Nat} {v : Value} (h : partA P t xs off = some v) (w : World) : (part t xs off).run P w = .ok v w := by
  unfold partA at h
  split at h
  · rename_i hg
    simp only [Option.map_eq_some_iff] at h
    obtain ⟨k, hk, rfl⟩ := h
    simp [part, aggT_run hg, szOf_run hk, Sem.run_bind, Result.andThen]
  · rename_i hg
    simp [part, aggT_run hg, Sem.run_bind, Result.andThen, h]
  · cases h
theorem eqFs_run {q : TypeId → Value → Value → Option Bool} {d : Nat} (hq : ∀ t a b r, q t a b = some r → ∀ w, (Op.equalIn d t a b).run P w = .ok r w) {xs ys : Array Value} : ∀ {fs : List Field} {r : Bool}, eqFs P q xs ys fs = some r → ∀ w, (Op.eqFields d xs ys fs).run P w = .ok r w
  | [], r, h, w => by simp only [eqFs] at h; cases h; simp [Op.eqFields]
  | f :: fs, r, h, w => by
    simp only [eqFs, cond_eq_ite] at h
    split at h
    · rename_i hn
      have hn : f.name = "_" := by simpa using hn
      simp only [Op.eqFields, hn, ne_eq, not_true_eq_false, if_false]
      exact eqFs_run hq h w
    · rename_i hn
      have hn : ¬ f.name = "_" := by simpa using hn
      split at h
      · rename_i a b ha hb
        split at h
        · rename_i p s hp hs
          cases h
          simp only [Op.eqFields, ne_eq, hn, not_false_eq_true, if_true, Sem.run_bind, partA_run ha, partA_run hb, hq _ _ _ _ hp, Result.andThen_ok]
          cases p with
          | true => simpa using eqFs_run hq hs w
          | false => simp
        · cases h
      · cases h
theorem eqIs_run {q : Value → Value → Option Bool} {d : Nat} {e : TypeId} (hq : ∀ a b r, q a b = some r → ∀ w, (Op.equalIn d e a b).run P w = .ok r w) {xs ys : Array Value} : ∀ {is : List Nat} {r : Bool}, eqIs q (pairA P e xs ys) is = some r → ∀ w, (Op.eqItems d e (P.cellsOf e) xs ys is).run P w = .ok r w
  | [], r, h, w => by simp only [eqIs] at h; cases h; simp [Op.eqItems]
  | i :: is, r, h, w => by
    simp only [eqIs] at h
    split at h
    · rename_i a b hab
      split at h
      · rename_i p s hp hs
        cases h
        unfold pairA at hab
        split at hab
        · split at hab
          · rename_i a' b' ha hb
            cases hab
            simp only [Op.eqItems, Sem.run_bind, partA_run ha, partA_run hb, hq _ _ _ hp, Result.andThen_ok]
            cases p with
            | true => simpa using eqIs_run hq hs w
            | false => simp
          · cases hab
        · cases hab
      · cases h
    · cases h
theorem eqA_run : ∀ {d : Nat} {t : TypeId} {x y : Value} {r : Bool}, eqA P d t x y = some r → ∀ w, (Op.equalIn d t x y).run P w = .ok r w
  | 0, _, _, _, _, h, _ => by simp [eqA] at h
  | d + 1, t, x, y, r, h, w => by
    simp only [eqA] at h
    split at h
    · rename_i hu; cases h; simp [Op.equalIn, run_underlying hu, Sem.run_bind, Result.andThen]
    · rename_i k' k a k2 b hu
      rw [cond_eq_ite] at h
      split at h
      · rename_i hk
        cases h
        have : k = k2 := by simpa using hk
        subst this
        simp [Op.equalIn, run_underlying hu, Sem.run_bind, Result.andThen]
      · cases h
    · rename_i a b hu; cases h; exact run_equalIn_string w d t a b hu
    · rename_i fs xs ys hu
      rw [cond_eq_ite] at h
      split at h
      · cases h
      · rename_i hs
        have hs : P.stoodInHeld t = false := by simpa using hs
        have hf : P.fieldsOf t = fs := by simp [Program.fieldsOf, hu]
        rw [run_equalIn_struct w d t xs ys (by rw [hf]; exact hu) hs, hf]
        exact eqFs_run (fun t a b r h w => eqA_run h w) h w
    · rename_i n e xs ys hu
      rw [cond_eq_ite] at h
      split at h
      · rename_i hi
        obtain ⟨i, hi⟩ := Option.isSome_iff_exists.1 hi
        rw [run_equalIn_array w d xs ys hu hi]
        exact eqIs_run (fun a b r h w => eqA_run h w) h w
      · cases h
    · cases h
theorem binS_run {op : BinOp} {t : TypeId} {x y : Operand} {a b : Value} {h h' : Hp} {v : AV} {ρ : Rho} {w : World} (hh : HR ρ h w) (hb : binS P op t x y a b h = some (.val v h')) (r : World → Result Next) (hr : ∀ z, (do eqGuard op t x y a b; binOp op t a b : Sem Value).run P w = .ok z w → r w = .ok (.value z) w) : OpOk r ρ h w v h' := by
  unfold binS at hb
  split at hb
  · rename_i xs ys
    rw [cond_eq_ite] at hb
    split at hb
    · cases hb
    · rename_i hg
      have hg : P.eqGuardType P.depth t = false := by simpa using hg
      split at hb
      · rename_i q hq
        cases hb
        exact .same hh (hr _ (by rw [Sem.run_bind, run_eqGuard_agg w _ _ _ _ _ _ hg, Result.andThen_ok, run_eql_struct, eqA_run hq]; rfl)) rfl
      · rename_i q hq
        cases hb
        exact .same hh (hr _ (by rw [Sem.run_bind, run_eqGuard_agg w _ _ _ _ _ _ hg, Result.andThen_ok, run_neq_struct, eqA_run hq]; rfl)) rfl
      · cases hb
  · exact pureS_run hh hb r hr

theorem pureA_run {s : Sem Value} {h h' : Hp} {v : AV} {ρ : Rho} {w : World} (hh : HR ρ h w) (hp : pureA P s h = some (.val v h')) (r : World → Result Next) (hr : ∀ y, s.run P w = .ok y w → r w = .ok (.value y) w) : OpOk r ρ h w v h' := by
  unfold pureA at hp
  simp only [Option.map_eq_some_iff, Stp.val.injEq] at hp
  obtain ⟨y, hy, rfl, rfl⟩ := hp
  exact .same hh (hr y (pureRun_ok _ _ hy w)) rfl

theorem neq0 (n : Nat) {t : TypeId} {w : World} {e : TypeId} {x : Addr} (hu : P.underlying t = some (.pointer e)) : (Op.equalIn (n + 1) t (.pointer (some x)) (.pointer none)).run P w = .ok false w := by
  simp only [Op.equalIn, Sem.run_bind, run_underlying hu, Result.andThen_ok]; rfl
theorem neq1 (n : Nat) {t : TypeId} {w : World} {e : TypeId} {x : Addr} (hu : P.underlying t = some (.pointer e)) : (Op.equalIn (n + 1) t (.pointer none) (.pointer (some x))).run P w = .ok false w := by
  simp only [Op.equalIn, Sem.run_bind, run_underlying hu, Result.andThen_ok]; rfl
theorem neq2 (n : Nat) {t : TypeId} {w : World} {e : TypeId} {x : Addr} {l c l' c' : Nat} (hu : P.underlying t = some (.slice e)) : (Op.equalIn (n + 1) t (.slice (some x) l c) (.slice none l' c')).run P w = .ok false w := by
  simp only [Op.equalIn, Sem.run_bind, run_underlying hu, Result.andThen_ok]; rfl
theorem neq3 (n : Nat) {t : TypeId} {w : World} {e : TypeId} {x : Addr} {l c l' c' : Nat} (hu : P.underlying t = some (.slice e)) : (Op.equalIn (n + 1) t (.slice none l' c') (.slice (some x) l c)).run P w = .ok false w := by
  simp only [Op.equalIn, Sem.run_bind, run_underlying hu, Result.andThen_ok]; rfl
theorem neq4 (n : Nat) {t : TypeId} {w : World} {e : TypeId} {x : Addr} {l c l' c' : Nat} (hu : P.underlying t = some (.slice e)) : (Op.equalIn (n + 1) t (.slice (some x) l c) (.slice none l' c')).run P w = .ok false w := by
  simp only [Op.equalIn, Sem.run_bind, run_underlying hu, Result.andThen_ok]; rfl
theorem neq5 (n : Nat) {t : TypeId} {w : World} {e : TypeId} {x : Addr} {l c l' c' : Nat} (hu : P.underlying t = some (.slice e)) : (Op.equalIn (n + 1) t (.slice none l' c') (.slice (some x) l c)).run P w = .ok false w := by
  simp only [Op.equalIn, Sem.run_bind, run_underlying hu, Result.andThen_ok]; rfl
theorem neq6 (n : Nat) {t : TypeId} {w : World} {kt e : TypeId} {x : Nat} (hu : P.underlying t = some (.map kt e)) : (Op.equalIn (n + 1) t (.map (some x)) (.map none)).run P w = .ok false w := by
  simp only [Op.equalIn, Sem.run_bind, run_underlying hu, Result.andThen_ok]; rfl
theorem neq7 (n : Nat) {t : TypeId} {w : World} {kt e : TypeId} {x : Nat} (hu : P.underlying t = some (.map kt e)) : (Op.equalIn (n + 1) t (.map none) (.map (some x))).run P w = .ok false w := by
  simp only [Op.equalIn, Sem.run_bind, run_underlying hu, Result.andThen_ok]; rfl
theorem neq8 (n : Nat) {t : TypeId} {w : World} {ps rs : Array TypeId} {vr : Bool} {fn : Fn} {x y : Array Value} (hu : P.underlying t = some (.func ps rs vr)) : (Op.equalIn (n + 1) t (.func fn x y) (.nilFunc)).run P w = .ok false w := by
  simp only [Op.equalIn, Sem.run_bind, run_underlying hu, Result.andThen_ok]; rfl
theorem neq9 (n : Nat) {t : TypeId} {w : World} {ps rs : Array TypeId} {vr : Bool} {fn : Fn} {x y : Array Value} (hu : P.underlying t = some (.func ps rs vr)) : (Op.equalIn (n + 1) t (.nilFunc) (.func fn x y)).run P w = .ok false w := by
  simp only [Op.equalIn, Sem.run_bind, run_underlying hu, Result.andThen_ok]; rfl

theorem bytesL_rel {ρ : Rho} : ∀ {cs : List AV} {ys : List Value} {ns : List Int}, bytesL cs = some ns → VRels ρ cs ys → ys = ns.map (Value.int .u8)
  | [], ys, ns, h, r => by simp only [bytesL] at h; cases h; exact r
  | x :: cs, ys, ns, h, ⟨y, r, e, hx, hr⟩ => by
    unfold bytesL at h
    split at h
    · rename_i h1; cases h1
    · rename_i n r' h1
      cases h1
      simp only [Option.map_eq_some_iff] at h
      obtain ⟨ms, hm, rfl⟩ := h
      rw [e, bytesL_rel hm hr, show y = .int .u8 n from hx]
      rfl
    · cases h
theorem bytesA_run {s d : TypeId} {n off len : Nat} {cap : Option Nat} {y v : Value} {ρ : Rho} {h : Hp} {w : World} (hh : HR ρ h w) (hx : VRel ρ (.sl n off len cap) y) (hb : bytesA P s d (.sl n off len cap) h = some v) :
    (convert s d y).run P w = .ok v w := by
  unfold bytesA at hb
  split at hb
  · rename_i e hs hd
    split at hb
    · rename_i cs he hr
      simp only [Option.map_eq_some_iff] at hb
      obtain ⟨ns, hn, rfl⟩ := hb
      obtain ⟨ys, h1, h2, h3⟩ := rowA_run (P := P) hh hr (m := len) rfl hx
      obtain ⟨p, k, hp, rfl, _⟩ := hx
      have h4 := h3 w rfl
      rw [bytesL_rel hn h1] at h4
      simp only [Builtin.firstCells, Nat.mul_one] at h4
      rw [run_convert_bytes_string w s d e _ len k hs he hd, run_bytesToString w _ len k ns h4, foldl_push_bytes]
      simp [strA, ByteArray.empty, ByteArray.emptyWithCapacity]
      try rfl
    · cases hb
  · cases hb

theorem eqNil_run {t : TypeId} {d : TypeDesc} {neg : Bool} {x y : AV} {a b v : Value} {ρ : Rho} {w : World} {u1 u2 : Operand} (hu : P.underlying t = some d) (hx : VRel ρ x a) (hy : VRel ρ y b) (h : eqNil d neg x y = some v) :
    (do eqGuard (bif neg then .neq else .eql) t u1 u2 a b; binOp (bif neg then .neq else .eql) t a b : Sem Value).run P w = .ok v w := by
  unfold eqNil at h
  simp only [Option.map_eq_some_iff] at h
  obtain ⟨r, hr, rfl⟩ := h
  have key : ∀ (a b : Value), (∀ o, o = .eql ∨ o = .neq → eqGuard o t u1 u2 a b = pure ()) → binOp .eql t a b = (do pure (.bool (← Op.equal t a b))) → binOp .neq t a b = (do pure (.bool (!(← Op.equal t a b)))) → (Op.equal t a b).run P w = .ok false w →
      (do eqGuard (bif neg then .neq else .eql) t u1 u2 a b; binOp (bif neg then .neq else .eql) t a b : Sem Value).run P w = .ok (.bool (false != neg)) w := fun a b h1 h2 h3 h4 => by
    cases neg
    · simp [h1 .eql (.inl rfl), h2, h4]
    · simp [h1 .neq (.inr rfl), h3, h4]
  split at hr <;> cases hr
  · obtain ⟨p, hp, rfl⟩ := hx; cases hy
    exact key _ _ (fun o ho => by rcases ho with rfl | rfl <;> rfl) rfl rfl (neq0 9999 hu)
  · obtain ⟨p, hp, rfl⟩ := hy; cases hx
    exact key _ _ (fun o ho => by rcases ho with rfl | rfl <;> rfl) rfl rfl (neq1 9999 hu)
  · obtain ⟨p, k, hp, rfl, _⟩ := hx; cases hy
    exact key _ _ (fun o ho => by rcases ho with rfl | rfl <;> rfl) rfl rfl (neq2 9999 hu)
  · obtain ⟨p, k, hp, rfl, _⟩ := hy; cases hx
    exact key _ _ (fun o ho => by rcases ho with rfl | rfl <;> rfl) rfl rfl (neq3 9999 hu)
  · obtain ⟨q, k, rfl, _⟩ := hx; cases hy
    exact key _ _ (fun o ho => by rcases ho with rfl | rfl <;> rfl) rfl rfl (neq4 9999 hu)
  · obtain ⟨q, k, rfl, _⟩ := hy; cases hx
    exact key _ _ (fun o ho => by rcases ho with rfl | rfl <;> rfl) rfl rfl (neq5 9999 hu)
  · obtain ⟨_, hx⟩ := hx; unfold FzRel at hx; cases hy
    rcases hx with ⟨h0, _⟩ | ⟨b, o, k, C, e', fr, rfl, _⟩
    · cases h0
    · exact key _ _ (fun o ho => by rcases ho with rfl | rfl <;> rfl) rfl rfl (neq4 9999 hu)
  · obtain ⟨_, hy⟩ := hy; unfold FzRel at hy; cases hx
    rcases hy with ⟨h0, _⟩ | ⟨b, o, k, C, e', fr, rfl, _⟩
    · cases h0
    · exact key _ _ (fun o ho => by rcases ho with rfl | rfl <;> rfl) rfl rfl (neq5 9999 hu)
  · obtain ⟨p, hp, rfl⟩ := hx; cases hy
    exact key _ _ (fun o ho => by rcases ho with rfl | rfl <;> rfl) rfl rfl (neq6 9999 hu)
  · obtain ⟨p, hp, rfl⟩ := hy; cases hx
    exact key _ _ (fun o ho => by rcases ho with rfl | rfl <;> rfl) rfl rfl (neq7 9999 hu)
  · obtain ⟨ys, rfl, _⟩ := hx; cases hy
    exact key _ _ (fun o ho => by rcases ho with rfl | rfl <;> rfl) rfl rfl (neq8 9999 hu)
  · obtain ⟨ys, rfl, _⟩ := hy; cases hx
    exact key _ _ (fun o ho => by rcases ho with rfl | rfl <;> rfl) rfl rfl (neq9 9999 hu)

end Ev
end Go.Proofs.Ytengccmjlaejfaa
end
section
namespace Go.Proofs.Ytengccmjlaejfaa
namespace Ev
open Go.RowKit
set_option linter.unusedSectionVars false
variable [Fz]
variable {P : Program}

theorem OpOk.ofV {s : World → Result Next} {m : Sem Value} {ρ : Rho} {h : Hp} {w : World} {v : AV} (hh : HR ρ h w) (he : ∀ y, m.run P w = .ok y w → s w = .ok (.value y) w) (hm : ∃ z, m.run P w = .ok z w ∧ VRel ρ v z) : OpOk s ρ h w v h := by
  obtain ⟨z, h1, h2⟩ := hm
  exact .same hh (he z h1) h2

theorem zeros_rel {ρ : Rho} {t : TypeId} {z : List AV} (h : zeroOf P t = some z) : ∃ zv, (∀ w, (zeroValue t).run P w = .ok zv w) ∧ VRels ρ z zv.cells.toList := by
  obtain ⟨zv, h1, h2⟩ := zeroOf_run h
  exact ⟨zv, h1, by rw [h2]; exact VRels.ofPlain _⟩

theorem maps_rel {ρ : Rho} {f : Operand → AV} {g : Operand → Value} (h : ∀ x, VRel ρ (f x) (g x)) : ∀ (l : List Operand), VRels ρ (l.map f) (l.map g)
  | [] => rfl
  | x :: r => ⟨g x, _, rfl, h x, maps_rel h r⟩

set_option maxHeartbeats 1000000 in
theorem aopC_val {f : Operand → AV} {g : Operand → Value} {o : Oper} {v : AV} {h h' : Hp} {ρ : Rho} {w : World} (hh : HR ρ h w) (hf : ∀ x, VRel ρ (f x) (g x)) (ha : aopC P f o h = some (.val v h')) :
    OpOk (fun w => (execOp g o).run P w) ρ h w v h' := by
  obtain ⟨dst, op, ty, pos, after, guard⟩ := o
  unfold aopC at ha
  cases op <;> simp only [] at ha
  case move x => cases ha; exact .same hh rfl (hf x)
  case assign x => cases ha; exact .same hh rfl (hf x)
  case pick c a b =>
    split at ha
    · rename_i t ht
      cases ha
      have hc := hf c
      rw [ht] at hc
      have hc : g c = .bool t := hc
      exact .same hh (y := if t then g a else g b) (by simp [execOp, hc, asBool]) (by cases t <;> simp [hf])
    · rename_i t ht
      cases ha
      have hc := hf c
      rw [ht] at hc
      have hc : g c = .bool t := hc
      exact .same hh (y := if t then g a else g b) (by simp [execOp, hc, asBool]) (by cases t <;> simp [hf])
    · cases ha
  case alloc t =>
    simp only [Option.map_eq_some_iff, Stp.val.injEq] at ha
    obtain ⟨z, hz, rfl, rfl⟩ := ha
    obtain ⟨zv, h1, h2⟩ := zeros_rel (ρ := ρ) hz
    exact .fresh (C := zv.cells) (e := t) (y := .pointer (some ⟨w.heap.size, 0, none⟩)) hh (by simp [execOp, Instr.alloc, h1, newVar, newRow]) h2 ⟨_, upd_same _ _ _, by simp⟩
  case box t x =>
    cases ha
    exact .fresh (C := (g x).cells) (e := t) (y := .pointer (some ⟨w.heap.size, 0, none⟩)) hh (by simp [execOp, Instr.box, newVar, newRow]) (cells_rel (hf x)) ⟨_, upd_same _ _ _, by simp⟩
  case build t ps =>
    simp only [Option.map_eq_some_iff, Stp.val.injEq] at ha
    obtain ⟨z, hz, rfl, rfl⟩ := ha
    have := buildA_run (P := P) (w := w) (ps := ps.map fun (i, x) => (i, g x)) hz (by simpa using PRels.map hf ps.toList)
    exact .ofV hh (fun y hy => by simp [execOp, hy]) this
  case buildSlice t n ps =>
    simp only [Option.map_eq_some_iff, Prod.exists, Stp.val.injEq] at ha
    obtain ⟨v', h'', hz, rfl, rfl⟩ := ha
    obtain ⟨ρ', w', y, L, a1, a2, a3, a4, a5⟩ := buildSliceA_run (P := P) hh (ps := ps.map fun (i, x) => (i, g x)) hz (by simpa using PRels.map hf ps.toList)
    exact .ofRun (by simp [execOp, a1]) a2 a3 a4 a5
  case makeSlice t l c =>
    simp only [Option.map_eq_some_iff, Prod.exists, Stp.val.injEq] at ha
    obtain ⟨v', h'', hz, rfl, rfl⟩ := ha
    obtain ⟨ρ', w', y, L, a1, a2, a3, a4, a5⟩ := makeSliceA_run (P := P) hh hz (hf l) (hf c)
    exact .ofRun (by simp [execOp, a1]) a2 a3 a4 a5
  case makeMap t r =>
    cases r with
    | some r => cases ha
    | none =>
      cases ha
      obtain ⟨s1, s2⟩ := HR.newO (o := .map [] 0) (O := .map #[] 0) (p := ⟨w.heap.size, 0, 0, 0⟩) hh rfl rfl ⟨#[], World.alloc_heap_new w _, rfl⟩
      exact .ofRun (y := .map (some w.heap.size)) (L := []) (by simp [execOp, Instr.makeMap]) ⟨_, upd_same _ _ _, rfl⟩ s1 s2 rfl
  case lookup t x i ok =>
    simp only [Option.map_eq_some_iff, Stp.val.injEq] at ha
    obtain ⟨z, hz, rfl, rfl⟩ := ha
    exact .ofV hh (fun y hy => by simp [execOp, hy]) (lookupA_run (P := P) hh (hf x) (hf i) hz)
  case mapUpdate t m k x =>
    simp only [Option.map_eq_some_iff, Stp.val.injEq] at ha
    obtain ⟨h'', hs, rfl, rfl⟩ := ha
    obtain ⟨w', L, a1, a2, a3, a4⟩ := mapSetA_run (P := P) hh (hf m) (hf k) (hf x) hs
    exact ⟨ρ, w', undef, L, .inr ⟨by simp [execOp, a1], rfl⟩, rfl, a2, a3, a4⟩
  case insert t m k x =>
    simp only [Option.map_eq_some_iff, Stp.val.injEq] at ha
    obtain ⟨h'', hs, rfl, rfl⟩ := ha
    obtain ⟨w', L, a1, a2, a3, a4⟩ := mapSetA_run (P := P) hh (hf m) (hf k) (hf x) hs
    exact ⟨ρ, w', undef, L, .inr ⟨by simp [execOp, a1], rfl⟩, rfl, a2, a3, a4⟩
  case mapEntry t m k =>
    simp only [Option.map_eq_some_iff, Prod.exists, Stp.val.injEq] at ha
    obtain ⟨v', h'', hz, rfl, rfl⟩ := ha
    obtain ⟨w', y, L, a1, a2, a3, a4, a5⟩ := mapEntA_run (P := P) hh (hf m) (hf k) hz
    exact .ofRun (by simp [execOp, a1]) a2 a3 a4 a5
  case entryStore t m b x =>
    simp only [Option.map_eq_some_iff, Stp.val.injEq] at ha
    obtain ⟨h'', hs, rfl, rfl⟩ := ha
    obtain ⟨w', L, a1, a2, a3, a4⟩ := entSetA_run (P := P) (mt := t) hh (hf m) (hf b) (hf x) hs
    exact ⟨ρ, w', undef, L, .inr ⟨by simp [execOp, a1], rfl⟩, rfl, a2, a3, a4⟩
  case load t a =>
    simp only [Option.map_eq_some_iff, Stp.val.injEq] at ha
    obtain ⟨z, hz, rfl, rfl⟩ := ha
    exact .ofV hh (fun y hy => by simp [execOp, hy]) (loadA_run hh (hf a) hz)
  case store t a x =>
    simp only [Option.map_eq_some_iff, Stp.val.injEq] at ha
    obtain ⟨z, hz, rfl, rfl⟩ := ha
    obtain ⟨w', L, a1, a2, a3, a4⟩ := storeA_run (P := P) hh (hf a) (hf x) hz
    exact ⟨ρ, w', undef, L, .inr ⟨by simp [execOp, a1], rfl⟩, rfl, a2, a3, a4⟩
  case binOp op t x y yt =>
    split at ha
    · rename_i a b hx hy
      have h1 := plain_rel hx (hf x)
      have h2 := plain_rel hy (hf y)
      exact pureA_run hh ha _ (fun z hz => by simp only [execOp, h1, h2]; simp only [Sem.run_bind] at hz ⊢; rw [hz]; rfl)
    · split at ha
      · rename_i a b hx hy
        have h1 := unP_rel hx (hf x)
        have h2 := unP_rel hy (hf y)
        exact binS_run hh ha _ (fun z hz => by simp only [execOp, h1, h2]; simp only [Sem.run_bind] at hz ⊢; rw [hz]; rfl)
      split at ha
      · rename_i d hd
        split at ha
        · simp only [Option.map_eq_some_iff, Stp.val.injEq] at ha
          obtain ⟨z, hz, rfl, rfl⟩ := ha
          have := eqNil_run (P := P) (w := w) (neg := false) (u1 := x) (u2 := y) hd (hf x) (hf y) hz
          simp only [cond_false] at this
          refine .same (y := z) hh ?_ rfl
          simp only [execOp]; simp only [Sem.run_bind] at this ⊢; rw [this]; rfl
        · simp only [Option.map_eq_some_iff, Stp.val.injEq] at ha
          obtain ⟨z, hz, rfl, rfl⟩ := ha
          have := eqNil_run (P := P) (w := w) (neg := true) (u1 := x) (u2 := y) hd (hf x) (hf y) hz
          simp only [cond_true] at this
          refine .same (y := z) hh ?_ rfl
          simp only [execOp]; simp only [Sem.run_bind] at this ⊢; rw [this]; rfl
        · cases ha
      · cases ha
  case unOp op t x =>
    split at ha
    · rename_i a hx
      have h1 := plain_rel hx (hf x)
      exact pureA_run hh ha _ (fun z hz => by simp [execOp, h1, hz])
    · split at ha
      · rename_i a hx
        have h1 := unP_rel hx (hf x)
        exact pureS_run hh ha _ (fun z hz => by simp [execOp, h1, hz])
      · cases ha
  case convert s d x =>
    split at ha
    · rename_i n off len cap hx
      simp only [Option.map_eq_some_iff, Stp.val.injEq] at ha
      obtain ⟨v', hb, rfl, rfl⟩ := ha
      have h1 := hf x
      rw [hx] at h1
      have := bytesA_run hh h1 hb
      exact .same hh (y := v') (by simp [execOp, this]) rfl
    · split at ha
      · rename_i a hx
        have h1 := plain_rel hx (hf x)
        exact pureA_run hh ha _ (fun z hz => by simp [execOp, h1, hz])
      · split at ha
        · rename_i a hx
          have h1 := unP_rel hx (hf x)
          exact pureS_run hh ha _ (fun z hz => by simp [execOp, h1, hz])
        · cases ha
  case makeFunc fn first cap =>
    cases fn <;> simp only [] at ha <;> try cases ha
    rename_i fid
    cases hb : Nat.beq first.size 0 with
    | false => simp [hb] at ha
    | true =>
      simp only [hb, cond_true] at ha
      cases ha
      have h0 := beq0 hb
      have hfe : first = #[] := Array.eq_empty_of_size_eq_zero h0
      subst hfe
      refine .same (y := .func (.func fid) #[] (cap.map g)) hh (by simp [execOp, Instr.makeFunc]) ⟨_, rfl, ?_⟩
      simpa using maps_rel hf cap.toList
  case slice t x lo hi mx =>
    split at ha
    · rename_i s hx
      have hxs := hf x
      rw [hx] at hxs
      have hxs : g x = .string s := hxs
      split at ha
      · rename_i hu
        split at ha
        · rename_i l k hl hk
          cases hc : (Nat.ble l k && Nat.ble k s.size) with
          | false => simp [hc] at ha
          | true =>
            simp only [hc, cond_true] at ha
            cases ha
            simp only [Bool.and_eq_true, Nat.ble_eq] at hc
            have hrun := bounds_run (P := P) (r := ρ) (f := g) (lo := lo) (hi := hi) (mx := none) (m := s.size) (n := 0) (cap := s.size) hf hl hk (fun _ => rfl) (fun x h => by cases h) hc.1 hc.2 (Nat.le_refl _) false w
            simp only [Option.map_none] at hrun
            exact .same (y := .string (s.extract l k)) hh (by simp [execOp, hxs, Instr.sliceAt, Instr.slice, run_underlying hu, hrun]) rfl
        · cases ha
      · cases ha
    · split at ha
      · rename_i l k hl hk
        have hkE : ∃ n, lenA (f x) = some n ∧ boundA n f hi = some k := by
          cases hlen : lenA (f x) with
          | none => simp [hlen] at hk
          | some n => simp [hlen] at hk; exact ⟨n, rfl, hk⟩
        obtain ⟨n, hn, hk⟩ := hkE
        split at ha
        · simp only [Option.map_eq_some_iff, Stp.val.injEq] at ha
          obtain ⟨z, hz, rfl, rfl⟩ := ha
          exact .ofV hh (fun y hy => by simp only [Option.map_none] at hy; simp [execOp, hy]) (sliceA_run (P := P) (n := 0) (mx := none) hh hf (hf x) hn hl hk (fun _ => rfl) (fun x h => by cases h) hz)
        · rename_i m
          split at ha
          · rename_i hi' m' hm' _
            simp only [Option.map_eq_some_iff, Stp.val.injEq] at ha
            obtain ⟨z, hz, rfl, rfl⟩ := ha
            exact .ofV hh (fun y hy => by simp only [Option.map_some] at hy; simp [execOp, hy]) (sliceA_run (P := P) (n := 0) (hi := some hi') (mx := some m) hh hf (hf x) hn hl hk (fun h => by cases h) (fun x h => ⟨rfl, m', rfl, hm'⟩) hz)
          · cases ha
      · cases ha
  case fieldAddr t x k =>
    simp only [Option.map_eq_some_iff, Stp.val.injEq] at ha
    obtain ⟨z, hz, rfl, rfl⟩ := ha
    exact .ofV hh (fun y hy => by simp [execOp, hy]) (fieldA_run (hf x) hz)
  case field t x k =>
    simp only [Option.map_eq_some_iff, Stp.val.injEq] at ha
    obtain ⟨z, hz, rfl, rfl⟩ := ha
    exact .ofV hh (fun y hy => by simp [execOp, hy]) (fieldVA_run (hf x) hz)
  case indexAddr t x i =>
    simp only [Option.map_eq_some_iff, Stp.val.injEq] at ha
    obtain ⟨z, hz, rfl, rfl⟩ := ha
    exact .ofV hh (fun y hy => by simp [execOp, hy]) (indexAddrA_run hh (hf x) (hf i) hz)
  case index t x i =>
    split at ha
    · rename_i a b hx hy
      have h1 := plain_rel hx (hf x)
      have h2 := plain_rel hy (hf i)
      exact pureA_run hh ha _ (fun z hz => by simp [execOp, h1, h2, hz])
    · split at ha
      · rename_i a b hx hy
        have h1 := unP_rel hx (hf x)
        have h2 := unP_rel hy (hf i)
        exact pureS_run hh ha _ (fun z hz => by simp [execOp, h1, h2, hz])
      · cases ha
  case extract x i =>
    split at ha
    · rename_i vs hx
      have h1 := hf x
      rw [hx] at h1
      have h1 : g x = .tuple vs := h1
      simp only [Option.map_eq_some_iff, Stp.val.injEq] at ha
      obtain ⟨z, hz, rfl, rfl⟩ := ha
      exact .same (y := z) hh (by simp [execOp, h1, Instr.extract, hz]) rfl
    · rename_i vs hx
      have h1 := hf x
      rw [hx] at h1
      have h1 : g x = .tuple vs := h1
      simp only [Option.map_eq_some_iff, Stp.val.injEq] at ha
      obtain ⟨z, hz, rfl, rfl⟩ := ha
      exact .same (y := z) hh (by simp [execOp, h1, Instr.extract, hz]) rfl
    · rename_i vs hx
      have h1 := hf x
      rw [hx] at h1
      obtain ⟨ys, h1, hr⟩ := h1
      simp only [Option.map_eq_some_iff, Stp.val.injEq] at ha
      obtain ⟨z, hz, rfl, rfl⟩ := ha
      obtain ⟨y, hy, hr⟩ := hr.get hz
      have hy : ys[i]? = some y := by simpa using hy
      exact .same (y := y) hh (by simp [execOp, h1, Instr.extract, hy]) hr
    · cases ha
  case nilCheck x =>
    split at ha
    · rename_i n i c hx
      cases ha
      have h1 := hf x
      rw [hx] at h1
      have h2 := h1
      obtain ⟨p, hp, h1⟩ := h1
      exact .same (y := g x) hh (by simp [execOp, h1]) h2
    · rename_i fid cs hx
      cases ha
      have h1 := hf x
      rw [hx] at h1
      have h2 := h1
      obtain ⟨ys, h1, hr⟩ := h1
      exact .same (y := g x) hh (by simp [execOp, h1]) h2
    · rename_i n hx
      cases ha
      have h1 := hf x
      rw [hx] at h1
      have h2 := h1
      obtain ⟨p, hp, h1⟩ := h1
      exact .same (y := g x) hh (by simp [execOp, h1]) h2
    · cases ha
  case call c =>
    split at ha
    · split at ha
      · cases ha
      · cases ha
      · rename_i first cs hx
        cases hb : Nat.beq first.size 0 <;> simp [hb] at ha
      · cases ha
    · rename_i b hb
      have := builtinA_run (P := P) (ys := (c.args.map g).toList) hh (by simpa using maps_rel hf c.args.toList) ha
      obtain ⟨ρ', w', y, L, a1, a2, a3, a4, a5⟩ := this
      refine ⟨ρ', w', y, L, ?_, a2, a3, a4, a5⟩
      have he : (execOp g { dst, op := .call c, type := ty, pos, after, guard }).run P w = (builtin b c.argTypes ty (c.args.map fun | .const _ => true | _ => false) (c.args.map g).toList.toArray).run P w := by
        simp [execOp, resolve, hb, invoke]
        have em : (List.map g c.args.toList).toArray = c.args.map g := by apply Array.ext'; simp
        rw [em]
        rfl
      simp only [he]
      exact a1
    · cases ha
  all_goals cases ha

theorem aopC_call {f : Operand → AV} {g : Operand → Value} {o : Oper} {fid : FuncId} {args : List AV} {h h' : Hp} {ρ : Rho} (hf : ∀ x, VRel ρ (f x) (g x)) (ha : aopC P f o h = some (.call fid args h')) :
    h' = h ∧ ∃ ys : Array Value, VRels ρ args ys.toList ∧ ∀ w, (execOp g o).run P w = (callFunc fid ys).run P w := by
  obtain ⟨dst, op, ty, pos, after, guard⟩ := o
  unfold aopC at ha
  cases op <;> simp only [] at ha
  case call c =>
    split at ha
    · rename_i fo hc
      split at ha
      · rename_i k cs hx
        cases ha
        have h1 := hf fo
        rw [hx] at h1
        obtain ⟨ys, h1, hr⟩ := h1
        refine ⟨rfl, c.args.map g ++ ys, ?_, fun w => ?_⟩
        · simp only [Array.toList_append, Array.toList_map]
          exact (maps_rel hf c.args.toList).append hr
        · simp [execOp, resolve, hc, Deferred.ofValue, h1, invoke]
      · cases ha
      · rename_i k first cs hx
        cases hb : Nat.beq first.size 0 with
        | false => simp [hb] at ha
        | true =>
          simp only [hb, cond_true] at ha
          cases ha
          have h0 := beq0 hb
          have hfe : first = #[] := Array.eq_empty_of_size_eq_zero h0
          subst hfe
          have h1 := hf fo
          rw [hx] at h1
          have h1 : g fo = .func (.func fid) #[] cs := h1
          refine ⟨rfl, c.args.map g ++ cs, ?_, fun w => ?_⟩
          · simp only [Array.toList_append, Array.toList_map]
            exact (maps_rel hf c.args.toList).append (VRels.ofPlain _)
          · simp [execOp, resolve, hc, Deferred.ofValue, h1, invoke]
      · cases ha
    · rename_i b hb
      exfalso
      unfold builtinA at ha
      repeat' split at ha
      all_goals first
        | cases ha
        | (cases hn : noIntB P c.argTypes <;> simp [hn] at ha)
    · cases ha
  all_goals first
    | cases ha
    | (simp only [Option.map_eq_some_iff] at ha; obtain ⟨x, _, hx⟩ := ha; cases hx)
    | skip
  case makeFunc fn first cap =>
    exfalso
    cases fn <;> simp [cond_eq_ite] at ha
  case makeMap t r => cases r <;> cases ha
  all_goals
    exfalso
    try simp only [pureA, pureS, binS, cond_eq_ite] at ha
    repeat' split at ha
    all_goals first
      | cases ha
      | simp at ha

theorem aopC_yield {f : Operand → AV} {g : Operand → Value} {o : Oper} {n : Nat} {args : List AV} {h h' : Hp} {ρ : Rho} (hf : ∀ x, VRel ρ (f x) (g x)) (ha : aopC P f o h = some (.yield n args h')) :
    h' = h ∧ ∃ (ys : Array Value) (p : Pl), VRels ρ args ys.toList ∧ ρ n = some p ∧ ∀ w, (execOp g o).run P w = (Instr.yield p.b ys).run P w := by
  obtain ⟨dst, op, ty, pos, after, guard⟩ := o
  unfold aopC at ha
  cases op <;> simp only [] at ha
  case call c =>
    split at ha
    · rename_i fo hc
      split at ha
      · cases ha
      · rename_i k hx
        cases ha
        have h1 := hf fo
        rw [hx] at h1
        obtain ⟨p, hp, h1⟩ := h1
        refine ⟨rfl, c.args.map g, p, ?_, hp, fun w => ?_⟩
        · simp only [Array.toList_map]
          exact maps_rel hf c.args.toList
        · simp [execOp, resolve, hc, Deferred.ofValue, h1, invoke]
      · rename_i k first cs hx
        cases hb : Nat.beq first.size 0 <;> simp [hb] at ha
      · cases ha
    · rename_i b hb
      exfalso
      unfold builtinA at ha
      repeat' split at ha
      all_goals first
        | cases ha
        | (cases hn : noIntB P c.argTypes <;> simp [hn] at ha)
    · cases ha
  all_goals first
    | cases ha
    | (simp only [Option.map_eq_some_iff] at ha; obtain ⟨x, _, hx⟩ := ha; cases hx)
    | skip
  case makeFunc fn first cap =>
    exfalso
    cases fn <;> simp [cond_eq_ite] at ha
  case makeMap t r => cases r <;> cases ha
  all_goals
    exfalso
    try simp only [pureA, pureS, binS, cond_eq_ite] at ha
    repeat' split at ha
    all_goals first
      | cases ha
      | simp at ha

end Ev
end Go.Proofs.Ytengccmjlaejfaa
end
section
namespace Go.Proofs.Ytengccmjlaejfaa
namespace Ev
open Go.RowKit
set_option linter.unusedSectionVars false
variable [Fz]
variable {P : Program}

theorem intA_rel {x : AV} {j : Int} {y : Value} {ρ : Rho} (h : intA x = some j) (r : VRel ρ x y) : ∃ k, y = .int k j := by
  unfold intA at h
  split at h
  · cases h; exact ⟨_, r⟩
  · cases h; exact ⟨_, r⟩
  · cases h
theorem intA_bound {x : Operand} {f : Operand → AV} {j : Int} {d : Nat} (h : intA (f x) = some j) (h0 : 0 ≤ j) : boundA d f (some x) = some j.toNat := by
  unfold intA at h
  unfold boundA
  simp only []
  split at h
  · rename_i k j' hx; cases h; rw [decide_eq_true h0]; rfl
  · rename_i k j' hx; cases h; rw [decide_eq_true h0]; rfl
  · cases h
theorem store_rows {t : TypeId} {n i c len k : Nat} {f : Nat → Nat → D} {ks : List TK} {ds : List D} {x : AV} {y u : Value} {ρ : Rho} {h : Hp} {w : World} (hh : HR ρ h w) (hx : VRel ρ (.ptr n i c) y) (hv : VRel ρ x u) (ho : h.ob.get n = some (.rows f len ks)) (hi : i < len) (hk : szOf P t = some k) (hd : avDs x.cells = some ds) (hl : ds.length = k) (hf : fitsD ((ks.drop c).take k) ds = true) :
    ∃ w' L, (Instr.storeAt t y u).run P w = .ok () w' ∧ HR ρ (h.set n (.rows (updD f i c ds) len ks)) w' ∧ Stepped ρ h.nx L w ρ (h.set n (.rows (updD f i c ds) len ks)).nx w' ∧ (h.set n (.rows (updD f i c ds) len ks)).lg = L ++ h.lg := by
  obtain ⟨p, hp, rfl⟩ := hx
  obtain ⟨hz1, ⟨hgc, hz2, hz3⟩, C, e, hb, hC, hcell⟩ := hh.objP hp ho
  have hc := cells_rel hv
  obtain ⟨U, hU⟩ : ∃ U, u.cells.toList = U := ⟨_, rfl⟩
  rw [hU] at hc
  obtain ⟨a1, a2⟩ := avDs_rel hd hc
  obtain ⟨f1, f2⟩ := fitsD_get hf
  simp only [List.length_take, List.length_drop] at f1
  have hck : c + k ≤ ks.length ∨ k = 0 := by omega
  have hY : U.length = k := by omega
  have hone : ∀ v ∈ U, v.oneCell' = true := by
    intro v hv
    obtain ⟨j, hj⟩ := List.getElem?_of_mem hv
    have hlt := (List.getElem?_eq_some_iff.1 hj).1
    have hlt' : j < ds.length := by omega
    obtain ⟨tk, _, g2⟩ := f2 j ds[j] (by simp [hlt'])
    exact fit_one g2 (a2 j _ v (by simp [hlt']) hj)
  have hin : (p.o + (i * ks.length + c) + k ≤ C.size ∧ c + k ≤ ks.length) ∨ k = 0 := by
    rcases hck with hck | hk0
    · have := Nat.mul_le_mul_right ks.length (show i + 1 ≤ len by omega)
      rw [Nat.add_mul] at this; left; omega
    · exact .inr hk0
  have hrow : (storeCells ⟨p.b, p.o + (i * ks.length + c), none⟩ U).run P w = .ok () (w.setRow p.b (C.toList.take (p.o + (i * ks.length + c)) ++ U ++ C.toList.drop (p.o + (i * ks.length + c) + U.length)).toArray) := by
    rcases hin with hin | hk0
    · have := run_storeCells_at P p.b (p.o + (i * ks.length + c)) e U 0 C w hb (by omega) hone
      simpa using this
    · have hnil : U = [] := List.length_eq_zero_iff.1 (by omega)
      rw [hnil]
      simp only [storeCells, List.append_nil, List.length_nil, Nat.add_zero, List.take_append_drop, Array.toArray_toList]
      rw [setRow_self w p.b C e (0, 0) hb]
      rfl
  generalize hC' : (C.toList.take (p.o + (i * ks.length + c)) ++ U ++ C.toList.drop (p.o + (i * ks.length + c) + U.length)).toArray = C' at hrow
  have hsz : C'.size = C.size := by
    subst hC'
    rcases hin with hin | hk0
    · simp only [List.size_toArray, List.length_append, List.length_take, List.length_drop, Array.length_toList]; omega
    · have hnil : U = [] := List.length_eq_zero_iff.1 (by omega)
      rw [hnil]; simp
  have hor : ORel ρ (.rows (updD f i c ds) len ks) p (w.setRow p.b C') := by
    refine ⟨hz1, ⟨hgc, hz2, hz3⟩, C', _, setRow_heap w p.b C C' _ _ hb, hsz.trans hC, fun i' c' hi' hc' => ?_⟩
    unfold updD
    cases hcond : (Nat.beq i' i && (Nat.ble c c' && Nat.blt c' (c + ds.length))) with
    | true =>
      simp only [Bool.and_eq_true, Nat.ble_eq, Nat.blt_eq] at hcond
      obtain ⟨e1, e2, e3⟩ := hcond
      have e1 := Nat.eq_of_beq_eq_true e1
      subst e1
      simp only [cond_true]
      have hlt : c' - c < ds.length := by omega
      obtain ⟨tk, g1, g2⟩ := f2 (c' - c) ds[c' - c] (by simp [hlt])
      have hd' : ds.getD (c' - c) (.v undef) = ds[c' - c] := by simp [List.getD_eq_getElem?_getD, hlt]
      rw [hd']
      rw [List.getElem?_take_of_lt (by omega), List.getElem?_drop, show c + (c' - c) = c' by omega] at g1
      have hlu : c' - c < U.length := by omega
      refine ⟨⟨tk, g1, g2⟩, U[c' - c], ?_, a2 (c' - c) ds[c' - c] U[c' - c] (by simp [hlt]) (by simp [hlu])⟩
      subst hC'
      rcases hin with hin | hk0
      · simp only [List.getElem?_toArray]
        rw [List.append_assoc, List.getElem?_append_right (by simp; omega), List.getElem?_append_left (by simp only [List.length_take, Array.length_toList]; omega)]
        simp only [List.length_take, Array.length_toList]
        rw [Nat.min_eq_left (by omega), show p.o + (i' * ks.length + c') - (p.o + (i' * ks.length + c)) = c' - c by omega]
        simp [hlu]
      · omega
    | false =>
      simp only [cond_false]
      obtain ⟨g1, z, g2, g3⟩ := hcell i' c' hi' hc'
      refine ⟨g1, z, ?_, g3⟩
      have hbd := (Array.getElem?_eq_some_iff.1 g2).1
      subst hC'
      rcases hin with hin | hk0
      · have hdis : i' * ks.length + c' < i * ks.length + c ∨ i * ks.length + c + k ≤ i' * ks.length + c' := by
          rcases Nat.lt_trichotomy i' i with hlt | rfl | hgt
          · left
            have := Nat.mul_le_mul_right ks.length (show i' + 1 ≤ i by omega)
            rw [Nat.add_mul] at this; omega
          · rw [show Nat.beq i' i' = true from Nat.beq_refl i'] at hcond
            rcases Nat.lt_or_ge c' c with h1 | h1
            · left; omega
            · right
              have : ¬ c' < c + ds.length := fun h2 => by
                have e1 : Nat.ble c c' = true := by simpa using h1
                have e2 : Nat.blt c' (c + ds.length) = true := by simpa using h2
                rw [e1, e2] at hcond; cases hcond
              omega
          · right
            have := Nat.mul_le_mul_right ks.length (show i + 1 ≤ i' by omega)
            rw [Nat.add_mul] at this; omega
        simp only [List.getElem?_toArray]
        rcases hdis with hd1 | hd1
        · rw [List.append_assoc, List.getElem?_append_left (by simp only [List.length_take, Array.length_toList]; omega), List.getElem?_take_of_lt (by omega)]
          simpa using g2
        · rw [List.getElem?_append_right (by simp only [List.length_append, List.length_take, Array.length_toList]; omega)]
          simp only [List.length_append, List.length_take, Array.length_toList]
          rw [List.getElem?_drop, Nat.min_eq_left (by omega), show p.o + (i * ks.length + c) + U.length + (p.o + (i' * ks.length + c') - (p.o + (i * ks.length + c) + U.length)) = p.o + (i' * ks.length + c') by omega]
          simpa using g2
      · have hnil : U = [] := List.length_eq_zero_iff.1 (by omega)
        rw [hnil]
        simpa using g2
  have hst := HRel.setObj (o' := .rows (updD f i c ds) len ks) hh hp ho rfl rfl (w' := w.setRow p.b C') (by simp) (fun b hb => setRow_other w p.b b C' hb) hor
  refine ⟨w.setRow p.b C', [n], ?_, ?_, ⟨Nat.le_refl _, fun _ _ => rfl, fun k q hk e => absurd (hh.dm k q e) (by simpa using hk), by simp, rfl, rfl, rfl, fun b hb' hne => setRow_other w p.b b C' (fun e => hne n p (by simp) (hh.dm _ _ hp) hp e.symm)⟩, rfl⟩
  · have hus : u.cells.size = k := by rw [← hY, ← hU]; simp
    simp [Instr.storeAt, Instr.sureAddr, storeVar, szOf_run hk, hus, hz1, hU, hrow]
  · unfold HR Hp.set Hp.log Hp.put
    rw [T.get_put]
    exact hst

/-- A part of a list. -/
theorem slice_run {t e : TypeId} {a : Option Addr} {lo hi : Option Operand} {l j : Int} {len q k : Nat} {f : Operand → AV} {g : Operand → Value} {r : Rho} {w : World} (hf : ∀ x, VRel r (f x) (g x)) (hu : P.underlying t = some (.slice e)) (hk : szOf P e = some k)
    (hl : (match lo with
        | none => some (0 : Int)
        | some l => intA (f l)) = some l) (hj : (match hi with
        | none => some (len : Int)
        | some hi => intA (f hi)) = some j) (h0 : 0 ≤ l) (h1 : l ≤ j) (h2 : j ≤ len) (hq : len ≤ q) :
    (Instr.sliceAt t (.slice a len q) (lo.map g) (hi.map g) none).run P w = .ok (.slice (if q = l.toNat then a else a.map (·.add (l.toNat * k))) (j - l).toNat (q - l.toNat)) w := by
  have b1 : boundA 0 f lo = some l.toNat := by
    cases lo with
    | none => simp only [Option.some.injEq] at hl; subst hl; rfl
    | some x => exact intA_bound hl h0
  have b2 : boundA len f hi = some j.toNat := by
    cases hi with
    | none => simp only [Option.some.injEq] at hj; subst hj; simp [boundA]
    | some x => exact intA_bound hj (by omega)
  have hrun := bounds_run (P := P) (r := r) (f := g) (lo := lo) (hi := hi) (mx := none) (m := q) (n := 0) (cap := q) hf b1 b2 (fun _ => rfl) (fun x h => by cases h) (by omega) (by omega) (Nat.le_refl _) true w
  simp only [Option.map_none] at hrun
  rw [show (j - l).toNat = j.toNat - l.toNat by omega]
  simp [Instr.sliceAt, Instr.slice, run_underlying hu, hrun, szOf_run hk]

theorem tkOf_fit {x : Value} {tk : TK} (h : tkOf x = some tk) : tk.fit (.v x) = true := by
  unfold tkOf at h
  split at h
  · cases h; simp [TK.fit]
  · cases h; rfl
  · cases h; rfl
  · cases h
theorem opn_gc {ρ : Rho} {h : Hp} {w : World} (hh : HR ρ h w) : ∀ k, 65536 + k ≤ h.nx → opn h k = true → Fz.gc = false
  | 0, _, e => by cases e
  | k + 1, hk, e => by
    unfold opn at e
    rw [Bool.or_eq_true] at e
    rcases e with e | e
    · split at e
      · rename_i cs sz fa ti sh ho
        obtain ⟨x, hx, hz⟩ := List.any_eq_true.1 e
        obtain ⟨p, _, _, _, C, _, _, _, hr⟩ := HRel.obj hh (65536 + k) _ ho (by omega)
        obtain ⟨j, hj⟩ := List.getElem?_of_mem hx
        obtain ⟨y, _, r⟩ := hr j x hj
        cases x with
        | fz f n ks => exact r.1
        | _ => cases hz
      · cases e
    · exact opn_gc hh k (by omega) e
theorem openL_val {f : Operand → AV} {g : Operand → Value} {o : Oper} {v : AV} {h h' : Hp} {ρ : Rho} {w : World} (hh : HR ρ h w) (hf : ∀ x, VRel ρ (f x) (g x)) (ha : openL P f o h = some (true, some (v, h'))) :
    OpOk (fun w => (execOp g o).run P w) ρ h w v h' := by
  obtain ⟨dst, op, ty, pos, after, guard⟩ := o
  unfold openL at ha
  cases op <;> simp only [] at ha <;> try (cases ha; done)
  case makeSlice t l c =>
    split at ha
    · rename_i e j k hu hj hk
      split at ha
      · rename_i i x hi hz
        split at ha
        · rename_i tk ht
          cases hb : (((f l).isS && opn h (h.nx - 65536)) && Nat.beq i.size 1) with
          | false => rw [hb] at ha; cases ha
          | true =>
            rw [hb] at ha
            simp only [Bool.and_eq_true] at hb
            obtain ⟨⟨_, ho⟩, hs⟩ := hb
            have hs := Nat.eq_of_beq_eq_true hs
            simp only [cond_true, Option.some.injEq, Prod.mk.injEq, Bool.and_eq_true, decide_eq_true_eq] at ha
            obtain ⟨⟨⟨h1, rfl⟩, h3, h4⟩, rfl, rfl⟩ := ha
            have h3 : j.toNat ≤ 1073741824 := by unfold small at h3; rwa [Nat.ble_eq] at h3
            have h4 : i.bytes * j.toNat ≤ 1073741824 := by unfold small at h4; rwa [Nat.ble_eq] at h4
            have hgc : Fz.gc = false := by
              cases hn : (h.nx - 65536) with
              | zero => rw [hn] at ho; cases ho
              | succ n => exact opn_gc hh (h.nx - 65536) (by omega) ho
            unfold zeroOf at hz
            rw [hi] at hz
            simp only [] at hz
            split at hz
            · rename_i zv hzv
              simp only [Option.some.injEq] at hz
              obtain ⟨k1, e1⟩ := intA_rel hj (hf l)
              obtain ⟨k2, e2⟩ := intA_rel hk (hf c)
              have hzc : zv.cells = #[x] := by
                apply Array.ext'
                have := congrArg (List.map fun a => match a with | AV.v y => y | _ => undef) hz
                simpa using this
              have hrun := run_make (P := P) w t e i zv hu hi hzv k1 k2 j j h1 (Int.le_refl _) (by
                have : (i.bytes : Int) * j = ((i.bytes * j.toNat : Nat) : Int) := by rw [Int.natCast_mul, Int.toNat_of_nonneg h1]
                omega) (by omega)
              rw [hs, hzc] at hrun
              obtain ⟨r1, r2⟩ := HR.newO (p := ⟨w.heap.size, 0, 1, (madeCells #[x] (j.toNat * 1)).size⟩) (O := .cells (madeCells #[x] (j.toNat * 1)) e) (o := .rows (fun _ _ => .v x) j.toNat [tk]) hh rfl rfl (by
                refine ⟨rfl, ⟨hgc, by simp [size_madeCells], by omega⟩, _, e, obj_alloc_new w _, rfl, fun a b ha hb => ?_⟩
                have b0 : b = 0 := by simp at hb; omega
                subst b0
                refine ⟨⟨tk, rfl, tkOf_fit ht⟩, x, ?_, rfl⟩
                simp [madeCells, ha, Nat.mod_one])
              exact ⟨_, _, .slice (some ⟨w.heap.size, 0, none⟩) j.toNat j.toNat, [], .inl (by simp [execOp, e1, e2, hrun]), ⟨hgc, .inr ⟨_, j.toNat, upd_same _ _ _, rfl, Nat.le_refl _, by simp [size_madeCells]⟩⟩, r1, r2, rfl⟩
            · cases hz
        · cases ha
      · cases ha
    · cases ha
  case load t a =>
    split at ha
    · rename_i n i c hx
      split at ha
      · rename_i fd len ks ho
        simp only [Option.some.injEq, Prod.mk.injEq, Option.map_eq_some_iff, Nat.blt_eq] at ha
        obtain ⟨hi, z, hz, rfl, rfl⟩ := ha
        have hxa := hf a
        rw [hx] at hxa
        obtain ⟨p, hp, hga⟩ := hxa
        obtain ⟨hz1, ⟨hgc, _, _⟩, C, e, hb, _, hcell⟩ := hh.objP hp ho
        have hl := loadD_run (P := P) (ρ := ρ) hgc hb hi hcell hz
        refine .ofV (P := P) (m := Instr.loadAt t (g a)) hh (fun y hy => by simp [execOp, hy]) ?_
        rw [hga, hz1]
        exact hl
      · cases ha
    · cases ha
  case store t a x =>
    split at ha
    · rename_i n i c hx
      split at ha
      · rename_i fd len ks ho
        simp only [Option.some.injEq, Prod.mk.injEq, Nat.blt_eq] at ha
        obtain ⟨hi, ha⟩ := ha
        split at ha
        · rename_i k ds hk hds
          cases hc : (Nat.beq ds.length k && fitsD ((ks.drop c).take k) ds) with
          | false => rw [hc] at ha; cases ha
          | true =>
            rw [hc] at ha
            cases ha
            simp only [Bool.and_eq_true] at hc
            have hxa := hf a
            rw [hx] at hxa
            obtain ⟨w', L, a1, a2, a3, a4⟩ := store_rows (P := P) hh hxa (hf x) ho hi hk hds (Nat.eq_of_beq_eq_true hc.1) hc.2
            exact ⟨ρ, w', undef, L, .inr ⟨by simp [execOp, a1], rfl⟩, rfl, a2, a3, a4⟩
        · cases ha
      · cases ha
    · cases ha
  case indexAddr t x i =>
    split at ha
    · rename_i e j hu hj
      obtain ⟨kd, hgi⟩ := intA_rel hj (hf i)
      split at ha
      · rename_i k hk
        have hxx := hf x
        split at ha
        · rename_i n len hx
          rw [hx] at hxx
          split at ha
          · rename_i fd len' ks ho
            cases hc : Nat.beq ks.length k with
            | false => rw [hc] at ha; cases ha
            | true =>
              rw [hc] at ha
              simp only [cond_true, Option.some.injEq, Prod.mk.injEq, Bool.and_eq_true, decide_eq_true_eq] at ha
              obtain ⟨⟨h1, h2⟩, rfl, rfl⟩ := ha
              rcases hxx with ⟨hgc, ⟨hl, _⟩ | ⟨p, q, hp, hgx, hq, _⟩⟩
              · omega
              · have hz := (hh.objP hp ho).1
                have hck := Nat.eq_of_beq_eq_true hc
                refine .ofV (P := P) (m := Instr.indexAt t (g x) (g i)) hh (fun y hy => by simp [execOp, hy]) ⟨_, ?_, ⟨p, hp, rfl⟩⟩
                rw [hgx, hgi]
                simp [Instr.indexAt, run_underlying hu, asIntOf, h1, h2, szOf_run hk, add_at, hz, hck]
          · cases ha
        · rename_i fd len ks hx
          rw [hx] at hxx
          cases hc : Nat.beq ks.length k with
          | false => rw [hc] at ha; cases ha
          | true =>
            rw [hc] at ha
            simp only [cond_true, Option.some.injEq, Prod.mk.injEq, Bool.and_eq_true, decide_eq_true_eq] at ha
            obtain ⟨⟨h1, h2⟩, rfl, rfl⟩ := ha
            obtain ⟨hgc, hxx⟩ := hxx
            unfold FzRel at hxx
            rcases hxx with ⟨hl, _⟩ | ⟨b, o, q, C, e', fr, hgx, hq, r1, r2, r3⟩
            · omega
            · have hck := Nat.eq_of_beq_eq_true hc
              refine .ofV (P := P) (m := Instr.indexAt t (g x) (g i)) hh (fun y hy => by simp [execOp, hy]) ⟨_, ?_, ⟨hgc, b, o, ⟨C, e', fr, r1, r2, r3⟩, by omega, rfl⟩⟩
              rw [hgx, hgi]
              simp [Instr.indexAt, run_underlying hu, asIntOf, h1, h2, szOf_run hk, add_at, hck]
        · cases ha
      · cases ha
    · cases ha
  case slice t x lo hi mx =>
    cases mx with
    | some m => cases ha
    | none =>
      simp only [] at ha
      split at ha
      · rename_i e hu
        split at ha
        · rename_i k l hk hl
          have hxx := hf x
          split at ha
          · rename_i n len hx
            rw [hx] at hxx
            split at ha
            · rename_i hi' 
              split at ha
              · rename_i j fd len' ks hj ho
                cases hc : Nat.beq ks.length k with
                | false => rw [hc] at ha; cases ha
                | true =>
                  rw [hc] at ha
                  simp only [cond_true, Option.some.injEq, Prod.mk.injEq, Bool.and_eq_true, decide_eq_true_eq] at ha
                  obtain ⟨⟨h1, h2⟩, rfl, rfl⟩ := ha
                  simp only [Option.some.injEq] at hl
                  subst hl
                  have run : ∀ a q, g x = .slice a len q → len ≤ q → (execOp g ⟨dst, .slice t x none (some hi') none, ty, pos, after, guard⟩).run P w = .ok (.value (.slice a j.toNat q)) w := fun a q e1 e2 => by
                    have := slice_run (P := P) (a := a) (lo := none) (hi := some hi') (l := 0) (j := j) (w := w) hf hu hk rfl hj (Int.le_refl _) h1 h2 e2
                    simp only [Option.map_none, Option.map_some] at this
                    simp only [execOp, e1, Sem.run_bind, this, Result.andThen_ok, Option.map_none, Option.map_some]
                    cases a <;> simp [Addr.add]
                  rcases hxx with ⟨hgc, ⟨hl0, a, hgx⟩ | ⟨p, q, hp, hgx, hq, hs⟩⟩
                  · subst hl0
                    exact .same hh (run a 0 hgx (Nat.le_refl _)) ⟨hgc, .inl ⟨by omega, a, by rw [show j.toNat = 0 by omega]⟩⟩
                  · exact .same hh (run _ q hgx hq) ⟨hgc, .inr ⟨p, q, hp, rfl, by omega, hs⟩⟩
              · cases ha
            · simp only [Option.some.injEq, Prod.mk.injEq] at ha
              obtain ⟨_, rfl, rfl⟩ := ha
              simp only [Option.some.injEq] at hl
              subst hl
              have run : ∀ a q, g x = .slice a len q → len ≤ q → (execOp g ⟨dst, .slice t x none none none, ty, pos, after, guard⟩).run P w = .ok (.value (.slice a len q)) w := fun a q e1 e2 => by
                have := slice_run (P := P) (a := a) (lo := none) (hi := none) (l := 0) (j := len) (w := w) hf hu hk rfl rfl (Int.le_refl _) (by omega) (Int.le_refl _) e2
                simp only [Option.map_none] at this
                simp only [execOp, e1, Sem.run_bind, this, Result.andThen_ok, Option.map_none]
                cases a <;> simp [Addr.add]
              rcases hxx with ⟨hgc, ⟨hl0, a, hgx⟩ | ⟨p, q, hp, hgx, hq, hs⟩⟩
              · subst hl0
                exact .same hh (run a 0 hgx (Nat.le_refl _)) ⟨hgc, .inl ⟨rfl, a, rfl⟩⟩
              · exact .same hh (run _ q hgx hq) ⟨hgc, .inr ⟨p, q, hp, rfl, hq, hs⟩⟩
            · cases ha
          · rename_i fd len ks hx
            rw [hx] at hxx
            split at ha
            · rename_i j hj
              cases hc : Nat.beq ks.length k with
              | false => rw [hc] at ha; cases ha
              | true =>
                rw [hc] at ha
                simp only [cond_true, Option.some.injEq, Prod.mk.injEq, Bool.and_eq_true, decide_eq_true_eq] at ha
                obtain ⟨⟨⟨h0, h1⟩, h2⟩, rfl, rfl⟩ := ha
                have hck := Nat.eq_of_beq_eq_true hc
                have run : ∀ a q, g x = .slice a len q → len ≤ q → (execOp g ⟨dst, .slice t x lo hi none, ty, pos, after, guard⟩).run P w = .ok (.value (.slice (if q = l.toNat then a else a.map (·.add (l.toNat * k))) (j - l).toNat (q - l.toNat))) w := fun a q e1 e2 => by
                  have := slice_run (P := P) (a := a) (lo := lo) (hi := hi) (w := w) hf hu hk hl hj h0 h1 h2 e2
                  simp [execOp, e1, this]
                obtain ⟨hgc, hxx⟩ := hxx
                unfold FzRel at hxx
                rcases hxx with ⟨hl0, a, q, hgx, hq0⟩ | ⟨b, o, q, C, e', fr, hgx, hq, r1, ⟨r2, r2'⟩, r3⟩
                · subst hl0
                  refine .same hh (run a q hgx (Nat.zero_le _)) ?_
                  have e0 : (j - l).toNat = 0 := by omega
                  rw [e0]
                  refine ⟨hgc, ?_⟩
                  unfold FzRel
                  refine .inl ⟨rfl, _, _, rfl, fun e1 => ?_⟩
                  cases a with
                  | none => have := hq0 rfl; omega
                  | some a => split at e1 <;> cases e1
                · refine .same hh (run _ q hgx hq) ?_
                  refine ⟨hgc, ?_⟩
                  unfold FzRel
                  rcases Nat.eq_zero_or_pos (j - l).toNat with e0 | e0
                  · rw [e0]; refine .inl ⟨rfl, _, _, rfl, fun e1 => ?_⟩; split at e1 <;> cases e1
                  · refine .inr ⟨b, o + l.toNat * ks.length, q - l.toNat, C, e', fr, ?_, by omega, r1, ⟨?_, by omega⟩, fun i c hi hc => ?_⟩
                    · rw [if_neg (by omega)]
                      simp [add_at, hck]
                    · have := Nat.mul_le_mul_right ks.length (show l.toNat + (j - l).toNat ≤ len by omega)
                      rw [Nat.add_mul] at this; omega
                    · obtain ⟨g1, z, g2, g3⟩ := r3 (i + l.toNat) c (by omega) hc
                      refine ⟨g1, z, ?_, g3⟩
                      rw [show o + l.toNat * ks.length + (i * ks.length + c) = o + ((i + l.toNat) * ks.length + c) by rw [Nat.add_mul]; omega]
                      exact g2
            · cases ha
          · cases ha
        · cases ha
      · cases ha
  case call c =>
    split at ha
    · rename_i hb
      split at ha
      · rename_i s x st hm hts
        cases hn : noIntB P c.argTypes with
        | false => rw [hn] at ha; cases ha
        | true =>
          rw [hn] at ha
          simp only [cond_true] at ha
          have hr := maps_rel hf c.args.toList
          rw [hm] at hr
          obtain ⟨y1, r1, e1, hs, y2, r2, e2, hx, hnil⟩ := hr
          simp only [VRels] at hnil
          subst hnil
          subst e2
          obtain ⟨ρ', w', y, L, a1, a2, a3, a4, a5⟩ := appendR_run (P := P) (ty := ty) hh hs hx hts (noIntB_ok hn) ha
          refine ⟨ρ', w', y, L, .inl ?_, a2, a3, a4, a5⟩
          have em : c.args.map g = #[y1, y2] := by apply Array.ext'; simpa using e1
          simp [execOp, resolve, hb, invoke, em, builtin, a1]
      · cases ha
    · cases ha

theorem strB_rel {x : AV} {s : ByteArray} {y : Value} {ρ : Rho} (h : strB x = some s) (r : VRel ρ x y) : y = .string s := by
  unfold strB at h
  split at h
  · cases h; exact r
  · cases h; exact r
  · cases h
theorem intK_rel {x : AV} {k : IntKind} {z : Int} {y : Value} {ρ : Rho} (h : intK x = some (k, z)) (r : VRel ρ x y) : y = .int k z := by
  unfold intK at h
  split at h
  · cases h; exact r
  · cases h; exact r
  · cases h
theorem openS_val {f : Operand → AV} {g : Operand → Value} {o : Oper} {v : AV} {h h' : Hp} {ρ : Rho} {w : World} (hh : HR ρ h w) (hf : ∀ x, VRel ρ (f x) (g x)) (ha : openS P f o h = some (true, some (v, h'))) :
    OpOk (fun w => (execOp g o).run P w) ρ h w v h' := by
  obtain ⟨dst, op, ty, pos, after, guard⟩ := o
  unfold openS at ha
  cases op <;> simp only [] at ha <;> try (cases ha; done)
  case index t x i =>
    split at ha
    · rename_i s j hu hs hj
      obtain ⟨kd, hgi⟩ := intA_rel hj (hf i)
      have hgx := strB_rel hs (hf x)
      cases hb : ((f x).isS || (f i).isS) with
      | false => rw [hb] at ha; cases ha
      | true =>
        rw [hb] at ha
        simp only [cond_true, Option.some.injEq, Prod.mk.injEq, Bool.and_eq_true, decide_eq_true_eq] at ha
        obtain ⟨⟨h1, h2⟩, rfl, rfl⟩ := ha
        have hlt : j.toNat < s.size := by omega
        refine .ofV (P := P) (m := Instr.index t (g x) (g i)) hh (fun y hy => by simp [execOp, hy]) ⟨.int .u8 (byteAt s j.toNat), ?_, rfl⟩
        rw [hgx, hgi]
        have e1 : s[j.toNat]? = some s[j.toNat] := by simp [hlt]
        have hlt' : j.toNat < s.data.size := hlt
        have e2 : byteAt s j.toNat = (s[j.toNat].toNat : Int) := by
          unfold byteAt
          rw [Array.getD_eq_getD_getElem?, Array.getElem?_eq_getElem hlt']
          rfl
        rw [e2]
        simp [Instr.index, run_underlying hu, asIntOf, h1, e1]
    · cases ha
  case slice t x lo hi mx =>
    cases mx with
    | some m => cases ha
    | none =>
      simp only [] at ha
      split at ha
      · rename_i s hu hs
        have hgx := strB_rel hs (hf x)
        cases hb : ((f x).isS || (optS f lo || optS f hi)) with
        | false => rw [hb] at ha; cases ha
        | true =>
          rw [hb] at ha
          simp only [cond_true] at ha
          split at ha
          · rename_i l j hl hj
            simp only [Option.some.injEq, Prod.mk.injEq, Bool.and_eq_true, decide_eq_true_eq] at ha
            obtain ⟨⟨⟨h0, h1⟩, h2⟩, rfl, rfl⟩ := ha
            have b1 : boundA 0 f lo = some l.toNat := by
              cases lo with
              | none => simp only [Option.some.injEq] at hl; subst hl; rfl
              | some x => exact intA_bound hl h0
            have b2 : boundA s.size f hi = some j.toNat := by
              cases hi with
              | none => simp only [Option.some.injEq] at hj; subst hj; simp [boundA]
              | some x => exact intA_bound hj (by omega)
            have hrun := bounds_run (P := P) (r := ρ) (f := g) (lo := lo) (hi := hi) (mx := none) (m := s.size) (n := 0) (cap := s.size) hf b1 b2 (fun _ => rfl) (fun x h => by cases h) (by omega) (by omega) (Nat.le_refl _) false w
            simp only [Option.map_none] at hrun
            exact .same (y := .string (s.extract l.toNat j.toNat)) hh (by simp [execOp, hgx, Instr.sliceAt, Instr.slice, run_underlying hu, hrun]) rfl
          · cases ha
      · cases ha
  case binOp op t x y z =>
    split at ha
    · split at ha
      · rename_i a b hs hs2
        have hgx := strB_rel hs (hf x)
        have hgy := strB_rel hs2 (hf y)
        cases hb : ((f x).isS || (f y).isS) with
        | false => rw [hb] at ha; cases ha
        | true =>
          rw [hb] at ha
          simp only [cond_true, Option.some.injEq, Prod.mk.injEq, decide_eq_true_eq] at ha
          obtain ⟨h1, rfl, rfl⟩ := ha
          have h2 : ¬ (((a.size + b.size : Nat) : Int) > IntKind.i64.max) := by
            have : IntKind.i64.max = 9223372036854775807 := rfl
            omega
          exact .same (y := .string (a ++ b)) hh (by
            simp only [execOp, hgx, hgy]
            simp only [eqGuard, binOp, Op.stringOp, if_neg h2]
            rfl) rfl
      · cases ha
    · split at ha
      · rename_i k a k' b hs hs2
        have hgx := intK_rel hs (hf x)
        have hgy := intK_rel hs2 (hf y)
        cases hb : ((f y).isS && decide (k = k')) with
        | false => rw [hb] at ha; cases ha
        | true =>
          rw [hb] at ha
          simp only [Bool.and_eq_true, decide_eq_true_eq] at hb
          obtain ⟨_, rfl⟩ := hb
          simp only [cond_true, Option.some.injEq, Prod.mk.injEq, decide_eq_true_eq] at ha
          obtain ⟨h1, rfl, rfl⟩ := ha
          exact .same (y := .int k (a.tmod b)) hh (by
            simp only [execOp, hgx, hgy]
            simp only [eqGuard, binOp, Op.intDiv, if_neg h1, ne_eq, not_true_eq_false, if_false]
            rfl) rfl
      · cases ha
    · split at ha
      · rename_i k a k' b hs hs2
        have hgx := intK_rel hs (hf x)
        have hgy := intK_rel hs2 (hf y)
        cases hb : ((f y).isS && decide (k = k')) with
        | false => rw [hb] at ha; cases ha
        | true =>
          rw [hb] at ha
          simp only [Bool.and_eq_true, decide_eq_true_eq] at hb
          obtain ⟨_, rfl⟩ := hb
          simp only [cond_true, Option.some.injEq, Prod.mk.injEq, decide_eq_true_eq] at ha
          obtain ⟨h1, rfl, rfl⟩ := ha
          exact .same (y := .int k (k.wrap (a.tdiv b))) hh (by
            simp only [execOp, hgx, hgy]
            simp only [eqGuard, binOp, Op.intDiv, if_neg h1, ne_eq, not_true_eq_false, if_false]
            rfl) rfl
      · cases ha
    · cases ha
theorem openA_val {f : Operand → AV} {g : Operand → Value} {o : Oper} {v : AV} {h h' : Hp} {ρ : Rho} {w : World} (hh : HR ρ h w) (hf : ∀ x, VRel ρ (f x) (g x)) (ha : openA P f o h = some (true, some (v, h'))) :
    OpOk (fun w => (execOp g o).run P w) ρ h w v h' := by
  unfold openA at ha
  split at ha
  · rename_i r hr
    exact openS_val hh hf (hr.trans ha)
  · exact openL_val hh hf ha

theorem aop_val {f : Operand → AV} {g : Operand → Value} {o : Oper} {v : AV} {h h' : Hp} {ρ : Rho} {w : World} (hh : HR ρ h w) (hf : ∀ x, VRel ρ (f x) (g x)) (ha : aop P f o h = some (.val v h')) :
    OpOk (fun w => (execOp g o).run P w) ρ h w v h' := by
  unfold aop at ha
  split at ha
  · rename_i b r ho
    cases b with
    | false => cases ha
    | true =>
      simp only [cond_true, Option.map_eq_some_iff, Prod.exists, Stp.val.injEq] at ha
      obtain ⟨v', h'', rfl, rfl, rfl⟩ := ha
      exact openA_val hh hf ho
  · exact aopC_val hh hf ha
theorem aop_notC {f : Operand → AV} {o : Oper} {h : Hp} {s : Stp} (ha : aop P f o h = some s) (hs : ∀ v h', s ≠ .val v h') : aopC P f o h = some s := by
  unfold aop at ha
  split at ha
  · rename_i b r ho
    cases b with
    | false => cases ha
    | true =>
      simp only [cond_true, Option.map_eq_some_iff] at ha
      obtain ⟨x, _, rfl⟩ := ha
      exact absurd rfl (hs _ _)
  · exact ha
theorem aop_call {f : Operand → AV} {g : Operand → Value} {o : Oper} {fid : FuncId} {args : List AV} {h h' : Hp} {ρ : Rho} (hf : ∀ x, VRel ρ (f x) (g x)) (ha : aop P f o h = some (.call fid args h')) :
    h' = h ∧ ∃ ys : Array Value, VRels ρ args ys.toList ∧ ∀ w, (execOp g o).run P w = (callFunc fid ys).run P w :=
  aopC_call hf (aop_notC ha fun _ _ e => by cases e)
theorem aop_yield {f : Operand → AV} {g : Operand → Value} {o : Oper} {n : Nat} {args : List AV} {h h' : Hp} {ρ : Rho} (hf : ∀ x, VRel ρ (f x) (g x)) (ha : aop P f o h = some (.yield n args h')) :
    h' = h ∧ ∃ (ys : Array Value) (p : Pl), VRels ρ args ys.toList ∧ ρ n = some p ∧ ∀ w, (execOp g o).run P w = (Instr.yield p.b ys).run P w :=
  aopC_yield hf (aop_notC ha fun _ _ e => by cases e)

end Ev
end Go.Proofs.Ytengccmjlaejfaa
end
