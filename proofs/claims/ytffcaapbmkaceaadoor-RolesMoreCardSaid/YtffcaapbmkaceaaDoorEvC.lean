/- One operation of the evaluator, whichever. No condition. -/
import Derived.Test.YtffcaapbmkaceaaDoorEvB
namespace Go.Proofs.YtffcaapbmkaceaaDoor
namespace Ev
open Go.RowKit
set_option linter.unusedSectionVars false
variable [Fz]
variable {P : Program}

theorem OpOk.ofV {s : World → Result Next} {m : Sem Value} {ρ : Rho} {h : Hp} {w : World} {v : AV} (hh : HR ρ h w) (he : ∀ y, m.run P w = .ok y w → s w = .ok (.value y) w) (hm : ∃ z, m.run P w = .ok z w ∧ VRel ρ v z) : OpOk s ρ h w v h := by
  obtain ⟨z, h1, h2⟩ := hm
  exact .same hh (he z h1) h2

theorem zeros_rel {ρ : Rho} {t : TypeId} {z : List AV} (h : zeroOf P t = some z) : ∃ zv, (∀ w, (zeroValue t).run P w = .ok zv w) ∧ VRels ρ z zv.cells.toList := by
  obtain ⟨zv, h1, h2⟩ := zeroOf_run h
  exact ⟨zv, h1, by rw [h2]; exact VRels.ofPlain _⟩

theorem maps_rel {ρ : Rho} {f : Operand → AV} {g : Operand → Value} (h : ∀ x, VRel ρ (f x) (g x)) : ∀ (l : List Operand), VRels ρ (l.map f) (l.map g)
  | [] => rfl
  | x :: r => ⟨g x, _, rfl, h x, maps_rel h r⟩

set_option maxHeartbeats 1000000 in
theorem aopC_val {f : Operand → AV} {g : Operand → Value} {o : Oper} {v : AV} {h h' : Hp} {ρ : Rho} {w : World} (hh : HR ρ h w) (hf : ∀ x, VRel ρ (f x) (g x)) (ha : aopC P f o h = some (.val v h')) :
    OpOk (fun w => (execOp g o).run P w) ρ h w v h' := by
  obtain ⟨dst, op, ty, pos, after, guard⟩ := o
  unfold aopC at ha
  cases op <;> simp only [] at ha
  case move x => cases ha; exact .same hh rfl (hf x)
  case assign x => cases ha; exact .same hh rfl (hf x)
  case pick c a b =>
    split at ha
    · rename_i t ht
      cases ha
      have hc := hf c
      rw [ht] at hc
      have hc : g c = .bool t := hc
      exact .same hh (y := if t then g a else g b) (by simp [execOp, hc, asBool]) (by cases t <;> simp [hf])
    · rename_i t ht
      cases ha
      have hc := hf c
      rw [ht] at hc
      have hc : g c = .bool t := hc
      exact .same hh (y := if t then g a else g b) (by simp [execOp, hc, asBool]) (by cases t <;> simp [hf])
    · cases ha
  case alloc t =>
    simp only [Option.map_eq_some_iff, Stp.val.injEq] at ha
    obtain ⟨z, hz, rfl, rfl⟩ := ha
    obtain ⟨zv, h1, h2⟩ := zeros_rel (ρ := ρ) hz
    exact .fresh (C := zv.cells) (e := t) (y := .pointer (some ⟨w.heap.size, 0, none⟩)) hh (by simp [execOp, Instr.alloc, h1, newVar, newRow]) h2 ⟨_, upd_same _ _ _, by simp⟩
  case box t x =>
    cases ha
    exact .fresh (C := (g x).cells) (e := t) (y := .pointer (some ⟨w.heap.size, 0, none⟩)) hh (by simp [execOp, Instr.box, newVar, newRow]) (cells_rel (hf x)) ⟨_, upd_same _ _ _, by simp⟩
  case build t ps =>
    simp only [Option.map_eq_some_iff, Stp.val.injEq] at ha
    obtain ⟨z, hz, rfl, rfl⟩ := ha
    have := buildA_run (P := P) (w := w) (ps := ps.map fun (i, x) => (i, g x)) hz (by simpa using PRels.map hf ps.toList)
    exact .ofV hh (fun y hy => by simp [execOp, hy]) this
  case buildSlice t n ps =>
    simp only [Option.map_eq_some_iff, Prod.exists, Stp.val.injEq] at ha
    obtain ⟨v', h'', hz, rfl, rfl⟩ := ha
    obtain ⟨ρ', w', y, L, a1, a2, a3, a4, a5⟩ := buildSliceA_run (P := P) hh (ps := ps.map fun (i, x) => (i, g x)) hz (by simpa using PRels.map hf ps.toList)
    exact .ofRun (by simp [execOp, a1]) a2 a3 a4 a5
  case makeSlice t l c =>
    simp only [Option.map_eq_some_iff, Prod.exists, Stp.val.injEq] at ha
    obtain ⟨v', h'', hz, rfl, rfl⟩ := ha
    obtain ⟨ρ', w', y, L, a1, a2, a3, a4, a5⟩ := makeSliceA_run (P := P) hh hz (hf l) (hf c)
    exact .ofRun (by simp [execOp, a1]) a2 a3 a4 a5
  case makeMap t r =>
    cases r with
    | some r => cases ha
    | none =>
      cases ha
      obtain ⟨s1, s2⟩ := HR.newO (o := .map [] 0) (O := .map #[] 0) (p := ⟨w.heap.size, 0, 0, 0⟩) hh rfl rfl ⟨#[], World.alloc_heap_new w _, rfl⟩
      exact .ofRun (y := .map (some w.heap.size)) (L := []) (by simp [execOp, Instr.makeMap]) ⟨_, upd_same _ _ _, rfl⟩ s1 s2 rfl
  case lookup t x i ok =>
    simp only [Option.map_eq_some_iff, Stp.val.injEq] at ha
    obtain ⟨z, hz, rfl, rfl⟩ := ha
    exact .ofV hh (fun y hy => by simp [execOp, hy]) (lookupA_run (P := P) hh (hf x) (hf i) hz)
  case mapUpdate t m k x =>
    simp only [Option.map_eq_some_iff, Stp.val.injEq] at ha
    obtain ⟨h'', hs, rfl, rfl⟩ := ha
    obtain ⟨w', L, a1, a2, a3, a4⟩ := mapSetA_run (P := P) hh (hf m) (hf k) (hf x) hs
    exact ⟨ρ, w', undef, L, .inr ⟨by simp [execOp, a1], rfl⟩, rfl, a2, a3, a4⟩
  case insert t m k x =>
    simp only [Option.map_eq_some_iff, Stp.val.injEq] at ha
    obtain ⟨h'', hs, rfl, rfl⟩ := ha
    obtain ⟨w', L, a1, a2, a3, a4⟩ := mapSetA_run (P := P) hh (hf m) (hf k) (hf x) hs
    exact ⟨ρ, w', undef, L, .inr ⟨by simp [execOp, a1], rfl⟩, rfl, a2, a3, a4⟩
  case mapEntry t m k =>
    simp only [Option.map_eq_some_iff, Prod.exists, Stp.val.injEq] at ha
    obtain ⟨v', h'', hz, rfl, rfl⟩ := ha
    obtain ⟨w', y, L, a1, a2, a3, a4, a5⟩ := mapEntA_run (P := P) hh (hf m) (hf k) hz
    exact .ofRun (by simp [execOp, a1]) a2 a3 a4 a5
  case entryStore t m b x =>
    simp only [Option.map_eq_some_iff, Stp.val.injEq] at ha
    obtain ⟨h'', hs, rfl, rfl⟩ := ha
    obtain ⟨w', L, a1, a2, a3, a4⟩ := entSetA_run (P := P) (mt := t) hh (hf m) (hf b) (hf x) hs
    exact ⟨ρ, w', undef, L, .inr ⟨by simp [execOp, a1], rfl⟩, rfl, a2, a3, a4⟩
  case load t a =>
    simp only [Option.map_eq_some_iff, Stp.val.injEq] at ha
    obtain ⟨z, hz, rfl, rfl⟩ := ha
    exact .ofV hh (fun y hy => by simp [execOp, hy]) (loadA_run hh (hf a) hz)
  case store t a x =>
    simp only [Option.map_eq_some_iff, Stp.val.injEq] at ha
    obtain ⟨z, hz, rfl, rfl⟩ := ha
    obtain ⟨w', L, a1, a2, a3, a4⟩ := storeA_run (P := P) hh (hf a) (hf x) hz
    exact ⟨ρ, w', undef, L, .inr ⟨by simp [execOp, a1], rfl⟩, rfl, a2, a3, a4⟩
  case binOp op t x y yt =>
    split at ha
    · rename_i a b hx hy
      have h1 := plain_rel hx (hf x)
      have h2 := plain_rel hy (hf y)
      exact pureA_run hh ha _ (fun z hz => by simp only [execOp, h1, h2]; simp only [Sem.run_bind] at hz ⊢; rw [hz]; rfl)
    · split at ha
      · rename_i a b hx hy
        have h1 := unP_rel hx (hf x)
        have h2 := unP_rel hy (hf y)
        exact binS_run hh ha _ (fun z hz => by simp only [execOp, h1, h2]; simp only [Sem.run_bind] at hz ⊢; rw [hz]; rfl)
      split at ha
      · rename_i d hd
        split at ha
        · simp only [Option.map_eq_some_iff, Stp.val.injEq] at ha
          obtain ⟨z, hz, rfl, rfl⟩ := ha
          have := eqNil_run (P := P) (w := w) (neg := false) (u1 := x) (u2 := y) hd (hf x) (hf y) hz
          simp only [cond_false] at this
          refine .same (y := z) hh ?_ rfl
          simp only [execOp]; simp only [Sem.run_bind] at this ⊢; rw [this]; rfl
        · simp only [Option.map_eq_some_iff, Stp.val.injEq] at ha
          obtain ⟨z, hz, rfl, rfl⟩ := ha
          have := eqNil_run (P := P) (w := w) (neg := true) (u1 := x) (u2 := y) hd (hf x) (hf y) hz
          simp only [cond_true] at this
          refine .same (y := z) hh ?_ rfl
          simp only [execOp]; simp only [Sem.run_bind] at this ⊢; rw [this]; rfl
        · cases ha
      · cases ha
  case unOp op t x =>
    split at ha
    · rename_i a hx
      have h1 := plain_rel hx (hf x)
      exact pureA_run hh ha _ (fun z hz => by simp [execOp, h1, hz])
    · split at ha
      · rename_i a hx
        have h1 := unP_rel hx (hf x)
        exact pureS_run hh ha _ (fun z hz => by simp [execOp, h1, hz])
      · cases ha
  case convert s d x =>
    split at ha
    · rename_i n off len cap hx
      simp only [Option.map_eq_some_iff, Stp.val.injEq] at ha
      obtain ⟨v', hb, rfl, rfl⟩ := ha
      have h1 := hf x
      rw [hx] at h1
      have := bytesA_run hh h1 hb
      exact .same hh (y := v') (by simp [execOp, this]) rfl
    · split at ha
      · rename_i a hx
        have h1 := plain_rel hx (hf x)
        exact pureA_run hh ha _ (fun z hz => by simp [execOp, h1, hz])
      · split at ha
        · rename_i a hx
          have h1 := unP_rel hx (hf x)
          exact pureS_run hh ha _ (fun z hz => by simp [execOp, h1, hz])
        · cases ha
  case makeFunc fn first cap =>
    cases fn <;> simp only [] at ha <;> try cases ha
    rename_i fid
    cases hb : Nat.beq first.size 0 with
    | false => simp [hb] at ha
    | true =>
      simp only [hb, cond_true] at ha
      cases ha
      have h0 := beq0 hb
      have hfe : first = #[] := Array.eq_empty_of_size_eq_zero h0
      subst hfe
      refine .same (y := .func (.func fid) #[] (cap.map g)) hh (by simp [execOp, Instr.makeFunc]) ⟨_, rfl, ?_⟩
      simpa using maps_rel hf cap.toList
  case slice t x lo hi mx =>
    split at ha
    · rename_i s hx
      have hxs := hf x
      rw [hx] at hxs
      have hxs : g x = .string s := hxs
      split at ha
      · rename_i hu
        split at ha
        · rename_i l k hl hk
          cases hc : (Nat.ble l k && Nat.ble k s.size) with
          | false => simp [hc] at ha
          | true =>
            simp only [hc, cond_true] at ha
            cases ha
            simp only [Bool.and_eq_true, Nat.ble_eq] at hc
            have hrun := bounds_run (P := P) (r := ρ) (f := g) (lo := lo) (hi := hi) (mx := none) (m := s.size) (n := 0) (cap := s.size) hf hl hk (fun _ => rfl) (fun x h => by cases h) hc.1 hc.2 (Nat.le_refl _) false w
            simp only [Option.map_none] at hrun
            exact .same (y := .string (s.extract l k)) hh (by simp [execOp, hxs, Instr.sliceAt, Instr.slice, run_underlying hu, hrun]) rfl
        · cases ha
      · cases ha
    · split at ha
      · rename_i l k hl hk
        have hkE : ∃ n, lenA (f x) = some n ∧ boundA n f hi = some k := by
          cases hlen : lenA (f x) with
          | none => simp [hlen] at hk
          | some n => simp [hlen] at hk; exact ⟨n, rfl, hk⟩
        obtain ⟨n, hn, hk⟩ := hkE
        split at ha
        · simp only [Option.map_eq_some_iff, Stp.val.injEq] at ha
          obtain ⟨z, hz, rfl, rfl⟩ := ha
          exact .ofV hh (fun y hy => by simp only [Option.map_none] at hy; simp [execOp, hy]) (sliceA_run (P := P) (n := 0) (mx := none) hh hf (hf x) hn hl hk (fun _ => rfl) (fun x h => by cases h) hz)
        · rename_i m
          split at ha
          · rename_i hi' m' hm' _
            simp only [Option.map_eq_some_iff, Stp.val.injEq] at ha
            obtain ⟨z, hz, rfl, rfl⟩ := ha
            exact .ofV hh (fun y hy => by simp only [Option.map_some] at hy; simp [execOp, hy]) (sliceA_run (P := P) (n := 0) (hi := some hi') (mx := some m) hh hf (hf x) hn hl hk (fun h => by cases h) (fun x h => ⟨rfl, m', rfl, hm'⟩) hz)
          · cases ha
      · cases ha
  case fieldAddr t x k =>
    simp only [Option.map_eq_some_iff, Stp.val.injEq] at ha
    obtain ⟨z, hz, rfl, rfl⟩ := ha
    exact .ofV hh (fun y hy => by simp [execOp, hy]) (fieldA_run (hf x) hz)
  case field t x k =>
    simp only [Option.map_eq_some_iff, Stp.val.injEq] at ha
    obtain ⟨z, hz, rfl, rfl⟩ := ha
    exact .ofV hh (fun y hy => by simp [execOp, hy]) (fieldVA_run (hf x) hz)
  case indexAddr t x i =>
    simp only [Option.map_eq_some_iff, Stp.val.injEq] at ha
    obtain ⟨z, hz, rfl, rfl⟩ := ha
    exact .ofV hh (fun y hy => by simp [execOp, hy]) (indexAddrA_run hh (hf x) (hf i) hz)
  case index t x i =>
    split at ha
    · rename_i a b hx hy
      have h1 := plain_rel hx (hf x)
      have h2 := plain_rel hy (hf i)
      exact pureA_run hh ha _ (fun z hz => by simp [execOp, h1, h2, hz])
    · split at ha
      · rename_i a b hx hy
        have h1 := unP_rel hx (hf x)
        have h2 := unP_rel hy (hf i)
        exact pureS_run hh ha _ (fun z hz => by simp [execOp, h1, h2, hz])
      · cases ha
  case extract x i =>
    split at ha
    · rename_i vs hx
      have h1 := hf x
      rw [hx] at h1
      have h1 : g x = .tuple vs := h1
      simp only [Option.map_eq_some_iff, Stp.val.injEq] at ha
      obtain ⟨z, hz, rfl, rfl⟩ := ha
      exact .same (y := z) hh (by simp [execOp, h1, Instr.extract, hz]) rfl
    · rename_i vs hx
      have h1 := hf x
      rw [hx] at h1
      have h1 : g x = .tuple vs := h1
      simp only [Option.map_eq_some_iff, Stp.val.injEq] at ha
      obtain ⟨z, hz, rfl, rfl⟩ := ha
      exact .same (y := z) hh (by simp [execOp, h1, Instr.extract, hz]) rfl
    · rename_i vs hx
      have h1 := hf x
      rw [hx] at h1
      obtain ⟨ys, h1, hr⟩ := h1
      simp only [Option.map_eq_some_iff, Stp.val.injEq] at ha
      obtain ⟨z, hz, rfl, rfl⟩ := ha
      obtain ⟨y, hy, hr⟩ := hr.get hz
      have hy : ys[i]? = some y := by simpa using hy
      exact .same (y := y) hh (by simp [execOp, h1, Instr.extract, hy]) hr
    · cases ha
  case nilCheck x =>
    split at ha
    · rename_i n i c hx
      cases ha
      have h1 := hf x
      rw [hx] at h1
      have h2 := h1
      obtain ⟨p, hp, h1⟩ := h1
      exact .same (y := g x) hh (by simp [execOp, h1]) h2
    · rename_i fid cs hx
      cases ha
      have h1 := hf x
      rw [hx] at h1
      have h2 := h1
      obtain ⟨ys, h1, hr⟩ := h1
      exact .same (y := g x) hh (by simp [execOp, h1]) h2
    · rename_i n hx
      cases ha
      have h1 := hf x
      rw [hx] at h1
      have h2 := h1
      obtain ⟨p, hp, h1⟩ := h1
      exact .same (y := g x) hh (by simp [execOp, h1]) h2
    · cases ha
  case call c =>
    split at ha
    · split at ha
      · cases ha
      · cases ha
      · rename_i first cs hx
        cases hb : Nat.beq first.size 0 <;> simp [hb] at ha
      · cases ha
    · rename_i b hb
      have := builtinA_run (P := P) (ys := (c.args.map g).toList) hh (by simpa using maps_rel hf c.args.toList) ha
      obtain ⟨ρ', w', y, L, a1, a2, a3, a4, a5⟩ := this
      refine ⟨ρ', w', y, L, ?_, a2, a3, a4, a5⟩
      have he : (execOp g { dst, op := .call c, type := ty, pos, after, guard }).run P w = (builtin b c.argTypes ty (c.args.map fun | .const _ => true | _ => false) (c.args.map g).toList.toArray).run P w := by
        simp [execOp, resolve, hb, invoke]
        have em : (List.map g c.args.toList).toArray = c.args.map g := by apply Array.ext'; simp
        rw [em]
        rfl
      simp only [he]
      exact a1
    · cases ha
  all_goals cases ha

theorem aopC_call {f : Operand → AV} {g : Operand → Value} {o : Oper} {fid : FuncId} {args : List AV} {h h' : Hp} {ρ : Rho} (hf : ∀ x, VRel ρ (f x) (g x)) (ha : aopC P f o h = some (.call fid args h')) :
    h' = h ∧ ∃ ys : Array Value, VRels ρ args ys.toList ∧ ∀ w, (execOp g o).run P w = (callFunc fid ys).run P w := by
  obtain ⟨dst, op, ty, pos, after, guard⟩ := o
  unfold aopC at ha
  cases op <;> simp only [] at ha
  case call c =>
    split at ha
    · rename_i fo hc
      split at ha
      · rename_i k cs hx
        cases ha
        have h1 := hf fo
        rw [hx] at h1
        obtain ⟨ys, h1, hr⟩ := h1
        refine ⟨rfl, c.args.map g ++ ys, ?_, fun w => ?_⟩
        · simp only [Array.toList_append, Array.toList_map]
          exact (maps_rel hf c.args.toList).append hr
        · simp [execOp, resolve, hc, Deferred.ofValue, h1, invoke]
      · cases ha
      · rename_i k first cs hx
        cases hb : Nat.beq first.size 0 with
        | false => simp [hb] at ha
        | true =>
          simp only [hb, cond_true] at ha
          cases ha
          have h0 := beq0 hb
          have hfe : first = #[] := Array.eq_empty_of_size_eq_zero h0
          subst hfe
          have h1 := hf fo
          rw [hx] at h1
          have h1 : g fo = .func (.func fid) #[] cs := h1
          refine ⟨rfl, c.args.map g ++ cs, ?_, fun w => ?_⟩
          · simp only [Array.toList_append, Array.toList_map]
            exact (maps_rel hf c.args.toList).append (VRels.ofPlain _)
          · simp [execOp, resolve, hc, Deferred.ofValue, h1, invoke]
      · cases ha
    · rename_i b hb
      exfalso
      unfold builtinA at ha
      repeat' split at ha
      all_goals first
        | cases ha
        | (cases hn : noIntB P c.argTypes <;> simp [hn] at ha)
    · cases ha
  all_goals first
    | cases ha
    | (simp only [Option.map_eq_some_iff] at ha; obtain ⟨x, _, hx⟩ := ha; cases hx)
    | skip
  case makeFunc fn first cap =>
    exfalso
    cases fn <;> simp [cond_eq_ite] at ha
  case makeMap t r => cases r <;> cases ha
  all_goals
    exfalso
    try simp only [pureA, pureS, binS, cond_eq_ite] at ha
    repeat' split at ha
    all_goals first
      | cases ha
      | simp at ha

theorem aopC_yield {f : Operand → AV} {g : Operand → Value} {o : Oper} {n : Nat} {args : List AV} {h h' : Hp} {ρ : Rho} (hf : ∀ x, VRel ρ (f x) (g x)) (ha : aopC P f o h = some (.yield n args h')) :
    h' = h ∧ ∃ (ys : Array Value) (p : Pl), VRels ρ args ys.toList ∧ ρ n = some p ∧ ∀ w, (execOp g o).run P w = (Instr.yield p.b ys).run P w := by
  obtain ⟨dst, op, ty, pos, after, guard⟩ := o
  unfold aopC at ha
  cases op <;> simp only [] at ha
  case call c =>
    split at ha
    · rename_i fo hc
      split at ha
      · cases ha
      · rename_i k hx
        cases ha
        have h1 := hf fo
        rw [hx] at h1
        obtain ⟨p, hp, h1⟩ := h1
        refine ⟨rfl, c.args.map g, p, ?_, hp, fun w => ?_⟩
        · simp only [Array.toList_map]
          exact maps_rel hf c.args.toList
        · simp [execOp, resolve, hc, Deferred.ofValue, h1, invoke]
      · rename_i k first cs hx
        cases hb : Nat.beq first.size 0 <;> simp [hb] at ha
      · cases ha
    · rename_i b hb
      exfalso
      unfold builtinA at ha
      repeat' split at ha
      all_goals first
        | cases ha
        | (cases hn : noIntB P c.argTypes <;> simp [hn] at ha)
    · cases ha
  all_goals first
    | cases ha
    | (simp only [Option.map_eq_some_iff] at ha; obtain ⟨x, _, hx⟩ := ha; cases hx)
    | skip
  case makeFunc fn first cap =>
    exfalso
    cases fn <;> simp [cond_eq_ite] at ha
  case makeMap t r => cases r <;> cases ha
  all_goals
    exfalso
    try simp only [pureA, pureS, binS, cond_eq_ite] at ha
    repeat' split at ha
    all_goals first
      | cases ha
      | simp at ha

end Ev
end Go.Proofs.YtffcaapbmkaceaaDoor
