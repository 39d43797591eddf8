/- A region that draws its order, but for its end, which is in order. No condition. -/
import Derived.Test.YtffcaapbmkaceaaDoorEvG
namespace Go.Proofs.YtffcaapbmkaceaaDoor
namespace Ev
open Go.RowKit
set_option linter.unusedSectionVars false
variable [Fz]
variable {P : Program}

theorem edgesBack_ok : ∀ {l : List Oper} {i : Nat}, edgesBack i l = true → ∀ k o, l[k]? = some o → ∀ e ∈ o.after, Region.binds .any e = true → e.on < i + k
  | [], _, _, k, o, h, _, _, _ => by simp at h
  | o :: r, i, h, 0, o', ho, e, he, hb => by
    simp at ho
    subst ho
    simp only [edgesBack, Bool.and_eq_true] at h
    have h1 := h.1
    rw [Array.all_eq_true] at h1
    obtain ⟨j, hj, rfl⟩ := Array.getElem_of_mem he
    have := h1 j hj
    rw [hb] at this
    simpa using this
  | o :: r, i, h, k + 1, o', ho, e, he, hb => by
    simp only [edgesBack, Bool.and_eq_true] at h
    have := edgesBack_ok h.2 k o' (by simpa using ho) e he hb
    omega
theorem backOk_of {ops : Array Oper} (h : edgesBack 0 ops.toList = true) : BackOk ops := fun k o ho e he hb => by
  have := edgesBack_ok h k o (by simpa using ho) e he hb
  omega
theorem allBelow_ok {m : Nat} : ∀ {k : Nat}, allBelow m k = true → ∀ j, j < k → m.testBit j = true
  | 0, _, j, h => by omega
  | k + 1, h, j, hj => by
    simp only [allBelow, Bool.and_eq_true] at h
    by_cases c : j = k
    · subst c; exact h.1
    · exact allBelow_ok h.2 j (by omega)
theorem tailAt_le {bs : T Nat} : ∀ (n : Nat), tailAt bs n ≤ n
  | 0 => Nat.le_refl _
  | k + 1 => by
    simp only [tailAt, cond_eq_ite]
    split
    · exact Nat.le_succ_of_le (tailAt_le k)
    · exact Nat.le_refl _
theorem tailAt_ok {bs : T Nat} : ∀ (n k : Nat), tailAt bs n ≤ k → k < n → ∀ j, j < k → (msk bs k).testBit j = true
  | 0, k, _, h, _, _ => by omega
  | n + 1, k, h1, h2, j, hj => by
    simp only [tailAt, cond_eq_ite] at h1
    split at h1
    · rename_i hb
      by_cases c : k = n
      · subst c; exact allBelow_ok hb j hj
      · exact tailAt_ok n k h1 (by omega) j hj
    · omega

section
variable {F : Fence} {m t : Nat} {ops : Array Oper} {Q : Exit → Act → World → Prop}
/-- The end. -/
theorem tail_any (hb : BackOk ops) (ht : ∀ k, t ≤ k → k < ops.size → ∀ j, j < k → (msk (bsO ops) k).testBit j = true) : ∀ (d k : Nat) (listed : Array Bool) (a : Act) (w : World), ops.size - k ≤ d → t ≤ k → k ≤ ops.size → listed.size = ops.size → (∀ j, j < ops.size → (listed.getD j false = true ↔ j < k)) →
    wpOpsIn F m P ops Q (List.range' k (ops.size - k)) a w → wpAnyIn F m P .any ops Q d listed a w := by
  intro d
  induction d with
  | zero =>
    intro k listed a w hd htk hk hsz hl h
    have hk' : ops.size - k = 0 := by omega
    rw [hk'] at h
    refine ⟨?_, h⟩
    rw [List.eq_nil_iff_forall_not_mem]
    intro j hj
    obtain ⟨h1, o, ho, _⟩ := mem_ready.1 hj
    have hjn := (Array.getElem?_eq_some_iff.1 ho).1
    have := (hl j hjn).2 (by omega)
    have hlt : j < listed.size := by omega
    simp only [Array.getD_eq_getD_getElem?, Array.getElem?_eq_getElem hlt, Option.getD_some] at h1 this
    rw [h1] at this; cases this
  | succ d ih =>
    intro k listed a w hd htk hk hsz hl h
    have hfalse : ∀ j, j < ops.size → listed.getD j true = false → ¬ j < k := fun j hjn h1 hjk => by
      have := (hl j hjn).2 hjk
      have hlt : j < listed.size := by omega
      simp only [Array.getD_eq_getD_getElem?, Array.getElem?_eq_getElem hlt, Option.getD_some] at h1 this
      rw [h1] at this; cases this
    by_cases c : k = ops.size
    · have hk' : ops.size - k = 0 := by omega
      rw [hk'] at h
      refine ⟨fun _ => h, fun i hi => ?_⟩
      obtain ⟨h1, o, ho, _⟩ := mem_ready.1 hi
      have hjn := (Array.getElem?_eq_some_iff.1 ho).1
      exact absurd (show i < k by omega) (hfalse i hjn h1)
    · have hkn : k < ops.size := by omega
      have hready : k ∈ Region.ready .any ops listed := by
        refine mem_ready.2 ⟨?_, ops[k], by simp [hkn], fun e he hbn => ?_⟩
        · have hlt : k < listed.size := by omega
          have : listed.getD k false = false := by
            cases hx : listed.getD k false with
            | false => rfl
            | true => have := (hl k hkn).1 hx; omega
          simp only [Array.getD_eq_getD_getElem?, Array.getElem?_eq_getElem hlt, Option.getD_some] at this ⊢
          exact this
        · have := hb k ops[k] (by simp [hkn]) e he hbn
          exact (hl e.on (by omega)).2 this
      refine ⟨fun hr => (by rw [hr] at hready; cases hready), fun i hi => ?_⟩
      obtain ⟨h1, o, ho, hedge⟩ := mem_ready.1 hi
      have hin := (Array.getElem?_eq_some_iff.1 ho).1
      have hik : i = k := by
        have h2 := hfalse i hin h1
        rcases Nat.lt_trichotomy i k with c2 | c2 | c2
        · exact absurd c2 h2
        · exact c2
        · exfalso
          have hbit := ht i (by omega) hin k c2
          obtain ⟨e, he, hbn, hor⟩ := (mk_iff hb ho k).1 hbit
          have hon := hedge e he hbn
          have hlt := hb i o ho e he hbn
          have hok := (hl e.on (by omega)).1 hon
          rcases hor with rfl | hor
          · omega
          · have := mk_lt hb hor; omega
      subst hik
      have hstep : ops.size - i = (ops.size - (i + 1)) + 1 := by omega
      rw [hstep, List.range'_succ, wpOpsIn_cons] at h
      refine wpOpIn_mono (fun a' w' h' => ?_) h
      refine ih (i + 1) _ a' w' (by omega) (by omega) (by omega) (by simpa using hsz) (fun j hj => ?_) h'
      simp only [Array.getD_eq_getD_getElem?, Array.getElem?_setIfInBounds]
      by_cases c2 : i = j
      · subst c2; simp [show i < listed.size by omega]
      · rw [if_neg c2]
        have := hl j hj
        simp only [Array.getD_eq_getD_getElem?] at this
        rw [this]; omega

/-- An operation, over a region's beginning or over all of it. -/
theorem op_pre {pre : Array Oper} (hpre : ∀ i, i < t → pre[i]? = ops[i]?) {Q' : Exit → Act → World → Prop} (hQ : ∀ x a w, x ≠ .normal → Q' x a w → Q x a w) {i : Nat} (hi : i < t) {o : Oper} (ho : ops[i]? = some o) (hg : ∀ j b, o.guard = some (j, b) → j < t) {K : Act → World → Prop} {a : Act} {w : World} (h : wpOpIn F m P pre Q' i K a w) : wpOpIn F m P ops Q i K a w := by
  unfold wpOpIn at h ⊢
  rw [hpre i hi] at h
  simp only [ho] at h ⊢
  have hw : Region.wanted o (yielded pre a.tmps) = Region.wanted o (yielded ops a.tmps) := by
    unfold Region.wanted
    cases hgo : o.guard with
    | none => rfl
    | some g =>
      obtain ⟨j, b⟩ := g
      simp only []
      unfold yielded
      rw [hpre j (hg j b hgo)]
  rw [hw] at h
  split
  · rename_i hwt
    rw [if_pos hwt] at h
    refine ⟨h.1, ?_⟩
    have h := h.2
    have lo : LetsOut Q' → LetsOut Q := fun ⟨a, w, h⟩ => ⟨a, w, hQ _ _ _ (by simp) h⟩
    generalize (o.semAt F.round a.eval).run P w = r at *
    cases r with
    | ok x w' =>
      cases x <;> simp only [Oper.uponIn] at h ⊢ <;>
        first
          | exact h
          | exact ⟨h.1, CallsIn.mono h.2 (fun e w'' he => by cases e <;> first | exact he | exact hQ _ _ _ (by simp) he | exact lo he)⟩
          | exact ⟨h.1, RoundIn.mono h.2 (fun e w'' he => by cases e <;> first | exact he | exact hQ _ _ _ (by simp) he | exact lo he)⟩
          | exact hQ _ _ _ (by simp) h
    | halt x w' => cases x <;> simp only [Oper.uponIn] at h ⊢ <;> first | exact h | exact hQ _ _ _ (by simp) h | exact lo h
  · rename_i hwt
    rw [if_neg hwt] at h
    exact h
/-- The beginning. -/
theorem pre_any (hb : BackOk ops) (ht : ∀ k, t ≤ k → k < ops.size → ∀ j, j < k → (msk (bsO ops) k).testBit j = true) {pre : Array Oper} (hps : pre.size = t) (htn : t ≤ ops.size) (hpre : ∀ i, i < t → pre[i]? = ops[i]?) (hg : ∀ i o, i < t → ops[i]? = some o → ∀ j b, o.guard = some (j, b) → j < t)
    {Q' : Exit → Act → World → Prop} (hQ : ∀ x a w, x ≠ .normal → Q' x a w → Q x a w) (hN : ∀ a w, Q' .normal a w → wpOpsIn F m P ops Q (List.range' t (ops.size - t)) a w) :
    ∀ (fuel : Nat) (lp listed : Array Bool) (a : Act) (w : World), lp.size = t → listed.size = ops.size → (∀ j, j < t → listed.getD j false = lp.getD j false) → (∀ j, t ≤ j → j < ops.size → listed.getD j false = false) →
      (∀ i j, listed.getD i false = true → (msk (bsO ops) i).testBit j = true → listed.getD j false = true) → wpAnyIn F m P .any pre Q' fuel lp a w → wpAnyIn F m P .any ops Q (fuel + (ops.size - t)) listed a w := by
  have un : ∀ (l : Array Bool) (j : Nat), j < l.size → l.getD j true = l.getD j false := fun l j h => by simp [Array.getD_eq_getD_getElem?, h]
  intro fuel
  induction fuel with
  | zero =>
    intro lp listed a w hlp hls heq hfl hcl h
    obtain ⟨hr, hq⟩ := h
    have hall : ∀ j, j < t → listed.getD j false = true := by
      intro j
      induction j using Nat.strongRecOn with
      | _ j ih =>
        intro hj
        cases hl : listed.getD j false with
        | true => rfl
        | false =>
          exfalso
          have hjn : j < pre.size := by omega
          have : j ∈ Region.ready .any pre lp := by
            refine mem_ready.2 ⟨?_, pre[j], by simp [hjn], fun e he hbn => ?_⟩
            · rw [un _ _ (by omega), ← heq j hj]; exact hl
            · have ho : ops[j]? = some pre[j] := by rw [← hpre j hj]; simp [hjn]
              have hlt := hb j _ ho e he hbn
              rw [← heq e.on (by omega)]
              exact ih e.on hlt (by omega)
          rw [hr] at this; cases this
    refine tail_any hb ht _ t listed a w (by omega) (Nat.le_refl _) htn hls (fun j hj => ⟨fun h => ?_, hall j⟩) (hN a w hq)
    rcases Nat.lt_or_ge j t with c | c
    · exact c
    · rw [hfl j c hj] at h; cases h
  | succ fuel ih =>
    intro lp listed a w hlp hls heq hfl hcl h
    obtain ⟨h0, h1⟩ := h
    have hrd : ∀ i, i < t → (i ∈ Region.ready .any ops listed ↔ i ∈ Region.ready .any pre lp) := by
      intro i hi
      have hin : i < pre.size := by omega
      have ho : ops[i]? = some pre[i] := by rw [← hpre i hi]; simp [hin]
      have ho' : pre[i]? = some pre[i] := by simp [hin]
      constructor
      · intro hm
        obtain ⟨k1, o, k2, k3⟩ := mem_ready.1 hm
        rw [ho] at k2; cases k2
        refine mem_ready.2 ⟨?_, _, ho', fun e he hbn => ?_⟩
        · rw [un _ _ (by omega)] at k1 ⊢; rw [← heq i hi]; exact k1
        · have hlt := hb i _ ho e he hbn
          rw [← heq e.on (by omega)]; exact k3 e he hbn
      · intro hm
        obtain ⟨k1, o, k2, k3⟩ := mem_ready.1 hm
        rw [ho'] at k2; cases k2
        refine mem_ready.2 ⟨?_, _, ho, fun e he hbn => ?_⟩
        · rw [un _ _ (by omega)] at k1 ⊢; rw [heq i hi]; exact k1
        · have hlt := hb i _ ho e he hbn
          rw [heq e.on (by omega)]; exact k3 e he hbn
    by_cases hr : Region.ready .any pre lp = []
    · have hall : ∀ j, j < t → listed.getD j false = true := by
        intro j
        induction j using Nat.strongRecOn with
        | _ j ih =>
          intro hj
          cases hl : listed.getD j false with
          | true => rfl
          | false =>
            exfalso
            have hjn : j < pre.size := by omega
            have : j ∈ Region.ready .any pre lp := by
              refine mem_ready.2 ⟨?_, pre[j], by simp [hjn], fun e he hbn => ?_⟩
              · rw [un _ _ (by omega), ← heq j hj]; exact hl
              · have ho : ops[j]? = some pre[j] := by rw [← hpre j hj]; simp [hjn]
                have hlt := hb j _ ho e he hbn
                rw [← heq e.on (by omega)]
                exact ih e.on hlt (by omega)
            rw [hr] at this; cases this
      refine tail_any hb ht _ t listed a w (by omega) (Nat.le_refl _) htn hls (fun j hj => ⟨fun h => ?_, hall j⟩) (hN a w (h0 hr))
      rcases Nat.lt_or_ge j t with c | c
      · exact c
      · rw [hfl j c hj] at h; cases h
    · obtain ⟨j0, hj0⟩ := List.exists_mem_of_ne_nil _ hr
      obtain ⟨u1, o0, u2, _⟩ := mem_ready.1 hj0
      have hj0t : j0 < t := by have := (Array.getElem?_eq_some_iff.1 u2).1; omega
      have hj0f : listed.getD j0 false = false := by rw [heq j0 hj0t, ← un _ _ (by omega)]; exact u1
      rw [show fuel + 1 + (ops.size - t) = (fuel + (ops.size - t)) + 1 by omega]
      refine ⟨fun hro => ?_, fun i hi => ?_⟩
      · have := (hrd j0 hj0t).2 hj0
        rw [hro] at this; cases this
      · obtain ⟨k1, o, k2, k3⟩ := mem_ready.1 hi
        have hin := (Array.getElem?_eq_some_iff.1 k2).1
        have hit : i < t := by
          rcases Nat.lt_or_ge i t with c | c
          · exact c
          · exfalso
            have hbit := ht i c hin j0 (by omega)
            obtain ⟨e, he, hbn, hor⟩ := (mk_iff hb k2 j0).1 hbit
            have hon := k3 e he hbn
            rcases hor with rfl | hor
            · rw [hon] at hj0f; cases hj0f
            · rw [hcl e.on j0 hon hor] at hj0f; cases hj0f
        refine op_pre hpre hQ hit k2 (hg i o hit k2) (wpOpIn_mono (fun a' w' h' => ?_) (h1 i ((hrd i hit).1 hi)))
        have hset : ∀ (l : Array Bool) (j : Nat), i < l.size → (l.setIfInBounds i true).getD j false = if j = i then true else l.getD j false := fun l j hl => by
          simp only [Array.getD_eq_getD_getElem?, Array.getElem?_setIfInBounds]
          by_cases c : i = j
          · subst c; simp [hl]
          · rw [if_neg c, if_neg (Ne.symm c)]
        refine ih _ _ a' w' (by simpa using hlp) (by simpa using hls) (fun j hj => ?_) (fun j hj hj2 => ?_) (fun x y hx hxy => ?_) h'
        · rw [hset _ _ (by omega), hset _ _ (by omega), heq j hj]
        · rw [hset _ _ (by omega), if_neg (by omega)]; exact hfl j hj hj2
        · rw [hset _ _ (by omega)] at hx ⊢
          by_cases c : y = i
          · rw [if_pos c]
          · rw [if_neg c]
            by_cases c2 : x = i
            · subst c2
              obtain ⟨e, he, hbn, hor⟩ := (mk_iff hb k2 y).1 hxy
              have hon := k3 e he hbn
              rcases hor with rfl | hor
              · exact hon
              · exact hcl e.on y hon hor
            · rw [if_neg c2] at hx; exact hcl x y hx hxy
end

/-- **A region that draws its order, but for its end.** -/
theorem drawnT_wp {ro : Option Nat} {mr B : Nat} (hm : P.follows .mixedOrders = true) {id : Nat} {call : Sum} (hc : SumOk P call) (hk : SumKL call) {yl : Yl} (hyl : YldOk P yl) {ops : Array Oper} {n : Nat} (hok : okOps n ops = true) {e e' : T AV} {h h' : Hp} (hd : drawnT P call yl ops e h = some (e', h')) {ρ : Rho} {a : Act} {w : World} {Q : Exit → Act → World → Prop}
    (he : ERel ρ e a) (hh : HR ρ h w) (hdf : Marks B ρ w a.defers) (hn : n ≤ a.tmps.size) (hQ : After Q ρ h w n B .normal e' h') : (Code.region id ops true).wpIn (FR ro) mr P Q a w := by
  unfold drawnT at hd
  simp only [cond_eq_ite] at hd
  split at hd
  · rename_i hp
    unfold preOk at hp
    simp only [Bool.and_eq_true] at hp
    obtain ⟨hp1, hp2⟩ := hp
    generalize htt : tailAt (bsGo 0 ops.toList .leaf) ops.size = t at hd hp2
    have htn : t ≤ ops.size := by rw [← htt]; exact tailAt_le _
    have htail : ∀ k, t ≤ k → k < ops.size → ∀ j, j < k → (msk (bsO ops) k).testBit j = true := fun k h1 h2 j hj => tailAt_ok ops.size k (by rw [htt]; exact h1) h2 j hj
    split at hd
    · rename_i e1 h1 h0
      have hps : (ops.toList.take t).toArray.size = t := by simp; omega
      have hpre : ∀ i, i < t → (ops.toList.take t).toArray[i]? = ops[i]? := fun i hi => by simp [hi]
      have hokp : okOps n (ops.toList.take t).toArray = true := by
        unfold okOps at hok ⊢
        rw [Array.all_eq_true] at hok ⊢
        intro i hi
        have hit : i < t := by rw [hps] at hi; exact hi
        have := hok i (by omega)
        simpa using this
      have hg : ∀ i o, i < t → ops[i]? = some o → ∀ j b, o.guard = some (j, b) → j < t := fun i o hi ho j b hgd => by
        unfold guardsIn at hp2
        rw [List.all_eq_true] at hp2
        have hmem : o ∈ ops.toList.take t := by
          rw [List.mem_iff_getElem?]
          exact ⟨i, by simpa [List.getElem?_take, hi] using ho⟩
        have := hp2 o hmem
        rw [hgd] at this
        simpa using this
      have hany := drawn_any (ro := ro) (mr := mr) (B := B) (Q := fun x a w => match x with
        | .normal => wpOpsIn (FR ro) mr P ops Q (List.range' t (ops.size - t)) a w
        | x => Q x a w) hc hk hokp h0 he hh hdf hn (fun ρ1 a1 w1 L k1 k2 k3 k4 k5 k6 => by
          have := seqOps_wp (ro := ro) (m := mr) hc hyl hok (Q := Q) (ops.toList.drop t) t e1 e' h1 h' ρ1 a1 w1 rfl hd k1 k2 k5 k6 (hQ.step k3 k4)
          simpa using this)
      refine wpIn_region_any hm ?_
      have hfin := pre_any (F := FR ro) (m := mr) (Q := Q) (backOk_of hp1) htail hps htn hpre hg (Q' := fun x a w => match x with
        | .normal => wpOpsIn (FR ro) mr P ops Q (List.range' t (ops.size - t)) a w
        | x => Q x a w) (fun x a w hx h => by cases x <;> first | exact absurd rfl hx | exact h) (fun a w h => h) _ _ (Array.replicate ops.size false) a _ (by simp; omega) (by simp) (fun j hj => ?_) (fun j h1 h2 => by simp [Array.getD_eq_getD_getElem?, h2]) (fun i j hi => ?_) hany
      · rw [hps] at hfin
        rw [show t + (ops.size - t) = ops.size by omega] at hfin
        exact hfin
      · have h1 : j < ops.size := by omega
        have h2 : j < min t ops.size := by omega
        simp [Array.getD_eq_getD_getElem?, h1, h2]
      · simp only [Array.getD_eq_getD_getElem?, Array.getElem?_replicate] at hi
        split at hi <;> cases hi
    · cases hd
  · cases hd

end Ev
end Go.Proofs.YtffcaapbmkaceaaDoor
