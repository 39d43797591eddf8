/- The walks of xid's way down: the iterator of all that stand below one. The conditions: the table lies in memory as its data say. -/
import Derived.Test.YtfgkocpmgoaljaaXidC
import Derived.Test.YtfgkocpmgoaljaaMap
namespace Go.Proofs.Ytfgkocpmgoaljaa
open Go.RowKit Go.Shelf Xid
attribute [local go_sem] Oper.semAt_some

set_option maxHeartbeats 400000 in
theorem below_any (p : Nat) (id : Int) (w : World) :
    Calls Try.prog 61 #[.pointer (some ⟨p, 0, none⟩), .int .i64 id] w fun e w' =>
      e = .returned (.func (.func 62) #[] #[.pointer (some ⟨w.heap.size + 1, 0, none⟩), .pointer (some ⟨w.heap.size, 0, none⟩)]) ∧
      (w.alloc (.cells #[.pointer (some ⟨p, 0, none⟩)] 23)).alloc (.cells #[.int .i64 id] 3) = w' := by
  go_enter Try.func61, Try.ntmps61
  go_wp2
  go_ret
  exact ⟨rfl, rfl⟩

/-- What the iterator reads: the boxes; of the table its length and who stands below whom. -/
structure Rb (p Bt Bid : Nat) (T : List One) (id : Nat) (W : World) : Prop where
  t : W.cell? ⟨Bt, 0, none⟩ = some (.pointer (some ⟨p, 0, none⟩))
  id : W.cell? ⟨Bid, 0, none⟩ = some (.int .i64 id)
  tab : ∃ R T' last, IsT W p R T' last ∧ T'.length = T.length ∧ ∀ k, (gt T' k).parent = (gt T k).parent

theorem wf_congr {T T' : List One} (h : WF T') (hl : T'.length = T.length) (hp : ∀ k, (gt T' k).parent = (gt T k).parent) : ∀ k, k < T.length → (gt T k).parent ≤ k :=
  fun k hk => by rw [← hp]; exact h.par k (by omega)

theorem below_mem {T : List One} (h : WF T) {id m : Nat} (hm : m < T.length) (hne : m + 1 ≠ id) : id ∈ upL T (m + 1) ↔ id ∈ upL T (gt T m).parent := by
  rw [upL_in h (by omega) (by omega), List.mem_cons]
  constructor
  · rintro (h | h)
    · exact absurd h.symm hne
    · exact h
  · exact .inr

set_option maxHeartbeats 2000000 in
theorem below1_in (n l p Bt Bid : Nat) (hn : 1 ≤ n) (T : List One) (hwf : WF T) (id : Nat) (hid1 : 1 ≤ id) (hid2 : id ≤ T.length) (hlen : T.length ≤ 1000000) (J : Nat → World → Prop)
    (W : World)
    (hJ : ∀ k W, J k W → Rb p Bt Bid T id W)
    (hal : ∀ k W1 (o : Obj), J k W1 → J k (W1.alloc o))
    (hput : ∀ (k : Nat) (W1 : World) (b : Nat) (es : Array MapEntry) (c : Nat) (es' : Array MapEntry) (c' : Nat), J k W1 → W.heap.size ≤ b → W1.heap[b]? = some (.map es c) → J k (W1.putObj b (.map es' c')))
    (hskip : ∀ m W1, J (m + 1) W1 → id ≤ m → m < T.length → id ∉ upL T (m + 1) → J (m + 2) W1)
    (hY : ∀ m W1, J (m + 1) W1 → id ≤ m → m < T.length → id ∈ upL T (m + 1) → YieldAt Fence.wide (n - 1) Try.prog l #[.int .i64 ((m : Int) + 1)] W1 fun e W' =>
      e = .returned (.bool true) ∧ J (m + 2) W' ∧ (∀ (b : Nat) (es : Array MapEntry) (c : Nat), W1.heap[b]? = some (.map es c) → W'.heap[b]? = some (.map es c)))
    (h0 : J (id + 1) W) :
    CallsIn Fence.wide n Try.prog 62 (#[.func (.yield l) #[] #[]] ++ #[.pointer (some ⟨Bid, 0, none⟩), .pointer (some ⟨Bt, 0, none⟩)]) W fun e W' => (∃ v, e = .returned v) ∧ J (T.length + 1) W' := by
  have hF : ∀ f, Fence.wide.fn f := fun _ => trivial
  have hmm := @run_makeMap Try.prog
  obtain ⟨es1, c1, hu, hM⟩ := run_update_imap (P := Try.prog) (IMap.made W) (t := 85) (kt := 3) (et := 3) Try.underlying85 Try.underlying3 id (.int .i64 1)
  have h1 := hJ _ _ (hal _ _ (Obj.map #[] 0) h0)
  have g1 := h1.id
  have h2 := hJ _ _ (hput _ _ _ _ _ es1 c1 (hal _ _ (Obj.map #[] 0) h0) (Nat.le_refl _) (obj_alloc_new _ _))
  have g2 := h2.id
  refine callsIn_of_wp Try.func62 rfl trivial ?_ rfl
  simp only [Try.ntmps62, List.size_toArray, List.length_cons, List.length_nil, Nat.reduceAdd, Nat.reduceSub, Array.replicate_succ, Array.replicate_zero, List.push_toArray, List.append_toArray, List.nil_append, List.cons_append]
  gi_wp2
  have hJ1 := hput _ _ _ _ _ es1 c1 (hal _ _ (Obj.map #[] 0) h0) (Nat.le_refl _) (obj_alloc_new _ _)
  have hm1 : ∀ j : Nat, valI (putI [] id (.int .i64 1)) j = if j < id + 1 ∧ id ∈ upL T j then some (.int .i64 1) else none := by
    intro j
    rw [valI_put, valI_nil]
    by_cases e : j = id
    · subst e; rw [if_pos rfl, if_pos ⟨by omega, by rw [upL_in hwf hid1 hid2]; simp⟩]
    · rw [if_neg (by omega), if_neg]
      intro h; have := mem_upL hwf h.2; omega
  generalize putI [] (id : Int) (.int .i64 1) = m1 at hM hm1
  obtain ⟨b, hb⟩ : ∃ b, W.heap.size = b := ⟨_, rfl⟩
  rw [hb] at hM hJ1 hput ⊢
  have hJ2 : J (id + 1) ((W.alloc (Obj.map #[] 0)).putObj b (Obj.map es1 c1)) := hJ1
  generalize (W.alloc (Obj.map #[] 0)).putObj b (Obj.map es1 c1) = W1 at hM hJ2 ⊢
  clear hu hb h1 g1 h2 g2 hJ1 h0 hmm
  gi_loopw [5] (fun kv wr => ∃ (k : Nat) (m : List (Int × Value)) (es : Array MapEntry) (c : Nat), id ≤ k ∧ k ≤ T.length ∧ kv = .int .i64 ((k : Int) + 1) ∧ IMap wr b m es c ∧ J (k + 1) wr ∧
      ∀ j : Nat, valI m j = if j < k + 1 ∧ id ∈ upL T j then some (.int .i64 1) else none) (fun kv _ => (T.length + 1 - (intOf kv).toNat))
  case atStart => exact ⟨id, m1, es1, c1, Nat.le_refl _, hid2, rfl, hM, hJ2, hm1⟩
  case round =>
    obtain ⟨k, m, es, c, hk1, hk2, rfl, hM, hJk, hm⟩ := hrel
    obtain ⟨g1, g2, R, T', last, hT, hl', hp'⟩ := hJ _ _ hJk
    obtain ⟨a0, cap0, hh0, _⟩ := hT.head
    rw [hl'] at hh0
    have HL := Lib.hid hl'
    have HP := Lib.hid hp'
    have HM := Lib.hid hm
    clear hl' hp' hm
    by_cases hlt : k < T.length
    · have hklt : k < T'.length := by rw [HL.out]; exact hlt
      obtain ⟨r, cap, hR0, hne, hc0, hc1, _, _, _⟩ := hT.ones hklt
      rw [HL.out] at hc0
      have hpar := wf_congr hT.wf HL.out HP.out k hlt
      rw [HP.out] at hc1
      have hl0 := run_lookup_imap (P := Try.prog) hM (t := 85) (kt := 3) (et := 3) Try.underlying85 Try.underlying3 (z := .int .i64 0) (fun w => by kernel_rfl) ((gt T k).parent : Nat)
      rw [HM.out] at hl0
      have HR0 := Lib.hid hR0
      clear hR0
      by_cases hmem : id ∈ upL T (gt T k).parent
      · have hmem' : id ∈ upL T (k + 1) := (below_mem hwf hlt (by omega)).2 hmem
        rw [if_pos ⟨by omega, hmem⟩] at hl0
        obtain ⟨es', c', hu, hM'⟩ := run_update_imap (P := Try.prog) hM (t := 85) (kt := 3) (et := 3) Try.underlying85 Try.underlying3 ((k : Int) + 1) (.int .i64 1)
        have hJ' := hput _ _ _ _ _ es' c' hJk (Nat.le_refl _) hM.obj
        obtain ⟨fn, tmps, assign, body, hy, hR⟩ := hY k _ hJ' hk1 hlt hmem'
        have HY := Lib.hid hmem'
        clear hmem hmem'
        gi_wp2_with (first | (gi_at_call 52; refine (callsIn_wide.2 (at_any p r _ _ k _ _ hc0 hlt (by omega) (by omega))).mono ?_; rintro e w' ⟨rfl, rfl⟩))
        refine hR.mono ?_
        rintro e W3 ⟨rfl, hJ3, hmaps⟩
        gi_wp2
        go_roundw
        case rel =>
          refine ⟨k + 1, _, es', c', by omega, by omega, by go_num, ⟨hmaps _ _ _ hM'.obj, hM'.same, hM'.born, hM'.lt, hM'.nodup⟩, hJ3, ?_⟩
          intro j
          rw [valI_put, HM.out]
          by_cases e : j = k + 1
          · subst e
            rw [if_pos (by omega), if_pos ⟨by omega, HY.out⟩]
          · rw [if_neg (by omega)]
            by_cases e2 : j < k + 1
            · simp [e2, show j < k + 1 + 1 by omega]
            · rw [if_neg (by omega), if_neg (by omega)]
        case measure => simp [intOf]; omega
      · have hmem' : id ∉ upL T (k + 1) := fun h => hmem ((below_mem hwf hlt (by omega)).1 h)
        rw [if_neg (fun h => hmem h.2)] at hl0
        have HN := Lib.hid hmem'
        clear hmem hmem'
        gi_wp2_with (first | (gi_at_call 52; refine (callsIn_wide.2 (at_any p r _ _ k _ _ hc0 hlt (by omega) (by omega))).mono ?_; rintro e w' ⟨rfl, rfl⟩))
        go_roundw
        case rel =>
          refine ⟨k + 1, m, es, c, by omega, by omega, by go_num, hM, hskip _ _ hJk hk1 hlt HN.out, ?_⟩
          intro j
          rw [HM.out]
          by_cases e : j = k + 1
          · subst e
            rw [if_neg (by omega), if_neg (fun h => HN.out h.2)]
          · by_cases e2 : j < k + 1
            · simp [e2, show j < k + 1 + 1 by omega]
            · rw [if_neg (by omega), if_neg (by omega)]
        case measure => simp [intOf]; omega
    · gi_wp2
      go_end0
      have : k = T.length := by omega
      subst this
      exact ⟨⟨_, rfl⟩, hJk⟩

end Go.Proofs.Ytfgkocpmgoaljaa
