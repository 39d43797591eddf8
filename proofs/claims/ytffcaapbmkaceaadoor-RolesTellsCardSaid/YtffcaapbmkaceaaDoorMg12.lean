/- Small facts: texts by their bytes, first places, wraps. No condition. -/
import Derived.Test.YtffcaapbmkaceaaDoorMg10
import Derived.Laws.Strings
section
namespace Go.Proofs.YtffcaapbmkaceaaDoor
namespace Ev
open Go.RowKit
theorem ba_eq {a b : ByteArray} : (a.toList == b.toList) = decide (a = b) := by
  by_cases h : a = b
  · subst h; simp
  · rw [decide_eq_false h]
    simp only [beq_eq_false_iff_ne, ne_eq]
    intro e
    apply h
    rw [ByteArray.toList_eq, ByteArray.toList_eq] at e
    exact ByteArray.ext (Array.toList_inj.1 e)
theorem wrap_id {x : Int} (h : -9223372036854775808 ≤ x ∧ x ≤ 9223372036854775807) : IntKind.i64.wrap x = x := by
  unfold IntKind.wrap
  simp [IntKind.bits, IntKind.signed]
  omega
theorem wrap_lt {n : Int} (h0 : -9223372036854775808 ≤ n) (h1 : n ≤ 9223372036854775807) : IntKind.i64.wrap n = n := wrap_id ⟨h0, h1⟩
theorem small_ok {n : Nat} (h : n ≤ 1073741824) : small n = true := by unfold small; simpa using h
theorem ble_no {a b : Nat} (h : Nat.ble a b = false) : b < a := by
  rcases Nat.lt_or_ge b a with c | c
  · exact c
  · rw [show Nat.ble a b = true by simpa using c] at h; cases h
theorem blt_no2 {a b : Nat} (h : Nat.blt a b = false) : b ≤ a := by
  rcases Nat.lt_or_ge a b with c | c
  · rw [show Nat.blt a b = true by simpa using c] at h; cases h
  · exact c
theorem hT {α : Type} {K : α → Prop} {b : Bool} {t e : Br α} (hb : b = true) (h : t.Holds K) : (Br.test b t e).Holds K := ⟨fun _ => h, fun c => by rw [hb] at c; cases c⟩
theorem hF {α : Type} {K : α → Prop} {b : Bool} {t e : Br α} (hb : b = false) (h : e.Holds K) : (Br.test b t e).Holds K := ⟨fun c => (by rw [hb] at c; cases c), fun _ => h⟩
theorem ble_yes {a b : Nat} (h : a ≤ b) : Nat.ble a b = true := by simpa using h
/-- The test of a place in a list. -/
theorem idx_ok {i n : Nat} (h : i < n) : (decide (0 ≤ (i : Int)) && decide ((i : Int) < (n : Int))) = true := by
  rw [decide_eq_true (by omega), decide_eq_true (by omega)]; rfl
/-- The test of an append. -/
theorem app_ok {n b m k : Nat} (hb : b = k) (h1 : m + n ≤ 1073741824) (h2 : k * (m + n) ≤ 1073741824) : (Nat.beq n n && (true && (small (m + n) && small (b * (m + n))))) = true := by
  subst hb
  rw [Nat.beq_refl, small_ok h1, small_ok h2]; rfl
theorem rel_nat {a b : Nat} (h : a < b) : WellFoundedRelation.rel a b := h
theorem rel_l {a b c d : Nat} (h : a < c) : WellFoundedRelation.rel (a, b) (c, d) := Prod.Lex.left _ _ h
theorem rel_r {a b d : Nat} (h : b < d) : WellFoundedRelation.rel (a, b) (a, d) := Prod.Lex.right _ h
theorem Le.ofEq {x y : AV} (h : x = y) : Le x y := h ▸ .refl x
theorem ba_eq2 {x y : ByteArray} {p : ByteArray × ByteArray} : (x.toList == p.fst.toList && (y.toList == p.snd.toList && true)) = decide ((x, y) = p) := by
  rw [ba_eq, ba_eq]
  obtain ⟨a, b⟩ := p
  by_cases h1 : x = a <;> by_cases h2 : y = b <;> simp [h1, h2]
theorem ba_eq3 {p q : ByteArray × ByteArray} : (p.fst.toList == q.fst.toList && (p.snd.toList == q.snd.toList && true)) = decide (p = q) := ba_eq2 (x := p.1) (y := p.2)
theorem eq_getD {α : Type} [Inhabited α] {L M : List α} (hl : L.length = M.length) (h : ∀ k, k < L.length → L.getD k default = M.getD k default) : L = M := by
  refine List.ext_getElem hl fun i h1 h2 => ?_
  have := h i h1
  simpa [List.getD_eq_getElem?_getD, h1, h2] using this
/-- A list that may be nothing. -/
def asL (ks : List TK) : AV → Option ((Nat → Nat → D) × Nat)
  | .fz f len ks' => bif ksEq ks ks' then some (f, len) else none
  | .s (.slice none 0 0) => some (fun _ _ => .v undef, 0)
  | .z0 => some (fun _ _ => .v undef, 0)
  | _ => none
theorem asL_rel {α : Type} [Inhabited α] [Rec α] [Fz] {x : AV} {f : Nat → Nat → D} {len : Nat} {ρ : Rho} {y : Value} (hgc : Fz.gc = false) (h : asL (Rec.ks α) x = some (f, len)) (r : VRel ρ x y) : VRel ρ (.fz (eL (dL α f len)) (dL α f len).length (Rec.ks α)) y := by
  rw [dL_length]
  refine fz_eL ?_
  unfold asL at h
  split at h
  · rename_i f' len' ks'
    cases hk : ksEq (Rec.ks α) ks' with
    | false => rw [hk] at h; cases h
    | true => rw [hk] at h; cases h; rw [ksEq_eq hk]; exact r
  · cases h; cases r; refine ⟨hgc, ?_⟩; unfold FzRel; exact .inl ⟨rfl, none, 0, rfl, fun _ => rfl⟩
  · cases h; obtain ⟨a, rfl⟩ := r; refine ⟨hgc, ?_⟩; unfold FzRel; exact .inl ⟨rfl, a, 0, rfl, fun _ => rfl⟩
  · cases h
theorem dL_shift {α : Type} [Inhabited α] [Rec α] (L : List α) (a n : Nat) (h : a + n ≤ L.length) : dL α (shiftD (eL L) a) n = (L.drop a).take n := by
  apply List.ext_getElem
  · simp [dL]; omega
  · intro i h1 h2
    simp [dL] at h1
    have : i + a < L.length := by omega
    have e : (dL α (shiftD (eL L) a) n)[i] = L.getD (i + a) default := by
      simp only [dL, List.getElem_map, List.getElem_range]
      exact Rec.dec_enc _
    rw [e]
    have this : a + i < L.length := by omega
    simp [List.getD_eq_getElem?_getD, Nat.add_comm i a, this]
def strV (v : AV) : Option ByteArray := match unP v with
  | some (.string x) => some x
  | _ => none
theorem strV_rel [Fz] {v : AV} {x : ByteArray} {ρ : Rho} {y : Value} (h : strV v = some x) (r : VRel ρ v y) : VRel ρ (.s (.string x)) y := by
  unfold strV at h
  split at h
  · rename_i z hz; cases h; exact unP_rel hz r
  · cases h
def pairV (v : AV) : Option (ByteArray × ByteArray) := match unP v with
  | some (.agg a) => match a.toList with
    | [.string x, .string y] => some (x, y)
    | _ => none
  | _ => none
theorem pairV_rel [Fz] {v : AV} {x y : ByteArray} {ρ : Rho} {u : Value} (h : pairV v = some (x, y)) (r : VRel ρ v u) : VRel ρ (.s (.agg #[.string x, .string y])) u := by
  unfold pairV at h
  split at h
  · rename_i a ha
    split at h
    · rename_i x' y' hl
      cases h
      have := unP_rel ha r
      rw [this]
      show Value.agg a = Value.agg #[.string x, .string y]
      congr 1
      exact Array.toList_inj.1 (by rw [hl])
    · cases h
  · cases h
theorem dL_snoc {α : Type} [Inhabited α] [Rec α] (L : List α) (x : α) (ds : List D) (k : Nat) (hx : Rec.dec (fun c => ds.getD c (.v undef)) = x) : dL α (catD (eL L) L.length (listD ds k)) (L.length + 1) = L ++ [x] := by
  apply List.ext_getElem
  · simp [dL]
  · intro i h1 h2
    simp [dL] at h1
    simp only [dL, List.getElem_map, List.getElem_range]
    rcases Nat.lt_or_ge i L.length with c | c
    · have e : catD (eL L) L.length (listD ds k) i = eL L i := by
        funext c'; unfold catD; rw [show Nat.blt i L.length = true by simpa using c]; rfl
      rw [e]
      unfold eL
      rw [Rec.dec_enc, List.getElem_append_left c]
      simp [List.getD_eq_getElem?_getD, c]
    · have hi : i = L.length := by omega
      subst hi
      have e : catD (eL L) L.length (listD ds k) L.length = fun c => ds.getD c (.v undef) := by
        funext c'
        unfold catD listD
        rw [blt_no (Nat.lt_irrefl _)]
        simp
      rw [e, hx]
      simp
/-- The first place in a list where something holds. -/
def idxF {α : Type} (p : α → Bool) (L : List α) : Int := if L.any p then (L.findIdx p : Int) else -1
theorem idxF_hit {α : Type} [Inhabited α] {p : α → Bool} {L : List α} {i : Nat} (hi : i < L.length) (h : p (L.getD i default) = true) (hn : ∀ k, k < i → p (L.getD k default) = false) : idxF p L = i := by
  have hx : p L[i] = true := by simpa [List.getD_eq_getElem?_getD, hi] using h
  unfold idxF
  rw [if_pos (List.any_eq_true.2 ⟨_, List.getElem_mem hi, hx⟩)]
  congr 1
  refine (List.findIdx_eq hi).2 ⟨hx, fun j hj => ?_⟩
  have := hn j hj
  simpa [List.getD_eq_getElem?_getD, show j < L.length by omega] using this
theorem idxF_none {α : Type} [Inhabited α] {p : α → Bool} {L : List α} (hn : ∀ k, k < L.length → p (L.getD k default) = false) : idxF p L = -1 := by
  unfold idxF
  rw [if_neg]
  intro h
  obtain ⟨x, hm, hx⟩ := List.any_eq_true.1 h
  obtain ⟨i, hi, rfl⟩ := List.getElem_of_mem hm
  have := hn i hi
  rw [show L.getD i default = L[i] by simp [List.getD_eq_getElem?_getD, hi]] at this
  rw [this] at hx; cases hx
theorem idxF_ge {α : Type} (p : α → Bool) (L : List α) : decide (idxF p L ≥ 0) = L.any p := by
  unfold idxF
  cases h : L.any p with
  | true => simp
  | false => simp
theorem take_snoc {α : Type} [Inhabited α] {L : List α} {i : Nat} (h : i < L.length) : L.take (i + 1) = L.take i ++ [L.getD i default] := by
  rw [List.take_add_one]
  simp [List.getD_eq_getElem?_getD, h]
theorem getD_mem {α : Type} [Inhabited α] {L : List α} {i : Nat} (h : i < L.length) : L.getD i default ∈ L := by
  simp [List.getD_eq_getElem?_getD, h]
theorem getD_app {α : Type} [Inhabited α] {L : List α} {x : α} {k : Nat} (h : k < L.length) : (L ++ [x]).getD k default = L.getD k default := by
  simp [List.getD_eq_getElem?_getD, List.getElem?_append_left h]
theorem mem_getD {α : Type} [Inhabited α] {L : List α} {x : α} (h : x ∈ L) : ∃ k, k < L.length ∧ L.getD k default = x := by
  obtain ⟨k, hk, rfl⟩ := List.getElem_of_mem h
  exact ⟨k, hk, by simp [List.getD_eq_getElem?_getD, hk]⟩
theorem nodup_le {α : Type} [DecidableEq α] : ∀ {A N : List α}, A.Nodup → (∀ x ∈ A, x ∈ N) → A.length ≤ N.length
  | [], _, _, _ => Nat.zero_le _
  | a :: A, N, hd, hs => by
    rw [List.nodup_cons] at hd
    have ha := hs a List.mem_cons_self
    have ih := nodup_le (N := N.erase a) hd.2 fun x hx => (List.mem_erase_of_ne fun e => hd.1 (by rw [← e]; exact hx)).2 (hs x (List.mem_cons_of_mem _ hx))
    rw [List.length_erase_of_mem ha] at ih
    have := List.length_pos_of_mem ha
    simp only [List.length_cons]; omega
theorem any_true {α : Type} [Inhabited α] {p : α → Bool} {L : List α} {k : Nat} (hk : k < L.length) (h : p (L.getD k default) = true) : L.any p = true := List.any_eq_true.2 ⟨_, getD_mem hk, h⟩
theorem any_false {α : Type} [Inhabited α] {p : α → Bool} {L : List α} (h : ∀ k, k < L.length → p (L.getD k default) = false) : L.any p = false := by
  rw [List.any_eq_false]
  intro x hx
  obtain ⟨k, hk, rfl⟩ := mem_getD hx
  rw [h k hk]; simp
/-- Whatever holds ahead of a place, and there. -/
theorem upto_next {p : Nat → Prop} {i : Nat} (h : ∀ k, k < i → p k) (hi : p i) : ∀ k, k < i + 1 → p k := fun k hk => by
  rcases Nat.lt_or_ge k i with c | c
  · exact h k c
  · obtain rfl : k = i := by omega
    exact hi
/-- What lies ahead of a place, and it. -/
theorem nodup_next {α : Type} [DecidableEq α] [Inhabited α] {L : List α} {i : Nat} (h : i < L.length) (hn : (L.take i).Nodup) (hm : L.getD i default ∉ L.take i) : (L.take (i + 1)).Nodup := by
  rw [take_snoc h, List.nodup_append]
  refine ⟨hn, by simp, fun a ha b hb => ?_⟩
  simp only [List.mem_singleton] at hb
  subst hb
  exact fun e => hm (e ▸ ha)
theorem nodup_hit {α : Type} [DecidableEq α] [Inhabited α] {L : List α} {i : Nat} (h : i < L.length) (hm : L.getD i default ∈ L.take i) : ¬ L.Nodup := by
  intro hd
  have h2 : (L.take (i + 1)).Nodup := hd.sublist (List.take_sublist _ _)
  rw [take_snoc h, List.nodup_append] at h2
  exact h2.2.2 _ hm _ (List.mem_singleton_self _) rfl
/-- The first place of a value in a list. -/
def idxS {α : Type} [DecidableEq α] (L : List α) (x : α) : Int := if x ∈ L then (L.idxOf x : Int) else -1
theorem idxS_hit {α : Type} [DecidableEq α] [Inhabited α] {L : List α} {x : α} {i : Nat} (hi : i < L.length) (h : L.getD i default = x) (hn : ∀ k, k < i → L.getD k default ≠ x) : idxS L x = i := by
  have hx : L[i] = x := by simpa [List.getD_eq_getElem?_getD, hi] using h
  have hm : x ∈ L := hx ▸ List.getElem_mem hi
  unfold idxS
  rw [if_pos hm]
  have h1 : L.idxOf x ≤ i := by
    rcases Nat.lt_or_ge i (L.idxOf x) with c | c
    · have := List.not_of_lt_findIdx (p := (· == x)) c
      simp [hx] at this
    · exact c
  have h2 : L[L.idxOf x]'(List.idxOf_lt_length_iff.2 hm) = x := List.getElem_idxOf _
  have h3 : ¬ L.idxOf x < i := fun c => by
    refine hn _ c ?_
    have : L.idxOf x < L.length := List.idxOf_lt_length_iff.2 hm
    simp [List.getD_eq_getElem?_getD, this]
  have : L.idxOf x = i := by omega
  rw [this]
theorem idxS_none {α : Type} [DecidableEq α] [Inhabited α] {L : List α} {x : α} (hn : ∀ k, k < L.length → L.getD k default ≠ x) : idxS L x = -1 := by
  unfold idxS
  rw [if_neg]
  intro hm
  obtain ⟨i, hi, he⟩ := List.getElem_of_mem hm
  refine hn i hi ?_
  simpa [List.getD_eq_getElem?_getD, hi] using he
def inL {α : Type} [DecidableEq α] (x : α) (L : List α) : Bool := decide (x ∈ L)
theorem inL_iff {α : Type} [DecidableEq α] {x : α} {L : List α} : inL x L = true ↔ x ∈ L := by simp [inL]
theorem inL_no {α : Type} [DecidableEq α] {x : α} {L : List α} : inL x L = false ↔ x ∉ L := by simp [inL]
theorem idxS_ge {α : Type} [DecidableEq α] (L : List α) (x : α) : decide (idxS L x ≥ 0) = inL x L := by
  unfold idxS inL
  by_cases h : x ∈ L
  · simp [h]
  · simp [h]
end Ev
end Go.Proofs.YtffcaapbmkaceaaDoor
end
section
namespace Go.Proofs.YtffcaapbmkaceaaDoor
namespace Ev
open Go.RowKit
theorem byteAt_ge (s : ByteArray) (k : Nat) : 0 ≤ byteAt s k ∧ byteAt s k < 256 := by
  unfold byteAt
  have := (s.data.getD k 0).toNat_lt
  omega
theorem size_extract (z : ByteArray) (a b : Nat) : (z.extract a b).size = min b z.size - a := by simp
theorem byteAt_extract {z : ByteArray} {a b k : Nat} (h : a + k < min b z.size) : byteAt (z.extract a b) k = byteAt z (a + k) := by
  unfold byteAt
  have e : (z.extract a b).data = z.data.extract a b := by simp
  rw [e]
  have hs : z.data.size = z.size := rfl
  have h1 : k < (z.data.extract a b).size := by simp [hs]; omega
  have h2 : a + k < z.data.size := by rw [hs]; omega
  simp only [Array.getD_eq_getD_getElem?, Array.getElem?_eq_getElem h1, Array.getElem?_eq_getElem h2, Array.getElem_extract]
def trN (S : Int → Bool) : Nat → ByteArray → ByteArray
  | 0, x => x
  | n + 1, x => bif S (byteAt x n) then trN S n (x.extract 0 n) else x
/-- Without its end of such bytes. -/
def trS (S : Int → Bool) (x : ByteArray) : ByteArray := trN S x.size x
def tlN (S : Int → Bool) : Nat → ByteArray → ByteArray
  | 0, x => x
  | n + 1, x => bif S (byteAt x 0) then tlN S n (x.extract 1 x.size) else x
/-- Without its beginning of such bytes. -/
def tlS (S : Int → Bool) (x : ByteArray) : ByteArray := tlN S x.size x
theorem trS_step {S : Int → Bool} {z : ByteArray} (h : 0 < z.size) (hs : S (byteAt z (z.size - 1)) = true) : trS S (z.extract 0 (z.size - 1)) = trS S z := by
  unfold trS
  obtain ⟨n, hn⟩ : ∃ n, z.size = n + 1 := ⟨z.size - 1, by omega⟩
  rw [size_extract]
  simp only [hn, Nat.add_sub_cancel] at hs ⊢
  rw [show min n (n + 1) - 0 = n by omega]
  simp only [trN, hs, cond_true]
theorem trS_stop {S : Int → Bool} {z : ByteArray} (h : 0 < z.size) (hs : S (byteAt z (z.size - 1)) = false) : trS S z = z := by
  unfold trS
  obtain ⟨n, hn⟩ : ∃ n, z.size = n + 1 := ⟨z.size - 1, by omega⟩
  simp only [hn, Nat.add_sub_cancel] at hs ⊢
  simp only [trN, hs, cond_false]
theorem trS_nil {S : Int → Bool} {z : ByteArray} (h : z.size = 0) : trS S z = z := by unfold trS; rw [h]; rfl
theorem tlS_step {S : Int → Bool} {z : ByteArray} (h : 0 < z.size) (hs : S (byteAt z 0) = true) : tlS S (z.extract 1 z.size) = tlS S z := by
  unfold tlS
  obtain ⟨n, hn⟩ : ∃ n, z.size = n + 1 := ⟨z.size - 1, by omega⟩
  have e : (z.extract 1 z.size).size = n := by rw [size_extract]; omega
  rw [e]
  rw [hn] 
  simp only [tlN, hs, cond_true]
  rw [hn]
theorem tlS_stop {S : Int → Bool} {z : ByteArray} (h : 0 < z.size) (hs : S (byteAt z 0) = false) : tlS S z = z := by
  unfold tlS
  obtain ⟨n, hn⟩ : ∃ n, z.size = n + 1 := ⟨z.size - 1, by omega⟩
  rw [hn]
  simp [tlN, hs]
theorem tlS_nil {S : Int → Bool} {z : ByteArray} (h : z.size = 0) : tlS S z = z := by unfold tlS; rw [h]; rfl
/-- What is left at the end ends with another byte. -/
theorem trS_end {S : Int → Bool} : ∀ (n : Nat) (z : ByteArray), z.size = n → ((∀ k, k < z.size → S (byteAt z k) = true) ∧ (trS S z).size = 0) ∨ (0 < (trS S z).size ∧ (∃ k, k < z.size ∧ S (byteAt z k) = false) ∧ ∃ k, k < (trS S z).size ∧ S (byteAt (trS S z) k) = false)
  | 0, z, h => .inl ⟨fun k hk => by omega, by rw [trS_nil h, h]⟩
  | n + 1, z, h => by
    cases hs : S (byteAt z (z.size - 1)) with
    | false => rw [trS_stop (by omega) hs]; exact .inr ⟨by omega, ⟨z.size - 1, by omega, hs⟩, z.size - 1, by omega, hs⟩
    | true =>
      rw [← trS_step (by omega) hs]
      have hsz : (z.extract 0 (z.size - 1)).size = n := by rw [size_extract]; omega
      rcases trS_end n _ hsz with ⟨h1, h2⟩ | ⟨h1, ⟨k, h2, h3⟩, h4⟩
      · refine .inl ⟨fun k hk => ?_, h2⟩
        rcases Nat.lt_or_ge k (z.size - 1) with c | c
        · have := h1 k (by omega)
          rw [byteAt_extract (by omega), Nat.zero_add] at this
          exact this
        · rw [show k = z.size - 1 by omega]; exact hs
      · refine .inr ⟨h1, ⟨k, by omega, ?_⟩, h4⟩
        rw [byteAt_extract (by omega), Nat.zero_add] at h3
        exact h3
theorem tlS_pos {S : Int → Bool} : ∀ (n : Nat) (z : ByteArray), z.size = n → (∃ k, k < z.size ∧ S (byteAt z k) = false) → 0 < (tlS S z).size
  | 0, z, h, ⟨k, hk, _⟩ => by omega
  | n + 1, z, h, ⟨k, hk, hks⟩ => by
    cases hs : S (byteAt z 0) with
    | false => rw [tlS_stop (by omega) hs]; omega
    | true =>
      rw [← tlS_step (by omega) hs]
      have hsz : (z.extract 1 z.size).size = n := by rw [size_extract]; omega
      have hk0 : k ≠ 0 := fun e => by subst e; rw [hs] at hks; cases hks
      exact tlS_pos n _ hsz ⟨k - 1, by omega, by rw [byteAt_extract (by omega), show 1 + (k - 1) = k by omega]; exact hks⟩
def allB (S : Int → Bool) (z : ByteArray) : Bool := (List.range z.size).all fun k => S (byteAt z k)
theorem allB_iff {S : Int → Bool} {z : ByteArray} : allB S z = true ↔ ∀ k, k < z.size → S (byteAt z k) = true := by simp [allB]
theorem trim_nil (S : Int → Bool) (z : ByteArray) : decide ((tlS S (trS S z)).size = 0) = allB S z := by
  rcases trS_end (S := S) _ z rfl with ⟨h1, h2⟩ | ⟨h1, ⟨k, h2, h3⟩, h4⟩
  · rw [tlS_nil h2, h2, allB_iff.2 h1]; rfl
  · have h5 := tlS_pos _ _ rfl h4
    have h6 : allB S z = false := by
      cases h : allB S z with
      | false => rfl
      | true => have := allB_iff.1 h k h2; rw [h3] at this; cases this
    rw [h6, decide_eq_false (by omega)]
theorem ba_nil {z : ByteArray} : (z = ⟨#[]⟩) ↔ z.size = 0 := by
  constructor
  · intro h; subst h; rfl
  · intro h; exact ByteArray.ext (Array.eq_empty_of_size_eq_zero h)
end Ev
end Go.Proofs.YtffcaapbmkaceaaDoor
end
section
namespace Go.Proofs.YtffcaapbmkaceaaDoor
open Ev Go.RowKit
theorem hS {α : Type} {K : α → Prop} {b : Bool} {t e : Br α} (h1 : b = true → t.Holds K) (h2 : b = false → e.Holds K) : (Br.test b t e).Holds K := ⟨h1, h2⟩
theorem hSt {α : Type} {K : α → Prop} {t e : Br α} (h1 : t.Holds K) : (Br.test true t e).Holds K := ⟨fun _ => h1, fun h => by cases h⟩
theorem hSf {α : Type} {K : α → Prop} {t e : Br α} (h1 : e.Holds K) : (Br.test false t e).Holds K := ⟨fun h => (by cases h), fun _ => h1⟩
theorem hSd {α : Type} {K : α → Prop} {p : Prop} [Decidable p] {t e : Br α} (h1 : p → t.Holds K) (h2 : ¬ p → e.Holds K) : (Br.test (decide p) t e).Holds K := ⟨fun h => h1 (of_decide_eq_true h), fun h => h2 (of_decide_eq_false h)⟩
theorem hSn {α : Type} {K : α → Prop} {p : Prop} [Decidable p] {t e : Br α} (h1 : ¬ p → t.Holds K) (h2 : p → e.Holds K) : (Br.test (!decide p) t e).Holds K := ⟨fun h => h1 (by simpa using h), fun h => h2 (by simpa using h)⟩
theorem hSe {α : Type} {K : α → Prop} {a b : Int} {t e : Br α} (h1 : a = b → t.Holds K) (h2 : a ≠ b → e.Holds K) : (Br.test (a == b) t e).Holds K := ⟨fun h => h1 (by simpa using h), fun h => h2 (by simpa using h)⟩
theorem hSne {α : Type} {K : α → Prop} {a b : Int} {t e : Br α} (h1 : a ≠ b → t.Holds K) (h2 : a = b → e.Holds K) : (Br.test (!(a == b)) t e).Holds K := ⟨fun h => h1 (by simpa using h), fun h => h2 (by simpa using h)⟩
theorem hSi {α : Type} {K : α → Prop} {i n : Nat} {t : Br α} (h : i < n) (h1 : t.Holds K) : (Br.test (decide (0 ≤ (i : Int)) && decide ((i : Int) < (n : Int))) t .no).Holds K := hT (idx_ok h) h1
theorem hSb {α : Type} {K : α → Prop} {p : ByteArray} {q : ByteArray} {t e : Br α} (h1 : p = q → t.Holds K) (h2 : p ≠ q → e.Holds K) : (Br.test (p.toList == q.toList) t e).Holds K := ⟨fun h => h1 (by rw [ba_eq] at h; simpa using h), fun h => h2 (by rw [ba_eq] at h; simpa using h)⟩
theorem hSbn {α : Type} {K : α → Prop} {p : ByteArray} {q : ByteArray} {t e : Br α} (h1 : p ≠ q → t.Holds K) (h2 : p = q → e.Holds K) : (Br.test (!(p.toList == q.toList)) t e).Holds K := ⟨fun h => h1 (by rw [ba_eq] at h; simpa using h), fun h => h2 (by rw [ba_eq] at h; simpa using h)⟩
end Go.Proofs.YtffcaapbmkaceaaDoor
end
