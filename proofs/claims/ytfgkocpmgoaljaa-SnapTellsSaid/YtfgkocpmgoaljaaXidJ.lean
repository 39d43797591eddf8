/- The walk of 'all': what is told of all transactions of a table, as a list. The condition: the table lies in memory as its data say. -/
import Derived.Test.YtfgkocpmgoaljaaXidI
import Derived.Test.YtfgkocpmgoaljaaXidP
namespace Go.Proofs.Ytfgkocpmgoaljaa
open Go.RowKit Go.Shelf Xid

theorem infoSeen : (Try.prog.info? 46).map (fun i => (i.zero, i.size, i.bytes)) = some (some (.agg #[.int .u8 0, .int .i64 0, .int .i64 0, .bool false]), 4, 32) := by kernel_rfl

/-- What is told of the one of place k. -/
def seenC (T : List One) (k : Nat) : List Value := [.int .u8 (stateOf T ((k : Int) + 1)), .int .i64 (topOf T ((k : Int) + 1)), .int .i64 (numberOf T ((k : Int) + 1)), .bool (countsOf T ((k : Int) + 1))]
def allN (T : List One) (n : Nat) : List Value := (List.range n).flatMap (seenC T)
def allC (T : List One) : List Value := allN T T.length

theorem allN_length (T : List One) (n : Nat) : (allN T n).length = n * 4 := by
  induction n with
  | zero => rfl
  | succ n ih => simp only [allN, List.range_succ, List.flatMap_append, List.length_append] at ih ⊢; rw [ih]; simp [seenC]; omega
theorem allN_succ (T : List One) (n : Nat) : allN T (n + 1) = allN T n ++ seenC T n := by simp [allN, List.range_succ]
theorem allN_get (T : List One) (n k j : Nat) (hk : k < n) (hj : j < 4) : (allN T n)[k * 4 + j]? = (seenC T k)[j]? := by
  induction n with
  | zero => omega
  | succ n ih =>
    rw [allN_succ]
    by_cases e : k < n
    · rw [List.getElem?_append_left (by rw [allN_length]; omega)]; exact ih e
    · obtain rfl : k = n := by omega
      rw [List.getElem?_append_right (by rw [allN_length]; omega), allN_length]
      congr 1; omega

/-- A slice of what was told of all. -/
def IsAll (w : World) (B : Nat) (T : List One) (v : Value) : Prop := ∃ g cap, v = .slice g T.length cap ∧ w.ownsRow B 46 4 v T.length (allC T)

theorem IsAll.fr {w w' : World} {B : Nat} {T : List One} {v : Value} (h : IsAll w B T v) {ts : List TypeId} (hf : FrT ts w w') (ht : 46 ∉ ts) : IsAll w' B T v := by
  obtain ⟨g, cap, h1, h2⟩ := h
  exact ⟨g, cap, h1, hf.row h2 ht⟩
theorem IsAll.cells {w : World} {B : Nat} {T : List One} {v : Value} (h : IsAll w B T v) {k : Nat} (hk : k < T.length) : ∃ g cap, v = .slice (some ⟨g, 0, none⟩) T.length cap ∧ B ≤ g ∧
    w.cell? ⟨g, k * 4, none⟩ = some (.int .u8 (stateOf T ((k : Int) + 1))) ∧ w.cell? ⟨g, k * 4 + 1, none⟩ = some (.int .i64 (topOf T ((k : Int) + 1))) ∧
    w.cell? ⟨g, k * 4 + 2, none⟩ = some (.int .i64 (numberOf T ((k : Int) + 1))) ∧ w.cell? ⟨g, k * 4 + 3, none⟩ = some (.bool (countsOf T ((k : Int) + 1))) := by
  obtain ⟨a, cap, rfl, h2⟩ := h
  have h3 := h2
  obtain ⟨_, ⟨e, e2⟩ | ⟨g, cap', cur, e, hb, _⟩⟩ := h3
  · omega
  · cases e
    exact ⟨g, cap, rfl, hb, row_cell h2 (allN_get T _ k 0 hk (by omega)), row_cell h2 (allN_get T _ k 1 hk (by omega)), row_cell h2 (allN_get T _ k 2 hk (by omega)), row_cell h2 (allN_get T _ k 3 hk (by omega))⟩

def AllPost (T : List One) (w : World) (e : Ending) (w' : World) : Prop := ∃ v, e = .returned v ∧ IsAll w' w.heap.size T v ∧ Fr noB w w'

theorem Fr.row {a b : World} (h : Fr noB a b) {base : Nat} {e : TypeId} {size : Nat} {v : Value} {n : Nat} {xs : List Value} (ho : a.ownsRow base e size v n xs) : b.ownsRow base e size v n xs := (FrT.ofN (ts := []) h).row ho (by simp)

set_option maxHeartbeats 1000000 in
theorem all_any (p : Nat) (R : Option Nat) (T : List One) (last : Nat) (w : World) (hT : IsT w p R T last) (hlen : T.length ≤ 1000000) :
    Calls Try.prog 33 #[.pointer (some ⟨p, 0, none⟩)] w (AllPost T w) := by
  obtain ⟨i0, hi, hz0, hz1, hz2⟩ := info_parts infoSeen
  go_enter Try.func33, Try.ntmps33
  go_wp2
  go_loopw [3, 4] (fun vv iv wr => ∃ (k : Nat) (g : Option Addr) (cap : Nat), k ≤ T.length ∧ iv = .int .i64 ((k : Int) + 1) ∧ vv = .slice g k cap ∧ IsT wr p R T last ∧ Fr noB w wr ∧
    wr.ownsRow w.heap.size 46 4 (.slice g k cap) k (allN T k)) (fun _ iv _ => T.length + 1 - (intOf iv).toNat)
  case atStart => exact ⟨0, none, 0, by omega, rfl, rfl, hT, Fr.refl _ _, rfl, .inl ⟨rfl, rfl⟩⟩
  case round =>
    obtain ⟨k, g, cap, hk, rfl, rfl, hTr, hf, hrow⟩ := hrel
    clear hT
    by_cases hlt : k < T.length
    · go_wp2_with (go_at_call 23; refine (len_any p R T last _ hTr).mono ?_; rintro e w' ⟨rfl, rfl⟩)
      refine (state_any p R T last _ _ hTr hlen).mono ?_
      rintro e w1 ⟨rfl, rfl⟩
      go_wp2_with fail
      refine (top_any p R T last _ _ hTr hlen).mono ?_
      rintro e w2 ⟨rfl, hf2⟩
      have hT2 := hTr.frN hf2
      go_wp2_with fail
      refine (number_any p R T last _ _ hT2 hlen).mono ?_
      rintro e w3 ⟨rfl, hf3⟩
      have hT3 := hT2.frN hf3
      go_wp2_with fail
      refine (counts_any p R T last _ _ hT3 hlen).mono ?_
      rintro e w4 ⟨rfl, hf4⟩
      have hT4 := hT3.frN hf4
      have hfa := ((hf.trans hf2).trans hf3).trans hf4
      have hrow4 := hf4.row (hf3.row (hf2.row hrow))
      clear hTr hT2 hT3 hrow
      have hnew : (w4.alloc (.cells #[.int .u8 (stateOf T ((k : Int) + 1)), .int .i64 (topOf T ((k : Int) + 1)), .int .i64 (numberOf T ((k : Int) + 1)), .bool (countsOf T ((k : Int) + 1))] 46)).ownsRow w.heap.size 46 4 (.slice g k cap) k (allN T k) := hrow4.alloc _
      go_wp2_with (at_builtin; refine wpList_append_row _ rfl _ _ 43 rfl w.heap.size 46 i0 (.agg #[.int .u8 0, .int .i64 0, .int .i64 0, .bool false]) 4 32 Try.underlying43 hi hz0 hz1 hz2 rfl (by decide) (.slice g k cap) k (allN T k) rfl hnew ⟨w4.heap.size, 0, none⟩ 1 1 (seenC T k) rfl rfl (cells_new _ _ _) (by simp [seenC, Value.oneCell']) (by unfold maxLen; omega) (by omega) (by have := hfa.size; simp; omega) (by omega) ?_; intro g' cap' w5 ho hg hf5)
      go_roundw
      case rel =>
        have hsz := hfa.size
        have hown : ∀ j, (Value.slice g k cap).ownBlock = some j → w.heap.size ≤ j := by
          intro j hj
          obtain ⟨_, ⟨e, _⟩ | ⟨g2, cap2, cur, e, hb, _⟩⟩ := hrow4
          · rw [e] at hj; cases hj
          · rw [e] at hj; cases hj; exact hb
        have hf6 : Fr noB w w5 := (hfa.alloc _).grown hg (fun j e hj => by have := hown j e; omega)
        refine ⟨k + 1, some ⟨g', 0, none⟩, cap', by omega, by go_num, rfl, ?_, hf6, by rw [allN_succ]; exact ho⟩
        refine (hT4.frN ((Fr.refl noB _).alloc _)).fr (S := fun j => (Value.slice g k cap).ownBlock = some j) ((Fr.refl _ _).grown hg (fun j e _ => e)) ?_
        intro j hj hs
        obtain ⟨c, t, fz, h1, h2⟩ := hT4.types hj
        obtain ⟨_, ⟨e, _⟩ | ⟨g2, cap2, cur, e, hb, hc, _⟩⟩ := hrow4
        · rw [e] at hs; cases hs
        · rw [e] at hs; cases hs; rw [hc] at h1; cases h1; exact absurd h2 (by decide)
      case measure => simp [intOf]; omega
    · go_wp2_with (go_at_call 23; refine (len_any p R T last _ hTr).mono ?_; rintro e w' ⟨rfl, rfl⟩)
      go_ret
      have : k = T.length := by omega
      subst this
      exact ⟨_, rfl, ⟨g, cap, rfl, hrow⟩, hf⟩

end Go.Proofs.Ytfgkocpmgoaljaa
