/- xid's calls at a known table: the contracts with what they tell written out; a step of the statements. The conditions: the table lies in memory as its data say. -/
import Derived.Test.YtfgkocpmgoaljaaXidF
namespace Go.Proofs.Ytfgkocpmgoaljaa
open Go.RowKit Go.Shelf Xid

theorem begin_at {p : Nat} {R : Option Nat} {T : List One} {last : Nat} {id : Int} {w : World} (hT : IsT w p R T last) (a e : Int) (T' : List One) (h1 : T.length < 1000000) (hA : beginA T id = a) (hE : beginE T id = e) (hT' : beginT T id = T') :
    Calls Try.prog 47 #[.pointer (some ⟨p, 0, none⟩), .int .i64 id] w fun e' w' => e' = .returned (.tuple #[.int .i64 a, .int .i64 e]) ∧ Turned p R T' last w w' := by
  subst hA hE hT'; exact begin_any p R T last id w hT h1
theorem commit_at {p : Nat} {R : Option Nat} {T : List One} {last : Nat} {id : Int} {w : World} (hT : IsT w p R T last) (e : Int) (T' : List One) (l' : Nat) (h1 : T.length ≤ 1000000) (h2 : last ≤ 1000000) (hE : endE T id = e) (hT' : commitT T last id = T') (hL : commitL T last id = l') :
    Calls Try.prog 34 #[.pointer (some ⟨p, 0, none⟩), .int .i64 id] w fun e' w' => e' = .returned (.int .i64 e) ∧ Turned p R T' l' w w' := by
  subst hE hT' hL; exact commit_any p R T last id w hT h1 h2
theorem abort_at {p : Nat} {R : Option Nat} {T : List One} {last : Nat} {id : Int} {w : World} (hT : IsT w p R T last) (e : Int) (T' : List One) (h1 : T.length ≤ 1000000) (hE : endE T id = e) (hT' : abortT T id = T') :
    Calls Try.prog 35 #[.pointer (some ⟨p, 0, none⟩), .int .i64 id] w fun e' w' => e' = .returned (.int .i64 e) ∧ Turned p R T' last w w' := by
  subst hE hT'; exact abort_any p R T last id w hT h1
theorem state_at {p : Nat} {R : Option Nat} {T : List One} {last : Nat} {id : Int} {w : World} (hT : IsT w p R T last) (s : Int) (h1 : T.length ≤ 1000000) (hs : (stateOf T id : Int) = s) :
    Calls Try.prog 24 #[.pointer (some ⟨p, 0, none⟩), .int .i64 id] w fun e' w' => e' = .returned (.int .u8 s) ∧ Fr noB w w' := by
  subst hs; exact (state_any p R T last id w hT h1).mono fun e w' ⟨h1, h2⟩ => ⟨h1, h2 ▸ Fr.refl _ _⟩
theorem number_at {p : Nat} {R : Option Nat} {T : List One} {last : Nat} {id : Int} {w : World} (hT : IsT w p R T last) (s : Int) (h1 : T.length ≤ 1000000) (hs : (numberOf T id : Int) = s) :
    Calls Try.prog 30 #[.pointer (some ⟨p, 0, none⟩), .int .i64 id] w fun e' w' => e' = .returned (.int .i64 s) ∧ Fr noB w w' := by
  subst hs; exact number_any p R T last id w hT h1
theorem top_at {p : Nat} {R : Option Nat} {T : List One} {last : Nat} {id : Int} {w : World} (hT : IsT w p R T last) (s : Int) (h1 : T.length ≤ 1000000) (hs : (topOf T id : Int) = s) :
    Calls Try.prog 26 #[.pointer (some ⟨p, 0, none⟩), .int .i64 id] w fun e' w' => e' = .returned (.int .i64 s) ∧ Fr noB w w' := by
  subst hs; exact top_any p R T last id w hT h1
theorem counts_at {p : Nat} {R : Option Nat} {T : List One} {last : Nat} {id : Int} {w : World} (hT : IsT w p R T last) (s : Bool) (h1 : T.length ≤ 1000000) (hs : countsOf T id = s) :
    Calls Try.prog 28 #[.pointer (some ⟨p, 0, none⟩), .int .i64 id] w fun e' w' => e' = .returned (.bool s) ∧ Fr noB w w' := by
  subst hs; exact counts_any p R T last id w hT h1
theorem last_at {p : Nat} {R : Option Nat} {T : List One} {last : Nat} {w : World} (hT : IsT w p R T last) (s : Int) (hs : (last : Int) = s) :
    Calls Try.prog 21 #[.pointer (some ⟨p, 0, none⟩)] w fun e' w' => e' = .returned (.int .i64 s) ∧ Fr noB w w' := by
  subst hs; exact (last_any p R T last w hT).mono fun e w' ⟨h1, h2⟩ => ⟨h1, h2 ▸ Fr.refl _ _⟩
theorem len_at {p : Nat} {R : Option Nat} {T : List One} {last : Nat} {w : World} (hT : IsT w p R T last) (s : Int) (hs : (T.length : Int) = s) :
    Calls Try.prog 23 #[.pointer (some ⟨p, 0, none⟩)] w fun e' w' => e' = .returned (.int .i64 s) ∧ Fr noB w w' := by
  subst hs; exact (len_any p R T last w hT).mono fun e w' ⟨h1, h2⟩ => ⟨h1, h2 ▸ Fr.refl _ _⟩

/-- A table of one's own: made since the world was w0; nothing that was there has turned. -/
structure Mine (w0 w : World) (p : Nat) (T : List One) (last : Nat) : Prop where
  tab : ∃ R, IsT w p R T last ∧ (∀ r, R = some r → w0.heap.size ≤ r)
  pB : w0.heap.size ≤ p
  fr : Fr noB w0 w

theorem Mine.turned {w0 w w' : World} {p : Nat} {T T' : List One} {last last' : Nat} {R : Option Nat} (h : Mine w0 w p T last) (hR : ∀ r, R = some r → w0.heap.size ≤ r) (ht : Turned p R T' last' w w') : Mine w0 w' p T' last' := by
  obtain ⟨R', hT', hf, hr⟩ := ht
  refine ⟨⟨R', hT', fun r e => ?_⟩, h.pB, h.fr.transX hf ?_⟩
  · rcases hr r e with h1 | h1
    · exact hR r h1
    · exact Nat.le_trans h.fr.size h1
  · rintro k hk (rfl | h1)
    · have := h.pB; omega
    · have := hR k h1; omega
/-- The types of a table's blocks. -/
def xT : List TypeId := [68, 73]
theorem IsT.frX {w w' : World} {p : Nat} {R : Option Nat} {T : List One} {last : Nat} (h : IsT w p R T last) (hf : Fr (foot p R) w w') : FrT xT w w' := by
  refine Fr.mono hf ?_
  rintro k hk (rfl | hR)
  · rcases h.cases with ⟨_, _, h1⟩ | ⟨r, cap, cur, _, h1, _⟩ <;> exact ⟨_, _, _, h1, by decide⟩
  · rcases h.cases with ⟨_, h1, _⟩ | ⟨r, cap, cur, h0, _, h1, _⟩
    · rw [h1] at hR; cases hR
    · rw [h0] at hR; cases hR; exact ⟨_, _, _, h1, by decide⟩
theorem Turned.frX {p : Nat} {R : Option Nat} {T T' : List One} {last last' : Nat} {w w' : World} (hT : IsT w p R T last) (h : Turned p R T' last' w w') : FrT xT w w' := by
  obtain ⟨R', _, hf, _⟩ := h
  exact hT.frX hf

theorem Mine.frN {w0 w w' : World} {p : Nat} {T : List One} {last : Nat} (h : Mine w0 w p T last) (hf : Fr noB w w') : Mine w0 w' p T last := by
  obtain ⟨R, hT, hR⟩ := h.tab
  exact ⟨⟨R, hT.frN hf, hR⟩, h.pB, h.fr.trans hf⟩

theorem IsT.types {w : World} {p : Nat} {R : Option Nat} {T : List One} {last : Nat} (h : IsT w p R T last) {k : Nat} (hk : foot p R k) : ∃ c t fz, w.heap[k]? = some (.cells c t fz) ∧ t ∈ xT := by
  rcases hk with rfl | hR
  · rcases h.cases with ⟨_, _, h1⟩ | ⟨r, cap, cur, _, h1, _⟩ <;> exact ⟨_, _, _, h1, by decide⟩
  · rcases h.cases with ⟨_, h1, _⟩ | ⟨r, cap, cur, h0, _, h1, _⟩
    · rw [h1] at hR; cases hR
    · rw [h0] at hR; cases hR; exact ⟨_, _, _, h1, by decide⟩
/-- Blocks of other types turn. -/
theorem Mine.other {w0 w w' : World} {p : Nat} {T : List One} {last : Nat} {S : Nat → Prop} (h : Mine w0 w p T last) (hf : Fr S w w') (h0 : ∀ k, S k → w0.heap.size ≤ k) (hS : ∀ k c t fz, S k → w.heap[k]? = some (.cells c t fz) → t ∉ xT) : Mine w0 w' p T last := by
  obtain ⟨R, hT, hR⟩ := h.tab
  refine ⟨⟨R, hT.fr hf ?_, hR⟩, h.pB, h.fr.transX hf (fun k hk hs => absurd (h0 k hs) (by omega))⟩
  intro k hk hs
  obtain ⟨c, t, fz, h1, h2⟩ := hT.types hk
  exact hS k c t fz hs h1 h2
/-- A row of another type grows. -/
theorem Mine.grown {w0 w w' : World} {p : Nat} {T : List One} {last : Nat} (h : Mine w0 w p T last) {o : Obj} {base : Nat} {e : TypeId} {size : Nat} {v : Value} {n : Nat} {xs : List Value} (ho : w.ownsRow base e size v n xs) (hb : w0.heap.size ≤ base) (he : e ∉ xT)
    (hg : (w.alloc o).grownBy w' v.ownBlock) : Mine w0 w' p T last := by
  refine (h.frN ((Fr.refl noB w).alloc o)).other (S := fun k => v.ownBlock = some k) ((Fr.refl _ _).grown hg (fun k e _ => e)) ?_ ?_
  · intro k hk
    obtain ⟨_, ⟨rfl, _⟩ | ⟨g, cap, cur, rfl, h3, _⟩⟩ := ho
    · cases hk
    · cases hk; exact Nat.le_trans hb h3
  · intro k c t fz hk hc
    obtain ⟨_, ⟨rfl, _⟩ | ⟨g, cap, cur, rfl, _, h4, _⟩⟩ := ho
    · cases hk
    · cases hk
      rw [obj_alloc h4 o] at hc
      cases hc; exact he

theorem new_mine (w0 w : World) (h : Fr noB w0 w) : Calls Try.prog 15 #[] w fun e w' => e = .returned (.pointer (some ⟨w.heap.size, 0, none⟩)) ∧ Mine w0 w' w.heap.size [] 0 :=
  (new_any w).mono fun e w' ⟨h1, h2, h3, _⟩ => ⟨h1, ⟨none, h2, fun r e => by cases e⟩, h.size, h.trans h3⟩

theorem begin_mine {p : Nat} {T : List One} {last : Nat} {id : Int} {w0 w : World} (h : Mine w0 w p T last) (a e : Int) (T' : List One) (h1 : T.length < 1000000) (hA : beginA T id = a) (hE : beginE T id = e) (hT' : beginT T id = T') :
    Calls Try.prog 47 #[.pointer (some ⟨p, 0, none⟩), .int .i64 id] w fun e' w' => e' = .returned (.tuple #[.int .i64 a, .int .i64 e]) ∧ Mine w0 w' p T' last ∧ FrT xT w w' := by
  obtain ⟨R, hT, hR⟩ := h.tab
  exact (begin_at hT a e T' h1 hA hE hT').mono fun e' w' ⟨h2, h3⟩ => ⟨h2, h.turned hR h3, h3.frX hT⟩
theorem commit_mine {p : Nat} {T : List One} {last : Nat} {id : Int} {w0 w : World} (h : Mine w0 w p T last) (e : Int) (T' : List One) (l' : Nat) (h1 : T.length ≤ 1000000) (h2 : last ≤ 1000000) (hE : endE T id = e) (hT' : commitT T last id = T') (hL : commitL T last id = l') :
    Calls Try.prog 34 #[.pointer (some ⟨p, 0, none⟩), .int .i64 id] w fun e' w' => e' = .returned (.int .i64 e) ∧ Mine w0 w' p T' l' ∧ FrT xT w w' := by
  obtain ⟨R, hT, hR⟩ := h.tab
  exact (commit_at hT e T' l' h1 h2 hE hT' hL).mono fun e' w' ⟨h2, h3⟩ => ⟨h2, h.turned hR h3, h3.frX hT⟩
theorem abort_mine {p : Nat} {T : List One} {last : Nat} {id : Int} {w0 w : World} (h : Mine w0 w p T last) (e : Int) (T' : List One) (h1 : T.length ≤ 1000000) (hE : endE T id = e) (hT' : abortT T id = T') :
    Calls Try.prog 35 #[.pointer (some ⟨p, 0, none⟩), .int .i64 id] w fun e' w' => e' = .returned (.int .i64 e) ∧ Mine w0 w' p T' last ∧ FrT xT w w' := by
  obtain ⟨R, hT, hR⟩ := h.tab
  exact (abort_at hT e T' h1 hE hT').mono fun e' w' ⟨h2, h3⟩ => ⟨h2, h.turned hR h3, h3.frX hT⟩
theorem state_mine {p : Nat} {T : List One} {last : Nat} {id : Int} {w0 w : World} (h : Mine w0 w p T last) (s : Int) (h1 : T.length ≤ 1000000) (hs : (stateOf T id : Int) = s) :
    Calls Try.prog 24 #[.pointer (some ⟨p, 0, none⟩), .int .i64 id] w fun e' w' => e' = .returned (.int .u8 s) ∧ Mine w0 w' p T last ∧ FrT xT w w' := by
  obtain ⟨R, hT, hR⟩ := h.tab
  exact (state_at hT s h1 hs).mono fun e' w' ⟨h2, h3⟩ => ⟨h2, h.frN h3, FrT.ofN h3⟩
theorem number_mine {p : Nat} {T : List One} {last : Nat} {id : Int} {w0 w : World} (h : Mine w0 w p T last) (s : Int) (h1 : T.length ≤ 1000000) (hs : (numberOf T id : Int) = s) :
    Calls Try.prog 30 #[.pointer (some ⟨p, 0, none⟩), .int .i64 id] w fun e' w' => e' = .returned (.int .i64 s) ∧ Mine w0 w' p T last ∧ FrT xT w w' := by
  obtain ⟨R, hT, hR⟩ := h.tab
  exact (number_at hT s h1 hs).mono fun e' w' ⟨h2, h3⟩ => ⟨h2, h.frN h3, FrT.ofN h3⟩
theorem top_mine {p : Nat} {T : List One} {last : Nat} {id : Int} {w0 w : World} (h : Mine w0 w p T last) (s : Int) (h1 : T.length ≤ 1000000) (hs : (topOf T id : Int) = s) :
    Calls Try.prog 26 #[.pointer (some ⟨p, 0, none⟩), .int .i64 id] w fun e' w' => e' = .returned (.int .i64 s) ∧ Mine w0 w' p T last ∧ FrT xT w w' := by
  obtain ⟨R, hT, hR⟩ := h.tab
  exact (top_at hT s h1 hs).mono fun e' w' ⟨h2, h3⟩ => ⟨h2, h.frN h3, FrT.ofN h3⟩
theorem counts_mine {p : Nat} {T : List One} {last : Nat} {id : Int} {w0 w : World} (h : Mine w0 w p T last) (s : Bool) (h1 : T.length ≤ 1000000) (hs : countsOf T id = s) :
    Calls Try.prog 28 #[.pointer (some ⟨p, 0, none⟩), .int .i64 id] w fun e' w' => e' = .returned (.bool s) ∧ Mine w0 w' p T last ∧ FrT xT w w' := by
  obtain ⟨R, hT, hR⟩ := h.tab
  exact (counts_at hT s h1 hs).mono fun e' w' ⟨h2, h3⟩ => ⟨h2, h.frN h3, FrT.ofN h3⟩
theorem last_mine {p : Nat} {T : List One} {last : Nat} {w0 w : World} (h : Mine w0 w p T last) (s : Int) (hs : (last : Int) = s) :
    Calls Try.prog 21 #[.pointer (some ⟨p, 0, none⟩)] w fun e' w' => e' = .returned (.int .i64 s) ∧ Mine w0 w' p T last ∧ FrT xT w w' := by
  obtain ⟨R, hT, hR⟩ := h.tab
  exact (last_at hT s hs).mono fun e' w' ⟨h2, h3⟩ => ⟨h2, h.frN h3, FrT.ofN h3⟩
theorem len_mine {p : Nat} {T : List One} {last : Nat} {w0 w : World} (h : Mine w0 w p T last) (s : Int) (hs : (T.length : Int) = s) :
    Calls Try.prog 23 #[.pointer (some ⟨p, 0, none⟩)] w fun e' w' => e' = .returned (.int .i64 s) ∧ Mine w0 w' p T last ∧ FrT xT w w' := by
  obtain ⟨R, hT, hR⟩ := h.tab
  exact (len_at hT s hs).mono fun e' w' ⟨h2, h3⟩ => ⟨h2, h.frN h3, FrT.ofN h3⟩

end Go.Proofs.Ytfgkocpmgoaljaa
