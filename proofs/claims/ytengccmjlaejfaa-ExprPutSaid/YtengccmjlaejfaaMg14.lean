/- Contracts of functions over lists that nobody writes; as summaries for who calls them. No condition. -/
import Derived.Test.YtengccmjlaejfaaMg13
section
namespace Go.Proofs.Ytengccmjlaejfaa
namespace Ev
open Go.RowKit
set_option linter.unusedSectionVars false
variable {P : Program}

theorem fzrel_mono {m m' : Nat → Option Obj} {g g' : Bool} (h : ∀ b o, m b = some o → m' b = some o) : ∀ (d : D) (y : Value), @FzRel ⟨m, g⟩ d y → @FzRel ⟨m', g'⟩ d y
  | .v x, y, e => e
  | .l f len ks, y, e => by
    unfold FzRel at e ⊢
    rcases e with e | ⟨b, o, k, C, e', fr, h1, h2, h3, h4, h5⟩
    · exact .inl e
    · refine .inr ⟨b, o, k, C, e', fr, h1, h2, h _ _ h3, h4, fun i c hi hc => ?_⟩
      obtain ⟨g1, z, g2, g3⟩ := h5 i c hi hc
      exact ⟨g1, z, g2, fzrel_mono h (f i c) z g3⟩
theorem fzat_mono {m m' : Nat → Option Obj} {g g' : Bool} (h : ∀ b o, m b = some o → m' b = some o) {f : Nat → Nat → D} {len : Nat} {ks : List TK} {b o : Nat} (e : @FzAt ⟨m, g⟩ f len ks b o) : @FzAt ⟨m', g'⟩ f len ks b o := by
  obtain ⟨C, e', fr, h1, h2, h3⟩ := e
  refine ⟨C, e', fr, h _ _ h1, h2, fun i c hi hc => ?_⟩
  obtain ⟨g1, z, g2, g3⟩ := h3 i c hi hc
  exact ⟨g1, z, g2, fzrel_mono h (f i c) z g3⟩

/- As if nobody wrote it. -/
def kindOf : D → Option TK
  | .v (.int k _) => some (.int k)
  | .v (.string _) => some .str
  | .v (.bool _) => some .bool
  | .l _ _ _ => some .lst
  | _ => none
def kindsOf : List D → Option (List TK)
  | [] => some []
  | d :: r => match kindOf d, kindsOf r with
    | some k, some ks => some (k :: ks)
    | _, _ => none
theorem kindOf_fit {d : D} {k : TK} (h : kindOf d = some k) : k.fit d = true := by
  unfold kindOf at h
  split at h <;> first | (cases h; simp [TK.fit]; done) | cases h
theorem kindsOf_get : ∀ {ds : List D} {ks : List TK}, kindsOf ds = some ks → ks.length = ds.length ∧ ∀ (c : Nat) (k : TK), ks[c]? = some k → ∃ d, ds[c]? = some d ∧ k.fit d = true
  | [], _, h => by simp only [kindsOf] at h; cases h; exact ⟨rfl, fun c k h => by simp at h⟩
  | d :: r, _, h => by
    simp only [kindsOf] at h
    split at h
    · rename_i a b ha hb
      cases h
      obtain ⟨h1, h2⟩ := kindsOf_get hb
      refine ⟨by simp [h1], fun c k hk => ?_⟩
      cases c with
      | zero => simp at hk; subst hk; exact ⟨d, rfl, kindOf_fit ha⟩
      | succ c => simp at hk ⊢; exact h2 c k hk
    · cases h
def slF0 (h : Hp) (n off len : Nat) (cap : Option Nat) : Option (List Bool × AV) := match h.ob.get n with
    | some (.cells _ sz _ _ _) => match rowA h sz (.sl n off len cap) with
      | some cs => match avDs cs with
        | some ds => match kindsOf (ds.take sz) with
          | some ks => bif Nat.beq ks.length sz && (fitsRows ks len ds && Nat.ble len 9223372036854775807) then some ([], .fz (listD ds ks.length) len ks) else none
          | none => none
        | none => none
      | none => none
    | _ => none
/- Lists within lists. -/
def cellG (g : Nat → Nat → Nat → Option (List Bool × (Nat → Nat → D) × List TK)) (h : Hp) (x : AV) : Option (List Bool × D) := match x.d with
  | some d => some ([], d)
  | none => match x with
    | .sl n off len _ => match g n off len with
      | some (bs, f, ks) => some (bs, .l f len ks)
      | none => none
    | .osl n len => match h.ob.get n with
      | some (.rows f len' ks) => some ([Nat.ble len len'], .l f len ks)
      | _ => none
    | _ => none
def cellsG (g : Nat → Nat → Nat → Option (List Bool × (Nat → Nat → D) × List TK)) (h : Hp) : List AV → Option (List Bool × List D)
  | [] => some ([], [])
  | x :: r => match cellG g h x, cellsG g h r with
    | some (b, d), some (bs, ds) => some (b ++ bs, d :: ds)
    | _, _ => none
def slF : Nat → Hp → Nat → Nat → Nat → Option (List Bool × (Nat → Nat → D) × List TK)
  | 0, _, _, _, _ => none
  | k + 1, h, n, off, len => match h.ob.get n with
    | some (.cells _ sz _ _ _) => match rowA h sz (.sl n off len none) with
      | some cs => match cellsG (slF k h) h cs with
        | some (bs, ds) => match kindsOf (ds.take sz) with
          | some ks => bif Nat.beq ks.length sz && (fitsRows ks len ds && Nat.ble len 9223372036854775807) then some (bs, listD ds ks.length, ks) else none
          | none => none
        | none => none
      | none => none
    | _ => none
mutual
def frz (h : Hp) : AV → Option (List Bool × AV)
  | .v x => some ([], .s x)
  | .s x => some ([], .s x)
  | .fz f len ks => some ([], .fz f len ks)
  | .fzp f len ks i c => some ([], .fzp f len ks i c)
  | .z0 => some ([], .z0)
  | .xs => some ([], .xs)
  | .osl n len => match h.ob.get n with
    | some (.rows f len' ks) => some ([Nat.ble len len'], .fz f len ks)
    | _ => none
  | .ptr n i c => match h.ob.get n with
    | some (.rows f len ks) => some ([Nat.blt i len], .fzp f len ks i c)
    | some (.cells cs sz _ _ _) => match avDs cs with
      | some ds => match kindsOf ds with
        | some ks => bif Nat.beq ks.length sz && Nat.beq i 0 then some ([], .fzp (listD ds ks.length) 1 ks 0 c) else none
        | none => none
      | none => none
    | _ => none
  | .sl n off len cap => match slF0 h n off len cap with
    | some r => some r
    | none => match slF 8 h n off len with
      | some (bs, f, ks) => some (bs, .fz f len ks)
      | none => none
  | .fn f cs => (frzL h cs).map fun (bs, ys) => (bs, .fn f ys)
  | .agg cs => (frzL h cs).map fun (bs, ys) => (bs, .agg ys)
  | .tup cs => (frzL h cs).map fun (bs, ys) => (bs, .tup ys)
  | _ => none
def frzL (h : Hp) : List AV → Option (List Bool × List AV)
  | [] => some ([], [])
  | x :: xs => match frz h x, frzL h xs with
    | some (b, y), some (bs, ys) => some (b ++ bs, y :: ys)
    | _, _ => none
end
/-- Its memory, whole. -/
abbrev mem (w : World) : Nat → Option Obj := fun b => w.heap[b]?

section
variable [I : Fz]
theorem rows_at {ρ : Rho} {h : Hp} {w : World} (hh : HR ρ h w) {n : Nat} {p : Pl} {f : Nat → Nat → D} {len : Nat} {ks : List TK} (hp : ρ n = some p) (ho : h.ob.get n = some (.rows f len ks)) : @FzAt ⟨mem w, false⟩ f len ks p.b p.o ∧ p.z = ks.length := by
  obtain ⟨h1, ⟨_, h2, h3⟩, C, e, h4, h5, h6⟩ := hh.objP hp ho
  refine ⟨⟨C, e, _, h4, ⟨by rw [h5]; exact h2, h3⟩, fun i c hi hc => ?_⟩, h1⟩
  obtain ⟨g1, z, g2, g3⟩ := h6 i c hi hc
  exact ⟨g1, z, g2, fzrel_mono (m := Fz.m) (g := I.gc) hh.fz _ _ g3⟩
theorem d_relM {ρ : Rho} {h : Hp} {w : World} (hh : HR ρ h w) {x : AV} {d : D} {z : Value} (hd : x.d = some d) (r : VRel ρ x z) : @FzRel ⟨mem w, false⟩ d z := fzrel_mono (m := Fz.m) (g := I.gc) hh.fz _ _ (d_rel hd r)
theorem slF0_rel {ρ : Rho} {h : Hp} {w : World} (hh : HR ρ h w) {n off len : Nat} {cap : Option Nat} {x' : AV} {bs : List Bool} {y : Value} (e : slF0 h n off len cap = some (bs, x')) (r : VRel ρ (.sl n off len cap) y) : @VRel ⟨mem w, false⟩ (fun _ => none) x' y := by
    unfold slF0 at e
    split at e
    · rename_i cs0 sz fam tip sh ho
      split at e
      · rename_i cs hcs
        split at e
        · rename_i ds hds
          split at e
          · rename_i ks hks
            cases hc : (Nat.beq ks.length sz && (fitsRows ks len ds && Nat.ble len 9223372036854775807)) with
            | false => rw [hc] at e; cases e
            | true =>
              rw [hc] at e
              cases e
              simp only [Bool.and_eq_true, Nat.ble_eq] at hc
              obtain ⟨c1, c2, c3⟩ := hc
              have c1 := Nat.eq_of_beq_eq_true c1
              subst c1
              obtain ⟨p, k, hp, rfl, hk, hs, _⟩ := r
              obtain ⟨hz, hs', C, eT, hbk, hC, hcell⟩ := hh.objP hp ho
              unfold rowA at hcs
              simp only [ho, show Nat.beq ks.length ks.length = true from Nat.beq_refl _, cond_true] at hcs
              unfold window at hcs
              cases hw : Nat.ble (off * ks.length + len * ks.length) cs0.length with
              | false => rw [hw] at hcs; cases hcs
              | true =>
                rw [hw] at hcs
                simp only [cond_true, Option.some.injEq] at hcs
                simp only [Nat.ble_eq] at hw
                refine ⟨rfl, ?_⟩
                unfold FzRel
                obtain ⟨f1, f2⟩ := fitsRows_get c2
                refine .inr ⟨p.b, p.o + off * p.z, k, C, eT, _, rfl, hk, hbk, ⟨by rw [hz]; omega, c3⟩, fun i c hi hc => ?_⟩
                obtain ⟨tk, d, g1, g2, g3⟩ := f2 i c hi hc
                have e1 : listD ds ks.length i c = d := by unfold listD; simp [List.getD_eq_getElem?_getD, g2]
                rw [e1]
                obtain ⟨x0, x1, x2⟩ := HR.ren.avDs_get hds g2
                have hlt := idx_lt hi hc
                rw [← hcs, List.getElem?_take_of_lt hlt, List.getElem?_drop] at x1
                obtain ⟨z, hz1, hz2⟩ := hcell _ x0 x1
                exact ⟨⟨tk, g1, g3⟩, z, by rw [hz, Nat.add_assoc]; exact hz1, d_relM hh x2 hz2⟩
          · cases e
        · cases e
      · cases e
    · cases e
/-- The cells of a row, as what nobody writes. -/
theorem cellsG_get {g : Nat → Nat → Nat → Option (List Bool × (Nat → Nat → D) × List TK)} {h : Hp} : ∀ {xs : List AV} {bs : List Bool} {ds : List D}, cellsG g h xs = some (bs, ds) → ds.length = xs.length ∧ ∀ (i : Nat) (d : D), ds[i]? = some d → ∃ x b, xs[i]? = some x ∧ cellG g h x = some (b, d) ∧ ∀ q ∈ b, q ∈ bs
  | [], _, _, e => by simp only [cellsG] at e; cases e; exact ⟨rfl, fun i d hd => by simp at hd⟩
  | x :: xs, _, _, e => by
    simp only [cellsG] at e
    split at e
    · rename_i b d bs ds h1 h2
      cases e
      obtain ⟨k1, k2⟩ := cellsG_get h2
      refine ⟨by simp [k1], fun i d' hd => ?_⟩
      cases i with
      | zero => simp at hd; subst hd; exact ⟨x, b, rfl, h1, fun q hq => by simp [hq]⟩
      | succ i =>
        rw [List.getElem?_cons_succ] at hd
        obtain ⟨x', b', q1, q2, q3⟩ := k2 i d' hd
        exact ⟨x', b', by rw [List.getElem?_cons_succ]; exact q1, q2, fun q hq => List.mem_append_right _ (q3 q hq)⟩
    · cases e
theorem slF_rel {ρ : Rho} {h : Hp} {w : World} (hh : HR ρ h w) : ∀ (k n off len : Nat) (bs : List Bool) (f : Nat → Nat → D) (ks : List TK), slF k h n off len = some (bs, f, ks) → (∀ b ∈ bs, b = true) → ∀ (cap : Option Nat) (y : Value), VRel ρ (.sl n off len cap) y → @FzRel ⟨mem w, false⟩ (.l f len ks) y
  | 0, _, _, _, _, _, _, e, _, _, _, _ => by cases e
  | q + 1, n, off, len, bs, f, ks, e, hb, cap, y, r => by
    unfold slF at e
    split at e
    · rename_i cs0 sz fam tip sh ho
      split at e
      · rename_i cs hcs
        split at e
        · rename_i bs' ds hds
          split at e
          · rename_i ks' hks
            cases hc : (Nat.beq ks'.length sz && (fitsRows ks' len ds && Nat.ble len 9223372036854775807)) with
            | false => rw [hc] at e; cases e
            | true =>
              rw [hc] at e
              cases e
              simp only [Bool.and_eq_true, Nat.ble_eq] at hc
              obtain ⟨c1, c2, c3⟩ := hc
              have c1 := Nat.eq_of_beq_eq_true c1
              subst c1
              obtain ⟨p, k, hp, rfl, hk, hs, _⟩ := r
              obtain ⟨hz, hs', C, eT, hbk, hC, hcell⟩ := hh.objP hp ho
              unfold rowA at hcs
              simp only [ho, show Nat.beq ks.length ks.length = true from Nat.beq_refl _, cond_true] at hcs
              unfold window at hcs
              cases hw : Nat.ble (off * ks.length + len * ks.length) cs0.length with
              | false => rw [hw] at hcs; cases hcs
              | true =>
                rw [hw] at hcs
                simp only [cond_true, Option.some.injEq] at hcs
                simp only [Nat.ble_eq] at hw
                unfold FzRel
                obtain ⟨f1, f2⟩ := fitsRows_get c2
                refine .inr ⟨p.b, p.o + off * p.z, k, C, eT, _, rfl, hk, hbk, ⟨by rw [hz]; omega, c3⟩, fun i c hi hc => ?_⟩
                obtain ⟨tk, d, g1, g2, g3⟩ := f2 i c hi hc
                have e1 : listD ds ks.length i c = d := by unfold listD; simp [List.getD_eq_getElem?_getD, g2]
                rw [e1]
                obtain ⟨x0, b0, x1, x2, x3⟩ := (cellsG_get hds).2 _ _ g2
                have hlt := idx_lt hi hc
                rw [← hcs, List.getElem?_take_of_lt hlt, List.getElem?_drop] at x1
                obtain ⟨z, hz1, hz2⟩ := hcell _ x0 x1
                refine ⟨⟨tk, g1, g3⟩, z, by rw [hz, Nat.add_assoc]; exact hz1, ?_⟩
                have hb0 : ∀ b ∈ b0, b = true := fun b hb' => hb b (x3 b hb')
                unfold cellG at x2
                split at x2
                · rename_i d0 hd0
                  cases x2
                  exact d_relM hh hd0 hz2
                · split at x2
                  · split at x2
                    · rename_i hg
                      cases x2
                      exact slF_rel hh q _ _ _ _ _ _ hg hb0 _ z hz2
                    · cases x2
                  · split at x2
                    · rename_i f' len'' ks' ho'
                      cases x2
                      have hle := hb0 _ List.mem_cons_self
                      simp only [Nat.ble_eq] at hle
                      unfold FzRel
                      rcases hz2 with ⟨_, ⟨h1, a, h2⟩ | ⟨p', k', hp', h1, h2, h3⟩⟩
                      · exact .inl ⟨h1, a, 0, h2, fun _ => rfl⟩
                      · obtain ⟨⟨C', e', fr', g1', ⟨g2', g3'⟩, g4'⟩, _⟩ := rows_at hh hp' ho'
                        have := Nat.mul_le_mul_right ks'.length hle
                        exact .inr ⟨p'.b, p'.o, k', C', e', fr', h1, h2, g1', ⟨by omega, by omega⟩, fun i c hi hc => g4' i c (by omega) hc⟩
                    · cases x2
                  · cases x2
          · cases e
        · cases e
      · cases e
    · cases e
mutual
theorem frz_rel {ρ : Rho} {h : Hp} {w : World} (hh : HR ρ h w) : ∀ (x x' : AV) (bs : List Bool) (y : Value), frz h x = some (bs, x') → (∀ b ∈ bs, b = true) → VRel ρ x y → @VRel ⟨mem w, false⟩ (fun _ => none) x' y
  | .v x, _, _, _, e, _, r => by simp only [frz] at e; cases e; exact r
  | .s x, _, _, _, e, _, r => by simp only [frz] at e; cases e; exact r
  | .fz f len ks, _, _, _, e, _, r => by simp only [frz] at e; cases e; exact ⟨rfl, fzrel_mono (m := Fz.m) (g := I.gc) hh.fz _ _ r.2⟩
  | .fzp f len ks i c, _, _, _, e, _, r => by
    simp only [frz] at e; cases e
    obtain ⟨_, b, o, h1, h2, h3⟩ := r
    exact ⟨rfl, b, o, fzat_mono (m := Fz.m) (g := I.gc) hh.fz h1, h2, h3⟩
  | .z0, _, _, _, e, _, r => by simp only [frz] at e; cases e; exact r
  | .xs, _, _, _, e, _, r => by simp only [frz] at e; cases e; exact r
  | .none0 _, _, _, _, e, _, _ => by simp [frz] at e
  | .mp _, _, _, _, e, _, _ => by simp [frz] at e
  | .yld _, _, _, _, e, _, _ => by simp [frz] at e
  | .osl n len, _, _, _, e, hb, r => by
    simp only [frz] at e
    split at e
    · rename_i f len' ks ho
      cases e
      have hle : len ≤ len' := by simpa using hb _ List.mem_cons_self
      refine ⟨rfl, ?_⟩
      unfold FzRel
      rcases r with ⟨_, ⟨h1, a, h2⟩ | ⟨p, k, hp, h1, h2, h3⟩⟩
      · exact .inl ⟨h1, a, 0, h2, fun _ => rfl⟩
      · obtain ⟨⟨C, e, fr, g1, ⟨g2, g3⟩, g4⟩, _⟩ := rows_at hh hp ho
        have := Nat.mul_le_mul_right ks.length hle
        exact .inr ⟨p.b, p.o, k, C, e, fr, h1, h2, g1, ⟨by omega, by omega⟩, fun i c hi hc => g4 i c (by omega) hc⟩
    · cases e
  | .ptr n i c, _, _, _, e, hb, r => by
    simp only [frz] at e
    obtain ⟨p, hp, rfl⟩ := r
    split at e
    · rename_i f len ks ho
      cases e
      have hi : i < len := by simpa using hb _ List.mem_cons_self
      obtain ⟨h1, h2⟩ := rows_at hh hp ho
      exact ⟨rfl, p.b, p.o, h1, hi, by rw [h2]⟩
    · rename_i cs sz fam tip sh ho
      split at e
      · rename_i ds hds
        split at e
        · rename_i ks hks
          cases hc : (Nat.beq ks.length sz && Nat.beq i 0) with
          | false => rw [hc] at e; cases e
          | true =>
            rw [hc] at e
            cases e
            simp only [Bool.and_eq_true] at hc
            have e1 := Nat.eq_of_beq_eq_true hc.1
            have e2 := Nat.eq_of_beq_eq_true hc.2
            subst e2
            obtain ⟨hz, hs, C, eT, hbk, hC, hcell⟩ := hh.objP hp ho
            obtain ⟨k1, k2⟩ := kindsOf_get hks
            have hl : ds.length = cs.length := HR.ren.avDs_len hds
            refine ⟨rfl, p.b, p.o, ⟨C, eT, _, hbk, ⟨by omega, by omega⟩, fun j d hj hd => ?_⟩, by omega, by simp⟩
            obtain rfl : j = 0 := by omega
            obtain ⟨dd, q1, q2⟩ := k2 d ks[d] (by simp [hd])
            have e1 : listD ds ks.length 0 d = dd := by unfold listD; simp [List.getD_eq_getElem?_getD, q1]
            rw [e1]
            obtain ⟨x0, x1, x2⟩ := HR.ren.avDs_get hds q1
            obtain ⟨z, hz1, hz2⟩ := hcell _ x0 x1
            exact ⟨⟨_, by simp [hd], q2⟩, z, by simpa using hz1, d_relM hh x2 hz2⟩
        · cases e
      · cases e
    · cases e
  | .sl n off len cap, _, _, _, e, hb, r => by
    simp only [frz] at e
    split at e
    · rename_i r0 h0
      cases e
      exact slF0_rel hh h0 r
    · split at e
      · rename_i b1 f1 k1 h1
        cases e
        exact ⟨rfl, slF_rel hh 8 n off len _ _ _ h1 hb cap _ r⟩
      · cases e
  | .fn f cs, _, _, _, e, hb, ⟨ys, h1, h2⟩ => by
    simp only [frz, Option.map_eq_some_iff] at e
    obtain ⟨⟨b, l⟩, e1, e2⟩ := e
    cases e2
    exact ⟨ys, h1, frzL_rel hh cs l b _ e1 hb h2⟩
  | .agg cs, _, _, _, e, hb, ⟨ys, h1, h2⟩ => by
    simp only [frz, Option.map_eq_some_iff] at e
    obtain ⟨⟨b, l⟩, e1, e2⟩ := e
    cases e2
    exact ⟨ys, h1, frzL_rel hh cs l b _ e1 hb h2⟩
  | .tup cs, _, _, _, e, hb, ⟨ys, h1, h2⟩ => by
    simp only [frz, Option.map_eq_some_iff] at e
    obtain ⟨⟨b, l⟩, e1, e2⟩ := e
    cases e2
    exact ⟨ys, h1, frzL_rel hh cs l b _ e1 hb h2⟩
theorem frzL_rel {ρ : Rho} {h : Hp} {w : World} (hh : HR ρ h w) : ∀ (xs xs' : List AV) (bs : List Bool) (ys : List Value), frzL h xs = some (bs, xs') → (∀ b ∈ bs, b = true) → VRels ρ xs ys → @VRels ⟨mem w, false⟩ (fun _ => none) xs' ys
  | [], _, _, _, e, _, r => by simp only [frzL] at e; cases e; exact r
  | x :: xs, _, _, _, e, hb, ⟨y, s, e1, hx, hs⟩ => by
    simp only [frzL] at e
    split at e
    · rename_i b1 y1 bs1 ys1 ha hb1
      cases e
      exact ⟨y, s, e1, frz_rel hh x y1 b1 y ha (fun b hb' => hb b (by simp [hb'])) hx, frzL_rel hh xs ys1 bs1 s hb1 (fun b hb' => hb b (by simp [hb'])) hs⟩
    · cases e
end
end

/- Without lists in memory. -/
mutual
def AV.flat : AV → Bool
  | .fz _ _ _ => false
  | .fzp _ _ _ _ _ => false
  | .fn _ cs => flatL cs
  | .agg cs => flatL cs
  | .tup cs => flatL cs
  | _ => true
def flatL : List AV → Bool
  | [] => true
  | x :: xs => x.flat && flatL xs
end
def TK.flat : TK → Bool
  | .lst => false
  | _ => true
def flatO (o : AO) : Bool := match o with
  | .rows _ _ ks => ks.all TK.flat
  | _ => false
def isRows (o : AO) : Bool := match o with
  | .rows _ _ _ => true
  | _ => false
mutual
theorem flat_rel {m m' : Nat → Option Obj} {ρ : Rho} : ∀ (x : AV) (y : Value), x.flat = true → @VRel ⟨m, false⟩ ρ x y → @VRel ⟨m', false⟩ ρ x y
  | .v _, _, _, r => r
  | .s _, _, _, r => r
  | .ptr _ _ _, _, _, r => r
  | .sl _ _ _ _, _, _, r => r
  | .none0 _, _, _, r => r
  | .mp _, _, _, r => r
  | .yld _, _, _, r => r
  | .osl _ _, _, _, r => r
  | .z0, _, _, r => r
  | .xs, _, _, r => r
  | .fz _ _ _, _, h, _ => by simp [AV.flat] at h
  | .fzp _ _ _ _ _, _, h, _ => by simp [AV.flat] at h
  | .fn _ cs, _, h, ⟨ys, e, r⟩ => ⟨ys, e, flatL_rel cs _ (by simpa [AV.flat] using h) r⟩
  | .agg cs, _, h, ⟨ys, e, r⟩ => ⟨ys, e, flatL_rel cs _ (by simpa [AV.flat] using h) r⟩
  | .tup cs, _, h, ⟨ys, e, r⟩ => ⟨ys, e, flatL_rel cs _ (by simpa [AV.flat] using h) r⟩
theorem flatL_rel {m m' : Nat → Option Obj} {ρ : Rho} : ∀ (xs : List AV) (ys : List Value), flatL xs = true → @VRels ⟨m, false⟩ ρ xs ys → @VRels ⟨m', false⟩ ρ xs ys
  | [], _, _, r => r
  | x :: xs, _, h, ⟨y, s, e, hx, hs⟩ => by
    simp only [flatL, Bool.and_eq_true] at h
    exact ⟨y, s, e, flat_rel x y h.1 hx, flatL_rel xs s h.2 hs⟩
end

/-- **What a function comes to over memory that nobody writes**: its value, with lists of its own. -/
def OCalls (P : Program) (f : FuncId) (args : List AV) (v : AV) (os : List AO) : Prop :=
  ∀ (m : Nat → Option Obj) (w : World) (ys : Array Value), (∀ b o, m b = some o → w.heap[b]? = some o) → @VRels ⟨m, false⟩ (fun _ => none) args ys.toList →
    Calls P f ys w fun e w' => ∃ y ρ', e = .returned y ∧ Fr noB w w' ∧ @VRel ⟨m, false⟩ ρ' v y ∧ @HR ⟨m, false⟩ ρ' (mkH openB os) w' ∧ ∀ n p, ρ' n = some p → w.heap.size ≤ p.b
theorem OCalls.le {f : FuncId} {args args' : List AV} {v : AV} {os : List AO} (h : OCalls P f args v os) (hl : Les args' args) : OCalls P f args' v os :=
  fun m w ys hm hys => h m w ys hm (@Les.rel ⟨m, false⟩ rfl _ _ _ _ hl hys)

def exOk : Ex → Bool
  | .normal => true
  | .ret => true
  | _ => false
/-- What is looked at of a result: loc says where names stand in it. -/
def obsR (P : Program) (nx0 : Nat) (rs : List ResultVar) (loc : List (List Nat)) (a : Ex × T AV × Hp) : Ob := match resA P a.2.2 a.2.1 rs with
  | some l =>
    let ns := nsOf a.2.2 (fun _ => one l) 0 (loc.map fun p => (0, p))
    ⟨a.1, exOk a.1 && (a.2.2.lg.all (Nat.ble nx0) && (ns.all (Nat.ble nx0) && nodupB ns)), [(one l).ren (rnOf nx0 ns)], ns.map (osAt a.2.2 (rnOf nx0 ns))⟩
  | none => ⟨a.1, false, [], []⟩
/-- A contract, of what the code comes to. -/
theorem ocalls_of {f : FuncId} {fn : Func} {c : Code} (hfn : P.funcs[f]? = some fn) (hb : fn.body = some c) (hok : okCode fn.ntmps c = true) {args : List AV} {v : AV} {os : List AO} (loc : List (List Nat))
    (hr : ∀ [Fz], Fz.gc = false → RunB P openB c (params args) ⟨.leaf, openB, []⟩ (fun x e h => Goes (obsR P openB fn.results.toList loc (x, e, h)) [v] os)) : OCalls P f args v os := by
  intro m w ys hm hys
  letI : Fz := ⟨m, false⟩
  have hh : HR (fun _ => none) ⟨.leaf, openB, []⟩ w := HR.start openB [] hm (fun _ => Nat.le_refl _)
  refine (calls_runB hfn hb hok hys hh (K := fun u h => ∃ ns, nodupB ns = true ∧ (∀ n ∈ h.lg, openB ≤ n) ∧ (∀ n ∈ ns, openB ≤ n) ∧ (∃ u', u.ren (rnOf openB ns) = some u' ∧ Le u' v) ∧ OLes (ns.map (osAt h (rnOf openB ns))) os) ((hr rfl).mono fun x e h hg => ?_)).mono ?_
  · obtain ⟨hok, hv, ho⟩ := hg
    unfold obsR at hok hv ho
    split at hok
    · rename_i l hl
      simp only [hl] at hv ho
      simp only [Bool.and_eq_true, List.all_eq_true, Nat.ble_eq] at hok
      obtain ⟨h1, h2, h3, h4⟩ := hok
      refine ⟨?_, l, hl, _, h4, h2, h3, ?_, ho⟩
      · cases x <;> simp_all [exOk]
      · obtain ⟨u', h5, h6⟩ := hv.get (i := 0) rfl
        simp only [List.getElem?_cons_zero, Option.some.injEq] at h5
        exact ⟨u', h5, h6⟩
    · cases hok
  · rintro en w' ⟨y, u, ρ', h1, rfl, ⟨ns, k1, k2, k3, ⟨u', k4, k5⟩, k6⟩, hv, hh', hst⟩
    refine ⟨y, renR ρ' ns openB, rfl, ⟨hst.os, hst.tape, hst.output, hst.size, fun b hb _ => hst.block b hb fun n p hn hlt => absurd (k2 n hn) (by have hlt : n < openB := hlt; omega)⟩, k5.rel rfl (ren_rel (renOk ρ' ns openB) _ _ _ k4 hv), HR.ren hh' rfl (Nat.le_refl _) k1 k6, fun n p e => ?_⟩
    obtain ⟨k, e1, e2⟩ := renR_some e
    rcases e2 with ⟨e2, rfl⟩ | ⟨_, _, e2⟩
    · rw [hst.old k e2] at e1; cases e1
    · rcases hst.new k p (k3 k (List.mem_of_getElem? e2)) e1 with x | ⟨n', q, _, _, x3, _⟩
      · exact x
      · cases x3

/- In who calls. -/
def ands {α : Type} : List Bool → Br α → Br α
  | [], B => B
  | b :: r, B => .test b (ands r B) .no
def appO (h : Hp) (os : List AO) : Hp := os.foldl Hp.new h
def shN (k nx n : Nat) : Option Nat := bif Nat.ble openB n && Nat.blt n (openB + k) then some (nx + (n - openB)) else none
/- Nothing of one's own. -/
mutual
def AV.nm : AV → Bool
  | .v _ => true
  | .s _ => true
  | .fz _ _ _ => true
  | .fzp _ _ _ _ _ => true
  | .z0 => true
  | .xs => true
  | .fn _ cs => nmL cs
  | .agg cs => nmL cs
  | .tup cs => nmL cs
  | _ => false
def nmL : List AV → Bool
  | [] => true
  | x :: xs => x.nm && nmL xs
end
/-- A result, in who called. -/
def takeR (nm : Bool) (h : Hp) (r : AV × List AO) : Br (AV × Hp) := bif (nm || (r.1.flat && r.2.all flatO)) && r.2.all isRows then (match r.1.ren (shN r.2.length h.nx) with
  | some v' => .leaf (v', appO h r.2)
  | none => .no) else .no
/-- g: of what is handed over: the result, its lists, by tests. -/
def oX (f : FuncId) (g : List AV → Option (Br (AV × List AO))) : SumBr := fun f' args h => bif Nat.beq f' f then (match frzL h args with
  | some (bs, xs) => match g xs with
    | some B => some (ands bs (B.bind (takeR (nmL args) h)))
    | none => none
  | none => none) else none
def orX (a b : SumBr) : SumBr := fun f args h => match a f args h with
  | some r => some r
  | none => b f args h
theorem ands_ev {α : Type} {B : Br α} : ∀ {bs : List Bool} {r : α}, (ands bs B).ev = some r → B.ev = some r ∧ ∀ b ∈ bs, b = true
  | [], r, h => ⟨h, fun b h => by simp at h⟩
  | b :: bs, r, h => by
    simp only [ands, Br.ev] at h
    cases b with
    | true => obtain ⟨h1, h2⟩ := ands_ev h; exact ⟨h1, fun b hb => by rcases List.mem_cons.1 hb with rfl | hb; rfl; exact h2 b hb⟩
    | false => cases h
theorem bind_ev {α β : Type} {f : α → Br β} {r : β} : ∀ {B : Br α}, (B.bind f).ev = some r → ∃ a, B.At a ∧ (f a).ev = some r
  | .no, h => by cases h
  | .leaf a, h => ⟨a, rfl, h⟩
  | .test b t e, h => by
    simp only [Br.bind, Br.ev] at h
    cases b with
    | true => obtain ⟨a, h1, h2⟩ := bind_ev h; exact ⟨a, .inl ⟨rfl, h1⟩, h2⟩
    | false => obtain ⟨a, h1, h2⟩ := bind_ev h; exact ⟨a, .inr ⟨rfl, h1⟩, h2⟩
  | .ob p k, h => by
    simp only [Br.bind, Br.ev] at h
    by_cases c : p
    · rw [if_pos c] at h
      obtain ⟨a, h1, h2⟩ := bind_ev h
      exact ⟨a, ⟨c, h1⟩, h2⟩
    · rw [if_neg c] at h; cases h
theorem appO_spec : ∀ (os : List AO) (h : Hp), (appO h os).nx = h.nx + os.length ∧ (appO h os).lg = h.lg ∧ ∀ n, (appO h os).ob.get n = if n < h.nx ∨ h.nx + os.length ≤ n then h.ob.get n else os[n - h.nx]?
  | [], h => ⟨rfl, rfl, fun n => by show h.ob.get n = _; rw [if_pos]; simp; omega⟩
  | o :: r, h => by
    obtain ⟨h1, h2, h3⟩ := appO_spec r (h.new o)
    have e : appO h (o :: r) = appO (h.new o) r := rfl
    have e1 : (h.new o).nx = h.nx + 1 := rfl
    refine ⟨by rw [e, h1, e1]; simp; omega, by rw [e, h2]; rfl, fun n => ?_⟩
    rw [e, h3, e1]
    unfold Hp.new
    simp only []
    rw [T.get_put]
    simp only [List.length_cons]
    by_cases c : n = h.nx
    · subst c
      rw [if_pos (by omega), upd_same, if_neg (by omega), Nat.sub_self]; rfl
    · rw [upd_ne _ _ c]
      by_cases c2 : n < h.nx
      · rw [if_pos (by omega), if_pos (by omega)]
      · by_cases c3 : h.nx + 1 + r.length ≤ n
        · rw [if_pos (by omega), if_pos (by omega)]
        · rw [if_neg (by omega), if_neg (by omega), show n - h.nx = (n - (h.nx + 1)) + 1 by omega, List.getElem?_cons_succ]

/-- Summaries of the open evaluator. -/
structure SumGO (P : Program) (S : Sum) : Prop where
  ok : ∀ [Fz], Fz.gc = false → SumOk P S
  kl : SumKL S
theorem SumG.open {S : Sum} (h : SumG P S) : SumGO P S := ⟨@fun _ _ => h.ok, h.kl⟩
theorem orS_open {a b : Sum} (ha : SumGO P a) (hb : SumGO P b) : SumGO P (orS a b) := by
  refine ⟨@fun _ hgc f args h v h' hr => ?_, fun f args h v h' hr => ?_⟩
  · unfold orS at hr
    split at hr
    · rename_i r hx; cases hr; exact ha.ok hgc _ _ _ _ _ hx
    · exact hb.ok hgc _ _ _ _ _ hr
  · unfold orS at hr
    split at hr
    · rename_i r hx; cases hr; exact ha.kl _ _ _ _ _ hx
    · exact hb.kl _ _ _ _ _ hr
theorem noX_open : SumGO P (sumS noX) := ⟨@fun _ _ _ _ _ _ _ h => (by cases h), fun _ _ _ _ _ h => (by cases h)⟩
theorem orX_open {a b : SumBr} (ha : SumGO P (sumS a)) (hb : SumGO P (sumS b)) : SumGO P (sumS (orX a b)) := by
  have key : ∀ f args h v h', sumS (orX a b) f args h = some (v, h') → sumS a f args h = some (v, h') ∨ sumS b f args h = some (v, h') := by
    intro f args h v h' hr
    unfold sumS orX at hr
    unfold sumS
    cases hx : a f args h with
    | some B => rw [hx] at hr; exact .inl hr
    | none => rw [hx] at hr; exact .inr hr
  refine ⟨@fun _ hgc f args h v h' hr => ?_, fun f args h v h' hr => ?_⟩
  · rcases key _ _ _ _ _ hr with hr | hr
    · exact ha.ok hgc _ _ _ _ _ hr
    · exact hb.ok hgc _ _ _ _ _ hr
  · rcases key _ _ _ _ _ hr with hr | hr
    · exact ha.kl _ _ _ _ _ hr
    · exact hb.kl _ _ _ _ _ hr

section
variable [I : Fz]
/-- Two heaps, one behind the other. -/
theorem HR.union (hgc : I.gc = false) {ρ ρ' : Rho} {h : Hp} {w w' : World} {os : List AO} (hh : HR ρ h w) (hf : Fr noB w w') {m : Nat → Option Obj} (h' : @HR ⟨m, false⟩ ρ' (mkH openB os) w') (hro : os.all isRows = true) (hfl : (∀ d y, @FzRel ⟨m, false⟩ d y → FzRel d y) ∨ os.all flatO = true) (hnew : ∀ n p, ρ' n = some p → w.heap.size ≤ p.b) :
    HR (fun n => if n < h.nx then ρ n else ρ' (openB + (n - h.nx))) (appO h os) w' := by
  obtain ⟨a1, a2, a3⟩ := appO_spec os h
  have hdom := @HRel.dom ⟨m, false⟩ _ _ _ _ h'
  have hobj := @HRel.obj0 ⟨m, false⟩ _ _ _ _ h'
  have hsep := @HRel.sep ⟨m, false⟩ _ _ _ _ h'
  have htip := @HRel.tip ⟨m, false⟩ _ _ _ _ h'
  have hone := @HRel.one ⟨m, false⟩ _ _ _ _ h'
  have hh2 : HR ρ h w' := hh.fr hf
  have get' : ∀ k o, os[k]? = some o → (mkH openB os).ob.get (openB + k) = some o := fun k o e => by
    unfold mkH; rw [get_putO, if_neg (by omega), Nat.add_sub_cancel_left]; exact e
  have obj : ∀ n o, (appO h os).ob.get n = some o → n < (appO h os).nx → (n < h.nx ∧ h.ob.get n = some o) ∨ (h.nx ≤ n ∧ n - h.nx < os.length ∧ (mkH openB os).ob.get (openB + (n - h.nx)) = some o ∧ ∃ f len ks, o = .rows f len ks) := fun n o e hn => by
    rw [a3] at e
    rw [a1] at hn
    by_cases c : n < h.nx
    · rw [if_pos (.inl c)] at e; exact .inl ⟨c, e⟩
    · rw [if_neg (by omega)] at e
      refine .inr ⟨by omega, by omega, get' _ _ e, ?_⟩
      have := List.all_eq_true.1 hro o (List.mem_of_getElem? e)
      cases o <;> simp_all [isRows]
  have dom' : ∀ n p, ρ' n = some p → n < openB + os.length := fun n p e => (hdom n p e).1
  have rho : ∀ n p, (if n < h.nx then ρ n else ρ' (openB + (n - h.nx))) = some p → (n < h.nx ∧ ρ n = some p ∧ p.b < w.heap.size) ∨ (h.nx ≤ n ∧ ρ' (openB + (n - h.nx)) = some p ∧ w.heap.size ≤ p.b) := fun n p e => by
    split at e
    · rename_i c; exact .inl ⟨c, e, (hh.dom n p e).2⟩
    · rename_i c; exact .inr ⟨by omega, e, hnew _ _ e⟩
  refine ⟨fun n p e => ?_, fun n o e hn => ?_, fun a b p q o o' hab e1 e2 hb e3 e4 => ?_, fun a b p q o o' e1 e2 hb e3 e4 ht => ?_, fun a b p q o o' hab e1 e2 hb e3 e4 ht => ?_, hh2.fz, fun n p e => ?_, fun e => Nat.le_trans (hh.op e) (by rw [a1]; exact Nat.le_add_right _ _)⟩
  · rw [a1]
    rcases rho n p e with ⟨c, e, _⟩ | ⟨c, e, _⟩
    · exact ⟨by omega, (hh2.dom n p e).2⟩
    · have := dom' _ _ e; exact ⟨by omega, (hdom _ _ e).2⟩
  · rcases obj n o e hn with ⟨c, e⟩ | ⟨c, c2, e, f, len, ks, rfl⟩
    · rw [if_pos c]
      rcases hh2.obj0 n o e c with ⟨p, hp, hr⟩ | ⟨hp, hz⟩
      · refine .inl ⟨p, hp, hr.mono fun k q hk => ?_⟩
        have := (hh.dom k q hk).1
        rw [if_pos this]; exact hk
      · exact .inr ⟨hp, hz⟩
    · rw [if_neg (by omega)]
      rcases hobj _ _ e (by show _ < openB + os.length; omega) with ⟨p, hp, r1, ⟨_, r2⟩, C, eT, r3, r4, r5⟩ | ⟨hp, hz⟩
      · refine .inl ⟨p, hp, r1, ⟨hgc, r2⟩, C, eT, r3, r4, fun i c hi hc => ?_⟩
        obtain ⟨⟨tk, g1, g2⟩, z, g3, g4⟩ := r5 i c hi hc
        rcases hfl with hfl | hfl
        · exact ⟨⟨tk, g1, g2⟩, z, g3, hfl _ _ g4⟩
        have hks : ks.all TK.flat = true := by
          have hm : AO.rows f len ks ∈ os := by
            unfold mkH at e
            rw [get_putO, if_neg (by omega), Nat.add_sub_cancel_left] at e
            exact List.mem_of_getElem? e
          exact List.all_eq_true.1 hfl _ hm
        have htk := List.all_eq_true.1 hks tk (List.mem_of_getElem? g1)
        refine ⟨⟨tk, g1, g2⟩, z, g3, ?_⟩
        cases hd : f i c with
        | v x => rw [hd] at g4; exact g4
        | l f2 l2 k2 => rw [hd] at g2; cases tk <;> simp_all [TK.fit, TK.flat]
      · exact .inr ⟨hp, hz⟩
  · have hna := (rho a p e1)
    have hnb := (rho b q e2)
    rcases hna with ⟨c1, x1, y1⟩ | ⟨c1, x1, y1⟩ <;> rcases hnb with ⟨c2, x2, y2⟩ | ⟨c2, x2, y2⟩
    · rw [a3, if_pos (.inl c1)] at e3; rw [a3, if_pos (.inl c2)] at e4
      exact hh2.sep a b p q o o' hab x1 x2 hb e3 e4
    · omega
    · omega
    · have d1 := dom' _ _ x1
      have d2 := dom' _ _ x2
      rw [a3, if_neg (by omega)] at e3; rw [a3, if_neg (by omega)] at e4
      exact hsep (openB + (a - h.nx)) (openB + (b - h.nx)) p q o o' (by omega) x1 x2 hb (get' _ _ e3) (get' _ _ e4)
  · have hna := (rho a p e1)
    have hnb := (rho b q e2)
    rcases hna with ⟨c1, x1, y1⟩ | ⟨c1, x1, y1⟩ <;> rcases hnb with ⟨c2, x2, y2⟩ | ⟨c2, x2, y2⟩
    · rw [a3, if_pos (.inl c1)] at e3; rw [a3, if_pos (.inl c2)] at e4
      exact hh2.tip a b p q o o' x1 x2 hb e3 e4 ht
    · omega
    · omega
    · have d1 := dom' _ _ x1
      have d2 := dom' _ _ x2
      rw [a3, if_neg (by omega)] at e3; rw [a3, if_neg (by omega)] at e4
      exact htip (openB + (a - h.nx)) (openB + (b - h.nx)) p q o o' x1 x2 hb (get' _ _ e3) (get' _ _ e4) ht
  · have hna := (rho a p e1)
    have hnb := (rho b q e2)
    rcases hna with ⟨c1, x1, y1⟩ | ⟨c1, x1, y1⟩ <;> rcases hnb with ⟨c2, x2, y2⟩ | ⟨c2, x2, y2⟩
    · rw [a3, if_pos (.inl c1)] at e3; rw [a3, if_pos (.inl c2)] at e4
      exact hh2.one a b p q o o' hab x1 x2 hb e3 e4 ht
    · omega
    · omega
    · have d1 := dom' _ _ x1
      have d2 := dom' _ _ x2
      rw [a3, if_neg (by omega)] at e3; rw [a3, if_neg (by omega)] at e4
      exact hone (openB + (a - h.nx)) (openB + (b - h.nx)) p q o o' (by omega) x1 x2 hb (get' _ _ e3) (get' _ _ e4) ht
  · rcases rho n p e with ⟨c, e, _⟩ | ⟨c, e, hge⟩
    · exact hh2.nf n p e
    · exact hh.fzlt hge
end
theorem KL.app : ∀ (os : List AO) (h : Hp), KL h (appO h os)
  | [], h => KL.refl h
  | o :: r, h => KL.trans (KL.new h o) (KL.app r (h.new o))
mutual
theorem nm_frz [Fz] {ρ : Rho} {h : Hp} : ∀ (x x' : AV) (bs : List Bool) (y : Value), x.nm = true → frz h x = some (bs, x') → VRel ρ x y → VRel (fun _ => none) x' y
  | .v x, _, _, _, _, e, r => by simp only [frz] at e; cases e; exact r
  | .s x, _, _, _, _, e, r => by simp only [frz] at e; cases e; exact r
  | .fz f len ks, _, _, _, _, e, r => by simp only [frz] at e; cases e; exact r
  | .fzp f len ks i c, _, _, _, _, e, r => by simp only [frz] at e; cases e; exact r
  | .z0, _, _, _, _, e, r => by simp only [frz] at e; cases e; exact r
  | .xs, _, _, _, _, e, r => by simp only [frz] at e; cases e; exact r
  | .none0 _, _, _, _, h, _, _ => by simp [AV.nm] at h
  | .mp _, _, _, _, h, _, _ => by simp [AV.nm] at h
  | .yld _, _, _, _, h, _, _ => by simp [AV.nm] at h
  | .osl _ _, _, _, _, h, _, _ => by simp [AV.nm] at h
  | .ptr _ _ _, _, _, _, h, _, _ => by simp [AV.nm] at h
  | .sl _ _ _ _, _, _, _, h, _, _ => by simp [AV.nm] at h
  | .fn f cs, _, _, _, hn, e, ⟨ys, h1, h2⟩ => by
    simp only [frz, Option.map_eq_some_iff] at e
    obtain ⟨⟨b, l⟩, e1, e2⟩ := e
    cases e2
    exact ⟨ys, h1, nmL_frz cs l b _ (by simpa [AV.nm] using hn) e1 h2⟩
  | .agg cs, _, _, _, hn, e, ⟨ys, h1, h2⟩ => by
    simp only [frz, Option.map_eq_some_iff] at e
    obtain ⟨⟨b, l⟩, e1, e2⟩ := e
    cases e2
    exact ⟨ys, h1, nmL_frz cs l b _ (by simpa [AV.nm] using hn) e1 h2⟩
  | .tup cs, _, _, _, hn, e, ⟨ys, h1, h2⟩ => by
    simp only [frz, Option.map_eq_some_iff] at e
    obtain ⟨⟨b, l⟩, e1, e2⟩ := e
    cases e2
    exact ⟨ys, h1, nmL_frz cs l b _ (by simpa [AV.nm] using hn) e1 h2⟩
theorem nmL_frz [Fz] {ρ : Rho} {h : Hp} : ∀ (xs xs' : List AV) (bs : List Bool) (ys : List Value), nmL xs = true → frzL h xs = some (bs, xs') → VRels ρ xs ys → VRels (fun _ => none) xs' ys
  | [], _, _, _, _, e, r => by simp only [frzL] at e; cases e; exact r
  | x :: xs, _, _, _, hn, e, ⟨y, s, e1, hx, hs⟩ => by
    simp only [nmL, Bool.and_eq_true] at hn
    simp only [frzL] at e
    split at e
    · rename_i b1 y1 bs1 ys1 ha hb1
      cases e
      exact ⟨y, s, e1, nm_frz x y1 b1 y hn.1 ha hx, nmL_frz xs ys1 bs1 s hn.2 hb1 hs⟩
    · cases e
end
/-- **A contract as a summary.** -/
theorem oX_ok {f : FuncId} {g : List AV → Option (Br (AV × List AO))} (he : entersB P f = true) (hg : ∀ xs B r, g xs = some B → B.At r → OCalls P f xs r.1 r.2) : SumGO P (sumS (oX f g)) := by
  have key : ∀ f' args h v h', sumS (oX f g) f' args h = some (v, h') → f' = f ∧ ∃ bs xs B r, frzL h args = some (bs, xs) ∧ (∀ b ∈ bs, b = true) ∧ g xs = some B ∧ B.At r ∧ (nmL args = true ∨ (r.1.flat = true ∧ r.2.all flatO = true)) ∧ r.2.all isRows = true ∧ r.1.ren (shN r.2.length h.nx) = some v ∧ h' = appO h r.2 := by
    intro f' args h v h' hr
    unfold sumS oX at hr
    cases hf : Nat.beq f' f with
    | false => rw [hf] at hr; cases hr
    | true =>
      rw [hf] at hr
      simp only [cond_true] at hr
      cases hfz : frzL h args with
      | none => rw [hfz] at hr; cases hr
      | some p =>
        obtain ⟨bs, xs⟩ := p
        rw [hfz] at hr
        simp only [] at hr
        cases hgx : g xs with
        | none => rw [hgx] at hr; cases hr
        | some B =>
          rw [hgx] at hr
          simp only [] at hr
          obtain ⟨h1, h2⟩ := ands_ev hr
          obtain ⟨r, h3, h4⟩ := bind_ev h1
          unfold takeR at h4
          cases hc : ((nmL args || (r.1.flat && r.2.all flatO)) && r.2.all isRows) with
          | false => rw [hc] at h4; cases h4
          | true =>
            rw [hc] at h4
            simp only [cond_true] at h4
            cases hv : r.1.ren (shN r.2.length h.nx) with
            | none => rw [hv] at h4; cases h4
            | some v1 =>
              rw [hv] at h4
              cases h4
              simp only [Bool.and_eq_true, Bool.or_eq_true] at hc
              exact ⟨Nat.eq_of_beq_eq_true hf, bs, xs, B, r, rfl, h2, hgx, h3, hc.1, hc.2, hv, rfl⟩
  refine ⟨@fun I hgc f' args h v h' hr => ?_, fun f' args h v h' hr => ?_⟩
  · obtain ⟨rfl, bs, xs, B, ⟨v0, os⟩, h1, h2, h3, h3', h4, h5, h6, rfl⟩ := key _ _ _ _ _ hr
    refine ⟨enters_of he, fun ρ w ys hys hh => ?_⟩
    obtain ⟨m0, gc⟩ := I
    cases hgc
    have core : ∀ m : Nat → Option Obj, (∀ b o, m b = some o → w.heap[b]? = some o) → @VRels ⟨m, false⟩ (fun _ => none) xs ys.toList → ((∀ d y, @FzRel ⟨m, false⟩ d y → @FzRel ⟨m0, false⟩ d y) ∨ os.all flatO = true) → (∀ ρ' y, @VRel ⟨m, false⟩ ρ' v0 y → @VRel ⟨m0, false⟩ ρ' v0 y) →
        Calls P f' ys w fun e w' => ∃ y ρ' L, e = .returned y ∧ @VRel ⟨m0, false⟩ ρ' v y ∧ @HR ⟨m0, false⟩ ρ' (appO h os) w' ∧ Stepped ρ h.nx L w ρ' (appO h os).nx w' ∧ (appO h os).lg = L ++ h.lg := by
      intro m hm hx ht1 ht2
      refine (hg xs B (v0, os) h3 h3' m w ys hm hx).mono ?_
      rintro en w' ⟨y, ρ', rfl, hf, hv, hh', hnew⟩
      obtain ⟨a1, a2, a3⟩ := appO_spec os h
      refine ⟨y, _, [], rfl, ?_, @HR.union ⟨m0, false⟩ rfl ρ ρ' h w w' os hh hf m hh' h5 ht1 hnew, ?_, by rw [a2]; rfl⟩
      · refine @ren_rel ⟨m0, false⟩ _ _ _ (fun n k p hn hp => ?_) _ _ _ h6 (ht2 _ _ hv)
        unfold shN at hn
        cases hc : (Nat.ble openB n && Nat.blt n (openB + os.length)) with
        | false => simp only [hc] at hn; cases hn
        | true =>
          simp only [hc, cond_true, Option.some.injEq] at hn
          subst hn
          simp only [Bool.and_eq_true, Nat.ble_eq] at hc
          rw [if_neg (by omega), Nat.add_sub_cancel_left, show openB + (n - openB) = n by omega]
          exact hp
      · refine ⟨by rw [a1]; exact Nat.le_add_right _ _, fun n hn => if_pos hn, fun n p hn e => .inl ?_, hf.size, hf.os, hf.tape, hf.output, fun b hb _ => hf.block b hb (fun x => x)⟩
        rw [if_neg (by omega)] at e
        exact hnew _ _ e
    rcases h4 with h4 | ⟨h4, h4'⟩
    · exact core m0 (@HRel.fz ⟨m0, false⟩ _ _ _ _ hh) (@nmL_frz ⟨m0, false⟩ _ _ _ _ _ _ h4 h1 hys) (.inl fun _ _ x => x) (fun _ _ x => x)
    · exact core (mem w) (fun b o e => e) (@frzL_rel ⟨m0, false⟩ _ _ _ hh _ _ _ _ h1 h2 hys) (.inr h4') (fun ρ' y hv => flat_rel (m := mem w) (m' := m0) v0 y h4 hv)
  · obtain ⟨_, bs, xs, B, r, _, _, _, _, _, _, _, rfl⟩ := key _ _ _ _ _ hr
    exact KL.app r.2 h

/- Lists are not longer than a number is great. -/
mutual
def AV.bnd : AV → Prop
  | .fz _ len _ => len ≤ 9223372036854775807
  | .agg cs => bndL cs
  | .tup cs => bndL cs
  | .fn _ cs => bndL cs
  | _ => True
def bndL : List AV → Prop
  | [] => True
  | x :: xs => x.bnd ∧ bndL xs
end
mutual
theorem bnd_of [Fz] {ρ : Rho} : ∀ (x : AV) (y : Value), VRel ρ x y → x.bnd
  | .v _, _, _ => trivial
  | .s _, _, _ => trivial
  | .ptr _ _ _, _, _ => trivial
  | .sl _ _ _ _, _, _ => trivial
  | .none0 _, _, _ => trivial
  | .mp _, _, _ => trivial
  | .yld _, _, _ => trivial
  | .osl _ _, _, _ => trivial
  | .z0, _, _ => trivial
  | .xs, _, _ => trivial
  | .fzp _ _ _ _ _, _, _ => trivial
  | .fz f len ks, y, r => by
    have h := r.2
    unfold FzRel at h
    show len ≤ 9223372036854775807
    rcases h with ⟨h, _⟩ | ⟨_, _, _, _, _, _, _, _, _, ⟨_, h⟩, _⟩
    · omega
    · exact h
  | .fn _ cs, _, ⟨ys, _, r⟩ => bndL_of cs _ r
  | .agg cs, _, ⟨ys, _, r⟩ => bndL_of cs _ r
  | .tup cs, _, ⟨ys, _, r⟩ => bndL_of cs _ r
theorem bndL_of [Fz] {ρ : Rho} : ∀ (xs : List AV) (ys : List Value), VRels ρ xs ys → bndL xs
  | [], _, _ => trivial
  | x :: xs, _, ⟨y, r, _, hx, hr⟩ => ⟨bnd_of x y hx, bndL_of xs r hr⟩
end
theorem OCalls.bnd {f : FuncId} {args : List AV} {v : AV} {os : List AO} (h : bndL args → OCalls P f args v os) : OCalls P f args v os :=
  fun m w ys hm hys => h (@bndL_of ⟨m, false⟩ _ _ _ hys) m w ys hm hys
/-- By what stands for the arguments. -/
theorem OCalls.leS {f : FuncId} {args args' : List AV} {v : AV} {os : List AO} (h : OCalls P f args v os) (hl : ∀ (m : Nat → Option Obj) (ys : List Value), @VRels ⟨m, false⟩ (fun _ => none) args' ys → @VRels ⟨m, false⟩ (fun _ => none) args ys) : OCalls P f args' v os :=
  fun m w ys hm hys => h m w ys hm (hl m _ hys)
end Ev
end Go.Proofs.Ytengccmjlaejfaa
end
section
namespace Go.Proofs.Ytengccmjlaejfaa
namespace Ev
open Go.RowKit
set_option linter.unusedSectionVars false
variable {P : Program}

/-- What an element of a list is. -/
class Rec (α : Type) where
  ks : List TK
  enc : α → Nat → D
  dec : (Nat → D) → α
  fit : ∀ (a : α) (c : Nat) (tk : TK), ks[c]? = some tk → tk.fit (enc a c) = true
  dec_enc : ∀ a, dec (enc a) = a
  enc_dec : ∀ (g : Nat → D), (∀ (c : Nat) (tk : TK), ks[c]? = some tk → tk.fit (g c) = true) → ∀ c, c < ks.length → enc (dec g) c = g c
section
variable {α : Type} [Inhabited α] [Rec α]
def eL (L : List α) : Nat → Nat → D := fun i => Rec.enc (L.getD i default)
def dL (α : Type) [Inhabited α] [Rec α] (f : Nat → Nat → D) (len : Nat) : List α := (List.range len).map fun i => Rec.dec (f i)
theorem dL_length (f : Nat → Nat → D) (len : Nat) : (dL α f len).length = len := by simp [dL]
theorem dL_get {f : Nat → Nat → D} {len i : Nat} (h : i < len) : (dL α f len).getD i default = Rec.dec (f i) := by
  simp [dL, List.getD_eq_getElem?_getD, h]
theorem dL_eL (L : List α) : dL α (eL L) L.length = L := by
  apply List.ext_getElem
  · simp [dL]
  · intro i h1 h2
    simp [dL, eL, Rec.dec_enc, List.getD_eq_getElem?_getD, h2]
/-- What fits is read as a list. -/
theorem fz_eL [Fz] {f : Nat → Nat → D} {len : Nat} {y : Value} {ρ : Rho} (h : VRel ρ (.fz f len (Rec.ks α)) y) : VRel ρ (.fz (eL (dL α f len)) len (Rec.ks α)) y := by
  refine ⟨h.1, ?_⟩
  have h := h.2
  unfold FzRel at h ⊢
  rcases h with h | ⟨b, o, k, C, e, fr, h1, h2, h3, h4, h5⟩
  · exact .inl h
  · refine .inr ⟨b, o, k, C, e, fr, h1, h2, h3, h4, fun i c hi hc => ?_⟩
    obtain ⟨⟨tk, g1, g2⟩, z, g3, g4⟩ := h5 i c hi hc
    have : eL (dL α f len) i c = f i c := by
      show Rec.enc ((dL α f len).getD i default) c = f i c
      rw [dL_get hi]
      exact Rec.enc_dec _ (fun c' tk' hk => by
        have hlt := (List.getElem?_eq_some_iff.1 hk).1
        obtain ⟨⟨tk2, q1, q2⟩, _⟩ := h5 i c' hi hlt
        rw [hk] at q1; cases q1; exact q2) c hc
    rw [this]
    exact ⟨⟨tk, g1, g2⟩, z, g3, g4⟩
/-- One element more. -/
theorem OLe.snoc {L : List α} {x : α} {ds : List D} (hd : ∀ c, c < (Rec.ks α).length → ds.getD c (.v undef) = Rec.enc x c) : OLe (.o (.rows (catD (eL L) L.length (listD ds (Rec.ks α).length)) (L.length + 1) (Rec.ks α))) (.rows (eL (L ++ [x])) (L ++ [x]).length (Rec.ks α)) := by
  have hl : (L ++ [x]).length = L.length + 1 := by simp
  rw [hl]
  refine .rows _ _ _ _ fun i c hi hc => ?_
  unfold catD eL
  by_cases ci : i < L.length
  · rw [show Nat.blt i L.length = true by simpa using ci]
    simp only [cond_true, List.getD_eq_getElem?_getD]
    rw [List.getElem?_append_left ci]
  · rw [blt_no ci]
    have : i = L.length := by omega
    subst this
    simp only [cond_false, Nat.sub_self, List.getD_eq_getElem?_getD, List.getElem?_append_right (Nat.le_refl _)]
    unfold listD
    rw [Nat.zero_mul, Nat.zero_add]
    simpa [List.getD_eq_getElem?_getD] using (hd c hc).symm
theorem OLe.same (f : Nat → Nat → D) (len : Nat) (ks : List TK) : OLe (.o (.rows f len ks)) (.rows f len ks) := .rows f f len ks fun _ _ _ _ => rfl
end

instance : Inhabited ByteArray := ⟨⟨#[]⟩⟩
instance : Rec ByteArray where
  ks := [.str]
  enc s _ := .v (.string s)
  dec g := match g 0 with
    | .v (.string s) => s
    | _ => ⟨#[]⟩
  fit a c tk h := by
    have hlt := (List.getElem?_eq_some_iff.1 h).1
    have : c = 0 := by simp at hlt; omega
    subst this; simp at h; subst h; rfl
  dec_enc a := rfl
  enc_dec g h c hc := by
    have : c = 0 := by simp at hc; omega
    subst this
    have := h 0 .str rfl
    cases hg : g 0 with
    | v x => rw [hg] at this; cases x <;> simp_all [TK.fit]
    | l f n ks => rw [hg] at this; cases this
instance : Rec Int where
  ks := [.int .i64]
  enc s _ := .v (.int .i64 s)
  dec g := match g 0 with
    | .v (.int _ s) => s
    | _ => 0
  fit a c tk h := by
    have hlt := (List.getElem?_eq_some_iff.1 h).1
    have : c = 0 := by simp at hlt; omega
    subst this; simp at h; subst h; rfl
  dec_enc a := rfl
  enc_dec g h c hc := by
    have : c = 0 := by simp at hc; omega
    subst this
    have := h 0 (.int .i64) rfl
    cases hg : g 0 with
    | v x => rw [hg] at this; cases x <;> simp_all [TK.fit]
    | l f n ks => rw [hg] at this; cases this
/-- Pairs of texts. -/
instance : Rec (ByteArray × ByteArray) where
  ks := [.str, .str]
  enc s c := match c with
    | 0 => .v (.string s.1)
    | _ => .v (.string s.2)
  dec g := (match g 0 with
    | .v (.string s) => s
    | _ => ⟨#[]⟩, match g 1 with
    | .v (.string s) => s
    | _ => ⟨#[]⟩)
  fit a c tk h := by
    match c with
    | 0 => simp at h; subst h; rfl
    | 1 => simp at h; subst h; rfl
    | c + 2 => simp at h
  dec_enc a := rfl
  enc_dec g h c hc := by
    have h0 := h 0 .str rfl
    have h1 := h 1 .str rfl
    match c, hc with
    | 0, _ =>
      cases hg : g 0 with
      | v x => rw [hg] at h0; cases x <;> simp_all [TK.fit]
      | l f n ks => rw [hg] at h0; cases h0
    | 1, _ =>
      cases hg : g 1 with
      | v x => rw [hg] at h1; cases x <;> simp_all [TK.fit]
      | l f n ks => rw [hg] at h1; cases h1
    | c + 2, hc => simp at hc; omega
end Ev
end Go.Proofs.Ytengccmjlaejfaa
end
section
namespace Go.Proofs.Ytengccmjlaejfaa
namespace Ev
open Go.RowKit
set_option linter.unusedSectionVars false
variable {P : Program}

/-- A loop from its head on. -/
def wpL (F : Fence) (n : Nat) (P : Program) (c : Code) (Q : Exit → Act → World → Prop) (a : Act) (w : World) : Prop :=
  ∀ (b : Frame) (k : List Item) (cs : List Frame), b.roundOf = F.round → F.fn b.fn → F.room (cs.length + 1 + n) →
    ∃ e a' w', Q e a' w' ∧ ArrivesIn (Machine.fenced P F) P (lone (b.atR a (.code c :: .inLoop c :: k)) cs w) b k cs e a' w'
theorem wpL_loop {F : Fence} {n : Nat} {c : Code} {Q : Exit → Act → World → Prop} {a : Act} {w : World} (h : wpL F n P c Q a w) : (Code.loop c).wpIn F n P Q a w := by
  intro b k cs hro hb hr
  obtain ⟨e, a', w', hq, harr⟩ := h b k cs hro hb hr
  exact ⟨e, a', w', hq, .of_steps (.one (fenced_calm hb hr rfl) stepR_loop) harr⟩
theorem wpL_round {F : Fence} {n : Nat} {c : Code} {Q : Exit → Act → World → Prop} {a : Act} {w : World} (h : c.wpIn F n P (Exit.then (wpL F n P c Q) Q) a w) : wpL F n P c Q a w := by
  intro b k cs hro hb hr
  obtain ⟨e, a₁, w₁, hq, harr⟩ := h b (.inLoop c :: k) cs hro hb hr
  cases e with
  | normal =>
    obtain ⟨e₂, a₂, w₂, hq₂, harr₂⟩ := hq b k cs hro hb hr
    exact ⟨e₂, a₂, w₂, hq₂, .of_steps (StepsIn.trans harr (.one (fenced_calm hb hr rfl) stepR_inLoop)) harr₂⟩
  | exit id => exact ⟨_, a₁, w₁, hq, .pass (x := .inLoop c) rfl (fun _ _ => .inl (by simp)) harr⟩
  | goto l => exact ⟨_, a₁, w₁, hq, .pass (x := .inLoop c) rfl (fun _ _ => .inl (by simp)) harr⟩
  | ret => exact ⟨_, a₁, w₁, hq, .pass (x := .inLoop c) rfl (fun _ _ => .inl (by simp)) harr⟩
  | panic ch => exact ⟨_, a₁, w₁, hq, .pass (x := .inLoop c) rfl (fun _ _ => .inl (by simp)) harr⟩
  | outgrown => exact ⟨_, a₁, w₁, hq, .pass (x := .inLoop c) rfl (fun _ _ => .inl (by simp)) harr⟩

/-- What is still to be done. -/
inductive Fr where
  | c (b : Nat) (x : Code)
  | blk (id : Nat)
  | lp (b : Nat) (x : Code)
  | scp
/-- Out of a scope, but not by a goto. -/
def noGoto (Q : Exit → Act → World → Prop) : Exit → Act → World → Prop
  | .goto _, _, _ => False
  | x, a, w => Q x a w
def wpK (m : Nat) (P : Program) : List Fr → (Exit → Act → World → Prop) → Exit → Act → World → Prop
  | [], Q => Q
  | .c _ x :: fr, Q => Exit.then (x.wpIn (FR none) m P (wpK m P fr Q)) (wpK m P fr Q)
  | .blk id :: fr, Q => Exit.inBlock id (wpK m P fr Q)
  | .lp _ x :: fr, Q => Exit.then (wpL (FR none) m P x (wpK m P fr Q)) (wpK m P fr Q)
  | .scp :: fr, Q => noGoto (wpK m P fr Q)
def okFr (n : Nat) : List Fr → Bool
  | [] => true
  | .c _ x :: fr => okCode n x && okFr n fr
  | .blk _ :: fr => okFr n fr
  | .lp _ x :: fr => okCode n x && okFr n fr
  | .scp :: fr => okFr n fr
/-- Where a part of a function stands still: at its end, or at a loop's head. -/
inductive Pt where
  | fin (x : Ex) (e : T AV) (h : Hp)
  | at (b : Nat) (c : Code) (fr : List Fr) (e : T AV) (h : Hp)
def nl : Code → Nat
  | .seq a b => nl a + nl b
  | .cond _ a b => nl a + nl b
  | .block _ c => nl c
  | .loop c => nl c + 1
  | .scope c => nl c
  | _ => 0
def hasL : Code → Bool
  | .seq a b => hasL a || hasL b
  | .cond _ a b => hasL a || hasL b
  | .block _ c => hasL c
  | .scope c => hasL c
  | .loop _ => true
  | _ => false
/-- From a place on, to where it stands still. inl: the loops that are walked round by round. -/
def ev (P : Program) (X : SumBr) (S : Sum) (N : Nat) (inl : Nat → Bool) : Nat → Ex → List Fr → T AV → Hp → Br Pt
  | 0, _, _, _, _ => .no
  | _ + 1, x, [], e, h => .leaf (.fin x e h)
  | n + 1, .normal, .c b code :: fr, e, h => match code with
    | .seq x y => bif hasL x then ev P X S N inl n .normal (.c b x :: .c (b + nl x) y :: fr) e h else
      ((bmX P X S N).run false x e h).bind fun (x', e', h') => ev P X S N inl n x' (.c (b + nl x) y :: fr) e' h'
    | .block id x => bif hasL x then ev P X S N inl n .normal (.c b x :: .blk id :: fr) e h else
      ((bmX P X S N).run false (.block id x) e h).bind fun (x', e', h') => ev P X S N inl n x' fr e' h'
    | .scope x => bif hasL x then ev P X S N inl n .normal (.c b x :: .scp :: fr) e h else
      ((bmX P X S N).run false (.scope x) e h).bind fun (x', e', h') => ev P X S N inl n x' fr e' h'
    | .cond o x y => match opnd e o with
      | .v (.bool t) => ev P X S N inl n .normal (.c (bif t then b else b + nl x) (bif t then x else y) :: fr) e h
      | .s (.bool t) => .test t (ev P X S N inl n .normal (.c b x :: fr) e h) (ev P X S N inl n .normal (.c (b + nl x) y :: fr) e h)
      | _ => .no
    | .loop x => bif inl b then ev P X S N inl n .normal (.c (b + 1) x :: .lp b x :: fr) e h else .leaf (.at b x fr e h)
    | c => ((bmX P X S N).run false c e h).bind fun (x', e', h') => ev P X S N inl n x' fr e' h'
  | n + 1, .normal, .lp b x :: fr, e, h => bif inl b then ev P X S N inl n .normal (.c (b + 1) x :: .lp b x :: fr) e h else .leaf (.at b x fr e h)
  | n + 1, .normal, .blk _ :: fr, e, h => ev P X S N inl n .normal fr e h
  | n + 1, .normal, .scp :: fr, e, h => ev P X S N inl n .normal fr e h
  | n + 1, .exit id', .scp :: fr, e, h => ev P X S N inl n (.exit id') fr e h
  | n + 1, .ret, .scp :: fr, e, h => ev P X S N inl n .ret fr e h
  | _ + 1, .goto _, .scp :: _, _, _ => .no
  | n + 1, .exit id', .blk id :: fr, e, h => bif Nat.beq id' id then ev P X S N inl n .normal fr e h else ev P X S N inl n (.exit id') fr e h
  | n + 1, .goto l, .blk _ :: fr, e, h => ev P X S N inl n (.goto l) fr e h
  | n + 1, .ret, .blk _ :: fr, e, h => ev P X S N inl n .ret fr e h
  | n + 1, .exit id', .c _ _ :: fr, e, h => ev P X S N inl n (.exit id') fr e h
  | n + 1, .goto l, .c _ _ :: fr, e, h => ev P X S N inl n (.goto l) fr e h
  | n + 1, .ret, .c _ _ :: fr, e, h => ev P X S N inl n .ret fr e h
  | n + 1, .exit id', .lp _ _ :: fr, e, h => ev P X S N inl n (.exit id') fr e h
  | n + 1, .goto l, .lp _ _ :: fr, e, h => ev P X S N inl n (.goto l) fr e h
  | n + 1, .ret, .lp _ _ :: fr, e, h => ev P X S N inl n .ret fr e h
/-- Loop t of a code: its body, and what comes behind it. -/
def cutAt (t : Nat) : Nat → Code → List Fr → Option (Code × List Fr)
  | b, .seq x y, fr => bif Nat.blt t (b + nl x) then cutAt t b x (.c (b + nl x) y :: fr) else cutAt t (b + nl x) y fr
  | b, .block id c, fr => cutAt t b c (.blk id :: fr)
  | b, .scope c, fr => cutAt t b c (.scp :: fr)
  | b, .cond _ x y, fr => bif Nat.blt t (b + nl x) then cutAt t b x fr else cutAt t (b + nl x) y fr
  | b, .loop c, fr => bif Nat.beq t b then some (c, fr) else cutAt t (b + 1) c (.lp b c :: fr)
  | _, _, _ => none
def codeOf (P : Program) (f : FuncId) : Code := ((P.funcs[f]?).bind (·.body)).getD .skip
def ct (P : Program) (f : FuncId) (k : Nat) : Code × List Fr := (cutAt k 0 (codeOf P f) []).getD (.skip, [])

section
variable [Fz]
def RunX (P : Program) (nx0 : Nat) (x : Ex) (fr : List Fr) (e : T AV) (h : Hp) (K : Ex → T AV → Hp → Prop) : Prop :=
  ∀ n, okFr n fr = true → ∀ B ρb wb ρ a w Q, AtB nx0 ρb wb ρ e h a w n B → (∀ x e' h', K x e' h' → ∀ ρ' a' w', AtB nx0 ρb wb ρ' e' h' a' w' n B → Q (exOf x) a' w') → ∀ m, wpK m P fr Q (exOf x) a w
def RunH (P : Program) (nx0 : Nat) (c : Code) (fr : List Fr) (e : T AV) (h : Hp) (K : Ex → T AV → Hp → Prop) : Prop :=
  ∀ n, okCode n c = true → okFr n fr = true → ∀ B ρb wb ρ a w Q, AtB nx0 ρb wb ρ e h a w n B → (∀ x e' h', K x e' h' → ∀ ρ' a' w', AtB nx0 ρb wb ρ' e' h' a' w' n B → Q (exOf x) a' w') → ∀ m, wpL (FR none) m P c (wpK m P fr Q) a w
def PtOk (P : Program) (nx0 : Nat) (K : Ex → T AV → Hp → Prop) : Pt → Prop
  | .fin x e h => K x e h
  | .at _ c fr e h => RunH P nx0 c fr e h K
theorem RunX.pass {nx0 : Nat} {x : Ex} (hx : x ≠ .normal) {fr : List Fr} {e : T AV} {h : Hp} {K : Ex → T AV → Hp → Prop} (f : Fr) (hf : ∀ id, f ≠ .blk id) (hs : f ≠ .scp) (hr : RunX P nx0 x fr e h K) : RunX P nx0 x (f :: fr) e h K := by
  intro n hok B ρb wb ρ a w Q hA hQ m
  cases f with
  | blk id => exact absurd rfl (hf id)
  | scp => exact absurd rfl hs
  | c b y =>
    simp only [okFr, Bool.and_eq_true] at hok
    have := hr n hok.2 B ρb wb ρ a w Q hA hQ m
    cases x <;> first | exact absurd rfl hx | exact this
  | lp b y =>
    simp only [okFr, Bool.and_eq_true] at hok
    have := hr n hok.2 B ρb wb ρ a w Q hA hQ m
    cases x <;> first | exact absurd rfl hx | exact this
theorem RunX.code {nx0 : Nat} {b : Nat} {c : Code} {fr : List Fr} {e : T AV} {h : Hp} {K K1 : Ex → T AV → Hp → Prop} (hc : RunB P nx0 c e h K1) (hk : ∀ x e h, K1 x e h → RunX P nx0 x fr e h K) : RunX P nx0 .normal (.c b c :: fr) e h K := by
  intro n hok B ρb wb ρ a w Q hA hQ m
  simp only [okFr, Bool.and_eq_true] at hok
  exact hc n hok.1 B ρb wb ρ a w (wpK m P fr Q) hA (fun x e' h' k ρ' a' w' hA' => hk x e' h' k n hok.2 B ρb wb ρ' a' w' Q hA' hQ m) m
theorem ev_ok {nx0 : Nat} {X : SumBr} {S : Sum} (G : Good P (orS (sumS X) S)) {N : Nat} {inl : Nat → Bool} {K : Ex → T AV → Hp → Prop} : ∀ (n : Nat) (x : Ex) (fr : List Fr) (e : T AV) (h : Hp), (ev P X S N inl n x fr e h).Holds (PtOk P nx0 K) → RunX P nx0 x fr e h K
  | 0, _, _, _, _, hh => hh.elim
  | n + 1, x, [], e, h, hh => by
    have hh : K x e h := by cases x <;> exact hh
    intro k _ B ρb wb ρ a w Q hA hQ m
    exact hQ x e h hh ρ a w hA
  | n + 1, .normal, .c b code :: fr, e, h, hh => by
    have run : ∀ (c : Code), (((bmX P X S N).run false c e h).bind fun (x', e', h') => ev P X S N inl n x' fr e' h').Holds (PtOk P nx0 K) → RunX P nx0 .normal (.c b c :: fr) e h K := fun c hh => by
      refine RunX.code (run_bm (N := N) (K := fun x e h => (ev P X S N inl n x fr e h).Holds (PtOk P nx0 K)) G ?_) fun x e h hk => ev_ok G n x fr e h hk
      exact holds_bind hh
    cases code with
    | seq x y =>
      simp only [ev] at hh
      have key : RunX P nx0 .normal (.c b x :: .c (b + nl x) y :: fr) e h K := by
        cases hl : hasL x with
        | true => rw [hl] at hh; exact ev_ok G n _ _ _ _ hh
        | false =>
          rw [hl] at hh
          refine RunX.code (run_bm (N := N) (K := fun x' e h => (ev P X S N inl n x' (.c (b + nl x) y :: fr) e h).Holds (PtOk P nx0 K)) G ?_) fun x' e h hk => ev_ok G n x' _ e h hk
          exact holds_bind hh
      intro k hok B ρb wb ρ a w Q hA hQ m
      simp only [okFr, okCode, Bool.and_eq_true] at hok
      exact wpIn_seq (key k (by simp [okFr, hok]) B ρb wb ρ a w Q hA hQ m)
    | block id x =>
      simp only [ev] at hh
      cases hl : hasL x with
      | false => rw [hl] at hh; exact run _ hh
      | true =>
        rw [hl] at hh
        have key := ev_ok G n _ _ _ _ hh
        intro k hok B ρb wb ρ a w Q hA hQ m
        simp only [okFr, okCode, Bool.and_eq_true] at hok
        exact wpIn_block (key k (by simp [okFr, hok]) B ρb wb ρ a w Q hA hQ m)
    | cond o x y =>
      simp only [ev] at hh
      intro k hok B ρb wb ρ a w Q hA hQ m
      simp only [okFr, okCode, Bool.and_eq_true] at hok
      have hv := opnd_rel hA.s.e o
      have fin : ∀ t, a.eval o = .bool t → (t = true → (ev P X S N inl n .normal (.c b x :: fr) e h).Holds (PtOk P nx0 K)) → (t = false → (ev P X S N inl n .normal (.c (b + nl x) y :: fr) e h).Holds (PtOk P nx0 K)) → (Code.cond o x y).wpIn (FR none) m P (wpK m P fr Q) a w := fun t ht h1 h2 => by
        refine wpIn_cond ht ?_
        cases t with
        | true => exact ev_ok G n _ _ _ _ (h1 rfl) k (by simp [okFr, hok]) B ρb wb ρ a w Q hA hQ m
        | false => exact ev_ok G n _ _ _ _ (h2 rfl) k (by simp [okFr, hok]) B ρb wb ρ a w Q hA hQ m
      split at hh
      · rename_i t ht
        rw [ht] at hv
        exact fin t hv (fun e => by subst e; exact hh) (fun e => by subst e; exact hh)
      · rename_i t ht
        rw [ht] at hv
        exact fin t hv hh.1 hh.2
      · exact hh.elim
    | loop x =>
      simp only [ev] at hh
      have key : RunH P nx0 x fr e h K := by
        cases hl : inl b with
        | false => rw [hl] at hh; exact hh
        | true =>
          rw [hl] at hh
          have key := ev_ok G n _ _ _ _ hh
          intro k h1 h2 B ρb wb ρ a w Q hA hQ m
          exact wpL_round (key k (by simp [okFr, h1, h2]) B ρb wb ρ a w Q hA hQ m)
      intro k hok B ρb wb ρ a w Q hA hQ m
      simp only [okFr, okCode, Bool.and_eq_true] at hok
      exact wpL_loop (key k hok.1 hok.2 B ρb wb ρ a w Q hA hQ m)
    | skip => exact run _ hh
    | region id ops d => exact run _ hh
    | exit id => exact run _ hh
    | goto l => exact run _ hh
    | label l => exact run _ hh
    | ret => exact run _ hh
    | refuse r => exact run _ hh
    | scope x =>
      simp only [ev] at hh
      cases hl : hasL x with
      | false => rw [hl] at hh; exact run _ hh
      | true =>
        rw [hl] at hh
        have key := ev_ok G n _ _ _ _ hh
        intro k hok B ρb wb ρ a w Q hA hQ m
        simp only [okFr, okCode, Bool.and_eq_true] at hok
        refine wpIn_scope_jumpsN 1 (wpIn_mono (key k (by simp [okFr, hok]) B ρb wb ρ a w Q hA hQ m) fun x a w q => ?_)
        cases x <;> first | exact q | exact q.elim
    | rangeFunc g ps a b => exact run _ hh
  | n + 1, .normal, .lp b x :: fr, e, h, hh => by
    simp only [ev] at hh
    have key : RunH P nx0 x fr e h K := by
      cases hl : inl b with
      | false => rw [hl] at hh; exact hh
      | true =>
        rw [hl] at hh
        have key := ev_ok G n _ _ _ _ hh
        intro k h1 h2 B ρb wb ρ a w Q hA hQ m
        exact wpL_round (key k (by simp [okFr, h1, h2]) B ρb wb ρ a w Q hA hQ m)
    intro k hok B ρb wb ρ a w Q hA hQ m
    simp only [okFr, Bool.and_eq_true] at hok
    exact key k hok.1 hok.2 B ρb wb ρ a w Q hA hQ m
  | n + 1, .normal, .blk id :: fr, e, h, hh => by
    have key := ev_ok G n _ _ _ _ hh
    intro k hok B ρb wb ρ a w Q hA hQ m
    exact key k hok B ρb wb ρ a w Q hA hQ m
  | n + 1, .normal, .scp :: fr, e, h, hh => fun k hok B ρb wb ρ a w Q hA hQ m => ev_ok G n _ _ _ _ hh k hok B ρb wb ρ a w Q hA hQ m
  | n + 1, .exit id', .scp :: fr, e, h, hh => fun k hok B ρb wb ρ a w Q hA hQ m => ev_ok G n _ _ _ _ hh k hok B ρb wb ρ a w Q hA hQ m
  | n + 1, .ret, .scp :: fr, e, h, hh => fun k hok B ρb wb ρ a w Q hA hQ m => ev_ok G n _ _ _ _ hh k hok B ρb wb ρ a w Q hA hQ m
  | n + 1, .goto _, .scp :: _, _, _, hh => hh.elim
  | n + 1, .exit id', .blk id :: fr, e, h, hh => by
    simp only [ev] at hh
    intro k hok B ρb wb ρ a w Q hA hQ m
    show Exit.inBlock id (wpK m P fr Q) (.exit id') a w
    unfold Exit.inBlock
    cases hb : Nat.beq id' id with
    | true =>
      rw [hb] at hh
      have := Nat.eq_of_beq_eq_true hb
      subst this
      simp only [if_true]
      exact ev_ok G n _ _ _ _ hh k hok B ρb wb ρ a w Q hA hQ m
    | false =>
      rw [hb] at hh
      have hne : id' ≠ id := fun c => by subst c; simp at hb
      simp only [hne, if_false]
      exact ev_ok G n _ _ _ _ hh k hok B ρb wb ρ a w Q hA hQ m
  | n + 1, .goto l, .blk _ :: fr, e, h, hh => fun k hok B ρb wb ρ a w Q hA hQ m => ev_ok G n _ _ _ _ hh k hok B ρb wb ρ a w Q hA hQ m
  | n + 1, .ret, .blk _ :: fr, e, h, hh => fun k hok B ρb wb ρ a w Q hA hQ m => ev_ok G n _ _ _ _ hh k hok B ρb wb ρ a w Q hA hQ m
  | n + 1, .exit id', .c _ _ :: fr, e, h, hh => (ev_ok G n (.exit id') fr e h hh).pass (by simp) _ (by simp) (by simp)
  | n + 1, .goto l, .c _ _ :: fr, e, h, hh => (ev_ok G n (.goto l) fr e h hh).pass (by simp) _ (by simp) (by simp)
  | n + 1, .ret, .c _ _ :: fr, e, h, hh => (ev_ok G n .ret fr e h hh).pass (by simp) _ (by simp) (by simp)
  | n + 1, .exit id', .lp _ _ :: fr, e, h, hh => (ev_ok G n (.exit id') fr e h hh).pass (by simp) _ (by simp) (by simp)
  | n + 1, .goto l, .lp _ _ :: fr, e, h, hh => (ev_ok G n (.goto l) fr e h hh).pass (by simp) _ (by simp) (by simp)
  | n + 1, .ret, .lp _ _ :: fr, e, h, hh => (ev_ok G n .ret fr e h hh).pass (by simp) _ (by simp) (by simp)
where
  holds_bind {α β : Type} {f : α → Br β} {K : β → Prop} : ∀ {B : Br α}, (B.bind f).Holds K → B.Holds fun a => (f a).Holds K
    | .no, h => h.elim
    | .leaf _, h => h
    | .test _ _ _, h => ⟨fun x => holds_bind (h.1 x), fun x => holds_bind (h.2 x)⟩
    | .ob _ _, h => ⟨h.1, holds_bind h.2⟩
end

/-- What is looked at where it stands still. -/
inductive PO where
  | fin (o : Ob)
  | at (b : Nat) (c : Code) (fr : List Fr) (o : Ob)
def lookP (P : Program) (rs : List ResultVar) (loc : List (List Nat)) (cf : Nat → Cfg) : Pt → PO
  | .fin x e h => .fin (obsR P openB rs loc (x, e, h))
  | .at b c fr e h => .at b c fr (obsB openB (cf b) (.normal, e, h))

def others (n : Nat) (ks : List Nat) : List Nat := (List.range n).filter fun k => !(ks.any (Nat.beq k))
/-- At a head of a function with n temporaries those of ks live. -/
def mkC (n : Nat) (ks : List Nat) (loc : List Loc) : Cfg := ⟨ks, others n ks, loc⟩
def cfL (l : List Cfg) (k : Nat) : Cfg := l.getD k (mkC 0 [] [])
def noL : Nat → Bool := fun _ => false
/-- The state at a round's beginning. -/
def hd (P : Program) (f : FuncId) (k : Nat) : List Fr := .c (k + 1) (ct P f k).1 :: .lp k (ct P f k).1 :: (ct P f k).2
def start : Hp := ⟨.leaf, openB, []⟩
def resOf (P : Program) (f : FuncId) : List ResultVar := match P.funcs[f]? with
  | some fn => fn.results.toList
  | none => []
def bodyOk (P : Program) (f : FuncId) : Bool := match P.funcs[f]? with
  | some fn => match fn.body with
    | some c => okCode fn.ntmps c
    | none => false
  | none => false
theorem bodyOk_get {f : FuncId} (h : bodyOk P f = true) : ∃ fn c, P.funcs[f]? = some fn ∧ fn.body = some c ∧ okCode fn.ntmps c = true ∧ codeOf P f = c ∧ resOf P f = fn.results.toList := by
  unfold bodyOk at h
  split at h
  · rename_i fn hfn
    split at h
    · rename_i c hc
      refine ⟨fn, c, hfn, hc, h, ?_, ?_⟩
      · unfold codeOf; rw [hfn]; simp [hc]
      · unfold resOf; rw [hfn]
    · cases h
  · cases h
/-- **A contract of a function with loops.** σ: the states at the heads; pc: at which one; tr: from there on. -/
theorem floyd {X : SumBr} {S : Sum} (hm : P.follows .mixedOrders = true) (hok : P.funcs.all okFunc = true) (hX : SumGO P (sumS X)) (hS : SumGO P S) {f : FuncId} (hb : bodyOk P f = true)
    {N fu : Nat} {inl : Nat → Bool} {args : List AV} {v : AV} {os : List AO} (loc : List (List Nat)) (cf : Nat → Cfg) {σ β : Type} [WellFoundedRelation β] (μ : σ → β) (pc : σ → Nat) (vals : σ → List AV) (ob : σ → List AO) (J : σ → Prop) (tr : σ → Br PO) (tr0 : Br PO)
    (h0 : (ev P X S N inl fu .normal [.c 0 (codeOf P f)] (params args) start).map (lookP P (resOf P f) loc cf) = tr0)
    (h1 : ∀ s j, (ev P X S N inl fu .normal (hd P f (pc s)) (mkE (cf (pc s)) (vals s) j) (mkH openB (ob s))).map (lookP P (resOf P f) loc cf) = tr s)
    (g0 : tr0.Holds fun o => match o with
      | .fin o => Goes o [v] os
      | .at b c fr o => ∃ s, J s ∧ pc s = b ∧ (c, fr) = ct P f b ∧ Goes o (vals s) (ob s))
    (g1 : ∀ s, J s → (tr s).Holds fun o => match o with
      | .fin o => Goes o [v] os
      | .at b c fr o => ∃ s', J s' ∧ WellFoundedRelation.rel (μ s') (μ s) ∧ pc s' = b ∧ (c, fr) = ct P f b ∧ Goes o (vals s') (ob s')) : OCalls P f args v os := by
  obtain ⟨fn, c0, hfn, hb, hokc, hcode, hres⟩ := bodyOk_get hb
  refine ocalls_of hfn hb hokc loc @fun _ hgc => ?_
  rw [← hres]
  have G : Good P (orS (sumS X) S) := ⟨hm, hok, (orS_open hX hS).ok hgc, (orS_open hX hS).kl⟩
  let K : Ex → T AV → Hp → Prop := fun x e h => Goes (obsR P openB (resOf P f) loc (x, e, h)) [v] os
  -- from a head
  have head : ∀ s, J s → ∀ j, RunH P openB (ct P f (pc s)).1 (ct P f (pc s)).2 (mkE (cf (pc s)) (vals s) j) (mkH openB (ob s)) K := by
    have wf : WellFounded (fun a b : σ => WellFoundedRelation.rel (μ a) (μ b)) := InvImage.wf μ WellFoundedRelation.wf
    intro s
    induction s using wf.induction with
    | _ s ih =>
      intro hJ j
      have ht := g1 s hJ
      rw [← h1 s j] at ht
      have ht := Br.holds_map ht
      have key : RunX P openB .normal (.c (pc s + 1) (ct P f (pc s)).1 :: .lp (pc s) (ct P f (pc s)).1 :: (ct P f (pc s)).2) (mkE (cf (pc s)) (vals s) j) (mkH openB (ob s)) K := by
        refine ev_ok G fu _ _ _ _ (ht.mono fun pt hp => ?_)
        cases pt with
        | fin x e h => exact hp
        | «at» b c fr e h =>
          obtain ⟨s', hJ', hlt, rfl, hcf, hgo⟩ := hp
          have e1 : c = (ct P f (pc s')).1 := congrArg Prod.fst hcf
          have e2 : fr = (ct P f (pc s')).2 := congrArg Prod.snd hcf
          subst e1 e2
          intro k hk1 hk2 B ρb wb ρ a w Q hA hQ m
          obtain ⟨ρ', hA'⟩ := hA.head hgc (Nat.le_refl _) hgo
          exact ih s' hlt hJ' _ k hk1 hk2 B ρb wb ρ' a w Q hA' hQ m
      intro k hk1 hk2 B ρb wb ρ a w Q hA hQ m
      exact wpL_round (key k (by simp [okFr, hk1, hk2]) B ρb wb ρ a w Q hA hQ m)
  -- from the beginning
  rw [← h0] at g0
  have ht := Br.holds_map g0
  have key : RunX P openB .normal [.c 0 (codeOf P f)] (params args) ⟨.leaf, openB, []⟩ K := by
    refine ev_ok G fu _ _ _ _ (ht.mono fun pt hp => ?_)
    cases pt with
    | fin x e h => exact hp
    | «at» b c fr e h =>
      obtain ⟨s', hJ', rfl, hcf, hgo⟩ := hp
      have e1 : c = (ct P f (pc s')).1 := congrArg Prod.fst hcf
      have e2 : fr = (ct P f (pc s')).2 := congrArg Prod.snd hcf
      subst e1 e2
      intro k hk1 hk2 B ρb wb ρ a w Q hA hQ m
      obtain ⟨ρ', hA'⟩ := hA.head hgc (Nat.le_refl _) hgo
      exact head s' hJ' _ k hk1 hk2 B ρb wb ρ' a w Q hA' hQ m
  rw [hcode] at key
  intro n hokn B ρb wb ρ a w Q hA hQ m
  exact wpIn_mono (key n (by simp [okFr, hokn]) B ρb wb ρ a w Q hA hQ m) fun e a w q => by cases e <;> exact q
/-- The like of a function without loops. -/
theorem floyd0 {X : SumBr} {S : Sum} (hm : P.follows .mixedOrders = true) (hok : P.funcs.all okFunc = true) (hX : SumGO P (sumS X)) (hS : SumGO P S) {f : FuncId} (hb : bodyOk P f = true)
    {N fu : Nat} {inl : Nat → Bool} {args : List AV} {v : AV} {os : List AO} (loc : List (List Nat)) (cf : Nat → Cfg) (tr0 : Br PO)
    (h0 : (ev P X S N inl fu .normal [.c 0 (codeOf P f)] (params args) start).map (lookP P (resOf P f) loc cf) = tr0)
    (g0 : tr0.Holds fun o => match o with
      | .fin o => Goes o [v] os
      | .at _ _ _ _ => False) : OCalls P f args v os := by
  obtain ⟨fn, c0, hfn, hb, hokc, hcode, hres⟩ := bodyOk_get hb
  refine ocalls_of hfn hb hokc loc @fun _ hgc => ?_
  rw [← hres]
  have G : Good P (orS (sumS X) S) := ⟨hm, hok, (orS_open hX hS).ok hgc, (orS_open hX hS).kl⟩
  rw [← h0] at g0
  have ht := Br.holds_map g0
  have key : RunX P openB .normal [.c 0 (codeOf P f)] (params args) ⟨.leaf, openB, []⟩ (fun x e h => Goes (obsR P openB (resOf P f) loc (x, e, h)) [v] os) := by
    refine ev_ok G fu _ _ _ _ (ht.mono fun pt hp => ?_)
    cases pt with
    | fin x e h => exact hp
    | «at» b c fr e h => exact hp.elim
  rw [hcode] at key
  intro n hokn B ρb wb ρ a w Q hA hQ m
  exact wpIn_mono (key n (by simp [okFr, hokn]) B ρb wb ρ a w Q hA hQ m) fun e a w q => by cases e <;> exact q
end Ev
end Go.Proofs.Ytengccmjlaejfaa
end
