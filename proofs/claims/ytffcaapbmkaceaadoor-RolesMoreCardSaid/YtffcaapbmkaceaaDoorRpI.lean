/- What is a name. No condition. -/
import Derived.Test.YtffcaapbmkaceaaDoorRpH
namespace Go.Proofs.YtffcaapbmkaceaaDoor
open Ev Go.RowKit
set_option maxRecDepth 100000
set_option linter.unusedVariables false
def name_cf : Nat → Cfg := cfL []
def name_a (s : ByteArray) : List AV := [.s (.string s)]
noncomputable def name_t (P : Program) (s : ByteArray) : Br PO :=
(.test (!s.toList == (⟨#[]⟩ : ByteArray).toList)
  (.test (decide ((↑s.size : Int) ≤ 32))
    (.test (decide (0 ≤ 0) && decide (0 ≤ 1) && decide (1 ≤ (↑s.size : Int)))
      (.test ((↑(s.extract (Int.toNat 0) (Int.toNat 1)).size : Int) == 0)
        (.test (s.size.ble 4611686018427387904)
          (.leaf (.fin ⟨Ex.ret, true, [some (AV.s (Value.bool ((trimN s).toList == (⟨#[]⟩ : ByteArray).toList)))], []⟩))
          .no
        )
        (.test ((s.extract (Int.toNat 0) (Int.toNat 1)).toList == (⟨#[97, 98, 99, 100, 101, 102, 103, 104, 105, 106, 107, 108, 109, 110, 111, 112, 113, 114, 115, 116, 117, 118, 119, 120, 121, 122]⟩ : ByteArray).toList)
          (.test (s.size.ble 4611686018427387904)
            (.leaf (.fin ⟨Ex.ret, true, [some (AV.s (Value.bool ((trimN s).toList == (⟨#[]⟩ : ByteArray).toList)))], []⟩))
            .no
          )
          (.test ((↑(s.extract (Int.toNat 0) (Int.toNat 1)).size : Int) == 1)
            (.test (decide (0 ≤ 0) && decide (0 < (↑(s.extract (Int.toNat 0) (Int.toNat 1)).size : Int)))
              (.test (decide (seekB (⟨#[97, 98, 99, 100, 101, 102, 103, 104, 105, 106, 107, 108, 109, 110, 111, 112, 113, 114, 115, 116, 117, 118, 119, 120, 121, 122]⟩ : ByteArray).data.toList (byteAt (s.extract (Int.toNat 0) (Int.toNat 1)) (Int.toNat 0)).toNat.toUInt8 0 ≥ 0))
                (.test (s.size.ble 4611686018427387904)
                  (.leaf (.fin ⟨Ex.ret, true, [some (AV.s (Value.bool ((trimN s).toList == (⟨#[]⟩ : ByteArray).toList)))], []⟩))
                  .no
                )
                (.leaf (.fin ⟨Ex.ret, true, [some (AV.v (Value.bool false))], []⟩))
              )
              .no
            )
            (.test (decide ((↑(s.extract (Int.toNat 0) (Int.toNat 1)).size : Int) ≥ (↑(⟨#[97, 98, 99, 100, 101, 102, 103, 104, 105, 106, 107, 108, 109, 110, 111, 112, 113, 114, 115, 116, 117, 118, 119, 120, 121, 122]⟩ : ByteArray).size : Int)))
              (.leaf (.fin ⟨Ex.ret, true, [some (AV.v (Value.bool false))], []⟩))
              .no
            )
          )
        )
      )
      .no
    )
    (.leaf (.fin ⟨Ex.ret, true, [some (AV.v (Value.bool false))], []⟩))
  )
  (.leaf (.fin ⟨Ex.ret, true, [some (AV.v (Value.bool false))], []⟩))
)
theorem name_h (s : ByteArray) : (ev Tryd.prog trimWX seekT 3000 noL 3000 .normal [.c 0 (codeOf Tryd.prog 30)] (params (name_a s)) Ev.start).map (lookP Tryd.prog (resOf Tryd.prog 30) [] name_cf) = name_t Tryd.prog s := by kernel_rfl

def lowB (c : Int) : Bool := decide (97 ≤ c) && decide (c ≤ 122)
/-- Is a text a name? -/
def nameP (s : ByteArray) : Bool := (decide (1 ≤ s.size) && decide (s.size ≤ 32)) && (lowB (byteAt s 0) && allB setN s)
theorem seek_low {c : Int} (h0 : 0 ≤ c) (h1 : c < 256) : decide (seekB (⟨#[97, 98, 99, 100, 101, 102, 103, 104, 105, 106, 107, 108, 109, 110, 111, 112, 113, 114, 115, 116, 117, 118, 119, 120, 121, 122]⟩ : ByteArray).data.toList c.toNat.toUInt8 0 ≥ 0) = lowB c := by
  have key : ((List.range 256).all fun n => decide (seekB (⟨#[97, 98, 99, 100, 101, 102, 103, 104, 105, 106, 107, 108, 109, 110, 111, 112, 113, 114, 115, 116, 117, 118, 119, 120, 121, 122]⟩ : ByteArray).data.toList n.toUInt8 0 ≥ 0) == lowB n) = true := by kernel_rfl
  have := List.all_eq_true.1 key c.toNat (by simp; omega)
  rw [show ((c.toNat : Nat) : Int) = c by omega] at this
  simpa using this
theorem name_ok (s : ByteArray) : OCalls Tryd.prog 30 (name_a s) (.s (.bool (nameP s))) [] :=
  floyd0 ev_mix ev_ok trimWX_ok seekT_ok (by kernel_rfl) [] name_cf (name_t _ s) (name_h s)
    (by
      have hx : 1 ≤ s.size → (s.extract (Int.toNat 0) (Int.toNat 1)).size = 1 := fun h => by rw [size_extract]; show min 1 s.size - 0 = 1; omega
      refine ⟨fun h => ⟨fun h2 => ⟨fun _ => ?_, fun h3 => ?_⟩, fun h2 => ?_⟩, fun h => ?_⟩
      · rw [ba_eq] at h
        have hs : 1 ≤ s.size := by
          rcases Nat.eq_zero_or_pos s.size with c | c
          · rw [decide_eq_true (ba_nil.2 c)] at h; cases h
          · exact c
        simp only [decide_eq_true_eq] at h2
        refine ⟨fun h3 => ?_, fun _ => ⟨fun h3 => ?_, fun _ => ⟨fun _ => ⟨fun _ => ⟨fun h4 => ⟨fun _ => ?_, fun h5 => ?_⟩, fun h4 => ?_⟩, fun h3 => ?_⟩, fun h3 => ?_⟩⟩⟩
        · rw [hx hs] at h3; cases h3
        · rw [ba_eq, decide_eq_true_eq] at h3
          have := congrArg ByteArray.size h3
          rw [hx hs] at this; cases this
        · have hb := byteAt_ge s 0
          have e : byteAt (s.extract (Int.toNat 0) (Int.toNat 1)) (Int.toNat 0) = byteAt s 0 := byteAt_extract (a := 0) (b := 1) (k := 0) (by omega)
          rw [e, seek_low hb.1 hb.2] at h4
          refine ⟨rfl, (.cons _ _ _ _ (.ofEq ?_) .nil), .nil⟩
          have e2 : decide (trimN s = ⟨#[]⟩) = decide ((trimN s).size = 0) := by simp only [ba_nil]
          rw [ba_eq, e2, trimN_nil]
          unfold nameP
          rw [h4, decide_eq_true hs, decide_eq_true (show s.size ≤ 32 by omega)]; rfl
        · have := ble_no h5; omega
        · have hb := byteAt_ge s 0
          have e : byteAt (s.extract (Int.toNat 0) (Int.toNat 1)) (Int.toNat 0) = byteAt s 0 := byteAt_extract (a := 0) (b := 1) (k := 0) (by omega)
          rw [e, seek_low hb.1 hb.2] at h4
          refine ⟨rfl, (.cons _ _ _ _ ?_ .nil), .nil⟩
          unfold nameP
          rw [h4, Bool.false_and, Bool.and_false]; exact .vs _
        · rw [hx hs] at h3; cases h3
        · rw [hx hs] at h3; cases h3
      · rw [ba_eq] at h
        have hs : 1 ≤ s.size := by
          rcases Nat.eq_zero_or_pos s.size with c | c
          · rw [decide_eq_true (ba_nil.2 c)] at h; cases h
          · exact c
        simp only [Bool.and_eq_false_iff, decide_eq_false_iff_not] at h3; omega
      · simp only [decide_eq_false_iff_not] at h2
        refine ⟨rfl, (.cons _ _ _ _ ?_ .nil), .nil⟩
        unfold nameP
        rw [decide_eq_false (show ¬ s.size ≤ 32 by omega), Bool.and_false, Bool.false_and]; exact .vs _
      · rw [ba_eq] at h
        have hs : s = ⟨#[]⟩ := by simpa using h
        subst hs
        exact ⟨rfl, (.cons _ _ _ _ (.vs _) .nil), .nil⟩)
def nameX : SumBr := oX 30 fun
  | [v] => match strV v with
    | some x => some (.leaf (.s (.bool (nameP x)), []))
    | none => none
  | _ => none
theorem nameX_ok : SumGO Tryd.prog (sumS nameX) := oX_ok (by kernel_rfl) fun xs B r h hB => by
  split at h
  · split at h
    · rename_i v x hv
      cases h
      cases hB
      exact (name_ok x).leS fun m ys ⟨y, r, e, h1, h2⟩ => by
        letI : Fz := ⟨m, false⟩
        exact ⟨y, r, e, strV_rel hv h1, h2⟩
    · cases h
  · cases h
end Go.Proofs.YtffcaapbmkaceaaDoor
