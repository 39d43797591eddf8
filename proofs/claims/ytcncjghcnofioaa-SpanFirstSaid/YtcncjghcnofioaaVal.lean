/- Values of the engine in memory, and the walks of package logic's small calls. No condition. -/
import Derived.Test.YtcncjghcnofioaaProg
import Derived.Test.YtcncjghcnofioaaFr
import Derived.WalkSpells
import Derived.WalkLawsBesides
import Derived.Deep.QuietTactic
import Derived.BigQuiet
import Derived.Laws.Rows
import Derived.Laws.ResultCell
import Derived.Deep.LoopGhost
import Derived.Deep.DeepCutAuto
import Derived.BigRegion
namespace Go.Proofs.Ytcncjghcnofioaa
open Go.RowKit

/-- A value. -/
structure V where
  k : Int
  n : Int
  hi : Int
  t : ByteArray
def vC (v : V) : List Value := [.int .u8 v.k, .int .i64 v.n, .int .i64 v.hi, .string v.t]
def vV (v : V) : Value := .agg #[.int .u8 v.k, .int .i64 v.n, .int .i64 v.hi, .string v.t]

theorem ret_val {fn : Func} {p : Tmp} (h : fn.results = #[.cell p 23]) (tmps : Array Value) (w : World) (g : Nat) (v : V) (hp : tmps.getD p undef = .pointer (some ⟨g, 0, none⟩)) (hg : w.heap[g]? = some (.cells #[.int .u8 v.k, .int .i64 v.n, .int .i64 v.hi, .string v.t] 23 (0, 0))) :
    (results fn tmps).run Try.prog w = .ok (vV v) w :=
  results_cell_row h tmps w g _ _ (0, 0) _ hp hg Try.underlying23 rfl (by kernel_rfl)
theorem ret_val2 {fn : Func} {p u : Tmp} (h : fn.results = #[.cell p 23, .tmp u]) (tmps : Array Value) (w : World) (g : Nat) (v : V) (x : Value) (hp : tmps.getD p undef = .pointer (some ⟨g, 0, none⟩)) (hu : tmps.getD u undef = x)
    (hg : w.heap[g]? = some (.cells #[.int .u8 v.k, .int .i64 v.n, .int .i64 v.hi, .string v.t] 23 (0, 0))) :
    (results fn tmps).run Try.prog w = .ok (.tuple #[vV v, x]) w := by
  rw [results_cell_tmp h]
  have hl := run_loadVar_row (P := Try.prog) w g 23 23 _ (0, 0) _ hg Try.underlying23 rfl (by kernel_rfl)
  rw [hp, hu]
  simp [asAddr, Result.andThen, hl, vV]

def zV : V := ⟨0, 0, 0, ⟨#[]⟩⟩
def intV (n : Int) : V := ⟨1, n, 0, ⟨#[]⟩⟩
def ofV (b : Bool) : V := ⟨2, if b then 1 else 0, 0, ⟨#[]⟩⟩
def yesB (v : V) : Bool := v.k == 2 && v.n != 0

set_option maxHeartbeats 1000000 in
theorem int_any (n : Int) (w : World) : Calls Try.prog 19 #[.int .i64 n] w fun e w' => e = .returned (vV (intV n)) ∧ Fr noB w w' := by
  go_enter Try.func19, Try.ntmps19
  go_wp2_with fail
  refine bodyPost_ret (ret_val rfl _ _ w.heap.size (intV n) rfl (obj_alloc_new _ _)) rfl ?_
  exact ⟨rfl, (Fr.refl _ _).alloc _⟩

set_option maxHeartbeats 1000000 in
theorem of_any (b : Bool) (w : World) : Calls Try.prog 25 #[.bool b] w fun e w' => e = .returned (vV (ofV b)) ∧ Fr noB w w' := by
  cases b
  · go_enter Try.func25, Try.ntmps25
    go_wp2_with fail
    refine bodyPost_ret (ret_val rfl _ _ w.heap.size (ofV false) rfl (obj_alloc (obj_alloc_new _ _) _)) rfl ?_
    exact ⟨rfl, ((Fr.refl _ _).alloc _).alloc _⟩
  · go_enter Try.func25, Try.ntmps25
    go_wp2_with fail
    refine bodyPost_ret (ret_val rfl _ _ w.heap.size (ofV true) rfl (obj_alloc (obj_alloc_new _ _) _)) rfl ?_
    exact ⟨rfl, ((Fr.refl _ _).alloc _).alloc _⟩

set_option maxHeartbeats 1000000 in
theorem yes_any (v : V) (w : World) : Calls Try.prog 18 #[vV v] w fun e w' => e = .returned (.bool (yesB v)) ∧ Fr noB w w' := by
  unfold vV
  by_cases hk : v.k = 2
  · have HR := Lib.hid (show yesB v = (v.n != 0) by simp [yesB, hk])
    rw [hk]
    go_enter Try.func18, Try.ntmps18
    go_wp2_with fail
    go_ret
    exact ⟨by rw [HR.out] <;> rfl, (Fr.refl _ _).alloc _⟩
  · have HR := Lib.hid (show yesB v = false by simp [yesB, hk])
    have hb : (v.k == 2) = false := by rw [beq_eq_false_iff_ne]; exact hk
    go_enter Try.func18, Try.ntmps18
    go_wp2_with fail
    go_ret
    exact ⟨by rw [HR.out] <;> rfl, (Fr.refl _ _).alloc _⟩

theorem v_cells {w : World} {g : Nat} {v : V} {t : TypeId} (h : w.heap[g]? = some (.cells #[.int .u8 v.k, .int .i64 v.n, .int .i64 v.hi, .string v.t] t (0, 0))) :
    w.cell? ⟨g, 0, none⟩ = some (.int .u8 v.k) ∧ w.cell? ⟨g, 1, none⟩ = some (.int .i64 v.n) ∧ w.cell? ⟨g, 2, none⟩ = some (.int .i64 v.hi) ∧ w.cell? ⟨g, 3, none⟩ = some (.string v.t) := by
  refine ⟨?_, ?_, ?_, ?_⟩ <;> (rw [cell_of_obj h]; rfl)
theorem v_cells2 {w : World} {g : Nat} {v u : V} {t : TypeId} (h : w.heap[g]? = some (.cells #[.int .u8 v.k, .int .i64 v.n, .int .i64 v.hi, .string v.t, .int .u8 u.k, .int .i64 u.n, .int .i64 u.hi, .string u.t] t (0, 0))) :
    (w.cell? ⟨g, 0, none⟩ = some (.int .u8 v.k) ∧ w.cell? ⟨g, 1, none⟩ = some (.int .i64 v.n) ∧ w.cell? ⟨g, 2, none⟩ = some (.int .i64 v.hi) ∧ w.cell? ⟨g, 3, none⟩ = some (.string v.t)) ∧
    (w.cell? ⟨g, 4, none⟩ = some (.int .u8 u.k) ∧ w.cell? ⟨g, 5, none⟩ = some (.int .i64 u.n) ∧ w.cell? ⟨g, 6, none⟩ = some (.int .i64 u.hi) ∧ w.cell? ⟨g, 7, none⟩ = some (.string u.t)) := by
  refine ⟨⟨?_, ?_, ?_, ?_⟩, ⟨?_, ?_, ?_, ?_⟩⟩ <;> (rw [cell_of_obj h]; rfl)

def nullB (v : V) : Bool := v.k == 0
def areB (k : Int) (v : V) : Bool := v.k == k || v.k == 0

set_option maxHeartbeats 1000000 in
theorem null1_any (v : V) (g : Nat) (t : TypeId) (w : World) (b : Bool) (hb : ((nullB v)) = b) (h : w.heap[g]? = some (.cells #[.int .u8 v.k, .int .i64 v.n, .int .i64 v.hi, .string v.t] t (0, 0))) :
    Calls Try.prog 72 #[.slice (some ⟨g, 0, none⟩) 1 1] w fun e w' => e = .returned (.bool b) ∧ Fr noB w w' := by
  subst hb
  go_enter Try.func72, Try.ntmps72
  go_wp2_with fail
  go_loopg [7] 1 (fun gh iv wr => ∃ i : Nat, i ≤ 1 ∧ gh = 1 - i ∧ iv = .int .i64 i ∧ Fr noB w wr ∧ (0 < i → Hid ((nullB v) = false)))
  case atStart => exact ⟨0, by omega, by omega, rfl, Fr.refl _ _, fun h => by omega⟩
  case round =>
    obtain ⟨i, hi, rfl, rfl, hf, hk0⟩ := hrel
    have h' := hf.obj (fun x => x) h
    have hi' : i = 0 ∨ i = 1 := by omega
    rcases hi' with rfl | rfl
    · obtain ⟨c0, c1, c2, c3⟩ := v_cells h'
      clear hi h' hk0
      by_cases hx : v.k = 0
      · have HB := Lib.hid (show nullB v = true by simp [nullB, hx])
        rw [hx] at c0
        go_wp2_with fail
        go_ret
        exact ⟨by rw [HB.out] <;> rfl, hf.alloc _⟩
      · have HB := Lib.hid (show nullB v = false by simp [nullB, hx])
        have hxb : (v.k == 0) = false := by rw [beq_eq_false_iff_ne]; exact hx
        clear hx
        go_wp2_with fail
        go_roundg 0
        case measure => omega
        case rel => exact ⟨1, by omega, by omega, by go_num, hf.alloc _, fun _ => HB⟩
    · have P0 := hk0 (by omega)
      clear hi h' hk0
      go_wp2_with fail
      go_ret
      exact ⟨by rw [P0.out] <;> rfl, hf⟩

set_option maxHeartbeats 1000000 in
theorem null2_any (v u : V) (g : Nat) (t : TypeId) (w : World) (b : Bool) (hb : ((nullB v) || (nullB u)) = b) (h : w.heap[g]? = some (.cells #[.int .u8 v.k, .int .i64 v.n, .int .i64 v.hi, .string v.t, .int .u8 u.k, .int .i64 u.n, .int .i64 u.hi, .string u.t] t (0, 0))) :
    Calls Try.prog 72 #[.slice (some ⟨g, 0, none⟩) 2 2] w fun e w' => e = .returned (.bool b) ∧ Fr noB w w' := by
  subst hb
  go_enter Try.func72, Try.ntmps72
  go_wp2_with fail
  go_loopg [7] 2 (fun gh iv wr => ∃ i : Nat, i ≤ 2 ∧ gh = 2 - i ∧ iv = .int .i64 i ∧ Fr noB w wr ∧ (0 < i → Hid ((nullB v) = false)) ∧ (1 < i → Hid ((nullB u) = false)))
  case atStart => exact ⟨0, by omega, by omega, rfl, Fr.refl _ _, fun h => by omega, fun h => by omega⟩
  case round =>
    obtain ⟨i, hi, rfl, rfl, hf, hk0, hk1⟩ := hrel
    have h' := hf.obj (fun x => x) h
    have hi' : i = 0 ∨ i = 1 ∨ i = 2 := by omega
    rcases hi' with rfl | rfl | rfl
    · obtain ⟨⟨c0, c1, c2, c3⟩, ⟨d0, d1, d2, d3⟩⟩ := v_cells2 h'
      clear hi h' hk0 hk1
      by_cases hx : v.k = 0
      · have HB := Lib.hid (show nullB v = true by simp [nullB, hx])
        rw [hx] at c0
        go_wp2_with fail
        go_ret
        exact ⟨by rw [HB.out] <;> rfl, hf.alloc _⟩
      · have HB := Lib.hid (show nullB v = false by simp [nullB, hx])
        have hxb : (v.k == 0) = false := by rw [beq_eq_false_iff_ne]; exact hx
        clear hx
        go_wp2_with fail
        go_roundg 1
        case measure => omega
        case rel => exact ⟨1, by omega, by omega, by go_num, hf.alloc _, fun _ => HB, fun h => by omega⟩
    · obtain ⟨⟨c0, c1, c2, c3⟩, ⟨d0, d1, d2, d3⟩⟩ := v_cells2 h'
      have P0 := hk0 (by omega)
      clear hi h' hk0 hk1
      by_cases hx : u.k = 0
      · have HB := Lib.hid (show nullB u = true by simp [nullB, hx])
        rw [hx] at d0
        go_wp2_with fail
        go_ret
        exact ⟨by rw [P0.out, HB.out] <;> rfl, hf.alloc _⟩
      · have HB := Lib.hid (show nullB u = false by simp [nullB, hx])
        have hxb : (u.k == 0) = false := by rw [beq_eq_false_iff_ne]; exact hx
        clear hx
        go_wp2_with fail
        go_roundg 0
        case measure => omega
        case rel => exact ⟨2, by omega, by omega, by go_num, hf.alloc _, fun _ => P0, fun _ => HB⟩
    · have P0 := hk0 (by omega); have P1 := hk1 (by omega)
      clear hi h' hk0 hk1
      go_wp2_with fail
      go_ret
      exact ⟨by rw [P0.out, P1.out] <;> rfl, hf⟩

set_option maxHeartbeats 1000000 in
theorem are1_any (v : V) (kk : Int) (g : Nat) (t : TypeId) (w : World) (b : Bool) (hb : ((areB kk v)) = b) (h : w.heap[g]? = some (.cells #[.int .u8 v.k, .int .i64 v.n, .int .i64 v.hi, .string v.t] t (0, 0))) :
    Calls Try.prog 71 #[.int .u8 kk, .slice (some ⟨g, 0, none⟩) 1 1] w fun e w' => e = .returned (.bool b) ∧ Fr noB w w' := by
  subst hb
  go_enter Try.func71, Try.ntmps71
  go_wp2_with fail
  go_loopg [9] 1 (fun gh iv wr => ∃ i : Nat, i ≤ 1 ∧ gh = 1 - i ∧ iv = .int .i64 i ∧ Fr noB w wr ∧ (0 < i → Hid ((areB kk v) = true)))
  case atStart => exact ⟨0, by omega, by omega, rfl, Fr.refl _ _, fun h => by omega⟩
  case round =>
    obtain ⟨i, hi, rfl, rfl, hf, hk0⟩ := hrel
    have h' := hf.obj (fun x => x) h
    have hi' : i = 0 ∨ i = 1 := by omega
    rcases hi' with rfl | rfl
    · obtain ⟨c0, c1, c2, c3⟩ := v_cells h'
      clear hi h' hk0
      by_cases hx : v.k = kk
      · have HB := Lib.hid (show areB kk v = true by simp [areB, hx])
        rw [hx] at c0
        clear hx
        go_wp2_with fail
        go_roundg 0
        case measure => omega
        case rel => exact ⟨1, by omega, by omega, by go_num, hf.alloc _, fun _ => HB⟩
      · have hxk : (v.k != kk) = true := by simpa using hx
        by_cases hz : v.k = 0
        · have HB := Lib.hid (show areB kk v = true by simp [areB, hz])
          rw [hz] at c0 hxk
          clear hx hz
          go_wp2_with fail
          go_roundg 0
          case measure => omega
          case rel => exact ⟨1, by omega, by omega, by go_num, hf.alloc _, fun _ => HB⟩
        · have HB := Lib.hid (show areB kk v = false by simp [areB, hx, hz])
          have hzk : (v.k != 0) = true := by simpa using hz
          clear hx hz
          go_wp2_with fail
          go_ret
          exact ⟨by rw [HB.out] <;> rfl, hf.alloc _⟩
    · have P0 := hk0 (by omega)
      clear hi h' hk0
      go_wp2_with fail
      go_ret
      exact ⟨by rw [P0.out] <;> rfl, hf⟩

set_option maxHeartbeats 1000000 in
theorem are2_any (v u : V) (kk : Int) (g : Nat) (t : TypeId) (w : World) (b : Bool) (hb : ((areB kk v) && (areB kk u)) = b) (h : w.heap[g]? = some (.cells #[.int .u8 v.k, .int .i64 v.n, .int .i64 v.hi, .string v.t, .int .u8 u.k, .int .i64 u.n, .int .i64 u.hi, .string u.t] t (0, 0))) :
    Calls Try.prog 71 #[.int .u8 kk, .slice (some ⟨g, 0, none⟩) 2 2] w fun e w' => e = .returned (.bool b) ∧ Fr noB w w' := by
  subst hb
  go_enter Try.func71, Try.ntmps71
  go_wp2_with fail
  go_loopg [9] 2 (fun gh iv wr => ∃ i : Nat, i ≤ 2 ∧ gh = 2 - i ∧ iv = .int .i64 i ∧ Fr noB w wr ∧ (0 < i → Hid ((areB kk v) = true)) ∧ (1 < i → Hid ((areB kk u) = true)))
  case atStart => exact ⟨0, by omega, by omega, rfl, Fr.refl _ _, fun h => by omega, fun h => by omega⟩
  case round =>
    obtain ⟨i, hi, rfl, rfl, hf, hk0, hk1⟩ := hrel
    have h' := hf.obj (fun x => x) h
    have hi' : i = 0 ∨ i = 1 ∨ i = 2 := by omega
    rcases hi' with rfl | rfl | rfl
    · obtain ⟨⟨c0, c1, c2, c3⟩, ⟨d0, d1, d2, d3⟩⟩ := v_cells2 h'
      clear hi h' hk0 hk1
      by_cases hx : v.k = kk
      · have HB := Lib.hid (show areB kk v = true by simp [areB, hx])
        rw [hx] at c0
        clear hx
        go_wp2_with fail
        go_roundg 1
        case measure => omega
        case rel => exact ⟨1, by omega, by omega, by go_num, hf.alloc _, fun _ => HB, fun h => by omega⟩
      · have hxk : (v.k != kk) = true := by simpa using hx
        by_cases hz : v.k = 0
        · have HB := Lib.hid (show areB kk v = true by simp [areB, hz])
          rw [hz] at c0 hxk
          clear hx hz
          go_wp2_with fail
          go_roundg 1
          case measure => omega
          case rel => exact ⟨1, by omega, by omega, by go_num, hf.alloc _, fun _ => HB, fun h => by omega⟩
        · have HB := Lib.hid (show areB kk v = false by simp [areB, hx, hz])
          have hzk : (v.k != 0) = true := by simpa using hz
          clear hx hz
          go_wp2_with fail
          go_ret
          exact ⟨by rw [HB.out] <;> rfl, hf.alloc _⟩
    · obtain ⟨⟨c0, c1, c2, c3⟩, ⟨d0, d1, d2, d3⟩⟩ := v_cells2 h'
      have P0 := hk0 (by omega)
      clear hi h' hk0 hk1
      by_cases hx : u.k = kk
      · have HB := Lib.hid (show areB kk u = true by simp [areB, hx])
        rw [hx] at d0
        clear hx
        go_wp2_with fail
        go_roundg 0
        case measure => omega
        case rel => exact ⟨2, by omega, by omega, by go_num, hf.alloc _, fun _ => P0, fun _ => HB⟩
      · have hxk : (u.k != kk) = true := by simpa using hx
        by_cases hz : u.k = 0
        · have HB := Lib.hid (show areB kk u = true by simp [areB, hz])
          rw [hz] at d0 hxk
          clear hx hz
          go_wp2_with fail
          go_roundg 0
          case measure => omega
          case rel => exact ⟨2, by omega, by omega, by go_num, hf.alloc _, fun _ => P0, fun _ => HB⟩
        · have HB := Lib.hid (show areB kk u = false by simp [areB, hx, hz])
          have hzk : (u.k != 0) = true := by simpa using hz
          clear hx hz
          go_wp2_with fail
          go_ret
          exact ⟨by rw [P0.out, HB.out] <;> rfl, hf.alloc _⟩
    · have P0 := hk0 (by omega); have P1 := hk1 (by omega)
      clear hi h' hk0 hk1
      go_wp2_with fail
      go_ret
      exact ⟨by rw [P0.out, P1.out] <;> rfl, hf⟩

end Go.Proofs.Ytcncjghcnofioaa
