/- The walk of domino.turns. -/
import Derived.Test.YtahihapgbcoanaaDoorTextW
import Derived.Deep.QuietTactic
import Derived.BigQuiet
import Derived.BigGuard
import Derived.RegionTactic
namespace Go.Proofs.YtahihapgbcoanaaDoor
open Go.RowKit

/-- May the block with its upper left cell in row y, column x be turned? -/
def turnB (G : Nat → Nat → UInt8) (x y : Nat) : Bool :=
  (G y x == 108 && G y (x + 1) == 114 && G (y + 1) x == 108 && G (y + 1) (x + 1) == 114) || (G y x == 117 && G y (x + 1) == 117 && G (y + 1) x == 100 && G (y + 1) (x + 1) == 100)

theorem u8_ne {a n : UInt8} (h : a ≠ n) : ((a.toNat : Int) == (n.toNat : Int)) = false := by
  refine beq_eq_false_iff_ne.2 (fun e => h ?_)
  have : a.toNat = n.toNat := by omega
  exact UInt8.toNat_inj.1 this

set_option maxRecDepth 100000 in
set_option maxHeartbeats 4000000 in
theorem turns_in (B top cap h W : Nat) (rb rc : Nat → Nat) (G : Nat → Nat → UInt8) (w : World) (hm : GMem w B top rb rc h W G) (h8 : h ≤ 16) (w8 : W ≤ 16) (x y : Nat) (hx : x + 1 < W) (hy : y + 1 < h) :
    Calls Tryd.prog 34 #[.slice (some ⟨top, 0, none⟩) h cap, .int .i64 x, .int .i64 y] w fun e w' => e = .returned (.bool (turnB G x y)) ∧ ∃ n, w' = w.drewN n := by
  have r1 := hm.row y (by omega)
  have r2 := hm.row (y + 1) hy
  have r0 := hm.row 0 (by omega)
  have c1 := hm.cell y x (by omega) (by omega)
  have c2 := hm.cell y (x + 1) (by omega) hx
  have c3 := hm.cell (y + 1) x hy (by omega)
  have c4 := hm.cell (y + 1) (x + 1) hy hx
  have e1 : decide ((x : Int) < 0) = false := decide_eq_false (by omega)
  have e2 : decide ((y : Int) < 0) = false := decide_eq_false (by omega)
  have e3 : decide ((h : Int) - 1 ≤ (y : Int)) = false := decide_eq_false (by omega)
  have e4 : decide ((W : Int) - 1 ≤ (x : Int)) = false := decide_eq_false (by omega)
  have i1 : (y : Int) < (h : Int) := by omega
  have i2 : (y : Int) + 1 < (h : Int) := by omega
  have i3 : (x : Int) < (W : Int) := by omega
  have i4 : (x : Int) + 1 < (W : Int) := by omega
  have i5 : (0 : Int) < (h : Int) := by omega
  have i6 : 0 < h := by omega
  clear hm
  by_cases q1_108 : G y x = 108
  · have d1 : w.cell? ⟨rb y, x, none⟩ = some (.int .u8 108) := by rw [c1, q1_108]; rfl
    by_cases q2_114 : G y (x + 1) = 114
    · have d2 : w.cell? ⟨rb y, x + 1, none⟩ = some (.int .u8 114) := by rw [c2, q2_114]; rfl
      by_cases q3_108 : G (y + 1) x = 108
      · have d3 : w.cell? ⟨rb (y + 1), x, none⟩ = some (.int .u8 108) := by rw [c3, q3_108]; rfl
        by_cases q4_114 : G (y + 1) (x + 1) = 114
        · have d4 : w.cell? ⟨rb (y + 1), x + 1, none⟩ = some (.int .u8 114) := by rw [c4, q4_114]; rfl
          have HB : Hid (turnB G x y = true) := Lib.hid (by simp [turnB, q1_108, q2_114, q3_108, q4_114])
          clear q1_108 c1 q2_114 c2 q3_108 c3 q4_114 c4
          go_enter Tryd.func34, Tryd.ntmps34
          go_wp2_with fail
          go_quiet (fail)
          go_wp2
          go_ret
          exact ⟨by rw [HB.out]; rfl, _, rfl⟩
        · have f4_114 : (((G (y + 1) (x + 1)).toNat : Int) == 114) = false := u8_ne (n := 114) q4_114
          have HB : Hid (turnB G x y = false) := Lib.hid (by simp [turnB, q1_108, q2_114, q3_108, q4_114])
          clear q1_108 c1 q2_114 c2 q3_108 c3 q4_114
          go_enter Tryd.func34, Tryd.ntmps34
          go_wp2_with fail
          go_quiet (fail)
          go_wp2
          go_ret
          exact ⟨by rw [HB.out]; rfl, _, rfl⟩
      · have f3_108 : (((G (y + 1) x).toNat : Int) == 108) = false := u8_ne (n := 108) q3_108
        have HB : Hid (turnB G x y = false) := Lib.hid (by simp [turnB, q1_108, q2_114, q3_108])
        clear q1_108 c1 q2_114 c2 q3_108
        go_enter Tryd.func34, Tryd.ntmps34
        go_wp2_with fail
        go_quiet (fail)
        go_wp2
        go_ret
        exact ⟨by rw [HB.out]; rfl, _, rfl⟩
    · have f2_114 : (((G y (x + 1)).toNat : Int) == 114) = false := u8_ne (n := 114) q2_114
      have HB : Hid (turnB G x y = false) := Lib.hid (by simp [turnB, q1_108, q2_114])
      clear q1_108 c1 q2_114
      go_enter Tryd.func34, Tryd.ntmps34
      go_wp2_with fail
      go_quiet (fail)
      go_wp2
      go_ret
      exact ⟨by rw [HB.out]; rfl, _, rfl⟩
  · have f1_108 : (((G y x).toNat : Int) == 108) = false := u8_ne (n := 108) q1_108
    by_cases q1_117 : G y x = 117
    · have d1 : w.cell? ⟨rb y, x, none⟩ = some (.int .u8 117) := by rw [c1, q1_117]; rfl
      by_cases q2_117 : G y (x + 1) = 117
      · have d2 : w.cell? ⟨rb y, x + 1, none⟩ = some (.int .u8 117) := by rw [c2, q2_117]; rfl
        by_cases q3_100 : G (y + 1) x = 100
        · have d3 : w.cell? ⟨rb (y + 1), x, none⟩ = some (.int .u8 100) := by rw [c3, q3_100]; rfl
          by_cases q4_100 : G (y + 1) (x + 1) = 100
          · have d4 : w.cell? ⟨rb (y + 1), x + 1, none⟩ = some (.int .u8 100) := by rw [c4, q4_100]; rfl
            have HB : Hid (turnB G x y = true) := Lib.hid (by simp [turnB, q1_117, q2_117, q3_100, q4_100])
            clear f1_108 q1_108 q1_117 c1 q2_117 c2 q3_100 c3 q4_100 c4
            go_enter Tryd.func34, Tryd.ntmps34
            go_wp2_with fail
            go_quiet (fail)
            go_wp2
            go_ret
            exact ⟨by rw [HB.out]; rfl, _, rfl⟩
          · have f4_100 : (((G (y + 1) (x + 1)).toNat : Int) == 100) = false := u8_ne (n := 100) q4_100
            have HB : Hid (turnB G x y = false) := Lib.hid (by simp [turnB, q1_117, q2_117, q3_100, q4_100])
            clear f1_108 q1_108 q1_117 c1 q2_117 c2 q3_100 c3 q4_100
            go_enter Tryd.func34, Tryd.ntmps34
            go_wp2_with fail
            go_quiet (fail)
            go_wp2
            go_ret
            exact ⟨by rw [HB.out]; rfl, _, rfl⟩
        · have f3_100 : (((G (y + 1) x).toNat : Int) == 100) = false := u8_ne (n := 100) q3_100
          have HB : Hid (turnB G x y = false) := Lib.hid (by simp [turnB, q1_117, q2_117, q3_100])
          clear f1_108 q1_108 q1_117 c1 q2_117 c2 q3_100
          go_enter Tryd.func34, Tryd.ntmps34
          go_wp2_with fail
          go_quiet (fail)
          go_wp2
          go_ret
          exact ⟨by rw [HB.out]; rfl, _, rfl⟩
      · have f2_117 : (((G y (x + 1)).toNat : Int) == 117) = false := u8_ne (n := 117) q2_117
        have HB : Hid (turnB G x y = false) := Lib.hid (by simp [turnB, q1_117, q2_117])
        clear f1_108 q1_108 q1_117 c1 q2_117
        go_enter Tryd.func34, Tryd.ntmps34
        go_wp2_with fail
        go_quiet (fail)
        go_wp2
        go_ret
        exact ⟨by rw [HB.out]; rfl, _, rfl⟩
    · have f1_117 : (((G y x).toNat : Int) == 117) = false := u8_ne (n := 117) q1_117
      have HB : Hid (turnB G x y = false) := Lib.hid (by simp [turnB, q1_108, q1_117])
      clear q1_108 q1_117
      go_enter Tryd.func34, Tryd.ntmps34
      go_wp2_with fail
      go_quiet (fail)
      go_wp2
      go_ret
      exact ⟨by rw [HB.out]; rfl, _, rfl⟩

set_option maxRecDepth 100000 in
set_option maxHeartbeats 4000000 in
theorem turns_out (B top cap h W : Nat) (rb rc : Nat → Nat) (G : Nat → Nat → UInt8) (w : World) (hm : GMem w B top rb rc h W G) (h0 : 0 < h) (h8 : h ≤ 16) (w8 : W ≤ 16) (x y : Int) (hx : -9223372036854775808 ≤ x ∧ x ≤ 9223372036854775807) (hy : -9223372036854775808 ≤ y ∧ y ≤ 9223372036854775807) (ho : x < 0 ∨ y < 0 ∨ (h : Int) - 1 ≤ y ∨ (W : Int) - 1 ≤ x) :
    Calls Tryd.prog 34 #[.slice (some ⟨top, 0, none⟩) h cap, .int .i64 x, .int .i64 y] w fun e w' => e = .returned (.bool false) ∧ w = w' := by
  have r0 := hm.row 0 (by omega)
  have i5 : (0 : Int) < (h : Int) := by omega
  clear hm
  by_cases q1 : x < 0
  · have e1 : decide (x < 0) = true := decide_eq_true q1
    go_enter Tryd.func34, Tryd.ntmps34
    go_wp2
    go_ret
    exact ⟨rfl, rfl⟩
  have e1 : decide (x < 0) = false := decide_eq_false q1
  by_cases q2 : y < 0
  · have e2 : decide (y < 0) = true := decide_eq_true q2
    go_enter Tryd.func34, Tryd.ntmps34
    go_wp2
    go_ret
    exact ⟨rfl, rfl⟩
  have e2 : decide (y < 0) = false := decide_eq_false q2
  by_cases q3 : (h : Int) - 1 ≤ y
  · have e3 : decide ((h : Int) - 1 ≤ y) = true := decide_eq_true q3
    go_enter Tryd.func34, Tryd.ntmps34
    go_wp2
    go_ret
    exact ⟨rfl, rfl⟩
  have e3 : decide ((h : Int) - 1 ≤ y) = false := decide_eq_false q3
  have q4 : (W : Int) - 1 ≤ x := by omega
  have e4 : decide ((W : Int) - 1 ≤ x) = true := decide_eq_true q4
  go_enter Tryd.func34, Tryd.ntmps34
  go_wp2
  go_ret
  exact ⟨rfl, rfl⟩
end Go.Proofs.YtahihapgbcoanaaDoor
