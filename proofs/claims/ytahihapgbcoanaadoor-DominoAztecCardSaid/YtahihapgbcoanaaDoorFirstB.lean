/- The walk of shuffled's closure: does a cell bear the colour of the diamond's first one? -/
import Derived.Test.YtahihapgbcoanaaDoorBoardW
namespace Go.Proofs.YtahihapgbcoanaaDoor
open Go.RowKit

def firstB (n i j : Nat) : Bool := (i + j) % 2 == (n + 1) % 2

set_option maxRecDepth 100000 in
theorem first_any (n i j N : Nat) (w : World) (b : Bool) (hb : Hid (firstB n i j = b)) (hc : w.cell? ⟨N, 0, none⟩ = some (.int .i64 n)) (h1 : 1 ≤ n) (hn : n ≤ 4) (hi : i ≤ 16) (hj : j ≤ 16) :
    Calls Tryd.prog 62 #[.int .i64 i, .int .i64 j, .pointer (some ⟨N, 0, none⟩)] w fun e w' => e = .returned (.bool b) ∧ w = w' := by
  have hb := hb.out
  have e1 : (((i : Int) + (j : Int)) % 2 == ((n : Int) - 1) % 2) = b := by
    rw [← hb]
    unfold firstB
    rw [Bool.eq_iff_iff]
    simp only [beq_iff_eq]
    omega
  have H := Lib.hid e1
  clear e1 hb
  go_enter Tryd.func62, Tryd.ntmps62
  go_wp2
  go_ret
  exact ⟨by rw [← H.out]; rfl, rfl⟩
end Go.Proofs.YtahihapgbcoanaaDoor
