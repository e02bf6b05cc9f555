/- Plain: a grid's text. No program. -/
import Derived.Test.YtahihapgbcoanaaDoorPieces
import Derived.Lib.Join
namespace Go.Proofs.YtahihapgbcoanaaDoor
/-- Row i. -/
def rowOf (W : Nat) (G : Nat → Nat → UInt8) (i : Nat) : List UInt8 := (List.range W).map (G i)
/-- The rows. -/
def rowsOf (h W : Nat) (G : Nat → Nat → UInt8) : List (List UInt8) := (List.range h).map (rowOf W G)
/-- The text of a grid. -/
def textOf (h W : Nat) (G : Nat → Nat → UInt8) : List UInt8 := Lib.join (rowsOf h W G) [47]
theorem rowOf_length (W : Nat) (G : Nat → Nat → UInt8) (i : Nat) : (rowOf W G i).length = W := by simp [rowOf]
theorem lens_rows (h W : Nat) (G : Nat → Nat → UInt8) : Lib.lens (rowsOf h W G) = h * W := by
  unfold rowsOf
  induction h with
  | zero => simp [Lib.lens]
  | succ h ih =>
    rw [List.range_succ, List.map_append]
    have : ∀ (a b : List (List UInt8)), Lib.lens (a ++ b) = Lib.lens a + Lib.lens b := by
      intro a b
      induction a with
      | nil => simp [Lib.lens]
      | cons x a ih => simp [Lib.lens] at ih ⊢; omega
    rw [this, ih]
    simp [Lib.lens, rowOf, Nat.succ_mul]
theorem textOf_length (h W : Nat) (G : Nat → Nat → UInt8) : (textOf h W G).length ≤ h * W + h := by
  unfold textOf
  cases hh : rowsOf h W G with
  | nil => simp [Lib.join_nil]
  | cons x r =>
    have hl : (rowsOf h W G).length = h := by simp [rowsOf]
    rw [Lib.join_length, ← hh, lens_rows]
    rw [hh] at hl
    simp at hl ⊢
    omega
theorem rowsOf_succ (h W : Nat) (G : Nat → Nat → UInt8) : rowsOf (h + 1) W G = rowsOf h W G ++ [rowOf W G h] := by
  simp [rowsOf, List.range_succ]
theorem rowsOf_congr {h W : Nat} {G G' : Nat → Nat → UInt8} (hG : ∀ i j, i < h → j < W → G i j = G' i j) : rowsOf h W G = rowsOf h W G' := by
  unfold rowsOf
  apply List.map_congr_left
  intro i hi
  unfold rowOf
  apply List.map_congr_left
  intro j hj
  exact hG i j (List.mem_range.1 hi) (List.mem_range.1 hj)
theorem textOf_congr {h W : Nat} {G G' : Nat → Nat → UInt8} (hG : ∀ i j, i < h → j < W → G i j = G' i j) : textOf h W G = textOf h W G' := by
  unfold textOf
  rw [rowsOf_congr hG]
end Go.Proofs.YtahihapgbcoanaaDoor
