/- The walk of domino.lay. -/
import Derived.Test.YtahihapgbcoanaaDoorFlipsW
import Derived.BigRegion
import Derived.ChangeAlike
namespace Go.Proofs.YtahihapgbcoanaaDoor
open Go.RowKit

/-- The grid with four letters laid on a block. -/
def putG (G : Nat → Nat → UInt8) (x y : Nat) (a b c d : UInt8) : Nat → Nat → UInt8 := fun i j =>
  if i = y + 1 ∧ j = x + 1 then d else if i = y + 1 ∧ j = x then c else if i = y ∧ j = x + 1 then b else if i = y ∧ j = x then a else G i j
def layG (G : Nat → Nat → UInt8) (x y : Nat) (up : Bool) : Nat → Nat → UInt8 := if up then putG G x y 117 117 100 100 else putG G x y 108 114 108 114

set_option maxRecDepth 100000 in
set_option maxHeartbeats 4000000 in
theorem lay_up (B top cap h W : Nat) (rb rc : Nat → Nat) (G : Nat → Nat → UInt8) (w : World) (hm : GMem w B top rb rc h W G) (h8 : h ≤ 16) (w8 : W ≤ 16) (x y : Nat) (hx : x + 1 < W) (hy : y + 1 < h) :
    Calls Tryd.prog 35 #[.slice (some ⟨top, 0, none⟩) h cap, .int .i64 x, .int .i64 y, .bool true] w fun e w' => e = .returned (.tuple #[]) ∧ w' = ((((w.setCell ⟨rb y, x, none⟩ (.int .u8 117)).setCell ⟨rb y, x + 1, none⟩ (.int .u8 117)).setCell ⟨rb (y + 1), x, none⟩ (.int .u8 100)).setCell ⟨rb (y + 1), x + 1, none⟩ (.int .u8 100)).drew := by
  have r1 := hm.row y (by omega)
  have r2 := hm.row (y + 1) hy
  have c1 := hm.cell y x (by omega) (by omega)
  have c2 := hm.cell y (x + 1) (by omega) hx
  have c3 := hm.cell (y + 1) x hy (by omega)
  have c4 := hm.cell (y + 1) (x + 1) hy hx
  have f1 := hm.frz y x (by omega) (by omega)
  have f2 := hm.frz y (x + 1) (by omega) hx
  have f3 := hm.frz (y + 1) x hy (by omega)
  have f4 := hm.frz (y + 1) (x + 1) hy hx
  have n1 : rb y ≠ rb (y + 1) := fun e => by have := hm.inj y (y + 1) (by omega) hy e; omega
  have n2 : rb (y + 1) ≠ rb y := fun e => n1 e.symm
  have n3 : rb y ≠ top := hm.apart y (by omega)
  have n4 : rb (y + 1) ≠ top := hm.apart (y + 1) hy
  have n5 : top ≠ rb y := fun e => n3 e.symm
  have n6 : top ≠ rb (y + 1) := fun e => n4 e.symm
  have i1 : (y : Int) < (h : Int) := by omega
  have i2 : (y : Int) + 1 < (h : Int) := by omega
  have i3 : (x : Int) < (W : Int) := by omega
  have i4 : (x : Int) + 1 < (W : Int) := by omega
  clear hm
  go_enter Tryd.func35, Tryd.ntmps35
  go_wp2
  go_region
  all_goals (go_wp2; go_end0)
  all_goals exact ⟨rfl, rfl⟩
set_option maxRecDepth 100000 in
set_option maxHeartbeats 4000000 in
theorem lay_flat (B top cap h W : Nat) (rb rc : Nat → Nat) (G : Nat → Nat → UInt8) (w : World) (hm : GMem w B top rb rc h W G) (h8 : h ≤ 16) (w8 : W ≤ 16) (x y : Nat) (hx : x + 1 < W) (hy : y + 1 < h) :
    Calls Tryd.prog 35 #[.slice (some ⟨top, 0, none⟩) h cap, .int .i64 x, .int .i64 y, .bool false] w fun e w' => e = .returned (.tuple #[]) ∧ w' = ((((w.setCell ⟨rb y, x, none⟩ (.int .u8 108)).setCell ⟨rb y, x + 1, none⟩ (.int .u8 114)).setCell ⟨rb (y + 1), x, none⟩ (.int .u8 108)).setCell ⟨rb (y + 1), x + 1, none⟩ (.int .u8 114)).drew := by
  have r1 := hm.row y (by omega)
  have r2 := hm.row (y + 1) hy
  have c1 := hm.cell y x (by omega) (by omega)
  have c2 := hm.cell y (x + 1) (by omega) hx
  have c3 := hm.cell (y + 1) x hy (by omega)
  have c4 := hm.cell (y + 1) (x + 1) hy hx
  have f1 := hm.frz y x (by omega) (by omega)
  have f2 := hm.frz y (x + 1) (by omega) hx
  have f3 := hm.frz (y + 1) x hy (by omega)
  have f4 := hm.frz (y + 1) (x + 1) hy hx
  have n1 : rb y ≠ rb (y + 1) := fun e => by have := hm.inj y (y + 1) (by omega) hy e; omega
  have n2 : rb (y + 1) ≠ rb y := fun e => n1 e.symm
  have n3 : rb y ≠ top := hm.apart y (by omega)
  have n4 : rb (y + 1) ≠ top := hm.apart (y + 1) hy
  have n5 : top ≠ rb y := fun e => n3 e.symm
  have n6 : top ≠ rb (y + 1) := fun e => n4 e.symm
  have i1 : (y : Int) < (h : Int) := by omega
  have i2 : (y : Int) + 1 < (h : Int) := by omega
  have i3 : (x : Int) < (W : Int) := by omega
  have i4 : (x : Int) + 1 < (W : Int) := by omega
  clear hm
  go_enter Tryd.func35, Tryd.ntmps35
  go_wp2
  go_region
  all_goals (go_wp2; go_end0)
  all_goals exact ⟨rfl, rfl⟩

/-- Outside the blocks S the world is as it was; there may be new blocks. -/
structure Kept (S : Nat → Prop) (w w' : World) : Prop where
  os : w'.os = w.os
  tape : w'.tape = w.tape
  output : w'.output = w.output
  size : w.heap.size ≤ w'.heap.size
  block : ∀ k, k < w.heap.size → ¬ S k → w'.heap[k]? = w.heap[k]?
section
variable {S T : Nat → Prop} {a b c : World}
theorem Kept.refl (S : Nat → Prop) (w : World) : Kept S w w := ⟨rfl, rfl, rfl, Nat.le_refl _, fun _ _ _ => rfl⟩
theorem Kept.trans (h : Kept S a b) (k : Kept S b c) : Kept S a c :=
  ⟨k.os.trans h.os, k.tape.trans h.tape, k.output.trans h.output, Nat.le_trans h.size k.size, fun i hi hs => (k.block i (Nat.lt_of_lt_of_le hi h.size) hs).trans (h.block i hi hs)⟩
theorem Kept.more (h : Kept S a b) (hST : ∀ k, S k → T k) : Kept T a b := ⟨h.os, h.tape, h.output, h.size, fun i hi hs => h.block i hi (fun e => hs (hST i e))⟩
theorem Kept.setCell (h : Kept S a b) {p : Addr} (hp : S p.block) (u : Value) : Kept S a (b.setCell p u) :=
  ⟨h.os, h.tape, h.output, by simpa [World.setCell] using h.size, fun i hi hs => (Below.heap_setCell b p u i (fun e => hs (by rw [e]; exact hp))).trans (h.block i hi hs)⟩
theorem Kept.drew (h : Kept S a b) : Kept S a b.drew := ⟨h.os, h.tape, h.output, h.size, h.block⟩
theorem Kept.drewN (h : Kept S a b) (n : Nat) : Kept S a (b.drewN n) := ⟨h.os, h.tape, h.output, h.size, h.block⟩
theorem Kept.alloc (h : Kept S a b) (o : Obj) : Kept S a (b.alloc o) :=
  ⟨h.os, h.tape, h.output, Nat.le_trans h.size (by simp), fun i hi hs => (Below.heap_alloc b o i (Nat.lt_of_lt_of_le hi h.size)).trans (h.block i hi hs)⟩
theorem Kept.ofBelow {B : Nat} (h : Below B a b) (hB : ∀ k, k < a.heap.size → B ≤ k → S k) : Kept S a b := ⟨h.os, h.tape, h.output, h.size, fun i hi hs => h.block i (Nat.lt_of_not_le fun e => hs (hB i hi e))⟩
theorem Kept.below {B : Nat} (h : Kept S a b) (hB : B ≤ a.heap.size) (hS : ∀ k, S k → B ≤ k) : Below B a b :=
  ⟨h.os, h.tape, h.output, h.size, fun i hi => h.block i (by omega) (fun e => by have := hS i e; omega)⟩
end

theorem lay_any (B top cap h W : Nat) (rb rc : Nat → Nat) (G : Nat → Nat → UInt8) (w : World) (hm : GMem w B top rb rc h W G) (h8 : h ≤ 16) (w8 : W ≤ 16) (x y : Nat) (hx : x + 1 < W) (hy : y + 1 < h) (up : Bool) :
    Calls Tryd.prog 35 #[.slice (some ⟨top, 0, none⟩) h cap, .int .i64 x, .int .i64 y, .bool up] w fun e w' =>
      e = .returned (.tuple #[]) ∧ GMem w' B top rb rc h W (layG G x y up) ∧ Kept (fun k => k = rb y ∨ k = rb (y + 1)) w w' := by
  have key : ∀ (a b c d : UInt8), GMem ((((w.setCell ⟨rb y, x, none⟩ (.int .u8 a.toNat)).setCell ⟨rb y, x + 1, none⟩ (.int .u8 b.toNat)).setCell ⟨rb (y + 1), x, none⟩ (.int .u8 c.toNat)).setCell ⟨rb (y + 1), x + 1, none⟩ (.int .u8 d.toNat)).drew B top rb rc h W (putG G x y a b c d) ∧
      Kept (fun k => k = rb y ∨ k = rb (y + 1)) w ((((w.setCell ⟨rb y, x, none⟩ (.int .u8 a.toNat)).setCell ⟨rb y, x + 1, none⟩ (.int .u8 b.toNat)).setCell ⟨rb (y + 1), x, none⟩ (.int .u8 c.toNat)).setCell ⟨rb (y + 1), x + 1, none⟩ (.int .u8 d.toNat)).drew := fun a b c d =>
    ⟨((((hm.set (i := y) (j := x) (by omega) (by omega) a).set (i := y) (j := x + 1) (by omega) hx b).set (i := y + 1) (j := x) hy (by omega) c).set (i := y + 1) (j := x + 1) hy hx d).drew,
      (((((Kept.refl _ w).setCell (p := ⟨rb y, x, none⟩) (.inl rfl) _).setCell (p := ⟨rb y, x + 1, none⟩) (.inl rfl) _).setCell (p := ⟨rb (y + 1), x, none⟩) (.inr rfl) _).setCell (p := ⟨rb (y + 1), x + 1, none⟩) (.inr rfl) _).drew⟩
  cases up
  · refine (lay_flat B top cap h W rb rc G w hm h8 w8 x y hx hy).mono ?_
    rintro e w' ⟨rfl, rfl⟩
    exact ⟨rfl, key 108 114 108 114⟩
  · refine (lay_up B top cap h W rb rc G w hm h8 w8 x y hx hy).mono ?_
    rintro e w' ⟨rfl, rfl⟩
    exact ⟨rfl, key 117 117 100 100⟩
end Go.Proofs.YtahihapgbcoanaaDoor
