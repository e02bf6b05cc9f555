/- The walk of domino.Flip. -/
import Derived.Test.YtahihapgbcoanaaDoorLayW
import Derived.StillTailTactics
import Derived.Deep.RegionWith
namespace Go.Proofs.YtahihapgbcoanaaDoor
open Go.RowKit

/-- What Flip hands back. -/
def FlipG (s : List UInt8) (X Y : Int) (w : World) (e : Ending) (w' : World) : Prop :=
  Below w.heap.size w w' ∧ ((¬ Tiling s ∧ e = .returned (.tuple #[.string ⟨#[]⟩, .int .i64 1])) ∨
    (Tiling s ∧ (∀ x y : Nat, X = x → Y = y → turnAt (hOf s) (wOf s) (gOf s) x y = false) ∧ e = .returned (.tuple #[.string ⟨#[]⟩, .int .i64 5])) ∨
    (Tiling s ∧ ∃ x y : Nat, X = x ∧ Y = y ∧ x < wOf s ∧ y < hOf s ∧ turnAt (hOf s) (wOf s) (gOf s) x y = true ∧
      e = .returned (.tuple #[.string ⟨(textOf (hOf s) (wOf s) (layG (gOf s) x y (gOf s y x == 108))).toArray⟩, .int .i64 0])))

theorem turnAt_lt {h W : Nat} {G : Nat → Nat → UInt8} {x y : Nat} (ht : turnAt h W G x y = true) : x + 1 < W ∧ y + 1 < h := by
  simp [turnAt] at ht
  exact ⟨ht.1.1, ht.1.2⟩

set_option maxRecDepth 100000 in
set_option maxHeartbeats 8000000 in
theorem flip_any (s : List UInt8) (hs : s.length ≤ 9223372036854775807) (X Y : Int) (hX : -9223372036854775808 ≤ X ∧ X ≤ 9223372036854775807) (hY : -9223372036854775808 ≤ Y ∧ Y ≤ 9223372036854775807) (w : World) :
    Calls Tryd.prog 11 #[.string ⟨s.toArray⟩, .agg #[.int .i64 X, .int .i64 Y]] w (FlipG s X Y w) := by
  have hn0 := eqnil_none
  have hn1 := eqnil_some
  go_enter Tryd.func11, Tryd.ntmps11
  go_wp2_with fail
  refine (tiles_any s hs _).mono ?_
  rintro e w1 ⟨hb, ⟨hng, rfl⟩ | ⟨hT, top, cap, rb, rc, rfl, hm⟩⟩
  · have HN := Lib.hid hng
    clear hng
    go_wp2
    go_ret2
    exact ⟨((Below.refl _ w).alloc (Nat.le_refl _) _).trans (hb.mono (by simp)), .inl ⟨HN.out, rfl⟩⟩
  · obtain ⟨h8, w8, h0, w0⟩ := good_h hT.1
    have HT := Lib.hid hT
    clear hT
    have hb0 : Below w.heap.size w w1 := ((Below.refl _ w).alloc (Nat.le_refl _) _).trans (hb.mono (by simp))
    have hsz : w.heap.size < w1.heap.size := by have := hb.size; simp at this; omega
    have ax : w1.cell? ⟨w.heap.size, 0, none⟩ = some (.int .i64 X) := (hb.cell (p := ⟨w.heap.size, 0, none⟩) (by simp)).trans (by simp)
    have ay : w1.cell? ⟨w.heap.size, 1, none⟩ = some (.int .i64 Y) := (hb.cell (p := ⟨w.heap.size, 1, none⟩) (by simp)).trans (by simp)
    replace hm := hm.mono (B' := w.heap.size + 1) (by simp)
    clear hb
    generalize hh : hOf s = h at h8 h0 hm ⊢
    generalize hw : wOf s = W at w8 w0 hm ⊢
    generalize hgg : gOf s = G at hm ⊢
    have HE := Lib.hid (⟨hh, hw, hgg⟩ : hOf s = h ∧ wOf s = W ∧ gOf s = G)
    clear hh hw hgg
    by_cases hin : 0 ≤ X ∧ X + 1 < W ∧ 0 ≤ Y ∧ Y + 1 < h
    · obtain ⟨x, rfl⟩ := Int.eq_ofNat_of_zero_le hin.1
      obtain ⟨y, rfl⟩ := Int.eq_ofNat_of_zero_le hin.2.2.1
      have hxW : x + 1 < W := by omega
      have hyh : y + 1 < h := by omega
      cases ht : turnAt h W G x y
      · have HTn := Lib.hid ht
        clear ht
        go_wp2_with (go_at_call 34; refine (turns_nat _ top cap h W rb rc G _ hm h0 (by omega) (by omega) x y (by omega) (by omega) false HTn).mono ?_; rintro e w2 ⟨rfl, nq, hd⟩; subst hd)
        go_ret2
        obtain ⟨e1, e2, e3⟩ := HE.out
        exact ⟨below_drewN hb0 _, .inr (.inl ⟨HT.out, fun x' y' hx hy => by
          have := Int.ofNat.inj hx
          have := Int.ofNat.inj hy
          subst x' y'
          rw [e1, e2, e3]; exact HTn.out, rfl⟩)⟩
      · have HTn := Lib.hid ht
        clear ht
        go_wp2_with (go_at_call 34; refine (turns_nat _ top cap h W rb rc G _ hm h0 (by omega) (by omega) x y (by omega) (by omega) true HTn).mono ?_; rintro e w2 ⟨rfl, nq, hd⟩; subst hd)
        have hm2 := hm.drewN nq
        have ax2 : (w1.drewN nq).cell? ⟨w.heap.size, 0, none⟩ = some (.int .i64 x) := ax
        have ay2 : (w1.drewN nq).cell? ⟨w.heap.size, 1, none⟩ = some (.int .i64 y) := ay
        have hb2 := below_drewN hb0 nq
        have hsz2 : w.heap.size < (w1.drewN nq).heap.size := hsz
        generalize w1.drewN nq = w2 at hm2 ax2 ay2 hb2 hsz2 ⊢
        clear hm ax ay hb0 hsz
        have r1 := hm2.row y (by omega)
        have c1 := hm2.cell y x (by omega) (by omega)
        have i1 : (y : Int) < (h : Int) := by omega
        have i3 : (x : Int) < (W : Int) := by omega
        have hm3 := hm2.drew
        have hb3 := hb2.drew
        have hsz3 : w.heap.size < w2.drew.heap.size := hsz2
        go_still_tail 15, (by kernel_rfl)
        change wpList _ _ _ _ _ w2.drew
        generalize w2.drew = w3 at hm3 hb3 hsz3 ⊢
        clear hm2 ax2 ay2 hb2 hsz2 r1 c1
        go_wp2_with fail
        refine (lay_any _ top cap h W rb rc G _ hm3 (by omega) (by omega) x y hxW hyh _).mono ?_
        rintro e w4 ⟨rfl, hm4, hk4⟩
        have hr1 := hm3.rbB y (by omega)
        have hr2 := hm3.rbB (y + 1) hyh
        have hb4 : Below w.heap.size w w4 := hb3.trans (hk4.below (by omega) (fun k hk => by rcases hk with rfl | rfl <;> omega))
        have hsz4 := hk4.size
        clear hm3 hb3 hk4
        go_wp2_with fail
        refine (text_any _ top cap h W rb rc _ _ hm4 h0 (by omega) (by omega)).mono ?_
        rintro e w5 ⟨rfl, hb5⟩
        go_wp2
        go_ret2
        obtain ⟨e1, e2, e3⟩ := HE.out
        refine ⟨hb4.trans (hb5.mono (by omega)), .inr (.inr ⟨HT.out, x, y, rfl, rfl, by omega, by omega, by rw [e1, e2, e3]; exact HTn.out, ?_⟩)⟩
        rw [e1, e2, e3]
        have eb : (((G y x).toNat : Int) == 108) = (G y x == 108) := by
          rw [show (108 : Int) = ((108 : Nat) : Int) from rfl, u8_eq (by decide)]
          rfl
        rw [eb]
        rfl
    · have ho : X < 0 ∨ Y < 0 ∨ (h : Int) - 1 ≤ Y ∨ (W : Int) - 1 ≤ X := by omega
      have HO := Lib.hid ho
      clear ho
      go_wp2_with (go_at_call 34; refine (turns_out _ top cap h W rb rc G _ hm h0 (by omega) (by omega) X Y hX hY HO.out).mono ?_; rintro e w2 ⟨rfl, rfl⟩)
      go_ret2
      obtain ⟨e1, e2, e3⟩ := HE.out
      refine ⟨hb0, .inr (.inl ⟨HT.out, fun x y hx hy => ?_, rfl⟩)⟩
      rw [e1, e2, e3]
      have ho := HO.out
      cases ht : turnAt h W G x y
      · rfl
      · have := turnAt_lt ht
        omega
end Go.Proofs.YtahihapgbcoanaaDoor
