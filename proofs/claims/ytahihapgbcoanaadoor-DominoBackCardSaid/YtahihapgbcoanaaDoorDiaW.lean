/- The walk of domino.diamond. -/
import Derived.Test.YtahihapgbcoanaaDoorCovFlat
namespace Go.Proofs.YtahihapgbcoanaaDoor
open Go.RowKit

/-- What diamond hands back. -/
def DiaG (s : List UInt8) (w : World) (e : Ending) (w' : World) : Prop :=
  Below w.heap.size w w' ∧ ((¬ Tiling s ∧ e = .returned (.tuple #[.slice none 0 0, .int .i64 0, .int .i64 1])) ∨
    (Tiling s ∧ (hOf s / 2 = 0 ∨ s.map covB ≠ azT (hOf s / 2)) ∧ e = .returned (.tuple #[.slice none 0 0, .int .i64 0, .int .i64 3])) ∨
    (Tiling s ∧ hOf s / 2 = 4 ∧ s.map covB = azT 4 ∧ e = .returned (.tuple #[.slice none 0 0, .int .i64 0, .int .i64 2])) ∨
    (Tiling s ∧ ∃ n, Dia s n ∧ ∃ top cap rb rc, e = .returned (.tuple #[.slice (some ⟨top, 0, none⟩) (hOf s) cap, .int .i64 n, .int .i64 0]) ∧ GMem w' w.heap.size top rb rc (hOf s) (wOf s) (gOf s)))

theorem az_any (n : Nat) (hn : n ≤ 4) (w : World) (c : List UInt8) (_hc : Hid (c ≠ [])) :
    Calls Tryd.prog 32 #[.int .i64 n] w fun e w' => ∃ A l cp, e = .returned (.slice A l cp) ∧ Below w.heap.size w w' ∧
      Calls Tryd.prog 31 #[.slice A l cp] w' fun e2 w2 => e2 = .returned (.string ⟨(if n = 0 then [] else azT n).toArray⟩) ∧ Below w.heap.size w w2 := by
  by_cases h0 : n = 0
  · subst h0
    refine (aztec_zero w).mono ?_
    rintro e w' ⟨A, cp, rfl, hb⟩
    refine ⟨A, 0, cp, rfl, hb, ?_⟩
    refine (text_nil A cp w').mono ?_
    rintro e w2 ⟨rfl, rfl⟩
    exact ⟨rfl, hb⟩
  · refine (aztec_g n (by omega) (by omega) w).mono ?_
    rintro e w' ⟨top, cap, rb, rc, rfl, hb, hm⟩
    refine ⟨_, _, _, rfl, hb, ?_⟩
    refine (text_any _ top cap (2 * n) (2 * n) rb rc _ w' hm (by omega) (by omega) (by omega)).mono ?_
    rintro e w2 ⟨rfl, hb2⟩
    exact ⟨by rw [if_neg h0]; rfl, hb.trans (hb2.mono hb.size)⟩

set_option maxRecDepth 100000 in
set_option maxHeartbeats 4000000 in
theorem diamond_any (s : List UInt8) (hs : s.length ≤ 9223372036854775807) (w : World) (hT : Lib.Utf8Tabs 1 2 w) : Calls Tryd.prog 43 #[.string ⟨s.toArray⟩] w (DiaG s w) := by
  have hn0 := eqnil_none
  have hn1 := eqnil_some
  go_enter Tryd.func43, Tryd.ntmps43
  go_wp2_with fail
  refine (tiles_any s hs _).mono ?_
  rintro e w1 ⟨hb, ⟨hng, rfl⟩ | ⟨hT1, top, cap, rb, rc, rfl, hm⟩⟩
  · have HN := Lib.hid hng
    clear hng
    go_wp2
    go_ret3
    exact ⟨hb, .inl ⟨HN.out, rfl⟩⟩
  · obtain ⟨h8, w8, h0, w0⟩ := good_h hT1.1
    have HT := Lib.hid hT1
    clear hT1
    have hT1 := tabs_below hT hb
    go_wp2_with fail
    refine (board_any s hs _ hT1).mono ?_
    rintro e w2 ⟨hb2, ⟨hT2, rfl⟩ | ⟨_, rfl⟩⟩
    · exact absurd HT.out hT2
    have hm2 := hm.below hb2
    have hb02 := hb.trans (hb2.mono hb.size)
    clear hm hb hb2 hT1
    obtain ⟨h, hh⟩ : ∃ h, hOf s = h := ⟨_, rfl⟩
    rw [hh] at hm2 h8 h0 ⊢
    have HH := Lib.hid hh
    clear hh
    obtain ⟨n, hn⟩ : ∃ n, h / 2 = n := ⟨_, rfl⟩
    have hq : (h : Int) / 2 = (n : Int) := by omega
    have hn4 : n ≤ 4 := by omega
    have HQ := Lib.hid hn
    clear hn
    obtain ⟨X, hX⟩ : ∃ X, (if n = 0 then [] else azT n) = X := ⟨_, rfl⟩
    have HX := Lib.hid hX
    clear hX
    by_cases hc : s.map covB = X
    · have hc0 : (s.map covB == X) = true := beq_iff_eq.2 hc
      have HC := Lib.hid hc
      clear hc
      have hn0 : n ≠ 0 := fun e => good_pos HT.out.1 (HC.out.trans (by rw [← HX.out, if_pos e]))
      have HZ := Lib.hid (show X = azT n by rw [← HX.out, if_neg hn0])
      by_cases h4 : n = 4
      · subst h4
        go_wp2_with fail
        refine (az_any 4 hn4 _ [1] (Lib.hid (by simp))).mono ?_
        rintro e w3 ⟨A, l, cp, rfl, hb3, hcall⟩
        rw [HX.out] at hcall
        go_wp2_with fail
        refine hcall.mono ?_
        rintro e w4 ⟨rfl, hb4⟩
        go_wp2
        go_ret3
        refine ⟨hb02.trans (hb4.mono hb02.size), .inr (.inr (.inl ⟨HT.out, by rw [HH.out]; exact HQ.out, by rw [HC.out, HZ.out], rfl⟩))⟩
      · have h4i : ((n : Int) == 4) = false := by simp; omega
        go_wp2_with fail
        refine (az_any n hn4 _ [1] (Lib.hid (by simp))).mono ?_
        rintro e w3 ⟨A, l, cp, rfl, hb3, hcall⟩
        rw [HX.out] at hcall
        go_wp2_with fail
        refine hcall.mono ?_
        rintro e w4 ⟨rfl, hb4⟩
        go_wp2
        go_ret3
        refine ⟨hb02.trans (hb4.mono hb02.size), .inr (.inr (.inr ⟨HT.out, n, ⟨HT.out, by rw [HH.out]; exact HQ.out.symm, by omega, by omega, by rw [HC.out, HZ.out]⟩, top, cap, rb, rc, by rw [HH.out]; rfl, ?_⟩))⟩
        rw [HH.out]
        exact (hm2.below hb4)
    · have hc0 : (s.map covB == X) = false := beq_eq_false_iff_ne.2 hc
      have HC := Lib.hid hc
      clear hc
      go_wp2_with fail
      refine (az_any n hn4 _ [1] (Lib.hid (by simp))).mono ?_
      rintro e w3 ⟨A, l, cp, rfl, hb3, hcall⟩
      rw [HX.out] at hcall
      go_wp2_with fail
      refine hcall.mono ?_
      rintro e w4 ⟨rfl, hb4⟩
      go_wp2
      go_ret3
      refine ⟨hb02.trans (hb4.mono hb02.size), .inr (.inl ⟨HT.out, ?_, rfl⟩)⟩
      rw [HH.out, HQ.out]
      by_cases h0 : n = 0
      · exact .inl h0
      · refine .inr ?_
        have := HC.out
        rw [← HX.out, if_neg h0] at this
        exact this
end Go.Proofs.YtahihapgbcoanaaDoor
