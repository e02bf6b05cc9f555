/- The walk of the law DominoSays. -/
import Derived.Test.YtahihapgbcoanaaDoorFtW
import Derived.Test.YtahihapgbcoanaaDoorBackW
namespace Go.Proofs.YtahihapgbcoanaaDoor
open Go.RowKit Go.Maps

set_option maxRecDepth 100000 in
set_option maxHeartbeats 4000000 in
theorem check_any (s : List UInt8) (hs : s.length ≤ 9223372036854775807) (w : World) : Calls Tryd.prog 23 #[.string ⟨s.toArray⟩] w fun e w' => Below w.heap.size w w' ∧ ((¬ Good hash (pieces s) ∧ e = .returned (.int .i64 1)) ∨ (Good hash (pieces s) ∧ e = .returned (.int .i64 0))) := by
  have hn0 := eqnil_none
  have hn1 := eqnil_some
  go_enter Tryd.func23, Tryd.ntmps23
  go_wp2_with fail
  refine (rows_hash s hs _).mono ?_
  rintro e w1 ⟨hb, ⟨hng, rfl⟩ | ⟨hg, top, cap, rb, rc, rfl, hm⟩⟩
  · have HN := Lib.hid hng
    clear hng
    go_wp2
    go_ret
    exact ⟨hb, .inl ⟨HN.out, rfl⟩⟩
  · have HG := Lib.hid hg
    clear hg
    go_wp2
    go_ret
    exact ⟨hb, .inr ⟨HG.out, rfl⟩⟩
set_option maxRecDepth 100000 in
set_option maxHeartbeats 4000000 in
theorem check_tiling_any (s : List UInt8) (hs : s.length ≤ 9223372036854775807) (w : World) : Calls Tryd.prog 20 #[.string ⟨s.toArray⟩] w fun e w' => Below w.heap.size w w' ∧ ((¬ Tiling s ∧ e = .returned (.int .i64 1)) ∨ (Tiling s ∧ e = .returned (.int .i64 0))) := by
  have hn0 := eqnil_none
  have hn1 := eqnil_some
  go_enter Tryd.func20, Tryd.ntmps20
  go_wp2_with fail
  refine (tiles_any s hs _).mono ?_
  rintro e w1 ⟨hb, ⟨hng, rfl⟩ | ⟨hg, top, cap, rb, rc, rfl, hm⟩⟩
  · have HN := Lib.hid hng
    clear hng
    go_wp2
    go_ret
    exact ⟨hb, .inl ⟨HN.out, rfl⟩⟩
  · have HG := Lib.hid hg
    clear hg
    go_wp2
    go_ret
    exact ⟨hb, .inr ⟨HG.out, rfl⟩⟩

/-- What Count and First say of one text, to the letter. -/
def CfIs (s u : List UInt8) (n : Nat) (er eg : Int) : Prop :=
  (¬ Good hash (pieces s) ∧ er = 1 ∧ eg = 1 ∧ n = 0 ∧ u = []) ∨
  (Good hash (pieces s) ∧ n = waysC (wOf s) (gOf s) (hOf s * wOf s) 0 0 ∧ er = 0 ∧ ((n = 0 ∧ eg = 5 ∧ u = []) ∨
    (0 < n ∧ eg = 0 ∧ wayF (hOf s) (wOf s) (gOf s) (hOf s * wOf s) 0 0 = true ∧ u = textOf (hOf s) (wOf s) (fillF (hOf s) (wOf s) (gOf s) (hOf s * wOf s) 0 0 (gOf s)))))
theorem good_two {s : List UInt8} (hg : Good hash (pieces s)) : Two (hOf s) (wOf s) (gOf s) := fun i j hi hj => by
  have := good_letter hg i j hi hj
  simpa [hash] using this
/-- The reference's number and first tiling of a board, told by Count's and First's. -/
theorem tilings_text (s : List UInt8) (hg : Good hash (pieces s)) (w : World) : Calls Tryd.prog 24 #[.string ⟨s.toArray⟩, .map (some w.heap.size)] (w.alloc (.map #[] 0)) fun e w' => e = .returned (.int .i64 (waysC (wOf s) (gOf s) (hOf s * wOf s) 0 0 : Nat)) ∧ Below w.heap.size w w' := by
  obtain ⟨h8, w8, h0, w0⟩ := good_h hg
  have h := tilings_board (hOf s) (wOf s) h0 h8 w0 w8 (gOf s) (good_two hg) w.heap.size 0 (.map []) (w.alloc (.map #[] 0)) (memo_empty _ _) (World.ownsMap_made (H := Unit) w Tryd.prog 9 (plainElem Tryd.prog 2)) (by omega)
  rw [← good_text hg] at h
  refine h.mono ?_
  rintro e w2 ⟨rfl, D2, c2, _, _, hgr2, _⟩
  refine ⟨by rw [cntG_ways w0 (good_two hg)], ?_⟩
  have hb1 : Below w.heap.size w (w.alloc (.map #[] 0)) := (Below.refl _ w).alloc (Nat.le_refl _) _
  exact hb1.trans ⟨hgr2.os, hgr2.tape, hgr2.output, hgr2.size, fun i hi => hgr2.block i (by simp; omega) (fun e => by have := Option.some.inj e; omega)⟩
theorem first_text (s : List UInt8) (hg : Good hash (pieces s)) (hw : wayF (hOf s) (wOf s) (gOf s) (hOf s * wOf s) 0 0 = true) (w : World) : Calls Tryd.prog 25 #[.string ⟨s.toArray⟩] w fun e w' => e = .returned (.string ⟨(textOf (hOf s) (wOf s) (fillF (hOf s) (wOf s) (gOf s) (hOf s * wOf s) 0 0 (gOf s))).toArray⟩) ∧ Below w.heap.size w w' := by
  obtain ⟨h8, w8, h0, w0⟩ := good_h hg
  have h := ft_any (hOf s) (wOf s) h0 h8 w0 w8 (gOf s) (good_two hg) hw w
  rw [← good_text hg] at h
  exact h

set_option maxRecDepth 100000 in
set_option maxHeartbeats 16000000 in
theorem says_law (s t : List UInt8) (m : Int) (w : World) (hs : s.length ≤ 1048576) (ht : t.length ≤ 1048576) (hT : Lib.Utf8Tabs 1 2 w) (hm : w.cell? ⟨0, 0, none⟩ = some (.int .i64 m)) :
    Calls Tryd.prog 5 #[.string ⟨s.toArray⟩, .string ⟨t.toArray⟩] w fun e w' => e = .returned (.bool true) ∧ Below w.heap.size w w' := by
  have hn0 := eqnil44_none
  have hn1 := eqnil44_some
  have hmm := @run_makeMap Tryd.prog
  go_enter Tryd.func5, Tryd.ntmps5
  go_wp2_with fail
  refine (count_any s (by omega) _).mono ?_
  intro e w1 hc
  obtain ⟨hb1, n, er, rfl, hnn, hcase⟩ : Below w.heap.size w w1 ∧ ∃ (n : Nat) (er : Int), e = .returned (.tuple #[.int .i64 n, .int .i64 er]) ∧ n ≤ 4294967296 ∧ Hid ((¬ Good hash (pieces s) ∧ n = 0 ∧ er = 1) ∨ (Good hash (pieces s) ∧ n = waysC (wOf s) (gOf s) (hOf s * wOf s) 0 0 ∧ er = 0)) := by
    obtain ⟨hb2, ⟨hng, rfl⟩ | ⟨hg, rfl⟩⟩ := hc
    · exact ⟨hb2, 0, 1, rfl, by omega, Lib.hid (.inl ⟨hng, rfl, rfl⟩)⟩
    · exact ⟨hb2, _, 0, rfl, ways_max hg, Lib.hid (.inr ⟨hg, rfl, rfl⟩)⟩
  clear hc
  go_wp2_with fail
  refine (First_any s (by omega) _).mono ?_
  intro e w2 hf
  obtain ⟨hb2, u, eg, rfl, hsaid⟩ : Below w1.heap.size w1 w2 ∧ ∃ (u : List UInt8) (eg : Int), e = .returned (.tuple #[.string ⟨u.toArray⟩, .int .i64 eg]) ∧ Hid (CfIs s u n er eg) := by
    obtain ⟨hb3, ⟨hng, rfl⟩ | ⟨hg, hw, rfl⟩ | ⟨hg, hw, rfl⟩⟩ := hf
    · refine ⟨hb3, [], 1, rfl, Lib.hid ?_⟩
      rcases hcase.out with ⟨_, h1, h2⟩ | ⟨h, _, _⟩
      · exact .inl ⟨hng, h2, rfl, h1, rfl⟩
      · exact absurd h hng
    · refine ⟨hb3, [], 5, rfl, Lib.hid ?_⟩
      rcases hcase.out with ⟨h, _, _⟩ | ⟨_, h1, h2⟩
      · exact absurd hg h
      · refine .inr ⟨hg, h1, h2, .inl ⟨?_, rfl, rfl⟩⟩
        have h3 := way_pos hg
        rw [hw] at h3
        have h4 : ¬ 0 < n := fun e => by rw [h1] at e; exact absurd (h3.2 e) (by decide)
        omega
    · refine ⟨hb3, _, 0, rfl, Lib.hid ?_⟩
      rcases hcase.out with ⟨h, _, _⟩ | ⟨_, h1, h2⟩
      · exact absurd hg h
      · exact .inr ⟨hg, h1, h2, .inr ⟨by rw [h1]; exact (way_pos hg).1 hw, rfl, hw, rfl⟩⟩
  clear hf hcase
  have hb02 := hb1.trans (hb2.mono hb1.size)
  have hT2 := tabs_below hT hb02
  clear hb1 hb2
  go_wp2_with fail
  refine (board_any t (by omega) _ hT2).mono ?_
  intro e w3 hbd
  obtain ⟨hb3, bv, eh, rfl, hbt⟩ : Below w2.heap.size w2 w3 ∧ ∃ (bv : List UInt8) (eh : Int), e = .returned (.tuple #[.string ⟨bv.toArray⟩, .int .i64 eh]) ∧ Hid ((¬ Tiling t ∧ bv = [] ∧ eh = 1) ∨ (Tiling t ∧ bv = t.map covB ∧ eh = 0)) := by
    obtain ⟨hb4, ⟨hn, rfl⟩ | ⟨hn, rfl⟩⟩ := hbd
    · exact ⟨hb4, [], 1, rfl, Lib.hid (.inl ⟨hn, rfl, rfl⟩)⟩
    · exact ⟨hb4, _, 0, rfl, Lib.hid (.inr ⟨hn, rfl, rfl⟩)⟩
  clear hbd
  have hb03 := hb02.trans (hb3.mono hb02.size)
  have hm3 := cell_b hm (hb03.mono (Nat.le_refl _))
  clear hb02 hb3 hT2
  go_wp2_with fail
  refine (laid_any t m _ (by omega) hm3).mono ?_
  intro e w4 hld
  obtain ⟨hb4, lb, rfl, hlb⟩ : Below w3.heap.size w3 w4 ∧ ∃ lb : Bool, e = .returned (.bool lb) ∧ Hid ((¬ Tiling t ∧ lb = false) ∨ (Tiling t ∧ lb = true)) := by
    obtain ⟨hb4, ⟨hn, rfl⟩ | ⟨hn, rfl⟩⟩ := hld
    · exact ⟨hb4, false, rfl, Lib.hid (.inl ⟨hn, rfl⟩)⟩
    · exact ⟨hb4, true, rfl, Lib.hid (.inr ⟨hn, rfl⟩)⟩
  clear hld
  have hb04 := hb03.trans (hb4.mono hb03.size)
  clear hb03 hb4 hm3
  go_upto_if 28 with fail
  go_cut [] from 11 (fun wc => Below w.heap.size w wc)
  case first =>
    rcases hlb.out with ⟨hnT, rfl⟩ | ⟨hT4, rfl⟩
    · rcases hbt.out with ⟨_, rfl, rfl⟩ | ⟨h, _, _⟩
      rotate_left
      · exact absurd h hnT
      have HN := Lib.hid hnT
      clear hnT hbt hlb
      go_wp2_with fail
      refine (check_tiling_any t (by omega) _).mono ?_
      rintro e w5 ⟨hb5, ⟨_, rfl⟩ | ⟨h, rfl⟩⟩
      rotate_left
      · exact absurd h HN.out
      go_wp2_with fail
      go_meet
      case rel => exact hb04.trans (hb5.mono hb04.size)
    · rcases hbt.out with ⟨h, _, _⟩ | ⟨_, rfl, rfl⟩
      · exact absurd hT4 h
      have HTT := Lib.hid hT4
      clear hT4 hbt hlb
      go_wp2_with fail
      refine (check_tiling_any t (by omega) _).mono ?_
      rintro e w5 ⟨hb5, ⟨h, rfl⟩ | ⟨_, rfl⟩⟩
      · exact absurd HTT.out h
      have hb05 := hb04.trans (hb5.mono hb04.size)
      go_wp2_with fail
      refine (covered_any t ht _).mono ?_
      rintro e w6 ⟨rfl, hw6⟩
      rw [hw6]
      clear hw6
      go_wp2_with fail
      go_meet
      case rel => exact hb05
  case rest =>
    have hbc := hcut
    clear hcut hb04 hlb hbt
    have hmc := cell_b hm hbc
    go_wp2_with fail
    refine (cells_hash s m _ (by omega) hmc).mono ?_
    rintro e w4 ⟨hb4, ⟨hng, rfl⟩ | ⟨hg, rfl, hst⟩⟩
    · have hb04 := hbc.trans (hb4.mono hbc.size)
      rcases hsaid.out with ⟨_, rfl, rfl, rfl, rfl⟩ | ⟨h, _⟩
      rotate_left
      · exact absurd h hng
      have HN := Lib.hid hng
      clear hng hbc hb4 hmc hsaid
      go_wp2_with fail
      refine (check_any s (by omega) _).mono ?_
      rintro e w5 ⟨hb5, ⟨_, rfl⟩ | ⟨h, rfl⟩⟩
      rotate_left
      · exact absurd h HN.out
      go_wp2_with fail
      go_ret
      exact ⟨rfl, hb04.trans (hb5.mono hb04.size)⟩
    · have hb04 := hbc.trans (hb4.mono hbc.size)
      clear hst hbc hb4 hmc
      rcases hsaid.out with ⟨h, _⟩ | ⟨_, hn, rfl, hrest⟩
      · exact absurd hg h
      have HG := Lib.hid hg
      have HNN := Lib.hid hn
      have HREST := Lib.hid hrest
      clear hg hn hrest hsaid
      go_wp2_with fail
      refine (check_any s (by omega) _).mono ?_
      rintro e w5 ⟨hb5, ⟨h, rfl⟩ | ⟨_, rfl⟩⟩
      · exact absurd HG.out h
      have hb05 := hb04.trans (hb5.mono hb04.size)
      clear hb04 hb5
      go_wp2_with fail
      refine (tilings_text s HG.out _).mono ?_
      rintro e w6 ⟨rfl, hb6⟩
      rw [← HNN.out]
      have hb06 := hb05.trans (hb6.mono hb05.size)
      clear hb05 hb6
      rcases HREST.out with ⟨rfl, rfl, rfl⟩ | ⟨hpos, rfl, hw, rfl⟩
      · go_wp2_with fail
        go_ret
        exact ⟨rfl, hb06⟩
      · have hn00 : (((n : Nat) : Int) == 0) = false := beq_eq_false_iff_ne.2 (by omega)
        have HW := Lib.hid hw
        obtain ⟨f, hf⟩ : ∃ f, textOf (hOf s) (wOf s) (fillF (hOf s) (wOf s) (gOf s) (hOf s * wOf s) 0 0 (gOf s)) = f := ⟨_, rfl⟩
        have hft := fun w' => first_text s HG.out HW.out w'
        rw [hf] at hft ⊢
        have HFT := Lib.hid hft
        clear hw hf hft
        go_wp2_with fail
        refine (HFT.out _).mono ?_
        rintro e w7 ⟨rfl, hb7⟩
        go_wp2_with fail
        go_ret
        exact ⟨rfl, hb06.trans (hb7.mono hb06.size)⟩
end Go.Proofs.YtahihapgbcoanaaDoor
