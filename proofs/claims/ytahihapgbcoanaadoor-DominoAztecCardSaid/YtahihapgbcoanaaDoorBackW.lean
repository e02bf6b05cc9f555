/- The walk of the law DominoBack. -/
import Derived.Test.YtahihapgbcoanaaDoorFirstF
import Derived.Test.YtahihapgbcoanaaDoorFlipP
import Derived.Test.YtahihapgbcoanaaDoorCountW
import Derived.Test.YtahihapgbcoanaaDoorTurnsLaw
import Derived.Deep.Cut
namespace Go.Proofs.YtahihapgbcoanaaDoor
open Go.RowKit

def pickI (k n : Int) : Int := (if k < 0 then -(k + 1) else k) % n
theorem pickI_bd {k n : Int} (hn : 0 < n) : 0 ≤ pickI k n ∧ pickI k n < n := ⟨Int.emod_nonneg _ (by omega), Int.emod_lt_of_pos _ hn⟩
theorem pick_any (k n : Int) (hk : -9223372036854775808 ≤ k ∧ k ≤ 9223372036854775807) (hn : 0 < n) (hn2 : n ≤ 9223372036854775807) (w : World) :
    Calls Tryd.prog 19 #[.int .i64 k, .int .i64 n] w fun e w' => e = .returned (.int .i64 (pickI k n)) ∧ w' = w := by
  have hn0 : (n == 0) = false := beq_eq_false_iff_ne.2 (by omega)
  by_cases h : k < 0
  · have e : pickI k n = (-(k + 1)) % n := by unfold pickI; rw [if_pos h]
    have HE := Lib.hid e
    have hd : decide (k < 0) = true := decide_eq_true h
    have h1 : 0 ≤ -(k + 1) := by omega
    have hb := pickI_bd (k := k) hn
    rw [e] at hb
    have ht : Int.tmod (-(k + 1)) n = (-(k + 1)) % n := Int.tmod_eq_emod_of_nonneg h1
    clear e
    go_enter Tryd.func19, Tryd.ntmps19
    go_wp2_with fail
    go_ret
    exact ⟨by rw [HE.out]; rfl, rfl⟩
  · have e : pickI k n = k % n := by unfold pickI; rw [if_neg h]
    have HE := Lib.hid e
    have hd : decide (k < 0) = false := decide_eq_false h
    have h1 : 0 ≤ k := by omega
    have hb := pickI_bd (k := k) hn
    rw [e] at hb
    have ht : Int.tmod k n = k % n := Int.tmod_eq_emod_of_nonneg h1
    clear e
    go_enter Tryd.func19, Tryd.ntmps19
    go_wp2_with fail
    go_ret
    exact ⟨by rw [HE.out]; rfl, rfl⟩

theorem first_two (w : World) : Calls Tryd.prog 16 #[.string ⟨#[35, 35]⟩] w fun e w' => Below w.heap.size w w' ∧ e = .returned (.tuple #[.string ⟨#[108, 114]⟩, .int .i64 0]) := by
  refine (First_any [35, 35] (by decide) w).mono ?_
  rintro e w1 ⟨hb, ⟨hng, rfl⟩ | ⟨hg, hw, rfl⟩ | ⟨hg, hw, rfl⟩⟩
  · refine absurd ?_ hng
    have e : pieces [35, 35] = [[35, 35]] := by decide
    rw [e]
    unfold Good
    decide
  · exact absurd hw (by decide +kernel)
  · exact ⟨hb, by rw [show textOf (hOf [35, 35]) (wOf [35, 35]) (fillF (hOf [35, 35]) (wOf [35, 35]) (gOf [35, 35]) (hOf [35, 35] * wOf [35, 35]) 0 0 (gOf [35, 35])) = [108, 114] by decide +kernel]⟩

theorem fill_text {s : List UInt8} (hg : Good hash (pieces s)) (hw : wayF (hOf s) (wOf s) (gOf s) (hOf s * wOf s) 0 0 = true) :
    Tiling (textOf (hOf s) (wOf s) (fillF (hOf s) (wOf s) (gOf s) (hOf s * wOf s) 0 0 (gOf s))) ∧ (textOf (hOf s) (wOf s) (fillF (hOf s) (wOf s) (gOf s) (hOf s * wOf s) 0 0 (gOf s))).map covB = s := by
  obtain ⟨h8, w8, h0, w0⟩ := good_h hg
  have hS : ∀ i j, i < hOf s → j < wOf s → gOf s i j = 35 ∨ gOf s i j = 46 := fun i j hi hj => by
    have := good_letter hg i j hi hj
    simpa [hash] using this
  have hf := (fill_all w0 hS).2 hw
  refine ⟨tiling_text _ _ _ h0 h8 w0 w8 (fun i j hi hj => (hf i j hi hj).2.1) (fun i j hi hj => (hf i j hi hj).1), ?_⟩
  rw [text_map _ _ _ covB covB_slash h0, textOf_congr (fun i j hi hj => (hf i j hi hj).2.2)]
  exact (good_text hg).symm
theorem way_pos {s : List UInt8} (hg : Good hash (pieces s)) : wayF (hOf s) (wOf s) (gOf s) (hOf s * wOf s) 0 0 = true ↔ 0 < waysC (wOf s) (gOf s) (hOf s * wOf s) 0 0 := by
  obtain ⟨h8, w8, h0, w0⟩ := good_h hg
  have hS : ∀ i j, i < hOf s → j < wOf s → gOf s i j = 35 ∨ gOf s i j = 46 := fun i j hi hj => by
    have := good_letter hg i j hi hj
    simpa [hash] using this
  exact (fill_all w0 hS).1
theorem ways_max {s : List UInt8} (hg : Good hash (pieces s)) : waysC (wOf s) (gOf s) (hOf s * wOf s) 0 0 ≤ 4294967296 := by
  obtain ⟨h8, w8, h0, w0⟩ := good_h hg
  exact total_le w0 _ _ (Nat.mul_le_mul h8 w8)

/-- What Count and First say of one text. -/
def CfSaid (s u : List UInt8) (n : Nat) (er eg : Int) : Prop :=
  (er = 1 ∧ eg = 1 ∧ n = 0 ∧ u = []) ∨ (er = 0 ∧ eg = 5 ∧ n = 0 ∧ u = []) ∨ (er = 0 ∧ eg = 0 ∧ 0 < n ∧ Tiling u ∧ u.map covB = s)

set_option maxRecDepth 100000 in
set_option maxHeartbeats 16000000 in
theorem back_law (s t : List UInt8) (k : Int) (hk : -9223372036854775808 ≤ k ∧ k ≤ 9223372036854775807) (w : World) (hs : s.length ≤ 9223372036854775807) (ht : t.length ≤ 9223372036854775807) (hT : Lib.Utf8Tabs 1 2 w) :
    Calls Tryd.prog 4 #[.string ⟨s.toArray⟩, .string ⟨t.toArray⟩, .int .i64 k] w fun e w' => e = .returned (.bool true) ∧ Below w.heap.size w w' := by
  go_enter Tryd.func4, Tryd.ntmps4
  go_wp2_with fail
  refine (first_two _).mono ?_
  rintro e w1 ⟨hb1, rfl⟩
  go_wp2_with fail
  refine (count_any s hs _).mono ?_
  intro e w2 hc
  obtain ⟨hb2, n, er, rfl, hnn, hcase⟩ : Below w1.heap.size w1 w2 ∧ ∃ (n : Nat) (er : Int), e = .returned (.tuple #[.int .i64 n, .int .i64 er]) ∧ n ≤ 4294967296 ∧ Hid ((¬ Good hash (pieces s) ∧ n = 0 ∧ er = 1) ∨ (Good hash (pieces s) ∧ n = waysC (wOf s) (gOf s) (hOf s * wOf s) 0 0 ∧ er = 0)) := by
    obtain ⟨hb2, ⟨hng, rfl⟩ | ⟨hg, rfl⟩⟩ := hc
    · exact ⟨hb2, 0, 1, rfl, by omega, Lib.hid (.inl ⟨hng, rfl, rfl⟩)⟩
    · exact ⟨hb2, _, 0, rfl, ways_max hg, Lib.hid (.inr ⟨hg, rfl, rfl⟩)⟩
  clear hc
  go_wp2_with fail
  refine (First_any s hs _).mono ?_
  intro e w3 hf
  obtain ⟨hb3, u, eg, rfl, hul, hsaid⟩ : Below w2.heap.size w2 w3 ∧ ∃ (u : List UInt8) (eg : Int), e = .returned (.tuple #[.string ⟨u.toArray⟩, .int .i64 eg]) ∧ u.length ≤ 9223372036854775807 ∧ Hid (CfSaid s u n er eg) := by
    obtain ⟨hb3, ⟨hng, rfl⟩ | ⟨hg, hw, rfl⟩ | ⟨hg, hw, rfl⟩⟩ := hf
    · refine ⟨hb3, [], 1, rfl, by decide, Lib.hid ?_⟩
      rcases hcase.out with ⟨_, h1, h2⟩ | ⟨h, _, _⟩
      · exact .inl ⟨h2, rfl, h1, rfl⟩
      · exact absurd h hng
    · refine ⟨hb3, [], 5, rfl, by decide, Lib.hid ?_⟩
      rcases hcase.out with ⟨h, _, _⟩ | ⟨_, h1, h2⟩
      · exact absurd hg h
      · refine .inr (.inl ⟨h2, rfl, ?_, rfl⟩)
        have h3 := way_pos hg
        rw [hw] at h3
        have h4 : ¬ 0 < n := fun e => by rw [h1] at e; exact absurd (h3.2 e) (by decide)
        omega
    · have hft := fill_text hg hw
      refine ⟨hb3, _, 0, rfl, by have := good_len hft.1.1; omega, Lib.hid ?_⟩
      rcases hcase.out with ⟨h, _, _⟩ | ⟨_, h1, h2⟩
      · exact absurd hg h
      · exact .inr (.inr ⟨h2, rfl, by rw [h1]; exact (way_pos hg).1 hw, hft.1, hft.2⟩)
  clear hf hcase
  have hb03 := hb1.trans ((hb2.mono hb1.size).trans (hb3.mono (Nat.le_trans hb1.size hb2.size)))
  have hT3 := tabs_below hT hb03
  clear hb1 hb2 hb3
  go_upto_if 45 with fail
  go_cut [] from 24 (fun wc => Below w.heap.size w wc)
  case first =>
    rcases hsaid.out with ⟨rfl, rfl, rfl, rfl⟩ | ⟨rfl, rfl, rfl, rfl⟩ | ⟨rfl, rfl, hpos, hTu, hcov⟩
    · clear hsaid
      go_wp2_with fail
      go_meet
      case rel => exact hb03
    · clear hsaid
      go_wp2_with fail
      refine (board_any [] (by decide) _ hT3).mono ?_
      rintro e w4 ⟨hb4, hbd⟩
      obtain ⟨bv, bx, rfl⟩ : ∃ bv bx, e = .returned (.tuple #[.string bv, .int .i64 bx]) := by
        rcases hbd with ⟨_, rfl⟩ | ⟨_, rfl⟩ <;> exact ⟨_, _, rfl⟩
      clear hbd
      go_wp2_with fail
      go_meet
      case rel => exact hb03.trans (hb4.mono hb03.size)
    · clear hsaid
      have hp : decide ((0 : Int) < (n : Int)) = true := decide_eq_true (by omega)
      go_wp2_with fail
      refine (board_any u hul _ hT3).mono ?_
      rintro e w4 ⟨hb4, ⟨hnT, rfl⟩ | ⟨_, rfl⟩⟩
      · exact absurd hTu hnT
      rw [hcov]
      clear hcov
      go_wp2_with fail
      go_meet
      case rel => exact hb03.trans (hb4.mono hb03.size)
  case rest =>
    clear hb03 hT3 hsaid
    have hbc := hcut
    clear hcut
    go_wp2_with fail
    refine (flips_any t ht _).mono ?_
    rintro e w5 ⟨hb5, ⟨hnT, rfl⟩ | ⟨hTt, vf, rfl, hfl⟩⟩
    · clear hnT
      go_wp2_with fail
      go_ret
      exact ⟨rfl, hbc.trans (hb5.mono hbc.size)⟩
    have hb05 := hbc.trans (hb5.mono hbc.size)
    clear hbc hb5
    obtain ⟨A, cp, hpf⟩ := ptsAt_own hfl
    obtain rfl := hpf.val
    clear hfl
    have hlen : (ptsTo (hOf t) (wOf t) (gOf t) (hOf t)).length ≤ 64 := by
      have h1 := ptsTo_len (hOf t) (wOf t) (gOf t) (hOf t)
      obtain ⟨h8, w8, _, _⟩ := good_h hTt.1
      exact Nat.le_trans h1 (Nat.mul_le_mul h8 w8)
    have HT := Lib.hid hTt
    clear hTt
    obtain ⟨L, hL⟩ : ∃ L, ptsTo (hOf t) (wOf t) (gOf t) (hOf t) = L := ⟨_, rfl⟩
    rw [hL] at hpf hlen ⊢
    have HL := Lib.hid hL
    clear hL
    by_cases h0 : L.length = 0
    · have hz : (((L.length : Nat) : Int) == 0) = true := by rw [h0]; rfl
      go_wp2_with fail
      go_ret
      exact ⟨rfl, hb05⟩
    · have hz : (((L.length : Nat) : Int) == 0) = false := beq_eq_false_iff_ne.2 (by omega)
      have hbd := pickI_bd (k := k) (n := (L.length : Int)) (by omega)
      obtain ⟨q, hq⟩ : ∃ q : Nat, pickI k (L.length : Int) = (q : Int) := ⟨(pickI k (L.length : Int)).toNat, by omega⟩
      have hqL : q < L.length := by omega
      have hqi : (q : Int) < (L.length : Int) := by omega
      obtain ⟨p, hp⟩ : ∃ p, L[q]? = some p := ⟨_, List.getElem?_eq_getElem hqL⟩
      have htp : turnAt (hOf t) (wOf t) (gOf t) p.1 p.2 = true := by
        refine (mem_ptsTo _ _ _ _ _).1 ?_
        rw [HL.out]
        exact List.mem_of_getElem? hp
      obtain ⟨g, rfl, hg, a1, a2⟩ := hpf.at_ q p hp
      have HP := Lib.hid htp
      clear htp hpf hp
      go_wp2_with fail
      refine (pick_any k (L.length : Int) hk (by omega) (by omega) _).mono ?_
      rintro e w6 ⟨rfl, rfl⟩
      rw [hq]
      have hF := flip_text HT.out HP.out
      clear hbd hq
      go_wp2_with fail
      obtain ⟨px, py⟩ := p
      have hlt := turnAt_lt HP.out
      have h88 := good_h HT.out.1
      have hT6 := tabs_below hT hb05
      refine (flip_any t ht (px : Int) (py : Int) (by omega) (by omega) _).mono ?_
      rintro e w7 ⟨hb7, ⟨hn, rfl⟩ | ⟨_, hno, rfl⟩ | ⟨_, x, y, hx, hy, _, _, _, rfl⟩⟩
      · exact absurd HT.out hn
      · have h1 := hno px py rfl rfl
        rw [HP.out] at h1
        cases h1
      obtain rfl : px = x := by omega
      obtain rfl : py = y := by omega
      clear hx hy
      have hfl : textOf (hOf t) (wOf t) (layG (gOf t) px py (gOf t py px == 108)) = flipT t px py := rfl
      rw [hfl]
      clear hfl
      have hc := cell_two_d w6 0 (.int .i64 px) (.int .i64 py) 23
      have c0 : (w6.alloc (.cells #[.int .i64 px, .int .i64 py] 23)).cell? ⟨w6.heap.size, 0, none⟩ = some (.int .i64 px) := by
        have := hc 0 _ rfl
        rw [addr_add0] at this
        exact this
      have c1 : (w6.alloc (.cells #[.int .i64 px, .int .i64 py] 23)).cell? ⟨w6.heap.size, 1, none⟩ = some (.int .i64 py) := by
        have := hc 1 _ rfl
        rw [addr_add0] at this
        exact this
      have c0 := cell_b c0 hb7
      have c1 := cell_b c1 hb7
      have hb07 : Below w.heap.size w w7 := (hb05.alloc hb05.size _).trans (hb7.mono (by have := hb05.size; simp; omega))
      have hT7 := tabs_below hT hb07
      clear hc hb7 a1 a2 hg hb05 hT6
      generalize hFF : flipT t px py = F at hF ⊢
      obtain ⟨f1, f2, f3, f4, f5, f6, f7⟩ := hF
      have hFl : F.length ≤ 9223372036854775807 := by have := good_len f1.1; omega
      have HF1 := Lib.hid f1
      have HF2 := Lib.hid f2
      have HF5 := Lib.hid f5
      have HF6 := Lib.hid f6
      have hne1 : (F == t) = false := beq_eq_false_iff_ne.2 f7
      have hne2 : (t == F) = false := beq_eq_false_iff_ne.2 (fun e => f7 e.symm)
      clear f1 f2 f3 f4 f5 f6 hFF
      go_wp2_with fail
      refine (flip_any F hFl (px : Int) (py : Int) (by omega) (by omega) _).mono ?_
      rintro e w8 ⟨hb8, ⟨hn, rfl⟩ | ⟨_, hno, rfl⟩ | ⟨_, x, y, hx, hy, _, _, _, rfl⟩⟩
      · exact absurd HF1.out hn
      · have h1 := hno px py rfl rfl
        rw [HF5.out] at h1
        cases h1
      obtain rfl : px = x := by omega
      obtain rfl : py = y := by omega
      clear hx hy
      have hfl : textOf (hOf F) (wOf F) (layG (gOf F) px py (gOf F py px == 108)) = t := HF6.out
      rw [hfl]
      clear hfl c0 c1
      have hb08 := hb07.trans (hb8.mono hb07.size)
      have hT8 := tabs_below hT hb08
      clear hb07 hb8 hT7
      go_wp2_with fail
      refine (board_any t ht _ hT8).mono ?_
      rintro e w9 ⟨hb9, ⟨hn, rfl⟩ | ⟨_, rfl⟩⟩
      · exact absurd HT.out hn
      have hb09 := hb08.trans (hb9.mono hb08.size)
      have hT9 := tabs_below hT hb09
      clear hb08 hb9 hT8
      go_wp2_with fail
      refine (board_any F hFl _ hT9).mono ?_
      rintro e w10 ⟨hb10, ⟨hn, rfl⟩ | ⟨_, rfl⟩⟩
      · exact absurd HF1.out hn
      rw [HF2.out]
      have hb010 := hb09.trans (hb10.mono hb09.size)
      clear hb09 hb10 hT9
      go_wp2_with fail
      go_ret
      exact ⟨rfl, hb010⟩
end Go.Proofs.YtahihapgbcoanaaDoor
