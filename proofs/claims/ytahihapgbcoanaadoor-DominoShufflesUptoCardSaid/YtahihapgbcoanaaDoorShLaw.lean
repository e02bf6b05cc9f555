/- ferlaw.DominoShuffles: the law's walk. -/
import Derived.Test.YtahihapgbcoanaaDoorText2
import Derived.Test.YtahihapgbcoanaaDoorTurnsLaw
import Derived.Test.YtahihapgbcoanaaDoorWentW
import Derived.StillTailTactics
import Derived.BigQuiet
namespace Go.Proofs.YtahihapgbcoanaaDoor
open Go.RowKit

/-- What the reference's loop keeps. -/
structure ShR (n : Nat) (O0 O : Nat → Nat → UInt8) (ps psr : List (Nat × Nat)) (up : List Bool) (k : Nat) : Prop where
  i : ShI (2 * n) O0 O ps psr up k
  four : Peel4 O psr
  op : OpenG n O
theorem ShR.step {n : Nat} {O0 O : Nat → Nat → UInt8} {ps r : List (Nat × Nat)} {p : Nat × Nat} {up : List Bool} {k : Nat} {b : Bool} (h : ShR n O0 O ps (p :: r) up k) (hb : up[k]? = some b) : ShR n O0 (layG O p.1 p.2 b) ps r up (k + 1) :=
  ⟨h.i.step hb, h.four.tail b, h.op.lay h.i.peel.1 h.i.peel.2.1 h.four.1 b⟩
theorem not_dia {s : List UInt8} (hT : Tiling s) (hn : ¬ ∃ n, Dia s n) : (hOf s / 2 = 0) ∨ (hOf s / 2 ≠ 0 ∧ s.map covB ≠ azT (hOf s / 2)) ∨ (hOf s / 2 = 4 ∧ s.map covB = azT 4) := by
  obtain ⟨h8, _, _, _⟩ := good_h hT.1
  by_cases h0 : hOf s / 2 = 0
  · exact .inl h0
  · right
    by_cases hc : s.map covB = azT (hOf s / 2)
    · right
      by_cases h4 : hOf s / 2 = 4
      · rw [h4] at hc; exact ⟨h4, hc⟩
      · exact absurd ⟨hOf s / 2, hT, rfl, by omega, by omega, hc⟩ hn
    · exact .inl ⟨h0, hc⟩
theorem err_of {s : List UInt8} {er : Int} (h : ErrIs s er) : (¬ Tiling s → er = 1) ∧ (Tiling s → (hOf s / 2 = 0 ∨ s.map covB ≠ azT (hOf s / 2)) → er = 3) ∧ (Tiling s → hOf s / 2 = 4 → s.map covB = azT 4 → er = 2) := by
  refine ⟨fun hn => ?_, fun hT hc => ?_, fun hT h4 hc => ?_⟩
  · rcases h with ⟨e, _⟩ | ⟨_, hT, _⟩ | ⟨_, hT, _⟩
    · exact e
    · exact absurd hT hn
    · exact absurd hT hn
  · rcases h with ⟨_, hn⟩ | ⟨e, _⟩ | ⟨_, _, h4, h5⟩
    · exact absurd hT hn
    · exact e
    · rcases hc with hc | hc
      · omega
      · rw [h4] at hc; exact absurd h5 hc
  · rcases h with ⟨_, hn⟩ | ⟨_, _, hc2⟩ | ⟨e, _⟩
    · exact absurd hT hn
    · rcases hc2 with hc2 | hc2
      · omega
      · rw [h4] at hc2; exact absurd hc hc2
    · exact e

set_option maxRecDepth 100000 in
set_option maxHeartbeats 4000000 in
theorem sh_bad (s : List UInt8) (up : List Bool) (A : Option Addr) (acap : Nat) (m : Int) (w : World) (hs : s.length ≤ 1048576) (hu : up.length ≤ 1048576) (hT : Lib.Utf8Tabs 1 2 w) (hA : BoolsAt w A up) (hm : w.cell? ⟨0, 0, none⟩ = some (.int .i64 m))
    (hno : ¬ Tiling s) : Calls Tryd.prog 6 #[.string ⟨s.toArray⟩, .slice A up.length acap] w fun e w' => e = .returned (.bool true) ∧ Below w.heap.size w w' := by
  have HNO := Lib.hid hno
  clear hno
  go_enter Tryd.func6, Tryd.ntmps6
  go_wp2_with fail
  refine (needs_any s (by omega) _ hT).mono ?_
  rintro e w1 ⟨hb1, ⟨er, her, rfl⟩ | ⟨n, hD, rfl⟩⟩
  rotate_left
  · exact absurd hD.1 HNO.out
  obtain rfl := (err_of her).1 HNO.out
  clear her
  have hT1 := tabs_below hT hb1
  have hA1 := hA.below hb1
  go_wp2_with fail
  refine (shuffle_any s up A acap [] (by omega) (by omega) _ hT1 hA1 (fun n hD => absurd hD.1 HNO.out) (by simp)).mono ?_
  rintro e w2 ⟨hb2, ⟨er, her, rfl⟩ | ⟨n, hD, _⟩⟩
  rotate_left
  · exact absurd hD.1 HNO.out
  obtain rfl := (err_of her).1 HNO.out
  clear her hT1 hA1 hT hA
  have hm2 := cell_b (cell_b hm hb1) hb2
  go_wp2_with fail
  refine (laid_any s m _ (by omega) hm2).mono ?_
  rintro e w3 ⟨hb3, ⟨_, rfl⟩ | ⟨hTl, rfl⟩⟩
  rotate_left
  · exact absurd hTl HNO.out
  have hb := (hb1.trans (hb2.mono hb1.size)).trans (hb3.mono (Nat.le_trans hb1.size hb2.size))
  clear hm hm2
  go_wp2
  go_ret
  exact ⟨rfl, hb⟩

set_option maxRecDepth 100000 in
set_option maxHeartbeats 8000000 in
theorem sh_zero (s : List UInt8) (up : List Bool) (A : Option Addr) (acap : Nat) (m : Int) (w : World) (hs : s.length ≤ 1048576) (hu : up.length ≤ 1048576) (hT : Lib.Utf8Tabs 1 2 w) (hA : BoolsAt w A up) (hm : w.cell? ⟨0, 0, none⟩ = some (.int .i64 m))
    (hTl : Tiling s) (h0 : hOf s / 2 = 0) (hnd : ¬ ∃ n, Dia s n) : Calls Tryd.prog 6 #[.string ⟨s.toArray⟩, .slice A up.length acap] w fun e w' => e = .returned (.bool true) ∧ Below w.heap.size w w' := by
  have H0 := Lib.hid h0
  have HTL := Lib.hid hTl
  have HND := Lib.hid hnd
  have h8 := (good_h hTl.1).1
  obtain ⟨h, hh⟩ : ∃ h, hOf s = h := ⟨_, rfl⟩
  have hlen : (pieces s).length = h := hh
  have HH := Lib.hid hh
  clear hTl hnd hh
  go_enter Tryd.func6, Tryd.ntmps6
  go_wp2_with fail
  refine (needs_any s (by omega) _ hT).mono ?_
  rintro e w1 ⟨hb1, ⟨er, her, rfl⟩ | ⟨n, hD, rfl⟩⟩
  rotate_left
  · exact absurd ⟨n, hD⟩ HND.out
  obtain rfl : er = 3 := (err_of her).2.1 HTL.out (.inl H0.out)
  clear her
  have hT1 := tabs_below hT hb1
  have hA1 := hA.below hb1
  go_wp2_with fail
  refine (shuffle_any s up A acap [] (by omega) (by omega) _ hT1 hA1 (fun n hD => absurd ⟨n, hD⟩ HND.out) (by simp)).mono ?_
  rintro e w2 ⟨hb2, ⟨er, her, rfl⟩ | ⟨n, hD, _⟩⟩
  rotate_left
  · exact absurd ⟨n, hD⟩ HND.out
  obtain rfl : er = 3 := (err_of her).2.1 HTL.out (.inl H0.out)
  clear her hT1 hA1 hT hA
  have hm2 := cell_b (cell_b hm hb1) hb2
  go_wp2_with fail
  refine (laid_any s m _ (by omega) hm2).mono ?_
  rintro e w3 ⟨hb3, ⟨hno, rfl⟩ | ⟨_, rfl⟩⟩
  · exact absurd HTL.out hno
  have hm3 := cell_b hm2 hb3
  go_wp2_with fail
  refine (cells_lrud s m _ (by omega) hm3).mono ?_
  rintro e w4 ⟨hb4, ⟨hno, rfl⟩ | ⟨_, rfl, _⟩⟩
  · exact absurd HTL.out.1 hno
  have hb := ((hb1.trans (hb2.mono hb1.size)).trans (hb3.mono (Nat.le_trans hb1.size hb2.size))).trans (hb4.mono (Nat.le_trans hb1.size (Nat.le_trans hb2.size hb3.size)))
  clear hm hm2 hm3 hb1 hb2 hb3 hb4
  rw [hlen]
  clear hlen
  have hq : (h : Int) / 2 = 0 := by have := H0.out; have := HH.out; omega
  clear h0
  go_wp2
  go_ret
  exact ⟨rfl, hb⟩

set_option maxRecDepth 100000 in
set_option maxHeartbeats 8000000 in
theorem sh_cov (s : List UInt8) (up : List Bool) (A : Option Addr) (acap : Nat) (m : Int) (w : World) (hs : s.length ≤ 1048576) (hu : up.length ≤ 1048576) (hT : Lib.Utf8Tabs 1 2 w) (hA : BoolsAt w A up) (hm : w.cell? ⟨0, 0, none⟩ = some (.int .i64 m))
    (hTl : Tiling s) (h0 : hOf s / 2 ≠ 0) (hc : s.map covB ≠ azT (hOf s / 2)) (hnd : ¬ ∃ n, Dia s n) : Calls Tryd.prog 6 #[.string ⟨s.toArray⟩, .slice A up.length acap] w fun e w' => e = .returned (.bool true) ∧ Below w.heap.size w w' := by
  have HC := Lib.hid hc
  have HTL := Lib.hid hTl
  have HND := Lib.hid hnd
  have h8 := (good_h hTl.1).1
  obtain ⟨h, hh⟩ : ∃ h, hOf s = h := ⟨_, rfl⟩
  have hlen : (pieces s).length = h := hh
  have HH := Lib.hid hh
  clear hTl hnd hh
  go_enter Tryd.func6, Tryd.ntmps6
  go_wp2_with fail
  refine (needs_any s (by omega) _ hT).mono ?_
  rintro e w1 ⟨hb1, ⟨er, her, rfl⟩ | ⟨n, hD, rfl⟩⟩
  rotate_left
  · exact absurd ⟨n, hD⟩ HND.out
  obtain rfl : er = 3 := (err_of her).2.1 HTL.out (.inr HC.out)
  clear her
  have hT1 := tabs_below hT hb1
  have hA1 := hA.below hb1
  go_wp2_with fail
  refine (shuffle_any s up A acap [] (by omega) (by omega) _ hT1 hA1 (fun n hD => absurd ⟨n, hD⟩ HND.out) (by simp)).mono ?_
  rintro e w2 ⟨hb2, ⟨er, her, rfl⟩ | ⟨n, hD, _⟩⟩
  rotate_left
  · exact absurd ⟨n, hD⟩ HND.out
  obtain rfl : er = 3 := (err_of her).2.1 HTL.out (.inr HC.out)
  clear her hT1 hA1 hT hA
  have hm2 := cell_b (cell_b hm hb1) hb2
  go_wp2_with fail
  refine (laid_any s m _ (by omega) hm2).mono ?_
  rintro e w3 ⟨hb3, ⟨hno, rfl⟩ | ⟨_, rfl⟩⟩
  · exact absurd HTL.out hno
  have hm3 := cell_b hm2 hb3
  go_wp2_with fail
  refine (cells_lrud s m _ (by omega) hm3).mono ?_
  rintro e w4 ⟨hb4, ⟨hno, rfl⟩ | ⟨_, rfl, _⟩⟩
  · exact absurd HTL.out.1 hno
  have hb := ((hb1.trans (hb2.mono hb1.size)).trans (hb3.mono (Nat.le_trans hb1.size hb2.size))).trans (hb4.mono (Nat.le_trans hb1.size (Nat.le_trans hb2.size hb3.size)))
  clear hm hm2 hm3 hb1 hb2 hb3 hb4
  rw [hlen]
  clear hlen
  obtain ⟨q, hqq⟩ : ∃ q, h / 2 = q := ⟨_, rfl⟩
  have hq : (h : Int) / 2 = (q : Int) := by omega
  have hq1 : 1 ≤ q := by have := HH.out; omega
  have hq4 : q ≤ 4 := by have := HH.out; omega
  have hq0 : ((q : Int) == 0) = false := beq_eq_false_iff_ne.2 (by omega)
  have hne : (s.map covB == azT q) = false := beq_eq_false_iff_ne.2 (by rw [← hqq, ← HH.out]; exact HC.out)
  clear h0 hc hqq
  go_wp2_with fail
  refine (covered_any s hs _).mono ?_
  rintro e w5 ⟨rfl, rfl⟩
  go_wp2_with fail
  refine (diamond_az q hq1 hq4 _).mono ?_
  rintro e w6 ⟨rfl, rfl⟩
  go_wp2
  go_ret
  exact ⟨rfl, hb⟩

set_option maxRecDepth 100000 in
set_option maxHeartbeats 8000000 in
theorem sh_large (s : List UInt8) (up : List Bool) (A : Option Addr) (acap : Nat) (m : Int) (w : World) (hs : s.length ≤ 1048576) (hu : up.length ≤ 1048576) (hT : Lib.Utf8Tabs 1 2 w) (hA : BoolsAt w A up) (hm : w.cell? ⟨0, 0, none⟩ = some (.int .i64 m))
    (hTl : Tiling s) (h4 : hOf s / 2 = 4) (hc : s.map covB = azT 4) (hnd : ¬ ∃ n, Dia s n) : Calls Tryd.prog 6 #[.string ⟨s.toArray⟩, .slice A up.length acap] w fun e w' => e = .returned (.bool true) ∧ Below w.heap.size w w' := by
  have HC := Lib.hid hc
  have H4 := Lib.hid h4
  have HTL := Lib.hid hTl
  have HND := Lib.hid hnd
  have h8 := (good_h hTl.1).1
  obtain ⟨h, hh⟩ : ∃ h, hOf s = h := ⟨_, rfl⟩
  have hlen : (pieces s).length = h := hh
  have HH := Lib.hid hh
  clear hTl hnd hh
  go_enter Tryd.func6, Tryd.ntmps6
  go_wp2_with fail
  refine (needs_any s (by omega) _ hT).mono ?_
  rintro e w1 ⟨hb1, ⟨er, her, rfl⟩ | ⟨n, hD, rfl⟩⟩
  rotate_left
  · exact absurd ⟨n, hD⟩ HND.out
  obtain rfl : er = 2 := (err_of her).2.2 HTL.out H4.out HC.out
  clear her
  have hT1 := tabs_below hT hb1
  have hA1 := hA.below hb1
  go_wp2_with fail
  refine (shuffle_any s up A acap [] (by omega) (by omega) _ hT1 hA1 (fun n hD => absurd ⟨n, hD⟩ HND.out) (by simp)).mono ?_
  rintro e w2 ⟨hb2, ⟨er, her, rfl⟩ | ⟨n, hD, _⟩⟩
  rotate_left
  · exact absurd ⟨n, hD⟩ HND.out
  obtain rfl : er = 2 := (err_of her).2.2 HTL.out H4.out HC.out
  clear her hT1 hA1 hT hA
  have hm2 := cell_b (cell_b hm hb1) hb2
  go_wp2_with fail
  refine (laid_any s m _ (by omega) hm2).mono ?_
  rintro e w3 ⟨hb3, ⟨hno, rfl⟩ | ⟨_, rfl⟩⟩
  · exact absurd HTL.out hno
  have hm3 := cell_b hm2 hb3
  go_wp2_with fail
  refine (cells_lrud s m _ (by omega) hm3).mono ?_
  rintro e w4 ⟨hb4, ⟨hno, rfl⟩ | ⟨_, rfl, _⟩⟩
  · exact absurd HTL.out.1 hno
  have hb := ((hb1.trans (hb2.mono hb1.size)).trans (hb3.mono (Nat.le_trans hb1.size hb2.size))).trans (hb4.mono (Nat.le_trans hb1.size (Nat.le_trans hb2.size hb3.size)))
  clear hm hm2 hm3 hb1 hb2 hb3 hb4
  rw [hlen]
  clear hlen
  have hq : (h : Int) / 2 = 4 := by have := H4.out; have := HH.out; omega
  have hne : (s.map covB == azT 4) = true := beq_iff_eq.2 HC.out
  clear h4 hc
  go_wp2_with fail
  refine (covered_any s hs _).mono ?_
  rintro e w5 ⟨rfl, rfl⟩
  go_wp2_with fail
  refine (diamond_az 4 (by omega) (by omega) _).mono ?_
  rintro e w6 ⟨rfl, rfl⟩
  go_wp2
  go_ret
  exact ⟨rfl, hb⟩

set_option maxRecDepth 100000 in
set_option maxHeartbeats 8000000 in
theorem sh_dia (s : List UInt8) (up : List Bool) (A : Option Addr) (acap : Nat) (m : Int) (w : World) (hs : s.length ≤ 1048576) (hu : up.length ≤ 1048576) (hT : Lib.Utf8Tabs 1 2 w) (hA : BoolsAt w A up) (hm : w.cell? ⟨0, 0, none⟩ = some (.int .i64 m))
    (hTl : Tiling s) (n : Nat) (hD : Dia s n) : Calls Tryd.prog 6 #[.string ⟨s.toArray⟩, .slice A up.length acap] w fun e w' => e = .returned (.bool true) ∧ Below w.heap.size w w' := by
  obtain ⟨T, hh, hw⟩ := dia_tile hTl hD.2.2.1 (by have := hD.2.2.2.1; omega) hD.2.2.2.2
  obtain ⟨ps, p1, p2, p3, p4, p5, p6⟩ := sh_all hD.2.2.1 hD.2.2.2.1 T
  have hn1 := hD.2.2.1
  have hn3 := hD.2.2.2.1
  have hmul4 : cntTo (2 * (n + 1)) (shG n (gOf s)) (2 * (n + 1)) / 4 = ps.length := by omega
  have huniq : ∀ n', Dia s n' → n' = n := fun n' h' => by have a := h'.2.1; have b := hD.2.1; omega
  have HW9 := Lib.hid (went_same n (2 * n) (gOf s) (azG (n + 1)) (2 * n) (Nat.le_refl _))
  have hgood := hTl.1.1
  have hGd := hTl.1
  have HTL := Lib.hid hTl
  have HD := Lib.hid hD
  have hlen : (pieces s).length = 2 * n := hh
  have HHH := Lib.hid hh
  have HWW := Lib.hid hw
  have HU := Lib.hid huniq
  have HCV := Lib.hid hD.2.2.2.2
  have HC4 := Lib.hid p5
  clear hTl hD hh hw huniq T p5
  obtain ⟨P, hP⟩ : ∃ P, ps.length = P := ⟨_, rfl⟩
  rw [hP] at hmul4 p3 p4
  have HP := Lib.hid hP
  clear hP
  go_enter Tryd.func6, Tryd.ntmps6
  go_wp2_with fail
  refine (needs_any s (by omega) _ hT).mono ?_
  rintro e w1 ⟨hb1, ⟨er, her, rfl⟩ | ⟨n', hD', rfl⟩⟩
  · exfalso
    have hD := HD.out
    rcases her with ⟨_, hn⟩ | ⟨_, _, hc⟩ | ⟨_, _, h4, _⟩
    · exact hn HTL.out
    · have := hD.2.1
      rw [← this] at hc
      rcases hc with hc | hc
      · omega
      · exact hc HCV.out
    · have := hD.2.1
      omega
  obtain rfl := HU.out n' hD'
  clear hD'
  rw [hmul4]
  have hT1 := tabs_below hT hb1
  have hA1 := hA.below hb1
  have hPp : ∀ n'', Dia s n'' → PeelG (2 * (n'' + 1)) (shG n'' (gOf s)) ps := fun n'' h'' => by rw [HU.out n'' h'']; exact p1
  go_wp2_with fail
  refine (shuffle_any s up A acap ps (by omega) (by omega) _ hT1 hA1 hPp (by rw [HP.out]; exact p4)).mono ?_
  intro e w2 hsh
  obtain ⟨hb2, hsh⟩ := hsh
  have hshv : ∃ u er, e = .returned (.tuple #[.string u, .int .i64 er]) ∧ Hid ((P ≠ up.length ∧ u = ⟨#[]⟩ ∧ er = 3) ∨ (P = up.length ∧ er = 0 ∧ u = ⟨(textOf (2 * (n' + 1)) (2 * (n' + 1)) (layAll (shG n' (gOf s)) ps up)).toArray⟩)) := by
    rcases hsh with ⟨er, her, rfl⟩ | ⟨n'', hD'', h⟩
    · exfalso
      have hD := HD.out
      rcases her with ⟨_, hn⟩ | ⟨_, _, hc⟩ | ⟨_, _, h4, _⟩
      · exact hn HTL.out
      · have := hD.2.1
        rw [← this] at hc
        rcases hc with hc | hc
        · omega
        · exact hc HCV.out
      · have := hD.2.1
        omega
    · obtain rfl := HU.out n'' hD''
      rcases h with ⟨h1, rfl⟩ | ⟨h1, rfl⟩
      · exact ⟨_, _, rfl, Lib.hid (.inl ⟨by rw [← HP.out]; exact h1, rfl, rfl⟩)⟩
      · exact ⟨_, _, rfl, Lib.hid (.inr ⟨by rw [← HP.out]; exact h1, rfl, rfl⟩)⟩
  obtain ⟨u, er, rfl, HSH⟩ := hshv
  clear hsh hPp
  have hA2 := hA1.below hb2
  have hm2 := cell_b (cell_b hm hb1) hb2
  clear hT1 hA1 hT hA
  go_wp2_with fail
  refine (laid_any s m _ (by omega) hm2).mono ?_
  rintro e w3 ⟨hb3, ⟨hno, rfl⟩ | ⟨_, rfl⟩⟩
  · exact absurd HTL.out hno
  have hm3 := cell_b hm2 hb3
  have hA3 := hA2.below hb3
  go_wp2_with fail
  refine (cells_lrud s m _ (by omega) hm3).mono ?_
  rintro e w4 ⟨hb4, ⟨hno, rfl⟩ | ⟨_, rfl, _⟩⟩
  · exact absurd hGd hno
  have hm4 := cell_b hm3 hb4
  have hA4 := hA3.below hb4
  have hb := ((hb1.trans (hb2.mono hb1.size)).trans (hb3.mono (Nat.le_trans hb1.size hb2.size))).trans (hb4.mono (Nat.le_trans hb1.size (Nat.le_trans hb2.size hb3.size)))
  clear hm hm2 hm3 hb1 hb2 hb3 hb4 hA2 hA3
  rw [hlen]
  clear hlen
  have hq : ((2 * n' : Nat) : Int) / 2 = (n' : Int) := by omega
  have hq0 : ((n' : Int) == 0) = false := beq_eq_false_iff_ne.2 (by omega)
  have hq4 : ((n' : Int) == 4) = false := beq_eq_false_iff_ne.2 (by omega)
  have hne : (s.map covB == azT n') = true := beq_iff_eq.2 HCV.out
  go_wp2_with fail
  refine (covered_any s hs _).mono ?_
  rintro e w5 ⟨rfl, rfl⟩
  go_wp2_with fail
  refine (diamond_az n' hn1 (by omega) _).mono ?_
  rintro e w6 ⟨rfl, rfl⟩
  go_wp2_with fail
  clear hne hq hq0 hq4
  refine (went_any s n' m _ (by omega) hm4 hGd hn1 hn3 HHH.out HWW.out).mono ?_
  rintro e w7 ⟨rfl, hb7⟩
  rw [HW9.out]
  have hA7 := hA4.below hb7
  have hb07 := hb.trans (hb7.mono hb.size)
  clear hA4 hm4 hb hb7
  have eG : shTo n' (2 * n') (gOf s) (azG (n' + 1)) (2 * n') = shG n' (gOf s) := rfl
  rw [eG]
  clear eG
  obtain ⟨O0, hO⟩ : ∃ O, shG n' (gOf s) = O := ⟨_, rfl⟩
  rw [hO] at p1 p2 p6 ⊢
  have HSG := Lib.hid hO
  clear hO
  have hcnt : Lib.countByte (textOf (2 * (n' + 1)) (2 * (n' + 1)) O0) 35 = 4 * P := by
    have h1 : (textOf (2 * (n' + 1)) (2 * (n' + 1)) O0).count 35 = cntTo (2 * (n' + 1)) O0 (2 * (n' + 1)) := text_count _ _ _ (by omega)
    have h2 := HC4.out
    rw [HSG.out, HP.out] at h2
    exact h1.trans h2
  go_wp2_with fail
  refine (count_one _ _).mono ?_
  rintro e w8 ⟨rfl, rfl⟩
  rw [hcnt]
  clear hcnt
  have hdv : ((4 * P : Nat) : Int) / 4 = (P : Int) := by omega
  by_cases hPu : P = up.length
  · rcases HSH.out with ⟨h1, _⟩ | ⟨_, rfl, rfl⟩
    · exact absurd hPu h1
    obtain ⟨H, hH⟩ : ∃ H, 2 * (n' + 1) = H := ⟨_, rfl⟩
    have hH8 : H ≤ 8 := by omega
    have hwi : 2 * (n' : Int) + 3 = (H : Int) + 1 := by omega
    have HH := Lib.hid hH
    rw [HSG.out]
    obtain ⟨F, hF⟩ : ∃ F, layAll O0 ps up = F := ⟨_, rfl⟩
    have HF := Lib.hid hF
    rw [hF, hH]
    clear hF
    have hst : ShR (n' + 1) O0 O0 ps ps up 0 := ⟨ShI.start p1, p2, p6⟩
    clear p1 p2 p6 hH
    go_wp2
    go_loopw [11, 94] (fun v i wr => ∃ (k : Nat) (O : Nat → Nat → UInt8) (psr : List (Nat × Nat)), k ≤ P ∧ i = .int .i64 k ∧ v = .string ⟨(textOf H H O).toArray⟩ ∧ Hid (ShR (n' + 1) O0 O ps psr up k) ∧ Below w8.heap.size w8 wr) (fun _ i _ => P - (intOf i).toNat)
    case atStart => exact ⟨0, O0, ps, Nat.zero_le _, rfl, rfl, Lib.hid hst, Below.refl _ _⟩
    case round =>
      obtain ⟨k, O, psr, hk, rfl, rfl, HI, hbr⟩ := hrel
      by_cases hkP : k < P
      · obtain ⟨b, hbk⟩ : ∃ b, up[k]? = some b := ⟨_, List.getElem?_eq_getElem (by omega)⟩
        obtain ⟨p, r, hpr⟩ : ∃ p r, psr = p :: r := by
          have h1 := HI.out.i.len
          rw [HP.out] at h1
          cases psr with
          | nil => simp at h1; omega
          | cons p r => exact ⟨p, r, rfl⟩
        subst hpr
        obtain ⟨gb, ob, rfl, hgb, cb⟩ := (hA7.below hbr).at_ k b hbk
        have HBK := Lib.hid hbk
        have hpe := HI.out.i.peel
        have hx1 := hpe.1
        have hy1 := hpe.2.1
        rw [HH.out] at hx1 hy1
        have hix := open_index (H := H) (O := O) (y := p.2) (x := p.1) (by omega) (by omega) hpe.2.2.1 (by have := hpe.2.2.2.1; rw [HH.out] at this; exact this)
        obtain ⟨q, hq⟩ : ∃ q, p.2 * (H + 1) + p.1 = q := ⟨_, rfl⟩
        rw [hq] at hix
        have hrem : (q : Int) % ((H : Int) + 1) = (p.1 : Int) := by
          have h1 := (divmod (H + 1) p.2 p.1 (by omega)).2
          rw [hq] at h1
          have h2 : ((q % (H + 1) : Nat) : Int) = (q : Int) % ((H + 1 : Nat) : Int) := Int.natCast_emod _ _
          rw [h1] at h2
          exact h2.symm
        have hdiv : (q : Int) / ((H : Int) + 1) = (p.2 : Int) := by
          have h1 := (divmod (H + 1) p.2 p.1 (by omega)).1
          rw [hq] at h1
          have h2 : ((q / (H + 1) : Nat) : Int) = (q : Int) / ((H + 1 : Nat) : Int) := Int.natCast_ediv _ _
          rw [h1] at h2
          exact h2.symm
        have hq72 : q ≤ 72 := by
          rw [← hq]
          have : p.2 * (H + 1) ≤ 7 * 9 := Nat.mul_le_mul (by omega) (by omega)
          omega
        have hH0 : ((H : Int) + 1 == 0) = false := beq_eq_false_iff_ne.2 (by omega)
        clear hbk hpe hq
        have hki : (k : Int) < (up.length : Int) := by omega
        have HIX := Lib.hid hix
        clear hix
        go_wp2_with fail
        refine (index_at _ 35 q _ HIX.out).mono ?_
        rintro e w9 ⟨rfl, rfl⟩
        cases b
        · have cb : wr.cell? ⟨gb, ob + k, none⟩ = some (.bool false) := cb
          have hpo := put_open (n := n' + 1) HI.out.op (x := p.1) (y := p.2) (by rw [HH.out]; exact hx1) (by rw [HH.out]; exact hy1) (by omega) wr.drew 108 114 108 114
          rw [HH.out] at hpo
          have hbd := hbr.drew
          go_wp2_with fail
          have hH1 : ¬ ((H : Int) + 1 = 0) := by omega
          have htm : (q : Int).tmod ((H : Int) + 1) = (p.1 : Int) := by rw [Int.tmod_eq_emod_of_nonneg (by omega)]; exact hrem
          have htd : (q : Int).tdiv ((H : Int) + 1) = (p.2 : Int) := by rw [Int.tdiv_eq_ediv_of_nonneg (by omega)]; exact hdiv
          have hwr : IntKind.i64.wrap (p.2 : Int) = (p.2 : Int) := IntWalk.i64_in _ (by omega)
          go_still_tail 8, (by kernel_rfl)
          change wpList _ _ _ _ _ wr.drew
          generalize wr.drew = wd at hpo hbd ⊢
          clear cb hrem hdiv hH0 hH1 htm htd hwr
          go_wp2_with fail
          refine hpo.mono ?_
          rintro e w10 ⟨rfl, hb10⟩
          go_wp2
          exact ⟨⟨k + 1, layG O p.1 p.2 false, r, by omega, by go_num, rfl, Lib.hid (HI.out.step HBK.out), hbd.trans (hb10.mono hbd.size)⟩, by simp [intOf]; omega⟩
        · have cb : wr.cell? ⟨gb, ob + k, none⟩ = some (.bool true) := cb
          have hpo := put_open (n := n' + 1) HI.out.op (x := p.1) (y := p.2) (by rw [HH.out]; exact hx1) (by rw [HH.out]; exact hy1) (by omega) wr.drew 117 117 100 100
          rw [HH.out] at hpo
          have hbd := hbr.drew
          go_wp2_with fail
          have hH1 : ¬ ((H : Int) + 1 = 0) := by omega
          have htm : (q : Int).tmod ((H : Int) + 1) = (p.1 : Int) := by rw [Int.tmod_eq_emod_of_nonneg (by omega)]; exact hrem
          have htd : (q : Int).tdiv ((H : Int) + 1) = (p.2 : Int) := by rw [Int.tdiv_eq_ediv_of_nonneg (by omega)]; exact hdiv
          have hwr : IntKind.i64.wrap (p.2 : Int) = (p.2 : Int) := IntWalk.i64_in _ (by omega)
          go_still_tail 8, (by kernel_rfl)
          change wpList _ _ _ _ _ wr.drew
          generalize wr.drew = wd at hpo hbd ⊢
          clear cb hrem hdiv hH0 hH1 htm htd hwr
          go_wp2_with fail
          refine hpo.mono ?_
          rintro e w10 ⟨rfl, hb10⟩
          go_wp2
          exact ⟨⟨k + 1, layG O p.1 p.2 true, r, by omega, by go_num, rfl, Lib.hid (HI.out.step HBK.out), hbd.trans (hb10.mono hbd.size)⟩, by simp [intOf]; omega⟩
      · obtain rfl : k = P := by omega
        have hr0 : psr = [] := by
          have h1 := HI.out.i.len
          rw [HP.out] at h1
          exact List.length_eq_zero_iff.1 (by omega)
        subst hr0
        have hOF : O = F := by
          have h1 := HI.out.i.rest
          rw [HF.out] at h1
          have h2 : layAll O [] (up.drop k) = O := by cases up.drop k <;> rfl
          rw [h2] at h1
          exact h1
        subst hOF
        have hki : ¬ (k : Int) < (up.length : Int) := by omega
        go_wp2
        go_ret
        exact ⟨rfl, hb07.trans (hbr.mono hb07.size)⟩
  · rcases HSH.out with ⟨_, rfl, rfl⟩ | ⟨h1, _⟩
    rotate_left
    · exact absurd h1 hPu
    have hpi : ((P : Int) == (up.length : Int)) = false := beq_eq_false_iff_ne.2 (by omega)
    go_wp2
    go_ret
    exact ⟨rfl, hb07⟩
/-- ferlaw.DominoShuffles is true. -/
theorem shuffles_law (s : List UInt8) (up : List Bool) (A : Option Addr) (acap : Nat) (m : Int) (w : World) (hs : s.length ≤ 1048576) (hu : up.length ≤ 1048576) (hT : Lib.Utf8Tabs 1 2 w) (hA : BoolsAt w A up) (hm : w.cell? ⟨0, 0, none⟩ = some (.int .i64 m)) :
    Calls Tryd.prog 6 #[.string ⟨s.toArray⟩, .slice A up.length acap] w fun e w' => e = .returned (.bool true) ∧ Below w.heap.size w w' := by
  by_cases hTl : Tiling s
  · by_cases hd : ∃ n, Dia s n
    · obtain ⟨n, hD⟩ := hd
      exact sh_dia s up A acap m w hs hu hT hA hm hTl n hD
    · rcases not_dia hTl hd with h0 | ⟨h0, hc⟩ | ⟨h4, hc⟩
      · exact sh_zero s up A acap m w hs hu hT hA hm hTl h0 hd
      · exact sh_cov s up A acap m w hs hu hT hA hm hTl h0 hc hd
      · exact sh_large s up A acap m w hs hu hT hA hm hTl h4 hc hd
  · exact sh_bad s up A acap m w hs hu hT hA hm hTl
end Go.Proofs.YtahihapgbcoanaaDoor
