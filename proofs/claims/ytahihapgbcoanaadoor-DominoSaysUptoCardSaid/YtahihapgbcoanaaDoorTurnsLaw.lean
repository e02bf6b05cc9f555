/- The walk of the law DominoTurns. -/
import Derived.Test.YtahihapgbcoanaaDoorFlat
import Derived.BigQuiet
namespace Go.Proofs.YtahihapgbcoanaaDoor
open Go.RowKit

theorem cell_lt {w : World} {v : Value} {b o : Nat} (h : w.cell? ⟨b, o, none⟩ = some v) : b < w.heap.size := by
  rcases Nat.lt_or_ge b w.heap.size with hlt | hge
  · exact hlt
  · simp [World.cell?, Array.getElem?_eq_none hge] at h
theorem cell_b {w w' : World} {v : Value} {b o : Nat} (h : w.cell? ⟨b, o, none⟩ = some v) (hb : Below w.heap.size w w') : w'.cell? ⟨b, o, none⟩ = some v :=
  (hb.cell (p := ⟨b, o, none⟩) (cell_lt h)).trans h

theorem diamond_az (n : Nat) (h1 : 1 ≤ n) (hn : n ≤ 4) (w : World) : Calls Tryd.prog 9 #[.int .i64 n] w fun e w' => e = .returned (.string ⟨(azT n).toArray⟩) ∧ w' = w := by
  rw [← dmTo_az n h1 hn]
  exact diamond_ref n hn w

def isTo (l : List (Nat × Nat)) (X Y : Int) (k : Nat) : Bool := (l.take k).any (fun p => (p.1 : Int) == X && (p.2 : Int) == Y)

/-- What the law keeps by its side: the point's box and the length's bound. -/
structure KeepT (w : World) (N : Nat) (X Y m : Int) (w1 : World) : Prop where
  below : Below N w w1
  lt : N < w1.heap.size
  cx : w1.cell? ⟨N, 0, none⟩ = some (.int .i64 X)
  cy : w1.cell? ⟨N, 1, none⟩ = some (.int .i64 Y)
  cm : w1.cell? ⟨0, 0, none⟩ = some (.int .i64 m)
theorem KeepT.step {w a b : World} {N : Nat} {X Y m : Int} (h : KeepT w N X Y m a) (hb : Below a.heap.size a b) : KeepT w N X Y m b :=
  ⟨h.below.trans (hb.mono (Nat.le_of_lt h.lt)), Nat.lt_of_lt_of_le h.lt hb.size, cell_b h.cx hb, cell_b h.cy hb, cell_b h.cm hb⟩
theorem KeepT.start {w : World} {X Y m : Int} (hm : w.cell? ⟨0, 0, none⟩ = some (.int .i64 m)) : KeepT w w.heap.size X Y m (w.alloc (.cells #[.int .i64 X, .int .i64 Y] 23)) := by
  have h := cell_two_d w 0 (.int .i64 X) (.int .i64 Y) 23
  have hc : ∀ j u, [Value.int .i64 X, Value.int .i64 Y][j]? = some u → (w.alloc (.cells #[.int .i64 X, .int .i64 Y] 23)).cell? ⟨w.heap.size, j, none⟩ = some u := fun j u hj => by
    have := h j u hj
    rw [addr_add0] at this
    exact this
  exact ⟨(Below.refl _ w).alloc (Nat.le_refl _) _, by simp, hc 0 _ rfl, hc 1 _ rfl, cell_b hm ((Below.refl _ w).alloc (Nat.le_refl _) _)⟩

/-- A block of a tiling, put. -/
def putT (s : List UInt8) (x y : Nat) (a b c d : UInt8) : List UInt8 := putL s (wOf s) (y * (wOf s + 1) + x) a b c d
theorem putT_text {s : List UInt8} {x y : Nat} (hg : Good lrud (pieces s)) (ht : turnAt (hOf s) (wOf s) (gOf s) x y = true) (a b c d : UInt8) : putT s x y a b c d = textOf (hOf s) (wOf s) (putG (gOf s) x y a b c d) := by
  have hl := turnAt_lt ht
  unfold putT
  conv => lhs; arg 1; rw [good_text hg]
  exact putL_text _ _ x y _ a b c d hl.1 hl.2
theorem putT_same {s : List UInt8} {x y : Nat} (hg : Good lrud (pieces s)) (ht : turnAt (hOf s) (wOf s) (gOf s) x y = true) : putT s x y 108 114 108 114 = s ↔ gOf s y x = 108 := by
  have hl := turnAt_lt ht
  have hB : turnB (gOf s) x y = true := by simp [turnAt] at ht; exact ht.2
  have h := putL_same (hOf s) (wOf s) x y (gOf s) hl.1 hl.2 hB
  rw [← good_text hg] at h
  exact h
theorem put_tiling {s : List UInt8} {x y : Nat} (hg : Good lrud (pieces s)) (ht : turnAt (hOf s) (wOf s) (gOf s) x y = true) (w : World) (hs : s.length ≤ 1048576) (a b c d : UInt8) :
    Calls Tryd.prog 15 #[.string ⟨s.toArray⟩, .int .i64 x, .int .i64 y, .string ⟨#[a, b, c, d]⟩] w fun e w' => e = .returned (.string ⟨(putT s x y a b c d).toArray⟩) ∧ Below w.heap.size w w' := by
  have hl := turnAt_lt ht
  obtain ⟨h8, w8, h0, w0⟩ := good_h hg
  have hlen : s.length + 1 = hOf s * (wOf s + 1) := by
    conv => lhs; rw [good_text hg]
    exact text_len _ _ _ h0
  have h1 : (y + 1 + 1) * (wOf s + 1) ≤ hOf s * (wOf s + 1) := Nat.mul_le_mul_right _ (by omega)
  have e1 : (y + 1 + 1) * (wOf s + 1) = (y + 1) * (wOf s + 1) + (wOf s + 1) := Nat.succ_mul _ _
  have e2 : (y + 1) * (wOf s + 1) = y * (wOf s + 1) + (wOf s + 1) := Nat.succ_mul _ _
  exact put_any s (wOf s) x y (y * (wOf s + 1)) a b c d w hs (by omega) w0 (good_index hg (by decide)) rfl (by omega)

set_option maxRecDepth 100000 in
set_option maxHeartbeats 16000000 in
theorem turns_law (s : List UInt8) (X Y n m : Int) (hn : -9223372036854775808 ≤ n ∧ n ≤ 9223372036854775807) (hX : -9223372036854775808 ≤ X ∧ X ≤ 9223372036854775807) (hY : -9223372036854775808 ≤ Y ∧ Y ≤ 9223372036854775807) (w : World) (hs : s.length ≤ 1048576) (hm : w.cell? ⟨0, 0, none⟩ = some (.int .i64 m)) :
    Calls Tryd.prog 3 #[.string ⟨s.toArray⟩, .agg #[.int .i64 X, .int .i64 Y], .int .i64 n] w fun e w' => e = .returned (.bool true) ∧ Below w.heap.size w w' := by
  have hk0 := KeepT.start (X := X) (Y := Y) hm
  by_cases q1 : n < 1
  · have e1 : decide (n < 1) = true := decide_eq_true q1
    go_enter Tryd.func3, Tryd.ntmps3
    go_wp2_with fail
    refine (Aztec_any n hn _).mono ?_
    rintro e w1 ⟨hb1, ⟨_, rfl⟩ | ⟨a, rfl, ha⟩⟩
    rotate_left
    · omega
    have hk1 := hk0.step hb1
    clear hb1 hk0
    go_wp2_with fail
    refine (flips_any s (by omega) _).mono ?_
    rintro e w2 ⟨hb2, ⟨hT, rfl⟩ | ⟨hT, vf, rfl, hf⟩⟩
    rotate_left
    · have hk2 := hk1.step hb2
      have cx2 := hk2.cx
      have cy2 := hk2.cy
      have HT := Lib.hid hT
      clear hT
      obtain ⟨A, cp, hpf⟩ := ptsAt_own hf
      obtain rfl := hpf.val
      clear hf
      have hlen : (ptsTo (hOf s) (wOf s) (gOf s) (hOf s)).length ≤ 64 := by
        have h1 := ptsTo_len (hOf s) (wOf s) (gOf s) (hOf s)
        obtain ⟨h8, w8, _, _⟩ := good_h HT.out.1
        exact Nat.le_trans h1 (Nat.mul_le_mul h8 w8)
      obtain ⟨L, hL⟩ : ∃ L, ptsTo (hOf s) (wOf s) (gOf s) (hOf s) = L := ⟨_, rfl⟩
      rw [hL] at hpf hlen ⊢
      have HL := Lib.hid hL
      clear hL
      go_wp2_with fail
      refine (flip_any s (by omega) X Y hX hY _).mono ?_
      rintro e w3 ⟨hb3, hflip⟩
      obtain ⟨u, er, rfl, hcase⟩ : ∃ u er, e = .returned (.tuple #[.string u, .int .i64 er]) ∧ Hid ((isTo L X Y L.length = false ∧ u = ⟨#[]⟩ ∧ er = 5) ∨ (isTo L X Y L.length = true ∧ er = 0 ∧ ∃ x y : Nat, X = x ∧ Y = y ∧ turnAt (hOf s) (wOf s) (gOf s) x y = true ∧ u = ⟨(textOf (hOf s) (wOf s) (layG (gOf s) x y (gOf s y x == 108))).toArray⟩)) := by
        rcases hflip with ⟨hT3, rfl⟩ | ⟨hT3, hno, rfl⟩ | ⟨hT3, x, y, rfl, rfl, hx, hy, ht, rfl⟩
        · exact absurd HT.out hT3
        · refine ⟨_, _, rfl, Lib.hid (.inl ⟨?_, rfl, rfl⟩)⟩
          rw [Bool.eq_false_iff]
          intro h
          obtain ⟨p, hp, hp2⟩ := List.any_eq_true.1 h
          rw [List.take_length, ← HL.out] at hp
          simp at hp2
          have := (mem_ptsTo _ _ _ _ _).1 hp
          rw [hno p.1 p.2 hp2.1.symm hp2.2.symm] at this
          cases this
        · refine ⟨_, _, rfl, Lib.hid (.inr ⟨?_, rfl, x, y, rfl, rfl, ht, rfl⟩)⟩
          apply List.any_eq_true.2
          refine ⟨(x, y), ?_, by simp⟩
          rw [List.take_length, ← HL.out]
          exact (mem_ptsTo _ _ _ _ _).2 ht
      clear hflip cx2 cy2
      have hk3 := hk2.step hb3
      have hpf3 := hpf.below hb3
      clear hpf hb2 hb3
      go_wp2_with fail
      refine (laid_any s m _ (by omega) hk3.cm).mono ?_
      rintro e w4 ⟨hb4, ⟨hT4, rfl⟩ | ⟨hT4, rfl⟩⟩
      · exact absurd HT.out hT4
      clear hT4
      have hk4 := hk3.step hb4
      have hpf4 := hpf3.below hb4
      clear hpf3 hb4
      go_wp2_with fail
      refine (blocks_any s m _ (by omega) hk4.cm HT.out.1).mono ?_
      rintro e w5 ⟨hb5, vb, rfl, hv⟩
      have hk5 := hk4.step hb5
      have hpf5 := hpf4.below hb5
      clear hpf4 hb5
      rw [HL.out] at hv
      obtain ⟨A2, cp2, hpb⟩ := ptsAt_own hv
      obtain rfl := hpb.val
      clear hv
      have cx := hk5.cx
      have cy := hk5.cy
      generalize hLn : L.length = ln at *
      have HLn := Lib.hid hLn
      clear hLn
      go_wp2
      go_loopw [14, 75] (fun b i wr => ∃ k : Nat, k ≤ ln ∧ i = .int .i64 k ∧ b = .bool (isTo L X Y k) ∧ ∃ nq, wr = w5.drewN nq) (fun _ i _ => ln - (intOf i).toNat)
      case atStart => exact ⟨0, Nat.zero_le _, rfl, by simp [isTo], 0, rfl⟩
      case round =>
        obtain ⟨k, hk, rfl, rfl, nq, rfl⟩ := hrel
        by_cases hkl : k < ln
        · obtain ⟨p, hp⟩ : ∃ p, L[k]? = some p := ⟨_, List.getElem?_eq_getElem (by rw [HLn.out]; exact hkl)⟩
          have hnext : isTo L X Y (k + 1) = (isTo L X Y k || ((p.1 : Int) == X && (p.2 : Int) == Y)) := by
            unfold isTo
            rw [List.take_add_one, hp, List.any_append]
            simp
          have HX := Lib.hid hnext
          clear hnext
          obtain ⟨g, rfl, hg, a1, a2⟩ := hpb.at_ k p hp
          have hki : (k : Int) < (ln : Int) := by omega
          clear hp
          cases hb : isTo L X Y k
          · have HB := Lib.hid hb
            clear hb
            by_cases k1 : (p.1 : Int) = X
            · by_cases k2 : (p.2 : Int) = Y
              · have cx' : w5.cell? ⟨w.heap.size, 0, none⟩ = some (.int .i64 p.1) := by rw [k1]; exact cx
                have cy' : w5.cell? ⟨w.heap.size, 1, none⟩ = some (.int .i64 p.2) := by rw [k2]; exact cy
                have HK := Lib.hid (show isTo L X Y (k + 1) = true by rw [HX.out, HB.out, k1, k2]; simp)
                clear cx cy k1 k2
                go_wp2_with fail
                go_quiet (fail)
                go_wp2
                exact ⟨⟨k + 1, by omega, by go_num, by rw [HK.out], _, rfl⟩, by simp [intOf]; omega⟩
              · have b2 : ((p.2 : Int) == Y) = false := by simp [k2]
                have HK := Lib.hid (show isTo L X Y (k + 1) = false by rw [HX.out, HB.out, b2]; simp)
                have cx' : w5.cell? ⟨w.heap.size, 0, none⟩ = some (.int .i64 p.1) := by rw [k1]; exact cx
                clear k1 k2 cx
                go_wp2_with fail
                go_quiet (fail)
                go_wp2
                exact ⟨⟨k + 1, by omega, by go_num, by rw [HK.out], _, rfl⟩, by simp [intOf]; omega⟩
            · have b1 : ((p.1 : Int) == X) = false := by simp [k1]
              have HK := Lib.hid (show isTo L X Y (k + 1) = false by rw [HX.out, HB.out, b1]; simp)
              clear k1
              go_wp2_with fail
              go_quiet (fail)
              go_wp2
              exact ⟨⟨k + 1, by omega, by go_num, by rw [HK.out], _, rfl⟩, by simp [intOf]; omega⟩
          · have HB := Lib.hid hb
            clear hb
            go_wp2_with fail
            go_quiet (fail)
            have HK := Lib.hid (show isTo L X Y (k + 1) = true by rw [HX.out, HB.out]; simp)
            go_wp2
            exact ⟨⟨k + 1, by omega, by go_num, by rw [HK.out], _, rfl⟩, by simp [intOf]; omega⟩
        · obtain rfl : k = ln := by omega
          cases hb : isTo L X Y k
          · rcases hcase.out with ⟨_, rfl, rfl⟩ | ⟨hb2, _⟩
            rotate_left
            · rw [hb] at hb2; cases hb2
            clear hcase hb
            go_wp2_with fail
            refine (same_pts L (by rw [HLn.out]; omega) _ _ A A2 cp cp2 _ (hpf5.drewN nq) (hpb.drewN nq)).mono ?_
            rintro e w6 ⟨rfl, n2, rfl⟩
            go_wp2
            go_ret
            exact ⟨rfl, below_drewN hk5.below _⟩
          · rcases hcase.out with ⟨hb2, _⟩ | ⟨_, rfl, x, y, rfl, rfl, ht, rfl⟩
            · rw [hb] at hb2; cases hb2
            clear hcase hb
            have HTt := Lib.hid ht
            clear ht
            have HP1 := Lib.hid (putT_text HT.out.1 HTt.out 108 114 108 114)
            have HP2 := Lib.hid (putT_text HT.out.1 HTt.out 117 117 100 100)
            have HS := Lib.hid (putT_same HT.out.1 HTt.out)
            go_wp2_with fail
            refine (same_pts L (by rw [HLn.out]; omega) _ _ A A2 cp cp2 _ (hpf5.drewN nq) (hpb.drewN nq)).mono ?_
            rintro e w6 ⟨rfl, n2, rfl⟩
            by_cases h108 : gOf s y x = 108
            · have HU : Hid (textOf (hOf s) (wOf s) (layG (gOf s) x y (gOf s y x == 108)) = putT s x y 117 117 100 100) := Lib.hid (by rw [HP2.out, h108]; rfl)
              have HV := Lib.hid (HS.out.2 h108)
              rw [HU.out]
              clear HS HP1 HP2 HU h108
              go_wp2_with fail
              refine (put_tiling HT.out.1 HTt.out _ hs 108 114 108 114).mono ?_
              rintro e w7 ⟨rfl, hb7⟩
              have hk7 := (hk5.step (below_drewN (Below.refl _ _) (nq + n2))).step hb7
              have cx7 := hk7.cx
              have cy7 := hk7.cy
              rw [HV.out]
              go_wp2_with fail
              refine (put_tiling HT.out.1 HTt.out _ hs 117 117 100 100).mono ?_
              rintro e w8 ⟨rfl, hb8⟩
              have hk8 := hk7.step hb8
              go_wp2
              go_ret
              exact ⟨rfl, hk8.below⟩
            · have HU : Hid (textOf (hOf s) (wOf s) (layG (gOf s) x y (gOf s y x == 108)) = putT s x y 108 114 108 114) := Lib.hid (by rw [HP1.out, beq_eq_false_iff_ne.2 h108]; rfl)
              have hne : putT s x y 108 114 108 114 ≠ s := fun e => h108 (HS.out.1 e)
              rw [HU.out]
              clear HS HP1 HP2 HU h108
              go_wp2_with fail
              refine (put_tiling HT.out.1 HTt.out _ hs 108 114 108 114).mono ?_
              rintro e w7 ⟨rfl, hb7⟩
              have hk7 := (hk5.step (below_drewN (Below.refl _ _) (nq + n2))).step hb7
              have cx7 := hk7.cx
              have cy7 := hk7.cy
              have hq : (putT s x y 108 114 108 114 == s) = false := beq_eq_false_iff_ne.2 hne
              go_wp2_with fail
              refine (put_tiling HT.out.1 HTt.out _ hs 108 114 108 114).mono ?_
              rintro e w8 ⟨rfl, hb8⟩
              have hk8 := hk7.step hb8
              go_wp2
              go_ret
              exact ⟨rfl, hk8.below⟩
    · have hk2 := hk1.step hb2
      have cx2 := hk2.cx
      have cy2 := hk2.cy
      have HT := Lib.hid hT
      clear hT
      go_wp2_with fail
      refine (flip_any s (by omega) X Y hX hY _).mono ?_
      rintro e w3 ⟨hb3, ⟨hT3, rfl⟩ | ⟨hT3, hno, rfl⟩ | ⟨hT3, x, y, rfl, rfl, hx, hy, ht, rfl⟩⟩
      rotate_left
      · exact absurd hT3 HT.out
      · exact absurd hT3 HT.out
      clear hT3 cx2 cy2
      have hk3 := hk2.step hb3
      go_wp2_with fail
      refine (laid_any s m _ (by omega) hk3.cm).mono ?_
      rintro e w4 ⟨hb4, ⟨hT4, rfl⟩ | ⟨hT4, rfl⟩⟩
      rotate_left
      · exact absurd hT4 HT.out
      clear hT4
      have hk4 := hk3.step hb4
      go_wp2
      go_ret
      exact ⟨rfl, hk4.below⟩
  by_cases q2 : 4 < n
  · have e1 : decide (n < 1) = false := decide_eq_false q1
    have e2 : decide (4 < n) = true := decide_eq_true q2
    go_enter Tryd.func3, Tryd.ntmps3
    go_wp2_with fail
    refine (Aztec_any n hn _).mono ?_
    rintro e w1 ⟨hb1, ⟨_, rfl⟩ | ⟨a, rfl, ha⟩⟩
    rotate_left
    · omega
    have hk1 := hk0.step hb1
    clear hb1 hk0
    go_wp2_with fail
    refine (flips_any s (by omega) _).mono ?_
    rintro e w2 ⟨hb2, ⟨hT, rfl⟩ | ⟨hT, vf, rfl, hf⟩⟩
    rotate_left
    · have hk2 := hk1.step hb2
      have cx2 := hk2.cx
      have cy2 := hk2.cy
      have HT := Lib.hid hT
      clear hT
      obtain ⟨A, cp, hpf⟩ := ptsAt_own hf
      obtain rfl := hpf.val
      clear hf
      have hlen : (ptsTo (hOf s) (wOf s) (gOf s) (hOf s)).length ≤ 64 := by
        have h1 := ptsTo_len (hOf s) (wOf s) (gOf s) (hOf s)
        obtain ⟨h8, w8, _, _⟩ := good_h HT.out.1
        exact Nat.le_trans h1 (Nat.mul_le_mul h8 w8)
      obtain ⟨L, hL⟩ : ∃ L, ptsTo (hOf s) (wOf s) (gOf s) (hOf s) = L := ⟨_, rfl⟩
      rw [hL] at hpf hlen ⊢
      have HL := Lib.hid hL
      clear hL
      go_wp2_with fail
      refine (flip_any s (by omega) X Y hX hY _).mono ?_
      rintro e w3 ⟨hb3, hflip⟩
      obtain ⟨u, er, rfl, hcase⟩ : ∃ u er, e = .returned (.tuple #[.string u, .int .i64 er]) ∧ Hid ((isTo L X Y L.length = false ∧ u = ⟨#[]⟩ ∧ er = 5) ∨ (isTo L X Y L.length = true ∧ er = 0 ∧ ∃ x y : Nat, X = x ∧ Y = y ∧ turnAt (hOf s) (wOf s) (gOf s) x y = true ∧ u = ⟨(textOf (hOf s) (wOf s) (layG (gOf s) x y (gOf s y x == 108))).toArray⟩)) := by
        rcases hflip with ⟨hT3, rfl⟩ | ⟨hT3, hno, rfl⟩ | ⟨hT3, x, y, rfl, rfl, hx, hy, ht, rfl⟩
        · exact absurd HT.out hT3
        · refine ⟨_, _, rfl, Lib.hid (.inl ⟨?_, rfl, rfl⟩)⟩
          rw [Bool.eq_false_iff]
          intro h
          obtain ⟨p, hp, hp2⟩ := List.any_eq_true.1 h
          rw [List.take_length, ← HL.out] at hp
          simp at hp2
          have := (mem_ptsTo _ _ _ _ _).1 hp
          rw [hno p.1 p.2 hp2.1.symm hp2.2.symm] at this
          cases this
        · refine ⟨_, _, rfl, Lib.hid (.inr ⟨?_, rfl, x, y, rfl, rfl, ht, rfl⟩)⟩
          apply List.any_eq_true.2
          refine ⟨(x, y), ?_, by simp⟩
          rw [List.take_length, ← HL.out]
          exact (mem_ptsTo _ _ _ _ _).2 ht
      clear hflip cx2 cy2
      have hk3 := hk2.step hb3
      have hpf3 := hpf.below hb3
      clear hpf hb2 hb3
      go_wp2_with fail
      refine (laid_any s m _ (by omega) hk3.cm).mono ?_
      rintro e w4 ⟨hb4, ⟨hT4, rfl⟩ | ⟨hT4, rfl⟩⟩
      · exact absurd HT.out hT4
      clear hT4
      have hk4 := hk3.step hb4
      have hpf4 := hpf3.below hb4
      clear hpf3 hb4
      go_wp2_with fail
      refine (blocks_any s m _ (by omega) hk4.cm HT.out.1).mono ?_
      rintro e w5 ⟨hb5, vb, rfl, hv⟩
      have hk5 := hk4.step hb5
      have hpf5 := hpf4.below hb5
      clear hpf4 hb5
      rw [HL.out] at hv
      obtain ⟨A2, cp2, hpb⟩ := ptsAt_own hv
      obtain rfl := hpb.val
      clear hv
      have cx := hk5.cx
      have cy := hk5.cy
      generalize hLn : L.length = ln at *
      have HLn := Lib.hid hLn
      clear hLn
      go_wp2
      go_loopw [14, 75] (fun b i wr => ∃ k : Nat, k ≤ ln ∧ i = .int .i64 k ∧ b = .bool (isTo L X Y k) ∧ ∃ nq, wr = w5.drewN nq) (fun _ i _ => ln - (intOf i).toNat)
      case atStart => exact ⟨0, Nat.zero_le _, rfl, by simp [isTo], 0, rfl⟩
      case round =>
        obtain ⟨k, hk, rfl, rfl, nq, rfl⟩ := hrel
        by_cases hkl : k < ln
        · obtain ⟨p, hp⟩ : ∃ p, L[k]? = some p := ⟨_, List.getElem?_eq_getElem (by rw [HLn.out]; exact hkl)⟩
          have hnext : isTo L X Y (k + 1) = (isTo L X Y k || ((p.1 : Int) == X && (p.2 : Int) == Y)) := by
            unfold isTo
            rw [List.take_add_one, hp, List.any_append]
            simp
          have HX := Lib.hid hnext
          clear hnext
          obtain ⟨g, rfl, hg, a1, a2⟩ := hpb.at_ k p hp
          have hki : (k : Int) < (ln : Int) := by omega
          clear hp
          cases hb : isTo L X Y k
          · have HB := Lib.hid hb
            clear hb
            by_cases k1 : (p.1 : Int) = X
            · by_cases k2 : (p.2 : Int) = Y
              · have cx' : w5.cell? ⟨w.heap.size, 0, none⟩ = some (.int .i64 p.1) := by rw [k1]; exact cx
                have cy' : w5.cell? ⟨w.heap.size, 1, none⟩ = some (.int .i64 p.2) := by rw [k2]; exact cy
                have HK := Lib.hid (show isTo L X Y (k + 1) = true by rw [HX.out, HB.out, k1, k2]; simp)
                clear cx cy k1 k2
                go_wp2_with fail
                go_quiet (fail)
                go_wp2
                exact ⟨⟨k + 1, by omega, by go_num, by rw [HK.out], _, rfl⟩, by simp [intOf]; omega⟩
              · have b2 : ((p.2 : Int) == Y) = false := by simp [k2]
                have HK := Lib.hid (show isTo L X Y (k + 1) = false by rw [HX.out, HB.out, b2]; simp)
                have cx' : w5.cell? ⟨w.heap.size, 0, none⟩ = some (.int .i64 p.1) := by rw [k1]; exact cx
                clear k1 k2 cx
                go_wp2_with fail
                go_quiet (fail)
                go_wp2
                exact ⟨⟨k + 1, by omega, by go_num, by rw [HK.out], _, rfl⟩, by simp [intOf]; omega⟩
            · have b1 : ((p.1 : Int) == X) = false := by simp [k1]
              have HK := Lib.hid (show isTo L X Y (k + 1) = false by rw [HX.out, HB.out, b1]; simp)
              clear k1
              go_wp2_with fail
              go_quiet (fail)
              go_wp2
              exact ⟨⟨k + 1, by omega, by go_num, by rw [HK.out], _, rfl⟩, by simp [intOf]; omega⟩
          · have HB := Lib.hid hb
            clear hb
            go_wp2_with fail
            go_quiet (fail)
            have HK := Lib.hid (show isTo L X Y (k + 1) = true by rw [HX.out, HB.out]; simp)
            go_wp2
            exact ⟨⟨k + 1, by omega, by go_num, by rw [HK.out], _, rfl⟩, by simp [intOf]; omega⟩
        · obtain rfl : k = ln := by omega
          cases hb : isTo L X Y k
          · rcases hcase.out with ⟨_, rfl, rfl⟩ | ⟨hb2, _⟩
            rotate_left
            · rw [hb] at hb2; cases hb2
            clear hcase hb
            go_wp2_with fail
            refine (same_pts L (by rw [HLn.out]; omega) _ _ A A2 cp cp2 _ (hpf5.drewN nq) (hpb.drewN nq)).mono ?_
            rintro e w6 ⟨rfl, n2, rfl⟩
            go_wp2
            go_ret
            exact ⟨rfl, below_drewN hk5.below _⟩
          · rcases hcase.out with ⟨hb2, _⟩ | ⟨_, rfl, x, y, rfl, rfl, ht, rfl⟩
            · rw [hb] at hb2; cases hb2
            clear hcase hb
            have HTt := Lib.hid ht
            clear ht
            have HP1 := Lib.hid (putT_text HT.out.1 HTt.out 108 114 108 114)
            have HP2 := Lib.hid (putT_text HT.out.1 HTt.out 117 117 100 100)
            have HS := Lib.hid (putT_same HT.out.1 HTt.out)
            go_wp2_with fail
            refine (same_pts L (by rw [HLn.out]; omega) _ _ A A2 cp cp2 _ (hpf5.drewN nq) (hpb.drewN nq)).mono ?_
            rintro e w6 ⟨rfl, n2, rfl⟩
            by_cases h108 : gOf s y x = 108
            · have HU : Hid (textOf (hOf s) (wOf s) (layG (gOf s) x y (gOf s y x == 108)) = putT s x y 117 117 100 100) := Lib.hid (by rw [HP2.out, h108]; rfl)
              have HV := Lib.hid (HS.out.2 h108)
              rw [HU.out]
              clear HS HP1 HP2 HU h108
              go_wp2_with fail
              refine (put_tiling HT.out.1 HTt.out _ hs 108 114 108 114).mono ?_
              rintro e w7 ⟨rfl, hb7⟩
              have hk7 := (hk5.step (below_drewN (Below.refl _ _) (nq + n2))).step hb7
              have cx7 := hk7.cx
              have cy7 := hk7.cy
              rw [HV.out]
              go_wp2_with fail
              refine (put_tiling HT.out.1 HTt.out _ hs 117 117 100 100).mono ?_
              rintro e w8 ⟨rfl, hb8⟩
              have hk8 := hk7.step hb8
              go_wp2
              go_ret
              exact ⟨rfl, hk8.below⟩
            · have HU : Hid (textOf (hOf s) (wOf s) (layG (gOf s) x y (gOf s y x == 108)) = putT s x y 108 114 108 114) := Lib.hid (by rw [HP1.out, beq_eq_false_iff_ne.2 h108]; rfl)
              have hne : putT s x y 108 114 108 114 ≠ s := fun e => h108 (HS.out.1 e)
              rw [HU.out]
              clear HS HP1 HP2 HU h108
              go_wp2_with fail
              refine (put_tiling HT.out.1 HTt.out _ hs 108 114 108 114).mono ?_
              rintro e w7 ⟨rfl, hb7⟩
              have hk7 := (hk5.step (below_drewN (Below.refl _ _) (nq + n2))).step hb7
              have cx7 := hk7.cx
              have cy7 := hk7.cy
              have hq : (putT s x y 108 114 108 114 == s) = false := beq_eq_false_iff_ne.2 hne
              go_wp2_with fail
              refine (put_tiling HT.out.1 HTt.out _ hs 108 114 108 114).mono ?_
              rintro e w8 ⟨rfl, hb8⟩
              have hk8 := hk7.step hb8
              go_wp2
              go_ret
              exact ⟨rfl, hk8.below⟩
    · have hk2 := hk1.step hb2
      have cx2 := hk2.cx
      have cy2 := hk2.cy
      have HT := Lib.hid hT
      clear hT
      go_wp2_with fail
      refine (flip_any s (by omega) X Y hX hY _).mono ?_
      rintro e w3 ⟨hb3, ⟨hT3, rfl⟩ | ⟨hT3, hno, rfl⟩ | ⟨hT3, x, y, rfl, rfl, hx, hy, ht, rfl⟩⟩
      rotate_left
      · exact absurd hT3 HT.out
      · exact absurd hT3 HT.out
      clear hT3 cx2 cy2
      have hk3 := hk2.step hb3
      go_wp2_with fail
      refine (laid_any s m _ (by omega) hk3.cm).mono ?_
      rintro e w4 ⟨hb4, ⟨hT4, rfl⟩ | ⟨hT4, rfl⟩⟩
      rotate_left
      · exact absurd hT4 HT.out
      clear hT4
      have hk4 := hk3.step hb4
      go_wp2
      go_ret
      exact ⟨rfl, hk4.below⟩
  · have e1 : decide (n < 1) = false := decide_eq_false q1
    have e2 : decide (4 < n) = false := decide_eq_false q2
    go_enter Tryd.func3, Tryd.ntmps3
    go_wp2_with fail
    refine (Aztec_any n hn _).mono ?_
    rintro e w1 ⟨hb1, ⟨hbad, rfl⟩ | ⟨a, rfl, ha1, ha4, rfl⟩⟩
    · omega
    go_wp2_with fail
    refine (diamond_az a ha1 ha4 _).mono ?_
    rintro e w1' ⟨rfl, rfl⟩
    have hk1 := hk0.step hb1
    clear hb1 hk0
    go_wp2_with fail
    refine (flips_any s (by omega) _).mono ?_
    rintro e w2 ⟨hb2, ⟨hT, rfl⟩ | ⟨hT, vf, rfl, hf⟩⟩
    rotate_left
    · have hk2 := hk1.step hb2
      have cx2 := hk2.cx
      have cy2 := hk2.cy
      have HT := Lib.hid hT
      clear hT
      obtain ⟨A, cp, hpf⟩ := ptsAt_own hf
      obtain rfl := hpf.val
      clear hf
      have hlen : (ptsTo (hOf s) (wOf s) (gOf s) (hOf s)).length ≤ 64 := by
        have h1 := ptsTo_len (hOf s) (wOf s) (gOf s) (hOf s)
        obtain ⟨h8, w8, _, _⟩ := good_h HT.out.1
        exact Nat.le_trans h1 (Nat.mul_le_mul h8 w8)
      obtain ⟨L, hL⟩ : ∃ L, ptsTo (hOf s) (wOf s) (gOf s) (hOf s) = L := ⟨_, rfl⟩
      rw [hL] at hpf hlen ⊢
      have HL := Lib.hid hL
      clear hL
      go_wp2_with fail
      refine (flip_any s (by omega) X Y hX hY _).mono ?_
      rintro e w3 ⟨hb3, hflip⟩
      obtain ⟨u, er, rfl, hcase⟩ : ∃ u er, e = .returned (.tuple #[.string u, .int .i64 er]) ∧ Hid ((isTo L X Y L.length = false ∧ u = ⟨#[]⟩ ∧ er = 5) ∨ (isTo L X Y L.length = true ∧ er = 0 ∧ ∃ x y : Nat, X = x ∧ Y = y ∧ turnAt (hOf s) (wOf s) (gOf s) x y = true ∧ u = ⟨(textOf (hOf s) (wOf s) (layG (gOf s) x y (gOf s y x == 108))).toArray⟩)) := by
        rcases hflip with ⟨hT3, rfl⟩ | ⟨hT3, hno, rfl⟩ | ⟨hT3, x, y, rfl, rfl, hx, hy, ht, rfl⟩
        · exact absurd HT.out hT3
        · refine ⟨_, _, rfl, Lib.hid (.inl ⟨?_, rfl, rfl⟩)⟩
          rw [Bool.eq_false_iff]
          intro h
          obtain ⟨p, hp, hp2⟩ := List.any_eq_true.1 h
          rw [List.take_length, ← HL.out] at hp
          simp at hp2
          have := (mem_ptsTo _ _ _ _ _).1 hp
          rw [hno p.1 p.2 hp2.1.symm hp2.2.symm] at this
          cases this
        · refine ⟨_, _, rfl, Lib.hid (.inr ⟨?_, rfl, x, y, rfl, rfl, ht, rfl⟩)⟩
          apply List.any_eq_true.2
          refine ⟨(x, y), ?_, by simp⟩
          rw [List.take_length, ← HL.out]
          exact (mem_ptsTo _ _ _ _ _).2 ht
      clear hflip cx2 cy2
      have hk3 := hk2.step hb3
      have hpf3 := hpf.below hb3
      clear hpf hb2 hb3
      go_wp2_with fail
      refine (laid_any s m _ (by omega) hk3.cm).mono ?_
      rintro e w4 ⟨hb4, ⟨hT4, rfl⟩ | ⟨hT4, rfl⟩⟩
      · exact absurd HT.out hT4
      clear hT4
      have hk4 := hk3.step hb4
      have hpf4 := hpf3.below hb4
      clear hpf3 hb4
      go_wp2_with fail
      refine (blocks_any s m _ (by omega) hk4.cm HT.out.1).mono ?_
      rintro e w5 ⟨hb5, vb, rfl, hv⟩
      have hk5 := hk4.step hb5
      have hpf5 := hpf4.below hb5
      clear hpf4 hb5
      rw [HL.out] at hv
      obtain ⟨A2, cp2, hpb⟩ := ptsAt_own hv
      obtain rfl := hpb.val
      clear hv
      have cx := hk5.cx
      have cy := hk5.cy
      generalize hLn : L.length = ln at *
      have HLn := Lib.hid hLn
      clear hLn
      go_wp2
      go_loopw [14, 75] (fun b i wr => ∃ k : Nat, k ≤ ln ∧ i = .int .i64 k ∧ b = .bool (isTo L X Y k) ∧ ∃ nq, wr = w5.drewN nq) (fun _ i _ => ln - (intOf i).toNat)
      case atStart => exact ⟨0, Nat.zero_le _, rfl, by simp [isTo], 0, rfl⟩
      case round =>
        obtain ⟨k, hk, rfl, rfl, nq, rfl⟩ := hrel
        by_cases hkl : k < ln
        · obtain ⟨p, hp⟩ : ∃ p, L[k]? = some p := ⟨_, List.getElem?_eq_getElem (by rw [HLn.out]; exact hkl)⟩
          have hnext : isTo L X Y (k + 1) = (isTo L X Y k || ((p.1 : Int) == X && (p.2 : Int) == Y)) := by
            unfold isTo
            rw [List.take_add_one, hp, List.any_append]
            simp
          have HX := Lib.hid hnext
          clear hnext
          obtain ⟨g, rfl, hg, a1, a2⟩ := hpb.at_ k p hp
          have hki : (k : Int) < (ln : Int) := by omega
          clear hp
          cases hb : isTo L X Y k
          · have HB := Lib.hid hb
            clear hb
            by_cases k1 : (p.1 : Int) = X
            · by_cases k2 : (p.2 : Int) = Y
              · have cx' : w5.cell? ⟨w.heap.size, 0, none⟩ = some (.int .i64 p.1) := by rw [k1]; exact cx
                have cy' : w5.cell? ⟨w.heap.size, 1, none⟩ = some (.int .i64 p.2) := by rw [k2]; exact cy
                have HK := Lib.hid (show isTo L X Y (k + 1) = true by rw [HX.out, HB.out, k1, k2]; simp)
                clear cx cy k1 k2
                go_wp2_with fail
                go_quiet (fail)
                go_wp2
                exact ⟨⟨k + 1, by omega, by go_num, by rw [HK.out], _, rfl⟩, by simp [intOf]; omega⟩
              · have b2 : ((p.2 : Int) == Y) = false := by simp [k2]
                have HK := Lib.hid (show isTo L X Y (k + 1) = false by rw [HX.out, HB.out, b2]; simp)
                have cx' : w5.cell? ⟨w.heap.size, 0, none⟩ = some (.int .i64 p.1) := by rw [k1]; exact cx
                clear k1 k2 cx
                go_wp2_with fail
                go_quiet (fail)
                go_wp2
                exact ⟨⟨k + 1, by omega, by go_num, by rw [HK.out], _, rfl⟩, by simp [intOf]; omega⟩
            · have b1 : ((p.1 : Int) == X) = false := by simp [k1]
              have HK := Lib.hid (show isTo L X Y (k + 1) = false by rw [HX.out, HB.out, b1]; simp)
              clear k1
              go_wp2_with fail
              go_quiet (fail)
              go_wp2
              exact ⟨⟨k + 1, by omega, by go_num, by rw [HK.out], _, rfl⟩, by simp [intOf]; omega⟩
          · have HB := Lib.hid hb
            clear hb
            go_wp2_with fail
            go_quiet (fail)
            have HK := Lib.hid (show isTo L X Y (k + 1) = true by rw [HX.out, HB.out]; simp)
            go_wp2
            exact ⟨⟨k + 1, by omega, by go_num, by rw [HK.out], _, rfl⟩, by simp [intOf]; omega⟩
        · obtain rfl : k = ln := by omega
          cases hb : isTo L X Y k
          · rcases hcase.out with ⟨_, rfl, rfl⟩ | ⟨hb2, _⟩
            rotate_left
            · rw [hb] at hb2; cases hb2
            clear hcase hb
            go_wp2_with fail
            refine (same_pts L (by rw [HLn.out]; omega) _ _ A A2 cp cp2 _ (hpf5.drewN nq) (hpb.drewN nq)).mono ?_
            rintro e w6 ⟨rfl, n2, rfl⟩
            go_wp2
            go_ret
            exact ⟨rfl, below_drewN hk5.below _⟩
          · rcases hcase.out with ⟨hb2, _⟩ | ⟨_, rfl, x, y, rfl, rfl, ht, rfl⟩
            · rw [hb] at hb2; cases hb2
            clear hcase hb
            have HTt := Lib.hid ht
            clear ht
            have HP1 := Lib.hid (putT_text HT.out.1 HTt.out 108 114 108 114)
            have HP2 := Lib.hid (putT_text HT.out.1 HTt.out 117 117 100 100)
            have HS := Lib.hid (putT_same HT.out.1 HTt.out)
            go_wp2_with fail
            refine (same_pts L (by rw [HLn.out]; omega) _ _ A A2 cp cp2 _ (hpf5.drewN nq) (hpb.drewN nq)).mono ?_
            rintro e w6 ⟨rfl, n2, rfl⟩
            by_cases h108 : gOf s y x = 108
            · have HU : Hid (textOf (hOf s) (wOf s) (layG (gOf s) x y (gOf s y x == 108)) = putT s x y 117 117 100 100) := Lib.hid (by rw [HP2.out, h108]; rfl)
              have HV := Lib.hid (HS.out.2 h108)
              rw [HU.out]
              clear HS HP1 HP2 HU h108
              go_wp2_with fail
              refine (put_tiling HT.out.1 HTt.out _ hs 108 114 108 114).mono ?_
              rintro e w7 ⟨rfl, hb7⟩
              have hk7 := (hk5.step (below_drewN (Below.refl _ _) (nq + n2))).step hb7
              have cx7 := hk7.cx
              have cy7 := hk7.cy
              rw [HV.out]
              go_wp2_with fail
              refine (put_tiling HT.out.1 HTt.out _ hs 117 117 100 100).mono ?_
              rintro e w8 ⟨rfl, hb8⟩
              have hk8 := hk7.step hb8
              go_wp2
              go_ret
              exact ⟨rfl, hk8.below⟩
            · have HU : Hid (textOf (hOf s) (wOf s) (layG (gOf s) x y (gOf s y x == 108)) = putT s x y 108 114 108 114) := Lib.hid (by rw [HP1.out, beq_eq_false_iff_ne.2 h108]; rfl)
              have hne : putT s x y 108 114 108 114 ≠ s := fun e => h108 (HS.out.1 e)
              rw [HU.out]
              clear HS HP1 HP2 HU h108
              go_wp2_with fail
              refine (put_tiling HT.out.1 HTt.out _ hs 108 114 108 114).mono ?_
              rintro e w7 ⟨rfl, hb7⟩
              have hk7 := (hk5.step (below_drewN (Below.refl _ _) (nq + n2))).step hb7
              have cx7 := hk7.cx
              have cy7 := hk7.cy
              have hq : (putT s x y 108 114 108 114 == s) = false := beq_eq_false_iff_ne.2 hne
              go_wp2_with fail
              refine (put_tiling HT.out.1 HTt.out _ hs 108 114 108 114).mono ?_
              rintro e w8 ⟨rfl, hb8⟩
              have hk8 := hk7.step hb8
              go_wp2
              go_ret
              exact ⟨rfl, hk8.below⟩
    · have hk2 := hk1.step hb2
      have cx2 := hk2.cx
      have cy2 := hk2.cy
      have HT := Lib.hid hT
      clear hT
      go_wp2_with fail
      refine (flip_any s (by omega) X Y hX hY _).mono ?_
      rintro e w3 ⟨hb3, ⟨hT3, rfl⟩ | ⟨hT3, hno, rfl⟩ | ⟨hT3, x, y, rfl, rfl, hx, hy, ht, rfl⟩⟩
      rotate_left
      · exact absurd hT3 HT.out
      · exact absurd hT3 HT.out
      clear hT3 cx2 cy2
      have hk3 := hk2.step hb3
      go_wp2_with fail
      refine (laid_any s m _ (by omega) hk3.cm).mono ?_
      rintro e w4 ⟨hb4, ⟨hT4, rfl⟩ | ⟨hT4, rfl⟩⟩
      rotate_left
      · exact absurd hT4 HT.out
      clear hT4
      have hk4 := hk3.step hb4
      go_wp2
      go_ret
      exact ⟨rfl, hk4.below⟩
end Go.Proofs.YtahihapgbcoanaaDoor
