/- The walk of the law DominoAztec. -/
import Derived.Test.YtahihapgbcoanaaDoorAzP
import Derived.Laws.CopyOwn
import Derived.Laws.MakeOwn
namespace Go.Proofs.YtahihapgbcoanaaDoor
open Go.RowKit

/-- A list of numbers that came in. -/
structure IntsAt (w : World) (A : Option Addr) (l : List Int) : Prop where
  at_ : ∀ (i : Nat) (x : Int), l[i]? = some x → ∃ g o, A = some ⟨g, o, none⟩ ∧ g < w.heap.size ∧ w.cell? ⟨g, o + i, none⟩ = some (.int .i64 x) ∧ -9223372036854775808 ≤ x ∧ x ≤ 9223372036854775807
theorem IntsAt.below {w w' : World} {A : Option Addr} {l : List Int} (h : IntsAt w A l) (hb : Below w.heap.size w w') : IntsAt w' A l :=
  ⟨fun i b hi => by
    obtain ⟨g, o, hA, hg, hc, h1, h2⟩ := h.at_ i b hi
    exact ⟨g, o, hA, Nat.lt_of_lt_of_le hg hb.size, (hb.cell (p := ⟨g, _, none⟩) hg).trans hc, h1, h2⟩⟩
theorem info4 : (Tryd.prog.info? 4).map (fun i => (i.zero, i.size, i.bytes)) = some (some (.bool false), 1, 1) := by kernel_rfl
theorem falses : ∀ n : Nat, madeCells (Value.cells (.bool false)) (n * 1) = (List.replicate n (Value.bool false)).toArray := by
  intro n
  have e : madeCells (Value.cells (.bool false)) (n * 1) = (Array.range (n * 1)).map fun _ => Value.bool false := by
    unfold madeCells
    apply Array.map_congr_left
    intro a _
    rw [show (Value.cells (.bool false)).size = 1 from rfl, Nat.mod_one]
    rfl
  rw [e, Nat.mul_one]
  apply Array.ext'
  simp [List.map_const']
theorem make_bools (P : Nat) (hP : P ≤ 64) : ∀ w : World, (Instr.makeSlice 49 (.int .i64 (P : Int)) (.int .i64 (P : Int))).run Tryd.prog w = .ok (.slice (some ⟨w.heap.size, 0, none⟩) P P) (w.alloc (.cells (Array.replicate P (Value.bool false)) 4)) := by
  obtain ⟨i, hi, hz, hs, hb⟩ := info_parts info4
  intro w
  have h := run_make (P := Tryd.prog) w 49 4 i (.bool false) Tryd.underlying49 hi hz .i64 .i64 (P : Int) (P : Int) (by omega) (Int.le_refl _) (by rw [hb]; omega) (by omega)
  rw [hs, Int.toNat_natCast, falses, List.toArray_replicate] at h
  exact h
/-- What copy leaves in the row. -/
def laidBools (P : Nat) (up : List Bool) : List Bool := up.take P ++ List.replicate (P - up.length) false
theorem laidBools_len (P : Nat) (up : List Bool) : (laidBools P up).length = P := by simp [laidBools]; omega
theorem splice_bools (P : Nat) (up : List Bool) : splice (List.replicate P (Value.bool false)) 0 ((up.take P).map Value.bool) = (laidBools P up).map Value.bool := by
  simp [splice, laidBools]
  omega
theorem bools_row {w : World} {g : Nat} {l : List Bool} {t : TypeId} (h : w.heap[g]? = some (.cells (l.map Value.bool).toArray t (0, 0))) : BoolsAt w (some ⟨g, 0, none⟩) l := by
  refine ⟨fun i b hi => ⟨g, 0, rfl, (Array.getElem?_eq_some_iff.1 h).1, ?_⟩⟩
  simp only [World.cell?, h]
  simp [hi]
theorem bools_set {w : World} {g : Nat} {l : List Bool} {t : TypeId} (h : w.heap[g]? = some (.cells (l.map Value.bool).toArray t (0, 0))) (q : Nat) (b : Bool) :
    (w.setCell ⟨g, q, none⟩ (.bool b)).heap[g]? = some (.cells ((l.set q b).map Value.bool).toArray t (0, 0)) := by
  simp [World.setCell, Array.getElem?_modify, h, List.map_set]

set_option maxRecDepth 100000 in
set_option maxHeartbeats 16000000 in
theorem aztec_law (n : Int) (hn : -9223372036854775808 ≤ n ∧ n ≤ 9223372036854775807) (tu : List Int) (up : List Bool) (A1 A2 : Option Addr) (c1 c2 : Nat) (w : World) (_htu : tu.length ≤ 9223372036854775807) (hup : up.length ≤ 9223372036854775807) (hT : Lib.Utf8Tabs 1 2 w) (hA1 : IntsAt w A1 tu) (hA2 : BoolsAt w A2 up) :
    Calls Tryd.prog 7 #[.int .i64 n, .slice A1 tu.length c1, .slice A2 up.length c2] w fun e w' => e = .returned (.bool true) ∧ Below w.heap.size w w' := by
  go_enter Tryd.func7, Tryd.ntmps7
  go_wp2_with fail
  refine (pick_any n 4 hn (by decide) (by decide) _).mono ?_
  rintro e w0 ⟨rfl, hw0⟩
  rw [hw0]
  clear hw0
  have hbd := pickI_bd (k := n) (n := 4) (by decide)
  obtain ⟨q, hq⟩ : ∃ q : Nat, pickI n 4 = (q : Int) := ⟨(pickI n 4).toNat, by omega⟩
  rw [hq]
  obtain ⟨m, hm⟩ : ∃ m : Nat, 1 + q = m := ⟨_, rfl⟩
  have h1 : 1 ≤ m := by omega
  have h4 : m ≤ 4 := by omega
  have hqm : 1 + (q : Int) = (m : Int) := by omega
  have HM := Lib.hid hm
  clear hbd hq hm
  go_wp2_with fail
  refine (Aztec_any (m : Int) (by omega) _).mono ?_
  rintro e w1 ⟨hb1, ⟨hbad, _⟩ | ⟨m', hmm, _, _, rfl⟩⟩
  · omega
  obtain rfl : m = m' := by omega
  clear hmm hqm HM
  have HG := Lib.hid (az_good h1 h4)
  have hsl : (azT m).length ≤ 71 := good_len HG.out
  go_wp2_with fail
  refine (count_any (azT m) (by omega) _).mono ?_
  rintro e w2 ⟨hb2, ⟨hng, rfl⟩ | ⟨_, rfl⟩⟩
  · exact absurd HG.out hng
  rw [az_count h1 h4]
  have hb02 := hb1.trans (hb2.mono hb1.size)
  clear hb1 hb2
  obtain ⟨c, hc⟩ : ∃ c : Nat, 2 ^ (m * (m + 1) / 2) = c := ⟨_, rfl⟩
  rw [hc]
  have HC := Lib.hid hc
  clear hc
  have HCW := Lib.hid (az_count h1 h4)
  go_upto_region 4 with fail
  go_cut [52] from 24 (fun s52 wc => s52 = .bool false ∧ wc = w2)
  case first =>
    obtain rfl | rfl | rfl | rfl : m = 1 ∨ m = 2 ∨ m = 3 ∨ m = 4 := by omega
    · obtain rfl : 2 = c := HC.out
      go_wp2_with fail
      go_meet
      case rel => exact ⟨rfl, rfl⟩
    · obtain rfl : 8 = c := HC.out
      go_wp2_with fail
      go_meet
      case rel => exact ⟨rfl, rfl⟩
    · obtain rfl : 64 = c := HC.out
      go_wp2_with fail
      go_meet
      case rel => exact ⟨rfl, rfl⟩
    · obtain rfl : 1024 = c := HC.out
      go_wp2_with fail
      go_meet
      case rel => exact ⟨rfl, rfl⟩
  case rest =>
    obtain ⟨rfl, rfl⟩ := hcut
    go_wp2_with fail
    refine (First_any (azT m) (by omega) _).mono ?_
    rintro e w3 ⟨hb3, ⟨hng, rfl⟩ | ⟨_, hw, rfl⟩ | ⟨_, hw, rfl⟩⟩
    · exact absurd HG.out hng
    · have h := way_pos HG.out
      rw [hw, HCW.out] at h
      exact absurd (h.2 (Nat.two_pow_pos _)) (by decide)
    have hft := fill_text HG.out hw
    clear hw
    obtain ⟨t0, ht0⟩ : ∃ t0, textOf (hOf (azT m)) (wOf (azT m)) (fillF (hOf (azT m)) (wOf (azT m)) (gOf (azT m)) (hOf (azT m) * wOf (azT m)) 0 0 (gOf (azT m))) = t0 := ⟨_, rfl⟩
    rw [ht0] at hft ⊢
    have HA0 : Hid (AzTile m t0) := Lib.hid hft
    have hb03 := hb02.trans (hb3.mono hb02.size)
    clear ht0 hft hb02 hb3 HCW HC
    go_wp2
    go_loopw [9, 12, 13] (fun e t i wr => ∃ (x : Nat) (s : List UInt8), x ≤ tu.length ∧ x ≤ 40 ∧ i = .int .i64 x ∧ e = .int .i64 0 ∧ t = .string ⟨s.toArray⟩ ∧ Hid (AzTile m s) ∧ Below w.heap.size w wr) (fun _ _ i _ => 41 - (intOf i).toNat)
    case atStart => exact ⟨0, t0, Nat.zero_le _, Nat.zero_le _, rfl, rfl, rfl, HA0, hb03⟩
    case round =>
      clear HA0 hb03
      obtain ⟨x, s, hx1, hx2, rfl, rfl, rfl, HA, hbr⟩ := hrel
      have hsl2 := HA.out.len
      go_upto_region 8 with fail
      go_cut [69] from 58 to 94 (fun b wz => b = .bool (decide (x < tu.length ∧ x < 40)) ∧ wz = wr)
      case first =>
        by_cases a1 : x < tu.length
        · have a1i : (x : Int) < (tu.length : Int) := by omega
          by_cases a2 : x < 40
          · have a2i : (x : Int) < 40 := by omega
            have HD := Lib.hid (show decide (x < tu.length ∧ x < 40) = true from decide_eq_true ⟨a1, a2⟩)
            go_wp2_with fail
            go_meet
            case rel => exact ⟨by rw [HD.out], rfl⟩
          · have a2i : decide ((x : Int) < 40) = false := decide_eq_false (by omega)
            have HD := Lib.hid (show decide (x < tu.length ∧ x < 40) = false from decide_eq_false (fun h => a2 h.2))
            clear a2
            go_wp2_with fail
            go_meet
            case rel => exact ⟨by rw [HD.out], rfl⟩
        · have a1i : ¬ (x : Int) < (tu.length : Int) := by omega
          have HD := Lib.hid (show decide (x < tu.length ∧ x < 40) = false from decide_eq_false (fun h => a1 h.1))
          go_wp2_with fail
          go_meet
          case rel => exact ⟨by rw [HD.out], rfl⟩
      case rest =>
        obtain ⟨hs69, hwz⟩ := hcut
        rw [hwz]
        clear hwz
        have hTr := tabs_below hT hbr
        by_cases hx : x < tu.length ∧ x < 40
        · rw [decide_eq_true hx] at hs69
          subst hs69
          obtain ⟨z, hz⟩ : ∃ z, tu[x]? = some z := ⟨_, List.getElem?_eq_getElem hx.1⟩
          obtain ⟨g1, o1, hAe, hg1, hc1, hz1, hz2⟩ := hA1.at_ x z hz
          subst hAe
          have hxi : (x : Int) < (tu.length : Int) := by omega
          clear hz
          go_wp2_with fail
          refine (flips_any s (by omega) _).mono ?_
          rintro e w4 ⟨hb4, ⟨hnT, rfl⟩ | ⟨_, vf, rfl, hfl⟩⟩
          · exact absurd HA.out.1 hnT
          have hb04 := hbr.trans (hb4.mono hbr.size)
          obtain ⟨A, cp, hpf⟩ := ptsAt_own hfl
          obtain rfl := hpf.val
          clear hfl hb4 hbr hTr
          have hlen : (ptsTo (hOf s) (wOf s) (gOf s) (hOf s)).length ≤ 64 := by
            have h1 := ptsTo_len (hOf s) (wOf s) (gOf s) (hOf s)
            obtain ⟨h8, w8, _, _⟩ := good_h HA.out.1.1
            exact Nat.le_trans h1 (Nat.mul_le_mul h8 w8)
          have hpos := HA.out.blocks h1 h4
          obtain ⟨L, hL⟩ : ∃ L, ptsTo (hOf s) (wOf s) (gOf s) (hOf s) = L := ⟨_, rfl⟩
          rw [hL] at hpf hlen hpos ⊢
          have HL := Lib.hid hL
          clear hL
          have hz0 : (((L.length : Nat) : Int) == 0) = false := beq_eq_false_iff_ne.2 (by omega)
          have hbd := pickI_bd (k := z) (n := (L.length : Int)) (by omega)
          obtain ⟨q, hq⟩ : ∃ q : Nat, pickI z (L.length : Int) = (q : Int) := ⟨(pickI z (L.length : Int)).toNat, by omega⟩
          have hqL : q < L.length := by omega
          have hqi : (q : Int) < (L.length : Int) := by omega
          obtain ⟨p, hp⟩ : ∃ p, L[q]? = some p := ⟨_, List.getElem?_eq_getElem hqL⟩
          have htp : turnAt (hOf s) (wOf s) (gOf s) p.1 p.2 = true := by
            refine (mem_ptsTo _ _ _ _ _).1 ?_
            rw [HL.out]
            exact List.mem_of_getElem? hp
          obtain ⟨g, rfl, hg, b1, b2⟩ := hpf.at_ q p hp
          have HP := Lib.hid htp
          have c1' : w4.cell? ⟨g1, o1 + x, none⟩ = some (.int .i64 z) := (hb04.cell (p := ⟨g1, _, none⟩) hg1).trans hc1
          clear htp hpf hp hc1
          go_wp2_with fail
          refine (pick_any z (L.length : Int) ⟨hz1, hz2⟩ (by omega) (by omega) _).mono ?_
          rintro e w5 ⟨rfl, hw5⟩
          rw [hw5, hq]
          clear hw5 hbd hq
          obtain ⟨px, py⟩ := p
          have hlt := turnAt_lt HP.out
          have h88 := good_h HA.out.1.1
          go_wp2_with fail
          refine (flip_any s (by omega) (px : Int) (py : Int) (by omega) (by omega) _).mono ?_
          rintro e w7 ⟨hb7, ⟨hn, rfl⟩ | ⟨_, hno, rfl⟩ | ⟨_, x', y', hx', hy', _, _, _, rfl⟩⟩
          · exact absurd HA.out.1 hn
          · have h1 := hno px py rfl rfl
            rw [HP.out] at h1
            cases h1
          obtain rfl : px = x' := by omega
          obtain rfl : py = y' := by omega
          clear hx' hy'
          have hfl : textOf (hOf s) (wOf s) (layG (gOf s) px py (gOf s py px == 108)) = flipT s px py := rfl
          rw [hfl]
          clear hfl
          have HA2 : Hid (AzTile m (flipT s px py)) := Lib.hid (HA.out.flip HP.out)
          have hb07 := hb04.trans (hb7.mono hb04.size)
          clear hb04 hb7 b1 b2 c1'
          go_wp2_with fail
          go_roundw
          case rel => go_light; exact ⟨x + 1, flipT s px py, by omega, by omega, by go_num, rfl, rfl, HA2, hb07⟩
          case measure => go_light; simp [intOf]; omega
        · rw [decide_eq_false hx] at hs69
          subst hs69
          clear hx hx1 hx2
          go_wp2_with fail
          refine (needs_any s (by omega) _ hTr).mono ?_
          intro e w5 hne
          obtain ⟨hb5, ⟨er, her, rfl⟩ | ⟨n', hd, rfl⟩⟩ := hne
          · obtain ⟨rfl, rfl⟩ := HA.out.err h1 h4 her
            go_wp2_with fail
            go_ret
            exact ⟨rfl, hbr.trans (hb5.mono hbr.size)⟩
          have hnm := HA.out.dia_only h1 h4 hd
          rw [hnm] at hd ⊢
          clear hnm
          have h3 : m ≤ 3 := hd.2.2.2.1
          obtain ⟨ps, p1, p2, p3, p4, p5, p6⟩ := HA.out.shuffle h1 h3
          rw [p4]
          obtain ⟨P, hP⟩ : ∃ P, ps.length = P := ⟨_, rfl⟩
          rw [hP] at p2 p3 p5 p6 ⊢
          have HP := Lib.hid hP
          have H1 := Lib.hid p1
          have H5 := Lib.hid p5
          have H6 := Lib.hid p6
          have hb05 := hbr.trans (hb5.mono hbr.size)
          have hT5 := tabs_below hT hb05
          clear hP p1 p4 p5 p6 hd hb5 hbr hTr
          have hm4 : ((m : Int) == 4) = false := beq_eq_false_iff_ne.2 (by omega)
          have hPm : ¬ (P : Int) < (m : Int) + 1 := by omega
          have hmk := make_bools P p3
          go_upto_region 22 with fail
          have hrow : (w5.alloc (.cells (Array.replicate P (Value.bool false)) 4)).heap[w5.heap.size]? = some (.cells (List.replicate P (Value.bool false)).toArray 4 (0, 0)) := by
            rw [List.toArray_replicate]
            exact World.alloc_heap_new w5 _
          have hbA : Below w5.heap.size w5 (w5.alloc (.cells (Array.replicate P (Value.bool false)) 4)) := (Below.refl _ w5).alloc (Nat.le_refl _) _
          have hA2' : BoolsAt (w5.alloc (.cells (Array.replicate P (Value.bool false)) 4)) A2 up := (hA2.below hb05).below hbA
          generalize w5.alloc (.cells (Array.replicate P (Value.bool false)) 4) = w6 at hrow hbA hA2' ⊢
          obtain ⟨g, hg⟩ : ∃ g, w5.heap.size = g := ⟨_, rfl⟩
          have hwg : w.heap.size ≤ g := by rw [← hg]; exact hb05.size
          rw [hg] at hrow ⊢
          have hb06 : Below w.heap.size w w6 := hb05.trans (hbA.mono hb05.size)
          have hsz : (Tryd.prog.info? 4).map (·.size) = some 1 := by kernel_rfl
          have hpos : 0 < ((up.take P).map Value.bool).length → (some (⟨g, 0, none⟩ : Addr)) = some ⟨g, 0, none⟩ ∧ ∃ ad, A2 = some ad ∧ ∀ j v, ((up.take P).map Value.bool)[j]? = some v → w6.cell? (ad.add j) = some v := by
            intro h0
            refine ⟨rfl, ?_⟩
            have hup0 : 0 < up.length := by simp at h0; omega
            obtain ⟨g2, o2, hA, _, _⟩ := hA2'.at_ 0 _ (List.getElem?_eq_getElem hup0)
            refine ⟨_, hA, fun j v hj => ?_⟩
            rw [List.getElem?_map] at hj
            obtain ⟨bv, hbv, rfl⟩ : ∃ bv, (up.take P)[j]? = some bv ∧ Value.bool bv = v := by
              cases hq : (up.take P)[j]? with
              | none => rw [hq] at hj; cases hj
              | some bv => rw [hq] at hj; exact ⟨bv, rfl, Option.some.inj hj⟩
            have hbu : up[j]? = some bv := by
              rw [List.getElem?_take] at hbv
              split at hbv
              · exact hbv
              · cases hbv
            obtain ⟨g3, o3, hA3, _, hc3⟩ := hA2'.at_ j bv hbu
            rw [hA] at hA3
            have e := Option.some.inj hA3
            rw [e, Go.WideShapes.add_plain]
            exact hc3
          have hcs : ((up.take P).map Value.bool).length = Nat.min up.length P := by rw [List.length_map, List.length_take]; exact Nat.min_comm _ _
          have hone : ∀ v ∈ (up.take P).map Value.bool, v.oneCell' = true := by
            intro v hv
            obtain ⟨b, _, rfl⟩ := List.mem_map.1 hv
            rfl
          have hfit : 0 + ((up.take P).map Value.bool).length ≤ (List.replicate P (Value.bool false)).length := by simp; omega
          clear hA2' hmk hbA hb05 hT5
          go_wp2_with (first | (refine wpList_copy_splice rfl (.tmp 116) (.tmp 117) 49 49 rfl 4 Tryd.underlying49 hsz _ _ _ _ _ _ rfl rfl g 0 (List.replicate P (.bool false)) 4 hrow ((up.take P).map Value.bool) hcs hpos hfit hone w.heap.size w hb06 hwg ?_; intro w7 hr7 hb07) | fail)
          have hrow7 : w7.heap[g]? = some (.cells ((laidBools P up).map Value.bool).toArray 4 (0, 0)) := by
            have h := hr7.out
            rw [splice_bools] at h
            exact h
          have hB7 := bools_row hrow7
          have hT7 := tabs_below hT hb07
          obtain ⟨u0, hu0⟩ : ∃ u0, laidBools P up = u0 := ⟨_, rfl⟩
          have hu0l : u0.length = P := by rw [← hu0]; exact laidBools_len P up
          rw [hu0] at hrow7 hB7
          clear hr7 hrow hb06 hpos hcs hone hfit hu0
          have hsh := shuffle_any s u0 (some ⟨g, 0, none⟩) P ps (by omega) (by omega) w7 hT7 hB7 (fun n hd => by rw [HA.out.dia_only h1 h4 hd]; exact H1.out) (by rw [HP.out]; exact p3)
          rw [hu0l] at hsh
          refine hsh.mono ?_
          rintro e w8 ⟨hb8, ⟨er, her, _⟩ | ⟨n', hd, ⟨hbad, _⟩ | ⟨_, rfl⟩⟩⟩
          · have := (HA.out.err h1 h4 her).1
            omega
          · exact absurd (by rw [HP.out, hu0l]) hbad
          have hnm := HA.out.dia_only h1 h4 hd
          rw [hnm]
          clear hnm hd
          have hvt := H5.out u0 (by rw [hu0l])
          have hdf := H6.out u0
          obtain ⟨v, hv⟩ : ∃ v, textOf (2 * (m + 1)) (2 * (m + 1)) (layAll (shG m (gOf s)) ps u0) = v := ⟨_, rfl⟩
          rw [hv] at hvt hdf ⊢
          have HV := Lib.hid hvt
          have HDF := Lib.hid hdf
          have hvl := hvt.len
          have hg7 : g < w7.heap.size := (Array.getElem?_eq_some_iff.1 hrow7).1
          have hrow8 : w8.heap[g]? = some (.cells (u0.map Value.bool).toArray 4 (0, 0)) := (hb8.block g hg7).trans hrow7
          have hb08 := hb07.trans (hb8.mono hb07.size)
          have hT8 := tabs_below hT hb08
          clear hv hvt hdf hrow7 hB7 hT7 hb8 hsh hg7 hb07
          go_wp2_with fail
          refine (board_any v (by omega) _ hT8).mono ?_
          rintro e w9 ⟨hb9, ⟨hn, rfl⟩ | ⟨_, rfl⟩⟩
          · exact absurd HV.out.1 hn
          rw [HV.out.2]
          have hg8 : g < w8.heap.size := (Array.getElem?_eq_some_iff.1 hrow8).1
          have hrow9 : w9.heap[g]? = some (.cells (u0.map Value.bool).toArray 4 (0, 0)) := (hb9.block g hg8).trans hrow8
          have hb09 := hb08.trans (hb9.mono hb08.size)
          clear hrow8 hT8 hb9 hb08 hg8
          go_wp2_with fail
          refine (Aztec_any ((m : Int) + 1) (by omega) _).mono ?_
          rintro e w10 ⟨hb10, ⟨hbad, _⟩ | ⟨m', hmm, _, _, rfl⟩⟩
          · omega
          obtain rfl : m + 1 = m' := by omega
          have hg9 : g < w9.heap.size := (Array.getElem?_eq_some_iff.1 hrow9).1
          have hrow : w10.heap[g]? = some (.cells (u0.map Value.bool).toArray 4 (0, 0)) := (hb10.block g hg9).trans hrow9
          have hb010 := hb09.trans (hb10.mono hb09.size)
          clear hrow9 hb10 hb09 hg9 hmm
          have hbd := pickI_bd (k := n) (n := (P : Int)) (by omega)
          obtain ⟨q2, hq2⟩ : ∃ q2 : Nat, pickI n (P : Int) = (q2 : Int) := ⟨(pickI n (P : Int)).toNat, by omega⟩
          have hqP : q2 < P := by omega
          have hqi : (q2 : Int) < (P : Int) := by omega
          obtain ⟨bv, hbv⟩ : ∃ bv, u0[q2]? = some bv := ⟨_, List.getElem?_eq_getElem (by omega)⟩
          have c1' : w10.cell? ⟨g, q2, none⟩ = some (.bool bv) := by
            simp only [World.cell?, hrow]
            simp [hbv]
          have f1 : w10.frozen? ⟨g, q2, none⟩ = false := by
            simp only [World.frozen?, hrow]
            simp
          have hset := bools_set hrow q2 (!bv)
          have HNE := Lib.hid (HDF.out (u0.set q2 (!bv)) q2 bv (!bv) hbv (List.getElem?_set_self (by omega)) (by cases bv <;> decide) (by rw [hu0l]) (by rw [List.length_set, hu0l]))
          have HQ := Lib.hid hq2
          clear hbd hq2 hbv
          go_wp2_with fail
          refine (pick_any n (P : Int) hn (by omega) (by omega) _).mono ?_
          rintro e w11 ⟨rfl, hw11⟩
          rw [hw11, HQ.out]
          clear hw11
          go_wp2_with fail
          refine (pick_any n (P : Int) hn (by omega) (by omega) _).mono ?_
          rintro e w12 ⟨rfl, hw12⟩
          rw [hw12, HQ.out]
          clear hw12
          go_wp2_with fail
          have hb11 : Below w.heap.size w (w10.setCell ⟨g, q2, none⟩ (.bool (!bv))) := hb010.setCell (p := ⟨g, q2, none⟩) hwg _
          have hB11 := bools_row hset
          have hT11 := tabs_below hT hb11
          generalize w10.setCell ⟨g, q2, none⟩ (.bool (!bv)) = w11 at hb11 hB11 hT11 ⊢
          clear hset hrow c1' f1 hb010
          have hsh := shuffle_any s (u0.set q2 (!bv)) (some ⟨g, 0, none⟩) P ps (by omega) (by rw [List.length_set]; omega) w11 hT11 hB11 (fun n hd => by rw [HA.out.dia_only h1 h4 hd]; exact H1.out) (by rw [HP.out]; exact p3)
          rw [List.length_set, hu0l] at hsh
          refine hsh.mono ?_
          rintro e w12 ⟨hb12, ⟨er, her, _⟩ | ⟨n', hd, ⟨hbad, _⟩ | ⟨_, rfl⟩⟩⟩
          · have := (HA.out.err h1 h4 her).1
            omega
          · exact absurd (by rw [HP.out, List.length_set, hu0l]) hbad
          rw [HA.out.dia_only h1 h4 hd]
          have hne := HNE.out
          obtain ⟨v2, hv2⟩ : ∃ v2, textOf (2 * (m + 1)) (2 * (m + 1)) (layAll (shG m (gOf s)) ps (u0.set q2 (!bv))) = v2 := ⟨_, rfl⟩
          rw [hv2] at hne ⊢
          have e1 : (v2 == v) = false := beq_eq_false_iff_ne.2 (fun e => hne e.symm)
          have e2 : (v == v2) = false := beq_eq_false_iff_ne.2 hne
          clear hv2 hne hsh hd
          go_wp2_with fail
          go_ret
          exact ⟨rfl, hb11.trans (hb12.mono hb11.size)⟩
end Go.Proofs.YtahihapgbcoanaaDoor
