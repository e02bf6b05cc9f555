/- The walk of domino.First's closure: the way on which a domino is tried flat first. -/
import Derived.Test.YtahihapgbcoanaaDoorFirstW
import Derived.Deep.Cut
namespace Go.Proofs.YtahihapgbcoanaaDoor
open Go.RowKit Go.Maps

set_option maxRecDepth 100000 in
set_option maxHeartbeats 16000000 in
theorem from_hash0 (B top cap h W cl cw cd cf bm : Nat) (rb rc : Nat → Nat) (S : Nat → Nat → UInt8) (w0 : 0 < W) (w8 : W ≤ 8) (h8 : h ≤ 8) (n : Nat) (ih : FromIh B top cap rb rc h W S cl cw cd cf bm n)
    (k m c : Nat) (G : Nat → Nat → UInt8) (D : DataW Unit) (w : World) (hk : k + (n + 1) = h * W) (I : InvF h W S k m G) (hD : DeadOk h W S D) (hc : c + budget W (n + 1) m ≤ 9000000000000) (F : FW w B top cap rb rc h W G cl cw cd cf bm c D) (ho : m % 2 = 0) (hs : S (k / W) (k % W) = 35) (hlie : lieB W S (k / W) (k % W) m = true) :
    Calls Tryd.prog 39 #[.int .i64 k, .int .i64 m, .pointer (some ⟨cw, 0, none⟩), .pointer (some ⟨cl, 0, none⟩), .pointer (some ⟨cd, 0, none⟩), .pointer (some ⟨cf, 0, none⟩)] w (FromG B top cap rb rc h W S cl cw cd cf bm (n + 1) k m c G w) := by
  obtain ⟨kl, hkl⟩ := key70 (k : Int) (m : Int) (WalkArith.wf_i64 (by have := Nat.mul_le_mul h8 w8; omega)) (WalkArith.wf_i64 (by have := Nat.lt_of_lt_of_le I.lt (two_pow8 w8); omega))
  obtain ⟨N, hN⟩ : ∃ N, h * W = N := ⟨_, rfl⟩
  have hN64 : N ≤ 64 := by rw [← hN]; exact Nat.mul_le_mul h8 w8
  have hmul : (W : Int) * (h : Int) = (N : Int) := by rw [← hN, Int.natCast_mul]; exact Int.mul_comm _ _
  have hkN : k < N := by omega
  have hkW : k < h * W := by omega
  have hkNe : ((k : Int) == (N : Int)) = false := beq_eq_false_iff_ne.2 (by omega)
  have hm256 : m < 256 := Nat.lt_of_lt_of_le I.lt (two_pow8 w8)
  have hhere := I.here hkW
  have hlieS := fun q => I.lie hkW q
  have hstandS := fun q => I.stand w0 q
  have hbud := budget_half (n := n) w0 w8 I.lt
  have hbud2 := fun q => budget_both (n := n) w0 w8 I.lt q
  have hdead := fun c6 q => hD k m kl c6 hkl q
  rw [show h * W - k = n + 1 from by omega] at hdead
  have hwu : wayF h W S (n + 1) k m = if m % 2 = 1 then wayF h W S n (k + 1) (m / 2) else if S (k / W) (k % W) ≠ 35 then wayF h W S n (k + 1) (m / 2) else (lieB W S (k / W) (k % W) m && wayF h W S n (k + 1) (m / 2 ||| 1)) || (standB h S (k / W) (k % W) && wayF h W S n (k + 1) (m / 2 ||| 2 ^ (W - 1))) := rfl
  have hfu : fillF h W S (n + 1) k m G = if m % 2 = 1 then fillF h W S n (k + 1) (m / 2) G else if S (k / W) (k % W) ≠ 35 then fillF h W S n (k + 1) (m / 2) G else if lieB W S (k / W) (k % W) m && wayF h W S n (k + 1) (m / 2 ||| 1) then fillF h W S n (k + 1) (m / 2 ||| 1) (set2 G (k / W) (k % W) 108 (k / W) (k % W + 1) 114) else fillF h W S n (k + 1) (m / 2 ||| 2 ^ (W - 1)) (set2 G (k / W) (k % W) 117 (k / W + 1) (k % W) 100) := rfl
  obtain ⟨i, hi⟩ : ∃ i, k / W = i := ⟨_, rfl⟩
  obtain ⟨j, hj⟩ : ∃ j, k % W = j := ⟨_, rfl⟩
  obtain ⟨z, hz⟩ : ∃ z, m / 2 = z := ⟨_, rfl⟩
  have hdi : (k : Int) / (W : Int) = (i : Int) := by rw [← hi]; exact (Int.natCast_ediv k W).symm
  have hdj : (k : Int) % (W : Int) = (j : Int) := by rw [← hj]; exact (Int.natCast_emod k W).symm
  have hdz : (m : Int) / 2 = (z : Int) := by omega
  have hz128 : z < 128 := by omega
  have hih : i < h := by rw [← hi]; exact code_row hkW
  have hjW : j < W := by rw [← hj]; exact Nat.mod_lt _ w0
  have hW0 : ((W : Int) == 0) = false := beq_eq_false_iff_ne.2 (by omega)
  rw [hi, hj] at hhere hlieS hstandS
  rw [hz] at hlieS hstandS hbud hbud2
  rw [hi, hj, hz] at hwu hfu
  have hand : bits BinOp.and IntKind.i64 (m : Int) 1 = 0 := by rw [and_one_i64 m (by omega), ho]; rfl
  rw [hi, hj] at hs
  have HGS := Lib.hid (show G i j = 35 by rw [hhere.2 ho, hs])
  rw [if_neg (by omega), if_neg (by rw [hs]; decide)] at hwu hfu
  obtain ⟨T, hT⟩ : ∃ T, 2 ^ (W - 1) = T := ⟨_, rfl⟩
  have hT128 : T ≤ 128 := by rw [← hT]; have : 2 ^ (W - 1) ≤ 2 ^ 7 := Nat.pow_le_pow_right (by decide) (by omega); simpa using this
  have hWi : ((W : Int) - 1).toNat = W - 1 := by omega
  have hWi2 : (0 : Int) ≤ (W : Int) - 1 := by omega
  have hTi : (2 : Int) ^ (W - 1) = (T : Int) := by rw [← hT]; simp
  have hors : bits BinOp.or IntKind.i64 (z : Int) (T : Int) = ((z ||| T : Nat) : Int) := or_i64 z T (by omega) (by omega)
  have horl : bits BinOp.or IntKind.i64 (z : Int) 1 = ((z ||| 1 : Nat) : Int) := or_i64 z 1 (by omega) (by omega)
  have hbT := hbud2 ho
  have hright := fun q1 q2 => I.right hkW q1 q2
  have hdown := fun q => I.down w0 q
  rw [hi, hj] at hright hdown
  rw [hz] at hright
  have HDN := Lib.hid hdown
  have HRT := Lib.hid hright
  clear hdown hright
  rw [hT] at hwu hfu hstandS hbT
  clear hs hbud2
  rw [hi, hj] at hlie
  have hlb := hlie
  simp only [lieB, Bool.and_eq_true, decide_eq_true_eq] at hlb
  obtain ⟨hl1, hl2, hl3⟩ := hlb
  rw [hz] at hl2
  have HL := Lib.hid (hlieS hlie)
  have hbT1 := hbT.1
  have hbT2 := hbT.2
  clear hbT
  have c1 := F.l
  have c2 := F.w_
  have c3 := F.d
  have c4 := F.f
  have r1 := F.g.row i hih
  have g1 : w.cell? ⟨rb i, j, none⟩ = some (.int .u8 35) := by rw [F.g.cell i j hih hjW, HGS.out]; rfl
  have HN := Lib.hid hN
  have HI := Lib.hid hi
  have HJ := Lib.hid hj
  have HZ := Lib.hid hz
  have HWU := Lib.hid hwu
  have HFU := Lib.hid hfu
  have q1 : (j : Int) + 1 < (W : Int) := by omega
  have hand2 : bits BinOp.and IntKind.i64 (m : Int) 2 = 0 := by rw [and_two_i64 m hm256, HZ.out, hl2]; rfl
  have g2 : w.cell? ⟨rb i, j + 1, none⟩ = some (.int .u8 35) := by rw [F.g.cell i (j + 1) hih hl1, HL.out.2]; rfl
  have HLB := Lib.hid hlie
  have hbT1 := hbT1 hl2
  clear hl2 hl3 hlie
  clear hN hi hj hz hwu hfu hhere hlieS hkW
  go_enter Tryd.func39, Tryd.ntmps39
  go_wp2_with fail
  go_quiet (fail)
  have Fq := F.drewN nq
  go_upto_if 58 with (first
    | (at_lookup; refine wpList_lookup_own_int _ rfl _ _ 68 rfl 70 3 .i64 law70 Tryd.underlying68 Tryd.underlying3 (zero3 _) bm _ _ rfl (F.drewN _).m _ _ rfl hkl ?_; intro c6 hat6 hwc6)
    | fail)
  · have hw9 := hdead c6 hat6 (by assumption)
    go_ret
    exact FromG.mk_no hw9 (below_drewN (Below.refl _ _) _) hD (Nat.le_add_right _ _) (F.drewN _)
  · have hbw : Below B w (w.drewN nq) := below_drewN (Below.refl _ _) _
    clear c1 c2 c3 c4 r1 g1 g2
    generalize w.drewN nq = wq at Fq hbw ⊢
    go_cut [] from 12 (fun wc => ∃ D', DeadOk h W S D' ∧ FW wc B top cap rb rc h W G cl cw cd cf bm (c + budget W n (z ||| 1)) D' ∧ Below B w wc ∧ wayF h W S n (k + 1) (z ||| 1) = false)
    case first =>
      have c1 := Fq.l
      have r1 := Fq.g.row i hih
      have g1 : wq.cell? ⟨rb i, j, none⟩ = some (.int .u8 35) := by rw [Fq.g.cell i j hih hjW, HGS.out]; rfl
      have g2 : wq.cell? ⟨rb i, j + 1, none⟩ = some (.int .u8 35) := by rw [Fq.g.cell i (j + 1) hih hl1, HL.out.2]; rfl
      have f1 := Fq.g.frz i j hih hjW
      have f2 := Fq.g.frz i (j + 1) hih hl1
      have n3 : rb i ≠ top := Fq.g.apart i hih
      have n5 : top ≠ rb i := fun e => n3 e.symm
      have n7 : cl ≠ rb i := fun e => (Fq.ap i hih).1 e.symm
      have i1 : (i : Int) < (h : Int) := by omega
      have i3 : (j : Int) < (W : Int) := by omega
      go_wp2_with fail
      have F8 : FW ((wq.setCell ⟨rb i, j, none⟩ (.int .u8 108)).setCell ⟨rb i, j + 1, none⟩ (.int .u8 114)).drew B top cap rb rc h W (set2 G i j 108 i (j + 1) 114) cl cw cd cf bm c D := ((Fq.set hih hjW 108).set hih hl1 114).drew
      have hb8 : Below B w ((wq.setCell ⟨rb i, j, none⟩ (.int .u8 108)).setCell ⟨rb i, j + 1, none⟩ (.int .u8 114)).drew := ((hbw.setCell (p := ⟨rb i, j, none⟩) (Fq.g.rbB i hih) _).setCell (p := ⟨rb i, j + 1, none⟩) (Fq.g.rbB i hih) _).drew
      go_region
      generalize ((wq.setCell ⟨rb i, j, none⟩ (.int .u8 108)).setCell ⟨rb i, j + 1, none⟩ (.int .u8 114)).drew = w8a at F8 hb8 ⊢
      clear c1 r1 g1 g2 f1 f2 n3 n5 n7
      have c4 := F8.f
      go_wp2_with fail
      refine (ih.at k (z ||| 1) c (set2 G i j 108 i (j + 1) 114) D w8a (by omega) HL.out.1 hD (by omega) F8).mono ?_
      intro e w10 hfg
      clear c4
      cases hx1 : wayF h W S n (k + 1) (z ||| 1)
      · obtain ⟨rfl, hb10, D10, hD10, F10⟩ := hfg.no hx1
        have hbs1 := hb8.trans hb10
        have c1 := F10.l
        have r1 := F10.g.row i hih
        obtain ⟨v1, g1⟩ : ∃ v, w10.cell? ⟨rb i, j, none⟩ = some v := ⟨_, F10.g.cell i j hih hjW⟩
        obtain ⟨v2, g2⟩ : ∃ v, w10.cell? ⟨rb i, j + 1, none⟩ = some v := ⟨_, F10.g.cell i (j + 1) hih hl1⟩
        have f1 := F10.g.frz i j hih hjW
        have f2 := F10.g.frz i (j + 1) hih hl1
        have n3 : rb i ≠ top := F10.g.apart i hih
        have n5 : top ≠ rb i := fun e => n3 e.symm
        have n7 : cl ≠ rb i := fun e => (F10.ap i hih).1 e.symm
        go_wp2_with fail
        have F11 : FW ((w10.setCell ⟨rb i, j, none⟩ (.int .u8 35)).setCell ⟨rb i, j + 1, none⟩ (.int .u8 35)).drew B top cap rb rc h W G cl cw cd cf bm (c + budget W n (z ||| 1)) D10 := ((F10.set hih hjW 35).set hih hl1 35).drew.congr (set2_back G i j 108 i (j + 1) 114 HGS.out HL.out.2)
        have hb11 : Below B w ((w10.setCell ⟨rb i, j, none⟩ (.int .u8 35)).setCell ⟨rb i, j + 1, none⟩ (.int .u8 35)).drew := ((hbs1.setCell (p := ⟨rb i, j, none⟩) (F10.g.rbB i hih) _).setCell (p := ⟨rb i, j + 1, none⟩) (F10.g.rbB i hih) _).drew
        go_region
        generalize ((w10.setCell ⟨rb i, j, none⟩ (.int .u8 35)).setCell ⟨rb i, j + 1, none⟩ (.int .u8 35)).drew = w11 at F11 hb11 ⊢
        clear c1 r1 g1 g2 f1 f2 n3 n5 n7
        go_wp2_with fail
        go_meet
        case rel => exact ⟨D10, hD10, F11, hb11, hx1⟩
      · obtain ⟨rfl, hb10, D10, hD10, F10⟩ := hfg.yes hx1
        have hw9 : wayF h W S (n + 1) k m = true := by rw [HWU.out, HLB.out, hx1]; rfl
        have hf9 : fillF h W S (n + 1) k m G = fillF h W S n (k + 1) (z ||| 1) (set2 G i j 108 i (j + 1) 114) := by rw [HFU.out, HLB.out, hx1]; rfl
        go_wp2_with fail
        go_ret
        exact FromG.mk_yes hw9 (hb8.trans hb10) hD10 hf9 (by omega) F10
    case rest =>
      obtain ⟨D10, hD10, F11, hb11, hx1⟩ := hcut
      have HLX := Lib.hid (show (lieB W S i j m && wayF h W S n (k + 1) (z ||| 1)) = false by rw [HLB.out, hx1]; rfl)
      clear hx1 hbw Fq
      have c1 := F11.l
      have c2 := F11.w_
      by_cases s1 : i + 1 < h
      · have s1i : (i : Int) + 1 < (h : Int) := by omega
        have r2 := F11.g.row (i + 1) s1
        by_cases s2 : S (i + 1) j = 35
        · have HS2 := Lib.hid s2
          have hsb : standB h S i j = true := by simp only [standB, Bool.and_eq_true, decide_eq_true_eq]; exact ⟨s1, s2⟩
          have HST := Lib.hid (hstandS hsb)
          have HSB := Lib.hid hsb
          have g3 : wc.cell? ⟨rb (i + 1), j, none⟩ = some (.int .u8 35) := by rw [F11.g.cell (i + 1) j s1 hjW, HDN.out s1, s2]; rfl
          clear s2 hsb hstandS
          go_wp2_with fail
          clear c1 c2 r2 g3
          have c1 := F11.l
          have r1 := F11.g.row i hih
          have r2 := F11.g.row (i + 1) s1
          have g1 : wc.cell? ⟨rb i, j, none⟩ = some (.int .u8 35) := by rw [F11.g.cell i j hih hjW, HGS.out]; rfl
          have g3 : wc.cell? ⟨rb (i + 1), j, none⟩ = some (.int .u8 35) := by rw [F11.g.cell (i + 1) j s1 hjW, HST.out.2]; rfl
          have n1 : rb i ≠ rb (i + 1) := fun e => by have := F11.g.inj i (i + 1) hih s1 e; omega
          have n2 : rb (i + 1) ≠ rb i := fun e => n1 e.symm
          have n3 : rb i ≠ top := F11.g.apart i hih
          have n4 : rb (i + 1) ≠ top := F11.g.apart (i + 1) s1
          have n5 : top ≠ rb i := fun e => n3 e.symm
          have n6 : top ≠ rb (i + 1) := fun e => n4 e.symm
          have n7 : cl ≠ rb i := fun e => (F11.ap i hih).1 e.symm
          have n8 : cl ≠ rb (i + 1) := fun e => (F11.ap (i + 1) s1).1 e.symm
          have i1 : (i : Int) < (h : Int) := by omega
          have i3 : (j : Int) < (W : Int) := by omega
          have f1 := F11.g.frz i j hih hjW
          have f3 := F11.g.frz (i + 1) j s1 hjW
          have F13 : FW ((wc.setCell ⟨rb i, j, none⟩ (.int .u8 117)).setCell ⟨rb (i + 1), j, none⟩ (.int .u8 100)).drew B top cap rb rc h W (set2 G i j 117 (i + 1) j 100) cl cw cd cf bm (c + budget W n (z ||| 1)) D10 := ((F11.set hih hjW 117).set s1 hjW 100).drew
          have hb13 : Below B w ((wc.setCell ⟨rb i, j, none⟩ (.int .u8 117)).setCell ⟨rb (i + 1), j, none⟩ (.int .u8 100)).drew := ((hb11.setCell (p := ⟨rb i, j, none⟩) (F11.g.rbB i hih) _).setCell (p := ⟨rb (i + 1), j, none⟩) (F11.g.rbB (i + 1) s1) _).drew
          go_region
          generalize ((wc.setCell ⟨rb i, j, none⟩ (.int .u8 117)).setCell ⟨rb (i + 1), j, none⟩ (.int .u8 100)).drew = w13 at F13 hb13 ⊢
          clear c1 r1 r2 g1 g3 f1 f3
          clear n1 n2 n3 n4 n5 n6 n7 n8 i1 i3
          have c2 := F13.w_
          have c4 := F13.f
          have F14 := F13.drew
          have hb14 := hb13.drew
          go_wp2_with fail
          clear hat6 hwc6
          have hk1w : IntKind.i64.wrap ((k : Int) + 1) = (k : Int) + 1 := IntWalk.i64_in _ (by omega)
          have hsh : ∀ u : World, (Op.shift BinOp.shl IntKind.i64 1 IntKind.i64 (IntKind.i64.wrap ((W : Int) - 1))).run Tryd.prog u = .ok (.int .i64 T) u := fun u => by
            rw [IntWalk.i64_in ((W : Int) - 1) (by omega), shift_shl .i64 .i64 1 ((W : Int) - 1) (by omega) (by show (W : Int) - 1 ≤ 64; omega), hWi, hTi, Int.one_mul, IntWalk.i64_in (T : Int) (by omega)]
            rfl
          go_still_tail 9, (by kernel_rfl)
          change wpList _ _ _ _ _ w13.drew
          generalize w13.drew = w14 at F14 hb14 ⊢
          clear c2 c4 hk1w hsh F13 hb13
          go_wp2_with fail
          refine (ih.at k (z ||| T) (c + budget W n (z ||| 1)) (set2 G i j 117 (i + 1) j 100) D10 w14 (by omega) HST.out.1 hD10 (by omega) F14).mono ?_
          intro e w15 hfg
          cases hx2 : wayF h W S n (k + 1) (z ||| T)
          · obtain ⟨rfl, hb15, D15, hD15, F15⟩ := hfg.no hx2
            have HWN := Lib.hid (show wayF h W S (n + 1) k m = false by rw [HWU.out, HLX.out, HSB.out, hx2]; rfl)
            have hbs := hb14.trans hb15
            have c1 := F15.l
            have r1 := F15.g.row i hih
            have r2 := F15.g.row (i + 1) s1
            obtain ⟨v1, g1⟩ : ∃ v, w15.cell? ⟨rb i, j, none⟩ = some v := ⟨_, F15.g.cell i j hih hjW⟩
            obtain ⟨v3, g3⟩ : ∃ v, w15.cell? ⟨rb (i + 1), j, none⟩ = some v := ⟨_, F15.g.cell (i + 1) j s1 hjW⟩
            have n1 : rb i ≠ rb (i + 1) := fun e => by have := F15.g.inj i (i + 1) hih s1 e; omega
            have n2 : rb (i + 1) ≠ rb i := fun e => n1 e.symm
            have n3 : rb i ≠ top := F15.g.apart i hih
            have n4 : rb (i + 1) ≠ top := F15.g.apart (i + 1) s1
            have n5 : top ≠ rb i := fun e => n3 e.symm
            have n6 : top ≠ rb (i + 1) := fun e => n4 e.symm
            have n7 : cl ≠ rb i := fun e => (F15.ap i hih).1 e.symm
            have n8 : cl ≠ rb (i + 1) := fun e => (F15.ap (i + 1) s1).1 e.symm
            have i1 : (i : Int) < (h : Int) := by omega
            have i3 : (j : Int) < (W : Int) := by omega
            have f1 := F15.g.frz i j hih hjW
            have f3 := F15.g.frz (i + 1) j s1 hjW
            go_wp2_with fail
            have F16 : FW ((w15.setCell ⟨rb i, j, none⟩ (.int .u8 35)).setCell ⟨rb (i + 1), j, none⟩ (.int .u8 35)).drew B top cap rb rc h W G cl cw cd cf bm ((c + budget W n (z ||| 1)) + budget W n (z ||| T)) D15 := ((F15.set hih hjW 35).set s1 hjW 35).drew.congr (set2_back G i j 117 (i + 1) j 100 HGS.out HST.out.2)
            have hb16 : Below B w ((w15.setCell ⟨rb i, j, none⟩ (.int .u8 35)).setCell ⟨rb (i + 1), j, none⟩ (.int .u8 35)).drew := ((hbs.setCell (p := ⟨rb i, j, none⟩) (F15.g.rbB i hih) _).setCell (p := ⟨rb (i + 1), j, none⟩) (F15.g.rbB (i + 1) s1) _).drew
            go_region
            generalize ((w15.setCell ⟨rb i, j, none⟩ (.int .u8 35)).setCell ⟨rb (i + 1), j, none⟩ (.int .u8 35)).drew = w16 at F16 hb16 ⊢
            clear c1 r1 r2 g1 g3 f1 f3
            clear n1 n2 n3 n4 n5 n6 n7 n8 i1 i3
            go_wp2_with fail
            obtain ⟨c9, st, w8, e1, e2, e3, e4, e5⟩ := entry_law klaw70 Tryd.underlying68 Tryd.underlying3 zero3 F16.drew.m (by unfold maxLen; omega) hkl
            obtain ⟨w9, e6, hown9, hg9⟩ := e5 (wrap64 (c9 + 1)) (wrap64_wf _)
            have e2 : (Instr.mapEntry 68 (.map (some bm)) (.agg #[.int .i64 k, .int .i64 m])).run Tryd.prog _ = .ok (.tuple #[.int .i64 c9, .int .i64 st]) w8 := e2
            have e6 : (Instr.entryStore 68 (.map (some bm)) (.int .i64 st) (.int .i64 (wrap64 (c9 + 1)))).run Tryd.prog w8 = .ok () w9 := e6
            have d3 := F16.d
            have d8 : w8.cell? ⟨cd, 0, none⟩ = some (.map (some bm)) := (e4 _ F16.am.2.2.2.1).trans d3
            have F9 := F16.drew.turned hg9 hown9
            have hb9 := (hb16.drew).grown hg9 (Nat.le_trans F16.bB (Nat.le_of_lt F16.m.lt)) (fun b hb => by cases hb; exact F16.bB)
            clear e4 e5 hown9 hg9
            go_region
            go_wp2_with fail
            go_ret
            exact FromG.mk_no HWN.out hb9 (hD15.put F16.m.isMap hkl (by rw [show h * W - k = n + 1 from by omega]; exact HWN.out) _) (by omega) F9
          · obtain ⟨rfl, hb15, D15, hD15, F15⟩ := hfg.yes hx2
            have hw9 : wayF h W S (n + 1) k m = true := by rw [HWU.out, HLX.out, HSB.out, hx2]; rfl
            have hf9 : fillF h W S (n + 1) k m G = fillF h W S n (k + 1) (z ||| T) (set2 G i j 117 (i + 1) j 100) := by rw [HFU.out, HLX.out, if_neg (by decide)]
            go_wp2_with fail
            go_ret
            exact FromG.mk_yes hw9 (hb14.trans hb15) hD15 hf9 (by omega) F15
        · have HSBF := Lib.hid (show standB h S i j = false by simp [standB, s2])
          have g3 := F11.g.cell (i + 1) j s1 hjW
          have f35 : (((G (i + 1) j).toNat : Int) == 35) = false := u8_ne (n := 35) (by rw [HDN.out s1]; exact s2)
          clear s2 hstandS
          go_wp2_with fail
          have HWN := Lib.hid (show wayF h W S (n + 1) k m = false by rw [HWU.out, HLX.out, HSBF.out]; rfl)
          clear c1 c2 r2 g3
          obtain ⟨c9, st, w8, e1, e2, e3, e4, e5⟩ := entry_law klaw70 Tryd.underlying68 Tryd.underlying3 zero3 F11.drew.m (by unfold maxLen; omega) hkl
          obtain ⟨w9, e6, hown9, hg9⟩ := e5 (wrap64 (c9 + 1)) (wrap64_wf _)
          have e2 : (Instr.mapEntry 68 (.map (some bm)) (.agg #[.int .i64 k, .int .i64 m])).run Tryd.prog _ = .ok (.tuple #[.int .i64 c9, .int .i64 st]) w8 := e2
          have e6 : (Instr.entryStore 68 (.map (some bm)) (.int .i64 st) (.int .i64 (wrap64 (c9 + 1)))).run Tryd.prog w8 = .ok () w9 := e6
          have d3 := F11.d
          have d8 : w8.cell? ⟨cd, 0, none⟩ = some (.map (some bm)) := (e4 _ F11.am.2.2.2.1).trans d3
          have F9 := F11.drew.turned hg9 hown9
          have hb9 := (hb11.drew).grown hg9 (Nat.le_trans F11.bB (Nat.le_of_lt F11.m.lt)) (fun b hb => by cases hb; exact F11.bB)
          clear e4 e5 hown9 hg9
          go_region
          go_wp2_with fail
          go_ret
          exact FromG.mk_no HWN.out hb9 (hD10.put F11.m.isMap hkl (by rw [show h * W - k = n + 1 from by omega]; exact HWN.out) _) (by omega) F9
      · have HSBF := Lib.hid (show standB h S i j = false by simp [standB, s1])
        have s1i : decide ((i : Int) + 1 < (h : Int)) = false := decide_eq_false (by omega)
        clear hstandS
        go_wp2_with fail
        have HWN := Lib.hid (show wayF h W S (n + 1) k m = false by rw [HWU.out, HLX.out, HSBF.out]; rfl)
        clear c1 c2
        obtain ⟨c9, st, w8, e1, e2, e3, e4, e5⟩ := entry_law klaw70 Tryd.underlying68 Tryd.underlying3 zero3 F11.drew.m (by unfold maxLen; omega) hkl
        obtain ⟨w9, e6, hown9, hg9⟩ := e5 (wrap64 (c9 + 1)) (wrap64_wf _)
        have e2 : (Instr.mapEntry 68 (.map (some bm)) (.agg #[.int .i64 k, .int .i64 m])).run Tryd.prog _ = .ok (.tuple #[.int .i64 c9, .int .i64 st]) w8 := e2
        have e6 : (Instr.entryStore 68 (.map (some bm)) (.int .i64 st) (.int .i64 (wrap64 (c9 + 1)))).run Tryd.prog w8 = .ok () w9 := e6
        have d3 := F11.d
        have d8 : w8.cell? ⟨cd, 0, none⟩ = some (.map (some bm)) := (e4 _ F11.am.2.2.2.1).trans d3
        have F9 := F11.drew.turned hg9 hown9
        have hb9 := (hb11.drew).grown hg9 (Nat.le_trans F11.bB (Nat.le_of_lt F11.m.lt)) (fun b hb => by cases hb; exact F11.bB)
        clear e4 e5 hown9 hg9
        go_region
        go_wp2_with fail
        go_ret
        exact FromG.mk_no HWN.out hb9 (hD10.put F11.m.isMap hkl (by rw [show h * W - k = n + 1 from by omega]; exact HWN.out) _) (by omega) F9
end Go.Proofs.YtahihapgbcoanaaDoor
