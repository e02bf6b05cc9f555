/- The walk of domino.Count. -/
import Derived.Test.YtahihapgbcoanaaDoorCountMap
import Derived.BigQuiet
namespace Go.Proofs.YtahihapgbcoanaaDoor
open Go.RowKit Go.Maps

/-- What Count hands back. -/
def CountG (s : List UInt8) (w : World) (e : Ending) (w' : World) : Prop :=
  Below w.heap.size w w' ∧ ((¬ Good hash (pieces s) ∧ e = .returned (.tuple #[.int .i64 0, .int .i64 1])) ∨
    (Good hash (pieces s) ∧ e = .returned (.tuple #[.int .i64 (waysC (wOf s) (gOf s) (hOf s * wOf s) 0 0 : Nat), .int .i64 0])))
theorem wrap_one : wrap64 (0 + 1) = 1 := by unfold wrap64; omega
theorem mapIs_first (W : Nat) : MapIs ((DataW.map []).put (.int .i64 0) (.lit (.int .i64 1))) W (fun m => ([0] : List Nat).count m) := by
  have h := (mapIs_empty W).put (y := 0) (Nat.two_pow_pos W) (c := 0) (v := 1) rfl 1 (by unfold wrap64; omega)
  rw [wrap_one] at h
  refine h.congr fun m => ?_
  by_cases e : m = 0
  · rw [e]; rfl
  · have e0 : ([0] : List Nat).count m = 0 := List.count_eq_zero.2 (by simp [e])
    rw [if_neg e, e0]
set_option maxRecDepth 100000 in
set_option maxHeartbeats 16000000 in
theorem count_any (s : List UInt8) (hs : s.length ≤ 9223372036854775807) (w : World) : Calls Tryd.prog 17 #[.string ⟨s.toArray⟩] w (CountG s w) := by
  have hn0 := eqnil_none
  have hn1 := eqnil_some
  have hmm := @run_makeMap Tryd.prog
  go_enter Tryd.func17, Tryd.ntmps17
  go_wp2_with fail
  refine (rows_hash s hs _).mono ?_
  rintro e w1 ⟨hb, ⟨hng, rfl⟩ | ⟨hg, top, cap, rb, rc, rfl, hm⟩⟩
  · have HN := Lib.hid hng
    clear hng
    go_wp2
    go_ret2
    exact ⟨hb, .inl ⟨HN.out, rfl⟩⟩
  · obtain ⟨h8, w8, h0, w0⟩ := good_h hg
    have HG := Lib.hid hg
    clear hg
    obtain ⟨h, hh⟩ : ∃ h, hOf s = h := ⟨_, rfl⟩
    obtain ⟨W, hw⟩ : ∃ W, wOf s = W := ⟨_, rfl⟩
    obtain ⟨S, hS⟩ : ∃ S, gOf s = S := ⟨_, rfl⟩
    rw [hh, hw, hS] at hm
    rw [hh] at h8 h0 ⊢
    rw [hw] at w8 w0
    have HE := Lib.hid (⟨hh, hw, hS⟩ : hOf s = h ∧ wOf s = W ∧ gOf s = S)
    clear hh hw hS
    have c0 := hm.row 0 h0
    obtain ⟨w2, hins, hown2, hgrow2⟩ := (World.ownsMap_made (H := Unit) w1 Tryd.prog 3 (plainElem Tryd.prog 2)).update law3 Tryd.underlying72 (by unfold maxLen; omega) (key := .int .i64 0) (val := .int .i64 1) (keyOf_int_mk Tryd.underlying3 (by decide)) (plainElem_int Tryd.underlying2 (by decide))
    have hbs : Below w1.heap.size w1 w2 := ((Below.refl _ _).alloc (Nat.le_refl _) _).grown hgrow2 (by simp) (fun j hj => by cases hj; exact Nat.le_refl _)
    have hownS := own_tight hown2 (mapIs_first W) w8
    go_wp2
    clear hins hown2 hgrow2
    go_loopw [6, 27] (fun v i wr => ∃ (k b : Nat) (D : DataW Unit), k ≤ h ∧ i = .int .i64 k ∧ v = .map (some b) ∧ w1.heap.size ≤ b ∧ wr.ownsMap Tryd.prog 3 (plainElem Tryd.prog 2) b 256 D ∧ MapIs D W (fun m => (fwd W S (k * W)).count m) ∧ Below w1.heap.size w1 wr) (fun _ i _ => h - (intOf i).toNat)
    case atStart => exact ⟨0, w1.heap.size, _, Nat.zero_le _, rfl, rfl, Nat.le_refl _, hownS, by rw [Nat.zero_mul]; exact mapIs_first W, hbs⟩
    case round =>
      obtain ⟨k, b, D, hk, rfl, rfl, hbB, hown, hD, hbr⟩ := hrel
      clear hownS hbs
      by_cases hkl : k < h
      · have c1 := (hm.below hbr).row k hkl
        have hki : (k : Int) < (h : Int) := by omega
        go_wp2
        go_loopw [6, 33] (fun v i wi => ∃ (m b : Nat) (D : DataW Unit), m ≤ W ∧ i = .int .i64 m ∧ v = .map (some b) ∧ w1.heap.size ≤ b ∧ wi.ownsMap Tryd.prog 3 (plainElem Tryd.prog 2) b 256 D ∧ MapIs D W (fun y => (fwd W S (k * W + m)).count y) ∧ Below w1.heap.size w1 wi) (fun _ i _ => W - (intOf i).toNat)
        case atStart => exact ⟨0, b, D, Nat.zero_le _, rfl, rfl, hbB, hown, hD, hbr⟩
        case round =>
          obtain ⟨m, b, D, hmm, rfl, rfl, hbB, hown, hD, hbi⟩ := hrel
          clear c1
          by_cases hml : m < W
          · have hmi : (m : Int) < (W : Int) := by omega
            have hgi := hm.below hbi
            have c2 := hgi.cell k m hkl hml
            obtain ⟨wo, rfl⟩ : ∃ wo : World, wo = wr := ⟨_, rfl⟩
            have e1 : (wo.alloc (.map #[] 0)).heap.size = wo.heap.size + 1 := by simp
            go_wp2_with (first
              | (at_range; refine wpList_range_own _ rfl _ 72 rfl 3 2 law3 Tryd.underlying72 _ b 256 _ rfl (hown.alloc _) ?_; intro w3 hrg0 hg0 hs0)
              | go_in)
            go_frame
            rw [e1] at hrg0 hs0 ⊢
            obtain ⟨c, hSc⟩ : ∃ c, S k m = c := ⟨_, rfl⟩
            have hcl : c = 35 ∨ c = 46 := by
              have h1 := good_letter HG.out k m (by rw [HE.out.1]; exact hkl) (by rw [HE.out.2.1]; exact hml)
              rw [HE.out.2.2, hSc] at h1
              simpa [hash] using h1
            have HSC := Lib.hid hSc
            rw [hSc]
            clear hSc c2
            obtain ⟨L, hL⟩ : ∃ L, fwd W S (k * W + m) = L := ⟨_, rfl⟩
            rw [hL] at hD
            have hLlt : ∀ x ∈ L, x < 2 ^ W := by rw [← hL]; exact fwd_lt w0 S _
            have HL := Lib.hid hL
            clear hL
            have h256 := two_pow8 w8
            have hgo : GMem w3 w.heap.size top rb rc h W S := hgi.below (((Below.refl _ _).alloc (Nat.le_refl _) _).grown hg0 (by simp) (fun j hj => by cases hj))
            have hnext0 := (World.ownsMap_made (H := Unit) wo Tryd.prog 3 (plainElem Tryd.prog 2)).kept hg0 (by simp)
            have hb3 : Below wo.heap.size wo w3 := ((Below.refl _ _).alloc (Nat.le_refl _) _).grown hg0 (by simp) (fun j hj => by cases hj)
            go_loopw [12] (fun _ wr => ∃ (left : Lit → Bool) (cnt : Nat) (D' : DataW Unit), wr.ranges Tryd.prog 3 (plainElem Tryd.prog 2) b (wo.heap.size + 1) 256 D left cnt ∧ (∀ kl, left kl = true → has D kl = true) ∧ wr.ownsMap Tryd.prog 3 (plainElem Tryd.prog 2) wo.heap.size 256 D' ∧ MapIs D' W (partF L left (stepC W S k m)) ∧ Below wo.heap.size wo wr)
              (fun _ wr => wr.rangeLeft b (wo.heap.size + 1))
            case atStart => exact ⟨_, _, .map [], hrg0, fun _ h => h, hnext0.mono (Nat.zero_le _), (mapIs_empty W).congr (fun y => (partF_start L _ _ (fun m hm => hD.there m (List.count_pos_iff.2 hm)) y).symm), hb3⟩
            case round =>
              obtain ⟨left, cnt, D', hrg, hleft, hnext, hD', hbx⟩ := hrel
              go_wp2_with (first
                | (at_next; refine wpList_next_ranges_ii _ rfl _ rfl 3 2 .i64 .i64 law3 Tryd.underlying3 Tryd.underlying2 b (wo.heap.size + 1) 256 _ _ _ rfl hrg ?_ ?_)
                | go_in)
              · intro hc0 hl0
                go_wp2
                have hfin : MapIs D' W (fun y => (fwd W S (k * W + (m + 1))).count y) := hD'.congr (fun y => by
                  rw [partF_end L left _ hl0 y, ← HL.out]
                  have e2 := divmod W k m hml
                  show _ = (fwd W S (k * W + m + 1)).count y
                  show _ = ((fwd W S (k * W + m)).flatMap (stepC W S ((k * W + m) / W) ((k * W + m) % W))).count y
                  rw [e2.1, e2.2])
                go_roundw
                case rel => go_light; exact ⟨m + 1, wo.heap.size, D', by omega, by go_num, rfl, Nat.le_trans hbi.size (Nat.le_refl _), hnext, hfin, hbi.trans (hbx.mono hbi.size)⟩
                case measure => go_light; simp [intOf]; omega
              · intro x v w4 cnt1 hwx hwc hlx hat hrg1 hlt hg1 hs1 hen
                obtain ⟨y, hy, ey⟩ := hD.key _ (hleft _ hlx)
                obtain rfl : x = (y : Int) := by injection ey
                have HV := Lib.hid (hD.elem hat)
                have hnext1 := hnext.kept hg1 (by simp)
                have hbx1 : Below wo.heap.size wo w4 := hbx.grown hg1 hbx.size (fun j hj => by cases hj; exact Nat.le_succ _)
                have hg4 := hgi.below hbx1
                have hblt := hown.lt
                have hbne : b ≠ wo.heap.size := by omega
                have hrne : wo.heap.size + 1 ≠ wo.heap.size := by omega
                have hleft1 : ∀ kl, (left kl && !kl.sameKey (.int .i64 y)) = true → has D kl = true := fun kl e => hleft kl ((Bool.and_eq_true _ _).mp e).1
                obtain ⟨z, hz⟩ : ∃ z, y / 2 = z := ⟨_, rfl⟩
                have hdiv : (y : Int) / 2 = (z : Int) := by omega
                have hzW : z < 2 ^ W := by omega
                have hz256 : z < 256 := by omega
                have hkey : keyOf Tryd.prog 3 (.int .i64 z) = some (.int .i64 z) := keyOf_int_mk Tryd.underlying3 (WalkArith.wf_i64 (by omega))
                have HZ := Lib.hid hz
                clear hz ey hat hwx hwc hrg0 hg0 hs0 hgo hnext0 hb3 hnext
                by_cases hodd : y % 2 = 1
                · have hand : bits BinOp.and IntKind.i64 (y : Int) 1 = 1 := by rw [and_one_i64 y (by omega), hodd]; rfl
                  rcases hcl with rfl | rfl
                  · have HST : Hid (stepC W S k m y = [z]) := Lib.hid (by unfold stepC; rw [if_pos hodd, HSC.out, if_neg (by decide), HZ.out])
                    clear hodd
                    go_wp2_with (first
                      | (at_lookup; refine wpList_lookup_own_int _ rfl _ _ 72 rfl 3 2 .i64 law3 Tryd.underlying72 Tryd.underlying2 (zero2 _) wo.heap.size _ _ rfl hnext1 _ _ rfl hkey ?_; intro c6 hat6 hwc6)
                      | (at_mapUpdate; refine wpList_mapUpdate_own _ rfl _ _ _ 72 rfl 3 2 law3 Tryd.underlying72 _ wo.heap.size _ _ rfl hnext1 (by unfold maxLen; omega) _ _ _ rfl rfl hkey _ [] (plainElem_int Tryd.underlying2 (wrap64_wf _)) ?_; intro w5 hnext2 hg5)
                      | go_in)
                    have hrg2 := hrg1.kept hg5 (fun e => hbne (Option.some.inj e)) (fun e => hrne (Option.some.inj e))
                    have hD2 := hD'.one hlx hzW HST.out hat6 HV.out
                    refine ⟨?_, ?measure⟩
                    repeat apply Exists.intro
                    refine ⟨?rel, rfl⟩
                    case rel => go_light; exact ⟨_, cnt1, _, hrg2, hleft1, own_tight hnext2 hD2 w8, hD2, hbx1.grown hg5 hbx1.size (fun j hj => by cases hj; exact Nat.le_refl _)⟩
                    case measure => go_light; rw [hrg2.left_eq, hrg.left_eq]; exact hlt
                  · have HST : Hid (stepC W S k m y = []) := Lib.hid (by unfold stepC; rw [if_pos hodd, HSC.out, if_pos rfl])
                    clear hodd
                    go_wp2
                    have hD2 := hD'.none hlx HST.out
                    go_roundw
                    case rel => go_light; exact ⟨_, cnt1, _, hrg1, hleft1, hnext1, hD2, hbx1⟩
                    case measure => go_light; rw [hrg1.left_eq, hrg.left_eq]; exact hlt
                · have hev : y % 2 = 0 := by omega
                  have hand : bits BinOp.and IntKind.i64 (y : Int) 1 = 0 := by rw [and_one_i64 y (by omega), hev]; rfl
                  rcases hcl with rfl | rfl
                  · have hWi : ((W : Int) - 1).toNat = W - 1 := by omega
                    have hWi2 : (0 : Int) ≤ (W : Int) - 1 := by omega
                    obtain ⟨T, hT⟩ : ∃ T, 2 ^ (W - 1) = T := ⟨_, rfl⟩
                    have hT128 : T ≤ 128 := by rw [← hT]; have : 2 ^ (W - 1) ≤ 2 ^ 7 := Nat.pow_le_pow_right (by decide) (by omega); simpa using this
                    have hTi : (2 : Int) ^ (W - 1) = (T : Int) := by rw [← hT]; simp
                    have hors : bits BinOp.or IntKind.i64 (z : Int) (T : Int) = ((z ||| T : Nat) : Int) := or_i64 z T (by omega) (by omega)
                    have horl : bits BinOp.or IntKind.i64 (z : Int) 1 = ((z ||| 1 : Nat) : Int) := or_i64 z 1 (by omega) (by omega)
                    have hzl : z ||| 1 < 2 ^ W := by rw [← HZ.out]; exact or_one_lt w0 hy
                    have hzs : z ||| T < 2 ^ W := by rw [← HZ.out, ← hT]; exact or_top_lt w0 hy
                    have hkeyL : keyOf Tryd.prog 3 (.int .i64 ((z ||| 1 : Nat) : Int)) = some (.int .i64 ((z ||| 1 : Nat) : Int)) := keyOf_int_mk Tryd.underlying3 (WalkArith.wf_i64 (by omega))
                    have hkeyS : keyOf Tryd.prog 3 (.int .i64 ((z ||| T : Nat) : Int)) = some (.int .i64 ((z ||| T : Nat) : Int)) := keyOf_int_mk Tryd.underlying3 (WalkArith.wf_i64 (by omega))
                    have HTT := Lib.hid hT
                    have HSTG : Hid (stepC W S k m y = (if m + 1 < W ∧ z % 2 = 0 ∧ S k (m + 1) = 35 then [z ||| 1] else []) ++ [z ||| T]) := Lib.hid (by unfold stepC; rw [if_neg hodd, HSC.out, if_neg (by decide), HZ.out, HTT.out])
                    clear hodd hev hT
                    by_cases q1 : m + 1 < W
                    · have q1i : ((m : Int) + 1 < (W : Int)) := by omega
                      have c5 := hg4.cell k (m + 1) hkl q1
                      have r5 := hg4.row k hkl
                      by_cases q2 : z % 2 = 0
                      · have hand2 : bits BinOp.and IntKind.i64 (z : Int) 1 = 0 := by rw [and_one_i64 z (by omega), q2]; rfl
                        by_cases q3 : S k (m + 1) = 35
                        · have HST : Hid (stepC W S k m y = [z ||| 1, z ||| T]) := Lib.hid (by rw [HSTG.out, if_pos ⟨q1, q2, q3⟩]; rfl)
                          have c6 : w4.cell? ⟨rb k, m + 1, none⟩ = some (.int .u8 35) := by rw [c5, q3]; rfl
                          clear c5 q2 q3
                          go_wp2_with (first
                            | (at_lookup; refine wpList_lookup_own_int _ rfl _ _ 72 rfl 3 2 .i64 law3 Tryd.underlying72 Tryd.underlying2 (zero2 _) wo.heap.size _ _ rfl hnext2 _ _ rfl hkeyS ?_; intro c7 hat7 hwc7)
                            | (at_lookup; refine wpList_lookup_own_int _ rfl _ _ 72 rfl 3 2 .i64 law3 Tryd.underlying72 Tryd.underlying2 (zero2 _) wo.heap.size _ _ rfl hnext1 _ _ rfl hkeyL ?_; intro c6 hat6 hwc6)
                            | (at_mapUpdate; refine wpList_mapUpdate_own _ rfl _ _ _ 72 rfl 3 2 law3 Tryd.underlying72 _ wo.heap.size _ _ rfl hnext2 (by unfold maxLen; omega) _ _ _ rfl rfl hkeyS _ [] (plainElem_int Tryd.underlying2 (wrap64_wf _)) ?_; intro w6 hnext3 hg6)
                            | (at_mapUpdate; refine wpList_mapUpdate_own _ rfl _ _ _ 72 rfl 3 2 law3 Tryd.underlying72 _ wo.heap.size _ _ rfl hnext1 (by unfold maxLen; omega) _ _ _ rfl rfl hkeyL _ [] (plainElem_int Tryd.underlying2 (wrap64_wf _)) ?_; intro w5 hnext2 hg5)
                            | go_in)
                          have hrg2 := (hrg1.kept hg5 (fun e => hbne (Option.some.inj e)) (fun e => hrne (Option.some.inj e))).kept hg6 (fun e => hbne (Option.some.inj e)) (fun e => hrne (Option.some.inj e))
                          have hD2 := hD'.two hlx hzl hzs HST.out hat6 HV.out hat7
                          refine ⟨?_, ?measure⟩
                          repeat apply Exists.intro
                          refine ⟨?rel, rfl⟩
                          case rel => go_light; exact ⟨_, cnt1, _, hrg2, hleft1, own_tight hnext3 hD2 w8, hD2, (hbx1.grown hg5 hbx1.size (fun j hj => by cases hj; exact Nat.le_refl _)).grown hg6 (Nat.le_trans hbx1.size hg5.size) (fun j hj => by cases hj; exact Nat.le_refl _)⟩
                          case measure => go_light; rw [hrg2.left_eq, hrg.left_eq]; exact hlt
                        · have f35 : (((S k (m + 1)).toNat : Int) == 35) = false := u8_ne (n := 35) q3
                          have HST : Hid (stepC W S k m y = [z ||| T]) := Lib.hid (by rw [HSTG.out, if_neg (fun e => q3 e.2.2)]; rfl)
                          clear q2 q3
                          go_wp2_with (first
                            | (at_lookup; refine wpList_lookup_own_int _ rfl _ _ 72 rfl 3 2 .i64 law3 Tryd.underlying72 Tryd.underlying2 (zero2 _) wo.heap.size _ _ rfl hnext1 _ _ rfl hkeyS ?_; intro c6 hat6 hwc6)
                            | (at_mapUpdate; refine wpList_mapUpdate_own _ rfl _ _ _ 72 rfl 3 2 law3 Tryd.underlying72 _ wo.heap.size _ _ rfl hnext1 (by unfold maxLen; omega) _ _ _ rfl rfl hkeyS _ [] (plainElem_int Tryd.underlying2 (wrap64_wf _)) ?_; intro w5 hnext2 hg5)
                            | go_in)
                          have hrg2 := hrg1.kept hg5 (fun e => hbne (Option.some.inj e)) (fun e => hrne (Option.some.inj e))
                          have hD2 := hD'.one hlx hzs HST.out hat6 HV.out
                          refine ⟨?_, ?measure⟩
                          repeat apply Exists.intro
                          refine ⟨?rel, rfl⟩
                          case rel => go_light; exact ⟨_, cnt1, _, hrg2, hleft1, own_tight hnext2 hD2 w8, hD2, hbx1.grown hg5 hbx1.size (fun j hj => by cases hj; exact Nat.le_refl _)⟩
                          case measure => go_light; rw [hrg2.left_eq, hrg.left_eq]; exact hlt
                      · have q2' : z % 2 = 1 := by omega
                        have hand2 : bits BinOp.and IntKind.i64 (z : Int) 1 = 1 := by rw [and_one_i64 z (by omega), q2']; rfl
                        have HST : Hid (stepC W S k m y = [z ||| T]) := Lib.hid (by rw [HSTG.out, if_neg (fun e => q2 e.2.1)]; rfl)
                        clear q2 q2' c5
                        go_wp2_with (first
                          | (at_lookup; refine wpList_lookup_own_int _ rfl _ _ 72 rfl 3 2 .i64 law3 Tryd.underlying72 Tryd.underlying2 (zero2 _) wo.heap.size _ _ rfl hnext1 _ _ rfl hkeyS ?_; intro c6 hat6 hwc6)
                          | (at_mapUpdate; refine wpList_mapUpdate_own _ rfl _ _ _ 72 rfl 3 2 law3 Tryd.underlying72 _ wo.heap.size _ _ rfl hnext1 (by unfold maxLen; omega) _ _ _ rfl rfl hkeyS _ [] (plainElem_int Tryd.underlying2 (wrap64_wf _)) ?_; intro w5 hnext2 hg5)
                          | go_in)
                        have hrg2 := hrg1.kept hg5 (fun e => hbne (Option.some.inj e)) (fun e => hrne (Option.some.inj e))
                        have hD2 := hD'.one hlx hzs HST.out hat6 HV.out
                        refine ⟨?_, ?measure⟩
                        repeat apply Exists.intro
                        refine ⟨?rel, rfl⟩
                        case rel => go_light; exact ⟨_, cnt1, _, hrg2, hleft1, own_tight hnext2 hD2 w8, hD2, hbx1.grown hg5 hbx1.size (fun j hj => by cases hj; exact Nat.le_refl _)⟩
                        case measure => go_light; rw [hrg2.left_eq, hrg.left_eq]; exact hlt
                    · have q1i : ¬ ((m : Int) + 1 < (W : Int)) := by omega
                      have q1d : decide ((m : Int) + 1 < (W : Int)) = false := decide_eq_false q1i
                      have HST : Hid (stepC W S k m y = [z ||| T]) := Lib.hid (by rw [HSTG.out, if_neg (fun e => q1 e.1)]; rfl)
                      clear q1
                      go_wp2_with (first
                        | (at_lookup; refine wpList_lookup_own_int _ rfl _ _ 72 rfl 3 2 .i64 law3 Tryd.underlying72 Tryd.underlying2 (zero2 _) wo.heap.size _ _ rfl hnext1 _ _ rfl hkeyS ?_; intro c6 hat6 hwc6)
                        | (at_mapUpdate; refine wpList_mapUpdate_own _ rfl _ _ _ 72 rfl 3 2 law3 Tryd.underlying72 _ wo.heap.size _ _ rfl hnext1 (by unfold maxLen; omega) _ _ _ rfl rfl hkeyS _ [] (plainElem_int Tryd.underlying2 (wrap64_wf _)) ?_; intro w5 hnext2 hg5)
                        | go_in)
                      have hrg2 := hrg1.kept hg5 (fun e => hbne (Option.some.inj e)) (fun e => hrne (Option.some.inj e))
                      have hD2 := hD'.one hlx hzs HST.out hat6 HV.out
                      exact ⟨⟨_, ⟨cnt1, hrg2⟩, hleft1, _, own_tight hnext2 hD2 w8, hD2, hbx1.grown hg5 hbx1.size (fun j hj => by cases hj; exact Nat.le_refl _)⟩, by rw [hrg2.left_eq, hrg.left_eq]; exact hlt⟩
                  · have HST : Hid (stepC W S k m y = [z]) := Lib.hid (by unfold stepC; rw [if_neg hodd, HSC.out, if_pos rfl, HZ.out])
                    clear hodd hev
                    go_wp2_with (first
                      | (at_lookup; refine wpList_lookup_own_int _ rfl _ _ 72 rfl 3 2 .i64 law3 Tryd.underlying72 Tryd.underlying2 (zero2 _) wo.heap.size _ _ rfl hnext1 _ _ rfl hkey ?_; intro c6 hat6 hwc6)
                      | (at_mapUpdate; refine wpList_mapUpdate_own _ rfl _ _ _ 72 rfl 3 2 law3 Tryd.underlying72 _ wo.heap.size _ _ rfl hnext1 (by unfold maxLen; omega) _ _ _ rfl rfl hkey _ [] (plainElem_int Tryd.underlying2 (wrap64_wf _)) ?_; intro w5 hnext2 hg5)
                      | go_in)
                    have hrg2 := hrg1.kept hg5 (fun e => hbne (Option.some.inj e)) (fun e => hrne (Option.some.inj e))
                    have hD2 := hD'.one hlx hzW HST.out hat6 HV.out
                    refine ⟨?_, ?measure⟩
                    repeat apply Exists.intro
                    refine ⟨?rel, rfl⟩
                    case rel => go_light; exact ⟨_, cnt1, _, hrg2, hleft1, own_tight hnext2 hD2 w8, hD2, hbx1.grown hg5 hbx1.size (fun j hj => by cases hj; exact Nat.le_refl _)⟩
                    case measure => go_light; rw [hrg2.left_eq, hrg.left_eq]; exact hlt
          · obtain rfl : m = W := by omega
            have hfin : MapIs D m (fun y => (fwd m S ((k + 1) * m)).count y) := hD.congr (fun y => by rw [Nat.succ_mul])
            go_wp2
            go_roundw
            case rel => go_light; exact ⟨k + 1, b, D, by omega, by go_num, rfl, hbB, hown, hfin, hbi⟩
            case measure => go_light; simp [intOf]; omega
      · obtain rfl : k = h := by omega
        have hk0 : keyOf Tryd.prog 3 (.int .i64 0) = some (.int .i64 0) := keyOf_int_mk Tryd.underlying3 (by decide)
        go_wp2_with (first
          | (at_lookup; refine wpList_lookup_own_int _ rfl _ _ 72 rfl 3 2 .i64 law3 Tryd.underlying72 Tryd.underlying2 (zero2 _) b _ _ rfl hown _ _ rfl hk0 ?_; intro c6 hat6 hwc6)
          | go_in)
        have hfin := hD.at_ 0
        rw [show ((0 : Nat) : Int) = 0 from rfl, hat6] at hfin
        injection hfin with hfin
        injection hfin with _ hfin
        have htot := total_le w0 S (k * W) (Nat.mul_le_mul h8 w8)
        rw [fwd_total] at hfin
        have hfin2 : c6 = ((waysC W S (k * W) 0 0 : Nat) : Int) := by rw [hfin]; unfold wrap64; omega
        go_ret2
        refine ⟨hb.trans (hbr.mono hb.size), .inr ⟨HG.out, ?_⟩⟩
        rw [HE.out.1, HE.out.2.1, HE.out.2.2, hfin2]
        rfl
end Go.Proofs.YtahihapgbcoanaaDoor
