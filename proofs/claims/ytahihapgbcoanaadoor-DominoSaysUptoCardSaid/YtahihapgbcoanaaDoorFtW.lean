/- The walk of ferref.FirstTiling. -/
import Derived.Test.YtahihapgbcoanaaDoorTilW
import Derived.Test.YtahihapgbcoanaaDoorFtP
import Derived.BigRegion
namespace Go.Proofs.YtahihapgbcoanaaDoor
open Go.RowKit Go.Maps

theorem info5 : (Tryd.prog.info? 5).map (fun i => (i.zero, i.size, i.bytes)) = some (some (.int .u8 0), 1, 1) := by kernel_rfl
def u8s (l : List UInt8) : List Value := l.map fun c => Value.int .u8 c.toNat
theorem row_own {w : World} {base : Nat} {v : Value} {l : List UInt8} {n : Nat} (hn : n = l.length) (h : w.ownsRow base 5 1 v n (u8s l)) (h0 : 0 < l.length) : ∃ g cap, v = .slice (some ⟨g, 0, none⟩) n cap ∧ base ≤ g ∧ RowAt w g l := by
  subst hn
  rcases h.2 with ⟨_, hz⟩ | ⟨g, cap, cur, rfl, hb, hh, h1, h2, h3, h4⟩
  · omega
  · refine ⟨g, cap, rfl, hb, ⟨cur, _, hh⟩, fun j c hj => ⟨?_, h.frozenAt j⟩⟩
    have hl : j < l.length := (List.getElem?_eq_some_iff.1 hj).1
    rw [h.cellAt j (by omega)]
    unfold u8s
    rw [List.getElem?_map, hj]
    rfl

/-- What FirstTiling keeps between two letters. -/
structure FtM (h W : Nat) (S FF : Nat → Nat → UInt8) (w : World) (b a o k m p C : Nat) (G : Nat → Nat → UInt8) (c : Nat) (D : DataW Unit) (wr : World) : Prop where
  ft : FtI h W S FF k m G
  left : RowAt wr a (textOf h W (leftG W S k m))
  out : RowAt wr o (textOf h W G)
  memo : MemoOk h W D
  own : wr.ownsMap Tryd.prog 9 (plainElem Tryd.prog 2) b c D
  below : Below w.heap.size w wr
  ao : a ≠ o
  ba : b < a
  bo : b < o
  wb : w.heap.size ≤ b
  cb : c ≤ C + p * 17179869184
theorem FtM.kept {h W : Nat} {S FF G : Nat → Nat → UInt8} {w wr wi : World} {b a o k m p C c c2 : Nat} {D D2 : DataW Unit} (M : FtM h W S FF w b a o k m p C G c D wr) (hg : wr.grownBy wi (some b)) (hD : MemoOk h W D2) (ho : wi.ownsMap Tryd.prog 9 (plainElem Tryd.prog 2) b c2 D2) (hc : c2 ≤ C + p * 17179869184) : FtM h W S FF w b a o k m p C G c2 D2 wi :=
  ⟨M.ft, M.left.same (hg.block a M.left.lt (fun e => by have := M.ba; have := Option.some.inj e; omega)), M.out.same (hg.block o M.out.lt (fun e => by have := M.bo; have := Option.some.inj e; omega)), hD, ho,
    M.below.trans ⟨hg.os, hg.tape, hg.output, hg.size, fun i hi => hg.block i (Nat.lt_of_lt_of_le hi M.below.size) (fun e => by have := M.wb; have := Option.some.inj e; omega)⟩, M.ao, M.ba, M.bo, M.wb, hc⟩

theorem FtM.up {h W : Nat} {S FF G : Nat → Nat → UInt8} {w wr : World} {b a o k m p p2 C c : Nat} {D : DataW Unit} (M : FtM h W S FF w b a o k m p C G c D wr) (hp : p ≤ p2) : FtM h W S FF w b a o k m p2 C G c D wr :=
  ⟨M.ft, M.left, M.out, M.memo, M.own, M.below, M.ao, M.ba, M.bo, M.wb, Nat.le_trans M.cb (Nat.add_le_add_left (Nat.mul_le_mul_right _ hp) _)⟩
theorem FtM.next {h W : Nat} {S FF G : Nat → Nat → UInt8} {w wr : World} {b a o k m k2 m2 p C c : Nat} {D : DataW Unit} (M : FtM h W S FF w b a o k m p C G c D wr) (hF : FtI h W S FF k2 m2 G) (hL : textOf h W (leftG W S k2 m2) = textOf h W (leftG W S k m)) : FtM h W S FF w b a o k2 m2 (p + 1) C G c D wr :=
  ⟨hF, by rw [hL]; exact M.left, M.out, M.memo, M.own, M.below, M.ao, M.ba, M.bo, M.wb, (M.up (Nat.le_succ p)).cb⟩
theorem FtM.laid {h W : Nat} {S FF G G2 : Nat → Nat → UInt8} {w wr w9 : World} {b a a2 o k m k2 m2 p C c : Nat} {D : DataW Unit} (M : FtM h W S FF w b a o k m p C G c D wr) (hF : FtI h W S FF k2 m2 G2) (hL : RowAt w9 a2 (textOf h W (leftG W S k2 m2))) (hO : RowAt w9 o (textOf h W G2)) (hg : wr.grownBy w9 (some o)) (hao : a2 ≠ o) (hba : b < a2) : FtM h W S FF w b a2 o k2 m2 p C G2 c D w9 :=
  ⟨hF, hL, hO, M.memo, M.own.kept hg (fun e => by have := M.bo; have := Option.some.inj e; omega), M.below.trans ⟨hg.os, hg.tape, hg.output, hg.size, fun i hi => hg.block i (Nat.lt_of_lt_of_le hi M.below.size) (fun e => by have := M.bo; have := M.wb; have := Option.some.inj e; omega)⟩, hao, hba, M.bo, M.wb, M.cb⟩
theorem grown_two (w : World) (o p t : Nat) (u v : Value) : w.grownBy ((w.setCell ⟨o, p, none⟩ u).setCell ⟨o, t, none⟩ v).drew (some o) :=
  ⟨rfl, rfl, rfl, by simp [World.setCell, World.drew], fun i _ hne => by
    have : i ≠ o := fun e => hne (by rw [e])
    simp [World.setCell, World.drew, Array.getElem?_modify, Ne.symm this]⟩
theorem text_same {h W : Nat} (h0 : 0 < h) (G G' : Nat → Nat → UInt8) : (textOf h W G).length = (textOf h W G').length := by
  have h1 := text_len h W G h0
  have h2 := text_len h W G' h0
  omega

set_option maxRecDepth 100000 in
set_option maxHeartbeats 16000000 in
theorem ft_any (h W : Nat) (h0 : 0 < h) (h8 : h ≤ 8) (w0 : 0 < W) (w8 : W ≤ 8) (S : Nat → Nat → UInt8) (T : Two h W S) (hway : wayF h W S (h * W) 0 0 = true) (w : World) :
    Calls Tryd.prog 25 #[.string ⟨(textOf h W S).toArray⟩] w fun e w' => e = .returned (.string ⟨(textOf h W (fillF h W S (h * W) 0 0 S)).toArray⟩) ∧ Below w.heap.size w w' := by
  have hmm := @run_makeMap Tryd.prog
  have hmade := World.ownsMap_made (H := Unit) w Tryd.prog 9 (plainElem Tryd.prog 2)
  have hcall0 := tilings_board h W h0 h8 w0 w8 S T w.heap.size 0 (.map []) (w.alloc (.map #[] 0)) (memo_empty h W) hmade (by omega)
  have hpos : 0 < cntG h W S := by
    rw [cntG_ways w0 T]
    exact (way_iff w0 (T.codes w0) (h * W) 0 0 (by omega) (Nat.two_pow_pos W) (fun t ht => by rw [Nat.zero_testBit] at ht; cases ht)).1 hway
  have hst := FtI.start hway
  obtain ⟨FF, hFF⟩ : ∃ FF, fillF h W S (h * W) 0 0 S = FF := ⟨_, rfl⟩
  rw [hFF] at hst ⊢
  have hL0 : textOf h W (leftG W S 0 0) = textOf h W S := textOf_congr (left_start T)
  have hlen := text_len h W S h0
  have hidx : Lib.indexByte (textOf h W S ++ [47]) 47 = W := text_index h W S h0 (fun j hj => T.ne 0 j h0 hj)
  obtain ⟨s, hs⟩ : ∃ s, textOf h W S = s := ⟨_, rfl⟩
  obtain ⟨r0, hr0⟩ : ∃ r, cntG h W S = r := ⟨_, rfl⟩
  unfold TilG at hcall0
  rw [hs, hr0] at hcall0
  rw [hs] at hL0 hlen hidx ⊢
  rw [hr0] at hpos
  have hap : (⟨s.toArray⟩ : ByteArray) ++ ⟨#[47]⟩ = ⟨(s ++ [47]).toArray⟩ := by
    apply ByteArray.ext
    rw [ByteArray.data_append]
    simp
  have hconv : ∀ u : World, (convert 9 63 (.string ⟨s.toArray⟩)).run Tryd.prog u = .ok (.slice (some ⟨u.heap.size, 0, none⟩) s.length (grownCap u s.length 0 5)) (Lib.bytesWorld u 5 ⟨s.toArray⟩) := fun u => by
    have h := Lib.run_convert_string_bytes (P := Tryd.prog) u 9 63 5 ⟨s.toArray⟩ Tryd.underlying9 Tryd.underlying63 Tryd.underlying5
    simpa [ByteArray.size] using h
  have hH72 : h * (W + 1) ≤ 8 * 9 := Nat.mul_le_mul h8 (by omega)
  have hH4 : 2 ≤ h * (W + 1) := Nat.le_trans (show 2 ≤ 1 * 2 by omega) (Nat.mul_le_mul h0 (by omega))
  have hsl : s.length ≤ 71 := by omega
  have hsp : 0 < s.length := by omega
  have hr00 : (((r0 : Nat) : Int) == 0) = false := beq_eq_false_iff_ne.2 (by omega)
  have HS := Lib.hid hs
  have HI := Lib.hid hidx
  have HLEN := Lib.hid hlen
  have HST := Lib.hid hst
  have HL0 := Lib.hid hL0
  clear hs hidx hlen hst hL0 hr0 hFF hway
  go_enter Tryd.func25, Tryd.ntmps25
  go_wp2_with fail
  refine hcall0.mono ?_
  rintro e w2 ⟨rfl, D2, c2, hM2, hown2, hgr2, hc2⟩
  clear hcall0
  have hb1 : Below w.heap.size w (w.alloc (.map #[] 0)) := (Below.refl _ w).alloc (Nat.le_refl _) _
  have hb2 : Below w.heap.size w w2 := hb1.trans ⟨hgr2.os, hgr2.tape, hgr2.output, hgr2.size, fun i hi => hgr2.block i (by simp; omega) (fun e => by have := Option.some.inj e; omega)⟩
  clear hgr2 hb1 hmade hmm
  go_upto_block 0 with (first | (go_at_call 30; refine (index_slash s W _ HI.out).mono ?_; rintro e w' ⟨rfl, rfl⟩) | fail)
  obtain ⟨i0, hi, hz0, hz1, hz2⟩ := info_parts info5
  have hra0 := RowAt.bytes w2 s
  have hro0 := RowAt.bytes (Lib.bytesWorld w2 5 ⟨s.toArray⟩) s
  have hbA : Below w2.heap.size w2 (Lib.bytesWorld w2 5 ⟨s.toArray⟩) := below_bytes (Below.refl _ _) (Nat.le_refl _) _
  have hbB : Below (Lib.bytesWorld w2 5 ⟨s.toArray⟩).heap.size (Lib.bytesWorld w2 5 ⟨s.toArray⟩) (Lib.bytesWorld (Lib.bytesWorld w2 5 ⟨s.toArray⟩) 5 ⟨s.toArray⟩) := below_bytes (Below.refl _ _) (Nat.le_refl _) _
  have hao := hra0.lt
  generalize Lib.bytesWorld w2 5 ⟨s.toArray⟩ = w3 at hra0 hro0 hbA hbB hao ⊢
  generalize Lib.bytesWorld w3 5 ⟨s.toArray⟩ = w4 at hro0 hbB ⊢
  have hown4 := (hown2.kept (grown_of hbA none) (by simp)).kept (grown_of hbB none) (by simp)
  have hra := hra0.same (hbB.block _ hao)
  have hb4 : Below w.heap.size w w4 := (hb2.trans (hbA.mono hb2.size)).trans (hbB.mono (Nat.le_trans hb2.size hbA.size))
  have hbo : w.heap.size < w2.heap.size := hown2.lt
  rw [← HL0.out] at hra
  rw [← HS.out] at hro0
  have HM0 : Hid (FtM h W S FF w w.heap.size w2.heap.size w3.heap.size 0 0 0 8589934591 S c2 D2 w4) := Lib.hid ⟨HST.out, hra, hro0, hM2, hown4, hb4, by omega, hbo, by omega, Nat.le_refl _, by omega⟩
  generalize w2.heap.size = a0 at *
  generalize grownCap w2 s.length 0 5 = cp0
  generalize grownCap w3 s.length 0 5 = cpo
  generalize w3.heap.size = o at *
  clear hra0 hro0 hbA hbB hao hown4 hra hb4 hbo hb2 hown2 hM2 hconv hap hr00 hpos
  go_wp2_with fail
  go_loopw [5, 7] (fun lv i wr => ∃ (p y x k m a cpa : Nat) (G : Nat → Nat → UInt8) (c : Nat) (D : DataW Unit), p ≤ s.length ∧ i = .int .i64 p ∧ y * (W + 1) + x = p ∧ x ≤ W ∧ y * W + x = k ∧ lv = .slice (some ⟨a, 0, none⟩) s.length cpa ∧ Hid (FtM h W S FF w w.heap.size a o k m p 8589934591 G c D wr)) (fun _ i _ => s.length - (intOf i).toNat)
  case atStart => exact ⟨0, 0, 0, 0, 0, a0, cp0, S, c2, D2, Nat.zero_le _, rfl, by omega, Nat.zero_le _, by omega, rfl, HM0⟩
  case round =>
    clear HST HL0
    obtain ⟨p, y, x, k, m, a, cpa, G, c, D, hp, rfl, hpy, hxW, hk, rfl, HM⟩ := hrel
    obtain ⟨wo, rfl⟩ : ∃ wo : World, wo = wr := ⟨_, rfl⟩
    have hLl : (textOf h W (leftG W S k m)).length = s.length := by rw [← HS.out]; exact text_same h0 _ _
    have hOl : (textOf h W G).length = s.length := by rw [← HS.out]; exact text_same h0 _ _
    have HPY := Lib.hid hpy
    have HK := Lib.hid hk
    have hlen := HLEN.out
    by_cases hpl : p < s.length
    · have hpi : (p : Int) < (s.length : Int) := by omega
      have hyh : y < h := by
        rcases Nat.lt_or_ge y h with hlt | hge
        · exact hlt
        · have := Nat.mul_le_mul_right (W + 1) hge
          omega
      by_cases hxe : x = W
      · have hy1 : y + 1 < h := by
          rcases Nat.lt_or_ge (y + 1) h with hlt | hge
          · exact hlt
          · have h1 := Nat.mul_le_mul_right (W + 1) hge
            have h2 : (y + 1) * (W + 1) = y * (W + 1) + (W + 1) := Nat.succ_mul _ _
            omega
        have hcc := text_end (W := W) (G := leftG W S k m) (s := textOf h W (leftG W S k m)) h0 rfl hy1
        rw [show y * (W + 1) + W = p from by omega] at hcc
        have d1 : wo.cell? ⟨a, p, none⟩ = some (.int .u8 47) := (HM.out.left.2 _ _ hcc).1
        have e1 : (y + 1) * (W + 1) + 0 = p + 1 := by rw [Nat.succ_mul]; omega
        have e2 : (y + 1) * W + 0 = k := by rw [Nat.succ_mul]; omega
        have HN := Lib.hid (HM.out.up (Nat.le_succ p))
        have HE := Lib.hid (show (y + 1) * (W + 1) + 0 = p + 1 ∧ (y + 1) * W + 0 = k from ⟨e1, e2⟩)
        clear hcc e1 e2 hpy hk hlen
        go_wp2
        go_roundw
        case rel => go_light; exact ⟨p + 1, y + 1, 0, k, m, a, cpa, G, c, D, by omega, by go_num, HE.out.1, Nat.zero_le _, HE.out.2, rfl, HN⟩
        case measure => go_light; simp [intOf]; omega
      · have hxl : x < W := by omega
        have hkN : k < h * W := by rw [← hk]; exact code_lt' hyh hxl
        have hkc := code_of (y := y) hxl
        rw [hk] at hkc
        have hcc := text_at (W := W) (G := leftG W S k m) (s := textOf h W (leftG W S k m)) h0 rfl hyh hxl
        rw [hpy] at hcc
        have hlh := left_here (S := S) (m := m) hk
        by_cases hop : S (k / W) (k % W) = 35 ∧ ¬ m % 2 = 1
        · have h35 := hlh.2 hop
          rw [h35] at hcc
          have d1 : wo.cell? ⟨a, p, none⟩ = some (.int .u8 35) := (HM.out.left.2 _ _ hcc).1
          have HC := Lib.hid hcc
          have HOP := Lib.hid hop
          have HKC := Lib.hid hkc
          clear hcc hlh h35 hop hpy hk hlen hkc
          go_wp2_with fail
          obtain ⟨g, hg⟩ : ∃ g, wo.heap.size = g := ⟨_, rfl⟩
          have hgr5 : wo.grownBy (wo.alloc (.cells #[.int .i64 ((p : Int) + 1), .int .i64 ((p : Int) + ((W : Int) + 1))] 3)) (some w.heap.size) := World.grownBy_alloc wo _ _
          have hown5 := HM.out.own.alloc (.cells #[.int .i64 ((p : Int) + 1), .int .i64 ((p : Int) + ((W : Int) + 1))] 3)
          have hcell : ∀ i t : Nat, i < 2 → t = (if i = 0 then p + 1 else p + (W + 1)) → (wo.alloc (.cells #[.int .i64 ((p : Int) + 1), .int .i64 ((p : Int) + ((W : Int) + 1))] 3)).cell? ⟨g, i, none⟩ = some (.int .i64 (t : Int)) := by
            intro i t hi ht
            have hn := World.alloc_heap_new wo (.cells #[.int .i64 ((p : Int) + 1), .int .i64 ((p : Int) + ((W : Int) + 1))] 3)
            rw [hg] at hn
            simp only [World.cell?, hn]
            obtain rfl | rfl : i = 0 ∨ i = 1 := by omega
            · rw [if_pos rfl] at ht
              subst ht
              simp
            · rw [if_neg (by decide)] at ht
              subst ht
              simp
          have hwg : w.heap.size < g := by rw [← hg]; exact HM.out.own.lt
          rw [hg]
          generalize wo.alloc (.cells #[.int .i64 ((p : Int) + 1), .int .i64 ((p : Int) + ((W : Int) + 1))] 3) = w5 at hgr5 hown5 hcell ⊢
          have HCELL := Lib.hid hcell
          have HG5 := Lib.hid hgr5
          clear hcell hg hgr5 d1
          go_loopw [5, 42] (fun lv i wi => ∃ (ki c2 : Nat) (D2 : DataW Unit), ki ≤ 1 ∧ i = .int .i64 ki ∧ lv = .slice (some ⟨a, 0, none⟩) s.length cpa ∧ Hid (ki = 1 → (lieB W S (k / W) (k % W) m && wayF h W S (h * W - (k + 1)) (k + 1) (m / 2 ||| 1)) = false) ∧ w5.grownBy wi (some w.heap.size) ∧ MemoOk h W D2 ∧ wi.ownsMap Tryd.prog 9 (plainElem Tryd.prog 2) w.heap.size c2 D2 ∧ c2 ≤ c + ki * 8589934592) (fun _ i _ => 2 - (intOf i).toNat)
          case atStart => exact ⟨0, c, D, by omega, rfl, rfl, Lib.hid (fun e => absurd e (by decide)), World.grownBy.refl _ _, HM.out.memo, hown5, by omega⟩
          case round =>
            clear hown5
            obtain ⟨ki, c2, D2, hki, rfl, rfl, HKI, hgr, hM2, hown2, hc2⟩ := hrel
            obtain ⟨wi, rfl⟩ : ∃ wi : World, wi = wr := ⟨_, rfl⟩
            have hcb := HM.out.cb
            have HMI := Lib.hid ((HM.out.up (Nat.le_succ p)).kept (grown_trans HG5.out hgr) hM2 hown2 (by omega))
            have hkc := HKC.out
            have hop := HOP.out
            have hlen := HLEN.out
            obtain ⟨Lt, hLt⟩ : ∃ Lt, textOf h W (leftG W S k m) = Lt := ⟨_, rfl⟩
            have HLT := Lib.hid (show textOf h W (leftG W S k m) = Lt ∧ textOf h W S = s from ⟨hLt, HS.out⟩)
            have HLA : Hid (RowAt wi a Lt) := Lib.hid (by rw [← hLt]; exact HMI.out.left)
            have H35P : Hid (Lt[p]? = some 35) := Lib.hid (by rw [← hLt]; exact HC.out)
            obtain rfl | rfl : ki = 0 ∨ ki = 1 := by omega
            · obtain ⟨t, ht⟩ : ∃ t, p + 1 = t := ⟨_, rfl⟩
              have ct := hgr.cell (HCELL.out 0 t (by omega) ht.symm) (fun e => by have := Option.some.inj e; simp at this; omega)
              by_cases hl : lieB W S (k / W) (k % W) m = true
              · have hl3 := hl
                simp only [lieB, Bool.and_eq_true, decide_eq_true_eq] at hl3
                rw [hkc.2] at hl3
                have hx1 : x + 1 < W := hl3.1
                obtain ⟨m2, hm2⟩ : ∃ m2, m / 2 ||| 1 = m2 := ⟨_, rfl⟩
                have hin := HM.out.ft.inv
                have hlt2 : m2 < 2 ^ W := by rw [← hm2]; exact or_one_lt w0 hin.lt
                have hv2 : ValidM (h * W) W S (k + 1) m2 := by rw [← hm2]; exact valid_lie hkN hin.valid hl
                have h35t : Lt[t]? = some 35 := by
                  rw [← hLt, ← ht, show p + 1 = y * (W + 1) + (x + 1) from by have := HPY.out; omega, text_at (W := W) (G := leftG W S k m) h0 rfl hyh hx1, (left_right hx1 HK.out).2 hl]
                have hput : (Lt.set p 46).set t 46 = textOf h W (leftG W S (k + 1) m2) := by
                  rw [← hLt, ← ht, show p + 1 = y * (W + 1) + (x + 1) from by have := HPY.out; omega]
                  conv => lhs; rw [show p = y * (W + 1) + x from HPY.out.symm]
                  rw [text_put2 h W _ y x y (x + 1) 46 46 hyh hxl hyh hx1]
                  exact textOf_congr fun i j _ hj => by
                    rw [← hm2]
                    exact (left_or (b := 0) hxl hx1 HK.out (by have := HK.out; omega) i j hj).symm
                have hfl := fun hw => HM.out.ft.lie hkN hop.2 hop.1 hl (by rw [hm2]; exact hw)
                rw [hkc.1, hkc.2, hm2] at hfl
                have hout : ((textOf h W G).set p 108).set t 114 = textOf h W (set2 G y x 108 y (x + 1) 114) := by
                  rw [← ht, show p + 1 = y * (W + 1) + (x + 1) from by have := HPY.out; omega]
                  conv => lhs; rw [show p = y * (W + 1) + x from HPY.out.symm]
                  exact text_put2 h W G y x y (x + 1) 108 114 hyh hxl hyh hx1
                have htl : t < s.length := by
                  have h1 := (List.getElem?_eq_some_iff.1 h35t).1
                  rw [← hLt, hLl] at h1
                  exact h1
                have hti : ¬ (s.length : Int) ≤ (t : Int) := by omega
                have hti2 : (t : Int) < (s.length : Int) := by omega
                have htp1 : p ≠ t := by omega
                have htp2 : t ≠ p := by omega
                have hcnt := left_cnt w0 T (show k + 1 ≤ h * W from hkN) hlt2 hv2
                have hcall := fun (w' : World) (ho : w'.ownsMap Tryd.prog 9 (plainElem Tryd.prog 2) w.heap.size c2 D2) => tilings_board h W h0 h8 w0 w8 (leftG W S (k + 1) m2) (leftG_two h W S (k + 1) m2) w.heap.size c2 D2 w' hM2 ho (by omega)
                have hrm := cntG_max w0 h8 w8 (leftG_two h W S (k + 1) m2)
                obtain ⟨L2, hL2⟩ : ∃ L2, textOf h W (leftG W S (k + 1) m2) = L2 := ⟨_, rfl⟩
                obtain ⟨r, hr⟩ : ∃ r, cntG h W (leftG W S (k + 1) m2) = r := ⟨_, rfl⟩
                unfold TilG at hcall
                rw [hL2, hr] at hcall
                rw [hL2] at hput
                rw [hr] at hcnt hrm
                have HL2 := Lib.hid (show textOf h W (leftG W S (k + 1) m2) = L2 ∧ textOf h W S = s from ⟨hL2, HS.out⟩)
                have HR := Lib.hid hcnt
                have HPUT := Lib.hid hput
                have HPO := Lib.hid hout
                have HCALL := Lib.hid hcall
                have H35T := Lib.hid h35t
                have HT := Lib.hid ht
                have d2 : wi.cell? ⟨a, t, none⟩ = some (.int .u8 35) := (HLA.out.2 _ _ h35t).1
                clear hcnt hcall hput hout hL2 hr h35t hop hkc hlen hLt ht
                have HLIE := Lib.hid hl
                have HM2E := Lib.hid hm2
                have HFL := Lib.hid hfl
                clear hl hl3 hm2 hin hlt2 hv2 hfl
                have hLtl : Lt.length = s.length := by rw [← HLT.out.1, ← HLT.out.2]; exact text_same h0 _ _
                have hnl : (u8s Lt).length = s.length * 1 := by unfold u8s; rw [List.length_map, hLtl, Nat.mul_one]
                have hnews : ∀ j u, (u8s Lt)[j]? = some u → wi.cell? ((⟨a, 0, none⟩ : Addr).add j) = some u := fun j u hj => by
                  have e : (⟨a, 0, none⟩ : Addr).add j = ⟨a, j, none⟩ := addr_add0 _ _
                  unfold u8s at hj
                  rw [List.getElem?_map] at hj
                  cases hq : Lt[j]? with
                  | none => rw [hq] at hj; cases hj
                  | some bv =>
                    rw [hq] at hj
                    rw [e, ← Option.some.inj hj]
                    exact (HLA.out.2 j bv hq).1
                have hone : ∀ u ∈ u8s Lt, u.oneCell' = true := fun u hu => by
                  obtain ⟨b, _, rfl⟩ := List.mem_map.1 hu
                  rfl
                go_upto_region 15 with (first | (at_builtin; refine wpList_append_own _ rfl _ _ 63 rfl wi.heap.size 5 i0 (.int .u8 0) 1 1 Tryd.underlying63 hi hz0 hz1 hz2 rfl (by decide) _ _ _ rfl (World.ownsRow_nil _ _ _ _) ⟨a, 0, none⟩ s.length cpa (u8s Lt) rfl hnl hnews hone (by unfold maxLen; omega) (by omega) (Nat.le_refl _) ?_; intro v6 w6 hown6 hgrow6 hnil6; clear hnil6) | fail)
                rw [Nat.zero_add] at hown6
                obtain ⟨g6, cp6, hv6, hg6, hr6⟩ := row_own hLtl.symm hown6 (by omega)
                rw [hv6]
                clear hv6 hown6 hnl hnews hone
                have hb6 : Below wi.heap.size wi w6 := ⟨hgrow6.os, hgrow6.tape, hgrow6.output, hgrow6.size, fun i hi => hgrow6.block i hi (fun e => absurd (show (some i : Option Nat) = none from e) (by simp))⟩
                clear hgrow6
                obtain ⟨d1, f1⟩ := hr6.2 _ _ H35P.out
                obtain ⟨d2, f2⟩ := hr6.2 _ _ H35T.out
                have hs1 := hr6.set (i := p) (by omega) 46
                have hs2 := hs1.set (i := t) (by rw [List.length_set]; omega) 46
                rw [HPUT.out] at hs2
                have HR7 : Hid (RowAt ((w6.setCell ⟨g6, p, none⟩ (.int .u8 46)).setCell ⟨g6, t, none⟩ (.int .u8 46)) g6 L2) := Lib.hid hs2
                have HB7 : Hid (Below wi.heap.size wi ((w6.setCell ⟨g6, p, none⟩ (.int .u8 46)).setCell ⟨g6, t, none⟩ (.int .u8 46))) := Lib.hid ((hb6.setCell (p := ⟨g6, p, none⟩) hg6 _).setCell (p := ⟨g6, t, none⟩) hg6 _)
                clear hs1 hs2 hr6 hb6
                go_upto_region 16 with fail
                have hr7 := HR7.out
                have hb7 := HB7.out
                clear HR7 HB7 d1 f1 d2 f2
                generalize (w6.setCell ⟨g6, p, none⟩ (.int .u8 46)).setCell ⟨g6, t, none⟩ (.int .u8 46) = w7 at hr7 hb7 ⊢
                have hown7 := HMI.out.own.kept (grown_of hb7 none) (by simp)
                have hg67 := grown_of hb7 (some w.heap.size)
                have hL2l : L2.length = s.length := by rw [← HL2.out.1, ← HL2.out.2]; exact text_same h0 _ _
                have hconv2 := run_convert_bytes_back (P := Tryd.prog) w7 63 9 5 ⟨g6, 0, none⟩ cp6 L2 Tryd.underlying63 Tryd.underlying5 Tryd.underlying9 (fun j hj => by
                  have e : (⟨g6, 0, none⟩ : Addr).add j = ⟨g6, j, none⟩ := addr_add0 _ _
                  rw [e, (hr7.2 j _ (List.getElem?_eq_getElem hj)).1])
                rw [hL2l] at hconv2
                have HR7 := Lib.hid hr7
                clear hr7 hb7
                go_wp2_with fail
                refine (HCALL.out w7 hown7).mono ?_
                rintro e w8 ⟨rfl, D8, c8, hM8, hown8, hgr8, hc8⟩
                have hgr68 := grown_trans hg67 hgr8
                have hr8 : RowAt w8 g6 L2 := HR7.out.same (hgr8.block g6 HR7.out.lt (fun e => by have := Option.some.inj e; have := HMI.out.below.size; have := HMI.out.own.lt; omega))
                clear hconv2 hown7 hg67 hgr8 HR7
                cases hwy : wayF h W S (h * W - (k + 1)) (k + 1) m2
                · have HRP : Hid (¬ 0 < r) := Lib.hid (fun e => by rw [HR.out.1 e] at hwy; cases hwy)
                  have hrr : ¬ (0 : Int) < (r : Int) := by have := HRP.out; omega
                  have hr0' : r = 0 := by have := HRP.out; omega
                  have HNO : Hid ((lieB W S (k / W) (k % W) m && wayF h W S (h * W - (k + 1)) (k + 1) (m / 2 ||| 1)) = false) := Lib.hid (by rw [HM2E.out, hwy, Bool.and_false])
                  have hgr58 := grown_trans hgr hgr68
                  clear hr8 hwy
                  go_wp2
                  go_roundw
                  case rel => go_light; exact ⟨1, c8, D8, by omega, rfl, rfl, Lib.hid (fun _ => HNO.out), hgr58, hM8, hown8, by omega⟩
                  case measure => go_light; simp [intOf]
                · have HRP : Hid (0 < r) := Lib.hid (HR.out.2 hwy)
                  have HFT := Lib.hid (HFL.out hwy)
                  clear hwy
                  have hrr : (0 : Int) < (r : Int) := by have := HRP.out; omega
                  have MJ := HMI.out.kept hgr68 hM8 hown8 (by omega)
                  have HMJ := Lib.hid MJ
                  obtain ⟨bp, hbp⟩ : ∃ v, (textOf h W G)[p]? = some v := ⟨_, List.getElem?_eq_getElem (by omega)⟩
                  obtain ⟨bt, hbt⟩ : ∃ v, (textOf h W G)[t]? = some v := ⟨_, List.getElem?_eq_getElem (by omega)⟩
                  obtain ⟨d1, f1⟩ := MJ.out.2 _ _ hbp
                  obtain ⟨d2, f2⟩ := MJ.out.2 _ _ hbt
                  have hs1 := MJ.out.set (i := p) (by omega) 108
                  have hs2 := hs1.set (i := t) (by rw [List.length_set]; omega) 114
                  rw [HPO.out] at hs2
                  have hro : RowAt ((w8.setCell ⟨o, p, none⟩ (.int .u8 108)).setCell ⟨o, t, none⟩ (.int .u8 114)).drew o (textOf h W (set2 G y x 108 y (x + 1) 114)) := RowAt.same hs2 rfl
                  have hgo : w8.grownBy ((w8.setCell ⟨o, p, none⟩ (.int .u8 108)).setCell ⟨o, t, none⟩ (.int .u8 114)).drew (some o) := grown_two w8 o p t _ _
                  have HM9 : Hid (FtM h W S FF w w.heap.size g6 o (k + 1) m2 (p + 1) 8589934591 (set2 G y x 108 y (x + 1) 114) c8 D8 ((w8.setCell ⟨o, p, none⟩ (.int .u8 108)).setCell ⟨o, t, none⟩ (.int .u8 114)).drew) := Lib.hid (HMJ.out.laid HFT.out (by rw [HL2.out.1]; exact hr8.same (hgo.block g6 hr8.lt (fun e => by have := Option.some.inj e; have := HMI.out.out.lt; omega))) hro hgo (by have := HMI.out.out.lt; omega) (by have := HMI.out.below.size; have := HMI.out.own.lt; omega))
                  clear MJ hbp hbt hs1 hs2 hown8 hM8 hro hgo hr8 hgr68
                  go_wp2_with fail
                  go_region
                  clear d1 f1 d2 f2
                  go_wp2
                  go_roundw
                  case rel => go_light; exact ⟨p + 1, y, x + 1, k + 1, m2, g6, cp6, _, c8, D8, by omega, by go_num, by have := HPY.out; omega, by omega, by have := HK.out; omega, rfl, HM9⟩
                  case measure => go_light; simp [intOf]; omega
              · have hno : s.length ≤ t ∨ ∃ cc, Lt[t]? = some cc ∧ cc ≠ 35 := by
                  rw [← hLt, ← ht]
                  by_cases hx1 : x + 1 < W
                  · refine .inr ⟨_, ?_, fun e => hl ((left_right hx1 HK.out).1 e)⟩
                    rw [show p + 1 = y * (W + 1) + (x + 1) from by have := HPY.out; omega]
                    exact text_at (W := W) (G := leftG W S k m) h0 rfl hyh hx1
                  · have hxW' : x + 1 = W := by omega
                    by_cases hy1 : y + 1 < h
                    · refine .inr ⟨47, ?_, by decide⟩
                      rw [show p + 1 = y * (W + 1) + W from by have := HPY.out; omega]
                      exact text_end (W := W) (G := leftG W S k m) h0 rfl hy1
                    · refine .inl ?_
                      have e : y + 1 = h := by omega
                      have m2 : (y + 1) * (W + 1) = y * (W + 1) + (W + 1) := Nat.succ_mul _ _
                      have := HPY.out
                      rw [e] at m2
                      omega
                have HNO : Hid ((lieB W S (k / W) (k % W) m && wayF h W S (h * W - (k + 1)) (k + 1) (m / 2 ||| 1)) = false) := Lib.hid (by rw [Bool.eq_false_iff.2 hl, Bool.false_and])
                have HT := Lib.hid ht
                have hLtl : Lt.length = s.length := by rw [← hLt]; exact hLl
                have ht100 : t ≤ 200 := by omega
                rcases hno with hle | ⟨cc, hcc, hne⟩
                · have hti : (s.length : Int) ≤ (t : Int) := by omega
                  clear hl hkc hop hlen hLt ht hle
                  go_wp2
                  go_roundw
                  case rel => go_light; exact ⟨1, c2, D2, by omega, rfl, rfl, Lib.hid (fun _ => HNO.out), hgr, hM2, hown2, by omega⟩
                  case measure => go_light; simp [intOf]
                · have htl : t < s.length := by have := (List.getElem?_eq_some_iff.1 hcc).1; omega
                  have hti : ¬ (s.length : Int) ≤ (t : Int) := by omega
                  have hti2 : (t : Int) < (s.length : Int) := by omega
                  have d2 := (HLA.out.2 _ _ hcc).1
                  have f35 : ((cc.toNat : Int) != 35) = true := u8_bne_ne (n := 35) hne
                  clear hl hkc hop hlen hLt ht hcc hne
                  go_wp2
                  go_roundw
                  case rel => go_light; exact ⟨1, c2, D2, by omega, rfl, rfl, Lib.hid (fun _ => HNO.out), hgr, hM2, hown2, by omega⟩
                  case measure => go_light; simp [intOf]
            · obtain ⟨t, ht⟩ : ∃ t, p + (W + 1) = t := ⟨_, rfl⟩
              have ct := hgr.cell (HCELL.out 1 t (by omega) ht.symm) (fun e => by have := Option.some.inj e; simp at this; omega)
              obtain ⟨hsb, hwy, hft⟩ := HM.out.ft.stand w0 hkN hop.2 hop.1 (HKI.out rfl)
              have hs3 := hsb
              simp only [standB, Bool.and_eq_true, decide_eq_true_eq] at hs3
              rw [hkc.1] at hs3
              have hy1 : y + 1 < h := hs3.1
              have hpt : (y + 1) * (W + 1) + x = t := by have := HPY.out; rw [Nat.succ_mul]; omega
              obtain ⟨m2, hm2⟩ : ∃ m2, m / 2 ||| 2 ^ (W - 1) = m2 := ⟨_, rfl⟩
              have hin := HM.out.ft.inv
              have hlt2 : m2 < 2 ^ W := by rw [← hm2]; exact or_top_lt w0 hin.lt
              have hv2 : ValidM (h * W) W S (k + 1) m2 := by rw [← hm2]; exact valid_stand w0 hin.valid hsb
              have h35t : Lt[t]? = some 35 := by
                rw [← hLt, ← hpt, text_at (W := W) (G := leftG W S k m) h0 rfl hy1 hxl, (left_below hxl hy1 hin.lt HK.out).2 hsb]
              have hput : (Lt.set p 46).set t 46 = textOf h W (leftG W S (k + 1) m2) := by
                rw [← hLt, ← hpt]
                conv => lhs; rw [show p = y * (W + 1) + x from HPY.out.symm]
                rw [text_put2 h W _ y x (y + 1) x 46 46 hyh hxl hy1 hxl]
                exact textOf_congr fun i j _ hj => by
                  rw [← hm2]
                  exact (left_or (b := W - 1) hxl hxl HK.out (by have := HK.out; rw [Nat.succ_mul]; omega) i j hj).symm
              rw [hkc.1, hkc.2, hm2] at hft
              rw [hm2] at hwy
              have hout : ((textOf h W G).set p 117).set t 100 = textOf h W (set2 G y x 117 (y + 1) x 100) := by
                rw [← hpt]
                conv => lhs; rw [show p = y * (W + 1) + x from HPY.out.symm]
                exact text_put2 h W G y x (y + 1) x 117 100 hyh hxl hy1 hxl
              have htl : t < s.length := by
                have h1 := (List.getElem?_eq_some_iff.1 h35t).1
                rw [← hLt, hLl] at h1
                exact h1
              have hti : ¬ (s.length : Int) ≤ (t : Int) := by omega
              have hti2 : (t : Int) < (s.length : Int) := by omega
              have htp1 : p ≠ t := by omega
              have htp2 : t ≠ p := by omega
              have hcnt := left_cnt w0 T (show k + 1 ≤ h * W from hkN) hlt2 hv2
              have hcall := fun (w' : World) (ho : w'.ownsMap Tryd.prog 9 (plainElem Tryd.prog 2) w.heap.size c2 D2) => tilings_board h W h0 h8 w0 w8 (leftG W S (k + 1) m2) (leftG_two h W S (k + 1) m2) w.heap.size c2 D2 w' hM2 ho (by omega)
              have hrm := cntG_max w0 h8 w8 (leftG_two h W S (k + 1) m2)
              obtain ⟨L2, hL2⟩ : ∃ L2, textOf h W (leftG W S (k + 1) m2) = L2 := ⟨_, rfl⟩
              obtain ⟨r, hr⟩ : ∃ r, cntG h W (leftG W S (k + 1) m2) = r := ⟨_, rfl⟩
              unfold TilG at hcall
              rw [hL2, hr] at hcall
              rw [hL2] at hput
              rw [hr] at hcnt hrm
              have HL2 := Lib.hid (show textOf h W (leftG W S (k + 1) m2) = L2 ∧ textOf h W S = s from ⟨hL2, HS.out⟩)
              have HR := Lib.hid hcnt
              have HPUT := Lib.hid hput
              have HPO := Lib.hid hout
              have HCALL := Lib.hid hcall
              have H35T := Lib.hid h35t
              have HT := Lib.hid ht
              have d2 : wi.cell? ⟨a, t, none⟩ = some (.int .u8 35) := (HLA.out.2 _ _ h35t).1
              clear hcnt hcall hput hout hL2 hr h35t hop hkc hlen hLt ht
              have HFT := Lib.hid hft
              have HRP : Hid (0 < r) := Lib.hid (HR.out.2 hwy)
              clear hsb hwy hft hs3 hpt hm2 hin hlt2 hv2
              have hLtl : Lt.length = s.length := by rw [← HLT.out.1, ← HLT.out.2]; exact text_same h0 _ _
              have hnl : (u8s Lt).length = s.length * 1 := by unfold u8s; rw [List.length_map, hLtl, Nat.mul_one]
              have hnews : ∀ j u, (u8s Lt)[j]? = some u → wi.cell? ((⟨a, 0, none⟩ : Addr).add j) = some u := fun j u hj => by
                have e : (⟨a, 0, none⟩ : Addr).add j = ⟨a, j, none⟩ := addr_add0 _ _
                unfold u8s at hj
                rw [List.getElem?_map] at hj
                cases hq : Lt[j]? with
                | none => rw [hq] at hj; cases hj
                | some bv =>
                  rw [hq] at hj
                  rw [e, ← Option.some.inj hj]
                  exact (HLA.out.2 j bv hq).1
              have hone : ∀ u ∈ u8s Lt, u.oneCell' = true := fun u hu => by
                obtain ⟨b, _, rfl⟩ := List.mem_map.1 hu
                rfl
              go_upto_region 15 with (first | (at_builtin; refine wpList_append_own _ rfl _ _ 63 rfl wi.heap.size 5 i0 (.int .u8 0) 1 1 Tryd.underlying63 hi hz0 hz1 hz2 rfl (by decide) _ _ _ rfl (World.ownsRow_nil _ _ _ _) ⟨a, 0, none⟩ s.length cpa (u8s Lt) rfl hnl hnews hone (by unfold maxLen; omega) (by omega) (Nat.le_refl _) ?_; intro v6 w6 hown6 hgrow6 hnil6; clear hnil6) | fail)
              rw [Nat.zero_add] at hown6
              obtain ⟨g6, cp6, hv6, hg6, hr6⟩ := row_own hLtl.symm hown6 (by omega)
              rw [hv6]
              clear hv6 hown6 hnl hnews hone
              have hb6 : Below wi.heap.size wi w6 := ⟨hgrow6.os, hgrow6.tape, hgrow6.output, hgrow6.size, fun i hi => hgrow6.block i hi (fun e => absurd (show (some i : Option Nat) = none from e) (by simp))⟩
              clear hgrow6
              obtain ⟨d1, f1⟩ := hr6.2 _ _ H35P.out
              obtain ⟨d2, f2⟩ := hr6.2 _ _ H35T.out
              have hs1 := hr6.set (i := p) (by omega) 46
              have hs2 := hs1.set (i := t) (by rw [List.length_set]; omega) 46
              rw [HPUT.out] at hs2
              have HR7 : Hid (RowAt ((w6.setCell ⟨g6, p, none⟩ (.int .u8 46)).setCell ⟨g6, t, none⟩ (.int .u8 46)) g6 L2) := Lib.hid hs2
              have HB7 : Hid (Below wi.heap.size wi ((w6.setCell ⟨g6, p, none⟩ (.int .u8 46)).setCell ⟨g6, t, none⟩ (.int .u8 46))) := Lib.hid ((hb6.setCell (p := ⟨g6, p, none⟩) hg6 _).setCell (p := ⟨g6, t, none⟩) hg6 _)
              clear hs1 hs2 hr6 hb6
              go_upto_region 16 with fail
              have hr7 := HR7.out
              have hb7 := HB7.out
              clear HR7 HB7 d1 f1 d2 f2
              generalize (w6.setCell ⟨g6, p, none⟩ (.int .u8 46)).setCell ⟨g6, t, none⟩ (.int .u8 46) = w7 at hr7 hb7 ⊢
              have hown7 := HMI.out.own.kept (grown_of hb7 none) (by simp)
              have hg67 := grown_of hb7 (some w.heap.size)
              have hL2l : L2.length = s.length := by rw [← HL2.out.1, ← HL2.out.2]; exact text_same h0 _ _
              have hconv2 := run_convert_bytes_back (P := Tryd.prog) w7 63 9 5 ⟨g6, 0, none⟩ cp6 L2 Tryd.underlying63 Tryd.underlying5 Tryd.underlying9 (fun j hj => by
                have e : (⟨g6, 0, none⟩ : Addr).add j = ⟨g6, j, none⟩ := addr_add0 _ _
                rw [e, (hr7.2 j _ (List.getElem?_eq_getElem hj)).1])
              rw [hL2l] at hconv2
              have HR7 := Lib.hid hr7
              clear hr7 hb7
              go_wp2_with fail
              refine (HCALL.out w7 hown7).mono ?_
              rintro e w8 ⟨rfl, D8, c8, hM8, hown8, hgr8, hc8⟩
              have hgr68 := grown_trans hg67 hgr8
              have hr8 : RowAt w8 g6 L2 := HR7.out.same (hgr8.block g6 HR7.out.lt (fun e => by have := Option.some.inj e; have := HMI.out.below.size; have := HMI.out.own.lt; omega))
              clear hconv2 hown7 hg67 hgr8 HR7
              have hrr : (0 : Int) < (r : Int) := by have := HRP.out; omega
              have MJ := HMI.out.kept hgr68 hM8 hown8 (by omega)
              have HMJ := Lib.hid MJ
              obtain ⟨bp, hbp⟩ : ∃ v, (textOf h W G)[p]? = some v := ⟨_, List.getElem?_eq_getElem (by omega)⟩
              obtain ⟨bt, hbt⟩ : ∃ v, (textOf h W G)[t]? = some v := ⟨_, List.getElem?_eq_getElem (by omega)⟩
              obtain ⟨d1, f1⟩ := MJ.out.2 _ _ hbp
              obtain ⟨d2, f2⟩ := MJ.out.2 _ _ hbt
              have hs1 := MJ.out.set (i := p) (by omega) 117
              have hs2 := hs1.set (i := t) (by rw [List.length_set]; omega) 100
              rw [HPO.out] at hs2
              have hro : RowAt ((w8.setCell ⟨o, p, none⟩ (.int .u8 117)).setCell ⟨o, t, none⟩ (.int .u8 100)).drew o (textOf h W (set2 G y x 117 (y + 1) x 100)) := RowAt.same hs2 rfl
              have hgo : w8.grownBy ((w8.setCell ⟨o, p, none⟩ (.int .u8 117)).setCell ⟨o, t, none⟩ (.int .u8 100)).drew (some o) := grown_two w8 o p t _ _
              have HM9 : Hid (FtM h W S FF w w.heap.size g6 o (k + 1) m2 (p + 1) 8589934591 (set2 G y x 117 (y + 1) x 100) c8 D8 ((w8.setCell ⟨o, p, none⟩ (.int .u8 117)).setCell ⟨o, t, none⟩ (.int .u8 100)).drew) := Lib.hid (HMJ.out.laid HFT.out (by rw [HL2.out.1]; exact hr8.same (hgo.block g6 hr8.lt (fun e => by have := Option.some.inj e; have := HMI.out.out.lt; omega))) hro hgo (by have := HMI.out.out.lt; omega) (by have := HMI.out.below.size; have := HMI.out.own.lt; omega))
              clear MJ hbp hbt hs1 hs2 hown8 hM8 hro hgo hr8 hgr68
              go_wp2_with fail
              go_region
              clear d1 f1 d2 f2
              go_wp2
              go_roundw
              case rel => go_light; exact ⟨p + 1, y, x + 1, k + 1, m2, g6, cp6, _, c8, D8, by omega, by go_num, by have := HPY.out; omega, by omega, by have := HK.out; omega, rfl, HM9⟩
              case measure => go_light; simp [intOf]; omega
        · have hne : leftG W S k m y x ≠ 35 := fun e => hop (hlh.1 e)
          obtain ⟨cc, hcc2⟩ : ∃ cc, leftG W S k m y x = cc := ⟨_, rfl⟩
          rw [hcc2] at hcc hne
          have d1 := (HM.out.left.2 _ _ hcc).1
          have f35 : ((cc.toNat : Int) != 35) = true := u8_bne_ne (n := 35) hne
          obtain ⟨hft, hle⟩ := HM.out.ft.skip hkN (by
            rcases Classical.em (S (k / W) (k % W) = 35) with e | e
            · exact .inr (Classical.byContradiction fun h => hop ⟨e, h⟩)
            · exact .inl e)
          have HN : Hid (FtM h W S FF w w.heap.size a o (k + 1) (m / 2) (p + 1) 8589934591 G c D wo) := Lib.hid (HM.out.next hft (textOf_congr fun i j _ _ => hle i j))
          clear hcc hcc2 hne hft hle hlh hop hpy hk hlen hkc
          go_wp2
          go_roundw
          case rel => go_light; exact ⟨p + 1, y, x + 1, k + 1, m / 2, a, cpa, G, c, D, by omega, by go_num, by have := HPY.out; omega, by omega, by have := HK.out; omega, rfl, HN⟩
          case measure => go_light; simp [intOf]; omega
    · have hpe : p = s.length := by omega
      have hyh : y < h := by
        rcases Nat.lt_or_ge y h with hlt | hge
        · exact hlt
        · have := Nat.mul_le_mul_right (W + 1) hge
          omega
      have h1 := Nat.mul_le_mul_right (W + 1) (show y + 1 ≤ h from hyh)
      have h2 : (y + 1) * (W + 1) = y * (W + 1) + (W + 1) := Nat.succ_mul _ _
      have hxe : x = W := by omega
      have hye : y + 1 = h := Nat.eq_of_mul_eq_mul_right (show 0 < W + 1 by omega) (by omega)
      have hkN : k = h * W := by rw [← hye, Nat.succ_mul]; omega
      have hfin : G = FF := by
        have := HM.out.ft.fin
        rw [hkN, Nat.sub_self] at this
        exact this
      have hconv2 := run_convert_bytes_back (P := Tryd.prog) wo 63 9 5 ⟨o, 0, none⟩ cpo (textOf h W G) Tryd.underlying63 Tryd.underlying5 Tryd.underlying9 (fun j hj => by
        have e : (⟨o, 0, none⟩ : Addr).add j = ⟨o, j, none⟩ := addr_add0 _ _
        rw [e, (HM.out.out.2 j _ (List.getElem?_eq_getElem hj)).1])
      rw [hOl] at hconv2
      have HF := Lib.hid hfin
      have hpn : ¬ (p : Int) < (s.length : Int) := by omega
      clear hfin hkN hye hxe h1 h2 hyh hpe hlen hpy hk
      go_wp2
      go_ret
      exact ⟨by rw [← HF.out]; rfl, HM.out.below⟩
end Go.Proofs.YtahihapgbcoanaaDoor
