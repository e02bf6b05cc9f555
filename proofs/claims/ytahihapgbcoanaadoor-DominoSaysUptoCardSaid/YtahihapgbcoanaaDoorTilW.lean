/- The walk of ferref.Tilings. -/
import Derived.Test.YtahihapgbcoanaaDoorTilP
import Derived.Test.YtahihapgbcoanaaDoorCountW
import Derived.Deep.CutBlock
import Derived.Deep.CutRange
namespace Go.Proofs.YtahihapgbcoanaaDoor
open Go.RowKit Go.Maps

theorem law9 : Keyed Tryd.prog 9 := string_keyed Tryd.underlying9
/-- A slice of the reference's memory: all but the map's block stands. -/
def TilG (h W : Nat) (G : Nat → Nat → UInt8) (b c K : Nat) (w : World) (e : Ending) (w' : World) : Prop :=
  e = .returned (.int .i64 (cntG h W G : Nat)) ∧ ∃ D' c', MemoOk h W D' ∧ w'.ownsMap Tryd.prog 9 (plainElem Tryd.prog 2) b c' D' ∧ w.grownBy w' (some b) ∧ c' ≤ c + K
def TilH (h W f : Nat) : Prop := ∀ (G : Nat → Nat → UInt8) (b c : Nat) (D : DataW Unit) (w : World), Two h W G → openN (h * W) (oG W G) ≤ 2 * f + 1 → MemoOk h W D → w.ownsMap Tryd.prog 9 (plainElem Tryd.prog 2) b c D → c + 2 ^ (f + 1) ≤ 9000000000000 →
  Calls Tryd.prog 24 #[.string ⟨(textOf h W G).toArray⟩, .map (some b)] w (TilG h W G b c (2 ^ (f + 1) - 1) w)

theorem grown_trans {w a c : World} {b : Nat} (h : w.grownBy a (some b)) (k : a.grownBy c (some b)) : w.grownBy c (some b) :=
  ⟨k.os.trans h.os, k.tape.trans h.tape, k.output.trans h.output, Nat.le_trans h.size k.size, fun i hi hne => (k.block i (Nat.lt_of_lt_of_le hi h.size) hne).trans (h.block i hi hne)⟩
theorem grown_below {w a c : World} {b B : Nat} (h : w.grownBy a (some b)) (k : Below B a c) (hB : w.heap.size ≤ B) : w.grownBy c (some b) :=
  ⟨k.os.trans h.os, k.tape.trans h.tape, k.output.trans h.output, Nat.le_trans h.size k.size, fun i hi hne => (k.block i (Nat.lt_of_lt_of_le hi hB)).trans (h.block i hi hne)⟩
theorem grown_of {w a : World} (h : Below w.heap.size w a) (row : Option Nat) : w.grownBy a row := ⟨h.os, h.tape, h.output, h.size, fun i hi _ => h.block i hi⟩
/-- What the search column by column has found before column j. -/
def ColR (h W : Nat) (G : Nat → Nat → UInt8) (kv : Value) (j : Nat) : Prop :=
  (kv = .int .i64 (-1) ∧ ∀ a b, a < h → b < W → b < j → G a b ≠ 35) ∨ ∃ y x, FirstC h W G y x ∧ kv = .int .i64 ((y * (W + 1) + x : Nat) : Int)
theorem byte_at {s : List UInt8} {i : Nat} {c : UInt8} (h : s[i]? = some c) (hi : i < (⟨s.toArray⟩ : ByteArray).size) : (⟨s.toArray⟩ : ByteArray)[i]'hi = c := by
  have hl : i < s.length := by simpa [ByteArray.size] using hi
  rw [List.getElem?_eq_getElem hl] at h
  exact Option.some.inj h

set_option maxRecDepth 100000 in
set_option maxHeartbeats 16000000 in
theorem til_step (h W : Nat) (h0 : 0 < h) (h8 : h ≤ 8) (w0 : 0 < W) (w8 : W ≤ 8) (f : Nat) (ih : ∀ f', f' + 1 = f → TilH h W f') : TilH h W f := by
  intro G b c D w T hop hM hown hc
  obtain ⟨s, hs⟩ : ∃ s, textOf h W G = s := ⟨_, rfl⟩
  have hlen := text_len h W G h0
  rw [hs] at hlen ⊢
  have hidx : Lib.indexByte (s ++ [47]) 47 = W := by rw [← hs]; exact text_index h W G h0 (fun j hj => T.ne 0 j h0 hj)
  have hap : (⟨s.toArray⟩ : ByteArray) ++ ⟨#[47]⟩ = ⟨(s ++ [47]).toArray⟩ := by
    apply ByteArray.ext
    rw [ByteArray.data_append]
    simp
  have hH72 : h * (W + 1) ≤ 8 * 9 := Nat.mul_le_mul h8 (by omega)
  have hsl : s.length ≤ 71 := by omega
  have HS := Lib.hid hs
  have HI := Lib.hid hidx
  have HLEN := Lib.hid hlen
  clear hs hidx hlen
  go_enter Tryd.func24, Tryd.ntmps24
  go_upto_block 0 with (go_at_call 30; refine (index_slash s W _ HI.out).mono ?_; rintro e w' ⟨rfl, rfl⟩)
  go_cut [5] from 15 (fun s5 wc => Hid (ColR h W G s5 W) ∧ wc = w)
  case first =>
    go_wp2_with fail
    go_loop [5, 7] (fun kv i => ∃ j : Nat, j ≤ W ∧ i = .int .i64 j ∧ Hid (ColR h W G kv j)) (fun _ i => W - (intOf i).toNat)
    case atStart => exact ⟨0, Nat.zero_le _, rfl, Lib.hid (.inl ⟨rfl, fun a b _ _ hb => absurd hb (Nat.not_lt_zero _)⟩)⟩
    case round =>
      obtain ⟨j, hj, rfl, HC⟩ := hrel
      rcases HC.out with ⟨rfl, hcl⟩ | ⟨y, x, hF, rfl⟩
      · have HCL := Lib.hid hcl
        clear hcl HC
        by_cases hjW : j < W
        · have hji : (j : Int) < (W : Int) + 1 - 1 := by omega
          have hji2 : (j : Int) < (W : Int) := by omega
          go_wp2
          go_loop [5, 8] (fun kv i => ∃ y : Nat, y ≤ h ∧ kv = .int .i64 (-1) ∧ i = .int .i64 ((y * (W + 1) + j : Nat) : Int) ∧ Hid (∀ a, a < y → G a j ≠ 35)) (fun _ i => 100 - (intOf i).toNat)
          case atStart => exact ⟨0, Nat.zero_le _, rfl, by simp, Lib.hid (fun a ha => absurd ha (Nat.not_lt_zero _))⟩
          case round =>
            obtain ⟨y, hy, rfl, rfl, HY⟩ := hrel
            obtain ⟨q, hq⟩ : ∃ q, y * (W + 1) + j = q := ⟨_, rfl⟩
            rw [hq]
            have hq2 : (y + 1) * (W + 1) + j = q + (W + 1) := by rw [Nat.succ_mul]; omega
            have hyb : y * (W + 1) ≤ h * (W + 1) := Nat.mul_le_mul_right _ hy
            have hq80 : q ≤ 80 := by omega
            have HQ := Lib.hid hq
            have HQ2 := Lib.hid hq2
            by_cases hyh : y < h
            · have hgt := text_at h0 HS.out hyh hjW
              rw [hq] at hgt
              have hql : q < s.length := (List.getElem?_eq_some_iff.1 hgt).1
              have hqi : (q : Int) < (s.length : Int) := by omega
              have hcc := byte_at hgt (by simpa [ByteArray.size] using hql)
              clear hgt hq hq2 hyb
              by_cases h35 : G y j = 35
              · have HFC : Hid (FirstC h W G y j) := Lib.hid ⟨hyh, hjW, h35, fun a b ha hb hor => by
                  rcases hor with hlt | ⟨rfl, hlt⟩
                  · exact HCL.out a b ha hb hlt
                  · exact HY.out a hlt⟩
                rw [h35] at hcc
                clear h35
                go_wp2
                go_round
                case rel => go_light; exact ⟨j + 1, by omega, by go_num, Lib.hid (.inr ⟨y, j, HFC.out, by rw [HQ.out]⟩)⟩
                case measure => go_light; simp [intOf]; omega
              · have f35 : (((G y j).toNat : Int) == 35) = false := u8_ne (n := 35) h35
                have HNY : Hid (∀ a, a < y + 1 → G a j ≠ 35) := Lib.hid (fun a ha => by
                  rcases Nat.lt_succ_iff_lt_or_eq.1 ha with ha | rfl
                  · exact HY.out a ha
                  · exact h35)
                clear h35
                go_wp2
                go_round
                case rel => go_light; exact ⟨y + 1, by omega, rfl, by rw [HQ2.out]; go_num, HNY⟩
                case measure => go_light; simp [intOf]; omega
            · obtain rfl : y = h := by omega
              have hqn : ¬ (q : Int) < (s.length : Int) := by have := HLEN.out; omega
              have hqn2 : ¬ q < s.length := by omega
              have HN : Hid (∀ a b, a < y → b < W → b < j + 1 → G a b ≠ 35) := Lib.hid (fun a b ha hb hlt => by
                rcases Nat.lt_succ_iff_lt_or_eq.1 hlt with hlt | rfl
                · exact HCL.out a b ha hb hlt
                · exact HY.out a ha)
              clear hq hq2 hyb
              go_wp2
              go_round
              case rel => go_light; exact ⟨j + 1, by omega, by go_num, Lib.hid (.inl ⟨rfl, HN.out⟩)⟩
              case measure => go_light; simp [intOf]; omega
        · obtain rfl : j = W := by omega
          go_wp2_with fail
          go_meet
          case rel => exact ⟨Lib.hid (.inl ⟨rfl, HCL.out⟩), rfl⟩
      · have HF := Lib.hid (show ColR h W G (.int .i64 ((y * (W + 1) + x : Nat) : Int)) W from .inr ⟨y, x, hF, rfl⟩)
        clear hF HC
        obtain ⟨q, hq⟩ : ∃ q, y * (W + 1) + x = q := ⟨_, rfl⟩
        rw [hq] at HF ⊢
        clear hq
        have hq0 : ¬ (q : Int) < 0 := by omega
        by_cases hjW : j < W
        · have hji : (j : Int) < (W : Int) + 1 - 1 := by omega
          have hji2 : (j : Int) < (W : Int) := by omega
          go_wp2_with fail
          go_meet
          case rel => exact ⟨HF, rfl⟩
        · obtain rfl : j = W := by omega
          go_wp2_with fail
          go_meet
          case rel => exact ⟨HF, rfl⟩
  case rest =>
    obtain ⟨HC, hwc⟩ := hcut
    rw [hwc]
    clear hwc
    have hsz : (⟨s.toArray⟩ : ByteArray).size ≤ maxLen := by simp [ByteArray.size, maxLen]; omega
    have hkey : keyOf Tryd.prog 9 (.string ⟨s.toArray⟩) = some (.string s) := Go.WideMaps.keyOf_string_mk Tryd.underlying9 hsz
    rcases HC.out with ⟨rfl, hcl⟩ | ⟨y, x, hF, rfl⟩
    · have HN := Lib.hid (cntG_closed (h := h) w0 (fun a b ha hb => hcl a b ha hb hb))
      clear hcl HC
      go_wp2_with fail
      go_ret
      exact ⟨by rw [HN.out]; rfl, D, c, hM, hown, World.grownBy.refl _ _, by omega⟩
    · obtain ⟨q, hq⟩ : ∃ q, y * (W + 1) + x = q := ⟨_, rfl⟩
      rw [hq]
      have HF := Lib.hid hF
      have HQ := Lib.hid hq
      have hq0 : ¬ (q : Int) < 0 := by omega
      have hgq := text_at h0 HS.out hF.hy hF.hx
      rw [hq, hF.open_] at hgq
      have hql : q < s.length := (List.getElem?_eq_some_iff.1 hgq).1
      clear hF HC hq
      cases hh : has D (.string s)
      · have HH := Lib.hid hh
        go_wp2_with (first | (at_lookup; refine wpList_lookup_own_ok_int _ rfl _ _ 47 rfl 9 2 .i64 law9 Tryd.underlying47 Tryd.underlying2 (zero2 _) b _ _ rfl hown _ _ rfl hkey ?_; intro v6 hat6 hwv6) | fail)
        obtain ⟨g, hg⟩ : ∃ g, w.heap.size = g := ⟨_, rfl⟩
        have hbg : b < g := by rw [← hg]; exact hown.lt
        have hgr1 : w.grownBy (w.alloc (.cells #[.int .i64 ((q : Int) + 1), .int .i64 ((q : Int) + ((W : Int) + 1))] 3)) (some b) := World.grownBy_alloc w _ _
        have hown1 := hown.alloc (.cells #[.int .i64 ((q : Int) + 1), .int .i64 ((q : Int) + ((W : Int) + 1))] 3)
        have hcell : ∀ i t : Nat, i < 2 → t = (if i = 0 then q + 1 else q + (W + 1)) → (w.alloc (.cells #[.int .i64 ((q : Int) + 1), .int .i64 ((q : Int) + ((W : Int) + 1))] 3)).cell? ⟨g, i, none⟩ = some (.int .i64 (t : Int)) := by
          intro i t hi ht
          have hn := World.alloc_heap_new w (.cells #[.int .i64 ((q : Int) + 1), .int .i64 ((q : Int) + ((W : Int) + 1))] 3)
          rw [hg] at hn
          simp only [World.cell?, hn]
          obtain rfl | rfl : i = 0 ∨ i = 1 := by omega
          · rw [if_pos rfl] at ht
            subst ht
            simp
          · rw [if_neg (by decide)] at ht
            subst ht
            simp
        rw [hg]
        generalize hw1 : w.alloc (.cells #[.int .i64 ((q : Int) + 1), .int .i64 ((q : Int) + ((W : Int) + 1))] 3) = w1 at hgr1 hown1 hcell ⊢
        have hg1 : g < w1.heap.size := by rw [← hw1, ← hg]; simp
        have HCELL := Lib.hid hcell
        have HG0 := Lib.hid hg
        clear hw1 hcell hg hown hat6 hwv6
        obtain ⟨P, hP⟩ : ∃ P, 2 ^ f = P := ⟨_, rfl⟩
        have hP2 : 2 ^ (f + 1) = 2 * P := by rw [← hP, Nat.pow_succ]; omega
        have hP1 : 1 ≤ P := by rw [← hP]; exact Nat.two_pow_pos f
        rw [hP2] at hc ⊢
        have HPP := Lib.hid hP
        clear hP hP2
        go_loopw [11, 59] (fun n i wr => ∃ (k c' : Nat) (D' : DataW Unit), k ≤ 2 ∧ i = .int .i64 k ∧ n = .int .i64 (accT h W G y x k : Nat) ∧ MemoOk h W D' ∧ wr.ownsMap Tryd.prog 9 (plainElem Tryd.prog 2) b c' D' ∧ w1.grownBy wr (some b) ∧ c' ≤ c + k * (P - 1)) (fun _ i _ => 2 - (intOf i).toNat)
        case atStart => exact ⟨0, c, D, by omega, rfl, rfl, hM, hown1, World.grownBy.refl _ _, by omega⟩
        case round =>
          obtain ⟨k, c', D', hk, rfl, rfl, hM', hown', hgr, hcb⟩ := hrel
          obtain ⟨z, hz⟩ : ∃ z, k * (P - 1) = z := ⟨_, rfl⟩
          have hz1 : (k + 1) * (P - 1) = z + (P - 1) := by rw [Nat.succ_mul, hz]
          rw [hz] at hcb
          have HZ := Lib.hid hz
          have HZ1 := Lib.hid hz1
          have hacc := tilR_le w0 h8 w8 T y x k
          clear hz hz1
          by_cases hk2 : k < 2
          · have hki : (k : Int) < 2 := by omega
            obtain ⟨t, ht⟩ : ∃ t, t = (if k = 0 then q + 1 else q + (W + 1)) := ⟨_, rfl⟩
            have ct := hgr.cell (HCELL.out k t hk2 ht) (fun e => by have := Option.some.inj e; simp at this; omega)
            have ht100 : t ≤ 200 := by rw [ht]; split <;> omega
            rcases til_nb h0 HS.out HF.out HQ.out t k hk2 ht with ⟨hle, ha⟩ | ⟨cc, hcc, hne, ha⟩ | ⟨y2, x2, hcc, ht2, hy2, hx2, hG2, hdiff, ha⟩
            · have HA := Lib.hid ha
              have hn1 : ¬ (t : Int) < (s.length : Int) := by omega
              have hn2 : ¬ t < s.length := by omega
              clear ha ht hle
              go_wp2
              go_roundw
              case rel => go_light; exact ⟨k + 1, c', D', by omega, by go_num, by rw [HA.out], hM', hown', hgr, by rw [HZ1.out]; omega⟩
              case measure => go_light; simp [intOf]; omega
            · have HA := Lib.hid ha
              have htl : t < s.length := (List.getElem?_eq_some_iff.1 hcc).1
              have hti : (t : Int) < (s.length : Int) := by omega
              have hbt := byte_at hcc (by simpa [ByteArray.size] using htl)
              have f35 : ((cc.toNat : Int) == 35) = false := u8_ne (n := 35) hne
              clear ha ht hcc hne
              go_wp2
              go_roundw
              case rel => go_light; exact ⟨k + 1, c', D', by omega, by go_num, by rw [HA.out], hM', hown', hgr, by rw [HZ1.out]; omega⟩
              case measure => go_light; simp [intOf]; omega
            · have htl : t < s.length := (List.getElem?_eq_some_iff.1 hcc).1
              have hti : (t : Int) < (s.length : Int) := by omega
              have hbt := byte_at hcc (by simpa [ByteArray.size] using htl)
              have htq : q < t := by rw [ht]; split <;> omega
              have htq1 : q ≠ t := by omega
              have htq2 : t ≠ q := by omega
              have h2 := openN_set HF.out.hy HF.out.hx hy2 hx2 HF.out.open_ hG2 hdiff
              obtain ⟨f', hf'⟩ : ∃ f', f' + 1 = f := ⟨f - 1, by omega⟩
              have hop2 : openN (h * W) (oG W (set2 G y x 46 y2 x2 46)) ≤ 2 * f' + 1 := by omega
              have hput : (s.set q 46).set t 46 = textOf h W (set2 G y x 46 y2 x2 46) := by
                rw [← HS.out, ← HQ.out, ← ht2]
                exact text_put2 h W G y x y2 x2 46 46 HF.out.hy HF.out.hx hy2 hx2
              have T2 : Two h W (set2 G y x 46 y2 x2 46) := T.set _ _ _ _
              have hrl := cntG_max w0 h8 w8 T2
              have hpf : 2 ^ (f' + 1) = P := by rw [hf']; exact HPP.out
              have hcall := fun (w6 : World) (ho : w6.ownsMap Tryd.prog 9 (plainElem Tryd.prog 2) b c' D') (hcc' : c' + P ≤ 9000000000000) => ih f' hf' (set2 G y x 46 y2 x2 46) b c' D' w6 T2 hop2 hM' ho (by rw [hpf]; exact hcc')
              obtain ⟨L2, hL2⟩ : ∃ L2, textOf h W (set2 G y x 46 y2 x2 46) = L2 := ⟨_, rfl⟩
              obtain ⟨r, hr⟩ : ∃ r, cntG h W (set2 G y x 46 y2 x2 46) = r := ⟨_, rfl⟩
              unfold TilG at hcall
              rw [hL2, hr, hpf] at hcall
              rw [hL2] at hput
              rw [hr] at hrl ha
              have hL2l : L2.length = s.length := by rw [← hput]; simp
              have hconv : ∀ u : World, (convert 9 63 (.string ⟨s.toArray⟩)).run Tryd.prog u = .ok (.slice (some ⟨u.heap.size, 0, none⟩) s.length (grownCap u s.length 0 5)) (Lib.bytesWorld u 5 ⟨s.toArray⟩) := fun u => by
                have h := Lib.run_convert_string_bytes (P := Tryd.prog) u 9 63 5 ⟨s.toArray⟩ Tryd.underlying9 Tryd.underlying63 Tryd.underlying5
                simpa [ByteArray.size] using h
              have HV : Hid (((accT h W G y x (k + 1) : Nat) : Int) = ((accT h W G y x k : Nat) : Int) + (r : Int)) := Lib.hid (by rw [ha]; omega)
              have HCC := Lib.hid hcc
              have HPUT := Lib.hid hput
              have HCALL := Lib.hid hcall
              have HF1 := Lib.hid hf'
              clear ha ht h2 hop2 hput hcall hL2 hr hpf hf' hG2 hdiff T2 hcc ht2
              go_upto_region 22 with fail
              have hr5 := RowAt.bytes wr s
              have hb5 : Below wr.heap.size wr (Lib.bytesWorld wr 5 ⟨s.toArray⟩) := below_bytes (Below.refl _ _) (Nat.le_refl _) _
              clear hconv
              generalize Lib.bytesWorld wr 5 ⟨s.toArray⟩ = w5 at hr5 hb5 ⊢
              obtain ⟨B, hB⟩ : ∃ B, wr.heap.size = B := ⟨_, rfl⟩
              generalize grownCap wr s.length 0 5 = cp
              rw [hB] at hr5 hb5 ⊢
              have hgB := hgr.size
              rw [hB] at hgB
              have hown5 : w5.ownsMap Tryd.prog 9 (plainElem Tryd.prog 2) b c' D' := hown'.kept (grown_of (by rw [hB]; exact hb5) none) (by simp)
              have hbB : b < B := by rw [← hB]; exact hown'.lt
              have HB := Lib.hid hB
              clear hB
              obtain ⟨d1, f1⟩ := hr5.2 _ _ hgq
              obtain ⟨d2, f2⟩ := hr5.2 _ _ HCC.out
              have hs1 := hr5.set hql 46
              have hs2 := hs1.set (i := t) (by simpa using htl) 46
              rw [HPUT.out] at hs2
              have hs3 : RowAt ((w5.setCell ⟨B, q, none⟩ (.int .u8 46)).setCell ⟨B, t, none⟩ (.int .u8 46)) B L2 := hs2
              have hb6 : Below B wr ((w5.setCell ⟨B, q, none⟩ (.int .u8 46)).setCell ⟨B, t, none⟩ (.int .u8 46)) := ((hb5.setCell (p := ⟨B, q, none⟩) (Nat.le_refl B) _).setCell (p := ⟨B, t, none⟩) (Nat.le_refl B) _)
              have HR5 := Lib.hid hs3
              have HB6 := Lib.hid hb6
              clear hs1 hs2 hs3 hb6 hr5 hb5
              go_upto_region 23 with fail
              have hs3 := HR5.out
              have hb6 := HB6.out
              clear HR5 HB6 d1 f1 d2 f2 hown5
              generalize (w5.setCell ⟨B, q, none⟩ (.int .u8 46)).setCell ⟨B, t, none⟩ (.int .u8 46) = w6 at hs3 hb6 ⊢
              have hconv2 := run_convert_bytes_back (P := Tryd.prog) w6 63 9 5 ⟨B, 0, none⟩ cp L2 Tryd.underlying63 Tryd.underlying5 Tryd.underlying9 (fun j hj => by
                have e : (⟨B, 0, none⟩ : Addr).add j = ⟨B, j, none⟩ := addr_add0 _ _
                rw [e, (hs3.2 j _ (List.getElem?_eq_getElem hj)).1])
              rw [hL2l] at hconv2
              have hown6 : w6.ownsMap Tryd.prog 9 (plainElem Tryd.prog 2) b c' D' := hown'.kept (grown_of (by rw [HB.out]; exact hb6) none) (by simp)
              have hgr6 : w1.grownBy w6 (some b) := grown_below hgr hb6 hgB
              have hcb2 : c' + P ≤ 9000000000000 := by
                have := HZ.out
                obtain rfl | rfl : k = 0 ∨ k = 1 := by omega
                · omega
                · omega
              clear hs3 hb6
              go_wp2_with fail
              refine (HCALL.out w6 hown6 hcb2).mono ?_
              rintro e w7 ⟨rfl, D7, c7, hM7, hown7, hgr7, hc7⟩
              have hgr17 := grown_trans hgr6 hgr7
              clear hconv2 hown6 hgr6 hgr7
              go_wp2
              go_roundw
              case rel => go_light; exact ⟨k + 1, c7, D7, by omega, by go_num, by rw [HV.out], hM7, hown7, hgr17, by rw [HZ1.out]; omega⟩
              case measure => go_light; simp [intOf]; omega
          · obtain rfl : k = 2 := by omega
            have HE : Hid (accT h W G y x 2 = cntG h W G) := Lib.hid (accT_two HF.out)
            have hz2 : z = 2 * (P - 1) := HZ.out.symm
            have hwf : (Lit.int .i64 ((accT h W G y x 2 : Nat) : Int)).wf = true := WalkArith.wf_i64 (by omega)
            obtain ⟨w9, e9, hown9, hg9⟩ := hown'.update law9 Tryd.underlying47 (by unfold maxLen; omega) hkey (plainElem_int Tryd.underlying2 hwf)
            have hput := hM'.put h0 w0 hown'.isMap T trivial
            rw [HS.out, ← HE.out] at hput
            have HPU := Lib.hid hput
            have hgr9 := grown_trans (grown_trans hgr1 hgr) hg9
            clear hput hwf
            go_wp2_with fail
            go_ret
            refine ⟨by rw [← HE.out]; rfl, _, c' + 1, HPU.out, hown9, hgr9, ?_⟩
            have h5 : 2 ^ (f + 1) = 2 * P := by rw [Nat.pow_succ, HPP.out]; omega
            omega
      · have HH := Lib.hid hh
        go_wp2_with (first | (at_lookup; refine wpList_lookup_own_ok_int _ rfl _ _ 47 rfl 9 2 .i64 law9 Tryd.underlying47 Tryd.underlying2 (zero2 _) b _ _ rfl hown _ _ rfl hkey ?_; intro v6 hat6 hwv6) | fail)
        have hv6 : v6 = (cntG h W G : Nat) := by
          have h1 := hM G T (.lit (.int .i64 0)) (by rw [HS.out]; exact HH.out)
          rw [HS.out, hat6] at h1
          injection h1 with h1
          injection h1
        go_ret
        exact ⟨by rw [← hv6]; rfl, D, c, hM, hown, World.grownBy.refl _ _, by omega⟩
theorem tilings_any (h W : Nat) (h0 : 0 < h) (h8 : h ≤ 8) (w0 : 0 < W) (w8 : W ≤ 8) : ∀ f, TilH h W f := by
  intro f
  induction f with
  | zero => exact til_step h W h0 h8 w0 w8 0 (fun f' e => by omega)
  | succ f ih =>
    refine til_step h W h0 h8 w0 w8 (f + 1) (fun f' e => ?_)
    obtain rfl : f' = f := by omega
    exact ih
/-- Tilings of any board, the map holding what is true. -/
theorem tilings_board (h W : Nat) (h0 : 0 < h) (h8 : h ≤ 8) (w0 : 0 < W) (w8 : W ≤ 8) (G : Nat → Nat → UInt8) (T : Two h W G) (b c : Nat) (D : DataW Unit) (w : World) (hM : MemoOk h W D) (hown : w.ownsMap Tryd.prog 9 (plainElem Tryd.prog 2) b c D) (hc : c + 8589934592 ≤ 9000000000000) :
    Calls Tryd.prog 24 #[.string ⟨(textOf h W G).toArray⟩, .map (some b)] w (TilG h W G b c 8589934591 w) := by
  have ho := openN_le (h * W) (oG W G)
  have h64 : h * W ≤ 8 * 8 := Nat.mul_le_mul h8 w8
  exact tilings_any h W h0 h8 w0 w8 32 G b c D w T (by omega) hM hown hc
end Go.Proofs.YtahihapgbcoanaaDoor
