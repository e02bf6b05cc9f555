/- The walk of ferref.Blocks. -/
import Derived.Test.YtahihapgbcoanaaDoorLaidW
namespace Go.Proofs.YtahihapgbcoanaaDoor
open Go.RowKit

theorem extract_two {p : List UInt8} {x : Nat} {a b : UInt8} (ha : p[x]? = some a) (hb : p[x + 1]? = some b) : (⟨p.toArray⟩ : ByteArray).extract x (x + 2) = ⟨#[a, b]⟩ := by
  rw [extract_list]
  have h0 : (p.drop x)[0]? = some a := by simpa using ha
  have h1 : (p.drop x)[1]? = some b := by simpa using hb
  have : (p.drop x).take (x + 2 - x) = [a, b] := by
    rw [show x + 2 - x = 2 from by omega]
    cases hd : p.drop x with
    | nil => rw [hd] at h0; simp at h0
    | cons u l =>
      cases l with
      | nil => rw [hd] at h1; simp at h1
      | cons v l => rw [hd] at h0 h1; simp at h0 h1; simp [h0, h1]
  rw [this]
theorem append_two (a b c d : UInt8) : (⟨#[a, b]⟩ : ByteArray) ++ ⟨#[c, d]⟩ = ⟨#[a, b, c, d]⟩ := by
  apply ByteArray.ext
  rw [ByteArray.data_append]
  rfl

/-- The rows of a tiling, letter by letter. -/
structure RowsOk (g : List (List UInt8)) (W : Nat) : Prop where
  len : ∀ (i : Nat) (p : List UInt8), g[i]? = some p → p.length = W
theorem RowsOk.get {g : List (List UInt8)} {W : Nat} (h : RowsOk g W) {i j : Nat} (hi : i < g.length) (hj : j < W) : ∃ p, g[i]? = some p ∧ p[j]? = some (cellOf g i j) := by
  have hl := h.len i g[i] (List.getElem?_eq_getElem hi)
  have hj' : j < g[i].length := by rw [hl]; exact hj
  refine ⟨g[i], List.getElem?_eq_getElem hi, ?_⟩
  rw [cellOf_get (List.getElem?_eq_getElem hi) (List.getElem?_eq_getElem hj')]
  exact List.getElem?_eq_getElem hj'

theorem rowPts_last (h W : Nat) (G : Nat → Nat → UInt8) (k m : Nat) (hm : m + 1 = W) : rowPts h W G k W = rowPts h W G k m := by
  have ht : turnAt h W G m k = false := by simp [turnAt, hm]
  rw [← hm, rowPts_succ]
  rw [hm, ht]
  simp
theorem rowPts_none (h W : Nat) (G : Nat → Nat → UInt8) (k m : Nat) (hk : k + 1 = h) : rowPts h W G k m = [] := by
  induction m with
  | zero => simp [rowPts]
  | succ m ih =>
    have ht : turnAt h W G m k = false := by simp [turnAt, hk]
    rw [rowPts_succ, ih, ht]
    simp
theorem ptsTo_last (h W : Nat) (G : Nat → Nat → UInt8) (k : Nat) (hk : k + 1 = h) : ptsTo h W G h = ptsTo h W G k := by
  have e : ptsTo h W G (k + 1) = ptsTo h W G k ++ rowPts h W G k W := ptsTo_succ h W G k
  rw [hk] at e
  rw [e, rowPts_none h W G k W hk]
  simp

/-- What Blocks hands back, of a tiling. -/
def BlocksG (s : List UInt8) (w : World) (e : Ending) (w' : World) : Prop :=
  Below w.heap.size w w' ∧ ∃ v, e = .returned v ∧ w'.ownsRow w.heap.size 23 2 v (ptsTo (hOf s) (wOf s) (gOf s) (hOf s)).length (ptCells (ptsTo (hOf s) (wOf s) (gOf s) (hOf s)))

set_option maxRecDepth 100000 in
set_option maxHeartbeats 8000000 in
theorem blocks_any (s : List UInt8) (m : Int) (w : World) (hs : s.length < 4294967281) (hm : w.cell? ⟨0, 0, none⟩ = some (.int .i64 m)) (hg : Good lrud (pieces s)) :
    Calls Tryd.prog 13 #[.string ⟨s.toArray⟩] w (BlocksG s w) := by
  obtain ⟨i0, hi, hz0, hz1, hz2⟩ := info_parts info23
  go_enter Tryd.func13, Tryd.ntmps13
  go_wp2_with fail
  refine (split_any s m _ hs hm).mono ?_
  rintro e w1 ⟨rfl, hw1⟩
  have hb : Below w.heap.size w w1 := by rw [hw1]; exact (Below.refl _ w).alloc (Nat.le_refl _) _
  have hst : StrsAt w1 w.heap.size (pieces s) := by
    rw [hw1]
    refine ⟨by simp, fun i p hi => ?_⟩
    have hnew := World.alloc_heap_new w (.cells ((pieces s).map fun p => Value.string ⟨p.toArray⟩).toArray 9)
    simp only [World.cell?, hnew]
    simp [hi]
  obtain ⟨h8, w8, h0, w0⟩ := good_h hg
  have hR : RowsOk (pieces s) (wOf s) := ⟨fun i p hp => (hg.2.1 p (List.mem_of_getElem? hp)).2.2⟩
  have hE1 : hOf s = (pieces s).length := rfl
  have hE2 : gOf s = cellOf (pieces s) := rfl
  have hE3 : wOf s = wOf s := rfl
  rw [hE1] at h8 h0
  clear hw1 hg
  generalize hgg : pieces s = g at *
  generalize hww : wOf s = W at *
  have HE := Lib.hid (⟨hE1, hww, hE2⟩ : hOf s = g.length ∧ wOf s = W ∧ gOf s = cellOf g)
  clear hE1 hE2 hE3 hgg hww
  go_wp2
  go_loopw [4, 5] (fun v i wr => ∃ k : Nat, k + 1 ≤ g.length ∧ i = .int .i64 k ∧ wr.ownsRow w1.heap.size 23 2 v (ptsTo g.length W (cellOf g) k).length (ptCells (ptsTo g.length W (cellOf g) k)) ∧ Below w1.heap.size w1 wr) (fun _ i _ => g.length - (intOf i).toNat)
  case atStart => exact ⟨0, h0, rfl, World.ownsRow_nil _ _ _ _, Below.refl _ _⟩
  case round =>
    obtain ⟨k, hk, rfl, hown, hbr⟩ := hrel
    obtain ⟨wo, rfl⟩ : ∃ wo : World, wo = wr := ⟨_, rfl⟩
    have hpl := ptsTo_len g.length W (cellOf g) k
    have hp2 : k * W ≤ 8 * 8 := Nat.mul_le_mul (by omega) w8
    by_cases hkl : k + 1 < g.length
    · have ek : decide ((k : Int) + 1 < (g.length : Int)) = true := decide_eq_true (by omega)
      obtain ⟨p, hp, hp00⟩ := hR.get (i := k) (j := 0) (by omega) w0
      obtain ⟨q, hq, hq00⟩ := hR.get (i := k + 1) (j := 0) hkl w0
      have hpW := hR.len k p hp
      have hqW := hR.len (k + 1) q hq
      have HP := Lib.hid hp
      have HQ := Lib.hid hq
      have HPW := Lib.hid hpW
      have HQW := Lib.hid hqW
      have p8 : p.length ≤ 8 := by omega
      have q8 : q.length ≤ 8 := by omega
      have p0 : 0 < p.length := by omega
      have c1 := (hst.below hbr).cell k p hp
      clear hp hq hpW hqW hp00 hq00
      go_wp2
      go_loopw [4, 6] (fun v i wi => ∃ m : Nat, m + 1 ≤ p.length ∧ i = .int .i64 m ∧ wi.ownsRow w1.heap.size 23 2 v (ptsTo g.length W (cellOf g) k ++ rowPts g.length W (cellOf g) k m).length (ptCells (ptsTo g.length W (cellOf g) k ++ rowPts g.length W (cellOf g) k m)) ∧ Below w1.heap.size w1 wi) (fun _ i _ => p.length - (intOf i).toNat)
      case atStart => exact ⟨0, p0, rfl, by simpa [rowPts] using hown, hbr⟩
      case round =>
        obtain ⟨m, hmm, rfl, hown2, hbi⟩ := hrel
        clear hown c1
        have c1 := (hst.below hbi).cell k p HP.out
        have c2 := (hst.below hbi).cell (k + 1) q HQ.out
        by_cases hml : m + 1 < p.length
        · have hmq : m + 1 < q.length := by rw [HQW.out]; rw [HPW.out] at hml; exact hml
          have em : decide ((m : Int) + 1 < (p.length : Int)) = true := decide_eq_true (by omega)
          have hg4 : p[m]? = some (cellOf g k m) ∧ p[m + 1]? = some (cellOf g k (m + 1)) ∧ q[m]? = some (cellOf g (k + 1) m) ∧ q[m + 1]? = some (cellOf g (k + 1) (m + 1)) := by
            refine ⟨?_, ?_, ?_, ?_⟩
            · rw [cellOf_get HP.out (List.getElem?_eq_getElem (show m < p.length by omega))]; exact List.getElem?_eq_getElem _
            · rw [cellOf_get HP.out (List.getElem?_eq_getElem (show m + 1 < p.length by omega))]; exact List.getElem?_eq_getElem _
            · rw [cellOf_get HQ.out (List.getElem?_eq_getElem (show m < q.length by omega))]; exact List.getElem?_eq_getElem _
            · rw [cellOf_get HQ.out (List.getElem?_eq_getElem (show m + 1 < q.length by omega))]; exact List.getElem?_eq_getElem _
          have hrl := rowPts_len g.length W (cellOf g) k m
          have hll : (ptsTo g.length W (cellOf g) k ++ rowPts g.length W (cellOf g) k m).length ≤ 100 := by rw [List.length_append]; omega
          have ht : turnAt g.length W (cellOf g) m k = turnB (cellOf g) m k := by
            have : m + 1 < W := by rw [← HPW.out]; exact hml
            simp [turnAt, this, hkl]
          have hTB : turnB (cellOf g) m k = ((cellOf g k m == 108 && cellOf g k (m + 1) == 114 && cellOf g (k + 1) m == 108 && cellOf g (k + 1) (m + 1) == 114) || (cellOf g k m == 117 && cellOf g k (m + 1) == 117 && cellOf g (k + 1) m == 100 && cellOf g (k + 1) (m + 1) == 100)) := rfl
          rw [hTB] at ht
          generalize hl : ptsTo g.length W (cellOf g) k ++ rowPts g.length W (cellOf g) k m = l at hown2 hll
          have HL := Lib.hid hl
          have hxp := extract_two hg4.1 hg4.2.1
          have hxq := extract_two hg4.2.2.1 hg4.2.2.2
          have hap := append_two (cellOf g k m) (cellOf g k (m + 1)) (cellOf g (k + 1) m) (cellOf g (k + 1) (m + 1))
          generalize cellOf g k m = a at hxp hap ht
          generalize cellOf g k (m + 1) = b at hxp hap ht
          generalize cellOf g (k + 1) m = c at hxq hap ht
          generalize cellOf g (k + 1) (m + 1) = d at hxq hap ht
          have i1 : (k : Int) < (g.length : Int) := by omega
          have i2 : (k : Int) + 1 < (g.length : Int) := by omega
          have i3 : (m : Int) + 2 ≤ (p.length : Int) := by omega
          have i4 : (m : Int) + 2 ≤ (q.length : Int) := by omega
          clear hl hpl hrl hp2 hTB hg4
          by_cases qq : a = 108 ∧ b = 114 ∧ c = 108 ∧ d = 114
          · obtain ⟨rfl, rfl, rfl, rfl⟩ := qq
            have HT : Hid (turnAt g.length W (cellOf g) m k = true) := Lib.hid (by rw [ht]; rfl)
            clear ht
            go_wp2_with fail
            go_quiet (fail)
            go_wp2_with (at_builtin; refine wpList_append_own _ rfl _ _ 28 rfl w1.heap.size 23 i0 (.agg #[.int .i64 0, .int .i64 0]) 2 16 Tryd.underlying28 hi hz0 hz1 hz2 rfl (by decide) _ _ _ rfl ((own_drewN hown2 nq).alloc _) ⟨wr.heap.size, 0, none⟩ 1 1 [.int .i64 m, .int .i64 k] rfl rfl (cell_two_d _ _ _ _ _) (by simp [Value.oneCell']) (by unfold maxLen; omega) (by omega) (by have := hbi.size; simp; omega) ?_; intro v' w3 hown' hgrow hdrop; clear hdrop)
            have hb3 : Below w1.heap.size w1 w3 := ((below_drewN hbi nq).alloc (by simpa using hbi.size) _).grown hgrow (by have := hbi.size; simp; omega) (fun g e => (hown2.lt g e).1)
            go_roundw
            case rel => go_light; exact ⟨m + 1, by omega, by go_num, by rw [rowPts_succ, HT.out]; simp only [if_true]; rw [← List.append_assoc, HL.out, ptCells_append, List.length_append]; exact hown', hb3⟩
            case measure => go_light; simp [intOf]; omega
          by_cases qr : a = 117 ∧ b = 117 ∧ c = 100 ∧ d = 100
          · obtain ⟨rfl, rfl, rfl, rfl⟩ := qr
            have HT : Hid (turnAt g.length W (cellOf g) m k = true) := Lib.hid (by rw [ht]; rfl)
            clear ht
            go_wp2_with fail
            go_quiet (fail)
            go_wp2_with (at_builtin; refine wpList_append_own _ rfl _ _ 28 rfl w1.heap.size 23 i0 (.agg #[.int .i64 0, .int .i64 0]) 2 16 Tryd.underlying28 hi hz0 hz1 hz2 rfl (by decide) _ _ _ rfl ((own_drewN hown2 nq).alloc _) ⟨wr.heap.size, 0, none⟩ 1 1 [.int .i64 m, .int .i64 k] rfl rfl (cell_two_d _ _ _ _ _) (by simp [Value.oneCell']) (by unfold maxLen; omega) (by omega) (by have := hbi.size; simp; omega) ?_; intro v' w3 hown' hgrow hdrop; clear hdrop)
            have hb3 : Below w1.heap.size w1 w3 := ((below_drewN hbi nq).alloc (by simpa using hbi.size) _).grown hgrow (by have := hbi.size; simp; omega) (fun g e => (hown2.lt g e).1)
            go_roundw
            case rel => go_light; exact ⟨m + 1, by omega, by go_num, by rw [rowPts_succ, HT.out]; simp only [if_true]; rw [← List.append_assoc, HL.out, ptCells_append, List.length_append]; exact hown', hb3⟩
            case measure => go_light; simp [intOf]; omega
          have HT : Hid (turnAt g.length W (cellOf g) m k = false) := Lib.hid (by
            rw [ht]
            cases h1 : (a == 108 && b == 114 && c == 108 && d == 114)
            · cases h2 : (a == 117 && b == 117 && c == 100 && d == 100)
              · rfl
              · exact absurd (by simpa [and_assoc] using h2) qr
            · exact absurd (by simpa [and_assoc] using h1) qq)
          clear ht
          obtain ⟨T, hT⟩ : ∃ T : ByteArray, T = ⟨#[a, b, c, d]⟩ := ⟨_, rfl⟩
          rw [← hT] at hap
          have t1 : (T.toList == [108, 114, 108, 114]) = false := by
            rw [hT]
            refine beq_eq_false_iff_ne.2 (fun e => qq ?_)
            simpa [ByteArray.toList_mk] using e
          have t2 : (T.toList == [117, 117, 100, 100]) = false := by
            rw [hT]
            refine beq_eq_false_iff_ne.2 (fun e => qr ?_)
            simpa [ByteArray.toList_mk] using e
          clear hT qq qr
          go_wp2_with fail
          go_quiet (fail)
          go_wp2_with fail
          go_roundw
          case rel => go_light; exact ⟨m + 1, by omega, by go_num, by rw [rowPts_succ, HT.out]; simp only [Bool.false_eq_true, if_false]; rw [HL.out]; exact hown2, below_drewN hbi _⟩
          case measure => go_light; simp [intOf]; omega
        · have hmW : m + 1 = W := by rw [← HPW.out]; omega
          have em : decide ((m : Int) + 1 < (p.length : Int)) = false := decide_eq_false (by omega)
          go_wp2
          go_roundw
          case rel => go_light; exact ⟨k + 1, by omega, by go_num, by rw [ptsTo_succ, rowPts_last _ _ _ _ m hmW]; exact hown2, hbi⟩
          case measure => go_light; simp [intOf]; omega
    · have hkk : k + 1 = g.length := by omega
      have HKK := Lib.hid hkk
      clear hkk
      have ek : decide ((k : Int) + 1 < (g.length : Int)) = false := decide_eq_false (by omega)
      go_wp2
      go_ret
      refine ⟨hb.trans (hbr.mono hb.size), _, rfl, ?_⟩
      obtain ⟨e1, e2, e3⟩ := HE.out
      rw [e1, e2, e3, ptsTo_last g.length W (cellOf g) k HKK.out]
      exact own_mono hown hb.size
end Go.Proofs.YtahihapgbcoanaaDoor
