/- The walks of ferref.Laid and of its closure. -/
import Derived.Test.YtahihapgbcoanaaDoorCellsW
namespace Go.Proofs.YtahihapgbcoanaaDoor
open Go.RowKit

set_option maxRecDepth 100000 in
set_option maxHeartbeats 4000000 in
theorem at_in (g : List (List UInt8)) (b lb cap : Nat) (w : World) (hl : w.cell? ⟨lb, 0, none⟩ = some (.slice (some ⟨b, 0, none⟩) g.length cap)) (hst : StrsAt w b g) (i j : Nat) (p p0 : List UInt8) (hp : Hid (g[i]? = some p)) (hp0 : Hid (g[0]? = some p0)) (c : UInt8) (hc : Hid (p[j]? = some c))
    (hi : i < g.length) (hj : j < p.length) (hj0 : j < p0.length) (h8 : g.length ≤ 8) (_w8 : p0.length ≤ 8) (_w9 : p.length ≤ 8) :
    Calls Tryd.prog 36 #[.int .i64 i, .int .i64 j, .pointer (some ⟨lb, 0, none⟩)] w fun e w' => e = .returned (.int .u8 c.toNat) ∧ w = w' := by
  have c0 := hst.cell 0 p0 hp0.out
  have c1 := hst.cell i p hp.out
  have e1 : decide ((i : Int) < 0) = false := decide_eq_false (by omega)
  have e2 : decide ((j : Int) < 0) = false := decide_eq_false (by omega)
  have e3 : decide ((g.length : Int) ≤ (i : Int)) = false := decide_eq_false (by omega)
  have e3n : decide (g.length ≤ i) = false := decide_eq_false (by omega)
  have e4 : decide ((p0.length : Int) ≤ (j : Int)) = false := decide_eq_false (by omega)
  have e4n : decide (p0.length ≤ j) = false := decide_eq_false (by omega)
  have hne : 0 < g.length := by omega
  have hcc : p[j] = c := by have := hc.out; rw [List.getElem?_eq_getElem hj] at this; exact Option.some.inj this
  have HC := Lib.hid hcc
  clear hcc
  go_enter Tryd.func36, Tryd.ntmps36
  go_wp2
  go_ret
  refine ⟨?_, rfl⟩
  rw [← HC.out]
  rfl

set_option maxRecDepth 100000 in
set_option maxHeartbeats 4000000 in
theorem at_out (g : List (List UInt8)) (b lb cap : Nat) (w : World) (hl : w.cell? ⟨lb, 0, none⟩ = some (.slice (some ⟨b, 0, none⟩) g.length cap)) (hst : StrsAt w b g) (i j : Int) (p0 : List UInt8) (hp0 : Hid (g[0]? = some p0))
    (hne : 0 < g.length) (_h8 : g.length ≤ 8) (_w8 : p0.length ≤ 8) (ho : i < 0 ∨ j < 0 ∨ (g.length : Int) ≤ i ∨ (p0.length : Int) ≤ j) :
    Calls Tryd.prog 36 #[.int .i64 i, .int .i64 j, .pointer (some ⟨lb, 0, none⟩)] w fun e w' => e = .returned (.int .u8 32) ∧ w = w' := by
  have c0 := hst.cell 0 p0 hp0.out
  by_cases q1 : i < 0
  · have e1 : decide (i < 0) = true := decide_eq_true q1
    go_enter Tryd.func36, Tryd.ntmps36
    go_wp2
    go_ret
    exact ⟨rfl, rfl⟩
  have e1 : decide (i < 0) = false := decide_eq_false q1
  by_cases q2 : j < 0
  · have e2 : decide (j < 0) = true := decide_eq_true q2
    go_enter Tryd.func36, Tryd.ntmps36
    go_wp2
    go_ret
    exact ⟨rfl, rfl⟩
  have e2 : decide (j < 0) = false := decide_eq_false q2
  by_cases q3 : (g.length : Int) ≤ i
  · have e3 : decide ((g.length : Int) ≤ i) = true := decide_eq_true q3
    go_enter Tryd.func36, Tryd.ntmps36
    go_wp2
    go_ret
    exact ⟨rfl, rfl⟩
  have e3 : decide ((g.length : Int) ≤ i) = false := decide_eq_false q3
  have q4 : (p0.length : Int) ≤ j := by omega
  have e4 : decide ((p0.length : Int) ≤ j) = true := decide_eq_true q4
  go_enter Tryd.func36, Tryd.ntmps36
  go_wp2
  go_ret
  exact ⟨rfl, rfl⟩

theorem eqnil44_none (w : World) : (binOp .eql 44 (.slice none 0 0) (.slice none 0 0)).run Tryd.prog w = .ok (.bool true) w := by
  simp only [binOp]
  simp [Op.equal, Op.maxDepth, Lib.run_equalIn_slice_nil w 9999 44 9 none 0 0 0 0 Tryd.underlying44]
theorem eqnil44_some (w : World) (a : Addr) (n c : Nat) : (binOp .eql 44 (.slice (some a) n c) (.slice none 0 0)).run Tryd.prog w = .ok (.bool false) w := by
  simp only [binOp]
  simp [Op.equal, Op.maxDepth, Lib.run_equalIn_slice_nil w 9999 44 9 (some a) n c 0 0 Tryd.underlying44]

theorem cells_lrud (s : List UInt8) (m : Int) (w : World) (hs : s.length < 4294967281) (hm : w.cell? ⟨0, 0, none⟩ = some (.int .i64 m)) :
    Calls Tryd.prog 22 #[.string ⟨s.toArray⟩, .string ⟨#[108, 114, 117, 100, 46]⟩] w (CellsG lrud s w) := cells_any s lrud m w hs hm
theorem cells_hash (s : List UInt8) (m : Int) (w : World) (hs : s.length < 4294967281) (hm : w.cell? ⟨0, 0, none⟩ = some (.int .i64 m)) :
    Calls Tryd.prog 22 #[.string ⟨s.toArray⟩, .string ⟨#[35, 46]⟩] w (CellsG hash s w) := cells_any s hash m w hs hm

theorem at_in_i (g : List (List UInt8)) (b lb cap : Nat) (w : World) (hl : w.cell? ⟨lb, 0, none⟩ = some (.slice (some ⟨b, 0, none⟩) g.length cap)) (hst : StrsAt w b g) (I J : Int) (i j : Nat) (hI : I = i) (hJ : J = j) (p p0 : List UInt8) (hp : Hid (g[i]? = some p)) (hp0 : Hid (g[0]? = some p0)) (c : UInt8) (hc : Hid (p[j]? = some c))
    (hi : i < g.length) (hj : j < p.length) (hj0 : j < p0.length) (h8 : g.length ≤ 8) (w8 : p0.length ≤ 8) (w9 : p.length ≤ 8) :
    Calls Tryd.prog 36 #[.int .i64 I, .int .i64 J, .pointer (some ⟨lb, 0, none⟩)] w fun e w' => e = .returned (.int .u8 c.toNat) ∧ w = w' := by
  subst hI hJ
  exact at_in g b lb cap w hl hst i j p p0 hp hp0 c hc hi hj hj0 h8 w8 w9
theorem u8_bne_same {a n : UInt8} (h : a = n) : ((a.toNat : Int) != (n.toNat : Int)) = false := by rw [h]; simp
theorem u8_bne_ne {a n : UInt8} (h : a ≠ n) : ((a.toNat : Int) != (n.toNat : Int)) = true := by rw [bne, u8_ne h]; rfl
theorem u8_same {a n : UInt8} (h : a = n) : ((a.toNat : Int) == (n.toNat : Int)) = true := by rw [h]; simp

/-- What Laid hands back. -/
def LaidG (s : List UInt8) (w : World) (e : Ending) (w' : World) : Prop :=
  Below w.heap.size w w' ∧ ((¬ Tiling s ∧ e = .returned (.bool false)) ∨ (Tiling s ∧ e = .returned (.bool true)))

theorem cellOf_get {g : List (List UInt8)} {i j : Nat} {p : List UInt8} {c : UInt8} (hp : g[i]? = some p) (hc : p[j]? = some c) : cellOf g i j = c := by
  simp [cellOf, List.getD, hp, hc]

set_option maxRecDepth 100000 in
set_option maxHeartbeats 16000000 in
theorem laid_any (s : List UInt8) (m : Int) (w : World) (hs : s.length < 4294967281) (hm : w.cell? ⟨0, 0, none⟩ = some (.int .i64 m)) :
    Calls Tryd.prog 12 #[.string ⟨s.toArray⟩] w (LaidG s w) := by
  have hn0 := eqnil44_none
  have hn1 := eqnil44_some
  go_enter Tryd.func12, Tryd.ntmps12
  go_wp2_with fail
  refine (cells_lrud s m _ hs hm).mono ?_
  rintro e w1 ⟨hb, ⟨hng, rfl⟩ | ⟨hgd, rfl, hst⟩⟩
  · have HN := Lib.hid (show ¬ Tiling s from fun h => hng h.1)
    clear hng
    go_wp2
    go_ret
    exact ⟨hb.alloc hb.size _, .inl ⟨HN.out, rfl⟩⟩
  · obtain ⟨h8, w8, h0, w0⟩ := good_h hgd
    have hlen : ∀ (i : Nat) (p : List UInt8), (pieces s)[i]? = some p → p.length = wOf s := fun i p hp => (hgd.2.1 p (List.mem_of_getElem? hp)).2.2
    have hlt := hst.lt
    have hb2 : Below w.heap.size w (w1.alloc (.cells #[.slice (some ⟨w.heap.size, 0, none⟩) (pieces s).length (pieces s).length] 44)) := hb.alloc hb.size _
    have hl : (w1.alloc (.cells #[.slice (some ⟨w.heap.size, 0, none⟩) (pieces s).length (pieces s).length] 44)).cell? ⟨w1.heap.size, 0, none⟩ = some (.slice (some ⟨w.heap.size, 0, none⟩) (pieces s).length (pieces s).length) := by simp
    have hst2 : StrsAt (w1.alloc (.cells #[.slice (some ⟨w.heap.size, 0, none⟩) (pieces s).length (pieces s).length] 44)) w.heap.size (pieces s) := hst.same (by simp) (Below.heap_alloc _ _ _ hlt)
    have HGD := Lib.hid hgd
    have hE : hOf s = (pieces s).length := rfl
    have hne := pieces_ne s
    obtain ⟨p0, hp0⟩ : ∃ p0, (pieces s)[0]? = some p0 := ⟨(pieces s)[0]'h0, List.getElem?_eq_getElem h0⟩
    have hw0 : p0.length = wOf s := hlen 0 p0 hp0
    have hT : ∀ i j, i < (pieces s).length → j < wOf s → ∃ p c, (pieces s)[i]? = some p ∧ p[j]? = some c ∧ cellOf (pieces s) i j = c := fun i j hi hj => by
      refine ⟨(pieces s)[i], ((pieces s)[i])[j]'(by rw [hlen i _ (List.getElem?_eq_getElem hi)]; exact hj), List.getElem?_eq_getElem hi, List.getElem?_eq_getElem _, ?_⟩
      exact cellOf_get (List.getElem?_eq_getElem hi) (List.getElem?_eq_getElem _)
    have hTil : (∀ i j, i < (pieces s).length → j < wOf s → okAt (pieces s).length (wOf s) (cellOf (pieces s)) i j) → Tiling s := fun h => ⟨HGD.out, h⟩
    have hTn : ∀ i j, i < (pieces s).length → j < wOf s → ¬ okAt (pieces s).length (wOf s) (cellOf (pieces s)) i j → ¬ Tiling s := fun i j hi hj hn ht => hn (ht.2 i j hi hj)
    have HS := Lib.hid hTil
    have HTN := Lib.hid hTn
    have HC := Lib.hid hT
    have HL := Lib.hid hlen
    have H0 := Lib.hid hp0
    have HW0 := Lib.hid hw0
    rw [hE] at h8 h0
    clear hgd hlen hE hne hp0 hw0 hT hTil hTn hst hb
    have w08 : p0.length ≤ 8 := by rw [HW0.out]; exact w8
    generalize pieces s = g at *
    generalize wOf s = W at *
    go_wp2
    generalize w1.alloc (.cells #[.slice (some ⟨w.heap.size, 0, none⟩) g.length g.length] 44) = w2 at hb2 hl hst2 ⊢
    go_loop [5] (fun i => ∃ k : Nat, k ≤ g.length ∧ i = .int .i64 k ∧ Hid (∀ a b, a < k → b < W → okAt g.length W (cellOf g) a b)) (fun i => g.length - (intOf i).toNat)
    case atStart => exact ⟨0, Nat.zero_le _, rfl, Lib.hid (fun a b ha => absurd ha (Nat.not_lt_zero _))⟩
    case round =>
      obtain ⟨k, hk, rfl, HK⟩ := hrel
      by_cases hkl : k < g.length
      · obtain ⟨p, hp⟩ : ∃ p, g[k]? = some p := ⟨g[k], List.getElem?_eq_getElem hkl⟩
        have c1 := hst2.cell k p hp
        have HP := Lib.hid hp
        have HPW := Lib.hid (HL.out k p hp)
        clear hp
        have p8 : p.length ≤ 8 := by rw [HPW.out]; exact w8
        go_wp2
        go_loop [6] (fun i => ∃ m : Nat, m ≤ p.length ∧ i = .int .i64 m ∧ Hid (∀ b, b < m → okAt g.length W (cellOf g) k b)) (fun i => p.length - (intOf i).toNat)
        case atStart => exact ⟨0, Nat.zero_le _, rfl, Lib.hid (fun b hb => absurd hb (Nat.not_lt_zero _))⟩
        case round =>
          obtain ⟨m, hmm, rfl, HM⟩ := hrel
          by_cases hml : m < p.length
          · have hmW : m < W := by rw [← HPW.out]; exact hml
            obtain ⟨c, hc⟩ : ∃ c, p[m]? = some c := ⟨p[m], List.getElem?_eq_getElem hml⟩
            have hcG := cellOf_get HP.out hc
            have HCG := Lib.hid hcG
            have hcc : (⟨p.toArray⟩ : ByteArray)[m]'(by simpa [ByteArray.size] using hml) = c := by
              have h1 := hc
              rw [List.getElem?_eq_getElem hml] at h1
              exact Option.some.inj h1
            clear hc hcG
            by_cases q108 : c = 108
            · subst q108
              by_cases hin : m + 1 < W
              · obtain ⟨pq, d, hpq, hdq, hdG⟩ := HC.out (k) (m + 1) (by omega) (by omega)
                have HPQ := Lib.hid hpq
                have HDQ := Lib.hid hdq
                have HPL := Lib.hid (HL.out _ pq hpq)
                have pq8 : pq.length ≤ 8 := by rw [HPL.out]; exact w8
                have pqj : m + 1 < pq.length := by rw [HPL.out]; omega
                have HDG := Lib.hid hdG
                have p0j : m + 1 < p0.length := by rw [HW0.out]; omega
                clear hpq hdq hdG
                by_cases hd : d = 114
                · have HOK : Hid (okAt g.length W (cellOf g) k m) := Lib.hid ⟨fun _ => ⟨hin, by rw [HDG.out]; exact hd⟩, fun e => absurd (HCG.out.symm.trans e) (by decide), fun e => absurd (HCG.out.symm.trans e) (by decide), fun e => absurd (HCG.out.symm.trans e) (by decide)⟩
                  have e9 : ((d.toNat : Int) != 114) = false := u8_bne_same (n := 114) hd
                  clear hd
                  go_wp2_with (go_at_call 36; refine (at_in_i g w.heap.size w1.heap.size g.length w2 hl hst2 _ _ (k) (m + 1) (by omega) (by omega) pq p0 HPQ H0 d HDQ (by omega) (by omega) (by omega) h8 w08 pq8).mono ?_; rintro e w3 ⟨rfl, rfl⟩)
                  go_round
                  case rel => go_light; exact ⟨m + 1, by omega, by go_num, Lib.hid (fun b hb => by
                    rcases Nat.lt_succ_iff_lt_or_eq.1 hb with hb | rfl
                    · exact HM.out b hb
                    · exact HOK.out)⟩
                  case measure => go_light; simp [intOf]; omega
                · have HB : Hid (¬ Tiling s) := Lib.hid (HTN.out k m hkl hmW (fun ho => hd (by have := (ho.1 HCG.out).2; rw [HDG.out] at this; exact this)))
                  have e9 : ((d.toNat : Int) != 114) = true := u8_bne_ne (n := 114) hd
                  clear hd
                  go_wp2_with (go_at_call 36; refine (at_in_i g w.heap.size w1.heap.size g.length w2 hl hst2 _ _ (k) (m + 1) (by omega) (by omega) pq p0 HPQ H0 d HDQ (by omega) (by omega) (by omega) h8 w08 pq8).mono ?_; rintro e w3 ⟨rfl, rfl⟩)
                  go_ret
                  exact ⟨hb2, .inl ⟨HB.out, rfl⟩⟩
              · have HB : Hid (¬ Tiling s) := Lib.hid (HTN.out k m hkl hmW (fun ho => hin (ho.1 HCG.out).1))
                go_wp2_with (go_at_call 36; refine (at_out g w.heap.size w1.heap.size g.length w2 hl hst2 _ _ p0 H0 h0 h8 w08 (by have := HW0.out; omega)).mono ?_; rintro e w3 ⟨rfl, rfl⟩)
                go_ret
                exact ⟨hb2, .inl ⟨HB.out, rfl⟩⟩
            have f108 : ((c.toNat : Int) == 108) = false := u8_ne (n := 108) q108
            have H108 := Lib.hid q108
            clear q108
            by_cases q114 : c = 114
            · subst q114
              by_cases hin : 0 < m
              · obtain ⟨pq, d, hpq, hdq, hdG⟩ := HC.out (k) (m - 1) (by omega) (by omega)
                have HPQ := Lib.hid hpq
                have HDQ := Lib.hid hdq
                have HPL := Lib.hid (HL.out _ pq hpq)
                have pq8 : pq.length ≤ 8 := by rw [HPL.out]; exact w8
                have pqj : m - 1 < pq.length := by rw [HPL.out]; omega
                have HDG := Lib.hid hdG
                have p0j : m - 1 < p0.length := by rw [HW0.out]; omega
                clear hpq hdq hdG
                by_cases hd : d = 108
                · have HOK : Hid (okAt g.length W (cellOf g) k m) := Lib.hid ⟨fun e => absurd (HCG.out.symm.trans e) (by decide), fun _ => ⟨hin, by rw [HDG.out]; exact hd⟩, fun e => absurd (HCG.out.symm.trans e) (by decide), fun e => absurd (HCG.out.symm.trans e) (by decide)⟩
                  have e9 : ((d.toNat : Int) != 108) = false := u8_bne_same (n := 108) hd
                  clear hd
                  go_wp2_with (go_at_call 36; refine (at_in_i g w.heap.size w1.heap.size g.length w2 hl hst2 _ _ (k) (m - 1) (by omega) (by omega) pq p0 HPQ H0 d HDQ (by omega) (by omega) (by omega) h8 w08 pq8).mono ?_; rintro e w3 ⟨rfl, rfl⟩)
                  go_round
                  case rel => go_light; exact ⟨m + 1, by omega, by go_num, Lib.hid (fun b hb => by
                    rcases Nat.lt_succ_iff_lt_or_eq.1 hb with hb | rfl
                    · exact HM.out b hb
                    · exact HOK.out)⟩
                  case measure => go_light; simp [intOf]; omega
                · have HB : Hid (¬ Tiling s) := Lib.hid (HTN.out k m hkl hmW (fun ho => hd (by have := (ho.2.1 HCG.out).2; rw [HDG.out] at this; exact this)))
                  have e9 : ((d.toNat : Int) != 108) = true := u8_bne_ne (n := 108) hd
                  clear hd
                  go_wp2_with (go_at_call 36; refine (at_in_i g w.heap.size w1.heap.size g.length w2 hl hst2 _ _ (k) (m - 1) (by omega) (by omega) pq p0 HPQ H0 d HDQ (by omega) (by omega) (by omega) h8 w08 pq8).mono ?_; rintro e w3 ⟨rfl, rfl⟩)
                  go_ret
                  exact ⟨hb2, .inl ⟨HB.out, rfl⟩⟩
              · have HB : Hid (¬ Tiling s) := Lib.hid (HTN.out k m hkl hmW (fun ho => hin (ho.2.1 HCG.out).1))
                go_wp2_with (go_at_call 36; refine (at_out g w.heap.size w1.heap.size g.length w2 hl hst2 _ _ p0 H0 h0 h8 w08 (by have := HW0.out; omega)).mono ?_; rintro e w3 ⟨rfl, rfl⟩)
                go_ret
                exact ⟨hb2, .inl ⟨HB.out, rfl⟩⟩
            have f114 : ((c.toNat : Int) == 114) = false := u8_ne (n := 114) q114
            have H114 := Lib.hid q114
            clear q114
            by_cases q117 : c = 117
            · subst q117
              by_cases hin : k + 1 < g.length
              · obtain ⟨pq, d, hpq, hdq, hdG⟩ := HC.out (k + 1) (m) (by omega) (by omega)
                have HPQ := Lib.hid hpq
                have HDQ := Lib.hid hdq
                have HPL := Lib.hid (HL.out _ pq hpq)
                have pq8 : pq.length ≤ 8 := by rw [HPL.out]; exact w8
                have pqj : m < pq.length := by rw [HPL.out]; omega
                have HDG := Lib.hid hdG
                have p0j : m < p0.length := by rw [HW0.out]; omega
                clear hpq hdq hdG
                by_cases hd : d = 100
                · have HOK : Hid (okAt g.length W (cellOf g) k m) := Lib.hid ⟨fun e => absurd (HCG.out.symm.trans e) (by decide), fun e => absurd (HCG.out.symm.trans e) (by decide), fun _ => ⟨hin, by rw [HDG.out]; exact hd⟩, fun e => absurd (HCG.out.symm.trans e) (by decide)⟩
                  have e9 : ((d.toNat : Int) != 100) = false := u8_bne_same (n := 100) hd
                  clear hd
                  go_wp2_with (go_at_call 36; refine (at_in_i g w.heap.size w1.heap.size g.length w2 hl hst2 _ _ (k + 1) (m) (by omega) (by omega) pq p0 HPQ H0 d HDQ (by omega) (by omega) (by omega) h8 w08 pq8).mono ?_; rintro e w3 ⟨rfl, rfl⟩)
                  go_round
                  case rel => go_light; exact ⟨m + 1, by omega, by go_num, Lib.hid (fun b hb => by
                    rcases Nat.lt_succ_iff_lt_or_eq.1 hb with hb | rfl
                    · exact HM.out b hb
                    · exact HOK.out)⟩
                  case measure => go_light; simp [intOf]; omega
                · have HB : Hid (¬ Tiling s) := Lib.hid (HTN.out k m hkl hmW (fun ho => hd (by have := (ho.2.2.1 HCG.out).2; rw [HDG.out] at this; exact this)))
                  have e9 : ((d.toNat : Int) != 100) = true := u8_bne_ne (n := 100) hd
                  clear hd
                  go_wp2_with (go_at_call 36; refine (at_in_i g w.heap.size w1.heap.size g.length w2 hl hst2 _ _ (k + 1) (m) (by omega) (by omega) pq p0 HPQ H0 d HDQ (by omega) (by omega) (by omega) h8 w08 pq8).mono ?_; rintro e w3 ⟨rfl, rfl⟩)
                  go_ret
                  exact ⟨hb2, .inl ⟨HB.out, rfl⟩⟩
              · have HB : Hid (¬ Tiling s) := Lib.hid (HTN.out k m hkl hmW (fun ho => hin (ho.2.2.1 HCG.out).1))
                go_wp2_with (go_at_call 36; refine (at_out g w.heap.size w1.heap.size g.length w2 hl hst2 _ _ p0 H0 h0 h8 w08 (by have := HW0.out; omega)).mono ?_; rintro e w3 ⟨rfl, rfl⟩)
                go_ret
                exact ⟨hb2, .inl ⟨HB.out, rfl⟩⟩
            have f117 : ((c.toNat : Int) == 117) = false := u8_ne (n := 117) q117
            have H117 := Lib.hid q117
            clear q117
            by_cases q100 : c = 100
            · subst q100
              by_cases hin : 0 < k
              · obtain ⟨pq, d, hpq, hdq, hdG⟩ := HC.out (k - 1) (m) (by omega) (by omega)
                have HPQ := Lib.hid hpq
                have HDQ := Lib.hid hdq
                have HPL := Lib.hid (HL.out _ pq hpq)
                have pq8 : pq.length ≤ 8 := by rw [HPL.out]; exact w8
                have pqj : m < pq.length := by rw [HPL.out]; omega
                have HDG := Lib.hid hdG
                have p0j : m < p0.length := by rw [HW0.out]; omega
                clear hpq hdq hdG
                by_cases hd : d = 117
                · have HOK : Hid (okAt g.length W (cellOf g) k m) := Lib.hid ⟨fun e => absurd (HCG.out.symm.trans e) (by decide), fun e => absurd (HCG.out.symm.trans e) (by decide), fun e => absurd (HCG.out.symm.trans e) (by decide), fun _ => ⟨hin, by rw [HDG.out]; exact hd⟩⟩
                  have e9 : ((d.toNat : Int) != 117) = false := u8_bne_same (n := 117) hd
                  clear hd
                  go_wp2_with (go_at_call 36; refine (at_in_i g w.heap.size w1.heap.size g.length w2 hl hst2 _ _ (k - 1) (m) (by omega) (by omega) pq p0 HPQ H0 d HDQ (by omega) (by omega) (by omega) h8 w08 pq8).mono ?_; rintro e w3 ⟨rfl, rfl⟩)
                  go_round
                  case rel => go_light; exact ⟨m + 1, by omega, by go_num, Lib.hid (fun b hb => by
                    rcases Nat.lt_succ_iff_lt_or_eq.1 hb with hb | rfl
                    · exact HM.out b hb
                    · exact HOK.out)⟩
                  case measure => go_light; simp [intOf]; omega
                · have HB : Hid (¬ Tiling s) := Lib.hid (HTN.out k m hkl hmW (fun ho => hd (by have := (ho.2.2.2 HCG.out).2; rw [HDG.out] at this; exact this)))
                  have e9 : ((d.toNat : Int) != 117) = true := u8_bne_ne (n := 117) hd
                  clear hd
                  go_wp2_with (go_at_call 36; refine (at_in_i g w.heap.size w1.heap.size g.length w2 hl hst2 _ _ (k - 1) (m) (by omega) (by omega) pq p0 HPQ H0 d HDQ (by omega) (by omega) (by omega) h8 w08 pq8).mono ?_; rintro e w3 ⟨rfl, rfl⟩)
                  go_ret
                  exact ⟨hb2, .inl ⟨HB.out, rfl⟩⟩
              · have HB : Hid (¬ Tiling s) := Lib.hid (HTN.out k m hkl hmW (fun ho => hin (ho.2.2.2 HCG.out).1))
                go_wp2_with (go_at_call 36; refine (at_out g w.heap.size w1.heap.size g.length w2 hl hst2 _ _ p0 H0 h0 h8 w08 (by have := HW0.out; omega)).mono ?_; rintro e w3 ⟨rfl, rfl⟩)
                go_ret
                exact ⟨hb2, .inl ⟨HB.out, rfl⟩⟩
            have f100 : ((c.toNat : Int) == 100) = false := u8_ne (n := 100) q100
            have H100 := Lib.hid q100
            clear q100
            have HOK : Hid (okAt g.length W (cellOf g) k m) := Lib.hid ⟨fun e => absurd (HCG.out.symm.trans e) H108.out, fun e => absurd (HCG.out.symm.trans e) H114.out, fun e => absurd (HCG.out.symm.trans e) H117.out, fun e => absurd (HCG.out.symm.trans e) H100.out⟩
            go_wp2
            go_round
            case rel => go_light; exact ⟨m + 1, by omega, by go_num, Lib.hid (fun b hb => by
              rcases Nat.lt_succ_iff_lt_or_eq.1 hb with hb | rfl
              · exact HM.out b hb
              · exact HOK.out)⟩
            case measure => go_light; simp [intOf]; omega
          · have HMM := Lib.hid (show ∀ b, b < W → okAt g.length W (cellOf g) k b from fun b hb => HM.out b (by rw [← HPW.out] at hb; omega))
            clear HM
            go_wp2
            go_round
            case rel => go_light; exact ⟨k + 1, by omega, by go_num, Lib.hid (fun a b ha hb => by
              rcases Nat.lt_succ_iff_lt_or_eq.1 ha with ha | rfl
              · exact HK.out a b ha hb
              · exact HMM.out b hb)⟩
            case measure => go_light; simp [intOf]; omega
      · have HTT := Lib.hid (HS.out (fun a b ha hb => HK.out a b (by omega) hb))
        go_wp2
        go_ret
        exact ⟨hb2, .inr ⟨HTT.out, rfl⟩⟩
end Go.Proofs.YtahihapgbcoanaaDoor
