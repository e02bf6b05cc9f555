/- The walk of domino.tiles. -/
import Derived.Test.YtahihapgbcoanaaDoorGMem
namespace Go.Proofs.YtahihapgbcoanaaDoor
open Go.RowKit

abbrev lrud : List UInt8 := [108, 114, 117, 100, 46]
abbrev hash : List UInt8 := [35, 46]
/-- How many rows; how many columns. -/
def hOf (s : List UInt8) : Nat := (pieces s).length
def wOf (s : List UInt8) : Nat := ((pieces s).headD []).length
def gOf (s : List UInt8) : Nat → Nat → UInt8 := cellOf (pieces s)

/-- What rows hands back, by places. -/
def RowsG (letters s : List UInt8) (w : World) (e : Ending) (w' : World) : Prop :=
  Below w.heap.size w w' ∧ ((¬ Good letters (pieces s) ∧ e = .returned (.slice none 0 0)) ∨
    (Good letters (pieces s) ∧ ∃ top cap rb rc, e = .returned (.slice (some ⟨top, 0, none⟩) (hOf s) cap) ∧ GMem w' w.heap.size top rb rc (hOf s) (wOf s) (gOf s)))
theorem RowsOut.g {letters s : List UInt8} {w : World} {e : Ending} {w' : World} (h : RowsOut letters s w e w') : RowsG letters s w e w' := by
  obtain ⟨v, rfl, hb, ⟨hn, rfl⟩ | ⟨hg, rs, hrs, hm⟩⟩ := h
  · exact ⟨hb, .inl ⟨hn, rfl⟩⟩
  · obtain ⟨top, cap, rb, rc, hv, hgm⟩ := hm.gmem hrs (pieces_ne s) (W := wOf s) (fun r hr => (hg.2.1 r hr).2.2)
    exact ⟨hb, .inr ⟨hg, top, cap, rb, rc, by rw [hv]; rfl, hgm⟩⟩
theorem rows_lrud (s : List UInt8) (hs : s.length ≤ 9223372036854775807) (w : World) : Calls Tryd.prog 38 #[.string ⟨s.toArray⟩, .string ⟨#[108, 114, 117, 100, 46]⟩] w (RowsG lrud s w) :=
  (rows_any s lrud hs (by decide) (by decide) w).mono fun _ _ h => h.g
theorem rows_hash (s : List UInt8) (hs : s.length ≤ 9223372036854775807) (w : World) : Calls Tryd.prog 38 #[.string ⟨s.toArray⟩, .string ⟨#[35, 46]⟩] w (RowsG hash s w) :=
  (rows_any s hash hs (by decide) (by decide) w).mono fun _ _ h => h.g

/-- Is the letter at (i, j) half of a domino that lies whole? -/
def okAt (h W : Nat) (G : Nat → Nat → UInt8) (i j : Nat) : Prop :=
  (G i j = 108 → j + 1 < W ∧ G i (j + 1) = 114) ∧ (G i j = 114 → 0 < j ∧ G i (j - 1) = 108) ∧
  (G i j = 117 → i + 1 < h ∧ G (i + 1) j = 100) ∧ (G i j = 100 → 0 < i ∧ G (i - 1) j = 117)
def Tiling (s : List UInt8) : Prop := Good lrud (pieces s) ∧ ∀ i j, i < hOf s → j < wOf s → okAt (hOf s) (wOf s) (gOf s) i j

def TilesG (s : List UInt8) (w : World) (e : Ending) (w' : World) : Prop :=
  Below w.heap.size w w' ∧ ((¬ Tiling s ∧ e = .returned (.slice none 0 0)) ∨
    (Tiling s ∧ ∃ top cap rb rc, e = .returned (.slice (some ⟨top, 0, none⟩) (hOf s) cap) ∧ GMem w' w.heap.size top rb rc (hOf s) (wOf s) (gOf s)))

theorem good_h {letters s : List UInt8} (h : Good letters (pieces s)) : hOf s ≤ 8 ∧ wOf s ≤ 8 ∧ 0 < hOf s ∧ 0 < wOf s := by
  have hne := pieces_ne s
  have h0 : 0 < hOf s := List.length_pos_iff.2 hne
  obtain ⟨p, ps, hp⟩ := List.exists_cons_of_ne_nil hne
  have := h.2.1 p (by rw [hp]; simp)
  have e : wOf s = p.length := by unfold wOf; rw [hp]; rfl
  exact ⟨h.1, by omega, h0, by omega⟩

theorem u8_eq {a : UInt8} {n : Nat} (hn : n < 256) : ((a.toNat : Int) == (n : Int)) = (a == UInt8.ofNat n) := by
  by_cases h : a = UInt8.ofNat n
  · subst h
    have e : (UInt8.ofNat n).toNat = n := by simp; omega
    simp [e]
  · have h2 : a.toNat ≠ n := fun e => h (by rw [← e]; simp)
    have h3 : (a.toNat : Int) ≠ (n : Int) := by omega
    rw [beq_eq_false_iff_ne.2 h3, beq_eq_false_iff_ne.2 h]

theorem not_tiling {s : List UInt8} {h W : Nat} {G : Nat → Nat → UInt8} (H : hOf s = h ∧ wOf s = W ∧ gOf s = G) {i j : Nat} (hi : i < h) (hj : j < W) (hn : ¬ okAt h W G i j) : ¬ Tiling s := by
  obtain ⟨rfl, rfl, rfl⟩ := H
  exact fun ht => hn (ht.2 i j hi hj)

set_option maxRecDepth 100000 in
set_option maxHeartbeats 8000000 in
theorem tiles_any (s : List UInt8) (hs : s.length ≤ 9223372036854775807) (w : World) : Calls Tryd.prog 33 #[.string ⟨s.toArray⟩] w (TilesG s w) := by
  go_enter Tryd.func33, Tryd.ntmps33
  go_wp2_with fail
  refine (rows_lrud s hs _).mono ?_
  rintro e w1 ⟨hb, ⟨hng, rfl⟩ | ⟨hg, top, cap, rb, rc, rfl, hm⟩⟩
  · have hnt : ¬ Tiling s := fun h => hng h.1
    have HN := Lib.hid hnt
    clear hng hnt
    go_wp2
    refine wp_loop_rounds 1 ?_
    rw [rounds_succ]
    go_wp2
    go_ret
    exact ⟨hb, .inl ⟨HN.out, rfl⟩⟩
  · obtain ⟨h8, w8, h0, w0⟩ := good_h hg
    have hE : hOf s = hOf s ∧ wOf s = wOf s ∧ gOf s = gOf s := ⟨rfl, rfl, rfl⟩
    have HG := Lib.hid hg
    clear hg
    generalize hh : hOf s = h at h8 h0 hm ⊢
    generalize hw : wOf s = W at w8 w0 hm ⊢
    generalize hgg : gOf s = G at hm ⊢
    have HE := Lib.hid (⟨hh, hw, hgg⟩ : hOf s = h ∧ wOf s = W ∧ gOf s = G)
    clear hh hw hgg hE
    go_wp2
    go_loop [13] (fun i => ∃ k : Nat, k ≤ h ∧ i = .int .i64 k ∧ Hid (∀ a b, a < k → b < W → okAt h W G a b)) (fun i => h - (intOf i).toNat)
    case atStart => exact ⟨0, Nat.zero_le _, rfl, Lib.hid (fun a b ha => absurd ha (Nat.not_lt_zero _))⟩
    case round =>
      obtain ⟨k, hk, rfl, HK⟩ := hrel
      by_cases hkl : k < h
      · have c1 := hm.row k hkl
        go_wp2
        go_loop [20] (fun i => ∃ m : Nat, m ≤ W ∧ i = .int .i64 m ∧ Hid (∀ b, b < m → okAt h W G k b)) (fun i => W - (intOf i).toNat)
        case atStart => exact ⟨0, Nat.zero_le _, rfl, Lib.hid (fun b hb => absurd hb (Nat.not_lt_zero _))⟩
        case round =>
          obtain ⟨m, hmm, rfl, HM⟩ := hrel
          by_cases hml : m < W
          · have c2 := hm.cell k m hkl hml
            by_cases hc : G k m = 108
            · have HC := Lib.hid hc
              have c3 : w1.cell? ⟨rb k, m, none⟩ = some (.int .u8 108) := by rw [c2, hc]; rfl
              clear c2 hc
              by_cases q : m + 1 < W
              · have q1 : decide ((m : Int) + 1 < (W : Int)) = true := decide_eq_true (by omega)
                have q2 : decide (m + 1 < W) = true := decide_eq_true (by omega)
                have c5 := hm.cell k (m + 1) hkl q
                by_cases hd : G k (m + 1) = 114
                · have HOK : Hid (okAt h W G k m) := Lib.hid (have hc := HC.out; ⟨fun _ => ⟨q, hd⟩, fun e => absurd (hc.symm.trans e) (by decide), fun e => absurd (hc.symm.trans e) (by decide), fun e => absurd (hc.symm.trans e) (by decide)⟩)
                  have c6 : w1.cell? ⟨rb k, (m + 1), none⟩ = some (.int .u8 114) := by rw [c5, hd]; rfl
                  clear c5 hd
                  go_wp2
                  go_round
                  case rel => go_light; exact ⟨m + 1, by omega, by go_num, Lib.hid (fun b hb => by
                    rcases Nat.lt_succ_iff_lt_or_eq.1 hb with hb | rfl
                    · exact HM.out b hb
                    · exact HOK.out)⟩
                  case measure => go_light; simp [intOf]; omega
                · have hnt : ¬ Tiling s := not_tiling HE.out hkl hml (fun ho => hd (ho.1 HC.out).2)
                  have HNT := Lib.hid hnt
                  have e9 : (((G k (m + 1)).toNat : Int) == 114) = false := by rw [show (114 : Int) = ((114 : Nat) : Int) from rfl, u8_eq (by decide)]; exact beq_eq_false_iff_ne.2 hd
                  clear hnt hd
                  go_wp2
                  go_ret
                  exact ⟨hb, .inl ⟨HNT.out, rfl⟩⟩
              · have q1 : decide ((m : Int) + 1 < (W : Int)) = false := decide_eq_false (by omega)
                have q2 : decide (m + 1 < W) = false := decide_eq_false (by omega)
                have hnt : ¬ Tiling s := not_tiling HE.out hkl hml (fun ho => q (ho.1 HC.out).1)
                have HNT := Lib.hid hnt
                clear hnt
                go_wp2
                go_ret
                exact ⟨hb, .inl ⟨HNT.out, rfl⟩⟩
            have e108 : (((G k m).toNat : Int) == 108) = false := by rw [show (108 : Int) = ((108 : Nat) : Int) from rfl, u8_eq (by decide)]; exact beq_eq_false_iff_ne.2 hc
            have H108 := Lib.hid hc
            clear hc
            by_cases hc : G k m = 114
            · have HC := Lib.hid hc
              have c3 : w1.cell? ⟨rb k, m, none⟩ = some (.int .u8 114) := by rw [c2, hc]; rfl
              clear c2 hc
              by_cases q : 0 < m
              · have q1 : decide (0 < (m : Int)) = true := decide_eq_true (by omega)
                have q2 : decide (0 < m) = true := decide_eq_true (by omega)
                have zz : ((m : Int) - 1).toNat = m - 1 := by omega
                have c5 := hm.cell k (m - 1) hkl (by omega)
                by_cases hd : G k (m - 1) = 108
                · have HOK : Hid (okAt h W G k m) := Lib.hid (have hc := HC.out; ⟨fun e => absurd (hc.symm.trans e) (by decide), fun _ => ⟨q, hd⟩, fun e => absurd (hc.symm.trans e) (by decide), fun e => absurd (hc.symm.trans e) (by decide)⟩)
                  have c6 : w1.cell? ⟨rb k, (m - 1), none⟩ = some (.int .u8 108) := by rw [c5, hd]; rfl
                  clear c5 hd
                  go_wp2
                  go_round
                  case rel => go_light; exact ⟨m + 1, by omega, by go_num, Lib.hid (fun b hb => by
                    rcases Nat.lt_succ_iff_lt_or_eq.1 hb with hb | rfl
                    · exact HM.out b hb
                    · exact HOK.out)⟩
                  case measure => go_light; simp [intOf]; omega
                · have hnt : ¬ Tiling s := not_tiling HE.out hkl hml (fun ho => hd (ho.2.1 HC.out).2)
                  have HNT := Lib.hid hnt
                  have e9 : (((G k (m - 1)).toNat : Int) == 108) = false := by rw [show (108 : Int) = ((108 : Nat) : Int) from rfl, u8_eq (by decide)]; exact beq_eq_false_iff_ne.2 hd
                  clear hnt hd
                  go_wp2
                  go_ret
                  exact ⟨hb, .inl ⟨HNT.out, rfl⟩⟩
              · have q1 : decide (0 < (m : Int)) = false := decide_eq_false (by omega)
                have q2 : decide (0 < m) = false := decide_eq_false (by omega)
                have hnt : ¬ Tiling s := not_tiling HE.out hkl hml (fun ho => q (ho.2.1 HC.out).1)
                have HNT := Lib.hid hnt
                clear hnt
                go_wp2
                go_ret
                exact ⟨hb, .inl ⟨HNT.out, rfl⟩⟩
            have e114 : (((G k m).toNat : Int) == 114) = false := by rw [show (114 : Int) = ((114 : Nat) : Int) from rfl, u8_eq (by decide)]; exact beq_eq_false_iff_ne.2 hc
            have H114 := Lib.hid hc
            clear hc
            by_cases hc : G k m = 117
            · have HC := Lib.hid hc
              have c3 : w1.cell? ⟨rb k, m, none⟩ = some (.int .u8 117) := by rw [c2, hc]; rfl
              clear c2 hc
              by_cases q : k + 1 < h
              · have q1 : decide ((k : Int) + 1 < (h : Int)) = true := decide_eq_true (by omega)
                have q2 : decide (k + 1 < h) = true := decide_eq_true (by omega)
                have c4 := hm.row (k + 1) q
                have c5 := hm.cell (k + 1) m q hml
                by_cases hd : G (k + 1) m = 100
                · have HOK : Hid (okAt h W G k m) := Lib.hid (have hc := HC.out; ⟨fun e => absurd (hc.symm.trans e) (by decide), fun e => absurd (hc.symm.trans e) (by decide), fun _ => ⟨q, hd⟩, fun e => absurd (hc.symm.trans e) (by decide)⟩)
                  have c6 : w1.cell? ⟨rb (k + 1), m, none⟩ = some (.int .u8 100) := by rw [c5, hd]; rfl
                  clear c5 hd
                  go_wp2
                  go_round
                  case rel => go_light; exact ⟨m + 1, by omega, by go_num, Lib.hid (fun b hb => by
                    rcases Nat.lt_succ_iff_lt_or_eq.1 hb with hb | rfl
                    · exact HM.out b hb
                    · exact HOK.out)⟩
                  case measure => go_light; simp [intOf]; omega
                · have hnt : ¬ Tiling s := not_tiling HE.out hkl hml (fun ho => hd (ho.2.2.1 HC.out).2)
                  have HNT := Lib.hid hnt
                  have e9 : (((G (k + 1) m).toNat : Int) == 100) = false := by rw [show (100 : Int) = ((100 : Nat) : Int) from rfl, u8_eq (by decide)]; exact beq_eq_false_iff_ne.2 hd
                  clear hnt hd
                  go_wp2
                  go_ret
                  exact ⟨hb, .inl ⟨HNT.out, rfl⟩⟩
              · have q1 : decide ((k : Int) + 1 < (h : Int)) = false := decide_eq_false (by omega)
                have q2 : decide (k + 1 < h) = false := decide_eq_false (by omega)
                have hnt : ¬ Tiling s := not_tiling HE.out hkl hml (fun ho => q (ho.2.2.1 HC.out).1)
                have HNT := Lib.hid hnt
                clear hnt
                go_wp2
                go_ret
                exact ⟨hb, .inl ⟨HNT.out, rfl⟩⟩
            have e117 : (((G k m).toNat : Int) == 117) = false := by rw [show (117 : Int) = ((117 : Nat) : Int) from rfl, u8_eq (by decide)]; exact beq_eq_false_iff_ne.2 hc
            have H117 := Lib.hid hc
            clear hc
            by_cases hc : G k m = 100
            · have HC := Lib.hid hc
              have c3 : w1.cell? ⟨rb k, m, none⟩ = some (.int .u8 100) := by rw [c2, hc]; rfl
              clear c2 hc
              by_cases q : 0 < k
              · have q1 : decide (0 < (k : Int)) = true := decide_eq_true (by omega)
                have q2 : decide (0 < k) = true := decide_eq_true (by omega)
                have c4 := hm.row (k - 1) (by omega)
                have zz : ((k : Int) - 1).toNat = k - 1 := by omega
                have c5 := hm.cell (k - 1) m (by omega) hml
                by_cases hd : G (k - 1) m = 117
                · have HOK : Hid (okAt h W G k m) := Lib.hid (have hc := HC.out; ⟨fun e => absurd (hc.symm.trans e) (by decide), fun e => absurd (hc.symm.trans e) (by decide), fun e => absurd (hc.symm.trans e) (by decide), fun _ => ⟨q, hd⟩⟩)
                  have c6 : w1.cell? ⟨rb (k - 1), m, none⟩ = some (.int .u8 117) := by rw [c5, hd]; rfl
                  clear c5 hd
                  go_wp2
                  go_round
                  case rel => go_light; exact ⟨m + 1, by omega, by go_num, Lib.hid (fun b hb => by
                    rcases Nat.lt_succ_iff_lt_or_eq.1 hb with hb | rfl
                    · exact HM.out b hb
                    · exact HOK.out)⟩
                  case measure => go_light; simp [intOf]; omega
                · have hnt : ¬ Tiling s := not_tiling HE.out hkl hml (fun ho => hd (ho.2.2.2 HC.out).2)
                  have HNT := Lib.hid hnt
                  have e9 : (((G (k - 1) m).toNat : Int) == 117) = false := by rw [show (117 : Int) = ((117 : Nat) : Int) from rfl, u8_eq (by decide)]; exact beq_eq_false_iff_ne.2 hd
                  clear hnt hd
                  go_wp2
                  go_ret
                  exact ⟨hb, .inl ⟨HNT.out, rfl⟩⟩
              · have q1 : decide (0 < (k : Int)) = false := decide_eq_false (by omega)
                have q2 : decide (0 < k) = false := decide_eq_false (by omega)
                have hnt : ¬ Tiling s := not_tiling HE.out hkl hml (fun ho => q (ho.2.2.2 HC.out).1)
                have HNT := Lib.hid hnt
                clear hnt
                go_wp2
                go_ret
                exact ⟨hb, .inl ⟨HNT.out, rfl⟩⟩
            have e100 : (((G k m).toNat : Int) == 100) = false := by rw [show (100 : Int) = ((100 : Nat) : Int) from rfl, u8_eq (by decide)]; exact beq_eq_false_iff_ne.2 hc
            have H100 := Lib.hid hc
            clear hc
            have HOK : Hid (okAt h W G k m) := Lib.hid ⟨fun e => absurd e H108.out, fun e => absurd e H114.out, fun e => absurd e H117.out, fun e => absurd e H100.out⟩
            go_wp2
            go_round
            case rel => go_light; exact ⟨m + 1, by omega, by go_num, Lib.hid (fun b hb => by
              rcases Nat.lt_succ_iff_lt_or_eq.1 hb with hb | rfl
              · exact HM.out b hb
              · exact HOK.out)⟩
            case measure => go_light; simp [intOf]; omega
          · have HMM : ∀ b, b < W → okAt h W G k b := fun b hb => HM.out b (by omega)
            have HM2 := Lib.hid HMM
            clear HMM HM
            go_wp2
            go_round
            case rel => go_light; exact ⟨k + 1, by omega, by go_num, Lib.hid (fun a b ha hb => by
              rcases Nat.lt_succ_iff_lt_or_eq.1 ha with ha | rfl
              · exact HK.out a b ha hb
              · exact HM2.out b hb)⟩
            case measure => go_light; simp [intOf]; omega
      · have hT : Tiling s := ⟨HG.out, fun a b ha hb => by
          obtain ⟨e1, e2, e3⟩ := HE.out
          rw [e1] at ha
          rw [e2] at hb
          rw [e1, e2, e3]
          exact HK.out a b (by omega) hb⟩
        have HT := Lib.hid hT
        clear hT
        go_wp2
        go_ret
        obtain ⟨e1, e2, e3⟩ := HE.out
        exact ⟨hb, .inr ⟨HT.out, top, cap, rb, rc, by rw [e1]; rfl, by rw [e1, e2, e3]; exact hm⟩⟩
end Go.Proofs.YtahihapgbcoanaaDoor
