/- The walk of ferref.Cells. -/
import Derived.Test.YtahihapgbcoanaaDoorAztecW
import Derived.Lib.SplitLaws
import Derived.BigQuiet
import Derived.BigGuard
import Derived.Deep.QuietTactic
import Derived.Lib.CountLaws
namespace Go.Proofs.YtahihapgbcoanaaDoor
open Go.RowKit

theorem split_pieces : ∀ (n : Nat) (s : List UInt8), s.length ≤ n → Lib.splitK [47] 0 (Lib.count s [47]) s = pieces s ∧ Lib.count s [47] + 1 = (pieces s).length := by
  intro n
  induction n with
  | zero =>
    intro s hs
    have : s = [] := List.eq_nil_of_length_eq_zero (by omega)
    subst this
    rw [Lib.count_miss (by rw [Lib.index_one]; rfl)]
    simp [Lib.splitK, pieces]
  | succ n ih =>
    intro s hs
    rcases pieces_index s with ⟨h1, h2⟩ | ⟨i, h1, h2, h3⟩
    · have hi : Lib.index s [47] = -1 := by rw [Lib.index_one]; exact h1
      rw [Lib.count_miss hi, h2]
      simp [Lib.splitK]
    · have hi : Lib.index s [47] = i := by rw [Lib.index_one]; exact h1
      have hc := Lib.count_hit (sub := [47]) (by simp) hi
      obtain ⟨e1, e2⟩ := ih (s.drop (i + 1)) (by rw [List.length_drop]; omega)
      have hc' : Lib.count s [47] = Lib.count (s.drop (i + 1)) [47] + 1 := by rw [hc]; simp [Nat.add_comm]
      rw [hc', h3]
      refine ⟨?_, ?_⟩
      · unfold Lib.splitK
        rw [hi]
        have : ¬ ((i : Int) == -1) = true := by simp
        rw [if_neg this]
        simp [e1]
      · simp [← e2]

/-- strings.Split at a slash. -/
theorem split_any (s : List UInt8) (m : Int) (w : World) (hs : s.length < 4294967281) (hm : w.cell? ⟨0, 0, none⟩ = some (.int .i64 m)) :
    Calls Tryd.prog 37 #[.string ⟨s.toArray⟩, .string ⟨#[47]⟩] w fun e w' =>
      e = .returned (.slice (some ⟨w.heap.size, 0, none⟩) (pieces s).length (pieces s).length) ∧ w' = w.alloc (.cells ((pieces s).map fun p => Value.string ⟨p.toArray⟩).toArray 9) := by
  refine (Tryd.strings_Split ⟨s.toArray⟩ ⟨#[47]⟩ m w (by simpa [ByteArray.size] using hs) hm (by simp [ByteArray.size])).mono ?_
  rintro e w' ⟨rfl, rfl⟩
  obtain ⟨h1, h2⟩ := split_pieces s.length s (Nat.le_refl _)
  have e1 : Lib.countB ⟨s.toArray⟩ ⟨#[47]⟩ + 1 = (pieces s).length := by
    have : Lib.countB ⟨s.toArray⟩ ⟨#[47]⟩ = Lib.count s [47] := by simp [Lib.countB]
    rw [this, h2]
  have e2 : Lib.splitB ⟨#[47]⟩ 0 (Lib.countB ⟨s.toArray⟩ ⟨#[47]⟩) ⟨s.toArray⟩ = (pieces s).map (fun p => (⟨p.toArray⟩ : ByteArray)) := by
    have hd := Lib.splitB_data ⟨#[47]⟩ 0 (Lib.countB ⟨s.toArray⟩ ⟨#[47]⟩) ⟨s.toArray⟩
    have hd2 : (Lib.splitB ⟨#[47]⟩ 0 (Lib.countB ⟨s.toArray⟩ ⟨#[47]⟩) ⟨s.toArray⟩).map (·.data.toList) = pieces s := by
      rw [hd]
      simpa [Lib.countB] using h1
    rw [← hd2, List.map_map]
    exact ((List.map_congr_left (fun _ _ => rfl)).trans (List.map_id _)).symm
  rw [e1, e2, List.map_map]
  exact ⟨rfl, rfl⟩

/-- A list of texts in memory. -/
structure StrsAt (w : World) (b : Nat) (g : List (List UInt8)) : Prop where
  lt : b < w.heap.size
  cell : ∀ i p, g[i]? = some p → w.cell? ⟨b, i, none⟩ = some (.string ⟨p.toArray⟩)
theorem StrsAt.same {w w' : World} {b : Nat} {g : List (List UInt8)} (h : StrsAt w b g) (hsz : w.heap.size ≤ w'.heap.size) (hb : w'.heap[b]? = w.heap[b]?) : StrsAt w' b g :=
  ⟨Nat.lt_of_lt_of_le h.lt hsz, fun i p hi => (World.cell?_of_block (a := ⟨b, i, none⟩) hb).trans (h.cell i p hi)⟩
theorem StrsAt.below {w w' : World} {b : Nat} {g : List (List UInt8)} (h : StrsAt w b g) (hb : Below w.heap.size w w') : StrsAt w' b g := h.same hb.size (hb.block _ h.lt)
theorem StrsAt.drewN {w : World} {b : Nat} {g : List (List UInt8)} (h : StrsAt w b g) (n : Nat) : StrsAt (w.drewN n) b g := h.same (Nat.le_refl _) rfl

theorem contains_in (letters : List UInt8) (c : UInt8) (w : World) (h : c ∈ letters) : Calls Tryd.prog 42 #[.string ⟨letters.toArray⟩, .string ⟨#[c]⟩] w fun e w' => e = .returned (.bool true) ∧ w = w' := by
  refine (Tryd.strings_Contains_one ⟨letters.toArray⟩ c w).mono ?_
  rintro e w' ⟨rfl, rfl⟩
  obtain ⟨n, hn, _⟩ := indexByte_in h
  exact ⟨by simp [hn], rfl⟩
theorem contains_out (letters : List UInt8) (c : UInt8) (w : World) (h : c ∉ letters) : Calls Tryd.prog 42 #[.string ⟨letters.toArray⟩, .string ⟨#[c]⟩] w fun e w' => e = .returned (.bool false) ∧ w = w' := by
  refine (Tryd.strings_Contains_one ⟨letters.toArray⟩ c w).mono ?_
  rintro e w' ⟨rfl, rfl⟩
  exact ⟨by simp [indexByte_out h], rfl⟩

/-- What Cells hands back. -/
def CellsG (letters s : List UInt8) (w : World) (e : Ending) (w' : World) : Prop :=
  Below w.heap.size w w' ∧ ((¬ Good letters (pieces s) ∧ e = .returned (.slice none 0 0)) ∨
    (Good letters (pieces s) ∧ e = .returned (.slice (some ⟨w.heap.size, 0, none⟩) (pieces s).length (pieces s).length) ∧ StrsAt w' w.heap.size (pieces s)))

theorem good_of_cells {letters : List UInt8} {g : List (List UInt8)} (h8 : g.length ≤ 8) (h : ∀ (i : Nat) (p : List UInt8), g[i]? = some p → 1 ≤ p.length ∧ p.length ≤ 8 ∧ p.length = (g.headD []).length ∧ ∀ c ∈ p, c ∈ letters) : Good letters g := by
  refine ⟨h8, fun r hr => ?_, fun r hr c hc => ?_⟩
  · obtain ⟨i, hi, he⟩ := List.getElem_of_mem hr
    have := h i r (by rw [← he]; exact List.getElem?_eq_getElem hi)
    exact ⟨this.1, this.2.1, this.2.2.1⟩
  · obtain ⟨i, hi, he⟩ := List.getElem_of_mem hr
    exact (h i r (by rw [← he]; exact List.getElem?_eq_getElem hi)).2.2.2 c hc

set_option maxRecDepth 100000 in
set_option maxHeartbeats 8000000 in
theorem cells_any (s letters : List UInt8) (m : Int) (w : World) (hs : s.length < 4294967281) (hm : w.cell? ⟨0, 0, none⟩ = some (.int .i64 m)) :
    Calls Tryd.prog 22 #[.string ⟨s.toArray⟩, .string ⟨letters.toArray⟩] w (CellsG letters s w) := by
  go_enter Tryd.func22, Tryd.ntmps22
  go_wp2_with fail
  refine (split_any s m _ hs hm).mono ?_
  rintro e w1 ⟨rfl, hw1⟩
  have hb : Below w.heap.size w w1 := by rw [hw1]; exact (Below.refl _ w).alloc (Nat.le_refl _) _
  have hst : StrsAt w1 w.heap.size (pieces s) := by
    rw [hw1]
    refine ⟨by simp, fun i p hi => ?_⟩
    have hnew := World.alloc_heap_new w (.cells ((pieces s).map fun p => Value.string ⟨p.toArray⟩).toArray 9)
    simp only [World.cell?, hnew]
    simp [hi]
  clear hw1
  have hpc := pieces_count s
  obtain ⟨p0, ps, hp0⟩ := List.exists_cons_of_ne_nil (pieces_ne s)
  have hhd : (pieces s).headD [] = p0 := by rw [hp0]; rfl
  have hh0 : (pieces s)[0]? = some p0 := by rw [hp0]; rfl
  have hne : 0 < (pieces s).length := by rw [hp0]; simp
  generalize hg : pieces s = g at hst hhd hh0 hne hpc ⊢
  have HG := Lib.hid hg
  have HH := Lib.hid hhd
  clear hg hhd hp0
  have c0 := hst.cell 0 p0 hh0
  by_cases h8 : g.length ≤ 8
  · have e8 : decide (8 < (g.length : Int)) = false := decide_eq_false (by omega)
    go_wp2
    go_loopw [6] (fun i wr => (∃ nq, wr = w1.drewN nq) ∧ ∃ k : Nat, k ≤ g.length ∧ i = .int .i64 k ∧ Hid (∀ (i : Nat) (p : List UInt8), i < k → g[i]? = some p → 1 ≤ p.length ∧ p.length ≤ 8 ∧ p.length = p0.length ∧ ∀ c ∈ p, c ∈ letters)) (fun i _ => g.length - (intOf i).toNat)
    case atStart => exact ⟨⟨0, rfl⟩, 0, Nat.zero_le _, rfl, Lib.hid (fun i p hi => absurd hi (Nat.not_lt_zero _))⟩
    case round =>
      obtain ⟨⟨nq, rfl⟩, k, hk, rfl, HK⟩ := hrel
      by_cases hkl : k < g.length
      · obtain ⟨p, hp⟩ : ∃ p, g[k]? = some p := ⟨g[k], List.getElem?_eq_getElem hkl⟩
        have c1 := hst.cell k p hp
        have hpm : p ∈ g := List.mem_of_getElem? hp
        have HP := Lib.hid hp
        clear hp
        have i1 : (k : Int) < (g.length : Int) := by omega
        have i2 : (0 : Int) < (g.length : Int) := by omega
        by_cases q1 : p.length < 1
        · have e1 : decide ((p.length : Int) < 1) = true := decide_eq_true (by omega)
          have HB := Lib.hid (show ¬ Good letters g from fun hgd => by have := (hgd.2.1 p hpm).1; omega)
          go_wp2_with fail
          go_quiet (fail)
          go_wp2
          go_ret
          exact ⟨below_drewN (below_drewN hb _) _, .inl ⟨by rw [HG.out]; exact HB.out, rfl⟩⟩
        have e1 : decide ((p.length : Int) < 1) = false := decide_eq_false (by omega)
        by_cases q2 : 8 < p.length
        · have e2 : decide (8 < (p.length : Int)) = true := decide_eq_true (by omega)
          have HB := Lib.hid (show ¬ Good letters g from fun hgd => by have := (hgd.2.1 p hpm).2.1; omega)
          go_wp2_with fail
          go_quiet (fail)
          go_wp2
          go_ret
          exact ⟨below_drewN (below_drewN hb _) _, .inl ⟨by rw [HG.out]; exact HB.out, rfl⟩⟩
        have e2 : decide (8 < (p.length : Int)) = false := decide_eq_false (by omega)
        by_cases q3 : p.length = p0.length
        · have e3 : ((p.length : Int) != (p0.length : Int)) = false := by rw [q3]; simp
          have e3n : (p.length != p0.length) = false := by rw [q3]; simp
          have H3 := Lib.hid q3
          clear q3
          go_wp2_with fail
          go_quiet (fail)
          go_wp2
          go_loopw [7] (fun i wr => (∃ nq, wr = w1.drewN nq) ∧ ∃ j : Nat, j ≤ p.length ∧ i = .int .i64 j ∧ Hid (∀ (a : Nat) (c : UInt8), a < j → p[a]? = some c → c ∈ letters)) (fun i _ => p.length - (intOf i).toNat)
          case atStart => exact ⟨⟨_, World.drewN_drewN _ _ _⟩, 0, Nat.zero_le _, rfl, Lib.hid (fun i p hi => absurd hi (Nat.not_lt_zero _))⟩
          case round =>
            obtain ⟨⟨nr, rfl⟩, j, hj, rfl, HJ⟩ := hrel
            by_cases hjl : j < p.length
            · obtain ⟨c, hc⟩ : ∃ c, p[j]? = some c := ⟨p[j], List.getElem?_eq_getElem hjl⟩
              have hxt : (⟨p.toArray⟩ : ByteArray).extract j (j + 1) = ⟨#[c]⟩ := by
                rw [extract_list]
                have : (p.drop j).take (j + 1 - j) = [c] := by
                  rw [show j + 1 - j = 1 from by omega]
                  have h0 : (p.drop j)[0]? = some c := by simpa using hc
                  cases hd : p.drop j with
                  | nil => rw [hd] at h0; simp at h0
                  | cons a l => rw [hd] at h0; simp at h0; simp [h0]
                rw [this]
              have HC := Lib.hid hc
              clear hc
              by_cases hin : c ∈ letters
              · go_wp2_with (go_at_call 42; refine (contains_in letters c _ hin).mono ?_; rintro e w' ⟨rfl, rfl⟩)
                go_roundw
                case rel => go_light; exact ⟨⟨_, rfl⟩, j + 1, by omega, by go_num, Lib.hid (fun a c' ha hc' => by
                  rcases Nat.lt_succ_iff_lt_or_eq.1 ha with ha | rfl
                  · exact HJ.out a c' ha hc'
                  · have := HC.out.symm.trans hc'; cases this; exact hin)⟩
                case measure => go_light; simp [intOf]; omega
              · have HB := Lib.hid (show ¬ Good letters g from fun hgd => hin (hgd.2.2 p hpm c (List.mem_of_getElem? HC.out)))
                go_wp2_with (go_at_call 42; refine (contains_out letters c _ hin).mono ?_; rintro e w' ⟨rfl, rfl⟩)
                go_ret
                exact ⟨below_drewN hb _, .inl ⟨by rw [HG.out]; exact HB.out, rfl⟩⟩
            · go_wp2
              go_roundw
              case rel => go_light; exact ⟨⟨_, rfl⟩, k + 1, by omega, by go_num, Lib.hid (fun a p' ha hp' => by
                rcases Nat.lt_succ_iff_lt_or_eq.1 ha with ha | rfl
                · exact HK.out a p' ha hp'
                · have := HP.out.symm.trans hp'
                  cases this
                  refine ⟨by omega, by omega, H3.out, fun c hc => ?_⟩
                  obtain ⟨i, hi, he⟩ := List.getElem_of_mem hc
                  exact HJ.out i c (by omega) (by rw [← he]; exact List.getElem?_eq_getElem hi))⟩
              case measure => go_light; simp [intOf]; omega
        · have e3 : ((p.length : Int) != (p0.length : Int)) = true := by simp; omega
          have e3n : (p.length != p0.length) = true := by simp; omega
          have HB := Lib.hid (show ¬ Good letters g from fun hgd => by have := (hgd.2.1 p hpm).2.2; rw [HH.out] at this; omega)
          go_wp2_with fail
          go_quiet (fail)
          go_wp2
          go_ret
          exact ⟨below_drewN (below_drewN hb _) _, .inl ⟨by rw [HG.out]; exact HB.out, rfl⟩⟩
      · have HGD := Lib.hid (show Good letters g from good_of_cells h8 (fun i p hp => by
          have hi : i < k := by
            rcases Nat.lt_or_ge i g.length with h | h
            · omega
            · rw [List.getElem?_eq_none h] at hp; cases hp
          rw [HH.out]
          exact HK.out i p hi hp))
        go_wp2
        go_ret
        exact ⟨below_drewN hb _, .inr ⟨by rw [HG.out]; exact HGD.out, by rw [HG.out]; rfl, by rw [HG.out]; exact hst.drewN _⟩⟩
  · have e8 : decide (8 < (g.length : Int)) = true := decide_eq_true (by omega)
    have HB := Lib.hid (show ¬ Good letters g from fun hgd => h8 hgd.1)
    go_wp2
    go_ret
    exact ⟨hb, .inl ⟨by rw [HG.out]; exact HB.out, rfl⟩⟩
end Go.Proofs.YtahihapgbcoanaaDoor
