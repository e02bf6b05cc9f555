/- The walk of ferref.Went. -/
import Derived.Test.YtahihapgbcoanaaDoorBars
import Derived.Test.YtahihapgbcoanaaDoorTurnsLaw
import Derived.BigQuiet
import Derived.BigRegion
import Derived.Deep.CutRange
namespace Go.Proofs.YtahihapgbcoanaaDoor
open Go.RowKit

theorem info81 : (Tryd.prog.info? 81).map (fun i => (i.zero, i.size, i.bytes)) = some (some (.agg #[.int .i64 0, .int .i64 0, .bool false, .int .i64 0, .int .i64 0]), 5, 40) := by kernel_rfl
def barCells (b : Bar) : List Value := [.int .i64 b.i, .int .i64 b.j, .bool b.up, .int .i64 b.di, .int .i64 b.dj]
def barsCells (l : List Bar) : List Value := l.flatMap barCells
theorem barsCells_append (a b : List Bar) : barsCells (a ++ b) = barsCells a ++ barsCells b := by simp [barsCells]
theorem cell_five (w : World) (v0 v1 v2 v3 v4 : Value) (t : TypeId) : ∀ j u, [v0, v1, v2, v3, v4][j]? = some u → (w.alloc (.cells #[v0, v1, v2, v3, v4] t)).cell? ((⟨w.heap.size, 0, none⟩ : Addr).add j) = some u := by
  intro j u hj
  have hn : (w.alloc (.cells #[v0, v1, v2, v3, v4] t)).heap[w.heap.size]? = some (.cells #[v0, v1, v2, v3, v4] t (0, 0)) := World.alloc_heap_new w _
  rw [addr_add0]
  simp only [World.cell?, hn]
  match j, hj with
  | 0, hj => simpa using hj
  | 1, hj => simpa using hj
  | 2, hj => simpa using hj
  | 3, hj => simpa using hj
  | 4, hj => simpa using hj
/-- The bars of a list, read. -/
structure BarsAt (w : World) (A : Option Addr) (l : List Bar) : Prop where
  at_ : ∀ (x : Nat) (b : Bar), l[x]? = some b → ∃ g, A = some ⟨g, 0, none⟩ ∧ g < w.heap.size ∧ w.cell? ⟨g, x * 5, none⟩ = some (.int .i64 b.i) ∧ w.cell? ⟨g, x * 5 + 1, none⟩ = some (.int .i64 b.j) ∧
    w.cell? ⟨g, x * 5 + 2, none⟩ = some (.bool b.up) ∧ w.cell? ⟨g, x * 5 + 3, none⟩ = some (.int .i64 b.di) ∧ w.cell? ⟨g, x * 5 + 4, none⟩ = some (.int .i64 b.dj)
theorem barsCells_get (l : List Bar) (x : Nat) (b : Bar) (h : l[x]? = some b) : ∀ t u, (barCells b)[t]? = some u → (barsCells l)[x * 5 + t]? = some u := by
  induction l generalizing x with
  | nil => simp at h
  | cons q l ih =>
    intro t u hu
    have e : barsCells (q :: l) = barCells q ++ barsCells l := rfl
    rw [e]
    have hq : (barCells q).length = 5 := rfl
    have ht : t < 5 := by have := (List.getElem?_eq_some_iff.1 hu).1; simpa [barCells] using this
    cases x with
    | zero =>
      simp at h
      subst h
      rw [List.getElem?_append_left (by omega)]
      simpa using hu
    | succ x =>
      simp at h
      rw [List.getElem?_append_right (by omega), hq, show (x + 1) * 5 + t - 5 = x * 5 + t from by omega]
      exact ih x h t u hu
theorem barsAt_own {w : World} {B : Nat} {v : Value} {l : List Bar} (h : w.ownsRow B 81 5 v l.length (barsCells l)) : ∃ A cap, v = .slice A l.length cap ∧ BarsAt w A l := by
  rcases h.2 with ⟨hv, h0⟩ | ⟨g, cap, cur, hv, hb, hh, h1, h2, h3, h4⟩
  · have hl : l = [] := List.length_eq_zero_iff.1 h0
    subst hl
    exact ⟨none, 0, hv, ⟨by simp⟩⟩
  · refine ⟨some ⟨g, 0, none⟩, cap, hv, ⟨fun x b hb => ⟨g, rfl, (h.lt g (by rw [hv]; rfl)).2, ?_⟩⟩⟩
    have hx : x < l.length := (List.getElem?_eq_some_iff.1 hb).1
    have key : ∀ (t : Nat) (u : Value), t < 5 → (barCells b)[t]? = some u → w.cell? ⟨g, x * 5 + t, none⟩ = some u := fun t u ht hu => by
      have h5 := barsCells_get l x b hb t u hu
      rw [← h4, List.getElem?_take_of_lt (by omega)] at h5
      simp only [World.cell?, hh]
      simpa using h5
    exact ⟨key 0 _ (by omega) rfl, key 1 _ (by omega) rfl, key 2 _ (by omega) rfl, key 3 _ (by omega) rfl, key 4 _ (by omega) rfl⟩
theorem BarsAt.below {w w' : World} {A : Option Addr} {l : List Bar} (h : BarsAt w A l) (hb : Below w.heap.size w w') : BarsAt w' A l :=
  ⟨fun x b hx => by
    obtain ⟨g, hA, hg, h0, h1, h2, h3, h4⟩ := h.at_ x b hx
    exact ⟨g, hA, Nat.lt_of_lt_of_le hg hb.size, (hb.cell (p := ⟨g, _, none⟩) hg).trans h0, (hb.cell (p := ⟨g, _, none⟩) hg).trans h1, (hb.cell (p := ⟨g, _, none⟩) hg).trans h2, (hb.cell (p := ⟨g, _, none⟩) hg).trans h3, (hb.cell (p := ⟨g, _, none⟩) hg).trans h4⟩⟩

theorem BarsAt.within {w w' : World} {A : Option Addr} {l : List Bar} {S B : Nat} (h : BarsAt w A l) (hg : ∀ (x : Nat) (b : Bar), l[x]? = some b → ∃ g, A = some ⟨g, 0, none⟩ ∧ g < S) (hb : Below B w w') (hS : S ≤ B) : BarsAt w' A l :=
  ⟨fun x b hx => by
    obtain ⟨g, hA, hlt, h0, h1, h2, h3, h4⟩ := h.at_ x b hx
    obtain ⟨g', hA', hg'⟩ := hg x b hx
    have e : g' = g := by rw [hA] at hA'; simpa using hA'.symm
    have hgB : g < B := by omega
    exact ⟨g, hA, Nat.lt_of_lt_of_le hlt hb.size, (hb.cell (p := ⟨g, _, none⟩) hgB).trans h0, (hb.cell (p := ⟨g, _, none⟩) hgB).trans h1, (hb.cell (p := ⟨g, _, none⟩) hgB).trans h2, (hb.cell (p := ⟨g, _, none⟩) hgB).trans h3, (hb.cell (p := ⟨g, _, none⟩) hgB).trans h4⟩⟩
theorem two_five (w : World) (a0 a1 a2 a3 a4 b0 b1 b2 b3 b4 : Value) (t : TypeId) :
    (∀ j u, [a0, a1, a2, a3, a4][j]? = some u → ((w.alloc (.cells #[a0, a1, a2, a3, a4] t)).alloc (.cells #[b0, b1, b2, b3, b4] t)).drew.cell? ⟨w.heap.size, j, none⟩ = some u) ∧
    (∀ j u, [b0, b1, b2, b3, b4][j]? = some u → ((w.alloc (.cells #[a0, a1, a2, a3, a4] t)).alloc (.cells #[b0, b1, b2, b3, b4] t)).drew.cell? ⟨w.heap.size + 1, j, none⟩ = some u) ∧
    Below w.heap.size w ((w.alloc (.cells #[a0, a1, a2, a3, a4] t)).alloc (.cells #[b0, b1, b2, b3, b4] t)).drew := by
  refine ⟨fun j u hj => ?_, fun j u hj => ?_, (((Below.refl _ w).alloc (Nat.le_refl _) _).alloc (by simp) _).drew⟩
  · have h1 := cell_five w a0 a1 a2 a3 a4 t j u hj
    rw [addr_add0] at h1
    exact cell_b h1 (((Below.refl _ _).alloc (Nat.le_refl _) _).drew)
  · have h1 := cell_five (w.alloc (.cells #[a0, a1, a2, a3, a4] t)) b0 b1 b2 b3 b4 t j u hj
    rw [addr_add0] at h1
    have e : (w.alloc (.cells #[a0, a1, a2, a3, a4] t)).heap.size = w.heap.size + 1 := by simp
    rw [e] at h1
    exact h1
/-- The five places of a bar in memory. -/
structure FiveAt (w : World) (b : Nat) (p : Bar) : Prop where
  c0 : w.cell? ⟨b, 0, none⟩ = some (.int .i64 p.i)
  c1 : w.cell? ⟨b, 1, none⟩ = some (.int .i64 p.j)
  c2 : w.cell? ⟨b, 2, none⟩ = some (.bool p.up)
  c3 : w.cell? ⟨b, 3, none⟩ = some (.int .i64 p.di)
  c4 : w.cell? ⟨b, 4, none⟩ = some (.int .i64 p.dj)
theorem text_set1 (h W : Nat) (G : Nat → Nat → UInt8) (y x : Nat) (c : UInt8) (hy : y < h) (hx : x < W) : (textOf h W G).set (y * (W + 1) + x) c = textOf h W (fun a b => if a = y ∧ b = x then c else G a b) := by
  have h0 : 0 < h := by omega
  have l1 := text_len h W G h0
  have l2 := text_len h W (fun a b => if a = y ∧ b = x then c else G a b) h0
  apply List.ext_getElem
  · rw [List.length_set]; omega
  · intro i hi hi2
    rw [List.length_set] at hi
    rw [text_get h W _ h0 i hi2, List.getElem_set, text_get h W G h0 i hi]
    have k1 := dm_eq (n := W + 1) (y := y) (x := x) (i := i) (by omega)
    unfold flatG
    generalize i / (W + 1) = u at *
    generalize i % (W + 1) = v at *
    by_cases hv : v = W
    · have n1 : ¬ (y * (W + 1) + x = i) := fun e => by have := k1.1 e.symm; omega
      rw [if_neg n1, if_pos hv, if_pos hv]
    · rw [if_neg hv, if_neg hv]
      simp only [eq_comm (b := i), k1]
theorem text_set2 (h W : Nat) (G : Nat → Nat → UInt8) (a b c d : Nat) (u v : UInt8) (ha : a < h) (hb : b < W) (hc : c < h) (hd : d < W) : ((textOf h W G).set (a * (W + 1) + b) u).set (c * (W + 1) + d) v = textOf h W (set2 G a b u c d v) := by
  rw [text_set1 h W G a b u ha hb, text_set1 h W _ c d v hc hd]
  rfl
theorem take_succ_at (l : List Bar) (x : Nat) (p : Bar) (h : l[x]? = some p) : l.take (x + 1) = l.take x ++ [p] := by
  rw [List.take_add_one, h]
  rfl
theorem went_next {l : List Bar} {o z o2 : Nat → Nat → UInt8} {x : Nat} {p : Bar} (h1 : l.take (x + 1) = l.take x ++ [p]) (h2 : o = wentG l z (l.take x)) (h3 : wentStep l o p = o2) : o2 = wentG l z (l.take (x + 1)) := by
  rw [h1]
  unfold wentG at h2 ⊢
  rw [List.foldl_append, ← h2]
  exact h3.symm
theorem Bar.di_bd (b : Bar) : (-1 ≤ b.di ∧ b.di ≤ 1) ∧ (-1 ≤ b.dj ∧ b.dj ≤ 1) := by
  unfold Bar.di Bar.dj
  cases b.up <;> cases b.odd <;> decide
theorem bar_bd {n h : Nat} {G : Nat → Nat → UInt8} {k x : Nat} {b : Bar} (hb : (barsTo n h G k)[x]? = some b) : b.i < k ∧ b.j < h := by
  obtain ⟨i, j, hi, hj, hm⟩ := mem_barsTo.1 (List.mem_of_getElem? hb)
  rcases mem_barAt.1 hm with ⟨_, rfl⟩ | ⟨_, rfl⟩ <;> exact ⟨hi, hj⟩
theorem meet_succ (l : List Bar) (p q : Bar) (y : Nat) (hq : l[y]? = some q) : meetTo l p (y + 1) = (meetTo l p y || meetB p q) := by
  unfold meetTo
  rw [List.take_add_one, hq, List.any_append]
  simp
theorem diamond_next (n : Nat) (hn : n ≤ 3) (w : World) : Calls Tryd.prog 9 #[.int .i64 ((n : Int) + 1)] w fun e w' => e = .returned (.string ⟨(azT (n + 1)).toArray⟩) ∧ w' = w := by
  rw [← dmTo_az (n + 1) (by omega) (by omega)]
  exact diamond_ref (n + 1) (by omega) w

set_option maxRecDepth 100000 in
set_option maxHeartbeats 16000000 in
theorem went_any (s : List UInt8) (n : Nat) (m0 : Int) (w : World) (hs : s.length < 4294967281) (hm : w.cell? ⟨0, 0, none⟩ = some (.int .i64 m0)) (hg : Good lrud (pieces s)) (h1 : 1 ≤ n) (h3 : n ≤ 3) (hh : hOf s = 2 * n) (hw : wOf s = 2 * n) :
    Calls Tryd.prog 28 #[.string ⟨s.toArray⟩, .int .i64 n] w fun e w' => e = .returned (.string ⟨(textOf (2 * (n + 1)) (2 * (n + 1)) (wentG (barsTo n (2 * n) (gOf s) (2 * n)) (azG (n + 1)) (barsTo n (2 * n) (gOf s) (2 * n)))).toArray⟩) ∧ Below w.heap.size w w' := by
  obtain ⟨i0, hi, hz0, hz1, hz2⟩ := info_parts info81
  go_enter Tryd.func28, Tryd.ntmps28
  go_wp2_with fail
  refine (split_any s m0 _ hs hm).mono ?_
  rintro e w1 ⟨rfl, hw1⟩
  have hb : Below w.heap.size w w1 := by rw [hw1]; exact (Below.refl _ w).alloc (Nat.le_refl _) _
  have hst : StrsAt w1 w.heap.size (pieces s) := by
    rw [hw1]
    refine ⟨by simp, fun i p hi => ?_⟩
    have hnew := World.alloc_heap_new w (.cells ((pieces s).map fun p => Value.string ⟨p.toArray⟩).toArray 9)
    simp only [World.cell?, hnew]
    simp [hi]
  have hR : RowsOk (pieces s) (wOf s) := ⟨fun i p hp => (hg.2.1 p (List.mem_of_getElem? hp)).2.2⟩
  have hE1 : hOf s = (pieces s).length := rfl
  have hE2 : gOf s = cellOf (pieces s) := rfl
  rw [hw] at hR
  rw [hE1] at hh
  obtain ⟨h, hh2⟩ : ∃ h, 2 * n = h := ⟨_, rfl⟩
  rw [hh2] at hR hh
  have HE2 := Lib.hid hE2
  clear hw1 hg hw hE1 hE2
  generalize hgg : pieces s = g at *
  have HG := Lib.hid hgg
  clear hgg
  have hl8 : h ≤ 6 := by omega
  have hl1 : 1 ≤ h := by omega
  have HH := Lib.hid hh2
  have HGL := Lib.hid hh
  rw [hh]
  clear hh2 hh
  obtain ⟨G, hG⟩ : ∃ G, cellOf g = G := ⟨_, rfl⟩
  have HGG := Lib.hid hG
  clear hG
  go_wp2
  go_loopw [6, 7] (fun v i wr => ∃ k : Nat, k ≤ h ∧ i = .int .i64 k ∧ wr.ownsRow w1.heap.size 81 5 v (barsTo n h G k).length (barsCells (barsTo n h G k)) ∧ Below w1.heap.size w1 wr) (fun _ i _ => h - (intOf i).toNat)
  case atStart => exact ⟨0, Nat.zero_le _, rfl, World.ownsRow_nil _ _ _ _, Below.refl _ _⟩
  case round =>
    obtain ⟨k, hk, rfl, hown, hbr⟩ := hrel
    obtain ⟨wo, rfl⟩ : ∃ wo : World, wo = wr := ⟨_, rfl⟩
    have hpl := barsTo_len n h G k
    have hp2 : k * h ≤ 6 * 6 := Nat.mul_le_mul (by omega) hl8
    by_cases hkl : k < h
    · obtain ⟨p, hp, _⟩ := hR.get (i := k) (j := 0) (by rw [HGL.out]; exact hkl) hl1
      have hki : (k : Int) < (h : Int) := by omega
      have hpW := hR.len k p hp
      have HP := Lib.hid hp
      have HPW := Lib.hid hpW
      have c1 := (hst.below hbr).cell k p hp
      clear hp hpW
      go_wp2
      go_loopw [6, 8] (fun v i wi => ∃ m : Nat, m ≤ h ∧ i = .int .i64 m ∧ wi.ownsRow w1.heap.size 81 5 v (barsTo n h G k ++ barRow n G k m).length (barsCells (barsTo n h G k ++ barRow n G k m)) ∧ Below w1.heap.size w1 wi) (fun _ i _ => h - (intOf i).toNat)
      case atStart => exact ⟨0, Nat.zero_le _, rfl, by simpa [barRow] using hown, hbr⟩
      case round =>
        obtain ⟨m, hmm, rfl, hown2, hbi⟩ := hrel
        clear hown c1
        have c1 := (hst.below hbi).cell k p HP.out
        by_cases hml : m < h
        · obtain ⟨p', hp', hpm⟩ := hR.get (i := k) (j := m) (by rw [HGL.out]; exact hkl) hml
          obtain rfl : p = p' := Option.some.inj (HP.out.symm.trans hp')
          rw [HGG.out] at hpm
          have hmp : m < p.length := by rw [HPW.out]; exact hml
          have hmi : (m : Int) < (p.length : Int) := by omega
          have hrl := barRow_len n G k m
          have hll : (barsTo n h G k ++ barRow n G k m).length ≤ 100 := by rw [List.length_append]; omega
          have hcc : (⟨p.toArray⟩ : ByteArray)[m]'(by simpa [ByteArray.size] using hmp) = G k m := by
            have h1 := hpm
            rw [List.getElem?_eq_getElem hmp] at h1
            exact Option.some.inj h1
          have hod : (((k : Int) + m + n - 1) % 2 == 1) = !firstB n k m := by
            unfold firstB
            rw [Bool.eq_iff_iff]
            simp only [beq_iff_eq, Bool.not_eq_true', beq_eq_false_iff_ne, ne_eq]
            omega
          have hsucc := barRow_succ n G k m
          clear hp' hpm hrl hpl hp2
          generalize hl : barsTo n h G k ++ barRow n G k m = l at hown2 hll
          have HL := Lib.hid hl
          have HS := Lib.hid hsucc
          clear hl hsucc
          by_cases hc : G k m = 108
          · have hcx := hcc.trans hc
            cases hf : firstB n k m
            · rw [hf] at hod
              have hod : (((k : Int) + m + n - 1) % 2 == 1) = true := hod
              have HB : Hid (barRow n G k (m + 1) = barRow n G k m ++ [⟨k, m, false, true⟩]) := Lib.hid (by rw [HS.out]; unfold barAt; rw [if_pos hc, hf]; rfl)
              clear hcc hf hc
              go_wp2_with (at_builtin; refine wpList_append_own _ rfl _ _ 79 rfl w1.heap.size 81 i0 (.agg #[.int .i64 0, .int .i64 0, .bool false, .int .i64 0, .int .i64 0]) 5 40 Tryd.underlying79 hi hz0 hz1 hz2 rfl (by decide) _ _ _ rfl (hown2.alloc _) ⟨wr.heap.size, 0, none⟩ 1 1 [.int .i64 k, .int .i64 m, .bool false, .int .i64 (1), .int .i64 (0)] rfl rfl (cell_five _ _ _ _ _ _ _) (by simp [Value.oneCell']) (by unfold maxLen; omega) (by omega) (by have := hbi.size; simp; omega) ?_; intro v' w3 hown' hgrow hdrop; clear hdrop)
              have hb3 : Below w1.heap.size w1 w3 := (hbi.alloc (by simpa using hbi.size) _).grown hgrow (by have := hbi.size; simp; omega) (fun g e => (hown2.lt g e).1)
              go_roundw
              case rel => go_light; exact ⟨m + 1, by omega, by go_num, by rw [HB.out, ← List.append_assoc, HL.out, barsCells_append, List.length_append]; exact hown', hb3⟩
              case measure => go_light; simp [intOf]; omega
            · rw [hf] at hod
              have hod : (((k : Int) + m + n - 1) % 2 == 1) = false := hod
              have HB : Hid (barRow n G k (m + 1) = barRow n G k m ++ [⟨k, m, false, false⟩]) := Lib.hid (by rw [HS.out]; unfold barAt; rw [if_pos hc, hf]; rfl)
              clear hcc hf hc
              go_wp2_with (at_builtin; refine wpList_append_own _ rfl _ _ 79 rfl w1.heap.size 81 i0 (.agg #[.int .i64 0, .int .i64 0, .bool false, .int .i64 0, .int .i64 0]) 5 40 Tryd.underlying79 hi hz0 hz1 hz2 rfl (by decide) _ _ _ rfl (hown2.alloc _) ⟨wr.heap.size, 0, none⟩ 1 1 [.int .i64 k, .int .i64 m, .bool false, .int .i64 (-1), .int .i64 (0)] rfl rfl (cell_five _ _ _ _ _ _ _) (by simp [Value.oneCell']) (by unfold maxLen; omega) (by omega) (by have := hbi.size; simp; omega) ?_; intro v' w3 hown' hgrow hdrop; clear hdrop)
              have hb3 : Below w1.heap.size w1 w3 := (hbi.alloc (by simpa using hbi.size) _).grown hgrow (by have := hbi.size; simp; omega) (fun g e => (hown2.lt g e).1)
              go_roundw
              case rel => go_light; exact ⟨m + 1, by omega, by go_num, by rw [HB.out, ← List.append_assoc, HL.out, barsCells_append, List.length_append]; exact hown', hb3⟩
              case measure => go_light; simp [intOf]; omega
          · have hc1 := hc
            clear hc
            by_cases hc : G k m = 117
            · have hcx := hcc.trans hc
              have HC1 := Lib.hid hc1
              clear hc1
              cases hf : firstB n k m
              · rw [hf] at hod
                have hod : (((k : Int) + m + n - 1) % 2 == 1) = true := hod
                have HB : Hid (barRow n G k (m + 1) = barRow n G k m ++ [⟨k, m, true, true⟩]) := Lib.hid (by rw [HS.out]; unfold barAt; rw [if_neg HC1.out, if_pos hc, hf]; rfl)
                clear hcc hf hc
                go_wp2_with (at_builtin; refine wpList_append_own _ rfl _ _ 79 rfl w1.heap.size 81 i0 (.agg #[.int .i64 0, .int .i64 0, .bool false, .int .i64 0, .int .i64 0]) 5 40 Tryd.underlying79 hi hz0 hz1 hz2 rfl (by decide) _ _ _ rfl (hown2.alloc _) ⟨wr.heap.size, 0, none⟩ 1 1 [.int .i64 k, .int .i64 m, .bool true, .int .i64 (0), .int .i64 (1)] rfl rfl (cell_five _ _ _ _ _ _ _) (by simp [Value.oneCell']) (by unfold maxLen; omega) (by omega) (by have := hbi.size; simp; omega) ?_; intro v' w3 hown' hgrow hdrop; clear hdrop)
                have hb3 : Below w1.heap.size w1 w3 := (hbi.alloc (by simpa using hbi.size) _).grown hgrow (by have := hbi.size; simp; omega) (fun g e => (hown2.lt g e).1)
                go_roundw
                case rel => go_light; exact ⟨m + 1, by omega, by go_num, by rw [HB.out, ← List.append_assoc, HL.out, barsCells_append, List.length_append]; exact hown', hb3⟩
                case measure => go_light; simp [intOf]; omega
              · rw [hf] at hod
                have hod : (((k : Int) + m + n - 1) % 2 == 1) = false := hod
                have HB : Hid (barRow n G k (m + 1) = barRow n G k m ++ [⟨k, m, true, false⟩]) := Lib.hid (by rw [HS.out]; unfold barAt; rw [if_neg HC1.out, if_pos hc, hf]; rfl)
                clear hcc hf hc
                go_wp2_with (at_builtin; refine wpList_append_own _ rfl _ _ 79 rfl w1.heap.size 81 i0 (.agg #[.int .i64 0, .int .i64 0, .bool false, .int .i64 0, .int .i64 0]) 5 40 Tryd.underlying79 hi hz0 hz1 hz2 rfl (by decide) _ _ _ rfl (hown2.alloc _) ⟨wr.heap.size, 0, none⟩ 1 1 [.int .i64 k, .int .i64 m, .bool true, .int .i64 (0), .int .i64 (-1)] rfl rfl (cell_five _ _ _ _ _ _ _) (by simp [Value.oneCell']) (by unfold maxLen; omega) (by omega) (by have := hbi.size; simp; omega) ?_; intro v' w3 hown' hgrow hdrop; clear hdrop)
                have hb3 : Below w1.heap.size w1 w3 := (hbi.alloc (by simpa using hbi.size) _).grown hgrow (by have := hbi.size; simp; omega) (fun g e => (hown2.lt g e).1)
                go_roundw
                case rel => go_light; exact ⟨m + 1, by omega, by go_num, by rw [HB.out, ← List.append_assoc, HL.out, barsCells_append, List.length_append]; exact hown', hb3⟩
                case measure => go_light; simp [intOf]; omega
            · have f108 : (((G k m).toNat : Int) == 108) = false := u8_ne (n := 108) hc1
              have f117 : (((G k m).toNat : Int) == 117) = false := u8_ne (n := 117) hc
              have HB : Hid (barRow n G k (m + 1) = barRow n G k m) := Lib.hid (by rw [HS.out]; unfold barAt; rw [if_neg hc1, if_neg hc]; simp)
              clear hc hc1
              go_wp2
              go_roundw
              case rel => go_light; exact ⟨m + 1, by omega, by go_num, by rw [HB.out, HL.out]; exact hown2, hbi⟩
              case measure => go_light; simp [intOf]; omega
        · have hml2 : ¬ (m : Int) < (p.length : Int) := by have := HPW.out; omega
          have hml3 : ¬ m < p.length := by have := HPW.out; omega
          have HMH := Lib.hid (show m = h by omega)
          go_wp2
          go_roundw
          case rel => go_light; exact ⟨k + 1, by omega, by go_num, by rw [barsTo_succ]; rw [HMH.out] at hown2; exact hown2, hbi⟩
          case measure => go_light; simp [intOf]; omega
    · obtain rfl : k = h := by omega
      obtain ⟨A, cp, rfl, hbars⟩ := barsAt_own hown
      obtain ⟨l, hl⟩ : ∃ l, barsTo n k G k = l := ⟨_, rfl⟩
      rw [hl] at hbars hpl ⊢
      have HL := Lib.hid hl
      obtain ⟨ln, hln⟩ : ∃ ln, l.length = ln := ⟨_, rfl⟩
      rw [hln] at hpl ⊢
      have HLN := Lib.hid hln
      have hl36 : ln ≤ 36 := by omega
      clear hl hln hown hpl hp2
      go_wp2_with fail
      refine (diamond_next n h3 _).mono ?_
      rintro e w4 ⟨rfl, rfl⟩
      have hconv : ∀ u : World, (convert 9 63 (.string ⟨(azT (n + 1)).toArray⟩)).run Tryd.prog u = .ok (.slice (some ⟨u.heap.size, 0, none⟩) (azT (n + 1)).length (grownCap u (azT (n + 1)).length 0 5)) (Lib.bytesWorld u 5 ⟨(azT (n + 1)).toArray⟩) := fun u => by
        have h := Lib.run_convert_string_bytes (P := Tryd.prog) u 9 63 5 ⟨(azT (n + 1)).toArray⟩ Tryd.underlying9 Tryd.underlying63 Tryd.underlying5
        simpa [ByteArray.size] using h
      obtain ⟨H, hH⟩ : ∃ H, 2 * (n + 1) = H := ⟨_, rfl⟩
      have hHk : k + 2 ≤ H := by have := HH.out; omega
      have hH8 : H ≤ 8 := by omega
      have hwi : 2 * (n : Int) + 3 = (H : Int) + 1 := by omega
      have hlen1 : (azT (n + 1)).length + 1 = H * (H + 1) := by rw [← hH]; exact text_len _ _ _ (by omega)
      have haz : azT (n + 1) = textOf H H (azG (n + 1)) := by unfold azT; rw [hH]
      have HHH := Lib.hid hH
      clear hH
      obtain ⟨L0, hL0⟩ : ∃ L0, azT (n + 1) = L0 := ⟨_, rfl⟩
      rw [hL0] at hconv hlen1 haz ⊢
      clear hL0
      have hr0 := RowAt.bytes w4 L0
      have hb5 : Below w4.heap.size w4 (Lib.bytesWorld w4 5 ⟨L0.toArray⟩) := below_bytes (Below.refl _ _) (Nat.le_refl _) _
      have hbars5 := hbars.below hb5
      have hB5 : w4.heap.size ≤ (Lib.bytesWorld w4 5 ⟨L0.toArray⟩).heap.size := hb5.size
      have hbA : ∀ (x : Nat) (b : Bar), l[x]? = some b → ∃ g, A = some ⟨g, 0, none⟩ ∧ g < w4.heap.size := fun x b hx => by
        obtain ⟨g, hA, hg, _⟩ := hbars.at_ x b hx
        exact ⟨g, hA, hg⟩
      have hb05 : Below w.heap.size w (Lib.bytesWorld w4 5 ⟨L0.toArray⟩) := (hb.trans (hbr.mono hb.size)).trans (hb5.mono (Nat.le_trans hb.size hbr.size))
      have hBw : w.heap.size ≤ w4.heap.size := Nat.le_trans hb.size hbr.size
      have HAZ := Lib.hid haz
      clear haz
      go_wp2_with fail
      clear hconv hst hi hz0 hz1 hz2 hbars hb5
      have hLl : L0.length ≤ 72 := by
        have : H * (H + 1) ≤ 8 * 9 := Nat.mul_le_mul hH8 (by omega)
        omega
      generalize Lib.bytesWorld w4 5 ⟨L0.toArray⟩ = w5 at *
      rw [HAZ.out] at hr0
      generalize hB : w4.heap.size = B at *
      have HB := Lib.hid hB
      clear hB
      go_loopw [13] (fun i wr => ∃ (x : Nat) (o : Nat → Nat → UInt8), x ≤ ln ∧ i = .int .i64 x ∧ RowAt wr B (textOf H H o) ∧ Below B w5 wr ∧ Hid (o = wentG l (azG (n + 1)) (l.take x))) (fun i _ => ln - (intOf i).toNat)
      case atStart => exact ⟨0, azG (n + 1), Nat.zero_le _, rfl, hr0, Below.refl _ _, Lib.hid rfl⟩
      case round =>
        obtain ⟨x, o, hx, rfl, hro, hb3, HO⟩ := hrel
        clear hr0
        obtain ⟨w6, rfl⟩ : ∃ w6 : World, w6 = wr := ⟨_, rfl⟩
        by_cases hxl : x < ln
        · have hxi : (x : Int) < (ln : Int) := by omega
          obtain ⟨p, hp⟩ : ∃ p, l[x]? = some p := ⟨_, List.getElem?_eq_getElem (by rw [HLN.out]; exact hxl)⟩
          obtain ⟨g, rfl, hgB⟩ := hbA x p hp
          have HP := Lib.hid hp
          clear hp
          go_wp2
          go_loopw [14, 15] (fun b i wi => ∃ y : Nat, y ≤ ln ∧ i = .int .i64 y ∧ b = .bool (meetTo l p y) ∧ Below w6.heap.size w6 wi) (fun _ i _ => ln - (intOf i).toNat)
          case atStart => exact ⟨0, Nat.zero_le _, rfl, by simp [meetTo], Below.refl _ _⟩
          case round =>
            obtain ⟨y, hy, rfl, rfl, hb7⟩ := hrel
            by_cases hyl : y < ln
            · have hyi : (y : Int) < (ln : Int) := by omega
              obtain ⟨q, hq⟩ : ∃ q, l[y]? = some q := ⟨_, List.getElem?_eq_getElem (by rw [HLN.out]; exact hyl)⟩
              have hba := (hbars5.within hbA hb3 (Nat.le_refl _)).below hb7
              obtain ⟨g1, e1, _, p0, p1, p2, p3, p4⟩ := hba.at_ x p HP.out
              obtain ⟨g2, e2, _, q0, q1, q2, q3, q4⟩ := hba.at_ y q hq
              obtain rfl : g = g1 := by simpa using e1
              obtain rfl : g = g2 := by simpa using e2
              have hgl : g < wr.heap.size := Nat.lt_of_lt_of_le hgB (by have := hB5; have := hb3.size; have := hb7.size; omega)
              have hne1 : g ≠ wr.heap.size := by omega
              have hne2 : g ≠ wr.heap.size + 1 := by omega
              have hne3 : wr.heap.size ≠ wr.heap.size + 1 := by omega
              have hne4 : wr.heap.size + 1 ≠ wr.heap.size := by omega
              have hpb := bar_bd (n := n) (h := k) (G := G) (k := k) (x := x) (b := p) (by rw [HL.out]; exact HP.out)
              have hqb := bar_bd (n := n) (h := k) (G := G) (k := k) (x := y) (b := q) (by rw [HL.out]; exact hq)
              have hpi8 : (p.i : Int) ≤ 8 := by omega
              have hpj8 : (p.j : Int) ≤ 8 := by omega
              obtain ⟨⟨pd1, pd2⟩, pd3, pd4⟩ := p.di_bd
              obtain ⟨⟨qd1, qd2⟩, qd3, qd4⟩ := q.di_bd
              clear hpb hqb
              go_upto_region 28 with fail
              have HMS := Lib.hid (meet_succ l p q y hq)
              clear hba e1 e2 hq
              go_cut [14, 16, 17] from 120 to 177 (fun m9 a9 b9 wz => m9 = .bool (meetTo l p y) ∧ ∃ sa sb : Nat, a9 = .pointer (some ⟨sa, 0, none⟩) ∧ b9 = .pointer (some ⟨sb, 0, none⟩) ∧ FiveAt wz sa p ∧ FiveAt wz sb q ∧ Below w6.heap.size w6 wz)
              case first =>
                go_wp2_with fail
                go_region
                · obtain ⟨ca, cb, hb8⟩ := two_five wr (.int .i64 p.i) (.int .i64 p.j) (.bool p.up) (.int .i64 p.di) (.int .i64 p.dj) (.int .i64 q.i) (.int .i64 q.j) (.bool q.up) (.int .i64 q.di) (.int .i64 q.dj) 81
                  have hb9 := hb7.trans (hb8.mono hb7.size)
                  go_wp2_with fail
                  go_meet
                  case rel => exact ⟨rfl, _, _, rfl, rfl, ⟨ca 0 _ rfl, ca 1 _ rfl, ca 2 _ rfl, ca 3 _ rfl, ca 4 _ rfl⟩, ⟨cb 0 _ rfl, cb 1 _ rfl, cb 2 _ rfl, cb 3 _ rfl, cb 4 _ rfl⟩, hb9⟩
                · obtain ⟨cb, ca, hb8⟩ := two_five wr (.int .i64 q.i) (.int .i64 q.j) (.bool q.up) (.int .i64 q.di) (.int .i64 q.dj) (.int .i64 p.i) (.int .i64 p.j) (.bool p.up) (.int .i64 p.di) (.int .i64 p.dj) 81
                  have hb9 := hb7.trans (hb8.mono hb7.size)
                  go_wp2_with fail
                  go_meet
                  case rel => exact ⟨rfl, _, _, rfl, rfl, ⟨ca 0 _ rfl, ca 1 _ rfl, ca 2 _ rfl, ca 3 _ rfl, ca 4 _ rfl⟩, ⟨cb 0 _ rfl, cb 1 _ rfl, cb 2 _ rfl, cb 3 _ rfl, cb 4 _ rfl⟩, hb9⟩
              case rest =>
                obtain ⟨rfl, sa, sb, rfl, rfl, ⟨a0, a1, a2, a3, a4⟩, ⟨b0, b1, b2, b3, b4⟩, hb9⟩ := hcut
                clear p0 p1 p2 p3 p4 q0 q1 q2 q3 q4 hne1 hne2 hne3 hne4 hgl
                cases hm9 : meetTo l p y
                · have HM := Lib.hid hm9
                  clear hm9
                  cases hc0 : (p.up == q.up)
                  · have HN := Lib.hid (show meetTo l p (y + 1) = false by rw [HMS.out, HM.out]; unfold meetB; rw [hc0]; rfl)
                    go_wp2
                    go_roundw
                    case rel => go_light; exact ⟨y + 1, by omega, by go_num, by rw [HN.out], hb9⟩
                    case measure => go_light; simp [intOf]; omega
                  · cases hc1 : ((q.i : Int) == (p.i : Int) + p.di)
                    · have HN := Lib.hid (show meetTo l p (y + 1) = false by rw [HMS.out, HM.out]; unfold meetB; rw [hc0, hc1]; rfl)
                      go_wp2
                      go_roundw
                      case rel => go_light; exact ⟨y + 1, by omega, by go_num, by rw [HN.out], hb9⟩
                      case measure => go_light; simp [intOf]; omega
                    · cases hc2 : ((q.j : Int) == (p.j : Int) + p.dj)
                      · have HN := Lib.hid (show meetTo l p (y + 1) = false by rw [HMS.out, HM.out]; unfold meetB; rw [hc0, hc1, hc2]; rfl)
                        go_wp2
                        go_roundw
                        case rel => go_light; exact ⟨y + 1, by omega, by go_num, by rw [HN.out], hb9⟩
                        case measure => go_light; simp [intOf]; omega
                      · cases hc3 : (q.di == -p.di)
                        · have HN := Lib.hid (show meetTo l p (y + 1) = false by rw [HMS.out, HM.out]; unfold meetB; rw [hc0, hc1, hc2, hc3]; rfl)
                          go_wp2
                          go_roundw
                          case rel => go_light; exact ⟨y + 1, by omega, by go_num, by rw [HN.out], hb9⟩
                          case measure => go_light; simp [intOf]; omega
                        · cases hc4 : (q.dj == -p.dj)
                          · have HN := Lib.hid (show meetTo l p (y + 1) = false by rw [HMS.out, HM.out]; unfold meetB; rw [hc0, hc1, hc2, hc3, hc4]; rfl)
                            go_wp2
                            go_roundw
                            case rel => go_light; exact ⟨y + 1, by omega, by go_num, by rw [HN.out], hb9⟩
                            case measure => go_light; simp [intOf]; omega
                          · have HN := Lib.hid (show meetTo l p (y + 1) = true by rw [HMS.out]; simp [meetB, hc0, hc1, hc2, hc3, hc4])
                            go_wp2
                            go_roundw
                            case rel => go_light; exact ⟨y + 1, by omega, by go_num, by rw [HN.out], hb9⟩
                            case measure => go_light; simp [intOf]; omega
                · have HM := Lib.hid hm9
                  clear hm9
                  have HN := Lib.hid (show meetTo l p (y + 1) = true by rw [HMS.out, HM.out]; rfl)
                  go_wp2
                  go_roundw
                  case rel => go_light; exact ⟨y + 1, by omega, by go_num, by rw [HN.out], hb9⟩
                  case measure => go_light; simp [intOf]; omega
            · obtain rfl : y = ln := by omega
              have hr6 : RowAt wr B (textOf H H o) := hro.same (hb7.block B hro.lt)
              have hb8 : Below B w5 wr := hb3.trans (hb7.mono (by have := hro.lt; omega))
              have HTK := Lib.hid (take_succ_at l x p HP.out)
              cases hmt : meetTo l p y
              · have HMT := Lib.hid (show meetTo l p l.length = false by rw [HLN.out]; exact hmt)
                clear hmt
                obtain ⟨g1, e1, _, p0, p1, p2, p3, p4⟩ := ((hbars5.within hbA hb3 (Nat.le_refl _)).below hb7).at_ x p HP.out
                obtain rfl : g = g1 := by simpa using e1
                have hpb := bar_bd (n := n) (h := k) (G := G) (k := k) (x := x) (b := p) (by rw [HL.out]; exact HP.out)
                have hpi8 : (p.i : Int) ≤ 8 := by omega
                have hpj8 : (p.j : Int) ≤ 8 := by omega
                obtain ⟨⟨pd1, pd2⟩, pd3, pd4⟩ := p.di_bd
                have hri := p.row_int
                have hci := p.col_int
                obtain ⟨r, hr⟩ : ∃ r, p.row = r := ⟨_, rfl⟩
                obtain ⟨q, hq⟩ : ∃ q, p.col = q := ⟨_, rfl⟩
                rw [hr] at hri
                rw [hq] at hci
                obtain ⟨R, hR⟩ : ∃ R, r * (H + 1) = R := ⟨_, rfl⟩
                have hmul : (r : Int) * ((H : Int) + 1) = (R : Int) := by rw [← hR]; simp
                have hr8 : r ≤ 8 := by omega
                have hR72 : R ≤ 72 := by rw [← hR]; exact Nat.le_trans (Nat.mul_le_mul hr8 (show H + 1 ≤ 9 by omega)) (by decide)
                have hK : (R : Int) + p.j + 1 + p.dj = ((R + q : Nat) : Int) := by omega
                have HRW := Lib.hid hr
                have HCL := Lib.hid hq
                have HRR := Lib.hid hR
                have hpp : p.up = true ∨ p.up = false := by cases p.up <;> simp
                have hupb : (p.up = true → r + 1 < H ∧ q < H) ∧ (p.up = false → r < H ∧ q + 1 < H) := by
                  refine ⟨fun e => ?_, fun e => ?_⟩
                  · rw [← hr, ← hq]; unfold Bar.row Bar.col; rw [e]; simp only [if_true]; cases p.odd <;> simp <;> omega
                  · rw [← hr, ← hq]; unfold Bar.row Bar.col; rw [e]; cases p.odd <;> simp <;> omega
                clear hr hq hR hpb
                have HUP := Lib.hid hupb
                clear hupb
                go_wp2_with fail
                go_quiet (fail)
                have hr9 : RowAt (wr.drewN nq) B (textOf H H o) := hr6.same rfl
                have hb9 : Below B w5 (wr.drewN nq) := below_drewN hb8 nq
                have p2' : (wr.drewN nq).cell? ⟨g, x * 5 + 2, none⟩ = some (.bool p.up) := p2
                generalize wr.drewN nq = w9 at hr9 hb9 p2' ⊢
                clear p0 p1 p2 p3 p4 hri hci hmul pd1 pd2 pd3 pd4 hro hr6 hb7 hb8 hb3
                have hlen := text_len H H o (by omega)
                have hLB : (textOf H H o).length = L0.length := by omega
                rcases hpp with hu | hu
                · have hup := HUP.out.1 hu
                  have p2'' : w9.cell? ⟨g, x * 5 + 2, none⟩ = some (.bool true) := by rw [p2', hu]
                  clear p2'
                  have m1 : (r + 1 + 1) * (H + 1) ≤ H * (H + 1) := Nat.mul_le_mul_right _ hup.1
                  have m2 : (r + 1 + 1) * (H + 1) = (r + 1) * (H + 1) + (H + 1) := Nat.succ_mul _ _
                  have m3 : (r + 1) * (H + 1) = r * (H + 1) + (H + 1) := Nat.succ_mul _ _
                  have m4 := HRR.out
                  have hk1 : R + q < (textOf H H o).length := by omega
                  have hk2 : R + q + (H + 1) < (textOf H H o).length := by omega
                  obtain ⟨b1, q1⟩ : ∃ b, (textOf H H o)[R + q]? = some b := ⟨_, List.getElem?_eq_getElem hk1⟩
                  obtain ⟨b2, q2⟩ : ∃ b, (textOf H H o)[R + q + (H + 1)]? = some b := ⟨_, List.getElem?_eq_getElem hk2⟩
                  obtain ⟨c1, f1⟩ := hr9.2 _ _ q1
                  obtain ⟨c2, f2⟩ := hr9.2 _ _ q2
                  have i1 : ((R + q : Nat) : Int) < (L0.length : Int) := by omega
                  have i2 : ((R + q : Nat) : Int) + ((H : Int) + 1) < (L0.length : Int) := by omega
                  have hs1 := hr9.set hk1 117
                  have hs2 := (hs1.set (i := R + q + (H + 1)) (by simpa using hk2) 100)
                  have hS : ((textOf H H o).set (R + q) 117).set (R + q + (H + 1)) 100 = textOf H H (set2 o r q 117 (r + 1) q 100) := by
                    rw [show R + q + (H + 1) = (r + 1) * (H + 1) + q from by omega, ← HRR.out]
                    exact text_set2 H H o r q (r + 1) q 117 100 (by omega) (by omega) hup.1 (by omega)
                  rw [hS] at hs2
                  have hb10 : Below B w5 ((w9.setCell ⟨B, R + q, none⟩ (.int .u8 117)).setCell ⟨B, R + q + (H + 1), none⟩ (.int .u8 100)) := ((hb9.setCell (p := ⟨B, R + q, none⟩) (Nat.le_refl B) _).setCell (p := ⟨B, R + q + (H + 1), none⟩) (Nat.le_refl B) _)
                  have hs3 : RowAt ((w9.setCell ⟨B, R + q, none⟩ (.int .u8 117)).setCell ⟨B, R + q + (H + 1), none⟩ (.int .u8 100)) B (textOf H H (set2 o r q 117 (r + 1) q 100)) := hs2
                  have HST : Hid (wentStep l o p = set2 o r q 117 (r + 1) q 100) := Lib.hid (by unfold wentStep; rw [HMT.out, hu, HRW.out, HCL.out]; rfl)
                  have HNX : Hid (set2 o r q 117 (r + 1) q 100 = wentG l (azG (n + 1)) (l.take (x + 1))) := Lib.hid (went_next HTK.out HO.out HST.out)
                  clear hs1 hs2 hS m1 m2 m3 m4 q1 q2 hup hu
                  go_wp2
                  exact ⟨⟨x + 1, set2 o r q 117 (r + 1) q 100, by omega, by go_num, hs3, hb10, HNX⟩, by simp [intOf]; omega⟩
                · have hup := HUP.out.2 hu
                  have p2'' : w9.cell? ⟨g, x * 5 + 2, none⟩ = some (.bool false) := by rw [p2', hu]
                  clear p2'
                  have m1 : (r + 1) * (H + 1) ≤ H * (H + 1) := Nat.mul_le_mul_right _ hup.1
                  have m3 : (r + 1) * (H + 1) = r * (H + 1) + (H + 1) := Nat.succ_mul _ _
                  have m4 := HRR.out
                  have hk1 : R + q < (textOf H H o).length := by omega
                  have hk2 : R + q + 1 < (textOf H H o).length := by omega
                  obtain ⟨b1, q1⟩ : ∃ b, (textOf H H o)[R + q]? = some b := ⟨_, List.getElem?_eq_getElem hk1⟩
                  obtain ⟨b2, q2⟩ : ∃ b, (textOf H H o)[R + q + 1]? = some b := ⟨_, List.getElem?_eq_getElem hk2⟩
                  obtain ⟨c1, f1⟩ := hr9.2 _ _ q1
                  obtain ⟨c2, f2⟩ := hr9.2 _ _ q2
                  have i1 : ((R + q : Nat) : Int) < (L0.length : Int) := by omega
                  have i2 : ((R + q : Nat) : Int) + 1 < (L0.length : Int) := by omega
                  have hs1 := hr9.set hk1 108
                  have hs2 := (hs1.set (i := R + q + 1) (by simpa using hk2) 114)
                  have hS : ((textOf H H o).set (R + q) 108).set (R + q + 1) 114 = textOf H H (set2 o r q 108 r (q + 1) 114) := by
                    rw [show R + q + 1 = r * (H + 1) + (q + 1) from by omega, ← HRR.out]
                    exact text_set2 H H o r q r (q + 1) 108 114 (by omega) (by omega) hup.1 hup.2
                  rw [hS] at hs2
                  have hb10 : Below B w5 ((w9.setCell ⟨B, R + q, none⟩ (.int .u8 108)).setCell ⟨B, R + q + 1, none⟩ (.int .u8 114)) := ((hb9.setCell (p := ⟨B, R + q, none⟩) (Nat.le_refl B) _).setCell (p := ⟨B, R + q + 1, none⟩) (Nat.le_refl B) _)
                  have hs3 : RowAt ((w9.setCell ⟨B, R + q, none⟩ (.int .u8 108)).setCell ⟨B, R + q + 1, none⟩ (.int .u8 114)) B (textOf H H (set2 o r q 108 r (q + 1) 114)) := hs2
                  have HST : Hid (wentStep l o p = set2 o r q 108 r (q + 1) 114) := Lib.hid (by unfold wentStep; rw [HMT.out, hu, HRW.out, HCL.out]; rfl)
                  have HNX : Hid (set2 o r q 108 r (q + 1) 114 = wentG l (azG (n + 1)) (l.take (x + 1))) := Lib.hid (went_next HTK.out HO.out HST.out)
                  clear hs1 hs2 hS m1 m3 m4 q1 q2 hup hu
                  go_wp2
                  exact ⟨⟨x + 1, set2 o r q 108 r (q + 1) 114, by omega, by go_num, hs3, hb10, HNX⟩, by simp [intOf]; omega⟩
              · have HST : Hid (wentStep l o p = o) := Lib.hid (by unfold wentStep; rw [HLN.out, hmt]; rfl)
                have HNX : Hid (o = wentG l (azG (n + 1)) (l.take (x + 1))) := Lib.hid (went_next HTK.out HO.out HST.out)
                clear hmt hro
                go_wp2
                exact ⟨⟨x + 1, o, by omega, by go_num, hr6, hb8, HNX⟩, by simp [intOf]; omega⟩
        · obtain rfl : x = ln := by omega
          have hlen := text_len H H o (by omega)
          have hLB : (textOf H H o).length = L0.length := by omega
          have hconv2 := run_convert_bytes_back (P := Tryd.prog) w6 63 9 5 ⟨B, 0, none⟩ (grownCap w4 L0.length 0 5) (textOf H H o) Tryd.underlying63 Tryd.underlying5 Tryd.underlying9 (fun j hj => by
            have e : (⟨B, 0, none⟩ : Addr).add j = ⟨B, j, none⟩ := addr_add0 _ _
            rw [e, (hro.2 j _ (List.getElem?_eq_getElem hj)).1])
          rw [hLB] at hconv2
          have HF : Hid (textOf H H o = textOf (2 * (n + 1)) (2 * (n + 1)) (wentG (barsTo n (2 * n) (gOf s) (2 * n)) (azG (n + 1)) (barsTo n (2 * n) (gOf s) (2 * n)))) := Lib.hid (by
            rw [HO.out, HHH.out, HH.out, HE2.out, HGG.out, HL.out]
            congr 2
            rw [← HLN.out, List.take_length])
          clear hlen hLB hro
          go_wp2
          go_ret
          exact ⟨by rw [← HF.out]; rfl, hb05.trans (hb3.mono hBw)⟩
end Go.Proofs.YtahihapgbcoanaaDoor
