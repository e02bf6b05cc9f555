/- Plain facts for the reference's Tilings: the first open cell column by column, the two ways to cover it, what the map has. -/
import Derived.Test.YtahihapgbcoanaaDoorMatchW
import Derived.Test.YtahihapgbcoanaaDoorDeadMap
namespace Go.Proofs.YtahihapgbcoanaaDoor
open Go.RowKit Go.Maps

/-- Every cell is open or none. -/
def Two (h W : Nat) (G : Nat → Nat → UInt8) : Prop := ∀ i j, i < h → j < W → G i j = 35 ∨ G i j = 46
theorem Two.codes {h W : Nat} {G : Nat → Nat → UInt8} (hW : 0 < W) (T : Two h W G) : ∀ c, c < h * W → G (c / W) (c % W) = 35 ∨ G (c / W) (c % W) = 46 := fun _ hc => T _ _ (code_row hc) (Nat.mod_lt _ hW)
theorem Two.set {h W : Nat} {G : Nat → Nat → UInt8} (T : Two h W G) (a b c d : Nat) : Two h W (set2 G a b 46 c d 46) := by
  intro i j hi hj
  unfold set2
  split
  · exact .inr rfl
  · split
    · exact .inr rfl
    · exact T i j hi hj
theorem Two.ne {h W : Nat} {G : Nat → Nat → UInt8} (T : Two h W G) (i j : Nat) (hi : i < h) (hj : j < W) : G i j ≠ 47 := by
  rcases T i j hi hj with e | e <;> rw [e] <;> decide
/-- The first open cell, column by column. -/
structure FirstC (h W : Nat) (G : Nat → Nat → UInt8) (y x : Nat) : Prop where
  hy : y < h
  hx : x < W
  open_ : G y x = 35
  left : ∀ a b, a < h → b < W → (b < x ∨ (b = x ∧ a < y)) → G a b ≠ 35
theorem oG_set2 {W : Nat} {G : Nat → Nat → UInt8} {y x y2 x2 : Nat} (hx : x < W) (hx2 : x2 < W) (c : Nat) : oG W (set2 G y x 46 y2 x2 46) c = without (oG W G) (y * W + x) (y2 * W + x2) c := by
  simp only [oG, without, set2]
  have e1 := dm_eq (n := W) (y := y) (x := x) (i := c) hx
  have e2 := dm_eq (n := W) (y := y2) (x := x2) (i := c) hx2
  by_cases h2 : c / W = y2 ∧ c % W = x2
  · rw [if_pos h2]
    have : (c != y2 * W + x2) = false := by simp [e2.2 h2]
    rw [this]
    simp
  · rw [if_neg h2]
    have n2 : (c != y2 * W + x2) = true := bne_iff_ne.2 (fun e => h2 (e2.1 e))
    by_cases h1 : c / W = y ∧ c % W = x
    · rw [if_pos h1]
      have : (c != y * W + x) = false := by simp [e1.2 h1]
      rw [this]
      simp
    · rw [if_neg h1]
      have n1 : (c != y * W + x) = true := bne_iff_ne.2 (fun e => h1 (e1.1 e))
      rw [n1, n2]
      simp
/-- How many ways there are to cover the open cells of a grid. -/
def cntG (h W : Nat) (G : Nat → Nat → UInt8) : Nat := cnt W (h * W) (oG W G)
theorem cntG_congr {h W : Nat} {G G' : Nat → Nat → UInt8} (hW : 0 < W) (hG : ∀ i j, i < h → j < W → G i j = G' i j) : cntG h W G = cntG h W G' :=
  cnt_congr fun c hc => by
    unfold oG
    rw [hG _ _ (code_row hc) (Nat.mod_lt _ hW)]
theorem cntG_ways {h W : Nat} {G : Nat → Nat → UInt8} (hW : 0 < W) (T : Two h W G) : cntG h W G = waysC W G (h * W) 0 0 := (total_cnt hW (T.codes hW)).symm
theorem cntG_max {h W : Nat} {G : Nat → Nat → UInt8} (hW : 0 < W) (h8 : h ≤ 8) (w8 : W ≤ 8) (T : Two h W G) : cntG h W G ≤ 4294967296 := by
  rw [cntG_ways hW T]
  exact total_le hW G _ (Nat.mul_le_mul h8 w8)
theorem cntG_closed {h W : Nat} {G : Nat → Nat → UInt8} (hW : 0 < W) (hc : ∀ i j, i < h → j < W → G i j ≠ 35) : cntG h W G = 1 :=
  cnt_none fun c hcN => by
    unfold oG
    exact beq_eq_false_iff_ne.2 (hc _ _ (code_row hcN) (Nat.mod_lt _ hW))
/-- The first open cell is covered by a domino to its right or below. -/
def tilR (h W : Nat) (G : Nat → Nat → UInt8) (y x : Nat) : Nat := if x + 1 < W ∧ G y (x + 1) = 35 then cntG h W (set2 G y x 46 y (x + 1) 46) else 0
def tilD (h W : Nat) (G : Nat → Nat → UInt8) (y x : Nat) : Nat := if y + 1 < h ∧ G (y + 1) x = 35 then cntG h W (set2 G y x 46 (y + 1) x 46) else 0
theorem code_of {W y x : Nat} (hx : x < W) : (y * W + x) / W = y ∧ (y * W + x) % W = x := (dm_eq (n := W) (y := y) (x := x) (i := y * W + x) hx).1 rfl
theorem code_lt' {h W y x : Nat} (hy : y < h) (hx : x < W) : y * W + x < h * W := by
  have h1 : (y + 1) * W ≤ h * W := Nat.mul_le_mul_right W hy
  have h2 : (y + 1) * W = y * W + W := Nat.succ_mul _ _
  omega
theorem FirstC.count {h W : Nat} {G : Nat → Nat → UInt8} {y x : Nat} (F : FirstC h W G y x) : cntG h W G = tilR h W G y x + tilD h W G y x := by
  have hW : 0 < W := Nat.lt_of_le_of_lt (Nat.zero_le _) F.hx
  obtain ⟨k, hk⟩ : ∃ k, y * W + x = k := ⟨_, rfl⟩
  have hc := code_of (y := y) F.hx
  rw [hk] at hc
  have hkN : k < h * W := by rw [← hk]; exact code_lt' F.hy F.hx
  have hok : oG W G k = true := by unfold oG; rw [hc.1, hc.2, F.open_]; rfl
  have hop : ∀ b, oG W G b = true → G (b / W) (b % W) = 35 := fun b hb => by unfold oG at hb; exact eq_of_beq hb
  have hst := cnt_step (o := oG W G) hW hkN hok
    (fun b hb e hl => by
      have hn := cell_next hl
      rw [← e, hc.1, hc.2] at hn
      have hbN : b < h * W := by omega
      exact F.left _ _ (code_row hbN) (Nat.mod_lt _ hW) (.inl (by omega)) (hop b hb))
    (fun b hb e => by
      have hn := cell_below (k := b) hW
      rw [← e, hc.1, hc.2] at hn
      have hbN : b < h * W := by omega
      exact F.left _ _ (code_row hbN) (Nat.mod_lt _ hW) (.inr ⟨by omega, by omega⟩) (hop b hb))
  show cnt W (h * W) (oG W G) = _
  rw [hst, hc.2]
  unfold tilR tilD cntG
  congr 1
  · by_cases h1 : x + 1 < W
    · have e := cell_next (W := W) (k := k) (by rw [hc.2]; exact h1)
      have eo : oG W G (k + 1) = (G y (x + 1) == 35) := by unfold oG; rw [e.1, e.2, hc.1, hc.2]
      rw [eo]
      have ec : cnt W (h * W) (without (oG W G) k (k + 1)) = cnt W (h * W) (oG W (set2 G y x 46 y (x + 1) 46)) := cnt_congr fun c _ => by
        rw [oG_set2 F.hx h1, hk, show y * W + (x + 1) = k + 1 from by omega]
      rw [ec]
      simp [h1]
    · simp [h1]
  · have e := cell_below (k := k) hW
    have eo : oG W G (k + W) = (G (y + 1) x == 35) := by unfold oG; rw [e.1, e.2, hc.1, hc.2]
    have ek : k + W = (y + 1) * W + x := by rw [Nat.succ_mul]; omega
    have ec : cnt W (h * W) (without (oG W G) k (k + W)) = cnt W (h * W) (oG W (set2 G y x 46 (y + 1) x 46)) := cnt_congr fun c _ => by
      rw [oG_set2 F.hx F.hx, hk, ← ek]
    have el : (k + W < h * W) ↔ y + 1 < h := by
      constructor
      · intro hl
        have := code_row hl
        rw [e.1, hc.1] at this
        exact this
      · intro hl
        rw [ek]
        exact code_lt' hl F.hx
    rw [ec, eo]
    simp [el]
/- How many cells are open. -/
def openN (N : Nat) (o : Nat → Bool) : Nat := ((List.range N).filter o).length
theorem openN_le (N : Nat) (o : Nat → Bool) : openN N o ≤ N := filter_len N o
theorem openN_one {N : Nat} {o : Nat → Bool} {c : Nat} (hc : c < N) (ho : o c = true) : openN N (fun b => o b && (b != c)) + 1 = openN N o := by
  unfold openN
  have hp : ((List.range N).filter o).Perm (c :: (List.range N).filter (fun b => o b && (b != c))) := by
    refine (List.perm_ext_iff_of_nodup (List.Pairwise.filter _ List.nodup_range) (List.nodup_cons.2 ⟨fun h => ?_, List.Pairwise.filter _ List.nodup_range⟩)).2 fun b => ?_
    · have := (List.mem_filter.1 h).2
      simp at this
    · rw [List.mem_cons, List.mem_filter, List.mem_filter, List.mem_range]
      simp only [Bool.and_eq_true, bne_iff_ne, ne_eq]
      constructor
      · rintro ⟨h1, h2⟩
        by_cases e : b = c
        · exact .inl e
        · exact .inr ⟨h1, h2, e⟩
      · rintro (rfl | ⟨h1, h2, _⟩)
        · exact ⟨hc, ho⟩
        · exact ⟨h1, h2⟩
  have := hp.length_eq
  simp only [List.length_cons] at this
  omega
theorem openN_two {N : Nat} {o : Nat → Bool} {c d : Nat} (hc : c < N) (hd : d < N) (ho : o c = true) (hod : o d = true) (hne : d ≠ c) : openN N (without o c d) + 2 = openN N o := by
  have h1 := openN_one hc ho
  have h2 := openN_one (o := fun b => o b && (b != c)) hd (by simp [hod, hne])
  unfold without
  omega
theorem openN_set {h W : Nat} {G : Nat → Nat → UInt8} {y x y2 x2 : Nat} (hy : y < h) (hx : x < W) (hy2 : y2 < h) (hx2 : x2 < W) (ho : G y x = 35) (ho2 : G y2 x2 = 35) (hne : y2 ≠ y ∨ x2 ≠ x) :
    openN (h * W) (oG W (set2 G y x 46 y2 x2 46)) + 2 = openN (h * W) (oG W G) := by
  have e : openN (h * W) (oG W (set2 G y x 46 y2 x2 46)) = openN (h * W) (without (oG W G) (y * W + x) (y2 * W + x2)) := by
    unfold openN
    rw [List.filter_congr fun c _ => oG_set2 hx hx2 c]
  have c1 := code_of (y := y) hx
  have c2 := code_of (y := y2) hx2
  rw [e]
  refine openN_two (code_lt' hy hx) (code_lt' hy2 hx2) (by unfold oG; rw [c1.1, c1.2, ho]; rfl) (by unfold oG; rw [c2.1, c2.2, ho2]; rfl) (fun e => ?_)
  rw [e] at c2
  rcases hne with h1 | h1 <;> omega
/-- What the map has is true. -/
def MemoOk (h W : Nat) (D : DataW Unit) : Prop := ∀ G, Two h W G → ∀ z, has D (.string (textOf h W G)) = true → D.atKey (.string (textOf h W G)) z = .lit (.int .i64 (cntG h W G : Nat))
theorem memo_empty (h W : Nat) : MemoOk h W (.map []) := fun _ _ _ hh => by cases hh
theorem MemoOk.put {h W : Nat} (h0 : 0 < h) (w0 : 0 < W) {D : DataW Unit} (M : MemoOk h W D) (hD : IsMap D) {G : Nat → Nat → UInt8} (T : Two h W G) (hk : WideAt.IsKeyLit (.string (textOf h W G))) : MemoOk h W (D.put (.string (textOf h W G)) (.lit (.int .i64 (cntG h W G : Nat)))) := by
  intro G' T' z hh
  by_cases e : textOf h W G' = textOf h W G
  · rw [e, atKey_put_same hD hk, cntG_congr w0 (text_inj h0 h0 (fun j hj => T.ne 0 j h0 hj) (fun j hj => T'.ne 0 j h0 hj) e.symm).2.2]
  · have hne : (Lit.string (textOf h W G')) ≠ .string (textOf h W G) := fun e2 => e (by injection e2)
    rw [has_put_other hne] at hh
    rw [atKey_put_other hne]
    exact M G' T' z hh
theorem text_at {h W : Nat} {G : Nat → Nat → UInt8} {s : List UInt8} (h0 : 0 < h) (hs : textOf h W G = s) {y x : Nat} (hy : y < h) (hx : x < W) : s[y * (W + 1) + x]? = some (G y x) := by
  have hl := text_len h W G h0
  have h1 : (y + 1) * (W + 1) ≤ h * (W + 1) := Nat.mul_le_mul_right _ hy
  have h2 : (y + 1) * (W + 1) = y * (W + 1) + (W + 1) := Nat.succ_mul _ _
  have hi : y * (W + 1) + x < (textOf h W G).length := by omega
  rw [← hs, List.getElem?_eq_getElem hi, text_get h W G h0 _ hi, flat_at W G y x hx]
theorem text_end {h W : Nat} {G : Nat → Nat → UInt8} {s : List UInt8} (h0 : 0 < h) (hs : textOf h W G = s) {y : Nat} (hy : y + 1 < h) : s[y * (W + 1) + W]? = some 47 := by
  have hl := text_len h W G h0
  have h1 : (y + 1 + 1) * (W + 1) ≤ h * (W + 1) := Nat.mul_le_mul_right _ hy
  have h2 : (y + 1) * (W + 1) = y * (W + 1) + (W + 1) := Nat.succ_mul _ _
  have h3 : (y + 1 + 1) * (W + 1) = (y + 1) * (W + 1) + (W + 1) := Nat.succ_mul _ _
  have hi : y * (W + 1) + W < (textOf h W G).length := by omega
  rw [← hs, List.getElem?_eq_getElem hi, text_get h W G h0 _ hi, flat_end W G y]
theorem text_put1 (h W : Nat) (G : Nat → Nat → UInt8) (y x : Nat) (c : UInt8) (hy : y < h) (hx : x < W) : (textOf h W G).set (y * (W + 1) + x) c = textOf h W (fun a b => if a = y ∧ b = x then c else G a b) := by
  have h0 : 0 < h := by omega
  have l1 := text_len h W G h0
  have l2 := text_len h W (fun a b => if a = y ∧ b = x then c else G a b) h0
  apply List.ext_getElem
  · rw [List.length_set]; omega
  · intro i hi hi2
    rw [List.length_set] at hi
    rw [text_get h W _ h0 i hi2, List.getElem_set, text_get h W G h0 i hi]
    have k1 := dm_eq (n := W + 1) (y := y) (x := x) (i := i) (by omega)
    unfold flatG
    generalize i / (W + 1) = u at *
    generalize i % (W + 1) = v at *
    by_cases hv : v = W
    · have n1 : ¬ (y * (W + 1) + x = i) := fun e => by have := k1.1 e.symm; omega
      rw [if_neg n1, if_pos hv, if_pos hv]
    · rw [if_neg hv, if_neg hv]
      simp only [eq_comm (b := i), k1]
theorem text_put2 (h W : Nat) (G : Nat → Nat → UInt8) (a b c d : Nat) (u v : UInt8) (ha : a < h) (hb : b < W) (hc : c < h) (hd : d < W) : ((textOf h W G).set (a * (W + 1) + b) u).set (c * (W + 1) + d) v = textOf h W (set2 G a b u c d v) := by
  rw [text_put1 h W G a b u ha hb, text_put1 h W _ c d v hc hd]
  rfl
/-- What the two rounds over the neighbours have counted. -/
def accT (h W : Nat) (G : Nat → Nat → UInt8) (y x i : Nat) : Nat := (if 0 < i then tilR h W G y x else 0) + (if 1 < i then tilD h W G y x else 0)
theorem accT_two {h W : Nat} {G : Nat → Nat → UInt8} {y x : Nat} (F : FirstC h W G y x) : accT h W G y x 2 = cntG h W G := by
  rw [F.count]
  rfl
theorem til_nb {h W : Nat} {G : Nat → Nat → UInt8} {s : List UInt8} (h0 : 0 < h) (hs : textOf h W G = s) {y x q : Nat} (F : FirstC h W G y x) (hq : y * (W + 1) + x = q) (t i : Nat) (hi : i < 2) (ht : t = if i = 0 then q + 1 else q + (W + 1)) :
    (s.length ≤ t ∧ accT h W G y x (i + 1) = accT h W G y x i) ∨ (∃ cc, s[t]? = some cc ∧ cc ≠ 35 ∧ accT h W G y x (i + 1) = accT h W G y x i) ∨
    (∃ y2 x2, s[t]? = some 35 ∧ y2 * (W + 1) + x2 = t ∧ y2 < h ∧ x2 < W ∧ G y2 x2 = 35 ∧ (y2 ≠ y ∨ x2 ≠ x) ∧ accT h W G y x (i + 1) = accT h W G y x i + cntG h W (set2 G y x 46 y2 x2 46)) := by
  have hlen := text_len h W G h0
  rw [hs] at hlen
  have hy := F.hy
  have hx := F.hx
  have m2 : (y + 1) * (W + 1) = y * (W + 1) + (W + 1) := Nat.succ_mul _ _
  obtain rfl | rfl : i = 0 ∨ i = 1 := by omega
  · have ht : t = q + 1 := ht
    have hacc : accT h W G y x (0 + 1) = accT h W G y x 0 + tilR h W G y x := by simp [accT]
    by_cases h1 : x + 1 < W
    · have hg := text_at h0 hs hy h1
      rw [show y * (W + 1) + (x + 1) = t from by omega] at hg
      by_cases h35 : G y (x + 1) = 35
      · refine .inr (.inr ⟨y, x + 1, by rw [hg, h35], by omega, hy, h1, h35, by omega, ?_⟩)
        rw [hacc, tilR, if_pos ⟨h1, h35⟩]
      · refine .inr (.inl ⟨_, hg, h35, ?_⟩)
        rw [hacc, tilR, if_neg (fun h => h35 h.2)]
        rfl
    · have hz : accT h W G y x (0 + 1) = accT h W G y x 0 := by
        rw [hacc, tilR, if_neg (fun h => h1 h.1)]
        rfl
      by_cases h2 : y + 1 < h
      · have hg := text_end h0 hs h2
        rw [show y * (W + 1) + W = t from by omega] at hg
        exact .inr (.inl ⟨_, hg, by decide, hz⟩)
      · refine .inl ⟨?_, hz⟩
        have e : y + 1 = h := by omega
        rw [e] at m2
        omega
  · have ht : t = q + (W + 1) := ht
    have hacc : accT h W G y x (1 + 1) = accT h W G y x 1 + tilD h W G y x := by simp [accT]
    by_cases h1 : y + 1 < h
    · have hg := text_at h0 hs h1 hx
      rw [show (y + 1) * (W + 1) + x = t from by omega] at hg
      by_cases h35 : G (y + 1) x = 35
      · refine .inr (.inr ⟨y + 1, x, by rw [hg, h35], by omega, h1, hx, h35, by omega, ?_⟩)
        rw [hacc, tilD, if_pos ⟨h1, h35⟩]
      · refine .inr (.inl ⟨_, hg, h35, ?_⟩)
        rw [hacc, tilD, if_neg (fun h => h35 h.2)]
        rfl
    · refine .inl ⟨?_, ?_⟩
      · have e : y + 1 = h := by omega
        rw [e] at m2
        omega
      · rw [hacc, tilD, if_neg (fun h => h1 h.1)]
        rfl
theorem tilR_le {h W : Nat} {G : Nat → Nat → UInt8} (w0 : 0 < W) (h8 : h ≤ 8) (w8 : W ≤ 8) (T : Two h W G) (y x i : Nat) : accT h W G y x i ≤ 8589934592 := by
  have a : tilR h W G y x ≤ 4294967296 := by
    unfold tilR
    split
    · exact cntG_max w0 h8 w8 (T.set _ _ _ _)
    · omega
  have b : tilD h W G y x ≤ 4294967296 := by
    unfold tilD
    split
    · exact cntG_max w0 h8 w8 (T.set _ _ _ _)
    · omega
  unfold accT
  split <;> split <;> omega
end Go.Proofs.YtahihapgbcoanaaDoor
