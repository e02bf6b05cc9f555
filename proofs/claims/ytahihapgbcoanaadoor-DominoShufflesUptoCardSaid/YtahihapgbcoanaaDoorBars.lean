/- Plain: the bars of ferref.Went, and the grid that they give. -/
import Derived.Test.YtahihapgbcoanaaDoorShuffleW
namespace Go.Proofs.YtahihapgbcoanaaDoor

/-- A domino: its first cell, does it stand, which way it goes. -/
structure Bar where
  i : Nat
  j : Nat
  up : Bool
  odd : Bool
def Bar.di (b : Bar) : Int := if b.up then 0 else if b.odd then 1 else -1
def Bar.dj (b : Bar) : Int := if b.up then (if b.odd then 1 else -1) else 0
def barAt (n : Nat) (G : Nat → Nat → UInt8) (i j : Nat) : List Bar :=
  if G i j = 108 then [⟨i, j, false, !firstB n i j⟩] else if G i j = 117 then [⟨i, j, true, !firstB n i j⟩] else []
def barRow (n : Nat) (G : Nat → Nat → UInt8) (i m : Nat) : List Bar := (List.range m).flatMap (barAt n G i)
def barsTo (n h : Nat) (G : Nat → Nat → UInt8) (k : Nat) : List Bar := (List.range k).flatMap (fun i => barRow n G i h)
theorem barRow_succ (n : Nat) (G : Nat → Nat → UInt8) (i m : Nat) : barRow n G i (m + 1) = barRow n G i m ++ barAt n G i m := by simp [barRow, List.range_succ]
theorem barsTo_succ (n h : Nat) (G : Nat → Nat → UInt8) (k : Nat) : barsTo n h G (k + 1) = barsTo n h G k ++ barRow n G k h := by simp [barsTo, List.range_succ]
theorem barAt_len (n : Nat) (G : Nat → Nat → UInt8) (i j : Nat) : (barAt n G i j).length ≤ 1 := by
  unfold barAt
  split
  · simp
  · split <;> simp
theorem barRow_len (n : Nat) (G : Nat → Nat → UInt8) (i m : Nat) : (barRow n G i m).length ≤ m := by
  induction m with
  | zero => simp [barRow]
  | succ m ih =>
    rw [barRow_succ, List.length_append]
    have := barAt_len n G i m
    omega
theorem barsTo_len (n h : Nat) (G : Nat → Nat → UInt8) (k : Nat) : (barsTo n h G k).length ≤ k * h := by
  induction k with
  | zero => simp [barsTo]
  | succ k ih =>
    rw [barsTo_succ, List.length_append]
    have := barRow_len n G k h
    have : (k + 1) * h = k * h + h := Nat.succ_mul _ _
    omega
/-- q stands where p would go, and comes this way. -/
def meetB (p q : Bar) : Bool := p.up == q.up && ((q.i : Int) == p.i + p.di && ((q.j : Int) == p.j + p.dj && (q.di == -p.di && q.dj == -p.dj)))
def meetTo (l : List Bar) (p : Bar) (k : Nat) : Bool := (l.take k).any (meetB p)
def Bar.row (b : Bar) : Nat := if b.up then b.i + 1 else if b.odd then b.i + 2 else b.i
def Bar.col (b : Bar) : Nat := if b.up then (if b.odd then b.j + 2 else b.j) else b.j + 1
theorem Bar.row_int (b : Bar) : (b.i : Int) + 1 + b.di = b.row := by
  unfold Bar.di Bar.row
  cases b.up <;> cases b.odd <;> simp <;> omega
theorem Bar.col_int (b : Bar) : (b.j : Int) + 1 + b.dj = b.col := by
  unfold Bar.dj Bar.col
  cases b.up <;> cases b.odd <;> simp <;> omega
def wentStep (l : List Bar) (o : Nat → Nat → UInt8) (p : Bar) : Nat → Nat → UInt8 :=
  if meetTo l p l.length then o else if p.up then set2 o p.row p.col 117 (p.row + 1) p.col 100 else set2 o p.row p.col 108 p.row (p.col + 1) 114
def wentG (l : List Bar) (o : Nat → Nat → UInt8) (r : List Bar) : Nat → Nat → UInt8 := r.foldl (wentStep l) o

theorem mem_barsTo {n h : Nat} {G : Nat → Nat → UInt8} {k : Nat} {b : Bar} : b ∈ barsTo n h G k ↔ ∃ i j, i < k ∧ j < h ∧ b ∈ barAt n G i j := by
  unfold barsTo barRow
  simp only [List.mem_flatMap, List.mem_range]
  constructor
  · rintro ⟨i, hi, j, hj, hb⟩; exact ⟨i, j, hi, hj, hb⟩
  · rintro ⟨i, j, hi, hj, hb⟩; exact ⟨i, hi, j, hj, hb⟩
theorem first_flip_row (n i j : Nat) : firstB n (i + 1) j = !firstB n i j := by
  unfold firstB
  rw [Bool.eq_iff_iff]
  simp only [beq_iff_eq, Bool.not_eq_true', beq_eq_false_iff_ne, ne_eq]
  omega
theorem first_flip_col (n i j : Nat) : firstB n i (j + 1) = !firstB n i j := by
  unfold firstB
  rw [Bool.eq_iff_iff]
  simp only [beq_iff_eq, Bool.not_eq_true', beq_eq_false_iff_ne, ne_eq]
  omega
theorem mem_barAt {n : Nat} {G : Nat → Nat → UInt8} {i j : Nat} {b : Bar} : b ∈ barAt n G i j ↔ (G i j = 108 ∧ b = ⟨i, j, false, !firstB n i j⟩) ∨ (G i j = 117 ∧ b = ⟨i, j, true, !firstB n i j⟩) := by
  unfold barAt
  by_cases h1 : G i j = 108
  · rw [if_pos h1]; simp [h1]
  · rw [if_neg h1]
    by_cases h2 : G i j = 117
    · rw [if_pos h2]; simp [h2]
    · rw [if_neg h2]; simp [h1, h2]
/-- The meeting test is the test of one neighbour. -/
theorem meet_iff (n h : Nat) (G : Nat → Nat → UInt8) (p : Bar) : meetTo (barsTo n h G h) p (barsTo n h G h).length = true ↔
    ∃ i j, i < h ∧ j < h ∧ (i : Int) = p.i + p.di ∧ (j : Int) = p.j + p.dj ∧ G i j = (if p.up then 117 else 108) ∧ (!firstB n i j) = !p.odd := by
  unfold meetTo
  rw [List.take_length, List.any_eq_true]
  constructor
  · rintro ⟨q, hq, hm⟩
    obtain ⟨i, j, hi, hj, hb⟩ := mem_barsTo.1 hq
    simp only [meetB, Bool.and_eq_true, beq_iff_eq] at hm
    obtain ⟨m1, m2, m3, m4, m5⟩ := hm
    rcases mem_barAt.1 hb with ⟨hG, rfl⟩ | ⟨hG, rfl⟩
    · refine ⟨i, j, hi, hj, m2, m3, by rw [m1]; exact hG, ?_⟩
      simp only [Bar.di, Bar.dj, m1] at m4 m5
      cases hf : firstB n i j <;> cases ho : p.odd <;> simp_all
    · refine ⟨i, j, hi, hj, m2, m3, by rw [m1]; exact hG, ?_⟩
      simp only [Bar.di, Bar.dj, m1] at m4 m5
      cases hf : firstB n i j <;> cases ho : p.odd <;> simp_all
  · rintro ⟨i, j, hi, hj, e1, e2, hG, hf⟩
    cases hu : p.up
    · rw [hu] at hG
      refine ⟨⟨i, j, false, !firstB n i j⟩, mem_barsTo.2 ⟨i, j, hi, hj, mem_barAt.2 (.inl ⟨hG, rfl⟩)⟩, ?_⟩
      simp only [meetB, Bool.and_eq_true, beq_iff_eq]
      refine ⟨hu, e1, e2, ?_, ?_⟩
      · simp only [Bar.di, hu, hf]; cases p.odd <;> simp
      · simp only [Bar.dj, hu]; simp
    · rw [hu] at hG
      refine ⟨⟨i, j, true, !firstB n i j⟩, mem_barsTo.2 ⟨i, j, hi, hj, mem_barAt.2 (.inr ⟨hG, rfl⟩)⟩, ?_⟩
      simp only [meetB, Bool.and_eq_true, beq_iff_eq]
      refine ⟨hu, e1, e2, ?_, ?_⟩
      · simp only [Bar.di, hu]; simp
      · simp only [Bar.dj, hu, hf]; cases p.odd <;> simp
theorem first_pred_row {n i j : Nat} (hi : 0 < i) : firstB n (i - 1) j = !firstB n i j := by
  obtain ⟨i, rfl⟩ : ∃ i', i = i' + 1 := ⟨i - 1, by omega⟩
  simp [first_flip_row]
theorem first_pred_col {n i j : Nat} (hj : 0 < j) : firstB n i (j - 1) = !firstB n i j := by
  obtain ⟨j, rfl⟩ : ∃ j', j = j' + 1 := ⟨j - 1, by omega⟩
  simp [first_flip_col]
/-- One cell: the bar's step is the shuffle's. -/
theorem step_same (n h : Nat) (G o : Nat → Nat → UInt8) (i j : Nat) (hi : i < h) (hj : j < h) : wentG (barsTo n h G h) o (barAt n G i j) = shStep n h G o i j := by
  have key : ∀ p : Bar, ∀ c : Prop, [Decidable c] → (meetTo (barsTo n h G h) p (barsTo n h G h).length = true ↔ ¬ c) → ∀ X : Nat → Nat → UInt8, (if p.up then set2 o p.row p.col 117 (p.row + 1) p.col 100 else set2 o p.row p.col 108 p.row (p.col + 1) 114) = X → wentStep (barsTo n h G h) o p = if c then X else o := by
    intro p c _ hm X hX
    unfold wentStep
    by_cases hc : c
    · have : ¬ (meetTo (barsTo n h G h) p (barsTo n h G h).length = true) := fun e => hm.1 e hc
      rw [if_neg this, if_pos hc, hX]
    · rw [if_pos (hm.2 hc), if_neg hc]
  unfold shStep
  by_cases h1 : G i j = 108
  · rw [if_pos h1]
    have hb : barAt n G i j = [⟨i, j, false, !firstB n i j⟩] := by unfold barAt; rw [if_pos h1]
    rw [hb]
    show wentStep _ o _ = _
    cases hf : firstB n i j
    · rw [if_neg (by simp)]
      refine key _ _ ?_ _ (by simp [Bar.row, Bar.col])
      rw [meet_iff]
      simp only [Bar.di, Bar.dj]
      constructor
      · rintro ⟨i', j', hi', hj', e1, e2, hG, _⟩
        simp at e1 e2 hG
        obtain rfl : i' = i + 1 := by omega
        obtain rfl : j' = j := by omega
        rintro (e | e)
        · omega
        · exact e hG
      · intro hc
        have hlt : i + 1 < h := by
          have : i + 1 ≠ h := fun e => hc (.inl e)
          omega
        have hG : G (i + 1) j = 108 := by
          by_cases e : G (i + 1) j = 108
          · exact e
          · exact absurd (.inr e) hc
        refine ⟨i + 1, j, hlt, hj, by simp, by simp, by simpa using hG, by simp [first_flip_row, hf]⟩
    · rw [if_pos rfl]
      refine key _ _ ?_ _ (by simp [Bar.row, Bar.col])
      rw [meet_iff]
      simp only [Bar.di, Bar.dj]
      constructor
      · rintro ⟨i', j', hi', hj', e1, e2, hG, _⟩
        simp at e1 e2 hG
        obtain rfl : i' = i - 1 := by omega
        obtain rfl : j' = j := by omega
        rintro (e | e)
        · omega
        · exact e hG
      · intro hc
        have hlt : 0 < i := by
          have : i ≠ 0 := fun e => hc (.inl e)
          omega
        have hG : G (i - 1) j = 108 := by
          by_cases e : G (i - 1) j = 108
          · exact e
          · exact absurd (.inr e) hc
        refine ⟨i - 1, j, by omega, hj, by simp; omega, by simp, by simpa using hG, by simp [first_pred_row hlt, hf]⟩
  · rw [if_neg h1]
    by_cases h2 : G i j = 117
    · rw [if_pos h2]
      have hb : barAt n G i j = [⟨i, j, true, !firstB n i j⟩] := by unfold barAt; rw [if_neg h1, if_pos h2]
      rw [hb]
      show wentStep _ o _ = _
      cases hf : firstB n i j
      · rw [if_neg (by simp)]
        refine key _ _ ?_ _ (by simp [Bar.row, Bar.col])
        rw [meet_iff]
        simp only [Bar.di, Bar.dj]
        constructor
        · rintro ⟨i', j', hi', hj', e1, e2, hG, _⟩
          simp at e1 e2 hG
          obtain rfl : i' = i := by omega
          obtain rfl : j' = j + 1 := by omega
          rintro (e | e)
          · omega
          · exact e hG
        · intro hc
          have hlt : j + 1 < h := by
            have : j + 1 ≠ h := fun e => hc (.inl e)
            omega
          have hG : G i (j + 1) = 117 := by
            by_cases e : G i (j + 1) = 117
            · exact e
            · exact absurd (.inr e) hc
          refine ⟨i, j + 1, hi, hlt, by simp, by simp, by simpa using hG, by simp [first_flip_col, hf]⟩
      · rw [if_pos rfl]
        refine key _ _ ?_ _ (by simp [Bar.row, Bar.col])
        rw [meet_iff]
        simp only [Bar.di, Bar.dj]
        constructor
        · rintro ⟨i', j', hi', hj', e1, e2, hG, _⟩
          simp at e1 e2 hG
          obtain rfl : i' = i := by omega
          obtain rfl : j' = j - 1 := by omega
          rintro (e | e)
          · omega
          · exact e hG
        · intro hc
          have hlt : 0 < j := by
            have : j ≠ 0 := fun e => hc (.inl e)
            omega
          have hG : G i (j - 1) = 117 := by
            by_cases e : G i (j - 1) = 117
            · exact e
            · exact absurd (.inr e) hc
          refine ⟨i, j - 1, hi, by omega, by simp, by simp; omega, by simpa using hG, by simp [first_pred_col hlt, hf]⟩
    · rw [if_neg h2]
      have hb : barAt n G i j = [] := by unfold barAt; rw [if_neg h1, if_neg h2]
      rw [hb]
      rfl
theorem went_row (n h : Nat) (G o : Nat → Nat → UInt8) (i : Nat) (hi : i < h) : ∀ m, m ≤ h → wentG (barsTo n h G h) o (barRow n G i m) = shRow n h G o i m := by
  intro m
  induction m with
  | zero => intro _; rfl
  | succ m ih =>
    intro hm
    rw [barRow_succ]
    unfold wentG
    rw [List.foldl_append]
    have h1 := ih (by omega)
    unfold wentG at h1
    rw [h1]
    exact step_same n h G _ i m hi (by omega)
/-- The bars' grid is the shuffle's. -/
theorem went_same (n h : Nat) (G o : Nat → Nat → UInt8) : ∀ k, k ≤ h → wentG (barsTo n h G h) o (barsTo n h G k) = shTo n h G o k := by
  intro k
  induction k with
  | zero => intro _; rfl
  | succ k ih =>
    intro hk
    rw [barsTo_succ]
    unfold wentG
    rw [List.foldl_append]
    have h1 := ih (by omega)
    unfold wentG at h1
    rw [h1]
    exact went_row n h G _ k (by omega) h (Nat.le_refl _)
end Go.Proofs.YtahihapgbcoanaaDoor
