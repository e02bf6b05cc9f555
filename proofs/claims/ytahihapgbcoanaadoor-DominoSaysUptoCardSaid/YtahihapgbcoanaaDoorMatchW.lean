/- Count's number, row by row, is the number of perfect matchings of the open cells; so is the one by columns. -/
import Derived.Test.YtahihapgbcoanaaDoorWays
import Derived.Test.YtahihapgbcoanaaDoorMatch
namespace Go.Proofs.YtahihapgbcoanaaDoor

/-- The open cells from code k on, those that the state m covers left out. -/
def openK (W : Nat) (S : Nat → Nat → UInt8) (k m : Nat) : Nat → Bool := fun c => decide (k ≤ c) && ((S (c / W) (c % W) == 35) && !(m.testBit (c - k)))
/-- The open cells of a grid. -/
def oG (W : Nat) (S : Nat → Nat → UInt8) : Nat → Bool := fun c => S (c / W) (c % W) == 35

theorem ways_hash {h W : Nat} (hW : 0 < W) {S : Nat → Nat → UInt8} (hS : ∀ c, c < h * W → S (c / W) (c % W) = 35 ∨ S (c / W) (c % W) = 46) {n k m : Nat} (hk : k + (n + 1) = h * W) (h1 : ¬ m % 2 = 1) (h35 : S (k / W) (k % W) = 35) :
    waysC W S (n + 1) k m = (if lieB W S (k / W) (k % W) m = true then waysC W S n (k + 1) (m / 2 ||| 1) else 0) + (if standB h S (k / W) (k % W) = true then waysC W S n (k + 1) (m / 2 ||| 2 ^ (W - 1)) else 0) := by
  conv => lhs; unfold waysC stepC
  rw [if_neg h1, if_neg (by rw [h35]; decide), List.map_append, List.sum_append]
  congr 1
  · by_cases hc : k % W + 1 < W ∧ m / 2 % 2 = 0 ∧ S (k / W) (k % W + 1) = 35
    · rw [if_pos hc, if_pos (by simp [lieB, hc])]; simp
    · rw [if_neg hc, if_neg]
      · rfl
      · intro e
        simp only [lieB, Bool.and_eq_true, decide_eq_true_eq] at e
        exact hc e
  · by_cases hc : standB h S (k / W) (k % W) = true
    · rw [if_pos hc]; simp
    · rw [if_neg hc]
      simp only [List.map_cons, List.map_nil, List.sum_cons, List.sum_nil, Nat.add_zero]
      refine ways_zero (h * W) hS n (k + 1) _ (by omega) ⟨W - 1, ?_, fun hlt e => hc ?_⟩
      · rw [Nat.testBit_or, Nat.testBit_two_pow_self, Bool.or_true]
      · have e2 : k + 1 + (W - 1) = k + W := by omega
        rw [e2] at hlt e
        rw [(cell_below hW).1, (cell_below hW).2] at e
        have hr := code_row hlt
        rw [(cell_below hW).1] at hr
        simp [standB, hr, e]
theorem adj_right {W k : Nat} (hW : 1 < W) : adjC W k (k + 1) = decide (k % W + 1 < W) := by
  by_cases h : k % W + 1 < W
  · have e := cell_next h
    unfold adjC
    rw [e.1, e.2]
    simp [h]
  · have h2 : k % W + 1 = W := by have := Nat.mod_lt k (show 0 < W by omega); omega
    have hd := Nat.div_add_mod k W
    have e1 : (k + 1) / W = k / W + 1 := by
      rw [show k + 1 = W * (k / W + 1) from by rw [Nat.mul_succ]; omega]
      exact Nat.mul_div_cancel_left _ (by omega)
    have e2 : (k + 1) % W = 0 := by
      rw [show k + 1 = W * (k / W + 1) from by rw [Nat.mul_succ]; omega]
      exact Nat.mul_mod_right _ _
    unfold adjC
    rw [e1, e2]
    have a1 : (k / W == k / W + 1) = false := beq_eq_false_iff_ne.2 (by omega)
    have a2 : (k % W == 0) = false := beq_eq_false_iff_ne.2 (by omega)
    rw [a1, a2]
    simp [h]
theorem adj_below {W k : Nat} (hW : 0 < W) : adjC W k (k + W) = true := by
  have e := cell_below (k := k) hW
  unfold adjC
  rw [e.1, e.2]
  simp
theorem adj_two {W : Nat} (hW : 0 < W) {k b : Nat} (ha : adjC W k b = true) : (b = k + 1 ∧ k % W + 1 < W) ∨ b = k + W ∨ (k = b + 1 ∧ b % W + 1 < W) ∨ k = b + W := by
  unfold adjC at ha
  simp only [Bool.or_eq_true, Bool.and_eq_true, beq_iff_eq] at ha
  have d1 := Nat.div_add_mod k W
  have d2 := Nat.div_add_mod b W
  have l1 := Nat.mod_lt k hW
  have l2 := Nat.mod_lt b hW
  rcases ha with ⟨h1, h2 | h2⟩ | ⟨h1, h2 | h2⟩
  · rw [h1] at d1; exact .inl ⟨by omega, by omega⟩
  · rw [h1] at d1; exact .inr (.inr (.inl ⟨by omega, by omega⟩))
  · rw [← h2, Nat.mul_succ] at d2; exact .inr (.inl (by omega))
  · rw [← h2, Nat.mul_succ] at d1; exact .inr (.inr (.inr (by omega)))
/-- A cell covered first that has no open neighbour to its left or above. -/
theorem cnt_step {h W : Nat} (hW : 0 < W) {o : Nat → Bool} {k : Nat} (hk : k < h * W) (ho : o k = true) (hl : ∀ b, o b = true → k = b + 1 → b % W + 1 < W → False) (hu : ∀ b, o b = true → k = b + W → False) :
    cnt W (h * W) o = (if k % W + 1 < W ∧ o (k + 1) = true then cnt W (h * W) (without o k (k + 1)) else 0) + (if k + W < h * W ∧ o (k + W) = true then cnt W (h * W) (without o k (k + W)) else 0) := by
  by_cases h1 : W = 1
  · subst h1
    rw [cnt_expand (r := k + 2) (d := k + 1) hk ho (by omega) (by omega) (by omega) (fun b hb ob ab => by
      rcases adj_two (by omega) ab with ⟨e, _⟩ | e | ⟨e, e2⟩ | e
      · exact .inr e
      · exact .inr e
      · exact (hl b ob e e2).elim
      · exact (hu b ob e).elim)]
    have a1 : adjC 1 k (k + 2) = false := by
      unfold adjC
      simp [Nat.mod_one, Nat.div_one]
      omega
    have a2 : adjC 1 k (k + 1) = true := adj_below (W := 1) (by omega)
    rw [a1, a2]
    have a3 : ¬ (k % 1 + 1 < 1 ∧ o (k + 1) = true) := by omega
    rw [if_neg a3]
    simp
  · rw [cnt_expand (r := k + 1) (d := k + W) hk ho (by omega) (by omega) (by omega) (fun b hb ob ab => by
      rcases adj_two hW ab with ⟨e, _⟩ | e | ⟨e, e2⟩ | e
      · exact .inl e
      · exact .inr e
      · exact (hl b ob e e2).elim
      · exact (hu b ob e).elim)]
    rw [adj_right (by omega), adj_below hW]
    congr 1
    · by_cases hc : k % W + 1 < W
      · have hlt := code_next hk hc
        simp [hc, hlt]
      · simp [hc]
    · simp
theorem bit_one (m : Nat) : m.testBit 1 = decide (m / 2 % 2 = 1) := by
  rw [show (1 : Nat) = 0 + 1 from rfl, ← bit_half, Nat.testBit_zero]
theorem open_half {W : Nat} {S : Nat → Nat → UInt8} {k m : Nat} (h0 : S (k / W) (k % W) ≠ 35 ∨ m % 2 = 1) (c : Nat) : openK W S k m c = openK W S (k + 1) (m / 2) c := by
  unfold openK
  by_cases hc : c = k
  · subst hc
    have e : decide (c + 1 ≤ c) = false := decide_eq_false (by omega)
    rw [e]
    rcases h0 with h0 | h0
    · simp [h0]
    · rw [Nat.sub_self, Nat.testBit_zero]
      simp [h0]
  · by_cases hlt : c < k
    · have e1 : decide (k ≤ c) = false := decide_eq_false (by omega)
      have e2 : decide (k + 1 ≤ c) = false := decide_eq_false (by omega)
      rw [e1, e2]
      rfl
    · have e1 : decide (k ≤ c) = true := decide_eq_true (by omega)
      have e2 : decide (k + 1 ≤ c) = true := decide_eq_true (by omega)
      rw [e1, e2, bit_half, show c - (k + 1) + 1 = c - k from by omega]
theorem open_or {W : Nat} {S : Nat → Nat → UInt8} {k m b : Nat} (c : Nat) : without (openK W S k m) k (k + 1 + b) c = openK W S (k + 1) (m / 2 ||| 2 ^ b) c := by
  simp only [openK, without]
  by_cases hc : c = k
  · subst hc
    have e : decide (c + 1 ≤ c) = false := decide_eq_false (by omega)
    rw [e]
    simp
  · by_cases hlt : c < k
    · have e1 : decide (k ≤ c) = false := decide_eq_false (by omega)
      have e2 : decide (k + 1 ≤ c) = false := decide_eq_false (by omega)
      rw [e1, e2]
      rfl
    · have e1 : decide (k ≤ c) = true := decide_eq_true (by omega)
      have e2 : decide (k + 1 ≤ c) = true := decide_eq_true (by omega)
      have e3 : (c != k) = true := by simp [hc]
      rw [e1, e2, e3, Nat.testBit_or, bit_half, show c - (k + 1) + 1 = c - k from by omega, Nat.testBit_two_pow]
      by_cases hb : c = k + 1 + b
      · have e4 : b = c - (k + 1) := by omega
        have e5 : (c != k + 1 + b) = false := by simp [hb]
        rw [e5, decide_eq_true e4]
        simp
      · have e4 : ¬ b = c - (k + 1) := by omega
        have e5 : (c != k + 1 + b) = true := by simp [hb]
        rw [e5, decide_eq_false e4]
        simp
/-- Count's number of ways on is the number of matchings of what is open ahead. -/
theorem ways_cnt {h W : Nat} (hW : 0 < W) {S : Nat → Nat → UInt8} (hS : ∀ c, c < h * W → S (c / W) (c % W) = 35 ∨ S (c / W) (c % W) = 46) :
    ∀ n k m, k + n = h * W → m < 2 ^ W → ValidM (h * W) W S k m → waysC W S n k m = cnt W (h * W) (openK W S k m) := by
  intro n
  induction n with
  | zero =>
    intro k m hk _ hv
    have hm : m = 0 := by
      apply Nat.eq_of_testBit_eq
      intro t
      rw [Nat.zero_testBit]
      cases ht : m.testBit t
      · rfl
      · have := (hv t ht).1
        omega
    rw [cnt_none (fun c hc => by
      unfold openK
      rw [decide_eq_false (by omega)]
      rfl)]
    unfold waysC
    rw [if_pos hm]
  | succ n ih =>
    intro k m hk hm hv
    have hkN : k < h * W := by omega
    have i0 := ih (k + 1) (m / 2) (by omega) (by omega) hv.half
    by_cases h1 : m % 2 = 1
    · have h35 : S (k / W) (k % W) = 35 := by
        have := hv 0 (by rw [Nat.testBit_zero, decide_eq_true_eq]; exact h1)
        rw [Nat.add_zero] at this
        exact this.2
      unfold waysC stepC
      rw [if_pos h1, if_neg (by rw [h35]; decide), cnt_congr (fun c _ => open_half (.inr h1) c), ← i0]
      simp
    · rcases hS k hkN with h35 | h46
      · rw [ways_hash hW hS hk h1 h35]
        have hok : openK W S k m k = true := by
          unfold openK
          rw [Nat.sub_self, Nat.testBit_zero, h35]
          simp [h1]
        have hge : ∀ b, openK W S k m b = true → k ≤ b := fun b hb => by
          unfold openK at hb
          simp only [Bool.and_eq_true, decide_eq_true_eq] at hb
          exact hb.1
        rw [cnt_step hW hkN hok (fun b hb e _ => by have := hge b hb; omega) (fun b hb e => by have := hge b hb; omega)]
        congr 1
        · have hiff : lieB W S (k / W) (k % W) m = true ↔ (k % W + 1 < W ∧ openK W S k m (k + 1) = true) := by
            simp only [lieB, openK, Bool.and_eq_true, decide_eq_true_eq, beq_iff_eq, Bool.not_eq_true', show k + 1 - k = 1 from by omega, bit_one, decide_eq_false_iff_not]
            constructor
            · rintro ⟨a, b, c⟩
              rw [(cell_next a).1, (cell_next a).2]
              exact ⟨a, by omega, c, by omega⟩
            · rintro ⟨a, _, c, d⟩
              rw [(cell_next a).1, (cell_next a).2] at c
              exact ⟨a, by omega, c⟩
          by_cases hc : lieB W S (k / W) (k % W) m = true
          · rw [if_pos hc, if_pos (hiff.1 hc), ih (k + 1) _ (by omega) (or_one_lt hW hm) (valid_lie hkN hv hc)]
            exact (cnt_congr fun c _ => open_or (b := 0) c).symm
          · rw [if_neg hc, if_neg (fun e => hc (hiff.2 e))]
        · have hbW : m.testBit W = false := Nat.testBit_lt_two_pow hm
          have hiff : standB h S (k / W) (k % W) = true ↔ (k + W < h * W ∧ openK W S k m (k + W) = true) := by
            have e := cell_below (k := k) hW
            simp only [standB, openK, Bool.and_eq_true, decide_eq_true_eq, beq_iff_eq, Bool.not_eq_true', show k + W - k = W from by omega, hbW, e.1, e.2]
            constructor
            · rintro ⟨a, b⟩
              exact ⟨code_below hW a, by omega, b, trivial⟩
            · rintro ⟨a, _, b, _⟩
              have := code_row a
              rw [e.1] at this
              exact ⟨this, b⟩
          by_cases hc : standB h S (k / W) (k % W) = true
          · rw [if_pos hc, if_pos (hiff.1 hc), ih (k + 1) _ (by omega) (or_top_lt hW hm) (valid_stand hW hv hc)]
            refine (cnt_congr fun c _ => ?_).symm
            have := open_or (W := W) (S := S) (k := k) (m := m) (b := W - 1) c
            rw [show k + 1 + (W - 1) = k + W from by omega] at this
            exact this
          · rw [if_neg hc, if_neg (fun e => hc (hiff.2 e))]
      · unfold waysC stepC
        rw [if_neg h1, if_pos h46, cnt_congr (fun c _ => open_half (.inl (by rw [h46]; decide)) c), ← i0]
        simp
theorem total_cnt {h W : Nat} (hW : 0 < W) {S : Nat → Nat → UInt8} (hS : ∀ c, c < h * W → S (c / W) (c % W) = 35 ∨ S (c / W) (c % W) = 46) : waysC W S (h * W) 0 0 = cnt W (h * W) (oG W S) := by
  rw [ways_cnt hW hS (h * W) 0 0 (by omega) (Nat.two_pow_pos W) (fun t ht => by rw [Nat.zero_testBit] at ht; cases ht)]
  refine cnt_congr fun c _ => ?_
  unfold openK oG
  rw [Nat.zero_testBit]
  simp
end Go.Proofs.YtahihapgbcoanaaDoor
