/- Plain: the ways to tile a board, as Count adds them and as First searches them. -/
import Derived.Test.YtahihapgbcoanaaDoorEnum
namespace Go.Proofs.YtahihapgbcoanaaDoor

/-- Count's step: the ways of the cell in row i, column j. m: which of the next W cells are covered already. -/
def stepC (W : Nat) (S : Nat → Nat → UInt8) (i j m : Nat) : List Nat :=
  if m % 2 = 1 then (if S i j = 46 then [] else [m / 2])
  else if S i j = 46 then [m / 2]
  else (if j + 1 < W ∧ m / 2 % 2 = 0 ∧ S i (j + 1) = 35 then [m / 2 ||| 1] else []) ++ [m / 2 ||| 2 ^ (W - 1)]
/-- The states behind k cells, each as often as there are ways to it. -/
def fwd (W : Nat) (S : Nat → Nat → UInt8) : Nat → List Nat
  | 0 => [0]
  | k + 1 => (fwd W S k).flatMap (stepC W S (k / W) (k % W))
/-- The ways on, with n cells to come. -/
def waysC (W : Nat) (S : Nat → Nat → UInt8) : Nat → Nat → Nat → Nat
  | 0, _, m => if m = 0 then 1 else 0
  | n + 1, k, m => ((stepC W S (k / W) (k % W) m).map (waysC W S n (k + 1))).sum
theorem fwd_ways (W : Nat) (S : Nat → Nat → UInt8) : ∀ n k, ((fwd W S k).map (waysC W S n k)).sum = (fwd W S (k + n)).count 0 := by
  intro n
  induction n with
  | zero =>
    intro k
    generalize fwd W S k = l
    induction l with
    | nil => rfl
    | cons a l ih =>
      have ih : ((l.map (waysC W S 0 k)).sum = l.count 0) := ih
      rw [List.map_cons, List.sum_cons, ih, List.count_cons]
      unfold waysC
      by_cases h : a = 0
      · simp [h]; omega
      · simp [h]
  | succ n ih =>
    intro k
    have e : k + (n + 1) = k + 1 + n := by omega
    rw [e, ← ih (k + 1)]
    show _ = (((fwd W S k).flatMap (stepC W S (k / W) (k % W))).map (waysC W S n (k + 1))).sum
    generalize fwd W S k = l
    induction l with
    | nil => rfl
    | cons a l ih2 =>
      rw [List.map_cons, List.sum_cons, ih2, List.flatMap_cons, List.map_append, List.sum_append]
      rfl
theorem fwd_total (W : Nat) (S : Nat → Nat → UInt8) (n : Nat) : (fwd W S n).count 0 = waysC W S n 0 0 := by
  have h := fwd_ways W S n 0
  rw [Nat.zero_add] at h
  rw [← h]
  simp [fwd]

/-- How many ones. -/
def pop : Nat → Nat → Nat
  | 0, _ => 0
  | a + 1, m => m % 2 + pop a (m / 2)
theorem pop_zero : ∀ a, pop a 0 = 0 := by
  intro a
  induction a with
  | zero => rfl
  | succ a ih => simp [pop, ih]
theorem pop_pos : ∀ a m, m < 2 ^ a → 0 < m → 0 < pop a m := by
  intro a
  induction a with
  | zero => intro m h1 h2; simp at h1; omega
  | succ a ih =>
    intro m h1 h2
    unfold pop
    rw [Nat.pow_succ] at h1
    by_cases h : m % 2 = 1
    · omega
    · have := ih (m / 2) (by omega) (by omega)
      omega
theorem pop_add : ∀ a b m, m < 2 ^ b → b < a → pop a (m + 2 ^ b) = pop a m + 1 := by
  intro a
  induction a with
  | zero => intro b m _ h; omega
  | succ a ih =>
    intro b m h1 h2
    cases b with
    | zero =>
      have : m = 0 := by simp at h1; omega
      subst this
      simp [pop, pop_zero]
    | succ b =>
      unfold pop
      rw [Nat.pow_succ] at h1 ⊢
      have e1 : (m + 2 ^ b * 2) % 2 = m % 2 := by omega
      have e2 : (m + 2 ^ b * 2) / 2 = m / 2 + 2 ^ b := by omega
      rw [e1, e2, ih b (m / 2) (by omega) (by omega)]
      omega
theorem or_one {m : Nat} (h : m % 2 = 0) : m ||| 1 = m + 1 := by
  have h1 := Nat.two_pow_add_eq_or_of_lt (i := 1) (b := 1) (by decide) (m / 2)
  rw [show 2 ^ 1 * (m / 2) = m from by omega] at h1
  exact h1.symm
theorem or_top {m b : Nat} (h : m < 2 ^ b) : m ||| 2 ^ b = m + 2 ^ b := by
  have h1 := Nat.two_pow_add_eq_or_of_lt (i := b) (b := m) h 1
  rw [Nat.mul_one] at h1
  rw [Nat.or_comm, ← h1, Nat.add_comm]
theorem pop_half (a m : Nat) (hm : m < 2 ^ (a + 1)) : pop (a + 1) m = m % 2 + pop (a + 1) (m / 2) := by
  induction a generalizing m with
  | zero =>
    simp [pop]
    omega
  | succ a ih =>
    rw [show pop (a + 1 + 1) m = m % 2 + pop (a + 1) (m / 2) from rfl]
    have h2 : m / 2 < 2 ^ (a + 1) := by
      have : 2 ^ (a + 1 + 1) = 2 ^ (a + 1) * 2 := Nat.pow_succ _ _
      omega
    rw [ih (m / 2) h2]
    show _ = m % 2 + (m / 2 % 2 + pop (a + 1) (m / 2 / 2))
    rfl
theorem or_one_lt {W m : Nat} (hW : 0 < W) (h : m < 2 ^ W) : m / 2 ||| 1 < 2 ^ W :=
  Nat.or_lt_two_pow (by omega) (Nat.one_lt_two_pow (by omega))
theorem or_top_lt {W m : Nat} (hW : 0 < W) (h : m < 2 ^ W) : m / 2 ||| 2 ^ (W - 1) < 2 ^ W :=
  Nat.or_lt_two_pow (by omega) (Nat.pow_lt_pow_right (by decide) (by omega))
theorem half_lt {W m : Nat} (hW : 0 < W) (h : m < 2 ^ W) : m / 2 < 2 ^ (W - 1) := by
  obtain ⟨W, rfl⟩ : ∃ w, W = w + 1 := ⟨W - 1, by omega⟩
  rw [Nat.pow_succ] at h
  simp
  omega
theorem stepC_lt {W : Nat} (hW : 0 < W) (S : Nat → Nat → UInt8) (i j : Nat) {m : Nat} (hm : m < 2 ^ W) : ∀ x ∈ stepC W S i j m, x < 2 ^ W := by
  intro x hx
  unfold stepC at hx
  have h2 : m / 2 < 2 ^ W := by omega
  split at hx
  · split at hx
    · simp at hx
    · simp at hx; omega
  · split at hx
    · simp at hx; omega
    · rw [List.mem_append] at hx
      rcases hx with hx | hx
      · split at hx
        · simp only [List.mem_singleton] at hx; rw [hx]; exact or_one_lt hW hm
        · simp at hx
      · simp only [List.mem_singleton] at hx; rw [hx]; exact or_top_lt hW hm
theorem fwd_lt {W : Nat} (hW : 0 < W) (S : Nat → Nat → UInt8) : ∀ k, ∀ x ∈ fwd W S k, x < 2 ^ W := by
  intro k
  induction k with
  | zero => intro x hx; simp [fwd] at hx; rw [hx]; exact Nat.two_pow_pos W
  | succ k ih =>
    intro x hx
    obtain ⟨y, hy, hx⟩ := List.mem_flatMap.1 hx
    exact stepC_lt hW S _ _ (ih y hy) x hx
/-- There are no more ways than two for each domino that is still to be laid. -/
theorem ways_le {W : Nat} (hW : 0 < W) (S : Nat → Nat → UInt8) : ∀ n k m, m < 2 ^ W → (pop W m ≤ n → waysC W S n k m ≤ 2 ^ ((n - pop W m) / 2)) ∧ (n < pop W m → waysC W S n k m = 0) := by
  obtain ⟨a, rfl⟩ : ∃ a, W = a + 1 := ⟨W - 1, by omega⟩
  intro n
  induction n with
  | zero =>
    intro k m hm
    constructor
    · intro _; unfold waysC; split <;> simp
    · intro h
      unfold waysC
      rw [if_neg]
      intro e
      rw [e, pop_zero] at h
      omega
  | succ n ih =>
    intro k m hm
    have hp := pop_half a m hm
    have hh := half_lt (W := a + 1) (by omega) hm
    rw [Nat.add_sub_cancel] at hh
    have h0 : m / 2 < 2 ^ (a + 1) := by omega
    have i0 := ih (k + 1) (m / 2) h0
    unfold waysC
    generalize k / (a + 1) = i'
    generalize k % (a + 1) = j'
    unfold stepC
    by_cases h1 : m % 2 = 1
    · rw [if_pos h1]
      split
      · constructor
        · intro _; simp
        · intro _; rfl
      · simp only [List.map_cons, List.map_nil, List.sum_cons, List.sum_nil, Nat.add_zero]
        constructor
        · intro h
          rw [show n + 1 - pop (a + 1) m = n - pop (a + 1) (m / 2) from by omega]
          exact i0.1 (by omega)
        · intro h; exact i0.2 (by omega)
    · rw [if_neg h1]
      have h1 : m % 2 = 0 := by omega
      split
      · simp only [List.map_cons, List.map_nil, List.sum_cons, List.sum_nil, Nat.add_zero]
        constructor
        · intro h
          by_cases hz : n < pop (a + 1) (m / 2)
          · rw [i0.2 hz]; exact Nat.zero_le _
          · refine Nat.le_trans (i0.1 (by omega)) (Nat.pow_le_pow_right (by decide) (by omega))
        · intro h; exact i0.2 (by omega)
      · rw [List.map_append, List.sum_append]
        have e2 : pop (a + 1) (m / 2 ||| 2 ^ (a + 1 - 1)) = pop (a + 1) (m / 2) + 1 := by
          rw [Nat.add_sub_cancel, or_top hh]
          exact pop_add _ _ _ hh (by omega)
        have i2 := ih (k + 1) (m / 2 ||| 2 ^ (a + 1 - 1)) (or_top_lt (by omega) hm)
        rw [e2] at i2
        have i1 : ∀ c : Prop, [Decidable c] → (c → m / 2 % 2 = 0) → (pop (a + 1) (m / 2) + 1 ≤ n → ((if c then [m / 2 ||| 1] else []).map (waysC (a + 1) S n (k + 1))).sum ≤ 2 ^ ((n - (pop (a + 1) (m / 2) + 1)) / 2)) ∧
            (n < pop (a + 1) (m / 2) + 1 → ((if c then [m / 2 ||| 1] else []).map (waysC (a + 1) S n (k + 1))).sum = 0) := by
          intro c _ hc
          by_cases h : c
          · rw [if_pos h]
            simp only [List.map_cons, List.map_nil, List.sum_cons, List.sum_nil, Nat.add_zero]
            have e1 : pop (a + 1) (m / 2 ||| 1) = pop (a + 1) (m / 2) + 1 := by
              rw [or_one (hc h)]
              show (m / 2 + 1) % 2 + pop a ((m / 2 + 1) / 2) = m / 2 % 2 + pop a (m / 2 / 2) + 1
              have := hc h
              rw [show (m / 2 + 1) / 2 = m / 2 / 2 from by omega]
              omega
            have i1 := ih (k + 1) (m / 2 ||| 1) (or_one_lt (by omega) hm)
            rw [e1] at i1
            exact i1
          · rw [if_neg h]
            exact ⟨fun _ => by simp, fun _ => by simp⟩
        have i1 := i1 (j' + 1 < a + 1 ∧ m / 2 % 2 = 0 ∧ S i' (j' + 1) = 35) (fun h => h.2.1)
        simp only [List.map_cons, List.map_nil, List.sum_cons, List.sum_nil, Nat.add_zero]
        constructor
        · intro h
          by_cases hz : n < pop (a + 1) (m / 2) + 1
          · rw [i2.2 hz, i1.2 hz]; exact Nat.zero_le _
          · have a1 := i1.1 (by omega)
            have a2 := i2.1 (by omega)
            rw [show (n + 1 - pop (a + 1) m) / 2 = (n - (pop (a + 1) (m / 2) + 1)) / 2 + 1 from by omega, Nat.pow_succ]
            omega
        · intro h
          rw [i2.2 (by omega), i1.2 (by omega)]
theorem total_le {W : Nat} (hW : 0 < W) (S : Nat → Nat → UInt8) (n : Nat) (hn : n ≤ 64) : waysC W S n 0 0 ≤ 4294967296 := by
  have h := (ways_le hW S n 0 0 (Nat.two_pow_pos W)).1 (by rw [pop_zero]; omega)
  rw [pop_zero] at h
  have h2 : 2 ^ ((n - 0) / 2) ≤ 2 ^ 32 := Nat.pow_le_pow_right (by decide) (by omega)
  exact Nat.le_trans h h2

/-- May the cell's domino lie? -/
def lieB (W : Nat) (S : Nat → Nat → UInt8) (i j m : Nat) : Bool := decide (j + 1 < W) && (decide (m / 2 % 2 = 0) && decide (S i (j + 1) = 35))
/-- May it stand? -/
def standB (h : Nat) (S : Nat → Nat → UInt8) (i j : Nat) : Bool := decide (i + 1 < h) && decide (S (i + 1) j = 35)
/-- First's search: is there a way on? -/
def wayF (h W : Nat) (S : Nat → Nat → UInt8) : Nat → Nat → Nat → Bool
  | 0, _, m => decide (m = 0)
  | n + 1, k, m =>
    if m % 2 = 1 then wayF h W S n (k + 1) (m / 2)
    else if S (k / W) (k % W) ≠ 35 then wayF h W S n (k + 1) (m / 2)
    else (lieB W S (k / W) (k % W) m && wayF h W S n (k + 1) (m / 2 ||| 1)) || (standB h S (k / W) (k % W) && wayF h W S n (k + 1) (m / 2 ||| 2 ^ (W - 1)))
/-- What lies ahead is open and there. -/
def ValidM (N W : Nat) (S : Nat → Nat → UInt8) (k m : Nat) : Prop := ∀ t, m.testBit t = true → k + t < N ∧ S ((k + t) / W) ((k + t) % W) = 35
theorem bit_half (m t : Nat) : (m / 2).testBit t = m.testBit (t + 1) := by
  rw [Nat.testBit_succ]
theorem ValidM.half {N W : Nat} {S : Nat → Nat → UInt8} {k m : Nat} (h : ValidM N W S k m) : ValidM N W S (k + 1) (m / 2) := by
  intro t ht
  rw [bit_half] at ht
  have := h (t + 1) ht
  rw [show k + (t + 1) = k + 1 + t from by omega] at this
  exact this
theorem ValidM.orBit {N W : Nat} {S : Nat → Nat → UInt8} {k m b : Nat} (h : ValidM N W S k m) (hb : k + b < N ∧ S ((k + b) / W) ((k + b) % W) = 35) : ValidM N W S k (m ||| 2 ^ b) := by
  intro t ht
  rw [Nat.testBit_or, Bool.or_eq_true, Nat.testBit_two_pow] at ht
  rcases ht with ht | ht
  · exact h t ht
  · rw [decide_eq_true_eq] at ht
    rw [← ht]
    exact hb
/-- A state that is not open ahead leads nowhere. -/
theorem ways_zero {W : Nat} {S : Nat → Nat → UInt8} (N : Nat) (hS : ∀ c, c < N → S (c / W) (c % W) = 35 ∨ S (c / W) (c % W) = 46) :
    ∀ n k m, k + n = N → (∃ t, m.testBit t = true ∧ (k + t < N → S ((k + t) / W) ((k + t) % W) ≠ 35)) → waysC W S n k m = 0 := by
  intro n
  induction n with
  | zero =>
    intro k m hk ⟨t, ht, _⟩
    unfold waysC
    rw [if_neg]
    intro e
    rw [e, Nat.zero_testBit] at ht
    cases ht
  | succ n ih =>
    intro k m hk ⟨t, ht, hno⟩
    have hsum : ∀ l : List Nat, (∀ x ∈ l, waysC W S n (k + 1) x = 0) → (l.map (waysC W S n (k + 1))).sum = 0 := by
      intro l hl
      induction l with
      | nil => rfl
      | cons a l ih2 =>
        rw [List.map_cons, List.sum_cons, hl a List.mem_cons_self, ih2 (fun x hx => hl x (List.mem_cons_of_mem _ hx))]
    unfold waysC
    apply hsum
    intro x hx
    have hbig : ∀ y, t ≠ 0 → (m / 2 ||| y).testBit (t - 1) = true := fun y h0 => by
      obtain ⟨t, rfl⟩ : ∃ t', t = t' + 1 := ⟨t - 1, by omega⟩
      rw [Nat.testBit_or, Nat.add_sub_cancel, bit_half, ht]
      rfl
    have hgo : ∀ y, t ≠ 0 → waysC W S n (k + 1) (m / 2 ||| y) = 0 := fun y h0 => by
      refine ih (k + 1) _ (by omega) ⟨t - 1, hbig y h0, ?_⟩
      rw [show k + 1 + (t - 1) = k + t from by omega]
      exact hno
    have hgo0 : t ≠ 0 → waysC W S n (k + 1) (m / 2) = 0 := fun h0 => by
      have := hgo 0 h0
      rw [Nat.or_zero] at this
      exact this
    unfold stepC at hx
    by_cases h0 : t = 0
    · subst h0
      have hodd : m % 2 = 1 := by
        rw [Nat.testBit_zero, decide_eq_true_eq] at ht
        exact ht
      have h46 : S (k / W) (k % W) = 46 := by
        have h1 := hno (by omega)
        rw [Nat.add_zero] at h1
        exact (hS k (by omega)).resolve_left h1
      rw [if_pos hodd, if_pos h46] at hx
      cases hx
    · split at hx
      · split at hx
        · cases hx
        · simp only [List.mem_singleton] at hx; rw [hx]; exact hgo0 h0
      · split at hx
        · simp only [List.mem_singleton] at hx; rw [hx]; exact hgo0 h0
        · rw [List.mem_append] at hx
          rcases hx with hx | hx
          · split at hx
            · simp only [List.mem_singleton] at hx; rw [hx]; exact hgo _ h0
            · cases hx
          · simp only [List.mem_singleton] at hx; rw [hx]; exact hgo _ h0
theorem cell_next {W k : Nat} (hj : k % W + 1 < W) : (k + 1) / W = k / W ∧ (k + 1) % W = k % W + 1 := by
  have h := divmod W (k / W) (k % W + 1) hj
  have hk : k / W * W + k % W = k := by rw [Nat.mul_comm]; exact Nat.div_add_mod k W
  rw [show k / W * W + (k % W + 1) = k + 1 from by omega] at h
  exact h
theorem cell_below {W k : Nat} (hW : 0 < W) : (k + W) / W = k / W + 1 ∧ (k + W) % W = k % W := by
  rw [Nat.add_div_right k hW, Nat.add_mod_right]
  exact ⟨rfl, rfl⟩
theorem code_next {h W k : Nat} (hk : k < h * W) (hj : k % W + 1 < W) : k + 1 < h * W := by
  have hd : k / W * W + k % W = k := by rw [Nat.mul_comm]; exact Nat.div_add_mod k W
  have hi : k / W < h := Nat.div_lt_of_lt_mul (by rw [Nat.mul_comm]; exact hk)
  have h1 : (k / W + 1) * W ≤ h * W := Nat.mul_le_mul_right W hi
  have h2 : (k / W + 1) * W = k / W * W + W := Nat.succ_mul _ _
  omega
theorem code_below {h W k : Nat} (hW : 0 < W) (hi : k / W + 1 < h) : k + W < h * W := by
  have hd : k / W * W + k % W = k := by rw [Nat.mul_comm]; exact Nat.div_add_mod k W
  have h1 : (k / W + 1 + 1) * W ≤ h * W := Nat.mul_le_mul_right W hi
  have h2 : (k / W + 1 + 1) * W = (k / W + 1) * W + W := Nat.succ_mul _ _
  have h3 : (k / W + 1) * W = k / W * W + W := Nat.succ_mul _ _
  have h4 := Nat.mod_lt k hW
  omega
theorem code_row {h W k : Nat} (hk : k < h * W) : k / W < h := Nat.div_lt_of_lt_mul (by rw [Nat.mul_comm]; exact hk)
/-- The children that First tries, valid. -/
theorem valid_lie {h W : Nat} {S : Nat → Nat → UInt8} {k m : Nat} (hk : k < h * W) (hv : ValidM (h * W) W S k m) (hl : lieB W S (k / W) (k % W) m = true) : ValidM (h * W) W S (k + 1) (m / 2 ||| 1) := by
  simp only [lieB, Bool.and_eq_true, decide_eq_true_eq] at hl
  obtain ⟨l1, l2, l3⟩ := hl
  have e := cell_next l1
  exact hv.half.orBit (b := 0) ⟨by rw [Nat.add_zero]; exact code_next hk l1, by rw [Nat.add_zero, e.1, e.2]; exact l3⟩
theorem valid_stand {h W : Nat} (hW : 0 < W) {S : Nat → Nat → UInt8} {k m : Nat} (hv : ValidM (h * W) W S k m) (hl : standB h S (k / W) (k % W) = true) : ValidM (h * W) W S (k + 1) (m / 2 ||| 2 ^ (W - 1)) := by
  simp only [standB, Bool.and_eq_true, decide_eq_true_eq] at hl
  obtain ⟨l1, l2⟩ := hl
  have e := cell_below (k := k) hW
  have e2 : k + 1 + (W - 1) = k + W := by omega
  exact hv.half.orBit (b := W - 1) ⟨by rw [e2]; exact code_below hW l1, by rw [e2, e.1, e.2]; exact l2⟩
/-- First's search finds a way just if there are some. -/
theorem way_iff {h W : Nat} (hW : 0 < W) {S : Nat → Nat → UInt8} (hS : ∀ c, c < h * W → S (c / W) (c % W) = 35 ∨ S (c / W) (c % W) = 46) :
    ∀ n k m, k + n = h * W → m < 2 ^ W → ValidM (h * W) W S k m → (wayF h W S n k m = true ↔ 0 < waysC W S n k m) := by
  intro n
  induction n with
  | zero =>
    intro k m hk _ _
    unfold wayF waysC
    by_cases e : m = 0 <;> simp [e]
  | succ n ih =>
    intro k m hk hm hv
    have hkN : k < h * W := by omega
    have h2 : m / 2 < 2 ^ W := by omega
    have i0 := ih (k + 1) (m / 2) (by omega) h2 hv.half
    unfold wayF waysC stepC
    by_cases h1 : m % 2 = 1
    · have h35 : S (k / W) (k % W) = 35 := by
        have := hv 0 (by rw [Nat.testBit_zero, decide_eq_true_eq]; exact h1)
        rw [Nat.add_zero] at this
        exact this.2
      rw [if_pos h1, if_pos h1, if_neg (by rw [h35]; decide), i0]
      simp
    · rw [if_neg h1, if_neg h1]
      rcases hS k hkN with h35 | h46
      · rw [if_neg (by rw [h35]; decide), if_neg (by rw [h35]; decide)]
        rw [List.map_append, List.sum_append]
        have hl : ((if k % W + 1 < W ∧ m / 2 % 2 = 0 ∧ S (k / W) (k % W + 1) = 35 then [m / 2 ||| 1] else []).map (waysC W S n (k + 1))).sum = if lieB W S (k / W) (k % W) m = true then waysC W S n (k + 1) (m / 2 ||| 1) else 0 := by
          by_cases hc : k % W + 1 < W ∧ m / 2 % 2 = 0 ∧ S (k / W) (k % W + 1) = 35
          · rw [if_pos hc, if_pos (by simp [lieB, hc])]; simp
          · rw [if_neg hc, if_neg]
            · rfl
            · intro e
              simp only [lieB, Bool.and_eq_true, decide_eq_true_eq] at e
              exact hc e
        rw [hl]
        have hs : (([m / 2 ||| 2 ^ (W - 1)]).map (waysC W S n (k + 1))).sum = if standB h S (k / W) (k % W) = true then waysC W S n (k + 1) (m / 2 ||| 2 ^ (W - 1)) else 0 := by
          by_cases hc : standB h S (k / W) (k % W) = true
          · rw [if_pos hc]; simp
          · rw [if_neg hc]
            simp only [List.map_cons, List.map_nil, List.sum_cons, List.sum_nil, Nat.add_zero]
            refine ways_zero (h * W) hS n (k + 1) _ (by omega) ⟨W - 1, ?_, fun hlt e => hc ?_⟩
            · rw [Nat.testBit_or, Nat.testBit_two_pow_self, Bool.or_true]
            · have e2 : k + 1 + (W - 1) = k + W := by omega
              rw [e2] at hlt e
              rw [(cell_below hW).1, (cell_below hW).2] at e
              have hr := code_row hlt
              rw [(cell_below hW).1] at hr
              simp [standB, hr, e]
        rw [hs, Bool.or_eq_true, Bool.and_eq_true, Bool.and_eq_true]
        have il := fun hc => ih (k + 1) (m / 2 ||| 1) (by omega) (or_one_lt hW hm) (valid_lie hkN hv hc)
        have is := fun hc => ih (k + 1) (m / 2 ||| 2 ^ (W - 1)) (by omega) (or_top_lt hW hm) (valid_stand hW hv hc)
        by_cases c1 : lieB W S (k / W) (k % W) m = true
        · rw [if_pos c1, il c1]
          by_cases c2 : standB h S (k / W) (k % W) = true
          · rw [if_pos c2, is c2]; simp [c1, c2]; omega
          · rw [if_neg c2]; simp [c1, c2]
        · rw [if_neg c1]
          by_cases c2 : standB h S (k / W) (k % W) = true
          · rw [if_pos c2, is c2]; simp [c1, c2]
          · rw [if_neg c2]; simp [c1, c2]
      · rw [if_pos (by rw [h46]; decide), if_pos h46, i0]
        simp
/-- The tiling that First finds. -/
def fillF (h W : Nat) (S : Nat → Nat → UInt8) : Nat → Nat → Nat → (Nat → Nat → UInt8) → Nat → Nat → UInt8
  | 0, _, _, G => G
  | n + 1, k, m, G =>
    if m % 2 = 1 then fillF h W S n (k + 1) (m / 2) G
    else if S (k / W) (k % W) ≠ 35 then fillF h W S n (k + 1) (m / 2) G
    else if lieB W S (k / W) (k % W) m && wayF h W S n (k + 1) (m / 2 ||| 1) then fillF h W S n (k + 1) (m / 2 ||| 1) (set2 G (k / W) (k % W) 108 (k / W) (k % W + 1) 114)
    else fillF h W S n (k + 1) (m / 2 ||| 2 ^ (W - 1)) (set2 G (k / W) (k % W) 117 (k / W + 1) (k % W) 100)
/-- What holds of the grid on the way. -/
structure InvF (h W : Nat) (S : Nat → Nat → UInt8) (k m : Nat) (G : Nat → Nat → UInt8) : Prop where
  lt : m < 2 ^ W
  valid : ValidM (h * W) W S k m
  ahead : ∀ t, k + t < h * W → (m.testBit t = true → G ((k + t) / W) ((k + t) % W) = 114 ∨ G ((k + t) / W) ((k + t) % W) = 100) ∧ (m.testBit t = false → G ((k + t) / W) ((k + t) % W) = S ((k + t) / W) ((k + t) % W))
theorem InvF.odd {h W : Nat} {S : Nat → Nat → UInt8} {k m : Nat} {G : Nat → Nat → UInt8} (I : InvF h W S k m G) : InvF h W S (k + 1) (m / 2) G := by
  refine ⟨by have := I.lt; omega, I.valid.half, fun t ht => ?_⟩
  have := I.ahead (t + 1) (by omega)
  rw [show k + (t + 1) = k + 1 + t from by omega] at this
  rw [bit_half]
  exact this
theorem InvF.here {h W : Nat} {S : Nat → Nat → UInt8} {k m : Nat} {G : Nat → Nat → UInt8} (I : InvF h W S k m G) (hk : k < h * W) : (m % 2 = 1 → (G (k / W) (k % W) = 114 ∨ G (k / W) (k % W) = 100) ∧ S (k / W) (k % W) = 35) ∧ (m % 2 = 0 → G (k / W) (k % W) = S (k / W) (k % W)) := by
  have := I.ahead 0 (by omega)
  rw [Nat.add_zero, Nat.testBit_zero] at this
  refine ⟨fun e => ⟨this.1 (by simp [e]), ?_⟩, fun e => this.2 (by simp [e])⟩
  have hv := I.valid 0 (by rw [Nat.testBit_zero]; simp [e])
  rw [Nat.add_zero] at hv
  exact hv.2
theorem code_inj {W a b : Nat} (h1 : a / W = b / W) (h2 : a % W = b % W) : a = b := by
  have ha : a / W * W + a % W = a := by rw [Nat.mul_comm]; exact Nat.div_add_mod a W
  have hb : b / W * W + b % W = b := by rw [Nat.mul_comm]; exact Nat.div_add_mod b W
  rw [← ha, ← hb, h1, h2]
theorem set2_code {W : Nat} (G : Nat → Nat → UInt8) (a b : Nat) (u v : UInt8) (c : Nat) : set2 G (a / W) (a % W) u (b / W) (b % W) v (c / W) (c % W) = if c = b then v else if c = a then u else G (c / W) (c % W) := by
  unfold set2
  by_cases h1 : c = b
  · rw [h1, if_pos ⟨rfl, rfl⟩, if_pos rfl]
  · rw [if_neg (fun e => h1 (code_inj e.1 e.2)), if_neg h1]
    by_cases h2 : c = a
    · rw [h2, if_pos ⟨rfl, rfl⟩, if_pos rfl]
    · rw [if_neg (fun e => h2 (code_inj e.1 e.2)), if_neg h2]
theorem InvF.two {h W : Nat} {S : Nat → Nat → UInt8} {k m b : Nat} {G : Nat → Nat → UInt8} (I : InvF h W S k m G) (hlt : m / 2 ||| 2 ^ b < 2 ^ W) (hv : ValidM (h * W) W S (k + 1) (m / 2 ||| 2 ^ b)) (u v : UInt8) (hvv : v = 114 ∨ v = 100) :
    InvF h W S (k + 1) (m / 2 ||| 2 ^ b) (set2 G (k / W) (k % W) u ((k + 1 + b) / W) ((k + 1 + b) % W) v) := by
  refine ⟨hlt, hv, fun t ht => ?_⟩
  have h1 := I.ahead (t + 1) (by omega)
  rw [show k + (t + 1) = k + 1 + t from by omega] at h1
  rw [set2_code, Nat.testBit_or, bit_half, Nat.testBit_two_pow]
  by_cases hb : b = t
  · subst hb
    rw [if_pos rfl]
    exact ⟨fun _ => hvv, fun e => by simp at e⟩
  · rw [if_neg (by omega), if_neg (by omega)]
    rw [decide_eq_false hb, Bool.or_false]
    exact h1
theorem InvF.lie {h W : Nat} {S : Nat → Nat → UInt8} {k m : Nat} {G : Nat → Nat → UInt8} (I : InvF h W S k m G) (hk : k < h * W) (hl : lieB W S (k / W) (k % W) m = true) :
    InvF h W S (k + 1) (m / 2 ||| 1) (set2 G (k / W) (k % W) 108 (k / W) (k % W + 1) 114) ∧ G (k / W) (k % W + 1) = 35 := by
  have hl2 := hl
  simp only [lieB, Bool.and_eq_true, decide_eq_true_eq] at hl2
  obtain ⟨l1, l2, l3⟩ := hl2
  have e := cell_next l1
  have := I.two (b := 0) (or_one_lt (by omega) I.lt) (valid_lie hk I.valid hl) 108 114 (.inl rfl)
  rw [Nat.add_zero, e.1, e.2] at this
  refine ⟨this, ?_⟩
  have h1 := (I.ahead 1 (code_next hk l1)).2 (by
    have := bit_half m 0
    rw [Nat.testBit_zero] at this
    rw [← this]
    simp [l2])
  rw [e.1, e.2, l3] at h1
  exact h1
theorem InvF.stand {h W : Nat} {S : Nat → Nat → UInt8} {k m : Nat} {G : Nat → Nat → UInt8} (I : InvF h W S k m G) (hW : 0 < W) (hl : standB h S (k / W) (k % W) = true) :
    InvF h W S (k + 1) (m / 2 ||| 2 ^ (W - 1)) (set2 G (k / W) (k % W) 117 (k / W + 1) (k % W) 100) ∧ G (k / W + 1) (k % W) = 35 := by
  have hl2 := hl
  simp only [standB, Bool.and_eq_true, decide_eq_true_eq] at hl2
  obtain ⟨l1, l2⟩ := hl2
  have e := cell_below (k := k) hW
  have := I.two (b := W - 1) (or_top_lt hW I.lt) (valid_stand hW I.valid hl) 117 100 (.inr rfl)
  rw [show k + 1 + (W - 1) = k + W from by omega, e.1, e.2] at this
  refine ⟨this, ?_⟩
  have h1 := (I.ahead W (code_below hW l1)).2 (Nat.testBit_lt_two_pow I.lt)
  rw [e.1, e.2, l2] at h1
  exact h1

/-- A board, its tiling not yet whole. -/
structure PartG (h W : Nat) (S : Nat → Nat → UInt8) (k : Nat) (G : Nat → Nat → UInt8) : Prop where
  let_ : ∀ i j, i < h → j < W → G i j = 35 ∨ G i j ∈ lrud
  cov : ∀ i j, i < h → j < W → covB (G i j) = S i j
  ok : ∀ i j, i < h → j < W → okAt h W G i j
  done : ∀ c, c < k → G (c / W) (c % W) ≠ 35
theorem PartG.start {h W : Nat} {S : Nat → Nat → UInt8} (hS : ∀ i j, i < h → j < W → S i j = 35 ∨ S i j = 46) : PartG h W S 0 S := by
  refine ⟨fun i j hi hj => ?_, fun i j hi hj => ?_, fun i j hi hj => ?_, fun c hc => by omega⟩
  · rcases hS i j hi hj with e | e
    · exact .inl e
    · rw [e]; exact .inr (by decide)
  · rcases hS i j hi hj with e | e <;> rw [e] <;> decide
  · unfold okAt
    rcases hS i j hi hj with e | e <;> rw [e] <;> exact ⟨fun e => absurd e (by decide), fun e => absurd e (by decide), fun e => absurd e (by decide), fun e => absurd e (by decide)⟩
theorem PartG.next {h W : Nat} {S : Nat → Nat → UInt8} {k : Nat} {G : Nat → Nat → UInt8} (P : PartG h W S k G) (hk : G (k / W) (k % W) ≠ 35) : PartG h W S (k + 1) G :=
  ⟨P.let_, P.cov, P.ok, fun c hc => by
    by_cases e : c = k
    · rw [e]; exact hk
    · exact P.done c (by omega)⟩
/-- A domino on two open cells. -/
theorem PartG.two {h W : Nat} {S : Nat → Nat → UInt8} {k : Nat} {G : Nat → Nat → UInt8} (P : PartG h W S k G) {i j i2 j2 : Nat} {u v : UInt8} (hi : i < h) (hj : j < W) (hi2 : i2 < h) (hj2 : j2 < W) (ho : G i j = 35) (ho2 : G i2 j2 = 35)
    (hk : i = k / W ∧ j = k % W) (hd : (u = 108 ∧ v = 114 ∧ i2 = i ∧ j2 = j + 1) ∨ (u = 117 ∧ v = 100 ∧ i2 = i + 1 ∧ j2 = j)) : PartG h W S (k + 1) (set2 G i j u i2 j2 v) := by
  have hne : ¬ (i = i2 ∧ j = j2) := by omega
  have s1 : set2 G i j u i2 j2 v i j = u := by unfold set2; rw [if_neg hne, if_pos ⟨rfl, rfl⟩]
  have s2 : set2 G i j u i2 j2 v i2 j2 = v := by unfold set2; rw [if_pos ⟨rfl, rfl⟩]
  have t1 : ∀ x y, x = i → y = j → set2 G i j u i2 j2 v x y = u := fun x y h1 h2 => by rw [h1, h2]; exact s1
  have t2 : ∀ x y, x = i2 → y = j2 → set2 G i j u i2 j2 v x y = v := fun x y h1 h2 => by rw [h1, h2]; exact s2
  have s3 : ∀ a b, ¬ (a = i ∧ b = j) → ¬ (a = i2 ∧ b = j2) → set2 G i j u i2 j2 v a b = G a b := fun a b h1 h2 => by unfold set2; rw [if_neg h2, if_neg h1]
  have hu : u ∈ lrud ∧ covB u = 35 ∧ u ≠ 35 := by rcases hd with ⟨rfl, _⟩ | ⟨rfl, _⟩ <;> decide
  have hv : v ∈ lrud ∧ covB v = 35 ∧ v ≠ 35 := by rcases hd with ⟨_, rfl, _⟩ | ⟨_, rfl, _⟩ <;> decide
  refine ⟨fun a b ha hb => ?_, fun a b ha hb => ?_, fun a b ha hb => ?_, fun c hc => ?_⟩
  · by_cases h1 : a = i2 ∧ b = j2
    · rw [h1.1, h1.2, s2]; exact .inr hv.1
    · by_cases h2 : a = i ∧ b = j
      · rw [h2.1, h2.2, s1]; exact .inr hu.1
      · rw [s3 a b h2 h1]; exact P.let_ a b ha hb
  · by_cases h1 : a = i2 ∧ b = j2
    · have := P.cov i2 j2 hi2 hj2
      rw [ho2] at this
      rw [h1.1, h1.2, s2, hv.2.1, ← this]; decide
    · by_cases h2 : a = i ∧ b = j
      · have := P.cov i j hi hj
        rw [ho] at this
        rw [h2.1, h2.2, s1, hu.2.1, ← this]; decide
      · rw [s3 a b h2 h1]; exact P.cov a b ha hb
  · have keep : ∀ a b (c : UInt8), c ≠ 35 → G a b = c → set2 G i j u i2 j2 v a b = c := fun a b c hc e => by
      rw [s3 a b (fun x => hc (by rw [← e, x.1, x.2, ho])) (fun x => hc (by rw [← e, x.1, x.2, ho2]))]
      exact e
    by_cases h1 : a = i2 ∧ b = j2
    · obtain ⟨rfl, rfl⟩ := h1
      rcases hd with ⟨rfl, rfl, e1, e2⟩ | ⟨rfl, rfl, e1, e2⟩
      · unfold okAt
        rw [s2]
        refine ⟨fun e => absurd e (by decide), fun _ => ⟨by omega, ?_⟩, fun e => absurd e (by decide), fun e => absurd e (by decide)⟩
        exact t1 _ _ e1 (by omega)
      · unfold okAt
        rw [s2]
        refine ⟨fun e => absurd e (by decide), fun e => absurd e (by decide), fun e => absurd e (by decide), fun _ => ⟨by omega, ?_⟩⟩
        exact t1 _ _ (by omega) e2
    · by_cases h2 : a = i ∧ b = j
      · obtain ⟨rfl, rfl⟩ := h2
        rcases hd with ⟨rfl, rfl, e1, e2⟩ | ⟨rfl, rfl, e1, e2⟩
        · unfold okAt
          rw [s1]
          refine ⟨fun _ => ⟨by omega, ?_⟩, fun e => absurd e (by decide), fun e => absurd e (by decide), fun e => absurd e (by decide)⟩
          exact t2 _ _ e1.symm e2.symm
        · unfold okAt
          rw [s1]
          refine ⟨fun e => absurd e (by decide), fun e => absurd e (by decide), fun _ => ⟨by omega, ?_⟩, fun e => absurd e (by decide)⟩
          exact t2 _ _ e1.symm e2.symm
      · have hp := P.ok a b ha hb
        unfold okAt
        rw [s3 a b h2 h1]
        exact ⟨fun e => ⟨(hp.1 e).1, keep _ _ _ (by decide) (hp.1 e).2⟩, fun e => ⟨(hp.2.1 e).1, keep _ _ _ (by decide) (hp.2.1 e).2⟩, fun e => ⟨(hp.2.2.1 e).1, keep _ _ _ (by decide) (hp.2.2.1 e).2⟩, fun e => ⟨(hp.2.2.2 e).1, keep _ _ _ (by decide) (hp.2.2.2 e).2⟩⟩
  · by_cases e : c = k
    · rw [e, ← hk.1, ← hk.2, s1]; exact hu.2.2
    · by_cases h1 : c / W = i2 ∧ c % W = j2
      · rw [h1.1, h1.2, s2]; exact hv.2.2
      · rw [s3 _ _ (fun x => e (code_inj (x.1.trans hk.1) (x.2.trans hk.2))) h1]
        exact P.done c (by omega)
/-- What First finds is a tiling. -/
theorem fill_tile {h W : Nat} (hW : 0 < W) {S : Nat → Nat → UInt8} :
    ∀ n k m G, k + n = h * W → InvF h W S k m G → PartG h W S k G → wayF h W S n k m = true → PartG h W S (h * W) (fillF h W S n k m G) := by
  intro n
  induction n with
  | zero =>
    intro k m G hk _ P _
    rw [Nat.add_zero] at hk
    rw [← hk]
    exact P
  | succ n ih =>
    intro k m G hk I P hw
    have hkN : k < h * W := by omega
    have hh := I.here hkN
    have hij : k / W < h ∧ k % W < W := ⟨code_row hkN, Nat.mod_lt _ hW⟩
    unfold fillF
    unfold wayF at hw
    by_cases h1 : m % 2 = 1
    · rw [if_pos h1] at hw ⊢
      refine ih _ _ _ (by omega) I.odd (P.next ?_) hw
      rcases (hh.1 h1).1 with e | e <;> rw [e] <;> decide
    · rw [if_neg h1] at hw ⊢
      have hG := hh.2 (by omega)
      by_cases h2 : S (k / W) (k % W) ≠ 35
      · rw [if_pos h2] at hw ⊢
        exact ih _ _ _ (by omega) I.odd (P.next (by rw [hG]; exact h2)) hw
      · rw [if_neg h2] at hw ⊢
        have h35 : S (k / W) (k % W) = 35 := Classical.not_not.1 h2
        rw [h35] at hG
        by_cases h3 : (lieB W S (k / W) (k % W) m && wayF h W S n (k + 1) (m / 2 ||| 1)) = true
        · rw [if_pos h3]
          rw [Bool.and_eq_true] at h3
          have hl := I.lie hkN h3.1
          have hl2 := h3.1
          simp only [lieB, Bool.and_eq_true, decide_eq_true_eq] at hl2
          exact ih _ _ _ (by omega) hl.1 (P.two hij.1 hij.2 hij.1 hl2.1 hG hl.2 ⟨rfl, rfl⟩ (.inl ⟨rfl, rfl, rfl, rfl⟩)) h3.2
        · rw [if_neg h3]
          have h4 : (standB h S (k / W) (k % W) && wayF h W S n (k + 1) (m / 2 ||| 2 ^ (W - 1))) = true := by
            rw [Bool.or_eq_true] at hw
            exact hw.resolve_left h3
          rw [Bool.and_eq_true] at h4
          have hl := I.stand hW h4.1
          have hl2 := h4.1
          simp only [standB, Bool.and_eq_true, decide_eq_true_eq] at hl2
          exact ih _ _ _ (by omega) hl.1 (P.two hij.1 hij.2 hl2.1 hij.2 hG hl.2 ⟨rfl, rfl⟩ (.inr ⟨rfl, rfl, rfl, rfl⟩)) h4.2
theorem InvF.start {h W : Nat} {S : Nat → Nat → UInt8} : InvF h W S 0 0 S :=
  ⟨Nat.two_pow_pos W, fun t ht => (by rw [Nat.zero_testBit] at ht; cases ht), fun t _ => ⟨fun ht => (by rw [Nat.zero_testBit] at ht; cases ht), fun _ => by rw [Nat.zero_add]⟩⟩
/-- The whole board. -/
theorem fill_all {h W : Nat} (hW : 0 < W) {S : Nat → Nat → UInt8} (hS : ∀ i j, i < h → j < W → S i j = 35 ∨ S i j = 46) :
    (wayF h W S (h * W) 0 0 = true ↔ 0 < waysC W S (h * W) 0 0) ∧
    (wayF h W S (h * W) 0 0 = true → ∀ i j, i < h → j < W → okAt h W (fillF h W S (h * W) 0 0 S) i j ∧ fillF h W S (h * W) 0 0 S i j ∈ lrud ∧ covB (fillF h W S (h * W) 0 0 S i j) = S i j) := by
  have hS2 : ∀ c, c < h * W → S (c / W) (c % W) = 35 ∨ S (c / W) (c % W) = 46 := fun c hc => hS _ _ (code_row hc) (Nat.mod_lt _ hW)
  refine ⟨way_iff hW hS2 _ 0 0 (by omega) (Nat.two_pow_pos W) InvF.start.valid, fun hw i j hi hj => ?_⟩
  have P := fill_tile hW (h * W) 0 0 S (by omega) InvF.start (PartG.start hS) hw
  have hc : i * W + j < h * W := by
    have h1 : (i + 1) * W ≤ h * W := Nat.mul_le_mul_right W hi
    have h2 : (i + 1) * W = i * W + W := Nat.succ_mul _ _
    omega
  have hd := P.done _ hc
  rw [(divmod W i j hj).1, (divmod W i j hj).2] at hd
  exact ⟨P.ok i j hi hj, (P.let_ i j hi hj).resolve_left hd, P.cov i j hi hj⟩
end Go.Proofs.YtahihapgbcoanaaDoor
