/- Plain: the tilings of the small diamonds, all of them, and what a shuffle leaves open in them. -/
import Derived.Test.YtahihapgbcoanaaDoorShuffleW
namespace Go.Proofs.YtahihapgbcoanaaDoor

/-- Is the cell one of the diamond's? -/
def maskB (n i j : Nat) : Bool := Nat.blt i (2 * n) && (Nat.ble n (j + azHalf n i) && Nat.blt j (n + azHalf n i))
/-- The letters that fit behind the left one, the upper one and the one left of that. -/
def cands (n : Nat) (blk : Bool) (i j l u ul : Nat) : List Nat :=
  if Nat.beq l 108 then (if Nat.beq u 117 || (blk && Nat.beq ul 108) then [] else [114])
  else if Nat.beq u 117 then (if blk && Nat.beq l 100 then [] else [100])
  else if maskB n i j then (if maskB n i (j + 1) then [108] else []) ++ (if maskB n (i + 1) j then [117] else [])
  else [46]
def candsAt (n : Nat) (blk : Bool) (k : Nat) (p : List Nat) : List Nat :=
  cands n blk (k / (2 * n)) (k % (2 * n)) (if Nat.beq (k % (2 * n)) 0 then 0 else p.getD 0 0) (p.getD (2 * n - 1) 0) (if Nat.beq (k % (2 * n)) 0 then 0 else p.getD (2 * n) 0)
/-- The first letters of the tilings, the last one ahead. -/
def enumB (n : Nat) (blk : Bool) : Nat → List (List Nat)
  | 0 => [[]]
  | k + 1 => (enumB n blk k).flatMap (fun p => (candsAt n blk k p).map (fun c => c :: p))
theorem enum_none4 : enumB 4 true (2 * 4 * (2 * 4)) = [] := by decide +kernel
theorem enum_none3 : enumB 3 true (2 * 3 * (2 * 3)) = [] := by decide +kernel
theorem enum_none2 : enumB 2 true (2 * 2 * (2 * 2)) = [] := by decide +kernel
theorem enum_none1 : enumB 1 true (2 * 1 * (2 * 1)) = [] := by decide +kernel

def gl (W : Nat) (p : List Nat) (i j : Nat) : UInt8 := UInt8.ofNat (p.getD (W * W - 1 - (i * W + j)) 0)
/-- The open cells' numbers. -/
def opens (H : Nat) (O : Nat → Nat → UInt8) : List Nat := (List.range (H * H)).filter (fun c => O (c / H) (c % H) == 35)
def peelF (H : Nat) : Nat → List Nat → Option (List Nat)
  | _, [] => some []
  | 0, _ :: _ => none
  | f + 1, c :: r => if Nat.blt (c % H + 1) H && (r.elem (c + 1) && (r.elem (c + H) && r.elem (c + H + 1))) then
      (peelF H f (r.filter (fun d => !(Nat.beq d (c + 1) || Nat.beq d (c + H) || Nat.beq d (c + H + 1))))).map (fun l => c :: l) else none
def okB (h W : Nat) (G : Nat → Nat → UInt8) (i j : Nat) : Bool :=
  (!(G i j == 108) || (decide (j + 1 < W) && G i (j + 1) == 114)) && ((!(G i j == 114) || (decide (0 < j) && G i (j - 1) == 108)) &&
  ((!(G i j == 117) || (decide (i + 1 < h) && G (i + 1) j == 100)) && (!(G i j == 100) || (decide (0 < i) && G (i - 1) j == 117))))
def checkO (n : Nat) (O : Nat → Nat → UInt8) : Bool :=
  let H := 2 * (n + 1)
  (match peelF H (H * H) (opens H O) with
    | none => false
    | some ps => Nat.ble (n + 1) ps.length && (Nat.ble ps.length 64 && Nat.beq (cntTo H O H) (4 * ps.length))) &&
  (List.range (H * H)).all (fun c => okB H H O (c / H) (c % H) && (covB (O (c / H) (c % H)) == azG (n + 1) (c / H) (c % H) && (35 :: lrud).elem (O (c / H) (c % H))))
def checkP (n : Nat) (p : List Nat) : Bool := checkO n (shG n (gl (2 * n) p))
theorem enum_check1 : (enumB 1 false (2 * 1 * (2 * 1))).all (checkP 1) = true := by decide +kernel
theorem enum_check2 : (enumB 2 false (2 * 2 * (2 * 2))).all (checkP 2) = true := by decide +kernel
theorem enum_check3 : (enumB 3 false (2 * 3 * (2 * 3))).all (checkP 3) = true := by decide +kernel

/-- A tiling of the diamond, by places. -/
structure TileG (n : Nat) (G : Nat → Nat → UInt8) : Prop where
  let_ : ∀ i j, i < 2 * n → j < 2 * n → G i j ∈ lrud
  cov : ∀ i j, i < 2 * n → j < 2 * n → covB (G i j) = azG n i j
  ok : ∀ i j, i < 2 * n → j < 2 * n → okAt (2 * n) (2 * n) G i j
theorem az_mask : ∀ n, n < 5 → ∀ i, i < 2 * n → ∀ j, j < 2 * n → azG n i j = if maskB n i j then 35 else 46 := by decide +kernel
theorem mask_of {n i j : Nat} {G : Nat → Nat → UInt8} (T : TileG n G) (hn : n ≤ 4) (hi : i < 2 * n) (hj : j < 2 * n) (h : covB (G i j) = 35) : maskB n i j = true := by
  have h1 := az_mask n (by omega) i hi j hj
  rw [← T.cov i j hi hj, h] at h1
  cases hm : maskB n i j
  · rw [hm] at h1; exact absurd h1 (by decide)
  · rfl
theorem natbeq (a b : Nat) : Nat.beq a b = true ↔ a = b := ⟨Nat.eq_of_beq_eq_true, fun h => by rw [h]; exact Nat.beq_refl b⟩
theorem at0 (c : Prop) [Decidable c] (a : UInt8) (x : Nat) (hx : x ≠ 0) (b : UInt8) (hb : x = b.toNat) : Nat.beq (if c then 0 else a.toNat) x = decide (¬ c ∧ a = b) := by
  subst hb
  by_cases h : c
  · rw [if_pos h, Bool.eq_iff_iff, natbeq, decide_eq_true_iff]
    simp [h]
    exact fun e => hx e.symm
  · rw [if_neg h, Bool.eq_iff_iff, natbeq, decide_eq_true_iff]
    simp only [h, not_false_iff, true_and]
    exact UInt8.toNat_inj
theorem cands_mem {n : Nat} (hn : n ≤ 4) {G : Nat → Nat → UInt8} (T : TileG n G) (blk : Bool) (hb : blk = true → ∀ x y, turnAt (2 * n) (2 * n) G x y = false) (i j : Nat) (hi : i < 2 * n) (hj : j < 2 * n) :
    (G i j).toNat ∈ cands n blk i j (if j = 0 then 0 else (G i (j - 1)).toNat) (if i = 0 then 0 else (G (i - 1) j).toNat) (if j = 0 ∨ i = 0 then 0 else (G (i - 1) (j - 1)).toNat) := by
  have hok := T.ok i j hi hj
  have hle := T.let_ i j hi hj
  unfold cands
  rw [at0 (j = 0) _ 108 (by decide) 108 rfl, at0 (i = 0) _ 117 (by decide) 117 rfl, at0 (j = 0 ∨ i = 0) _ 108 (by decide) 108 rfl, at0 (j = 0) _ 100 (by decide) 100 rfl]
  by_cases hl : ¬ j = 0 ∧ G i (j - 1) = 108
  · rw [decide_eq_true hl, if_pos rfl]
    have hl' := (T.ok i (j - 1) hi (by omega)).1 hl.2
    rw [show j - 1 + 1 = j from by omega] at hl'
    have hu : ¬ (¬ i = 0 ∧ G (i - 1) j = 117) := by
      rintro ⟨e1, e2⟩
      have := (T.ok (i - 1) j (by omega) hj).2.2.1 e2
      rw [show i - 1 + 1 = i from by omega, hl'.2] at this
      exact absurd this.2 (by decide)
    rw [decide_eq_false hu]
    by_cases hul : blk = true ∧ (¬ (j = 0 ∨ i = 0) ∧ G (i - 1) (j - 1) = 108)
    · exfalso
      obtain ⟨hbt, h0, h1⟩ := hul
      have h2 := hb hbt (j - 1) (i - 1)
      have h3 := (T.ok (i - 1) (j - 1) (by omega) (by omega)).1 h1
      rw [show j - 1 + 1 = j from by omega] at h3
      unfold turnAt turnB at h2
      rw [show j - 1 + 1 = j from by omega, show i - 1 + 1 = i from by omega, h1, h3.2, hl.2, hl'.2] at h2
      simp [hi, hj] at h2
    · have : (blk && decide (¬ (j = 0 ∨ i = 0) ∧ G (i - 1) (j - 1) = 108)) = false := by
        rw [Bool.eq_false_iff]
        intro e
        rw [Bool.and_eq_true, decide_eq_true_iff] at e
        exact hul e
      rw [this, hl'.2]
      decide
  · rw [decide_eq_false hl, if_neg (by simp)]
    by_cases hu : ¬ i = 0 ∧ G (i - 1) j = 117
    · rw [decide_eq_true hu, if_pos rfl]
      have hu' := (T.ok (i - 1) j (by omega) hj).2.2.1 hu.2
      rw [show i - 1 + 1 = i from by omega] at hu'
      by_cases hld : blk = true ∧ (¬ j = 0 ∧ G i (j - 1) = 100)
      · exfalso
        obtain ⟨hbt, h0, h1⟩ := hld
        have h2 := hb hbt (j - 1) (i - 1)
        have h3 := (T.ok i (j - 1) hi (by omega)).2.2.2 h1
        unfold turnAt turnB at h2
        rw [show j - 1 + 1 = j from by omega, show i - 1 + 1 = i from by omega, h1, h3.2, hu.2, hu'.2] at h2
        simp [hi, hj] at h2
      · have : (blk && decide (¬ j = 0 ∧ G i (j - 1) = 100)) = false := by
          rw [Bool.eq_false_iff]
          intro e
          rw [Bool.and_eq_true, decide_eq_true_iff] at e
          exact hld e
        rw [this, hu'.2]
        decide
    · rw [decide_eq_false hu, if_neg (by simp)]
      have hm := az_mask n (by omega) i hi j hj
      rw [← T.cov i j hi hj] at hm
      simp only [lrud, List.mem_cons, List.not_mem_nil, or_false] at hle
      cases hmm : maskB n i j
      · rw [hmm] at hm
        rw [if_neg (by simp)]
        rcases hle with e | e | e | e | e <;> rw [e] at hm ⊢ <;> first | decide | exact absurd hm (by decide)
      · rw [hmm] at hm
        rw [if_pos rfl]
        rcases hle with e | e | e | e | e
        · have h1 := hok.1 e
          rw [mask_of T hn hi h1.1 (by rw [h1.2]; decide), e]
          simp
        · exfalso
          have h1 := hok.2.1 e
          exact hl ⟨by omega, h1.2⟩
        · have h1 := hok.2.2.1 e
          rw [mask_of T hn h1.1 hj (by rw [h1.2]; decide), e]
          simp
        · exfalso
          have h1 := hok.2.2.2 e
          exact hu ⟨by omega, h1.2⟩
        · rw [e] at hm
          exact absurd hm (by decide)
/-- A grid's first letters, the last one ahead. -/
def pre (G : Nat → Nat → UInt8) (W : Nat) : Nat → List Nat
  | 0 => []
  | k + 1 => (G (k / W) (k % W)).toNat :: pre G W k
theorem pre_len (G : Nat → Nat → UInt8) (W k : Nat) : (pre G W k).length = k := by
  induction k with
  | zero => rfl
  | succ k ih => simp [pre, ih]
theorem pre_getD (G : Nat → Nat → UInt8) (W : Nat) : ∀ k t, t < k → (pre G W k).getD t 0 = (G ((k - 1 - t) / W) ((k - 1 - t) % W)).toNat := by
  intro k
  induction k with
  | zero => intro t h; omega
  | succ k ih =>
    intro t h
    cases t with
    | zero => simp [pre]
    | succ t =>
      have h1 := ih t (by omega)
      have e : k + 1 - 1 - (t + 1) = k - 1 - t := by omega
      rw [e, ← h1]
      simp [pre]
theorem divmod (W i j : Nat) (hj : j < W) : (i * W + j) / W = i ∧ (i * W + j) % W = j := by
  constructor
  · rw [Nat.mul_comm, Nat.mul_add_div (by omega), Nat.div_eq_of_lt hj]; omega
  · rw [Nat.mul_comm, Nat.mul_add_mod, Nat.mod_eq_of_lt hj]
theorem pre_at (G : Nat → Nat → UInt8) (W k t i j : Nat) (ht : t < k) (hj : j < W) (e : k - 1 - t = i * W + j) : (pre G W k).getD t 0 = (G i j).toNat := by
  rw [pre_getD G W k t ht, e, (divmod W i j hj).1, (divmod W i j hj).2]
theorem candsAt_pre {n : Nat} (blk : Bool) (G : Nat → Nat → UInt8) (i j : Nat) (hj : j < 2 * n) :
    candsAt n blk (i * (2 * n) + j) (pre G (2 * n) (i * (2 * n) + j)) = cands n blk i j (if j = 0 then 0 else (G i (j - 1)).toNat) (if i = 0 then 0 else (G (i - 1) j).toNat) (if j = 0 ∨ i = 0 then 0 else (G (i - 1) (j - 1)).toNat) := by
  obtain ⟨W, hW⟩ : ∃ W, 2 * n = W := ⟨_, rfl⟩
  unfold candsAt
  rw [hW] at hj ⊢
  rw [(divmod W i j hj).1, (divmod W i j hj).2]
  have hmul : i ≠ 0 → i * W = (i - 1) * W + W := fun h => by
    obtain ⟨i, rfl⟩ : ∃ i', i = i' + 1 := ⟨i - 1, by omega⟩
    simp [Nat.succ_mul]
  have e1 : (if Nat.beq j 0 = true then 0 else (pre G W (i * W + j)).getD 0 0) = if j = 0 then 0 else (G i (j - 1)).toNat := by
    by_cases h : j = 0
    · rw [if_pos (by rw [h]; rfl), if_pos h]
    · rw [if_neg (by rw [natbeq]; exact h), if_neg h]
      exact pre_at G W _ _ _ _ (by omega) (by omega) (by omega)
  have e2 : (pre G W (i * W + j)).getD (W - 1) 0 = if i = 0 then 0 else (G (i - 1) j).toNat := by
    by_cases h : i = 0
    · rw [if_pos h, h]
      have : (pre G W (0 * W + j)).length ≤ W - 1 := by rw [pre_len]; omega
      rw [List.getD, List.getElem?_eq_none this]; rfl
    · rw [if_neg h]
      have := hmul h
      exact pre_at G W _ _ _ _ (by omega) hj (by omega)
  have e3 : (if Nat.beq j 0 = true then 0 else (pre G W (i * W + j)).getD W 0) = if j = 0 ∨ i = 0 then 0 else (G (i - 1) (j - 1)).toNat := by
    by_cases h : j = 0
    · rw [if_pos (by rw [h]; rfl), if_pos (.inl h)]
    · rw [if_neg (by rw [natbeq]; exact h)]
      by_cases h2 : i = 0
      · rw [if_pos (.inr h2), h2]
        have : (pre G W (0 * W + j)).length ≤ W := by rw [pre_len]; omega
        rw [List.getD, List.getElem?_eq_none this]; rfl
      · rw [if_neg (by omega)]
        have := hmul h2
        exact pre_at G W _ _ _ _ (by omega) (by omega) (by omega)
  rw [e1, e2, e3]
/-- Every tiling is among them. -/
theorem enum_all {n : Nat} (hn : n ≤ 4) {G : Nat → Nat → UInt8} (T : TileG n G) (blk : Bool) (hb : blk = true → ∀ x y, turnAt (2 * n) (2 * n) G x y = false) : ∀ k, k ≤ 2 * n * (2 * n) → pre G (2 * n) k ∈ enumB n blk k := by
  intro k
  induction k with
  | zero => intro _; simp [pre, enumB]
  | succ k ih =>
    intro hk
    have hW : 0 < 2 * n := Nat.pos_of_mul_pos_left (Nat.lt_of_lt_of_le (Nat.succ_pos k) hk)
    obtain ⟨i, j, hj, e⟩ : ∃ i j, j < 2 * n ∧ k = i * (2 * n) + j := ⟨k / (2 * n), k % (2 * n), Nat.mod_lt _ hW, by rw [Nat.mul_comm]; exact (Nat.div_add_mod k (2 * n)).symm⟩
    have hi : i < 2 * n := by
      refine Nat.lt_of_not_le fun h => ?_
      have := Nat.mul_le_mul_right (2 * n) h
      omega
    have h1 := ih (by omega)
    unfold enumB pre
    rw [List.mem_flatMap]
    refine ⟨_, h1, List.mem_map.2 ⟨_, ?_, rfl⟩⟩
    subst e
    rw [candsAt_pre blk G i j hj, (divmod (2 * n) i j hj).1, (divmod (2 * n) i j hj).2]
    exact cands_mem hn T blk hb i j hi hj
/-- Every tiling of a small diamond has a block that may be turned. -/
theorem block_exists {n : Nat} (h1 : 1 ≤ n) (hn : n ≤ 4) {G : Nat → Nat → UInt8} (T : TileG n G) : ∃ x y, turnAt (2 * n) (2 * n) G x y = true := by
  apply Classical.byContradiction
  intro hne
  have h := enum_all hn T true (fun _ x y => by
    cases ht : turnAt (2 * n) (2 * n) G x y
    · rfl
    · exact absurd ⟨x, y, ht⟩ hne) _ (Nat.le_refl _)
  have h4 : n = 1 ∨ n = 2 ∨ n = 3 ∨ n = 4 := by omega
  rcases h4 with rfl | rfl | rfl | rfl
  · rw [enum_none1] at h; exact absurd h List.not_mem_nil
  · rw [enum_none2] at h; exact absurd h List.not_mem_nil
  · rw [enum_none3] at h; exact absurd h List.not_mem_nil
  · rw [enum_none4] at h; exact absurd h List.not_mem_nil

theorem gl_pre (G : Nat → Nat → UInt8) (W i j : Nat) (hi : i < W) (hj : j < W) : gl W (pre G W (W * W)) i j = G i j := by
  have h1 : (i + 1) * W ≤ W * W := Nat.mul_le_mul_right W hi
  have h2 : (i + 1) * W = i * W + W := Nat.succ_mul _ _
  unfold gl
  rw [pre_at G W (W * W) (W * W - 1 - (i * W + j)) i j (by omega) hj (by omega)]
  exact UInt8.ofNat_toNat
theorem shStep_congr (n h : Nat) {G G' : Nat → Nat → UInt8} (hG : ∀ i j, i < h → j < h → G i j = G' i j) (o : Nat → Nat → UInt8) (i j : Nat) (hi : i < h) (hj : j < h) : shStep n h G o i j = shStep n h G' o i j := by
  have e1 : (i = 0 ∨ G (i - 1) j ≠ 108) ↔ (i = 0 ∨ G' (i - 1) j ≠ 108) := by rw [hG (i - 1) j (by omega) hj]
  have e2 : (i + 1 = h ∨ G (i + 1) j ≠ 108) ↔ (i + 1 = h ∨ G' (i + 1) j ≠ 108) := by
    by_cases he : i + 1 = h
    · simp [he]
    · rw [hG (i + 1) j (by omega) hj]
  have e3 : (j = 0 ∨ G i (j - 1) ≠ 117) ↔ (j = 0 ∨ G' i (j - 1) ≠ 117) := by rw [hG i (j - 1) hi (by omega)]
  have e4 : (j + 1 = h ∨ G i (j + 1) ≠ 117) ↔ (j + 1 = h ∨ G' i (j + 1) ≠ 117) := by
    by_cases he : j + 1 = h
    · simp [he]
    · rw [hG i (j + 1) hi (by omega)]
  unfold shStep
  rw [hG i j hi hj]
  simp only [e1, e2, e3, e4]
theorem shRow_congr (n h : Nat) {G G' : Nat → Nat → UInt8} (hG : ∀ i j, i < h → j < h → G i j = G' i j) (o : Nat → Nat → UInt8) (i : Nat) (hi : i < h) : ∀ m, m ≤ h → shRow n h G o i m = shRow n h G' o i m := by
  intro m
  induction m with
  | zero => intro _; rfl
  | succ m ih =>
    intro hm
    unfold shRow
    rw [ih (by omega), shStep_congr n h hG _ i m hi (by omega)]
theorem shTo_congr (n h : Nat) {G G' : Nat → Nat → UInt8} (hG : ∀ i j, i < h → j < h → G i j = G' i j) (o : Nat → Nat → UInt8) : ∀ k, k ≤ h → shTo n h G o k = shTo n h G' o k := by
  intro k
  induction k with
  | zero => intro _; rfl
  | succ k ih =>
    intro hk
    unfold shTo
    rw [ih (by omega), shRow_congr n h hG _ k (by omega) h (Nat.le_refl _)]
theorem shG_congr (n : Nat) {G G' : Nat → Nat → UInt8} (hG : ∀ i j, i < 2 * n → j < 2 * n → G i j = G' i j) : shG n G = shG n G' := shTo_congr n (2 * n) hG _ _ (Nat.le_refl _)

theorem code_lt {H i j : Nat} (hi : i < H) (hj : j < H) : i * H + j < H * H := by
  have h1 : (i + 1) * H ≤ H * H := Nat.mul_le_mul_right H hi
  have h2 : (i + 1) * H = i * H + H := Nat.succ_mul _ _
  omega
theorem mem_opens {H : Nat} {O : Nat → Nat → UInt8} {d : Nat} : d ∈ opens H O ↔ d < H * H ∧ O (d / H) (d % H) = 35 := by
  unfold opens
  rw [List.mem_filter, List.mem_range, beq_iff_eq]
theorem opens_at {H : Nat} {O : Nat → Nat → UInt8} {i j : Nat} (hi : i < H) (hj : j < H) : i * H + j ∈ opens H O ↔ O i j = 35 := by
  rw [mem_opens, (divmod H i j hj).1, (divmod H i j hj).2]
  exact ⟨fun h => h.2, fun h => ⟨code_lt hi hj, h⟩⟩
theorem opens_sorted (H : Nat) (O : Nat → Nat → UInt8) : (opens H O).Pairwise (· < ·) := List.Pairwise.filter _ List.pairwise_lt_range
/-- All four cells of each block are open when its turn comes. -/
def Peel4 : (Nat → Nat → UInt8) → List (Nat × Nat) → Prop
  | _, [] => True
  | O, p :: ps => (O p.2 p.1 = 35 ∧ O p.2 (p.1 + 1) = 35 ∧ O (p.2 + 1) p.1 = 35 ∧ O (p.2 + 1) (p.1 + 1) = 35) ∧ Peel4 (layG O p.1 p.2 false) ps
theorem Peel4.mask {ps : List (Nat × Nat)} : ∀ {O O' : Nat → Nat → UInt8}, (∀ i j, O i j = 35 ↔ O' i j = 35) → Peel4 O ps → Peel4 O' ps := by
  induction ps with
  | nil => intro O O' hm h; trivial
  | cons p ps ih =>
    intro O O' hm h
    obtain ⟨⟨h1, h2, h3, h4⟩, h5⟩ := h
    exact ⟨⟨(hm _ _).1 h1, (hm _ _).1 h2, (hm _ _).1 h3, (hm _ _).1 h4⟩, ih (fun i j => by rw [layG_open, layG_open, hm]) h5⟩
theorem Peel4.tail {O : Nat → Nat → UInt8} {p : Nat × Nat} {ps : List (Nat × Nat)} (h : Peel4 O (p :: ps)) (b : Bool) : Peel4 (layG O p.1 p.2 b) ps :=
  h.2.mask (fun i j => by rw [layG_open, layG_open])
theorem block_codes {H c d : Nat} (hx : c % H + 1 < H) : ((d / H = c / H ∨ d / H = c / H + 1) ∧ (d % H = c % H ∨ d % H = c % H + 1)) ↔ (d = c ∨ d = c + 1 ∨ d = c + H ∨ d = c + H + 1) := by
  have hH : 0 < H := by omega
  have hc : c / H * H + c % H = c := by rw [Nat.mul_comm]; exact Nat.div_add_mod c H
  have hd : d / H * H + d % H = d := by rw [Nat.mul_comm]; exact Nat.div_add_mod d H
  have hs : (c / H + 1) * H = c / H * H + H := Nat.succ_mul _ _
  constructor
  · rintro ⟨e1 | e1, e2 | e2⟩ <;> rw [e1, e2] at hd <;> omega
  · have key : ∀ i j, j < H → d = i * H + j → d / H = i ∧ d % H = j := fun i j hj e => by rw [e]; exact divmod H i j hj
    rintro (e | e | e | e)
    · rw [e]; exact ⟨.inl rfl, .inl rfl⟩
    · have := key (c / H) (c % H + 1) hx (by omega)
      exact ⟨.inl this.1, .inr this.2⟩
    · have := key (c / H + 1) (c % H) (by omega) (by omega)
      exact ⟨.inr this.1, .inl this.2⟩
    · have := key (c / H + 1) (c % H + 1) hx (by omega)
      exact ⟨.inr this.1, .inr this.2⟩
theorem opens_lay {H : Nat} {O : Nat → Nat → UInt8} {c : Nat} {r : List Nat} (hx : c % H + 1 < H) (hL : opens H O = c :: r) :
    opens H (layG O (c % H) (c / H) false) = r.filter (fun d => !(Nat.beq d (c + 1) || Nat.beq d (c + H) || Nat.beq d (c + H + 1))) := by
  have h1 : opens H (layG O (c % H) (c / H) false) = (opens H O).filter (fun d => !(Nat.beq d c || Nat.beq d (c + 1) || Nat.beq d (c + H) || Nat.beq d (c + H + 1))) := by
    unfold opens
    rw [List.filter_filter]
    apply List.filter_congr
    intro d _
    rw [Bool.eq_iff_iff]
    simp only [beq_iff_eq, layG_open, Bool.and_eq_true, Bool.not_eq_true', Bool.or_eq_false_iff]
    rw [block_codes hx]
    simp only [← Bool.not_eq_true, natbeq]
    constructor
    · rintro ⟨h1, h2⟩; exact ⟨⟨⟨⟨fun e => h1 (.inl e), fun e => h1 (.inr (.inl e))⟩, fun e => h1 (.inr (.inr (.inl e)))⟩, fun e => h1 (.inr (.inr (.inr e)))⟩, h2⟩
    · rintro ⟨⟨⟨⟨a, b⟩, c⟩, d⟩, h2⟩
      refine ⟨?_, h2⟩
      rintro (e | e | e | e)
      · exact a e
      · exact b e
      · exact c e
      · exact d e
  have hs := opens_sorted H O
  rw [h1, hL] 
  rw [hL, List.pairwise_cons] at hs
  rw [List.filter_cons_of_neg (by simp)]
  apply List.filter_congr
  intro d hd
  have hne : Nat.beq d c = false := by
    rw [← Bool.not_eq_true, natbeq]
    have := hs.1 d hd
    omega
  rw [hne, Bool.false_or]
theorem peelF_out (H : Nat) : ∀ (f : Nat) (L ps : List Nat) (O : Nat → Nat → UInt8), L = opens H O → peelF H f L = some ps → PeelG H O (ps.map (fun c => (c % H, c / H))) ∧ Peel4 O (ps.map (fun c => (c % H, c / H))) := by
  intro f
  have nilc : ∀ O : Nat → Nat → UInt8, [] = opens H O → ∀ i j, i < H → j < H → O i j ≠ 35 := fun O hL i j hi hj e => by
    have := (opens_at hi hj).2 e
    rw [← hL] at this
    exact absurd this List.not_mem_nil
  induction f with
  | zero =>
    intro L ps O hL h
    cases L with
    | nil => simp [peelF] at h; subst h; exact ⟨nilc O hL, trivial⟩
    | cons c r => simp [peelF] at h
  | succ f ih =>
    intro L ps O hL h
    cases L with
    | nil => simp [peelF] at h; subst h; exact ⟨nilc O hL, trivial⟩
    | cons c r =>
      unfold peelF at h
      split at h
      next hc =>
        simp only [Bool.and_eq_true, List.elem_eq_mem, decide_eq_true_eq] at hc
        obtain ⟨hx, m1, m2, m3⟩ := hc
        rw [Nat.blt_eq] at hx
        obtain ⟨qs, hq, rfl⟩ := Option.map_eq_some_iff.1 h
        have hlay := opens_lay hx hL.symm
        obtain ⟨i1, i2⟩ := ih _ qs (layG O (c % H) (c / H) false) hlay.symm hq
        have hb := fun d => (block_codes (c := c) (d := d) hx).2
        have hcH : c / H * H + c % H = c := by rw [Nat.mul_comm]; exact Nat.div_add_mod c H
        have g0 := (mem_opens (H := H) (O := O) (d := c)).1 (by rw [← hL]; exact List.mem_cons_self)
        have g1 := (mem_opens (H := H) (O := O) (d := c + 1)).1 (by rw [← hL]; exact List.mem_cons_of_mem _ m1)
        have g2 := (mem_opens (H := H) (O := O) (d := c + H)).1 (by rw [← hL]; exact List.mem_cons_of_mem _ m2)
        have g3 := (mem_opens (H := H) (O := O) (d := c + H + 1)).1 (by rw [← hL]; exact List.mem_cons_of_mem _ m3)
        have hsm : (c / H + 1) * H = c / H * H + H := Nat.succ_mul _ _
        have k1 := divmod H (c / H) (c % H + 1) hx
        have k2 := divmod H (c / H + 1) (c % H) (by omega)
        have k3 := divmod H (c / H + 1) (c % H + 1) hx
        rw [show c / H * H + (c % H + 1) = c + 1 from by omega] at k1
        rw [show (c / H + 1) * H + c % H = c + H from by omega] at k2
        rw [show (c / H + 1) * H + (c % H + 1) = c + H + 1 from by omega] at k3
        rw [k1.1, k1.2] at g1
        rw [k2.1, k2.2] at g2
        rw [k3.1, k3.2] at g3
        have hy : c / H + 1 < H := by
          rw [← k2.1]
          exact Nat.div_lt_of_lt_mul g2.1
        have hs := opens_sorted H O
        rw [← hL, List.pairwise_cons] at hs
        refine ⟨⟨hx, hy, g0.2, fun i j hi hj hlt e => ?_, i1⟩, ⟨g0.2, g1.2, g2.2, g3.2⟩, i2⟩
        have hm := (opens_at hi hj).2 e
        rw [← hL] at hm
        have hlt2 : i * H + j < c := by
          rcases hlt with h1 | ⟨h1, h2⟩
          · have h1 : i < c / H := h1
            have e1 : (i + 1) * H ≤ c / H * H := Nat.mul_le_mul_right H h1
            have e2 : (i + 1) * H = i * H + H := Nat.succ_mul _ _
            omega
          · have h1 : i = c / H := h1
            have h2 : j < c % H := h2
            rw [h1]
            omega
        rcases List.mem_cons.1 hm with e | e
        · omega
        · have := hs.1 _ e
          omega
      next => simp at h
theorem okB_iff {h W : Nat} {G : Nat → Nat → UInt8} {i j : Nat} (e : okB h W G i j = true) : okAt h W G i j := by
  simp only [okB, Bool.and_eq_true, Bool.or_eq_true, Bool.not_eq_true', beq_eq_false_iff_ne, beq_iff_eq, decide_eq_true_eq] at e
  obtain ⟨e1, e2, e3, e4⟩ := e
  exact ⟨fun x => e1.resolve_left (fun y => y x), fun x => e2.resolve_left (fun y => y x), fun x => e3.resolve_left (fun y => y x), fun x => e4.resolve_left (fun y => y x)⟩
/-- The next diamond, its tiling not yet whole. -/
structure OpenG (n : Nat) (O : Nat → Nat → UInt8) : Prop where
  let_ : ∀ i j, i < 2 * n → j < 2 * n → O i j = 35 ∨ O i j ∈ lrud
  cov : ∀ i j, i < 2 * n → j < 2 * n → covB (O i j) = azG n i j
  ok : ∀ i j, i < 2 * n → j < 2 * n → okAt (2 * n) (2 * n) O i j
theorem checkO_out {n : Nat} {O : Nat → Nat → UInt8} (h : checkO n O = true) :
    ∃ ps, PeelG (2 * (n + 1)) O ps ∧ Peel4 O ps ∧ n + 1 ≤ ps.length ∧ ps.length ≤ 64 ∧ cntTo (2 * (n + 1)) O (2 * (n + 1)) = 4 * ps.length ∧ OpenG (n + 1) O := by
  unfold checkO at h
  obtain ⟨H, hH⟩ : ∃ H, 2 * (n + 1) = H := ⟨_, rfl⟩
  rw [hH] at h
  simp only [Bool.and_eq_true, List.all_eq_true, List.mem_range] at h
  obtain ⟨h1, h2⟩ := h
  split at h1
  next => simp at h1
  next ps hp =>
    simp only [Bool.and_eq_true, natbeq, Nat.ble_eq] at h1
    obtain ⟨p1, p2⟩ := peelF_out H (H * H) (opens H O) ps O rfl hp
    have key : ∀ i j, i < H → j < H → okAt H H O i j ∧ covB (O i j) = azG (n + 1) i j ∧ (O i j = 35 ∨ O i j ∈ lrud) := fun i j hi hj => by
      obtain ⟨k1, k2, k3⟩ := h2 (i * H + j) (code_lt hi hj)
      rw [(divmod H i j hj).1, (divmod H i j hj).2] at k1 k2 k3
      refine ⟨okB_iff k1, by simpa using k2, ?_⟩
      rw [List.elem_eq_mem, decide_eq_true_eq, List.mem_cons] at k3
      exact k3
    rw [hH]
    refine ⟨_, p1, p2, by rw [List.length_map]; exact h1.1, by rw [List.length_map]; exact h1.2.1, by rw [List.length_map]; exact h1.2.2, ⟨?_, ?_, ?_⟩⟩
    · intro i j hi hj
      rw [hH] at hi hj
      exact (key i j hi hj).2.2
    · intro i j hi hj
      rw [hH] at hi hj
      exact (key i j hi hj).2.1
    · intro i j hi hj
      rw [hH] at hi hj ⊢
      exact (key i j hi hj).1
/-- The shuffle of a small diamond's tiling: what is open falls into blocks. -/
theorem sh_all {n : Nat} (h1 : 1 ≤ n) (h3 : n ≤ 3) {G : Nat → Nat → UInt8} (T : TileG n G) :
    ∃ ps, PeelG (2 * (n + 1)) (shG n G) ps ∧ Peel4 (shG n G) ps ∧ n + 1 ≤ ps.length ∧ ps.length ≤ 64 ∧ cntTo (2 * (n + 1)) (shG n G) (2 * (n + 1)) = 4 * ps.length ∧ OpenG (n + 1) (shG n G) := by
  have hm := enum_all (by omega) T false (fun e => absurd e (by decide)) _ (Nat.le_refl _)
  have hg : shG n (gl (2 * n) (pre G (2 * n) (2 * n * (2 * n)))) = shG n G := shG_congr n (fun i j hi hj => gl_pre G (2 * n) i j hi hj)
  rw [← hg]
  refine checkO_out ?_
  have h4 : n = 1 ∨ n = 2 ∨ n = 3 := by omega
  have key : ∀ m, m = n → (enumB m false (2 * m * (2 * m))).all (checkP m) = true → checkP n (pre G (2 * n) (2 * n * (2 * n))) = true := by
    intro m e hc
    subst e
    exact List.all_eq_true.1 hc _ hm
  rcases h4 with e | e | e
  · exact key 1 e.symm enum_check1
  · exact key 2 e.symm enum_check2
  · exact key 3 e.symm enum_check3

theorem layG_out {O : Nat → Nat → UInt8} {x y : Nat} (b : Bool) {i j : Nat} (h : ¬ ((i = y ∨ i = y + 1) ∧ (j = x ∨ j = x + 1))) : layG O x y b i j = O i j := by
  have key : ∀ a c d e : UInt8, putG O x y a c d e i j = O i j := by
    intro a c d e
    unfold putG
    rw [if_neg (fun e => h ⟨.inr e.1, .inr e.2⟩), if_neg (fun e => h ⟨.inr e.1, .inl e.2⟩), if_neg (fun e => h ⟨.inl e.1, .inr e.2⟩), if_neg (fun e => h ⟨.inl e.1, .inl e.2⟩)]
  cases b
  · exact key _ _ _ _
  · exact key _ _ _ _
theorem layG_four (O : Nat → Nat → UInt8) (x y : Nat) (b : Bool) :
    layG O x y b y x = (if b then 117 else 108) ∧ layG O x y b y (x + 1) = (if b then 117 else 114) ∧ layG O x y b (y + 1) x = (if b then 100 else 108) ∧ layG O x y b (y + 1) (x + 1) = (if b then 100 else 114) := by
  cases b
  · simp [layG, putG]
  · simp [layG, putG]
/-- A block of open cells is laid. -/
theorem OpenG.lay {n : Nat} {O : Nat → Nat → UInt8} (T : OpenG n O) {x y : Nat} (hx : x + 1 < 2 * n) (hy : y + 1 < 2 * n) (ho : O y x = 35 ∧ O y (x + 1) = 35 ∧ O (y + 1) x = 35 ∧ O (y + 1) (x + 1) = 35) (b : Bool) : OpenG n (layG O x y b) := by
  obtain ⟨o1, o2, o3, o4⟩ := ho
  obtain ⟨f1, f2, f3, f4⟩ := layG_four O x y b
  have hin : ∀ i j, ((i = y ∨ i = y + 1) ∧ (j = x ∨ j = x + 1)) → O i j = 35 := by
    rintro i j ⟨rfl | rfl, rfl | rfl⟩ <;> assumption
  refine ⟨fun i j hi hj => ?_, fun i j hi hj => ?_, fun i j hi hj => ?_⟩
  · by_cases h : (i = y ∨ i = y + 1) ∧ (j = x ∨ j = x + 1)
    · right
      obtain ⟨rfl | rfl, rfl | rfl⟩ := h
      · rw [f1]; cases b <;> decide
      · rw [f2]; cases b <;> decide
      · rw [f3]; cases b <;> decide
      · rw [f4]; cases b <;> decide
    · rw [layG_out b h]; exact T.let_ i j hi hj
  · by_cases h : (i = y ∨ i = y + 1) ∧ (j = x ∨ j = x + 1)
    · rw [← T.cov i j hi hj, hin i j h]
      obtain ⟨rfl | rfl, rfl | rfl⟩ := h
      · rw [f1]; cases b <;> decide
      · rw [f2]; cases b <;> decide
      · rw [f3]; cases b <;> decide
      · rw [f4]; cases b <;> decide
    · rw [layG_out b h]; exact T.cov i j hi hj
  · by_cases h : (i = y ∨ i = y + 1) ∧ (j = x ∨ j = x + 1)
    · obtain ⟨rfl | rfl, rfl | rfl⟩ := h
      · unfold okAt
        rw [f1, f2, f3]
        cases b
        · refine ⟨fun _ => ⟨hx, rfl⟩, fun e => absurd e (by decide), fun e => absurd e (by decide), fun e => absurd e (by decide)⟩
        · refine ⟨fun e => absurd e (by decide), fun e => absurd e (by decide), fun _ => ⟨hy, rfl⟩, fun e => absurd e (by decide)⟩
      · unfold okAt
        rw [f2, show x + 1 - 1 = x from rfl, f1, f4]
        cases b
        · refine ⟨fun e => absurd e (by decide), fun _ => ⟨by omega, rfl⟩, fun e => absurd e (by decide), fun e => absurd e (by decide)⟩
        · refine ⟨fun e => absurd e (by decide), fun e => absurd e (by decide), fun _ => ⟨hy, rfl⟩, fun e => absurd e (by decide)⟩
      · unfold okAt
        rw [f3, show y + 1 - 1 = y from rfl, f1, f4]
        cases b
        · refine ⟨fun _ => ⟨hx, rfl⟩, fun e => absurd e (by decide), fun e => absurd e (by decide), fun e => absurd e (by decide)⟩
        · refine ⟨fun e => absurd e (by decide), fun e => absurd e (by decide), fun e => absurd e (by decide), fun _ => ⟨by omega, rfl⟩⟩
      · unfold okAt
        rw [f4, show y + 1 - 1 = y from rfl, show x + 1 - 1 = x from rfl, f2, f3]
        cases b
        · refine ⟨fun e => absurd e (by decide), fun _ => ⟨by omega, rfl⟩, fun e => absurd e (by decide), fun e => absurd e (by decide)⟩
        · refine ⟨fun e => absurd e (by decide), fun e => absurd e (by decide), fun e => absurd e (by decide), fun _ => ⟨by omega, rfl⟩⟩
    · have hk := T.ok i j hi hj
      have ho : ∀ i' j' : Nat, ∀ c : UInt8, c ≠ 35 → O i' j' = c → layG O x y b i' j' = c := fun i' j' c hc e => by
        rw [layG_out b (fun h' => hc (by rw [← e]; exact hin i' j' h'))]
        exact e
      unfold okAt
      rw [layG_out b h]
      refine ⟨fun e => ?_, fun e => ?_, fun e => ?_, fun e => ?_⟩
      · exact ⟨(hk.1 e).1, ho _ _ _ (by decide) (hk.1 e).2⟩
      · exact ⟨(hk.2.1 e).1, ho _ _ _ (by decide) (hk.2.1 e).2⟩
      · exact ⟨(hk.2.2.1 e).1, ho _ _ _ (by decide) (hk.2.2.1 e).2⟩
      · exact ⟨(hk.2.2.2 e).1, ho _ _ _ (by decide) (hk.2.2.2 e).2⟩
/-- All blocks laid: a tiling. -/
theorem lay_tile {n : Nat} : ∀ (ps : List (Nat × Nat)) (bs : List Bool) (O : Nat → Nat → UInt8), PeelG (2 * n) O ps → Peel4 O ps → OpenG n O → ps.length = bs.length → TileG n (layAll O ps bs) := by
  intro ps
  induction ps with
  | nil =>
    intro bs O h1 _ T _
    have e : layAll O [] bs = O := by cases bs <;> rfl
    rw [e]
    exact ⟨fun i j hi hj => (T.let_ i j hi hj).resolve_left (h1 i j hi hj), T.cov, T.ok⟩
  | cons p ps ih =>
    intro bs O h1 h2 T hl
    cases bs with
    | nil => simp at hl
    | cons b bs =>
      have hm := h1.2.2.2.2
      exact ih bs _ (hm.mask (fun i j => by rw [layG_open, layG_open])) (h2.tail b) (T.lay h1.1 h1.2.1 h2.1 b) (by simpa using hl)
theorem lay_keep : ∀ (ps : List (Nat × Nat)) (bs : List Bool) (O : Nat → Nat → UInt8), Peel4 O ps → ∀ i j, O i j ≠ 35 → layAll O ps bs i j = O i j := by
  intro ps
  induction ps with
  | nil => intro bs O _ i j _; cases bs <;> rfl
  | cons p ps ih =>
    intro bs O h2 i j hne
    cases bs with
    | nil => rfl
    | cons b bs =>
      have hout : ¬ ((i = p.2 ∨ i = p.2 + 1) ∧ (j = p.1 ∨ j = p.1 + 1)) := by
        obtain ⟨⟨o1, o2, o3, o4⟩, _⟩ := h2
        rintro ⟨e1 | e1, e2 | e2⟩ <;> rw [e1, e2] at hne <;> exact hne (by assumption)
      have e : layG O p.1 p.2 b i j = O i j := layG_out b hout
      show layAll (layG O p.1 p.2 b) ps bs i j = O i j
      rw [ih bs _ (h2.tail b) i j (by rw [e]; exact hne), e]
theorem lay_bit : ∀ (ps : List (Nat × Nat)) (bs : List Bool) (O : Nat → Nat → UInt8), Peel4 O ps → ∀ (q : Nat) (p : Nat × Nat) (b : Bool), ps[q]? = some p → bs[q]? = some b → layAll O ps bs p.2 p.1 = if b then 117 else 108 := by
  intro ps
  induction ps with
  | nil => intro bs O _ q p b h; simp at h
  | cons p0 ps ih =>
    intro bs O h2 q p b hp hb
    cases bs with
    | nil => simp at hb
    | cons b0 bs =>
      show layAll (layG O p0.1 p0.2 b0) ps bs p.2 p.1 = _
      cases q with
      | zero =>
        simp at hp hb
        subst hp hb
        have h4 := (layG_four O p0.1 p0.2 b0).1
        rw [lay_keep ps bs _ (h2.tail b0) _ _ (by rw [h4]; cases b0 <;> decide), h4]
      | succ q =>
        simp at hp hb
        exact ih bs _ (h2.tail b0) q p b hp hb
end Go.Proofs.YtahihapgbcoanaaDoor
