/- Plain: the text of a grid that tiles; the first open cell; what Put makes of an open block. -/
import Derived.Test.YtahihapgbcoanaaDoorWays
namespace Go.Proofs.YtahihapgbcoanaaDoor
open Go.RowKit

theorem pieces_one (r : List UInt8) (h : ∀ c ∈ r, c ≠ 47) : pieces r = [r] := by
  induction r with
  | nil => rfl
  | cons c r ih =>
    unfold pieces
    rw [if_neg (h c List.mem_cons_self), ih (fun c hc => h c (List.mem_cons_of_mem _ hc))]
theorem pieces_app (r s : List UInt8) (h : ∀ c ∈ r, c ≠ 47) : pieces (r ++ 47 :: s) = r :: pieces s := by
  induction r with
  | nil => simp [pieces]
  | cons c r ih =>
    rw [List.cons_append]
    show (if c = 47 then [] :: pieces (r ++ 47 :: s) else match pieces (r ++ 47 :: s) with
      | p :: ps => (c :: p) :: ps
      | [] => [[c]]) = _
    rw [if_neg (h c List.mem_cons_self), ih (fun c hc => h c (List.mem_cons_of_mem _ hc))]
theorem pieces_join (g : List (List UInt8)) (hg : g ≠ []) (h : ∀ r ∈ g, ∀ c ∈ r, c ≠ 47) : pieces (Lib.join g [47]) = g := by
  cases g with
  | nil => exact absurd rfl hg
  | cons x r =>
    rw [Lib.join_cons]
    clear hg
    induction r generalizing x with
    | nil => simp [Lib.joinTail, pieces_one x (h x List.mem_cons_self)]
    | cons y r ih =>
      have e : x ++ Lib.joinTail [47] (y :: r) = x ++ 47 :: (y ++ Lib.joinTail [47] r) := by simp [Lib.joinTail]
      rw [e, pieces_app x _ (h x List.mem_cons_self), ih y (fun r hr => h r (List.mem_cons_of_mem _ hr))]
theorem pieces_text (h W : Nat) (G : Nat → Nat → UInt8) (h0 : 0 < h) (hn : ∀ i j, i < h → j < W → G i j ≠ 47) : pieces (textOf h W G) = rowsOf h W G := by
  refine pieces_join _ (rowsOf_ne h0) fun r hr c hc => ?_
  obtain ⟨i, hi, rfl⟩ := List.mem_map.1 hr
  obtain ⟨j, hj, rfl⟩ := List.mem_map.1 hc
  exact hn i j (List.mem_range.1 hi) (List.mem_range.1 hj)
theorem cellOf_rows (h W : Nat) (G : Nat → Nat → UInt8) (i j : Nat) (hi : i < h) (hj : j < W) : cellOf (rowsOf h W G) i j = G i j := by
  refine cellOf_get (p := rowOf W G i) ?_ ?_
  · unfold rowsOf; rw [List.getElem?_map, List.getElem?_range hi]; rfl
  · unfold rowOf; rw [List.getElem?_map, List.getElem?_range hj]; rfl
theorem lrud_ne {c : UInt8} (h : c ∈ lrud) : c ≠ 47 := by
  intro e; rw [e] at h; exact absurd h (by decide)
/-- The size and the grid of a grid's text. -/
theorem text_grid (h W : Nat) (G : Nat → Nat → UInt8) (h0 : 0 < h) (hn : ∀ i j, i < h → j < W → G i j ≠ 47) :
    hOf (textOf h W G) = h ∧ wOf (textOf h W G) = W ∧ ∀ i j, i < h → j < W → gOf (textOf h W G) i j = G i j := by
  have hp := pieces_text h W G h0 hn
  refine ⟨by unfold hOf; rw [hp]; simp [rowsOf], ?_, fun i j hi hj => by unfold gOf; rw [hp]; exact cellOf_rows h W G i j hi hj⟩
  unfold wOf
  rw [hp]
  obtain ⟨h, rfl⟩ : ∃ k, h = k + 1 := ⟨h - 1, by omega⟩
  unfold rowsOf
  rw [List.range_succ_eq_map]
  simp [rowOf]
theorem good_rows_of (letters : List UInt8) (h W : Nat) (G : Nat → Nat → UInt8) (h0 : 0 < h) (h8 : h ≤ 8) (w0 : 0 < W) (w8 : W ≤ 8) (hl : ∀ i j, i < h → j < W → G i j ∈ letters) : Good letters (rowsOf h W G) := by
  have hd : ((rowsOf h W G).headD []).length = W := by
    obtain ⟨h, rfl⟩ : ∃ k, h = k + 1 := ⟨h - 1, by omega⟩
    unfold rowsOf
    rw [List.range_succ_eq_map]
    simp [rowOf]
  refine ⟨by simpa [rowsOf] using h8, fun r hr => ?_, fun r hr c hc => ?_⟩
  · rw [hd]
    obtain ⟨i, hi, rfl⟩ := List.mem_map.1 hr
    rw [rowOf_length]
    exact ⟨w0, w8, rfl⟩
  · obtain ⟨i, hi, rfl⟩ := List.mem_map.1 hr
    obtain ⟨j, hj, rfl⟩ := List.mem_map.1 hc
    exact hl i j (List.mem_range.1 hi) (List.mem_range.1 hj)
/-- The text of a grid that tiles is a tiling. -/
theorem tiling_text (h W : Nat) (G : Nat → Nat → UInt8) (h0 : 0 < h) (h8 : h ≤ 8) (w0 : 0 < W) (w8 : W ≤ 8) (hl : ∀ i j, i < h → j < W → G i j ∈ lrud) (hok : ∀ i j, i < h → j < W → okAt h W G i j) : Tiling (textOf h W G) := by
  have hn : ∀ i j, i < h → j < W → G i j ≠ 47 := fun i j hi hj => lrud_ne (hl i j hi hj)
  obtain ⟨e1, e2, e3⟩ := text_grid h W G h0 hn
  refine ⟨by rw [pieces_text h W G h0 hn]; exact good_rows_of lrud h W G h0 h8 w0 w8 hl, fun i j hi hj => ?_⟩
  rw [e1] at hi ⊢
  rw [e2] at hj ⊢
  have hk := hok i j hi hj
  unfold okAt at hk ⊢
  rw [e3 i j hi hj]
  refine ⟨fun e => ?_, fun e => ?_, fun e => ?_, fun e => ?_⟩
  · have := hk.1 e; exact ⟨this.1, by rw [e3 _ _ hi this.1]; exact this.2⟩
  · have := hk.2.1 e; exact ⟨this.1, by rw [e3 _ _ hi (by omega)]; exact this.2⟩
  · have := hk.2.2.1 e; exact ⟨this.1, by rw [e3 _ _ this.1 hj]; exact this.2⟩
  · have := hk.2.2.2 e; exact ⟨this.1, by rw [e3 _ _ (by omega) hj]; exact this.2⟩
/-- The tiling of a diamond, by places. -/
theorem dia_tile {s : List UInt8} {n : Nat} (hT : Tiling s) (h1 : 1 ≤ n) (hn : n ≤ 4) (hc : s.map covB = azT n) : TileG n (gOf s) ∧ hOf s = 2 * n ∧ wOf s = 2 * n := by
  obtain ⟨e1, e2, e3⟩ := cov_dia hT.1 h1 hn hc
  refine ⟨⟨fun i j hi hj => good_letter hT.1 i j (by omega) (by omega), e3, fun i j hi hj => ?_⟩, e1, e2⟩
  have := hT.2 i j (by omega) (by omega)
  rw [e1, e2] at this
  exact this
/-- .. and back. -/
theorem tile_dia {n : Nat} (h1 : 1 ≤ n) (hn : n ≤ 4) {G : Nat → Nat → UInt8} (T : TileG n G) : Tiling (textOf (2 * n) (2 * n) G) ∧ (textOf (2 * n) (2 * n) G).map covB = azT n := by
  refine ⟨tiling_text _ _ G (by omega) (by omega) (by omega) (by omega) T.let_ T.ok, ?_⟩
  rw [text_map _ _ _ _ covB_slash (by omega)]
  exact textOf_congr T.cov
theorem count_flat (W : Nat) (G : Nat → Nat → UInt8) (k : Nat) : ((rowsOf k W G).flatMap (· ++ [47])).count 35 = cntTo W G k := by
  induction k with
  | zero => rfl
  | succ k ih =>
    rw [rowsOf_succ, List.flatMap_append, List.count_append, ih]
    simp [cntTo]
theorem text_count (h W : Nat) (G : Nat → Nat → UInt8) (h0 : 0 < h) : (textOf h W G).count 35 = cntTo W G h := by
  have e := join_slash (rowsOf h W G) (rowsOf_ne h0)
  have h1 : (textOf h W G ++ [47]).count 35 = cntTo W G h := by
    rw [← count_flat]
    unfold textOf
    rw [e]
  rw [List.count_append] at h1
  simpa using h1
/-- Where the first open cell stands in the text. -/
theorem open_index {H : Nat} {O : Nat → Nat → UInt8} {y x : Nat} (hy : y < H) (hx : x < H) (ho : O y x = 35) (hf : openFree H O y x) : Lib.indexByte (textOf H H O) 35 = ((y * (H + 1) + x : Nat) : Int) := by
  have h0 : 0 < H := by omega
  have hlen := text_len H H O h0
  have h1 : (y + 1) * (H + 1) ≤ H * (H + 1) := Nat.mul_le_mul_right _ hy
  have h2 : (y + 1) * (H + 1) = y * (H + 1) + (H + 1) := Nat.succ_mul _ _
  have hlt : y * (H + 1) + x < (textOf H H O).length := by omega
  apply index_of
  · rw [List.getElem?_eq_getElem hlt, text_get H H O h0 _ hlt, flat_at _ _ _ _ hx, ho]
  · intro k hk e
    have hk' : k < (textOf H H O).length := by omega
    rw [List.getElem?_eq_getElem hk', text_get H H O h0 _ hk'] at e
    have e := Option.some.inj e
    unfold flatG at e
    split at e
    · exact absurd e (by decide)
    · have hd : k / (H + 1) * (H + 1) + k % (H + 1) = k := by rw [Nat.mul_comm]; exact Nat.div_add_mod k (H + 1)
      have hm : k % (H + 1) < H + 1 := Nat.mod_lt _ (by omega)
      have hlt2 : k / (H + 1) < y ∨ (k / (H + 1) = y ∧ k % (H + 1) < x) := by
        by_cases c1 : k / (H + 1) < y
        · exact .inl c1
        · right
          have c2 : k / (H + 1) ≤ y := by
            refine Nat.le_of_not_lt fun c => ?_
            have c' : y + 1 ≤ k / (H + 1) := c
            have := Nat.mul_le_mul_right (H + 1) c'
            omega
          have c3 : k / (H + 1) = y := by omega
          rw [c3] at hd
          exact ⟨c3, by omega⟩
      exact hf (k / (H + 1)) (k % (H + 1)) (by rcases hlt2 with c1 | ⟨c1, _⟩ <;> omega) (by omega) hlt2 e
theorem openG_ne {n : Nat} {O : Nat → Nat → UInt8} (T : OpenG n O) (i j : Nat) (hi : i < 2 * n) (hj : j < 2 * n) : O i j ≠ 47 := by
  rcases T.let_ i j hi hj with e | e
  · rw [e]; decide
  · exact lrud_ne e
/-- Put, on a grid's text. -/
theorem put_open {n : Nat} {O : Nat → Nat → UInt8} (T : OpenG n O) {x y : Nat} (hx : x + 1 < 2 * n) (hy : y + 1 < 2 * n) (hn : n ≤ 4) (w : World) (a b c d : UInt8) :
    Calls Tryd.prog 15 #[.string ⟨(textOf (2 * n) (2 * n) O).toArray⟩, .int .i64 x, .int .i64 y, .string ⟨#[a, b, c, d]⟩] w fun e w' => e = .returned (.string ⟨(textOf (2 * n) (2 * n) (putG O x y a b c d)).toArray⟩) ∧ Below w.heap.size w w' := by
  obtain ⟨H, hH⟩ : ∃ H, 2 * n = H := ⟨_, rfl⟩
  have hne := openG_ne T
  rw [hH] at hx hy hne ⊢
  have hlen := text_len H H O (by omega)
  have h1 : (y + 1 + 1) * (H + 1) ≤ H * (H + 1) := Nat.mul_le_mul_right _ (by omega)
  have e1 : (y + 1 + 1) * (H + 1) = (y + 1) * (H + 1) + (H + 1) := Nat.succ_mul _ _
  have e2 : (y + 1) * (H + 1) = y * (H + 1) + (H + 1) := Nat.succ_mul _ _
  have h3 : H * (H + 1) ≤ 8 * 9 := Nat.mul_le_mul (by omega) (by omega)
  have := put_any (textOf H H O) H x y (y * (H + 1)) a b c d w (by omega) (by omega) (by omega) (text_index H H O (by omega) (fun j hj => hne 0 j (by omega) hj)) rfl (by omega)
  rw [putL_text H H x y O a b c d hx hy] at this
  exact this
end Go.Proofs.YtahihapgbcoanaaDoor
