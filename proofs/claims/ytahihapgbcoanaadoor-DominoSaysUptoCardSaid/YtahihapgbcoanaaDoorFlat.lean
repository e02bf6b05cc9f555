/- Plain: a grid's text, letter by letter. -/
import Derived.Test.YtahihapgbcoanaaDoorSameW
import Derived.Lib.IndexLaws
namespace Go.Proofs.YtahihapgbcoanaaDoor

theorem join_slash (g : List (List UInt8)) (h : g ≠ []) : Lib.join g [47] ++ [47] = g.flatMap (· ++ [47]) := by
  cases g with
  | nil => exact absurd rfl h
  | cons x r =>
    rw [Lib.join_cons]
    clear h
    induction r generalizing x with
    | nil => simp [Lib.joinTail]
    | cons y r ih =>
      have h1 := ih y
      have e : Lib.joinTail [47] (y :: r) = [47] ++ y ++ Lib.joinTail [47] r := by simp [Lib.joinTail]
      rw [e, List.flatMap_cons, ← h1]
      simp
theorem pieces_slash (s : List UInt8) : (pieces s).flatMap (· ++ [47]) = s ++ [47] := by
  induction s with
  | nil => simp [pieces]
  | cons c r ih =>
    unfold pieces
    split
    · next h => subst h; simp [ih]
    · split
      next p ps e => rw [e] at ih; simp at ih ⊢; exact ih
      next e => exact absurd e (pieces_ne r)

def flatG (W : Nat) (G : Nat → Nat → UInt8) (i : Nat) : UInt8 := if i % (W + 1) = W then 47 else G (i / (W + 1)) (i % (W + 1))
theorem flat_at (W : Nat) (G : Nat → Nat → UInt8) (y x : Nat) (hx : x < W) : flatG W G (y * (W + 1) + x) = G y x := by
  have h1 : (y * (W + 1) + x) % (W + 1) = x := by rw [Nat.mul_comm, Nat.mul_add_mod, Nat.mod_eq_of_lt (by omega)]
  have h2 : (y * (W + 1) + x) / (W + 1) = y := by rw [Nat.mul_comm, Nat.mul_add_div (by omega), Nat.div_eq_of_lt (by omega)]; omega
  unfold flatG
  rw [h1, h2, if_neg (by omega)]
theorem flat_end (W : Nat) (G : Nat → Nat → UInt8) (y : Nat) : flatG W G (y * (W + 1) + W) = 47 := by
  have h1 : (y * (W + 1) + W) % (W + 1) = W := by rw [Nat.mul_comm, Nat.mul_add_mod, Nat.mod_eq_of_lt (by omega)]
  unfold flatG
  rw [h1, if_pos rfl]
theorem rows_flat (h W : Nat) (G : Nat → Nat → UInt8) : (rowsOf h W G).flatMap (· ++ [47]) = (List.range (h * (W + 1))).map (flatG W G) := by
  induction h with
  | zero => simp [rowsOf]
  | succ h ih =>
    rw [rowsOf_succ, List.flatMap_append, ih, show (h + 1) * (W + 1) = h * (W + 1) + (W + 1) from Nat.succ_mul _ _, List.range_add, List.map_append]
    congr 1
    simp only [List.flatMap_cons, List.flatMap_nil, List.append_nil, List.map_map]
    rw [List.range_succ, List.map_append]
    congr 1
    · unfold rowOf
      apply List.map_congr_left
      intro j hj
      exact (flat_at W G h j (List.mem_range.1 hj)).symm
    · simp [flat_end]
theorem rowsOf_ne {h W : Nat} {G : Nat → Nat → UInt8} (h0 : 0 < h) : rowsOf h W G ≠ [] := by
  intro e
  have := congrArg List.length e
  simp [rowsOf] at this
  omega
theorem text_flat (h W : Nat) (G : Nat → Nat → UInt8) (h0 : 0 < h) : textOf h W G ++ [47] = (List.range (h * (W + 1))).map (flatG W G) := by
  rw [← rows_flat]
  exact join_slash _ (rowsOf_ne h0)
theorem text_len (h W : Nat) (G : Nat → Nat → UInt8) (h0 : 0 < h) : (textOf h W G).length + 1 = h * (W + 1) := by
  have := congrArg List.length (text_flat h W G h0)
  simpa using this
theorem text_get (h W : Nat) (G : Nat → Nat → UInt8) (h0 : 0 < h) (i : Nat) (hi : i < (textOf h W G).length) : (textOf h W G)[i] = flatG W G i := by
  have h1 := text_len h W G h0
  have h2 : (textOf h W G ++ [47])[i]? = some (flatG W G i) := by
    rw [text_flat h W G h0, List.getElem?_map, List.getElem?_range (by omega)]
    rfl
  rw [List.getElem?_append_left hi, List.getElem?_eq_getElem hi] at h2
  exact Option.some.inj h2
/-- The grid of a text with even rows. -/
theorem good_rows {letters s : List UInt8} (hg : Good letters (pieces s)) : pieces s = rowsOf (hOf s) (wOf s) (gOf s) := by
  apply List.ext_getElem
  · simp [rowsOf, hOf]
  · intro i hi hi2
    have hm := hg.2.1 _ (List.getElem_mem hi)
    apply List.ext_getElem
    · simp [rowsOf, rowOf, wOf, hm.2.2]
    · intro j hj hj2
      simp [rowsOf, rowOf, gOf, cellOf, hi, hj]
theorem good_text {letters s : List UInt8} (hg : Good letters (pieces s)) : s = textOf (hOf s) (wOf s) (gOf s) := by
  have h1 := pieces_slash s
  rw [← join_slash _ (pieces_ne s)] at h1
  have h2 := List.append_cancel_right h1
  rw [← h2]
  unfold textOf
  rw [h2, ← good_rows hg, h2]
theorem good_letter {letters s : List UInt8} (hg : Good letters (pieces s)) (i j : Nat) (hi : i < hOf s) (hj : j < wOf s) : gOf s i j ∈ letters := by
  have hi' : i < (pieces s).length := hi
  have hm := hg.2.1 _ (List.getElem_mem hi')
  have hj2 : j < ((pieces s)[i]'hi').length := by rw [hm.2.2]; exact hj
  have := hg.2.2 _ (List.getElem_mem hi') _ (List.getElem_mem hj2)
  have e : gOf s i j = ((pieces s)[i]'hi')[j] := cellOf_get (List.getElem?_eq_getElem hi') (List.getElem?_eq_getElem hj2)
  rw [e]
  exact this
theorem index_of (l : List UInt8) (c : UInt8) (n : Nat) (h1 : l[n]? = some c) (h2 : ∀ k, k < n → l[k]? ≠ some c) : Lib.indexByte l c = n := by
  have hg := Lib.indexByte_ge l c
  by_cases he : Lib.indexByte l c = -1
  · exact absurd h1 (Lib.indexByte_none he n)
  · obtain ⟨o, ho⟩ : ∃ o : Nat, Lib.indexByte l c = o := ⟨(Lib.indexByte l c).toNat, by omega⟩
    obtain ⟨h3, h4⟩ := Lib.indexByte_some ho
    rcases Nat.lt_trichotomy o n with h | h | h
    · exact absurd h3 (h2 o h)
    · rw [ho, h]
    · exact absurd h1 (h4 n h)
theorem good_index {letters s : List UInt8} (hg : Good letters (pieces s)) (h47 : (47 : UInt8) ∉ letters) : Lib.indexByte (s ++ [47]) 47 = wOf s := by
  obtain ⟨h8, w8, h0, w0⟩ := good_h hg
  have ht : s ++ [47] = (List.range (hOf s * (wOf s + 1))).map (flatG (wOf s) (gOf s)) := by
    conv => lhs; rw [good_text hg]
    exact text_flat _ _ _ h0
  have hW : wOf s + 1 ≤ hOf s * (wOf s + 1) := Nat.le_mul_of_pos_left _ h0
  apply index_of
  · rw [ht, List.getElem?_map, List.getElem?_range (by omega)]
    have := flat_end (wOf s) (gOf s) 0
    simp at this
    simp [this]
  · intro k hk
    rw [ht, List.getElem?_map, List.getElem?_range (by omega)]
    have h1 := flat_at (wOf s) (gOf s) 0 k hk
    rw [Nat.zero_mul, Nat.zero_add] at h1
    simp only [Option.map_some, ne_eq, Option.some.injEq, h1]
    intro e
    exact h47 (e ▸ good_letter hg 0 k h0 hk)
theorem dm_eq {n y x i : Nat} (hx : x < n) : i = y * n + x ↔ (i / n = y ∧ i % n = x) := by
  constructor
  · rintro rfl
    refine ⟨?_, ?_⟩
    · rw [Nat.mul_comm, Nat.mul_add_div (by omega), Nat.div_eq_of_lt hx]; omega
    · rw [Nat.mul_comm, Nat.mul_add_mod, Nat.mod_eq_of_lt hx]
  · rintro ⟨rfl, rfl⟩
    have := Nat.div_add_mod i n
    rw [Nat.mul_comm] at this
    omega
theorem putL_len (s : List UInt8) (W q : Nat) (a b c d : UInt8) : (putL s W q a b c d).length = s.length := by simp [putL]
theorem putL_text (h W x y : Nat) (G : Nat → Nat → UInt8) (a b c d : UInt8) (hx : x + 1 < W) (hy : y + 1 < h) :
    putL (textOf h W G) W (y * (W + 1) + x) a b c d = textOf h W (putG G x y a b c d) := by
  have h0 : 0 < h := by omega
  have l1 := text_len h W G h0
  have l2 := text_len h W (putG G x y a b c d) h0
  apply List.ext_getElem
  · rw [putL_len]; omega
  · intro i hi hi2
    rw [putL_len] at hi
    rw [text_get h W _ h0 i hi2]
    have e1 : y * (W + 1) + x + 1 = y * (W + 1) + (x + 1) := by omega
    have e2 : y * (W + 1) + x + (W + 1) = (y + 1) * (W + 1) + x := by rw [Nat.succ_mul]; omega
    have e3 : y * (W + 1) + x + (W + 1) + 1 = (y + 1) * (W + 1) + (x + 1) := by rw [Nat.succ_mul]; omega
    have hput : putL (textOf h W G) W (y * (W + 1) + x) a b c d = ((((textOf h W G).set (y * (W + 1) + x) a).set (y * (W + 1) + (x + 1)) b).set ((y + 1) * (W + 1) + x) c).set ((y + 1) * (W + 1) + (x + 1)) d := by
      unfold putL
      rw [e3, e2, e1]
    rw [List.getElem_of_eq hput]
    simp only [List.getElem_set, text_get h W G h0]
    have k1 := dm_eq (n := W + 1) (y := y) (x := x) (i := i) (by omega)
    have k2 := dm_eq (n := W + 1) (y := y) (x := x + 1) (i := i) (by omega)
    have k3 := dm_eq (n := W + 1) (y := y + 1) (x := x) (i := i) (by omega)
    have k4 := dm_eq (n := W + 1) (y := y + 1) (x := x + 1) (i := i) (by omega)
    unfold flatG putG
    generalize i / (W + 1) = u at *
    generalize i % (W + 1) = v at *
    by_cases hv : v = W
    · have n1 : ¬ (y * (W + 1) + x = i) := fun e => by have := k1.1 e.symm; omega
      have n2 : ¬ (y * (W + 1) + (x + 1) = i) := fun e => by have := k2.1 e.symm; omega
      have n3 : ¬ ((y + 1) * (W + 1) + x = i) := fun e => by have := k3.1 e.symm; omega
      have n4 : ¬ ((y + 1) * (W + 1) + (x + 1) = i) := fun e => by have := k4.1 e.symm; omega
      rw [if_neg n1, if_neg n2, if_neg n3, if_neg n4]
      simp [hv]
    · simp only [if_neg hv, eq_comm (b := i), k1, k2, k3, k4]
/-- Turned as it lies, a block is the same. -/
theorem putL_same (h W x y : Nat) (G : Nat → Nat → UInt8) (hx : x + 1 < W) (hy : y + 1 < h) (ht : turnB G x y = true) :
    (putL (textOf h W G) W (y * (W + 1) + x) 108 114 108 114 = textOf h W G) ↔ G y x = 108 := by
  have h0 : 0 < h := by omega
  rw [putL_text h W x y G _ _ _ _ hx hy]
  constructor
  · intro e
    have l1 := text_len h W G h0
    have hle : (y + 1) * (W + 1) ≤ h * (W + 1) - (W + 1) := by
      have : (y + 1 + 1) * (W + 1) ≤ h * (W + 1) := Nat.mul_le_mul_right _ (by omega)
      have e : (y + 1 + 1) * (W + 1) = (y + 1) * (W + 1) + (W + 1) := Nat.succ_mul _ _
      omega
    have hlt : y * (W + 1) + x < (textOf h W G).length := by
      have : (y + 1) * (W + 1) = y * (W + 1) + (W + 1) := Nat.succ_mul y (W + 1)
      have : (W + 1) ≤ h * (W + 1) := Nat.le_mul_of_pos_left _ h0
      omega
    have e1 : (textOf h W (putG G x y 108 114 108 114))[y * (W + 1) + x]? = (textOf h W G)[y * (W + 1) + x]? := by rw [e]
    rw [List.getElem?_eq_getElem (by rw [e]; exact hlt), List.getElem?_eq_getElem hlt, text_get _ _ _ h0, text_get _ _ _ h0, flat_at _ _ _ _ (by omega), flat_at _ _ _ _ (by omega)] at e1
    rw [← Option.some.inj e1]
    simp [putG]
  · intro e
    apply textOf_congr
    simp [turnB, e] at ht
    intro i j hi hj
    unfold putG
    split
    · next h1 => rw [h1.1, h1.2, ht.2]
    · split
      · next h1 => rw [h1.1, h1.2, ht.1.2]
      · split
        · next h1 => rw [h1.1, h1.2, ht.1.1]
        · split
          · next h1 => rw [h1.1, h1.2, e]
          · rfl
theorem mem_ptsTo (h W : Nat) (G : Nat → Nat → UInt8) (x y : Nat) : (x, y) ∈ ptsTo h W G h ↔ turnAt h W G x y = true := by
  unfold ptsTo rowPts
  simp only [List.mem_flatMap, List.mem_range, List.mem_map, List.mem_filter]
  constructor
  · rintro ⟨k, hk, m, ⟨hm, ht⟩, e⟩
    simp at e
    obtain ⟨rfl, rfl⟩ := e
    exact ht
  · intro ht
    have := turnAt_lt ht
    exact ⟨y, by omega, x, ⟨by omega, ht⟩, rfl⟩
end Go.Proofs.YtahihapgbcoanaaDoor
