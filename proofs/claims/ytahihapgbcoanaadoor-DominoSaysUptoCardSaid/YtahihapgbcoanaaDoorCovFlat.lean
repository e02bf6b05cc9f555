/- Plain: a grid's text says its size and its letters; which tilings cover a diamond. -/
import Derived.Test.YtahihapgbcoanaaDoorShufW
namespace Go.Proofs.YtahihapgbcoanaaDoor

theorem text_getq (h W : Nat) (G : Nat → Nat → UInt8) (h0 : 0 < h) (i : Nat) (hi : i < h * (W + 1)) : (textOf h W G ++ [47])[i]? = some (flatG W G i) := by
  rw [text_flat h W G h0, List.getElem?_map, List.getElem?_range hi]
  rfl
theorem text_index (h W : Nat) (G : Nat → Nat → UInt8) (h0 : 0 < h) (hn : ∀ j, j < W → G 0 j ≠ 47) : Lib.indexByte (textOf h W G ++ [47]) 47 = W := by
  have hW : W + 1 ≤ h * (W + 1) := Nat.le_mul_of_pos_left _ h0
  apply index_of
  · rw [text_getq h W G h0 W (by omega)]
    have := flat_end W G 0
    rw [Nat.zero_mul, Nat.zero_add] at this
    rw [this]
  · intro k hk
    rw [text_getq h W G h0 k (by omega)]
    have := flat_at W G 0 k hk
    rw [Nat.zero_mul, Nat.zero_add] at this
    rw [this]
    intro e
    exact hn k hk (Option.some.inj e)
theorem text_inj {h W h2 W2 : Nat} {G G2 : Nat → Nat → UInt8} (h0 : 0 < h) (h20 : 0 < h2) (hn : ∀ j, j < W → G 0 j ≠ 47) (hn2 : ∀ j, j < W2 → G2 0 j ≠ 47) (he : textOf h W G = textOf h2 W2 G2) :
    h = h2 ∧ W = W2 ∧ ∀ i j, i < h → j < W → G i j = G2 i j := by
  have i1 := text_index h W G h0 hn
  have i2 := text_index h2 W2 G2 h20 hn2
  rw [he, i2] at i1
  have hW : W = W2 := by omega
  subst hW
  have l1 := text_len h W G h0
  have l2 := text_len h2 W G2 h20
  rw [he, l2] at l1
  have hh : h2 = h := Nat.eq_of_mul_eq_mul_right (by omega) l1
  subst hh
  refine ⟨rfl, rfl, fun i j hi hj => ?_⟩
  have hlt : i * (W + 1) + j < h2 * (W + 1) := by
    have h1 : (i + 1) * (W + 1) ≤ h2 * (W + 1) := Nat.mul_le_mul_right _ (by omega)
    have e1 : (i + 1) * (W + 1) = i * (W + 1) + (W + 1) := Nat.succ_mul _ _
    omega
  have g1 := text_getq h2 W G h0 _ hlt
  have g2 := text_getq h2 W G2 h0 _ hlt
  rw [he, g2, flat_at _ _ _ _ hj, flat_at _ _ _ _ hj] at g1
  exact (Option.some.inj g1).symm
theorem text_map (h W : Nat) (G : Nat → Nat → UInt8) (f : UInt8 → UInt8) (hf : f 47 = 47) (h0 : 0 < h) : (textOf h W G).map f = textOf h W (fun i j => f (G i j)) := by
  have e : (textOf h W G).map f ++ [47] = textOf h W (fun i j => f (G i j)) ++ [47] := by
    rw [text_flat _ _ _ h0]
    have : (textOf h W G).map f ++ [47] = (textOf h W G ++ [47]).map f := by simp [hf]
    rw [this, text_flat _ _ _ h0, List.map_map]
    apply List.map_congr_left
    intro i _
    simp only [Function.comp, flatG]
    split
    · exact hf
    · rfl
  exact List.append_cancel_right e
theorem covB_slash : covB 47 = 47 := by decide
theorem covB_ne {c : UInt8} (h : c ≠ 47) : covB c ≠ 47 := by
  unfold covB
  split
  · exact h
  · decide
theorem az_ne : ∀ n, n < 5 → ∀ j, j < 2 * n → azG n 0 j ≠ 47 := by decide
theorem good_ne {s : List UInt8} (hg : Good lrud (pieces s)) (i j : Nat) (hi : i < hOf s) (hj : j < wOf s) : gOf s i j ≠ 47 := by
  intro e
  have := good_letter hg i j hi hj
  rw [e] at this
  simp [lrud] at this
/-- A tiling that covers a diamond. -/
theorem cov_dia {s : List UInt8} {n : Nat} (hg : Good lrud (pieces s)) (h1 : 1 ≤ n) (hn : n ≤ 4) (h : s.map covB = azT n) :
    hOf s = 2 * n ∧ wOf s = 2 * n ∧ ∀ i j, i < 2 * n → j < 2 * n → covB (gOf s i j) = azG n i j := by
  obtain ⟨h8, w8, h0, w0⟩ := good_h hg
  have e : (textOf (hOf s) (wOf s) (gOf s)).map covB = azT n := by rw [← good_text hg]; exact h
  rw [text_map _ _ _ _ covB_slash h0] at e
  have := text_inj h0 (by omega) (fun j hj => covB_ne (good_ne hg 0 j h0 hj)) (fun j hj => az_ne n (by omega) j hj) e
  obtain ⟨e1, e2, e3⟩ := this
  refine ⟨e1, e2, fun i j hi hj => e3 i j (by omega) (by omega)⟩
theorem good_pos {s : List UInt8} (hg : Good lrud (pieces s)) : s.map covB ≠ [] := by
  obtain ⟨h8, w8, h0, w0⟩ := good_h hg
  intro e
  have hl : s.length = 0 := by have := congrArg List.length e; simpa using this
  have hlen : s.length + 1 = hOf s * (wOf s + 1) := by
    conv => lhs; rw [good_text hg]
    exact text_len _ _ _ h0
  have : wOf s + 1 ≤ hOf s * (wOf s + 1) := Nat.le_mul_of_pos_left _ h0
  omega
/-- The order and the answer of a text, as a diamond's tiling: 1 no tiling, 3 no diamond, 2 too large. -/
def Dia (s : List UInt8) (n : Nat) : Prop := Tiling s ∧ n = hOf s / 2 ∧ 1 ≤ n ∧ n ≤ 3 ∧ s.map covB = azT n
end Go.Proofs.YtahihapgbcoanaaDoor
