/- Plain: a block turned, and turned back. -/
import Derived.Test.YtahihapgbcoanaaDoorText2
namespace Go.Proofs.YtahihapgbcoanaaDoor

def flipG (G : Nat → Nat → UInt8) (x y : Nat) : Nat → Nat → UInt8 := layG G x y (G y x == 108)
theorem turn_cases {G : Nat → Nat → UInt8} {x y : Nat} (h : turnB G x y = true) :
    (G y x = 108 ∧ G y (x + 1) = 114 ∧ G (y + 1) x = 108 ∧ G (y + 1) (x + 1) = 114) ∨ (G y x = 117 ∧ G y (x + 1) = 117 ∧ G (y + 1) x = 100 ∧ G (y + 1) (x + 1) = 100) := by
  simp only [turnB, Bool.or_eq_true, Bool.and_eq_true, beq_iff_eq] at h
  rcases h with ⟨⟨⟨a, b⟩, c⟩, d⟩ | ⟨⟨⟨a, b⟩, c⟩, d⟩
  · exact .inl ⟨a, b, c, d⟩
  · exact .inr ⟨a, b, c, d⟩
theorem flip_four {G : Nat → Nat → UInt8} {x y : Nat} (h : turnB G x y = true) :
    (G y x = 108 ∧ flipG G x y y x = 117 ∧ flipG G x y y (x + 1) = 117 ∧ flipG G x y (y + 1) x = 100 ∧ flipG G x y (y + 1) (x + 1) = 100) ∨
    (G y x = 117 ∧ flipG G x y y x = 108 ∧ flipG G x y y (x + 1) = 114 ∧ flipG G x y (y + 1) x = 108 ∧ flipG G x y (y + 1) (x + 1) = 114) := by
  unfold flipG
  rcases turn_cases h with ⟨a, _⟩ | ⟨a, _⟩
  · have f := layG_four G x y true
    rw [a]
    exact .inl ⟨rfl, f.1, f.2.1, f.2.2.1, f.2.2.2⟩
  · have f := layG_four G x y false
    rw [a]
    exact .inr ⟨rfl, f.1, f.2.1, f.2.2.1, f.2.2.2⟩
theorem flip_out {G : Nat → Nat → UInt8} {x y i j : Nat} (h : ¬ ((i = y ∨ i = y + 1) ∧ (j = x ∨ j = x + 1))) : flipG G x y i j = G i j := layG_out _ h
theorem flip_turn {G : Nat → Nat → UInt8} {x y : Nat} (h : turnB G x y = true) : turnB (flipG G x y) x y = true := by
  rcases flip_four h with ⟨_, a, b, c, d⟩ | ⟨_, a, b, c, d⟩ <;> simp [turnB, a, b, c, d]
theorem flip_back {G : Nat → Nat → UInt8} {x y : Nat} (h : turnB G x y = true) : flipG (flipG G x y) x y = G := by
  funext i j
  by_cases hb : (i = y ∨ i = y + 1) ∧ (j = x ∨ j = x + 1)
  · have h2 := flip_four (flip_turn h)
    rcases turn_cases h with ⟨a, b, c, d⟩ | ⟨a, b, c, d⟩
    · rcases flip_four h with ⟨e, f1, _⟩ | ⟨e, _⟩
      · rcases h2 with ⟨e2, _⟩ | ⟨_, g1, g2, g3, g4⟩
        · rw [f1] at e2; exact absurd e2 (by decide)
        · obtain ⟨rfl | rfl, rfl | rfl⟩ := hb
          · rw [g1, a]
          · rw [g2, b]
          · rw [g3, c]
          · rw [g4, d]
      · rw [a] at e; exact absurd e (by decide)
    · rcases flip_four h with ⟨e, _⟩ | ⟨e, f1, _⟩
      · rw [a] at e; exact absurd e (by decide)
      · rcases h2 with ⟨_, g1, g2, g3, g4⟩ | ⟨e2, _⟩
        · obtain ⟨rfl | rfl, rfl | rfl⟩ := hb
          · rw [g1, a]
          · rw [g2, b]
          · rw [g3, c]
          · rw [g4, d]
        · rw [f1] at e2; exact absurd e2 (by decide)
  · rw [flip_out hb, flip_out hb]
theorem flip_let {G : Nat → Nat → UInt8} {x y : Nat} (h : turnB G x y = true) {i j : Nat} (hG : G i j ∈ lrud) : flipG G x y i j ∈ lrud := by
  by_cases hb : (i = y ∨ i = y + 1) ∧ (j = x ∨ j = x + 1)
  · rcases flip_four h with ⟨_, a, b, c, d⟩ | ⟨_, a, b, c, d⟩
    · obtain ⟨rfl | rfl, rfl | rfl⟩ := hb
      · rw [a]; decide
      · rw [b]; decide
      · rw [c]; decide
      · rw [d]; decide
    · obtain ⟨rfl | rfl, rfl | rfl⟩ := hb
      · rw [a]; decide
      · rw [b]; decide
      · rw [c]; decide
      · rw [d]; decide
  · rw [flip_out hb]; exact hG
theorem flip_cov {G : Nat → Nat → UInt8} {x y : Nat} (h : turnB G x y = true) (i j : Nat) : covB (flipG G x y i j) = covB (G i j) := by
  by_cases hb : (i = y ∨ i = y + 1) ∧ (j = x ∨ j = x + 1)
  · rcases turn_cases h with ⟨a', b', c', d'⟩ | ⟨a', b', c', d'⟩ <;> rcases flip_four h with ⟨_, a, b, c, d⟩ | ⟨_, a, b, c, d⟩ <;>
    · obtain ⟨rfl | rfl, rfl | rfl⟩ := hb
      · rw [a, a']; try decide
      · rw [b, b']; try decide
      · rw [c, c']; try decide
      · rw [d, d']; try decide
  · rw [flip_out hb]
theorem flip_ok {h W : Nat} {G : Nat → Nat → UInt8} {x y : Nat} (hx : x + 1 < W) (hy : y + 1 < h) (ht : turnB G x y = true) (hok : ∀ i j, i < h → j < W → okAt h W G i j) : ∀ i j, i < h → j < W → okAt h W (flipG G x y) i j := by
  intro i j hi hj
  by_cases hb : (i = y ∨ i = y + 1) ∧ (j = x ∨ j = x + 1)
  · rcases flip_four ht with ⟨_, a, b, c, d⟩ | ⟨_, a, b, c, d⟩
    · obtain ⟨rfl | rfl, rfl | rfl⟩ := hb
      · unfold okAt; rw [a, c]
        exact ⟨fun e => absurd e (by decide), fun e => absurd e (by decide), fun _ => ⟨hy, rfl⟩, fun e => absurd e (by decide)⟩
      · unfold okAt; rw [b, d]
        exact ⟨fun e => absurd e (by decide), fun e => absurd e (by decide), fun _ => ⟨hy, rfl⟩, fun e => absurd e (by decide)⟩
      · unfold okAt; rw [c, show y + 1 - 1 = y from rfl, a]
        exact ⟨fun e => absurd e (by decide), fun e => absurd e (by decide), fun e => absurd e (by decide), fun _ => ⟨by omega, rfl⟩⟩
      · unfold okAt; rw [d, show y + 1 - 1 = y from rfl, b]
        exact ⟨fun e => absurd e (by decide), fun e => absurd e (by decide), fun e => absurd e (by decide), fun _ => ⟨by omega, rfl⟩⟩
    · obtain ⟨rfl | rfl, rfl | rfl⟩ := hb
      · unfold okAt; rw [a, b]
        exact ⟨fun _ => ⟨hx, rfl⟩, fun e => absurd e (by decide), fun e => absurd e (by decide), fun e => absurd e (by decide)⟩
      · unfold okAt; rw [b, show x + 1 - 1 = x from rfl, a]
        exact ⟨fun e => absurd e (by decide), fun _ => ⟨by omega, rfl⟩, fun e => absurd e (by decide), fun e => absurd e (by decide)⟩
      · unfold okAt; rw [c, d]
        exact ⟨fun _ => ⟨hx, rfl⟩, fun e => absurd e (by decide), fun e => absurd e (by decide), fun e => absurd e (by decide)⟩
      · unfold okAt; rw [d, show x + 1 - 1 = x from rfl, c]
        exact ⟨fun e => absurd e (by decide), fun _ => ⟨by omega, rfl⟩, fun e => absurd e (by decide), fun e => absurd e (by decide)⟩
  · have hk := hok i j hi hj
    have tc := turn_cases ht
    unfold okAt
    rw [flip_out hb]
    refine ⟨fun e => ?_, fun e => ?_, fun e => ?_, fun e => ?_⟩
    · have h1 := hk.1 e
      refine ⟨h1.1, ?_⟩
      rw [flip_out (fun hb2 => ?_)]
      · exact h1.2
      · have hj2 : j + 1 = x := by
          rcases hb2.2 with q | q
          · exact q
          · exact absurd ⟨hb2.1, .inl (by omega)⟩ hb
        have h2 := h1.2
        rw [hj2] at h2
        rcases tc with ⟨a, b, c, d⟩ | ⟨a, b, c, d⟩ <;> rcases hb2.1 with q | q <;> rw [q] at h2 <;> first | (rw [a] at h2; exact absurd h2 (by decide)) | (rw [c] at h2; exact absurd h2 (by decide))
    · have h1 := hk.2.1 e
      refine ⟨h1.1, ?_⟩
      rw [flip_out (fun hb2 => ?_)]
      · exact h1.2
      · have hj2 : j - 1 = x + 1 := by
          rcases hb2.2 with q | q
          · exact absurd ⟨hb2.1, .inr (by omega)⟩ hb
          · exact q
        have h2 := h1.2
        rw [hj2] at h2
        rcases tc with ⟨a, b, c, d⟩ | ⟨a, b, c, d⟩ <;> rcases hb2.1 with q | q <;> rw [q] at h2 <;> first | (rw [b] at h2; exact absurd h2 (by decide)) | (rw [d] at h2; exact absurd h2 (by decide))
    · have h1 := hk.2.2.1 e
      refine ⟨h1.1, ?_⟩
      rw [flip_out (fun hb2 => ?_)]
      · exact h1.2
      · have hi2 : i + 1 = y := by
          rcases hb2.1 with q | q
          · exact q
          · exact absurd ⟨.inl (by omega), hb2.2⟩ hb
        have h2 := h1.2
        rw [hi2] at h2
        rcases tc with ⟨a, b, c, d⟩ | ⟨a, b, c, d⟩ <;> rcases hb2.2 with q | q <;> rw [q] at h2 <;> first | (rw [a] at h2; exact absurd h2 (by decide)) | (rw [b] at h2; exact absurd h2 (by decide))
    · have h1 := hk.2.2.2 e
      refine ⟨h1.1, ?_⟩
      rw [flip_out (fun hb2 => ?_)]
      · exact h1.2
      · have hi2 : i - 1 = y + 1 := by
          rcases hb2.1 with q | q
          · exact absurd ⟨.inr (by omega), hb2.2⟩ hb
          · exact q
        have h2 := h1.2
        rw [hi2] at h2
        rcases tc with ⟨a, b, c, d⟩ | ⟨a, b, c, d⟩ <;> rcases hb2.2 with q | q <;> rw [q] at h2 <;> first | (rw [c] at h2; exact absurd h2 (by decide)) | (rw [d] at h2; exact absurd h2 (by decide))
/-- The text behind a turn. -/
def flipT (s : List UInt8) (x y : Nat) : List UInt8 := textOf (hOf s) (wOf s) (flipG (gOf s) x y)
/-- A tiling with a block turned is a tiling of the same cells; turned again it is what it was; it is another one. -/
theorem flip_text {s : List UInt8} (hT : Tiling s) {x y : Nat} (ht : turnAt (hOf s) (wOf s) (gOf s) x y = true) :
    Tiling (flipT s x y) ∧ (flipT s x y).map covB = s.map covB ∧ hOf (flipT s x y) = hOf s ∧ wOf (flipT s x y) = wOf s ∧ turnAt (hOf (flipT s x y)) (wOf (flipT s x y)) (gOf (flipT s x y)) x y = true ∧
      flipT (flipT s x y) x y = s ∧ flipT s x y ≠ s := by
  obtain ⟨h8, w8, h0, w0⟩ := good_h hT.1
  have hlt := turnAt_lt ht
  have hb : turnB (gOf s) x y = true := by
    unfold turnAt at ht
    simp only [Bool.and_eq_true] at ht
    exact ht.2
  have hlet : ∀ i j, i < hOf s → j < wOf s → flipG (gOf s) x y i j ∈ lrud := fun i j hi hj => flip_let hb (good_letter hT.1 i j hi hj)
  have hn : ∀ i j, i < hOf s → j < wOf s → flipG (gOf s) x y i j ≠ 47 := fun i j hi hj => lrud_ne (hlet i j hi hj)
  have hg : ∀ i j, i < hOf s → j < wOf s → gOf s i j ≠ 47 := fun i j hi hj => good_ne hT.1 i j hi hj
  obtain ⟨e1, e2, e3⟩ := text_grid (hOf s) (wOf s) (flipG (gOf s) x y) h0 hn
  have hs := good_text hT.1
  have t4 : turnB (gOf (flipT s x y)) x y = true := by
    have h4 := flip_turn hb
    unfold turnB at h4 ⊢
    unfold flipT
    rw [e3 y x (by omega) (by omega), e3 y (x + 1) (by omega) (by omega), e3 (y + 1) x (by omega) (by omega), e3 (y + 1) (x + 1) (by omega) (by omega)]
    exact h4
  refine ⟨tiling_text _ _ _ h0 h8 w0 w8 hlet (flip_ok (by omega) (by omega) hb hT.2), ?_, e1, e2, ?_, ?_, fun e => ?_⟩
  · have : s.map covB = (textOf (hOf s) (wOf s) (gOf s)).map covB := congrArg (List.map covB) hs
    rw [this]
    unfold flipT
    rw [text_map _ _ _ _ covB_slash h0, text_map _ _ _ _ covB_slash h0]
    exact textOf_congr (fun i j _ _ => flip_cov hb i j)
  · unfold turnAt
    rw [t4]
    have a1 : x + 1 < wOf (flipT s x y) := by rw [show wOf (flipT s x y) = wOf s from e2]; omega
    have a2 : y + 1 < hOf (flipT s x y) := by rw [show hOf (flipT s x y) = hOf s from e1]; omega
    simp [a1, a2]
  · have h5 : flipT (flipT s x y) x y = textOf (hOf s) (wOf s) (flipG (gOf (flipT s x y)) x y) := by
      show textOf (hOf (flipT s x y)) (wOf (flipT s x y)) _ = _
      rw [show wOf (flipT s x y) = wOf s from e2, show hOf (flipT s x y) = hOf s from e1]
    rw [h5]
    conv => rhs; rw [hs]
    refine textOf_congr (fun i j hi hj => ?_)
    have h6 : flipG (gOf (flipT s x y)) x y i j = flipG (flipG (gOf s) x y) x y i j := by
      have h7 : gOf (flipT s x y) y x = flipG (gOf s) x y y x := e3 y x (by omega) (by omega)
      unfold flipG at h7 ⊢
      rw [h7]
      generalize (layG (gOf s) x y (gOf s y x == 108) y x == 108) = bb
      by_cases hb2 : (i = y ∨ i = y + 1) ∧ (j = x ∨ j = x + 1)
      · have f1 := layG_four (gOf (flipT s x y)) x y bb
        have f2 := layG_four (layG (gOf s) x y (gOf s y x == 108)) x y bb
        obtain ⟨rfl | rfl, rfl | rfl⟩ := hb2
        · rw [f1.1, f2.1]
        · rw [f1.2.1, f2.2.1]
        · rw [f1.2.2.1, f2.2.2.1]
        · rw [f1.2.2.2, f2.2.2.2]
      · rw [layG_out _ hb2, layG_out _ hb2]
        exact e3 i j hi hj
    rw [h6, flip_back hb]
  · have h5 : textOf (hOf s) (wOf s) (flipG (gOf s) x y) = textOf (hOf s) (wOf s) (gOf s) := by
      show flipT s x y = _
      rw [e]
      exact hs
    have h6 := (text_inj h0 h0 (fun j hj => hn 0 j h0 hj) (fun j hj => hg 0 j h0 hj) h5).2.2 y x (by omega) (by omega)
    rcases flip_four hb with ⟨a, b, _⟩ | ⟨a, b, _⟩
    · rw [a, b] at h6; exact absurd h6 (by decide)
    · rw [a, b] at h6; exact absurd h6 (by decide)
end Go.Proofs.YtahihapgbcoanaaDoor
