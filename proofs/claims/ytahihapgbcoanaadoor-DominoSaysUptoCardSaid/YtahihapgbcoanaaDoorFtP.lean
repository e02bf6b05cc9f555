/- Plain facts for the reference's FirstTiling: what is left and what is laid at each cell, told by First's own search. -/
import Derived.Test.YtahihapgbcoanaaDoorTilP
namespace Go.Proofs.YtahihapgbcoanaaDoor

/-- The cells still open ahead of code k, as a grid. -/
def leftG (W : Nat) (S : Nat → Nat → UInt8) (k m i j : Nat) : UInt8 := if openK W S k m (i * W + j) = true then 35 else 46
theorem leftG_two (h W : Nat) (S : Nat → Nat → UInt8) (k m : Nat) : Two h W (leftG W S k m) := by
  intro i j _ _
  unfold leftG
  split
  · exact .inl rfl
  · exact .inr rfl
theorem leftG_iff {W : Nat} {S : Nat → Nat → UInt8} {k m i j : Nat} : leftG W S k m i j = 35 ↔ openK W S k m (i * W + j) = true := by
  unfold leftG
  split
  · rename_i h; simp [h]
  · rename_i h; simp [h]
theorem leftG_code {W : Nat} {S : Nat → Nat → UInt8} {k m : Nat} (c : Nat) : oG W (leftG W S k m) c = openK W S k m c := by
  unfold oG
  have e : c / W * W + c % W = c := by rw [Nat.mul_comm]; exact Nat.div_add_mod c W
  rw [Bool.eq_iff_iff, beq_iff_eq, leftG_iff, e]
/-- What holds between two cells: k cells done, m covers some ahead, G is what is laid. -/
structure FtI (h W : Nat) (S FF : Nat → Nat → UInt8) (k m : Nat) (G : Nat → Nat → UInt8) : Prop where
  inv : InvF h W S k m G
  way : wayF h W S (h * W - k) k m = true
  fin : fillF h W S (h * W - k) k m G = FF
theorem FtI.start {h W : Nat} {S : Nat → Nat → UInt8} (hw : wayF h W S (h * W) 0 0 = true) : FtI h W S (fillF h W S (h * W) 0 0 S) 0 0 S := ⟨InvF.start, hw, rfl⟩
theorem left_start {h W : Nat} {S : Nat → Nat → UInt8} (T : Two h W S) (i j : Nat) (hi : i < h) (hj : j < W) : leftG W S 0 0 i j = S i j := by
  have e := code_of (y := i) hj
  unfold leftG openK
  rw [Nat.zero_testBit, e.1, e.2]
  rcases T i j hi hj with h1 | h1 <;> rw [h1] <;> simp
theorem FtI.skip {h W : Nat} {S FF G : Nat → Nat → UInt8} {k m : Nat} (F : FtI h W S FF k m G) (hk : k < h * W) (h0 : S (k / W) (k % W) ≠ 35 ∨ m % 2 = 1) : FtI h W S FF (k + 1) (m / 2) G ∧ ∀ i j, leftG W S (k + 1) (m / 2) i j = leftG W S k m i j := by
  obtain ⟨n, hn⟩ : ∃ n, h * W - k = n + 1 := ⟨h * W - k - 1, by omega⟩
  have hw := F.way
  have hf := F.fin
  rw [hn] at hw hf
  unfold wayF at hw
  unfold fillF at hf
  refine ⟨⟨F.inv.odd, ?_, ?_⟩, fun i j => ?_⟩
  · rw [show h * W - (k + 1) = n from by omega]
    by_cases h1 : m % 2 = 1
    · rw [if_pos h1] at hw; exact hw
    · rw [if_neg h1, if_pos (h0.resolve_right h1)] at hw; exact hw
  · rw [show h * W - (k + 1) = n from by omega]
    by_cases h1 : m % 2 = 1
    · rw [if_pos h1] at hf; exact hf
    · rw [if_neg h1, if_pos (h0.resolve_right h1)] at hf; exact hf
  · unfold leftG
    rw [open_half h0]
/-- The two domino ways at an open cell. -/
theorem FtI.lie {h W : Nat} {S FF G : Nat → Nat → UInt8} {k m : Nat} (F : FtI h W S FF k m G) (hk : k < h * W) (h1 : ¬ m % 2 = 1) (h35 : S (k / W) (k % W) = 35) (hl : lieB W S (k / W) (k % W) m = true) (hw : wayF h W S (h * W - (k + 1)) (k + 1) (m / 2 ||| 1) = true) :
    FtI h W S FF (k + 1) (m / 2 ||| 1) (set2 G (k / W) (k % W) 108 (k / W) (k % W + 1) 114) := by
  obtain ⟨n, hn⟩ : ∃ n, h * W - k = n + 1 := ⟨h * W - k - 1, by omega⟩
  have hf := F.fin
  rw [hn] at hf
  have e : h * W - (k + 1) = n := by omega
  rw [e] at hw
  unfold fillF at hf
  rw [if_neg h1, if_neg (by rw [h35]; decide), if_pos (by rw [hl, hw]; rfl)] at hf
  exact ⟨(F.inv.lie hk hl).1, by rw [e]; exact hw, by rw [e]; exact hf⟩
theorem FtI.stand {h W : Nat} (hW : 0 < W) {S FF G : Nat → Nat → UInt8} {k m : Nat} (F : FtI h W S FF k m G) (hk : k < h * W) (h1 : ¬ m % 2 = 1) (h35 : S (k / W) (k % W) = 35) (hl : (lieB W S (k / W) (k % W) m && wayF h W S (h * W - (k + 1)) (k + 1) (m / 2 ||| 1)) = false) :
    standB h S (k / W) (k % W) = true ∧ wayF h W S (h * W - (k + 1)) (k + 1) (m / 2 ||| 2 ^ (W - 1)) = true ∧ FtI h W S FF (k + 1) (m / 2 ||| 2 ^ (W - 1)) (set2 G (k / W) (k % W) 117 (k / W + 1) (k % W) 100) := by
  obtain ⟨n, hn⟩ : ∃ n, h * W - k = n + 1 := ⟨h * W - k - 1, by omega⟩
  have hw := F.way
  have hf := F.fin
  rw [hn] at hw hf
  have e : h * W - (k + 1) = n := by omega
  rw [e] at hl ⊢
  unfold wayF at hw
  unfold fillF at hf
  rw [if_neg h1, if_neg (by rw [h35]; decide), hl, Bool.false_or, Bool.and_eq_true] at hw
  rw [if_neg h1, if_neg (by rw [h35]; decide), hl, if_neg (by decide)] at hf
  exact ⟨hw.1, hw.2, ⟨(F.inv.stand hW hw.1).1, by rw [e]; exact hw.2, by rw [e]; exact hf⟩⟩
/-- What Tilings says of what is left behind a domino: is there a way on? -/
theorem left_cnt {h W : Nat} (hW : 0 < W) {S : Nat → Nat → UInt8} (T : Two h W S) {k m : Nat} (hk : k ≤ h * W) (hm : m < 2 ^ W) (hv : ValidM (h * W) W S k m) : 0 < cntG h W (leftG W S k m) ↔ wayF h W S (h * W - k) k m = true := by
  rw [way_iff hW (T.codes hW) (h * W - k) k m (by omega) hm hv, ways_cnt hW (T.codes hW) (h * W - k) k m (by omega) hm hv]
  unfold cntG
  rw [cnt_congr fun c _ => leftG_code c]
/-- What is left behind a domino, as a grid. -/
theorem left_or {W : Nat} {S : Nat → Nat → UInt8} {k m b y x y2 x2 : Nat} (hx : x < W) (hx2 : x2 < W) (hk : y * W + x = k) (hk2 : y2 * W + x2 = k + 1 + b) (i j : Nat) (hj : j < W) :
    leftG W S (k + 1) (m / 2 ||| 2 ^ b) i j = set2 (leftG W S k m) y x 46 y2 x2 46 i j := by
  have e := open_or (W := W) (S := S) (k := k) (m := m) (b := b) (i * W + j)
  have d1 : (i * W + j = k) ↔ (i = y ∧ j = x) := by
    rw [← hk, dm_eq (n := W) (y := y) (x := x) hx, (code_of hj).1, (code_of hj).2]
  have d2 : (i * W + j = k + 1 + b) ↔ (i = y2 ∧ j = x2) := by
    rw [← hk2, dm_eq (n := W) (y := y2) (x := x2) hx2, (code_of hj).1, (code_of hj).2]
  unfold set2
  by_cases c2 : i = y2 ∧ j = x2
  · rw [if_pos c2]
    unfold leftG
    rw [← e]
    simp [without, d2.2 c2]
  · rw [if_neg c2]
    by_cases c1 : i = y ∧ j = x
    · rw [if_pos c1]
      unfold leftG
      rw [← e]
      simp [without, d1.2 c1]
    · rw [if_neg c1]
      unfold leftG
      rw [← e]
      have n1 : (i * W + j != k) = true := bne_iff_ne.2 (fun e => c1 (d1.1 e))
      have n2 : (i * W + j != k + 1 + b) = true := bne_iff_ne.2 (fun e => c2 (d2.1 e))
      simp [without, n1, n2]
/-- The open cell, its right neighbour, the one below. -/
theorem left_here {W : Nat} {S : Nat → Nat → UInt8} {k m y x : Nat} (hk : y * W + x = k) : leftG W S k m y x = 35 ↔ (S (k / W) (k % W) = 35 ∧ ¬ m % 2 = 1) := by
  rw [leftG_iff, hk]
  unfold openK
  rw [Nat.sub_self, Nat.testBit_zero]
  simp
theorem left_right {W : Nat} {S : Nat → Nat → UInt8} {k m y x : Nat} (hx : x + 1 < W) (hk : y * W + x = k) : leftG W S k m y (x + 1) = 35 ↔ lieB W S (k / W) (k % W) m = true := by
  have hc := code_of (y := y) (x := x) (W := W) (by omega)
  rw [hk] at hc
  have hn := cell_next (W := W) (k := k) (by rw [hc.2]; exact hx)
  rw [leftG_iff, show y * W + (x + 1) = k + 1 from by omega]
  unfold openK lieB
  rw [show k + 1 - k = 1 from by omega, bit_one, hn.1, hn.2, hc.1, hc.2]
  simp only [Bool.and_eq_true, decide_eq_true_eq, beq_iff_eq, Bool.not_eq_true', decide_eq_false_iff_not]
  constructor
  · rintro ⟨_, a, b⟩; exact ⟨hx, by omega, a⟩
  · rintro ⟨_, a, b⟩; exact ⟨by omega, b, by omega⟩
theorem left_below {h W : Nat} {S : Nat → Nat → UInt8} {k m y x : Nat} (hx : x < W) (hy : y + 1 < h) (hm : m < 2 ^ W) (hk : y * W + x = k) : leftG W S k m (y + 1) x = 35 ↔ standB h S (k / W) (k % W) = true := by
  have hc := code_of (y := y) (x := x) (W := W) hx
  rw [hk] at hc
  have hn := cell_below (W := W) (k := k) (by omega)
  rw [leftG_iff, show (y + 1) * W + x = k + W from by rw [Nat.succ_mul]; omega]
  unfold openK standB
  rw [show k + W - k = W from by omega, Nat.testBit_lt_two_pow hm, hn.1, hn.2, hc.1, hc.2]
  simp [hy]
end Go.Proofs.YtahihapgbcoanaaDoor
