/- Plain facts for the law DominoAztec: how many tilings a diamond has; a tiling of it with a block turned; two shuffles of it. -/
import Derived.Test.YtahihapgbcoanaaDoorBackW
namespace Go.Proofs.YtahihapgbcoanaaDoor
open Go.RowKit

theorem az_ne47 : ∀ m, m < 5 → ∀ i, i < 2 * m → ∀ j, j < 2 * m → azG m i j ≠ 47 ∧ azG m i j ∈ hash := by decide +kernel
theorem az_grid {m : Nat} (h1 : 1 ≤ m) (h4 : m ≤ 4) : hOf (azT m) = 2 * m ∧ wOf (azT m) = 2 * m ∧ ∀ i j, i < 2 * m → j < 2 * m → gOf (azT m) i j = azG m i j :=
  text_grid (2 * m) (2 * m) (azG m) (by omega) (fun i j hi hj => (az_ne47 m (by omega) i hi j hj).1)
theorem az_good {m : Nat} (h1 : 1 ≤ m) (h4 : m ≤ 4) : Good hash (pieces (azT m)) := by
  have e : pieces (azT m) = rowsOf (2 * m) (2 * m) (azG m) := pieces_text (2 * m) (2 * m) (azG m) (by omega) (fun i j hi hj => (az_ne47 m (by omega) i hi j hj).1)
  rw [e]
  exact good_rows_of hash (2 * m) (2 * m) (azG m) (by omega) (by omega) (by omega) (by omega) (fun i j hi hj => (az_ne47 m (by omega) i hi j hj).2)
theorem stepC_congr {W h : Nat} {S S' : Nat → Nat → UInt8} (hS : ∀ i j, i < h → j < W → S i j = S' i j) (i j m : Nat) (hi : i < h) (hj : j < W) : stepC W S i j m = stepC W S' i j m := by
  unfold stepC
  rw [hS i j hi hj]
  by_cases hj1 : j + 1 < W
  · rw [hS i (j + 1) hi hj1]
  · simp [hj1]
theorem waysC_congr {W h : Nat} {S S' : Nat → Nat → UInt8} (hW : 0 < W) (hS : ∀ i j, i < h → j < W → S i j = S' i j) : ∀ n k m, k + n ≤ h * W → waysC W S n k m = waysC W S' n k m := by
  intro n
  induction n with
  | zero => intro k m _; rfl
  | succ n ih =>
    intro k m hk
    unfold waysC
    rw [stepC_congr hS (k / W) (k % W) m (code_row (by omega)) (Nat.mod_lt _ hW)]
    congr 1
    apply List.map_congr_left
    intro x _
    exact ih (k + 1) x (by omega)
set_option maxRecDepth 100000 in
theorem az_one : waysC 2 (azG 1) 4 0 0 = 2 := by decide +kernel
set_option maxRecDepth 100000 in
theorem az_two : waysC 4 (azG 2) 16 0 0 = 8 := by decide +kernel
set_option maxRecDepth 100000 in
theorem az_three : waysC 6 (azG 3) 36 0 0 = 64 := by decide +kernel
set_option maxRecDepth 100000 in
theorem az_four : waysC 8 (azG 4) 64 0 0 = 1024 := by decide +kernel
theorem az_count {m : Nat} (h1 : 1 ≤ m) (h4 : m ≤ 4) : waysC (wOf (azT m)) (gOf (azT m)) (hOf (azT m) * wOf (azT m)) 0 0 = 2 ^ (m * (m + 1) / 2) := by
  obtain ⟨e1, e2, e3⟩ := az_grid h1 h4
  rw [e1, e2, waysC_congr (h := 2 * m) (by omega) e3 _ 0 0 (by omega)]
  obtain rfl | rfl | rfl | rfl : m = 1 ∨ m = 2 ∨ m = 3 ∨ m = 4 := by omega
  · exact az_one
  · exact az_two
  · exact az_three
  · exact az_four
/-- A tiling of the diamond of order m. -/
def AzTile (m : Nat) (s : List UInt8) : Prop := Tiling s ∧ s.map covB = azT m
theorem AzTile.blocks {m : Nat} {s : List UInt8} (h : AzTile m s) (h1 : 1 ≤ m) (h4 : m ≤ 4) : 0 < (ptsTo (hOf s) (wOf s) (gOf s) (hOf s)).length := by
  obtain ⟨T, e1, e2⟩ := dia_tile h.1 h1 h4 h.2
  obtain ⟨x, y, hxy⟩ := block_exists h1 h4 T
  rw [← e1] at hxy
  have hxy : turnAt (hOf s) (wOf s) (gOf s) x y = true := by rw [e2, ← e1]; exact hxy
  exact List.length_pos_of_mem ((mem_ptsTo _ _ _ _ _).2 hxy)
theorem AzTile.flip {m : Nat} {s : List UInt8} (h : AzTile m s) {x y : Nat} (ht : turnAt (hOf s) (wOf s) (gOf s) x y = true) : AzTile m (flipT s x y) := by
  obtain ⟨f1, f2, _⟩ := flip_text h.1 ht
  exact ⟨f1, f2.trans h.2⟩
theorem AzTile.len {m : Nat} {s : List UInt8} (h : AzTile m s) : s.length ≤ 71 := good_len h.1.1
theorem AzTile.dia {m : Nat} {s : List UInt8} (h : AzTile m s) (h1 : 1 ≤ m) (h3 : m ≤ 3) : Dia s m := by
  obtain ⟨_, e1, _⟩ := dia_tile h.1 h1 (by omega) h.2
  exact ⟨h.1, by omega, h1, h3, h.2⟩
theorem az_size {m n : Nat} (h1 : 1 ≤ m) (h4 : m ≤ 4) (g1 : 1 ≤ n) (g4 : n ≤ 4) (h : azT m = azT n) : m = n := by
  have e := (az_grid h1 h4).1
  rw [h, (az_grid g1 g4).1] at e
  omega
theorem AzTile.dia_only {m n : Nat} {s : List UInt8} (h : AzTile m s) (h1 : 1 ≤ m) (h4 : m ≤ 4) (hd : Dia s n) : n = m := by
  have := hd.2.2.2.2
  rw [h.2] at this
  exact (az_size h1 h4 hd.2.2.1 (by have := hd.2.2.2.1; omega) this).symm
theorem AzTile.err {m : Nat} {s : List UInt8} (h : AzTile m s) (h1 : 1 ≤ m) (h4 : m ≤ 4) {er : Int} (he : ErrIs s er) : m = 4 ∧ er = 2 := by
  obtain ⟨_, e1, _⟩ := dia_tile h.1 h1 h4 h.2
  have e2 : hOf s / 2 = m := by omega
  rcases he with ⟨_, h2⟩ | ⟨_, _, h2⟩ | ⟨h2, _, h3, _⟩
  · exact absurd h.1 h2
  · rw [e2] at h2
    rcases h2 with h2 | h2
    · omega
    · exact absurd h.2 h2
  · exact ⟨by omega, h2⟩
theorem peel_in {H : Nat} : ∀ {ps : List (Nat × Nat)} {O : Nat → Nat → UInt8}, PeelG H O ps → ∀ p ∈ ps, p.1 < H ∧ p.2 < H := by
  intro ps
  induction ps with
  | nil => intro O _ p hp; simp at hp
  | cons q ps ih =>
    intro O h p hp
    obtain ⟨h1, h2, _, _, h5⟩ := h
    rcases List.mem_cons.1 hp with rfl | hp
    · omega
    · exact ih h5 p hp
/-- What Needs and Shuffle make of it: the blocks left open, whatever lies in them a tiling of the next diamond; two ways of laying them are two tilings. -/
theorem AzTile.shuffle {m : Nat} {s : List UInt8} (h : AzTile m s) (h1 : 1 ≤ m) (h3 : m ≤ 3) : ∃ ps : List (Nat × Nat), PeelG (2 * (m + 1)) (shG m (gOf s)) ps ∧ m + 1 ≤ ps.length ∧ ps.length ≤ 64 ∧
    cntTo (2 * (m + 1)) (shG m (gOf s)) (2 * (m + 1)) / 4 = ps.length ∧
    (∀ bs : List Bool, ps.length = bs.length → AzTile (m + 1) (textOf (2 * (m + 1)) (2 * (m + 1)) (layAll (shG m (gOf s)) ps bs))) ∧
    (∀ (bs cs : List Bool) (q : Nat) (a b : Bool), bs[q]? = some a → cs[q]? = some b → a ≠ b → ps.length = bs.length → ps.length = cs.length →
      textOf (2 * (m + 1)) (2 * (m + 1)) (layAll (shG m (gOf s)) ps bs) ≠ textOf (2 * (m + 1)) (2 * (m + 1)) (layAll (shG m (gOf s)) ps cs)) := by
  obtain ⟨T, e1, e2⟩ := dia_tile h.1 h1 (by omega) h.2
  obtain ⟨ps, p1, p2, p3, p4, p5, p6⟩ := sh_all h1 h3 T
  have tile : ∀ bs : List Bool, ps.length = bs.length → TileG (m + 1) (layAll (shG m (gOf s)) ps bs) := fun bs hb => lay_tile ps bs _ p1 p2 p6 hb
  refine ⟨ps, p1, p3, p4, by omega, fun bs hb => tile_dia (by omega) (by omega) (tile bs hb), fun bs cs q a b ha hb hab hl1 hl2 he => ?_⟩
  have T1 := tile bs hl1
  have T2 := tile cs hl2
  have hq : q < ps.length := by rw [hl1]; exact (List.getElem?_eq_some_iff.1 ha).1
  obtain ⟨p, hp⟩ : ∃ p, ps[q]? = some p := ⟨_, List.getElem?_eq_getElem hq⟩
  have b1 := lay_bit ps bs _ p2 q p a hp ha
  have b2 := lay_bit ps cs _ p2 q p b hp hb
  have hin : ∀ p ∈ ps, p.1 < 2 * (m + 1) ∧ p.2 < 2 * (m + 1) := peel_in p1
  have hpi := hin p (List.mem_of_getElem? hp)
  have hg := (text_inj (by omega) (by omega) (fun j hj => lrud_ne (T1.let_ 0 j (by omega) hj)) (fun j hj => lrud_ne (T2.let_ 0 j (by omega) hj)) he).2.2 p.2 p.1 hpi.2 hpi.1
  rw [b1, b2] at hg
  cases a <;> cases b <;> simp at hab hg
end Go.Proofs.YtahihapgbcoanaaDoor
