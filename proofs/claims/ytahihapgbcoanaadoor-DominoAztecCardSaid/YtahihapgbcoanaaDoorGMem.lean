/- A grid of h rows of W bytes in memory, by its places. -/
import Derived.Test.YtahihapgbcoanaaDoorRowsW
namespace Go.Proofs.YtahihapgbcoanaaDoor
open Go.RowKit

/-- The byte in row i, column j. -/
def cellOf (g : List (List UInt8)) (i j : Nat) : UInt8 := (g.getD i []).getD j 0

structure GMem (w : World) (B top : Nat) (rb rc : Nat → Nat) (h W : Nat) (G : Nat → Nat → UInt8) : Prop where
  topB : B ≤ top
  topLt : top < w.heap.size
  row : ∀ i, i < h → w.cell? ⟨top, i, none⟩ = some (.slice (some ⟨rb i, 0, none⟩) W (rc i))
  cell : ∀ i j, i < h → j < W → w.cell? ⟨rb i, j, none⟩ = some (.int .u8 (G i j).toNat)
  frz : ∀ i j, i < h → j < W → w.frozen? ⟨rb i, j, none⟩ = false
  rbB : ∀ i, i < h → B ≤ rb i
  rbLt : ∀ i, i < h → rb i < w.heap.size
  inj : ∀ i k, i < h → k < h → rb i = rb k → i = k
  apart : ∀ i, i < h → rb i ≠ top

section
variable {w w' : World} {B top h W : Nat} {rb rc : Nat → Nat} {G : Nat → Nat → UInt8}
theorem GMem.same (m : GMem w B top rb rc h W G) (hsz : w.heap.size ≤ w'.heap.size) (hk : ∀ k, (k = top ∨ ∃ i, i < h ∧ rb i = k) → w'.heap[k]? = w.heap[k]?) : GMem w' B top rb rc h W G :=
  ⟨m.topB, Nat.lt_of_lt_of_le m.topLt hsz, fun i hi => (World.cell?_of_block (a := ⟨top, i, none⟩) (hk _ (.inl rfl))).trans (m.row i hi),
    fun i j hi hj => (World.cell?_of_block (a := ⟨rb i, j, none⟩) (hk _ (.inr ⟨i, hi, rfl⟩))).trans (m.cell i j hi hj),
    fun i j hi hj => (World.frozen?_of_block (a := ⟨rb i, j, none⟩) (hk _ (.inr ⟨i, hi, rfl⟩))).trans (m.frz i j hi hj), m.rbB, fun i hi => Nat.lt_of_lt_of_le (m.rbLt i hi) hsz, m.inj, m.apart⟩
theorem GMem.lt (m : GMem w B top rb rc h W G) : ∀ k, (k = top ∨ ∃ i, i < h ∧ rb i = k) → B ≤ k ∧ k < w.heap.size := by
  rintro k (rfl | ⟨i, hi, rfl⟩)
  · exact ⟨m.topB, m.topLt⟩
  · exact ⟨m.rbB i hi, m.rbLt i hi⟩
theorem GMem.below (m : GMem w B top rb rc h W G) (hb : Below w.heap.size w w') : GMem w' B top rb rc h W G := m.same hb.size fun k hk => hb.block k (m.lt k hk).2
theorem GMem.alloc (m : GMem w B top rb rc h W G) (o : Obj) : GMem (w.alloc o) B top rb rc h W G := m.same (by simp) fun k hk => Below.heap_alloc w o k (m.lt k hk).2
theorem GMem.drew (m : GMem w B top rb rc h W G) : GMem w.drew B top rb rc h W G := m.same (Nat.le_refl _) fun _ _ => rfl
theorem GMem.drewN (m : GMem w B top rb rc h W G) (n : Nat) : GMem (w.drewN n) B top rb rc h W G := m.same (Nat.le_refl _) fun _ _ => rfl
theorem GMem.setOut (m : GMem w B top rb rc h W G) {p : Addr} (hp : p.block ≠ top ∧ ∀ i, i < h → rb i ≠ p.block) (u : Value) : GMem (w.setCell p u) B top rb rc h W G :=
  m.same (by simp [World.setCell]) fun k hk => Below.heap_setCell w p u k (by
    rcases hk with rfl | ⟨i, hi, rfl⟩
    · exact fun e => hp.1 e.symm
    · exact hp.2 i hi)
theorem GMem.mono (m : GMem w B top rb rc h W G) {B' : Nat} (hB : B' ≤ B) : GMem w B' top rb rc h W G :=
  ⟨Nat.le_trans hB m.topB, m.topLt, m.row, m.cell, m.frz, fun i hi => Nat.le_trans hB (m.rbB i hi), m.rbLt, m.inj, m.apart⟩
/-- A byte is written. -/
theorem GMem.set (m : GMem w B top rb rc h W G) {i j : Nat} (hi : i < h) (hj : j < W) (c : UInt8) :
    GMem (w.setCell ⟨rb i, j, none⟩ (.int .u8 c.toNat)) B top rb rc h W (fun a b => if a = i ∧ b = j then c else G a b) := by
  have hsz : (w.setCell ⟨rb i, j, none⟩ (.int .u8 c.toNat)).heap.size = w.heap.size := by simp [World.setCell]
  refine ⟨m.topB, by rw [hsz]; exact m.topLt, fun a ha => ?_, fun a b ha hb => ?_, fun a b ha hb => by rw [World.frozen?_setCell]; exact m.frz a b ha hb, m.rbB, fun a ha => by rw [hsz]; exact m.rbLt a ha, m.inj, m.apart⟩
  · rw [World.cell?_setCell_other _ _ _ _ (fun e => m.apart i hi (congrArg Addr.block e))]
    exact m.row a ha
  · by_cases e : a = i ∧ b = j
    · obtain ⟨rfl, rfl⟩ := e
      rw [World.cell?_setCell_same' _ _ _ (by rw [m.cell a b ha hb]; rfl)]
      simp
    · rw [World.cell?_setCell_other _ _ _ _ (fun e2 => e (by
        have e3 := congrArg Addr.block e2
        have e4 := congrArg Addr.off e2
        exact ⟨(m.inj i a hi ha e3).symm, e4.symm⟩)), if_neg e]
      exact m.cell a b ha hb
theorem GMem.congr (m : GMem w B top rb rc h W G) {G' : Nat → Nat → UInt8} (hG : ∀ i j, i < h → j < W → G i j = G' i j) : GMem w B top rb rc h W G' :=
  ⟨m.topB, m.topLt, m.row, fun i j hi hj => by rw [← hG i j hi hj]; exact m.cell i j hi hj, m.frz, m.rbB, m.rbLt, m.inj, m.apart⟩
end

/-- The grid as rows hands it back, by its places. -/
theorem GridAt.gmem {w : World} {B : Nat} {v : Value} {rs : List GRow} {g : List (List UInt8)} {W : Nat} (m : GridAt w B v rs) (hrs : rs.map (·.1) = g) (hne : g ≠ []) (hW : ∀ r ∈ g, r.length = W) :
    ∃ top cap rb rc, v = .slice (some ⟨top, 0, none⟩) g.length cap ∧ GMem w B top rb rc g.length W (cellOf g) := by
  have hrn : rs ≠ [] := by intro e; rw [e] at hrs; exact hne hrs.symm
  obtain ⟨top, cap, hv, hcells⟩ := m.form hrn
  have hl : rs.length = g.length := by rw [← hrs, List.length_map]
  have hown : v.ownBlock = some top := by rw [hv]; rfl
  have hget : ∀ i, i < g.length → ∃ x, rs[i]? = some x ∧ rs.getD i ([], 0, 0) = x ∧ x ∈ rs ∧ g[i]? = some x.1 ∧ x.1.length = W := fun i hi => by
    have hi' : i < rs.length := by omega
    refine ⟨rs[i], List.getElem?_eq_getElem hi', by simp [List.getD, hi'], List.getElem_mem hi', ?_, ?_⟩
    · rw [← hrs, List.getElem?_map, List.getElem?_eq_getElem hi']; rfl
    · exact hW _ (by rw [← hrs]; exact List.mem_map.2 ⟨rs[i], List.getElem_mem hi', rfl⟩)
  refine ⟨top, cap, fun i => (rs.getD i ([], 0, 0)).2.1, fun i => (rs.getD i ([], 0, 0)).2.2, by rw [hv, hl], ?_⟩
  refine ⟨(m.lt top (.inl hown)).1, (m.lt top (.inl hown)).2, fun i hi => ?_, fun i j hi hj => ?_, fun i j hi hj => ?_, fun i hi => ?_, fun i hi => ?_, fun i k hi hk e => ?_, fun i hi => ?_⟩
  · obtain ⟨x, h1, h2, h3, h4, h5⟩ := hget i hi
    rw [h2, hcells i x h1, rowVal, h5]
  · obtain ⟨x, h1, h2, h3, h4, h5⟩ := hget i hi
    rw [h2]
    have := ((m.rows x h3).2.2 j (x.1[j]'(by omega)) (List.getElem?_eq_getElem (by omega))).1
    rw [this]
    simp [cellOf, List.getD, h4, h5, hj]
  · obtain ⟨x, h1, h2, h3, h4, h5⟩ := hget i hi
    rw [h2]
    exact ((m.rows x h3).2.2 j (x.1[j]'(by omega)) (List.getElem?_eq_getElem (by omega))).2
  · obtain ⟨x, h1, h2, h3, h4, h5⟩ := hget i hi
    rw [h2]
    exact (m.rows x h3).1
  · obtain ⟨x, h1, h2, h3, h4, h5⟩ := hget i hi
    rw [h2]
    exact (m.rows x h3).2.lt
  · have hi' : i < rs.length := by omega
    have hk' : k < rs.length := by omega
    have hnd := m.apart
    have e1 : (rs.map (·.2.1))[i]? = some (rs.getD i ([], 0, 0)).2.1 := by rw [List.getElem?_map]; simp [List.getD, hi']
    have e2 : (rs.map (·.2.1))[k]? = some (rs.getD k ([], 0, 0)).2.1 := by rw [List.getElem?_map]; simp [List.getD, hk']
    have e : (rs.getD i ([], 0, 0)).2.1 = (rs.getD k ([], 0, 0)).2.1 := e
    refine (List.getElem?_inj (by simpa using hi') hnd).1 ?_
    rw [e1, e2, e]
  · obtain ⟨x, h1, h2, h3, h4, h5⟩ := hget i hi
    have := m.top_ne x h3
    rw [h2]
    intro e
    exact this (by rw [hown, e])
end Go.Proofs.YtahihapgbcoanaaDoor
