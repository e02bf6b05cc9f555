/- A grid of bytes in memory: a slice of the call's own whose cells are slices onto blocks of bytes, no two one. -/
import Derived.Test.YtahihapgbcoanaaDoorLoop
import Derived.Lib.ConvBytes
import Derived.Laws.OwnMore
import Derived.Deep.Draws
namespace Go.Proofs.YtahihapgbcoanaaDoor
open Go.RowKit

/-- Block b holds the bytes r at its head. -/
def RowAt (w : World) (b : Nat) (r : List UInt8) : Prop :=
  (∃ cur fr, w.heap[b]? = some (.cells cur 5 fr)) ∧ ∀ j c, r[j]? = some c → w.cell? ⟨b, j, none⟩ = some (.int .u8 c.toNat) ∧ w.frozen? ⟨b, j, none⟩ = false

theorem RowAt.lt {w : World} {b : Nat} {r : List UInt8} (h : RowAt w b r) : b < w.heap.size := by
  obtain ⟨⟨_, _, h⟩, _⟩ := h
  exact (Array.getElem?_eq_some_iff.1 h).1

theorem RowAt.same {w w' : World} {b : Nat} {r : List UInt8} (h : RowAt w b r) (hb : w'.heap[b]? = w.heap[b]?) : RowAt w' b r := by
  refine ⟨?_, fun j c hj => ?_⟩
  · obtain ⟨cur, fr, e⟩ := h.1
    exact ⟨cur, fr, hb.trans e⟩
  · obtain ⟨h1, h2⟩ := h.2 j c hj
    exact ⟨(World.cell?_of_block (a := ⟨b, j, none⟩) hb).trans h1, (World.frozen?_of_block (a := ⟨b, j, none⟩) hb).trans h2⟩

/-- A row of the grid: its bytes, its block, its capacity. -/
abbrev GRow := List UInt8 × Nat × Nat
def rowVal (x : GRow) : Value := .slice (some ⟨x.2.1, 0, none⟩) x.1.length x.2.2

structure GridAt (w : World) (B : Nat) (v : Value) (rs : List GRow) : Prop where
  own : w.ownsRow B 63 1 v rs.length (rs.map rowVal)
  rows : ∀ x ∈ rs, B ≤ x.2.1 ∧ RowAt w x.2.1 x.1
  apart : (rs.map (·.2.1)).Nodup

theorem GridAt.nil (w : World) (B : Nat) : GridAt w B (.slice none 0 0) [] := ⟨World.ownsRow_nil _ _ _ _, by simp, by simp⟩

theorem GridAt.top_ne {w : World} {B : Nat} {v : Value} {rs : List GRow} (h : GridAt w B v rs) : ∀ x ∈ rs, v.ownBlock ≠ some x.2.1 := by
  intro x hx e
  rcases h.own.2 with ⟨rfl, _⟩ | ⟨g, cap, cur, rfl, _, hh, _⟩
  · simp [Value.ownBlock] at e
  · simp [Value.ownBlock] at e
    subst e
    obtain ⟨⟨cur', fr, h5⟩, _⟩ := (h.rows x hx).2
    rw [hh] at h5
    simp at h5

theorem GridAt.same {w w' : World} {B : Nat} {v : Value} {rs : List GRow} (h : GridAt w B v rs)
    (hk : ∀ k, (v.ownBlock = some k ∨ ∃ x ∈ rs, x.2.1 = k) → w'.heap[k]? = w.heap[k]?) : GridAt w' B v rs := by
  refine ⟨⟨h.own.1, ?_⟩, fun x hx => ⟨(h.rows x hx).1, (h.rows x hx).2.same (hk _ (.inr ⟨x, hx, rfl⟩))⟩, h.apart⟩
  rcases h.own.2 with hn | ⟨g, cap, cur, hv, hb, hh, h1, h2, h3, h4⟩
  · exact .inl hn
  · exact .inr ⟨g, cap, cur, hv, hb, (hk g (.inl (by rw [hv]; rfl))).trans hh, h1, h2, h3, h4⟩

theorem GridAt.lt {w : World} {B : Nat} {v : Value} {rs : List GRow} (h : GridAt w B v rs) : ∀ k, (v.ownBlock = some k ∨ ∃ x ∈ rs, x.2.1 = k) → B ≤ k ∧ k < w.heap.size := by
  rintro k (hk | ⟨x, hx, rfl⟩)
  · exact h.own.lt k hk
  · exact ⟨(h.rows x hx).1, (h.rows x hx).2.lt⟩

theorem GridAt.below {w w' : World} {B : Nat} {v : Value} {rs : List GRow} (h : GridAt w B v rs) (hb : Below w.heap.size w w') : GridAt w' B v rs :=
  h.same fun k hk => hb.block k (h.lt k hk).2
theorem GridAt.alloc {w : World} {B : Nat} {v : Value} {rs : List GRow} (h : GridAt w B v rs) (o : Obj) : GridAt (w.alloc o) B v rs :=
  h.same fun k hk => Below.heap_alloc w o k (h.lt k hk).2
theorem GridAt.drew {w : World} {B : Nat} {v : Value} {rs : List GRow} (h : GridAt w B v rs) : GridAt w.drew B v rs := h.same fun _ _ => rfl
theorem GridAt.drewN {w : World} {B : Nat} {v : Value} {rs : List GRow} (h : GridAt w B v rs) (n : Nat) : GridAt (w.drewN n) B v rs := h.same fun _ _ => rfl
theorem GridAt.setCell {w : World} {B : Nat} {v : Value} {rs : List GRow} (h : GridAt w B v rs) {p : Addr} (hp : p.block < B) (u : Value) : GridAt (w.setCell p u) B v rs :=
  h.same fun k hk => Below.heap_setCell w p u k (by have := (h.lt k hk).1; omega)
theorem GridAt.bytes {w : World} {B : Nat} {v : Value} {rs : List GRow} (h : GridAt w B v rs) (s : ByteArray) : GridAt (Lib.bytesWorld w 5 s) B v rs :=
  h.same fun k hk => Lib.bytesWorld_at_old w 5 s k (h.lt k hk).2
theorem GridAt.grown {w w' : World} {B : Nat} {v : Value} {rs : List GRow} (h : GridAt w B v rs) {row : Option Nat} (hg : w.grownBy w' row)
    (hr : ∀ g, row = some g → v.ownBlock ≠ some g ∧ ∀ x ∈ rs, x.2.1 ≠ g) : GridAt w' B v rs :=
  h.same fun k hk => hg.block k (h.lt k hk).2 (by
    intro e
    obtain ⟨h1, h2⟩ := hr k e.symm
    rcases hk with hk | ⟨x, hx, rfl⟩
    · exact h1 hk
    · exact h2 x hx rfl)

/-- The list's own cells, where there are rows. -/
theorem GridAt.form {w : World} {B : Nat} {v : Value} {rs : List GRow} (h : GridAt w B v rs) (hne : rs ≠ []) :
    ∃ g cap, v = .slice (some ⟨g, 0, none⟩) rs.length cap ∧ ∀ j x, rs[j]? = some x → w.cell? ⟨g, j, none⟩ = some (rowVal x) := by
  have hl : 0 < rs.length := List.length_pos_iff.2 hne
  rcases h.own.2 with ⟨e, hn⟩ | ⟨g, cap, cur, e, _, _, _, _, _, _⟩
  · omega
  · refine ⟨g, cap, e, fun j x hj => ?_⟩
    have hown := h.own
    rw [e] at hown
    have hlt : j < rs.length := by
      rcases Nat.lt_or_ge j rs.length with h | h
      · exact h
      · rw [List.getElem?_eq_none h] at hj; cases hj
    rw [hown.cellAt j (by omega), List.getElem?_map, hj]
    rfl
theorem GridAt.mono {w : World} {B B' : Nat} {v : Value} {rs : List GRow} (h : GridAt w B v rs) (hB : B' ≤ B) : GridAt w B' v rs := by
  refine ⟨⟨h.own.1, ?_⟩, fun x hx => ⟨Nat.le_trans hB (h.rows x hx).1, (h.rows x hx).2⟩, h.apart⟩
  rcases h.own.2 with hn | ⟨g, cap, cur, hv, hb, r⟩
  · exact .inl hn
  · exact .inr ⟨g, cap, cur, hv, Nat.le_trans hB hb, r⟩

/-- A row of bytes made out of a text. -/
theorem RowAt.bytes (w : World) (r : List UInt8) : RowAt (Lib.bytesWorld w 5 ⟨r.toArray⟩) w.heap.size r := by
  refine ⟨⟨_, _, Lib.bytesWorld_at_new w 5 _⟩, fun j c hj => ?_⟩
  have hlt : j < r.length := by
    rcases Nat.lt_or_ge j r.length with h | h
    · exact h
    · rw [List.getElem?_eq_none h] at hj; cases hj
  refine ⟨?_, ?_⟩
  · rw [Lib.bytesWorld_cell w 5 _ j (by simpa [ByteArray.size] using hlt)]
    simp [List.getD, hj]
  · simp [World.frozen?, Lib.bytesWorld_at_new, Lib.bytesCells]
    omega
theorem below_bytes {B : Nat} {a w : World} (h : Below B a w) (hB : B ≤ w.heap.size) (s : ByteArray) : Below B a (Lib.bytesWorld w 5 s) := by
  refine ⟨h.os, h.tape, h.output, ?_, fun k hk => (Lib.bytesWorld_at_old w 5 s k (by omega)).trans (h.block k hk)⟩
  rw [Lib.bytesWorld_size]; exact Nat.le_succ_of_le h.size
end Go.Proofs.YtahihapgbcoanaaDoor
