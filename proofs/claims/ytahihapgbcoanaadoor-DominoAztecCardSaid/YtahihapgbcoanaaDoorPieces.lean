/- Plain: a text's pieces between its slashes. No program. -/
import Derived.Lib.Bytealg
namespace Go.Proofs.YtahihapgbcoanaaDoor
/-- A text's pieces between its slashes. -/
def pieces : List UInt8 → List (List UInt8)
  | [] => [[]]
  | c :: r => if c = 47 then [] :: pieces r else match pieces r with
    | p :: ps => (c :: p) :: ps
    | [] => [[c]]

theorem pieces_ne (l : List UInt8) : pieces l ≠ [] := by
  cases l with
  | nil => simp [pieces]
  | cons c r =>
    unfold pieces
    split
    · simp
    · split <;> simp

theorem pieces_index (l : List UInt8) :
    (Lib.indexByte l 47 = -1 ∧ pieces l = [l]) ∨
    (∃ i : Nat, Lib.indexByte l 47 = i ∧ i < l.length ∧ pieces l = l.take i :: pieces (l.drop (i + 1))) := by
  induction l with
  | nil => left; simp [Lib.indexByte, pieces]
  | cons c r ih =>
    by_cases h : c = 47
    · right
      refine ⟨0, ?_, by simp, ?_⟩
      · simp [Lib.indexByte, h]
      · simp [pieces, h]
    · rcases ih with ⟨h1, h2⟩ | ⟨i, h1, h2, h3⟩
      · left
        refine ⟨?_, ?_⟩
        · simp [Lib.indexByte, h, h1]
        · simp [pieces, h, h2]
      · right
        refine ⟨i + 1, ?_, by simp; omega, ?_⟩
        · simp [Lib.indexByte, h, h1]
          try omega
        · simp [pieces, h, h3]
theorem pieces_head_len (l : List UInt8) : ∀ p ∈ pieces l, p.length ≤ l.length := by
  induction l with
  | nil => simp [pieces]
  | cons c r ih =>
    intro p hp
    unfold pieces at hp
    split at hp
    · rcases List.mem_cons.1 hp with rfl | hp
      · simp
      · have := ih p hp; simp; omega
    · split at hp
      next p0 ps e =>
        rw [e] at ih
        rcases List.mem_cons.1 hp with rfl | hp
        · have := ih p0 (by simp); simp; omega
        · have := ih p (by simp [hp]); simp; omega
      next e => exact absurd e (pieces_ne r)
theorem pieces_count (l : List UInt8) : (pieces l).length ≤ l.length + 1 := by
  induction l with
  | nil => simp [pieces]
  | cons c r ih =>
    unfold pieces
    split
    · simp; omega
    · split
      next p0 ps e => rw [e] at ih; simp at ih ⊢; omega
      next e => exact absurd e (pieces_ne r)
end Go.Proofs.YtahihapgbcoanaaDoor
