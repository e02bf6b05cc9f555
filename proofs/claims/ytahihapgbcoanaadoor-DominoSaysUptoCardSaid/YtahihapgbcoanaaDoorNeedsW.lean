/- The walk of domino.Needs. -/
import Derived.Test.YtahihapgbcoanaaDoorDiaW
namespace Go.Proofs.YtahihapgbcoanaaDoor
open Go.RowKit

/-- Why a text is no tiling of a diamond that can be shuffled. -/
def ErrIs (s : List UInt8) (er : Int) : Prop :=
  (er = 1 ∧ ¬ Tiling s) ∨ (er = 3 ∧ Tiling s ∧ (hOf s / 2 = 0 ∨ s.map covB ≠ azT (hOf s / 2))) ∨ (er = 2 ∧ Tiling s ∧ hOf s / 2 = 4 ∧ s.map covB = azT 4)
theorem ErrIs.ne {s : List UInt8} {er : Int} (h : ErrIs s er) : er ≠ 0 := by
  rcases h with ⟨rfl, _⟩ | ⟨rfl, _⟩ | ⟨rfl, _⟩ <;> decide
theorem DiaG.cases {s : List UInt8} {w : World} {e : Ending} {w' : World} (h : DiaG s w e w') : Below w.heap.size w w' ∧
    ((∃ er, ErrIs s er ∧ e = .returned (.tuple #[.slice none 0 0, .int .i64 0, .int .i64 er])) ∨
      (∃ n, Dia s n ∧ ∃ top cap rb rc, e = .returned (.tuple #[.slice (some ⟨top, 0, none⟩) (2 * n) cap, .int .i64 n, .int .i64 0]) ∧ GMem w' w.heap.size top rb rc (2 * n) (2 * n) (gOf s))) := by
  obtain ⟨hb, ⟨h1, rfl⟩ | ⟨h1, h2, rfl⟩ | ⟨h1, h2, h3, rfl⟩ | ⟨h1, n, hd, top, cap, rb, rc, rfl, hm⟩⟩ := h
  · exact ⟨hb, .inl ⟨1, .inl ⟨rfl, h1⟩, rfl⟩⟩
  · exact ⟨hb, .inl ⟨3, .inr (.inl ⟨rfl, h1, h2⟩), rfl⟩⟩
  · exact ⟨hb, .inl ⟨2, .inr (.inr ⟨rfl, h1, h2, h3⟩), rfl⟩⟩
  · have hc := cov_dia h1.1 hd.2.2.1 (by have := hd.2.2.2.1; omega) hd.2.2.2.2
    rw [hc.1, hc.2.1] at hm
    exact ⟨hb, .inr ⟨n, hd, top, cap, rb, rc, by rw [hc.1], hm⟩⟩

/-- The grid of the next diamond, its open cells still open. -/
def shG (n : Nat) (G : Nat → Nat → UInt8) : Nat → Nat → UInt8 := shTo n (2 * n) G (azG (n + 1)) (2 * n)
def cntTo (H : Nat) (O : Nat → Nat → UInt8) : Nat → Nat
  | 0 => 0
  | k + 1 => cntTo H O k + (rowOf H O k).count 35
theorem cntTo_le (H : Nat) (O : Nat → Nat → UInt8) (k : Nat) : cntTo H O k ≤ k * H := by
  induction k with
  | zero => simp [cntTo]
  | succ k ih =>
    have h1 : (rowOf H O k).count 35 ≤ H := Nat.le_trans List.count_le_length (by rw [rowOf_length]; exact Nat.le_refl _)
    have h2 : (k + 1) * H = k * H + H := Nat.succ_mul _ _
    unfold cntTo
    omega

theorem count_one (l : List UInt8) (w : World) : Calls Tryd.prog 29 #[.string ⟨l.toArray⟩, .string ⟨#[35]⟩] w fun e w' => e = .returned (.int .i64 ((Lib.countByte l 35 : Nat) : Int)) ∧ w' = w :=
  Tryd.strings_Count_one ⟨l.toArray⟩ 35 w

def NeedsG (s : List UInt8) (w : World) (e : Ending) (w' : World) : Prop :=
  Below w.heap.size w w' ∧ ((∃ er, ErrIs s er ∧ e = .returned (.tuple #[.int .i64 0, .int .i64 er])) ∨
    (∃ n, Dia s n ∧ e = .returned (.tuple #[.int .i64 ((cntTo (2 * (n + 1)) (shG n (gOf s)) (2 * (n + 1)) / 4 : Nat)), .int .i64 0])))

set_option maxRecDepth 100000 in
set_option maxHeartbeats 4000000 in
theorem needs_any (s : List UInt8) (hs : s.length ≤ 9223372036854775807) (w : World) (hT : Lib.Utf8Tabs 1 2 w) : Calls Tryd.prog 26 #[.string ⟨s.toArray⟩] w (NeedsG s w) := by
  go_enter Tryd.func26, Tryd.ntmps26
  go_wp2_with fail
  refine (diamond_any s hs _ hT).mono ?_
  intro e w1 hd
  obtain ⟨hb, ⟨er, her, rfl⟩ | ⟨n, hD, top, cap, rb, rc, rfl, hm⟩⟩ := hd.cases
  · have hne : (er == 0) = false := beq_eq_false_iff_ne.2 her.ne
    have HE := Lib.hid her
    clear her hd
    go_wp2
    go_ret2
    exact ⟨hb, .inl ⟨er, HE.out, rfl⟩⟩
  · clear hd
    have h1 := hD.2.2.1
    have h3 := hD.2.2.2.1
    have HD := Lib.hid hD
    clear hD
    obtain ⟨h, hh⟩ : ∃ h, 2 * n = h := ⟨_, rfl⟩
    obtain ⟨H, hH⟩ : ∃ H, 2 * (n + 1) = H := ⟨_, rfl⟩
    rw [hh] at hm ⊢
    have HH := Lib.hid hh.symm
    have HH2 := Lib.hid hH.symm
    have hH8 : H ≤ 8 := by omega
    have hH1 : 1 ≤ H := by omega
    clear hh hH
    go_wp2_with fail
    refine (shuffled_any n h H _ top cap rb rc _ _ h1 (by omega) HH HH2 hm).mono ?_
    rintro e w2 ⟨top2, cap2, rb2, rc2, rfl, hb2, hm2⟩
    have hb02 := hb.trans (hb2.mono hb.size)
    obtain ⟨O, hO⟩ : ∃ O, shTo n h (gOf s) (azG (n + 1)) h = O := ⟨_, rfl⟩
    rw [hO] at hm2
    have HO := Lib.hid hO
    clear hO hm hb hb2
    have hcnt : ∀ k, k ≤ H → cntTo H O k ≤ 64 := fun k hk => Nat.le_trans (cntTo_le H O k) (Nat.le_trans (Nat.mul_le_mul hk (Nat.le_refl H)) (Nat.mul_le_mul hH8 hH8))
    go_wp2
    go_loop [7, 23] (fun c i => ∃ k : Nat, k ≤ H ∧ i = .int .i64 k ∧ c = .int .i64 (cntTo H O k)) (fun _ i => H - (intOf i).toNat)
    case atStart => exact ⟨0, Nat.zero_le _, rfl, rfl⟩
    case round =>
      obtain ⟨k, hk, rfl, rfl⟩ := hrel
      by_cases hkl : k < H
      · have rk := hm2.row k hkl
        have hki : (k : Int) < (H : Int) := by omega
        have hcv := run_convert_bytes_back (P := Tryd.prog) w2 63 9 5 ⟨rb2 k, 0, none⟩ (rc2 k) (rowOf H O k) Tryd.underlying63 Tryd.underlying5 Tryd.underlying9 (fun j hj => by
          have hj' : j < H := by simpa [rowOf] using hj
          have e : (⟨rb2 k, 0, none⟩ : Addr).add j = ⟨rb2 k, j, none⟩ := addr_add0 _ _
          rw [e, hm2.cell k j hkl hj']
          simp [rowOf])
        rw [rowOf_length] at hcv
        have hc1 := hcnt k hk
        have hc2 := hcnt (k + 1) hkl
        have hcs : cntTo H O (k + 1) = cntTo H O k + Lib.countByte (rowOf H O k) 35 := rfl
        have hcl : (Lib.countByte (rowOf H O k) 35 : Nat) ≤ 64 := by omega
        have hci : ((cntTo H O k : Nat) : Int) + ((Lib.countByte (rowOf H O k) 35 : Nat) : Int) = ((cntTo H O (k + 1) : Nat) : Int) := by omega
        have HCS := Lib.hid hcs
        clear hcs
        go_wp2_with fail
        refine (count_one _ _).mono ?_
        rintro e w3 ⟨rfl, rfl⟩
        go_wp2
        exact ⟨⟨k + 1, by omega, by go_num, rfl⟩, by simp [intOf]; omega⟩
      · obtain rfl : k = H := by omega
        have hc1 := hcnt k (Nat.le_refl _)
        clear hcnt
        generalize hcc : cntTo k O k = c at *
        have HC := Lib.hid hcc
        clear hcc
        obtain ⟨q, hq⟩ : ∃ q, c / 4 = q := ⟨_, rfl⟩
        have hdiv : (c : Int) / 4 = (q : Int) := by omega
        have HQ := Lib.hid hq
        clear hq
        go_wp2
        go_ret2
        refine ⟨hb02, .inr ⟨n, HD.out, ?_⟩⟩
        have e1 : 2 * (n + 1) = k := HH2.out.symm
        have e2 : shG n (gOf s) = O := by unfold shG; rw [← HH.out]; exact HO.out
        rw [e1, e2, HC.out, HQ.out]
        rfl
end Go.Proofs.YtahihapgbcoanaaDoor
