/- The walks of ferlaw.Same (points) and ferref.Diamond. -/
import Derived.Test.YtahihapgbcoanaaDoorPutW
import Derived.BigQuiet
namespace Go.Proofs.YtahihapgbcoanaaDoor
open Go.RowKit

/-- A slice of points, read. -/
structure PtsAt (w : World) (v : Value) (l : List (Nat × Nat)) (A : Option Addr) (cap : Nat) : Prop where
  val : v = .slice A l.length cap
  at_ : ∀ (i : Nat) (p : Nat × Nat), l[i]? = some p → ∃ g, A = some ⟨g, 0, none⟩ ∧ g < w.heap.size ∧ w.cell? ⟨g, i * 2, none⟩ = some (.int .i64 p.1) ∧ w.cell? ⟨g, i * 2 + 1, none⟩ = some (.int .i64 p.2)

theorem ptCells_get (l : List (Nat × Nat)) (i : Nat) (p : Nat × Nat) (h : l[i]? = some p) : (ptCells l)[i * 2]? = some (.int .i64 p.1) ∧ (ptCells l)[i * 2 + 1]? = some (.int .i64 p.2) := by
  induction l generalizing i with
  | nil => simp at h
  | cons q l ih =>
    have e : ptCells (q :: l) = .int .i64 q.1 :: .int .i64 q.2 :: ptCells l := rfl
    rw [e]
    cases i with
    | zero => simp at h; subst h; simp
    | succ i =>
      simp at h
      have := ih i h
      rw [show (i + 1) * 2 = i * 2 + 1 + 1 from by omega]
      simpa using this

theorem ptsAt_own {w : World} {B : Nat} {v : Value} {l : List (Nat × Nat)} (h : w.ownsRow B 23 2 v l.length (ptCells l)) : ∃ A cap, PtsAt w v l A cap := by
  rcases h.2 with ⟨hv, h0⟩ | ⟨g, cap, cur, hv, hb, hh, h1, h2, h3, h4⟩
  · have hl : l = [] := List.length_eq_zero_iff.1 h0
    subst hl
    exact ⟨none, 0, hv, by simp⟩
  · refine ⟨some ⟨g, 0, none⟩, cap, hv, fun i p hp => ⟨g, rfl, (h.lt g (by rw [hv]; rfl)).2, ?_⟩⟩
    have hc := ptCells_get l i p hp
    have hi : i < l.length := (List.getElem?_eq_some_iff.1 hp).1
    have key : ∀ (j : Nat) (u : Value), j < l.length * 2 → (ptCells l)[j]? = some u → w.cell? ⟨g, j, none⟩ = some u := fun j u hj hu => by
      rw [← h4, List.getElem?_take_of_lt hj] at hu
      simp only [World.cell?, hh]
      simpa using hu
    exact ⟨key _ _ (by omega) hc.1, key _ _ (by omega) hc.2⟩

theorem PtsAt.drewN {w : World} {v : Value} {l : List (Nat × Nat)} {A : Option Addr} {cap : Nat} (h : PtsAt w v l A cap) (n : Nat) : PtsAt (w.drewN n) v l A cap := ⟨h.val, fun i p hp => h.at_ i p hp⟩
theorem PtsAt.below {w w' : World} {v : Value} {l : List (Nat × Nat)} {A : Option Addr} {cap : Nat} (h : PtsAt w v l A cap) (hb : Below w.heap.size w w') : PtsAt w' v l A cap := by
  refine ⟨h.val, fun i p hp => ?_⟩
  obtain ⟨g, hA, hg, h1, h2⟩ := h.at_ i p hp
  exact ⟨g, hA, Nat.lt_of_lt_of_le hg hb.size, (hb.cell (p := ⟨g, i * 2, none⟩) hg).trans h1, (hb.cell (p := ⟨g, i * 2 + 1, none⟩) hg).trans h2⟩

set_option maxRecDepth 100000 in
set_option maxHeartbeats 4000000 in
theorem same_pts (l : List (Nat × Nat)) (hl : l.length ≤ 1000) (v v' : Value) (A A' : Option Addr) (c c' : Nat) (w : World) (h1 : PtsAt w v l A c) (h2 : PtsAt w v' l A' c') :
    Calls Tryd.prog 14 #[v, v'] w fun e w' => e = .returned (.bool true) ∧ ∃ n, w' = w.drewN n := by
  obtain ⟨rfl, h1⟩ := h1
  obtain ⟨rfl, h2⟩ := h2
  have hb0 : ((l.length : Int) != (l.length : Int)) = false := by simp
  generalize hn : l.length = n at *
  have HN := Lib.hid hn
  clear hn
  go_enter Tryd.func14, Tryd.ntmps14
  go_wp2
  go_loopw [13] (fun i wr => ∃ k : Nat, k ≤ n ∧ i = .int .i64 k ∧ ∃ m, wr = w.drewN m) (fun i _ => n - (intOf i).toNat)
  case atStart => exact ⟨0, Nat.zero_le _, rfl, 0, rfl⟩
  case round =>
    obtain ⟨k, hk, rfl, m, rfl⟩ := hrel
    by_cases hkl : k < n
    · obtain ⟨p, hp⟩ : ∃ p, l[k]? = some p := ⟨_, List.getElem?_eq_getElem (by rw [HN.out]; exact hkl)⟩
      obtain ⟨g, rfl, hg, a1, a2⟩ := h1 k p hp
      obtain ⟨g', rfl, hg', b1, b2⟩ := h2 k p hp
      have hki : (k : Int) < (n : Int) := by omega
      clear hp h1 h2
      go_wp2_with fail
      go_quiet (fail)
      go_wp2
      exact ⟨⟨k + 1, by omega, by go_num, _, rfl⟩, by simp [intOf]; omega⟩
    · obtain rfl : k = n := by omega
      go_wp2
      go_ret
      exact ⟨rfl, m, rfl⟩

/-- Is a cell inside the diamond of order n? -/
def dmB (n i j : Nat) : Bool := decide (max (2 * (i : Int) + 1 - 2 * n) (-(2 * (i : Int) + 1 - 2 * n)) + max (2 * (j : Int) + 1 - 2 * n) (-(2 * (j : Int) + 1 - 2 * n)) ≤ 2 * n)
def dmRow (n i m : Nat) : List UInt8 := (List.range m).map (fun j => if dmB n i j then 35 else 46)
def dmTo (n k : Nat) : List UInt8 := (List.range k).flatMap (fun i => dmRow n i (2 * n) ++ if i + 1 < 2 * n then [47] else [])
theorem dmRow_succ (n i m : Nat) : dmRow n i (m + 1) = dmRow n i m ++ [if dmB n i m then 35 else 46] := by simp [dmRow, List.range_succ]
theorem dmTo_succ (n k : Nat) : dmTo n (k + 1) = dmTo n k ++ (dmRow n k (2 * n) ++ if k + 1 < 2 * n then [47] else []) := by simp [dmTo, List.range_succ]
theorem dmRow_len (n i m : Nat) : (dmRow n i m).length = m := by simp [dmRow]
theorem dmTo_len (n k : Nat) : (dmTo n k).length ≤ k * (2 * n + 1) := by
  induction k with
  | zero => simp [dmTo]
  | succ k ih =>
    have e : (k + 1) * (2 * n + 1) = k * (2 * n + 1) + (2 * n + 1) := Nat.succ_mul _ _
    rw [dmTo_succ, List.length_append, List.length_append, dmRow_len, e]
    split <;> simp only [List.length_cons, List.length_nil] <;> omega
theorem app_list (a b : List UInt8) : (⟨a.toArray⟩ : ByteArray) ++ ⟨b.toArray⟩ = ⟨(a ++ b).toArray⟩ := by
  apply ByteArray.ext
  rw [ByteArray.data_append]
  simp
theorem app_one (a : List UInt8) (c : UInt8) : (⟨a.toArray⟩ : ByteArray) ++ ⟨#[c]⟩ = ⟨(a ++ [c]).toArray⟩ := app_list a [c]

set_option maxRecDepth 100000 in
set_option maxHeartbeats 4000000 in
theorem diamond_ref (n : Nat) (hn : n ≤ 4) (w : World) : Calls Tryd.prog 9 #[.int .i64 n] w fun e w' => e = .returned (.string ⟨(dmTo n (2 * n)).toArray⟩) ∧ w' = w := by
  go_enter Tryd.func9, Tryd.ntmps9
  go_wp2
  go_loop [3, 4] (fun t i => ∃ k : Nat, k ≤ 2 * n ∧ i = .int .i64 k ∧ t = .string ⟨(dmTo n k).toArray⟩) (fun _ i => 2 * n - (intOf i).toNat)
  case atStart => exact ⟨0, Nat.zero_le _, rfl, rfl⟩
  case round =>
    obtain ⟨k, hk, rfl, rfl⟩ := hrel
    have hk2 : k ≤ 8 := by omega
    have hlt : (dmTo n k).length ≤ 72 := by
      have h1 := dmTo_len n k
      have h2 : k * (2 * n + 1) ≤ 8 * 9 := Nat.mul_le_mul hk2 (by omega)
      omega
    by_cases hkl : k < 2 * n
    · have ht : decide ((k : Int) < 2 * (n : Int)) = true := decide_eq_true (by omega)
      go_wp2
      go_loop [3, 5] (fun t i => ∃ m : Nat, m ≤ 2 * n ∧ i = .int .i64 m ∧ t = .string ⟨(dmTo n k ++ dmRow n k m).toArray⟩) (fun _ i => 2 * n - (intOf i).toNat)
      case atStart => exact ⟨0, Nat.zero_le _, rfl, by simp [dmRow]⟩
      case round =>
        obtain ⟨m, hm, rfl, rfl⟩ := hrel
        have hm2 : m ≤ 8 := by omega
        have hlr := dmRow_len n k m
        by_cases hml : m < 2 * n
        · have htm : decide ((m : Int) < 2 * (n : Int)) = true := decide_eq_true (by omega)
          cases hd : dmB n k m
          · have ap := app_one (dmTo n k ++ dmRow n k m) 46
            have hs : dmTo n k ++ dmRow n k m ++ [46] = dmTo n k ++ dmRow n k (m + 1) := by rw [dmRow_succ, hd]; simp
            rw [hs] at ap
            have HD : decide (max (2 * (k : Int) + 1 - 2 * n) (-(2 * (k : Int) + 1 - 2 * n)) + max (2 * (m : Int) + 1 - 2 * n) (-(2 * (m : Int) + 1 - 2 * n)) ≤ 2 * n) = false := hd
            clear hd hs
            go_wp2
            go_round
            case rel => go_light; exact ⟨m + 1, by omega, by go_num, rfl⟩
            case measure => go_light; simp [intOf]; omega
          · have ap := app_one (dmTo n k ++ dmRow n k m) 35
            have hs : dmTo n k ++ dmRow n k m ++ [35] = dmTo n k ++ dmRow n k (m + 1) := by rw [dmRow_succ, hd]; simp
            rw [hs] at ap
            have HD : decide (max (2 * (k : Int) + 1 - 2 * n) (-(2 * (k : Int) + 1 - 2 * n)) + max (2 * (m : Int) + 1 - 2 * n) (-(2 * (m : Int) + 1 - 2 * n)) ≤ 2 * n) = true := hd
            clear hd hs
            go_wp2
            go_round
            case rel => go_light; exact ⟨m + 1, by omega, by go_num, rfl⟩
            case measure => go_light; simp [intOf]; omega
        · have htm : decide ((m : Int) < 2 * (n : Int)) = false := decide_eq_false (by omega)
          obtain rfl : m = 2 * n := by omega
          by_cases hlast : k + 1 < 2 * n
          · have htl : decide ((k : Int) + 1 < 2 * (n : Int)) = true := decide_eq_true (by omega)
            have ap := app_one (dmTo n k ++ dmRow n k (2 * n)) 47
            have hs : dmTo n k ++ dmRow n k (2 * n) ++ [47] = dmTo n (k + 1) := by rw [dmTo_succ, if_pos hlast]; simp
            rw [hs] at ap
            clear hs
            go_wp2
            go_round
            case rel => go_light; exact ⟨k + 1, by omega, by go_num, rfl⟩
            case measure => go_light; simp [intOf]; omega
          · have htl : decide ((k : Int) + 1 < 2 * (n : Int)) = false := decide_eq_false (by omega)
            have hs : dmTo n k ++ dmRow n k (2 * n) = dmTo n (k + 1) := by rw [dmTo_succ, if_neg hlast]; simp
            have HS := Lib.hid hs
            clear hs
            go_wp2
            go_round
            case rel => go_light; exact ⟨k + 1, by omega, by go_num, by rw [HS.out]⟩
            case measure => go_light; simp [intOf]; omega
    · have ht : decide ((k : Int) < 2 * (n : Int)) = false := decide_eq_false (by omega)
      obtain rfl : k = 2 * n := by omega
      go_wp2
      go_ret
      exact ⟨rfl, rfl⟩
theorem dmTo_az (n : Nat) (h0 : 1 ≤ n) (hn : n ≤ 4) : dmTo n (2 * n) = azT n := by
  have : n = 1 ∨ n = 2 ∨ n = 3 ∨ n = 4 := by omega
  rcases this with rfl | rfl | rfl | rfl <;> decide
end Go.Proofs.YtahihapgbcoanaaDoor
