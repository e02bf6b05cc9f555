/- The walks of domino.aztec, domino.Aztec. -/
import Derived.Test.YtahihapgbcoanaaDoorFlipW
import Derived.WalkLawsBesides
namespace Go.Proofs.YtahihapgbcoanaaDoor
open Go.RowKit

/-- One row more: its bytes made, laid into a block of its own, appended. -/
theorem grid_push {B : Nat} {W w1 w3 : World} {x : List UInt8} {v v' : Value} {rs : List GRow} {cap : Nat} (hgr : GridAt W B v rs) (hB : B ≤ W.heap.size) (hb1 : Below W.heap.size W w1)
    (hown : w3.ownsRow B 63 1 v' (rs.length + 1) (rs.map rowVal ++ [rowVal (x, w1.heap.size, cap)]))
    (hg : ((Lib.bytesWorld w1 5 ⟨x.toArray⟩).alloc (.cells #[rowVal (x, w1.heap.size, cap)] 63)).grownBy w3 v.ownBlock) :
    GridAt w3 B v' (rs ++ [(x, w1.heap.size, cap)]) ∧ Below B W w3 := by
  have hs1 := hb1.size
  have hs2 : (Lib.bytesWorld w1 5 ⟨x.toArray⟩).heap.size = w1.heap.size + 1 := Lib.bytesWorld_size _ _ _
  have key : ∀ k, k < W.heap.size → v.ownBlock ≠ some k → w3.heap[k]? = W.heap[k]? := fun k hk hne =>
    ((hg.block k (by simp [hs2]; omega) (fun e => hne e.symm)).trans (Below.heap_alloc _ _ k (by rw [hs2]; omega))).trans ((Lib.bytesWorld_at_old w1 5 _ k (by omega)).trans (hb1.block k hk))
  have hvo : ∀ k, v.ownBlock = some k → B ≤ k ∧ k < W.heap.size := fun k e => hgr.own.lt k e
  have hnew : RowAt w3 w1.heap.size x := by
    refine ((RowAt.bytes w1 x).same (Below.heap_alloc _ _ _ (by rw [hs2]; omega))).same (hg.block _ (by simp [hs2]; omega) (fun e => ?_))
    have := (hvo _ e.symm).2
    omega
  refine ⟨⟨by simpa using hown, fun y hy => ?_, ?_⟩, ?_⟩
  · rcases List.mem_append.1 hy with hy | hy
    · exact ⟨(hgr.rows y hy).1, (hgr.rows y hy).2.same (key _ (hgr.rows y hy).2.lt (hgr.top_ne y hy))⟩
    · simp at hy
      subst hy
      exact ⟨by show B ≤ w1.heap.size; omega, hnew⟩
  · rw [List.map_append, List.nodup_append]
    refine ⟨hgr.apart, by simp, ?_⟩
    intro a ha b hb
    simp at hb
    subst hb
    obtain ⟨y, hy, rfl⟩ := List.mem_map.1 ha
    have := (hgr.rows y hy).2.lt
    omega
  · refine ⟨hg.os.trans hb1.os, hg.tape.trans hb1.tape, hg.output.trans hb1.output, ?_, fun k hk => key k (by omega) (fun e => by have := (hvo k e).1; omega)⟩
    have := hg.size; simp [hs2] at this; omega

/-- Row i of the diamond of order n. -/
def azHalf (n i : Nat) : Nat := min i (2 * n - 1 - i) + 1
def azRow (n i : Nat) : List UInt8 := List.replicate (n - azHalf n i) 46 ++ List.replicate (2 * azHalf n i) 35 ++ List.replicate (n - azHalf n i) 46

theorem repeatL_one (b : UInt8) (c : Nat) : Lib.repeatL [b] c = List.replicate c b := by
  induction c with
  | zero => rfl
  | succ c ih => simp [Lib.repeatL, ih, List.replicate_succ]
theorem repeat_int (b : UInt8) (c : Int) (h0 : 0 ≤ c) (h1 : c ≤ 1000) (w : World) :
    Calls Tryd.prog 50 #[.string ⟨#[b]⟩, .int .i64 c] w fun e w' => e = .returned (.string ⟨(List.replicate c.toNat b).toArray⟩) ∧ Below w.heap.size w w' := by
  obtain ⟨n, rfl⟩ := Int.eq_ofNat_of_zero_le h0
  refine (Tryd.strings_Repeat ⟨#[b]⟩ n w (by omega) (by simp [ByteArray.size]; omega)).mono ?_
  rintro e w' ⟨rfl, hb⟩
  refine ⟨?_, hb⟩
  rw [show (⟨#[b]⟩ : ByteArray).data.toList = [b] from rfl, repeatL_one]
  rfl

set_option maxRecDepth 100000 in
set_option maxHeartbeats 4000000 in
theorem aztec_any (n : Nat) (hn : n ≤ 5) (w : World) :
    Calls Tryd.prog 32 #[.int .i64 n] w fun e w' => ∃ v rs, e = .returned v ∧ Below w.heap.size w w' ∧ rs.map (·.1) = (List.range (2 * n)).map (azRow n) ∧ GridAt w' w.heap.size v rs := by
  obtain ⟨i0, hi, hz0, hz1, hz2⟩ := info_parts info63
  go_enter Tryd.func32, Tryd.ntmps32
  go_wp2
  go_loopw [3, 8] (fun v i wr => ∃ k : Nat, k ≤ 2 * n ∧ i = .int .i64 k ∧ Below w.heap.size w wr ∧ ∃ rs, Hid (rs.map (·.1) = (List.range k).map (azRow n)) ∧ GridAt wr w.heap.size v rs) (fun _ i _ => 2 * n - (intOf i).toNat)
  case atStart => exact ⟨0, Nat.zero_le _, rfl, Below.refl _ _, [], Lib.hid rfl, GridAt.nil _ _⟩
  case round =>
    obtain ⟨k, hk, rfl, hb, rs, HR, hgr⟩ := hrel
    by_cases hkl : k < 2 * n
    · obtain ⟨q, hq, hqn, hqh⟩ : ∃ q : Nat, min (k : Int) (2 * (n : Int) - 1 - (k : Int)) = (q : Int) ∧ q + 1 ≤ n ∧ azHalf n k = q + 1 :=
        ⟨min k (2 * n - 1 - k), by omega, by omega, rfl⟩
      have HQ := Lib.hid hqh
      clear hqh
      go_wp2_with fail
      refine (repeat_int 46 _ (by omega) (by omega) _).mono ?_
      rintro e w1 ⟨rfl, hb1⟩
      go_wp2_with fail
      refine (repeat_int 35 _ (by omega) (by omega) _).mono ?_
      rintro e w2 ⟨rfl, hb2⟩
      go_wp2_with fail
      refine (repeat_int 46 _ (by omega) (by omega) _).mono ?_
      rintro e w3 ⟨rfl, hb3⟩
      have hstr : (⟨Array.replicate (n - (q + 1)) 46⟩ : ByteArray) ++ ⟨Array.replicate (2 * (q + 1)) 35⟩ ++ ⟨Array.replicate (n - (q + 1)) 46⟩ = ⟨(azRow n k).toArray⟩ := by
        apply ByteArray.ext
        apply Array.toList_inj.1
        simp [azRow, HQ.out, ByteArray.data_append]
      have hconv : ∀ u : World, (convert 9 63 (.string ⟨(azRow n k).toArray⟩)).run Tryd.prog u = .ok (.slice (some ⟨u.heap.size, 0, none⟩) (azRow n k).length (grownCap u (azRow n k).length 0 5)) (Lib.bytesWorld u 5 ⟨(azRow n k).toArray⟩) := fun u => by
        have h := Lib.run_convert_string_bytes (P := Tryd.prog) u 9 63 5 ⟨(azRow n k).toArray⟩ Tryd.underlying9 Tryd.underlying63 Tryd.underlying5
        simpa [ByteArray.size] using h
      have hbs : ∀ u : World, (Lib.bytesWorld u 5 ⟨(azRow n k).toArray⟩).heap.size = u.heap.size + 1 := fun u => Lib.bytesWorld_size u 5 _
      have hbb : Below wr.heap.size wr w3 := (hb1.trans (hb2.mono hb1.size)).trans (hb3.mono (Nat.le_trans hb1.size hb2.size))
      have hlr : rs.length = k := by
        have := congrArg List.length HR.out
        simpa using this
      have HLR := Lib.hid hlr
      clear hlr
      have hsz := hb.size
      have hsz3 := hbb.size
      go_wp2_with (at_builtin; refine wpList_append_own _ rfl _ _ 60 rfl w.heap.size 63 i0 (.slice none 0 0) 1 24 Tryd.underlying60 hi hz0 hz1 hz2 rfl (by decide) _ rs.length (rs.map rowVal) rfl (((hgr.below hbb).bytes _).own.alloc _) ⟨w3.heap.size + 1, 0, none⟩ 1 1 [rowVal (azRow n k, w3.heap.size, grownCap w3 (azRow n k).length 0 5)] rfl rfl (cell_new1 _ _ _ (hbs w3)) (by simp [Value.oneCell', rowVal]) (by rw [HLR.out]; unfold maxLen; omega) (by rw [HLR.out]; omega) (by simp [hbs]; omega) ?_; intro v' w4 hown' hgrow hdrop; clear hdrop)
      have hp := grid_push hgr hsz hbb hown' hgrow
      go_roundw
      case rel =>
        go_light
        refine ⟨k + 1, by omega, by go_num, hb.trans hp.2, _, Lib.hid ?_, hp.1⟩
        rw [List.map_append, HR.out, List.range_succ, List.map_append]
        rfl
      case measure => go_light; simp [intOf]; omega
    · obtain rfl : k = 2 * n := by omega
      go_wp2
      go_ret
      exact ⟨_, rs, rfl, hb, HR.out, hgr⟩

/-- The diamond of order n as a grid. -/
def azG (n : Nat) (i j : Nat) : UInt8 := cellOf ((List.range (2 * n)).map (azRow n)) i j
theorem azRow_length (n i : Nat) (h : i < 2 * n) : (azRow n i).length = 2 * n := by
  have : azHalf n i ≤ n := by unfold azHalf; omega
  simp [azRow]
  omega
/-- aztec, by places. -/
theorem aztec_g (n : Nat) (h0 : 0 < n) (hn : n ≤ 5) (w : World) :
    Calls Tryd.prog 32 #[.int .i64 n] w fun e w' => ∃ top cap rb rc, e = .returned (.slice (some ⟨top, 0, none⟩) (2 * n) cap) ∧ Below w.heap.size w w' ∧ GMem w' w.heap.size top rb rc (2 * n) (2 * n) (azG n) := by
  refine (aztec_any n hn w).mono ?_
  rintro e w' ⟨v, rs, rfl, hb, hrs, hg⟩
  have hl : ((List.range (2 * n)).map (azRow n)).length = 2 * n := by simp
  obtain ⟨top, cap, rb, rc, hv, hm⟩ := hg.gmem hrs (W := 2 * n) (fun e => by rw [e] at hl; simp at hl; omega) (fun r hr => by
    obtain ⟨i, hi, rfl⟩ := List.mem_map.1 hr
    exact azRow_length n i (List.mem_range.1 hi))
  rw [hl] at hv hm
  exact ⟨top, cap, rb, rc, by rw [hv], hb, hm⟩
theorem aztec_zero (w : World) : Calls Tryd.prog 32 #[.int .i64 0] w fun e w' => ∃ A c, e = .returned (.slice A 0 c) ∧ Below w.heap.size w w' := by
  refine (aztec_any 0 (by omega) w).mono ?_
  rintro e w' ⟨v, rs, rfl, hb, hrs, hg⟩
  have hr : rs = [] := by simpa using hrs
  subst hr
  rcases hg.own.2 with ⟨hv, _⟩ | ⟨g, cap, cur, hv, _⟩
  · exact ⟨none, 0, by rw [hv], hb⟩
  · exact ⟨some ⟨g, 0, none⟩, cap, by rw [hv]; rfl, hb⟩

/-- The diamond's text. -/
def azT (n : Nat) : List UInt8 := textOf (2 * n) (2 * n) (azG n)
/-- What Aztec hands back. -/
def AztecG (n : Int) (w : World) (e : Ending) (w' : World) : Prop :=
  Below w.heap.size w w' ∧ (((n < 1 ∨ 4 < n) ∧ e = .returned (.tuple #[.string ⟨#[]⟩, .int .i64 1])) ∨
    ∃ m : Nat, n = m ∧ 1 ≤ m ∧ m ≤ 4 ∧ e = .returned (.tuple #[.string ⟨(azT m).toArray⟩, .int .i64 0]))

set_option maxRecDepth 100000 in
set_option maxHeartbeats 4000000 in
theorem Aztec_any (n : Int) (hn : -9223372036854775808 ≤ n ∧ n ≤ 9223372036854775807) (w : World) : Calls Tryd.prog 8 #[.int .i64 n] w (AztecG n w) := by
  by_cases q1 : n < 1
  · have e1 : decide (n < 1) = true := decide_eq_true q1
    go_enter Tryd.func8, Tryd.ntmps8
    go_wp2
    go_ret2
    exact ⟨Below.refl _ _, .inl ⟨.inl (by omega), rfl⟩⟩
  have e1 : decide (n < 1) = false := decide_eq_false q1
  by_cases q2 : 4 < n
  · have e2 : decide (4 < n) = true := decide_eq_true q2
    go_enter Tryd.func8, Tryd.ntmps8
    go_wp2
    go_ret2
    exact ⟨Below.refl _ _, .inl ⟨.inr (by omega), rfl⟩⟩
  have e2 : decide (4 < n) = false := decide_eq_false q2
  obtain ⟨m, rfl⟩ := Int.eq_ofNat_of_zero_le (show 0 ≤ n by omega)
  have hm1 : 1 ≤ m := by omega
  have hm4 : m ≤ 4 := by omega
  go_enter Tryd.func8, Tryd.ntmps8
  go_wp2_with fail
  refine (aztec_g m (by omega) (by omega) _).mono ?_
  rintro e w1 ⟨top, cap, rb, rc, rfl, hb, hm⟩
  go_wp2_with fail
  refine (text_any _ top cap (2 * m) (2 * m) rb rc _ _ hm (by omega) (by omega) (by omega)).mono ?_
  rintro e w2 ⟨rfl, hb2⟩
  go_wp2
  go_ret2
  exact ⟨hb.trans (hb2.mono hb.size), .inr ⟨m, rfl, hm1, hm4, rfl⟩⟩
end Go.Proofs.YtahihapgbcoanaaDoor
