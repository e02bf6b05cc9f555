/- strings.SplitSeq(s, "/") as it is ranged over in domino.rows: the iterator's contract. -/
import Derived.RangeFuncNested
import Derived.RangeFuncBox
import Derived.RangeFuncLeaves
import Derived.Shelf.Abstract
import Derived.WalkKit
import Derived.OwnWalkIn
import Derived.TacticsInMore
import Derived.LoopNIn
import Derived.LoopIn
import Derived.Maps.AppendAt
import Derived.Outline
import Derived.Deep.Light
import Derived.Lib.Hide
import Derived.Test.YtahihapgbcoanaaDoorChecked
import Derived.Test.YtahihapgbcoanaaDoorPieces
import Derived.Test.YtahihapgbcoanaaDoorShelf
namespace Go.Proofs.YtahihapgbcoanaaDoor
open Go.RowKit Go.Shelf
attribute [local go_sem] Oper.semAt_some

set_option maxHeartbeats 1000000 in
theorem splitSeq_any (s : ByteArray) (w : World) : Calls Tryd.prog 52 #[.string s, .string ⟨#[47]⟩] w fun e w' =>
    e = .returned (.func (.func 87) #[] #[.pointer (some ⟨w.heap.size + 1, 0, none⟩), .pointer (some ⟨w.heap.size, 0, none⟩), .pointer (some ⟨w.heap.size + 2, 0, none⟩)]) ∧
    w' = ((w.alloc (.cells #[.string s] 9)).alloc (.cells #[.string ⟨#[47]⟩] 9)).alloc (.cells #[.int .i64 0] 3) := by
  go_enter Tryd.func52, Tryd.ntmps52
  go_wp2
  go_ret
  exact ⟨rfl, rfl⟩

theorem extract_list (r : List UInt8) (i j : Nat) : (⟨r.toArray⟩ : ByteArray).extract i j = ⟨((r.drop i).take (j - i)).toArray⟩ := by
  apply ByteArray.ext
  rw [ByteArray.data_extract]
  apply Array.toList_inj.1
  simp [List.extract]

/-- How long is the text that a box holds? For a loop's measure. -/
def boxLen (w : World) (b : Nat) : Nat := match w.cell? ⟨b, 0, none⟩ with
  | some (.string s) => s.size + 1
  | _ => 0

/-- The boxes of the iterator are as they were. -/
def BoxesKept (eb sb vb : Nat) (W W' : World) : Prop :=
  W'.cell? ⟨eb, 0, none⟩ = W.cell? ⟨eb, 0, none⟩ ∧ W'.cell? ⟨sb, 0, none⟩ = W.cell? ⟨sb, 0, none⟩ ∧ W'.cell? ⟨vb, 0, none⟩ = W.cell? ⟨vb, 0, none⟩ ∧
  W'.frozen? ⟨sb, 0, none⟩ = W.frozen? ⟨sb, 0, none⟩

set_option maxRecDepth 100000 in
set_option maxHeartbeats 1000000 in
theorem splitSeq1_in (n : Nat) (hn : 1 ≤ n) (l eb sb vb : Nat) (all : List (List UInt8)) (J Jx : List (List UInt8) → World → Prop)
    (hne1 : eb ≠ sb) (hne2 : vb ≠ sb)
    (hJs : ∀ pre W v, J pre W → J pre (W.setCell ⟨sb, 0, none⟩ v))
    (hY : ∀ pre x rest W, all = pre ++ x :: rest → J pre W → YieldAt Fence.wide (n - 1) Tryd.prog l #[.string ⟨x.toArray⟩] W fun e W' =>
      (e = .returned (.bool true) ∧ J (pre ++ [x]) W' ∧ BoxesKept eb sb vb W W') ∨ (e = .returned (.bool false) ∧ Jx (pre ++ [x]) W'))
    (s : List UInt8) (hall : pieces s = all) (hlen : s.length ≤ 9223372036854775807) (W : World) (he : W.cell? ⟨eb, 0, none⟩ = some (.string ⟨#[47]⟩)) (hs : W.cell? ⟨sb, 0, none⟩ = some (.string ⟨s.toArray⟩)) (hv : W.cell? ⟨vb, 0, none⟩ = some (.int .i64 0))
    (hf : W.frozen? ⟨sb, 0, none⟩ = false) (h0 : J [] W) :
    CallsIn Fence.wide n Tryd.prog 87 #[.func (.yield l) #[] #[], .pointer (some ⟨eb, 0, none⟩), .pointer (some ⟨sb, 0, none⟩), .pointer (some ⟨vb, 0, none⟩)] W fun e W' => (∃ v, e = .returned v) ∧
      (J all W' ∨ ∃ pre, pre <+: all ∧ Jx pre W') := by
  refine callsIn_of_wp Tryd.func87 rfl trivial ?_ rfl
  simp only [Tryd.ntmps87, List.size_toArray, List.length_cons, List.length_nil, Nat.reduceAdd, Nat.reduceSub, Array.replicate_succ, Array.replicate_zero, List.push_toArray, List.append_toArray, List.nil_append, List.cons_append]
  gi_wp2
  gi_loopw [7, 8] (fun _ _ wr => ∃ (pre : List (List UInt8)) (r : List UInt8), all = pre ++ pieces r ∧ r.length ≤ s.length ∧ wr.cell? ⟨eb, 0, none⟩ = some (.string ⟨#[47]⟩) ∧ wr.cell? ⟨sb, 0, none⟩ = some (.string ⟨r.toArray⟩) ∧ wr.cell? ⟨vb, 0, none⟩ = some (.int .i64 0) ∧ wr.frozen? ⟨sb, 0, none⟩ = false ∧ J pre wr)
    (fun _ _ wr => boxLen wr sb)
  case atStart =>
    exact ⟨[], s, by simp [hall], Nat.le_refl _, he, hs, hv, hf, h0⟩
  case round =>
    obtain ⟨pre, r, hx, hrl, hre, hrs, hrv, hrf, hJr⟩ := hrel
    clear hs he hv hf
    rcases pieces_index r with ⟨hi1, hi2⟩ | ⟨i, hi1, hil, hi2⟩
    · obtain ⟨fn, tmps, assign, body, hy, hR⟩ := hY pre r [] wr (by rw [hx, hi2]) hJr
      have Hi2 := Lib.hid hi2
      clear hi2
      gi_wp2_with (refine ⟨trivial, ?_⟩; gi_at_call 47; refine (callsIn_wide.2 (Tryd.strings_Index_one _ _ _)).mono ?_; rintro e w' ⟨rfl, rfl⟩)
      refine hR.mono ?_
      rintro e W3 (⟨rfl, hJ3, hk3⟩ | ⟨rfl, hJx3⟩)
      · gi_wp2
        go_end0
        exact ⟨⟨_, rfl⟩, .inl (by rw [hx, Hi2.out]; exact hJ3)⟩
      · gi_wp2
        go_end0
        exact ⟨⟨_, rfl⟩, .inr ⟨pre ++ [r], ⟨[], by rw [hx, Hi2.out]; simp⟩, hJx3⟩⟩
    · obtain ⟨fn, tmps, assign, body, hy, hR⟩ := hY pre (r.take i) (pieces (r.drop (i + 1))) wr (by rw [hx, hi2]) hJr
      have hxt : (⟨r.toArray⟩ : ByteArray).extract 0 i = ⟨(r.take i).toArray⟩ := extract_list r 0 i
      have hxd : (⟨r.toArray⟩ : ByteArray).extract (i + 1) r.length = ⟨(r.drop (i + 1)).toArray⟩ := by rw [extract_list, List.take_of_length_le (by simp)]
      have Hi2 := Lib.hid hi2
      clear hi2
      gi_wp2_with (refine ⟨trivial, ?_⟩; gi_at_call 47; refine (callsIn_wide.2 (Tryd.strings_Index_one _ _ _)).mono ?_; rintro e w' ⟨rfl, rfl⟩)
      refine hR.mono ?_
      rintro e W3 (⟨rfl, hJ3, hk3⟩ | ⟨rfl, hJx3⟩)
      · obtain ⟨q1, q2, q3, q4⟩ := hk3
        have q1' := q1.trans hre
        have q2' := q2.trans hrs
        have q3' := q3.trans hrv
        have q4' := q4.trans hrf
        have hrs' := Lib.hid hrs
        clear q1 q2 q3 q4 hre hrs hrv hrf hY hR hy
        gi_wp2
        go_roundw
        case rel =>
          go_light
          refine ⟨pre ++ [r.take i], r.drop (i + 1), by rw [hx, Hi2.out]; simp, by rw [List.length_drop]; omega, ?_, ?_, ?_, ?_, hJs _ _ _ hJ3⟩
          · rw [World.cell?_setCell_other _ _ _ _ (fun e => hne1 (by have := congrArg Addr.block e; simpa using this.symm))]; exact q1'
          · exact World.cell?_setCell_same' _ _ _ (by rw [q2']; rfl)
          · rw [World.cell?_setCell_other _ _ _ _ (fun e => hne2 (by have := congrArg Addr.block e; simpa using this.symm))]; exact q3'
          · rw [World.frozen?_setCell]; exact q4'
        case measure =>
          go_light
          have e1 : boxLen (W3.setCell ⟨sb, 0, none⟩ (.string ⟨(r.drop (i + 1)).toArray⟩)) sb = (r.drop (i + 1)).length + 1 := by
            unfold boxLen
            rw [World.cell?_setCell_same' _ _ _ (by rw [q2']; rfl)]
            simp [ByteArray.size]
          have e2 : boxLen w' sb = r.length + 1 := by
            unfold boxLen
            rw [hrs'.out]
            simp [ByteArray.size]
          rw [e1, e2, List.length_drop]
          omega
      · gi_wp2
        refine bodyPost_ret (results_none rfl _ _ _) rfl ?_
        exact ⟨⟨_, rfl⟩, .inr ⟨pre ++ [r.take i], ⟨pieces (r.drop (i + 1)), by rw [hx, Hi2.out]; simp⟩, hJx3⟩⟩
end Go.Proofs.YtahihapgbcoanaaDoor
