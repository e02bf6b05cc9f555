/- The walks of domino.Flips, domino.lay, domino.Flip. -/
import Derived.Test.YtahihapgbcoanaaDoorTurnsW
import Derived.WalkSpells
import Derived.WalkSmall
namespace Go.Proofs.YtahihapgbcoanaaDoor
open Go.RowKit

theorem eqnil_none (w : World) : (binOp .eql 60 (.slice none 0 0) (.slice none 0 0)).run Tryd.prog w = .ok (.bool true) w := by
  simp only [binOp]
  simp [Op.equal, Op.maxDepth, Lib.run_equalIn_slice_nil w 9999 60 63 none 0 0 0 0 Tryd.underlying60]
theorem eqnil_some (w : World) (a : Addr) (n c : Nat) : (binOp .eql 60 (.slice (some a) n c) (.slice none 0 0)).run Tryd.prog w = .ok (.bool false) w := by
  simp only [binOp]
  simp [Op.equal, Op.maxDepth, Lib.run_equalIn_slice_nil w 9999 60 63 (some a) n c 0 0 Tryd.underlying60]

/-- May the block at (x, y) be turned? (Anywhere in the grid.) -/
def turnAt (h W : Nat) (G : Nat → Nat → UInt8) (x y : Nat) : Bool := decide (x + 1 < W) && decide (y + 1 < h) && turnB G x y
theorem turns_nat (B top cap h W : Nat) (rb rc : Nat → Nat) (G : Nat → Nat → UInt8) (w : World) (hm : GMem w B top rb rc h W G) (h0 : 0 < h) (h8 : h ≤ 16) (w8 : W ≤ 16) (x y : Nat) (hx : x < W) (hy : y < h) (b : Bool) (hb : Hid (turnAt h W G x y = b)) :
    Calls Tryd.prog 34 #[.slice (some ⟨top, 0, none⟩) h cap, .int .i64 x, .int .i64 y] w fun e w' => e = .returned (.bool b) ∧ ∃ n, w' = w.drewN n := by
  have hb := hb.out
  subst hb
  by_cases h1 : x + 1 < W ∧ y + 1 < h
  · have e : turnAt h W G x y = turnB G x y := by simp [turnAt, h1.1, h1.2]
    rw [e]
    exact turns_in B top cap h W rb rc G w hm h8 w8 x y h1.1 h1.2
  · have e : turnAt h W G x y = false := by
      by_cases h2 : x + 1 < W
      · have h3 : ¬ y + 1 < h := fun h3 => h1 ⟨h2, h3⟩
        simp [turnAt, h3]
      · simp [turnAt, h2]
    rw [e]
    refine (turns_out B top cap h W rb rc G w hm h0 h8 w8 x y (by omega) (by omega) (by omega)).mono ?_
    rintro e w' ⟨rfl, rfl⟩
    exact ⟨rfl, 0, rfl⟩

/-- The blocks of row y, before column m, that may be turned. -/
def rowPts (h W : Nat) (G : Nat → Nat → UInt8) (y m : Nat) : List (Nat × Nat) := ((List.range m).filter (fun x => turnAt h W G x y)).map (fun x => (x, y))
/-- Those of the rows before k. -/
def ptsTo (h W : Nat) (G : Nat → Nat → UInt8) (k : Nat) : List (Nat × Nat) := (List.range k).flatMap (fun y => rowPts h W G y W)
def ptCells (l : List (Nat × Nat)) : List Value := l.flatMap (fun p => [.int .i64 p.1, .int .i64 p.2])
theorem rowPts_succ (h W : Nat) (G : Nat → Nat → UInt8) (y m : Nat) : rowPts h W G y (m + 1) = if turnAt h W G m y then rowPts h W G y m ++ [(m, y)] else rowPts h W G y m := by
  unfold rowPts
  rw [List.range_succ, List.filter_append, List.map_append]
  cases ht : turnAt h W G m y <;> simp [ht]
theorem ptsTo_succ (h W : Nat) (G : Nat → Nat → UInt8) (k : Nat) : ptsTo h W G (k + 1) = ptsTo h W G k ++ rowPts h W G k W := by
  simp [ptsTo, List.range_succ]
theorem ptCells_append (a b : List (Nat × Nat)) : ptCells (a ++ b) = ptCells a ++ ptCells b := by simp [ptCells]
theorem rowPts_len (h W : Nat) (G : Nat → Nat → UInt8) (y m : Nat) : (rowPts h W G y m).length ≤ m := by
  unfold rowPts
  rw [List.length_map]
  exact Nat.le_trans (List.length_filter_le _ _) (by simp)
theorem ptsTo_len (h W : Nat) (G : Nat → Nat → UInt8) (k : Nat) : (ptsTo h W G k).length ≤ k * W := by
  induction k with
  | zero => simp [ptsTo]
  | succ k ih =>
    rw [ptsTo_succ, List.length_append, Nat.succ_mul]
    have := rowPts_len h W G k W
    omega

theorem info23 : (Tryd.prog.info? 23).map (fun i => (i.zero, i.size, i.bytes)) = some (some (.agg #[.int .i64 0, .int .i64 0]), 2, 16) := by kernel_rfl

theorem own_drewN {w : World} {B e size n : Nat} {v : Value} {xs : List Value} (h : w.ownsRow B e size v n xs) (k : Nat) : (w.drewN k).ownsRow B e size v n xs := h
theorem own_mono {w : World} {B B' e size n : Nat} {v : Value} {xs : List Value} (h : w.ownsRow B e size v n xs) (hB : B' ≤ B) : w.ownsRow B' e size v n xs := by
  refine ⟨h.1, ?_⟩
  rcases h.2 with hn | ⟨g, cap, cur, hv, hb, r⟩
  · exact .inl hn
  · exact .inr ⟨g, cap, cur, hv, Nat.le_trans hB hb, r⟩
theorem cell_two_d (w : World) (nq : Nat) (x y : Value) (t : TypeId) : ∀ j u, [x, y][j]? = some u → ((w.drewN nq).alloc (.cells #[x, y] t)).cell? ((⟨w.heap.size, 0, none⟩ : Addr).add j) = some u := by
  intro j u hj
  have hn : ((w.drewN nq).alloc (.cells #[x, y] t)).heap[w.heap.size]? = some (.cells #[x, y] t (0, 0)) := World.alloc_heap_new (w.drewN nq) _
  rw [addr_add0]
  simp only [World.cell?, hn]
  match j, hj with
  | 0, hj => simpa using hj
  | 1, hj => simpa using hj

/-- What Flips hands back. -/
def FlipsG (s : List UInt8) (w : World) (e : Ending) (w' : World) : Prop :=
  Below w.heap.size w w' ∧ ((¬ Tiling s ∧ e = .returned (.tuple #[.slice none 0 0, .int .i64 1])) ∨
    (Tiling s ∧ ∃ v, e = .returned (.tuple #[v, .int .i64 0]) ∧ w'.ownsRow w.heap.size 23 2 v (ptsTo (hOf s) (wOf s) (gOf s) (hOf s)).length (ptCells (ptsTo (hOf s) (wOf s) (gOf s) (hOf s)))))

set_option maxRecDepth 100000 in
set_option maxHeartbeats 8000000 in
theorem flips_any (s : List UInt8) (hs : s.length ≤ 9223372036854775807) (w : World) : Calls Tryd.prog 10 #[.string ⟨s.toArray⟩] w (FlipsG s w) := by
  obtain ⟨i0, hi, hz0, hz1, hz2⟩ := info_parts info23
  have hn0 := eqnil_none
  have hn1 := eqnil_some
  go_enter Tryd.func10, Tryd.ntmps10
  go_wp2_with fail
  refine (tiles_any s hs _).mono ?_
  rintro e w1 ⟨hb, ⟨hng, rfl⟩ | ⟨hT, top, cap, rb, rc, rfl, hm⟩⟩
  · have HN := Lib.hid hng
    clear hng
    go_wp2
    go_ret2
    exact ⟨hb, .inl ⟨HN.out, rfl⟩⟩
  · obtain ⟨h8, w8, h0, w0⟩ := good_h hT.1
    have HT := Lib.hid hT
    clear hT
    generalize hh : hOf s = h at h8 h0 hm ⊢
    generalize hw : wOf s = W at w8 w0 hm ⊢
    generalize hgg : gOf s = G at hm ⊢
    have HE := Lib.hid (⟨hh, hw, hgg⟩ : hOf s = h ∧ wOf s = W ∧ gOf s = G)
    clear hh hw hgg
    go_wp2
    go_loopw [5, 14] (fun v i wr => ∃ k : Nat, k ≤ h ∧ i = .int .i64 k ∧ wr.ownsRow w1.heap.size 23 2 v (ptsTo h W G k).length (ptCells (ptsTo h W G k)) ∧ Below w1.heap.size w1 wr) (fun _ i _ => h - (intOf i).toNat)
    case atStart => exact ⟨0, Nat.zero_le _, rfl, World.ownsRow_nil _ _ _ _, Below.refl _ _⟩
    case round =>
      obtain ⟨k, hk, rfl, hown, hbr⟩ := hrel
      obtain ⟨wo, rfl⟩ : ∃ wo : World, wo = wr := ⟨_, rfl⟩
      by_cases hkl : k < h
      · have hmr := hm.below hbr
        have c1 := hmr.row k hkl
        have hpl := ptsTo_len h W G k
        have hp2 : k * W ≤ 8 * 8 := Nat.mul_le_mul (by omega) w8
        go_wp2
        go_loopw [5, 22] (fun v i wi => ∃ m : Nat, m ≤ W ∧ i = .int .i64 m ∧ wi.ownsRow w1.heap.size 23 2 v (ptsTo h W G k ++ rowPts h W G k m).length (ptCells (ptsTo h W G k ++ rowPts h W G k m)) ∧ Below w1.heap.size w1 wi) (fun _ i _ => W - (intOf i).toNat)
        case atStart => exact ⟨0, Nat.zero_le _, rfl, by simpa [rowPts] using hown, hbr⟩
        case round =>
          obtain ⟨m, hmm, rfl, hown2, hbi⟩ := hrel
          clear hmr c1 hown
          by_cases hml : m < W
          · have hmi := hm.below hbi
            have hrl := rowPts_len h W G k m
            have hll : (ptsTo h W G k ++ rowPts h W G k m).length ≤ 100 := by rw [List.length_append]; omega
            generalize hl : ptsTo h W G k ++ rowPts h W G k m = l at hown2 hll
            have HL := Lib.hid hl
            clear hl hpl hrl hp2
            cases ht : turnAt h W G m k
            · have HTn := Lib.hid ht
              clear ht
              go_wp2_with (go_at_call 34; refine (turns_nat _ top cap h W rb rc G _ hmi h0 (by omega) (by omega) m k hml hkl false HTn).mono ?_; rintro e w2 ⟨rfl, nq, hd⟩; subst hd)
              go_roundw
              case rel => go_light; exact ⟨m + 1, by omega, by go_num, by rw [rowPts_succ, HTn.out]; simp only [Bool.false_eq_true, if_false]; rw [HL.out]; exact hown2, below_drewN hbi _⟩
              case measure => go_light; simp [intOf]; omega
            · have HTn := Lib.hid ht
              clear ht
              go_wp2_with (first | (go_at_call 34; refine (turns_nat _ top cap h W rb rc G _ hmi h0 (by omega) (by omega) m k hml hkl true HTn).mono ?_; rintro e w2 ⟨rfl, nq, hd⟩; subst hd) | (at_builtin; refine wpList_append_own _ rfl _ _ 28 rfl w1.heap.size 23 i0 (.agg #[.int .i64 0, .int .i64 0]) 2 16 Tryd.underlying28 hi hz0 hz1 hz2 rfl (by decide) _ _ _ rfl ((own_drewN hown2 nq).alloc _) ⟨wr.heap.size, 0, none⟩ 1 1 [.int .i64 m, .int .i64 k] rfl rfl (cell_two_d _ _ _ _ _) (by simp [Value.oneCell']) (by unfold maxLen; omega) (by omega) (by have := hbi.size; simp; omega) ?_; intro v' w3 hown' hgrow hdrop; clear hdrop))
              have hb3 : Below w1.heap.size w1 w3 := ((below_drewN hbi nq).alloc (by simpa using hbi.size) _).grown hgrow (by have := hbi.size; simp; omega) (fun g e => (hown2.lt g e).1)
              go_roundw
              case rel => go_light; exact ⟨m + 1, by omega, by go_num, by rw [rowPts_succ, HTn.out]; simp only [if_true]; rw [← List.append_assoc, HL.out, ptCells_append, List.length_append]; exact hown', hb3⟩
              case measure => go_light; simp [intOf]; omega
          · obtain rfl : m = W := by omega
            go_wp2
            go_roundw
            case rel => go_light; exact ⟨k + 1, by omega, by go_num, by rw [ptsTo_succ]; exact hown2, hbi⟩
            case measure => go_light; simp [intOf]; omega
      · obtain rfl : k = h := by omega
        go_wp2
        go_ret2
        obtain ⟨e1, e2, e3⟩ := HE.out
        refine ⟨hb.trans ⟨hbr.os, hbr.tape, hbr.output, hbr.size, fun j hj => hbr.block j (by have := hb.size; omega)⟩, .inr ⟨HT.out, _, rfl, ?_⟩⟩
        rw [e1, e2, e3]
        exact own_mono hown hb.size
end Go.Proofs.YtahihapgbcoanaaDoor
