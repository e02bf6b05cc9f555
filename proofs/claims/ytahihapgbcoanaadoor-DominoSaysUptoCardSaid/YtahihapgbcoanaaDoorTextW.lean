/- The walk of domino.text. -/
import Derived.Test.YtahihapgbcoanaaDoorTilesW
import Derived.Test.YtahihapgbcoanaaDoorPlain
namespace Go.Proofs.YtahihapgbcoanaaDoor
open Go.RowKit

theorem info9 : (Tryd.prog.info? 9).map (fun i => (i.zero, i.size, i.bytes)) = some (some (.string ByteArray.empty), 1, 16) := by kernel_rfl

theorem text_nil (A : Option Addr) (c : Nat) (w : World) : Calls Tryd.prog 31 #[.slice A 0 c] w fun e w' => e = .returned (.string ⟨#[]⟩) ∧ w = w' := by
  go_enter Tryd.func31, Tryd.ntmps31
  go_wp2
  refine wp_loop_rounds 1 ?_
  rw [rounds_succ]
  go_wp2_with (go_at_call 49; refine (Tryd.strings_Join_none _ _ _ _).mono ?_; rintro e w' ⟨rfl, rfl⟩)
  go_ret
  exact ⟨rfl, rfl⟩

theorem addr_add0 (b j : Nat) : (⟨b, 0, none⟩ : Addr).add j = ⟨b, j, none⟩ := by
  cases j <;> simp [Addr.add]

/-- What text hands back: the grid's text; nothing that lay has turned. -/
def TextG (h W : Nat) (G : Nat → Nat → UInt8) (w : World) (e : Ending) (w' : World) : Prop :=
  e = .returned (.string ⟨(textOf h W G).toArray⟩) ∧ Below w.heap.size w w'

set_option maxRecDepth 100000 in
set_option maxHeartbeats 4000000 in
theorem text_any (B top cap h W : Nat) (rb rc : Nat → Nat) (G : Nat → Nat → UInt8) (w : World) (hm : GMem w B top rb rc h W G) (h0 : 0 < h) (h8 : h ≤ 16) (w8 : W ≤ 16) :
    Calls Tryd.prog 31 #[.slice (some ⟨top, 0, none⟩) h cap] w (TextG h W G w) := by
  obtain ⟨i0, hi, hz0, hz1, hz2⟩ := info_parts info9
  go_enter Tryd.func31, Tryd.ntmps31
  go_wp2
  go_loopw [3, 8] (fun v i wr => ∃ k : Nat, k ≤ h ∧ i = .int .i64 k ∧ wr.ownsRow w.heap.size 9 1 v k ((rowsOf k W G).map (fun r => Value.string ⟨r.toArray⟩)) ∧ Below w.heap.size w wr) (fun _ i _ => h - (intOf i).toNat)
  case atStart => exact ⟨0, Nat.zero_le _, rfl, World.ownsRow_nil _ _ _ _, Below.refl _ _⟩
  case round =>
    obtain ⟨k, hk, rfl, hown, hb⟩ := hrel
    by_cases hkl : k < h
    · have hm' := hm.below hb
      have c1 := hm'.row k hkl
      have hconv : (convert 63 9 (.slice (some ⟨rb k, 0, none⟩) W (rc k))).run Tryd.prog wr = .ok (.string ⟨(rowOf W G k).toArray⟩) wr := by
        have hh := run_convert_bytes_back (P := Tryd.prog) wr 63 9 5 ⟨rb k, 0, none⟩ (rc k) (rowOf W G k) Tryd.underlying63 Tryd.underlying5 Tryd.underlying9 (fun j hj => by
          have hj' : j < W := by simpa [rowOf] using hj
          have e : (⟨rb k, 0, none⟩ : Addr).add j = ⟨rb k, j, none⟩ := addr_add0 _ _
          rw [e, hm'.cell k j hkl hj']
          simp [rowOf])
        rw [rowOf_length] at hh
        exact hh
      go_wp2_with (at_builtin; refine wpList_append_own _ rfl _ _ 44 rfl w.heap.size 9 i0 (.string ByteArray.empty) 1 16 Tryd.underlying44 hi hz0 hz1 hz2 rfl (by decide) _ _ _ rfl (hown.alloc _) ⟨wr.heap.size, 0, none⟩ 1 1 [.string ⟨(rowOf W G k).toArray⟩] rfl rfl (cell_one_new _ _ _) (by simp [Value.oneCell']) (by unfold maxLen; omega) (by omega) (by have := hb.size; simp; omega) ?_; intro v' w1 hown' hgrow hdrop; clear hdrop)
      have hb1 : Below w.heap.size w w1 := (hb.alloc hb.size _).grown hgrow (by have := hb.size; simp; omega) (fun g e => (hown.lt g e).1)
      go_roundw
      case rel => go_light; exact ⟨k + 1, by omega, by go_num, by rw [rowsOf_succ, List.map_append]; exact hown', hb1⟩
      case measure => go_light; simp [intOf]; omega
    · obtain rfl : k = h := by omega
      obtain ⟨k', rfl⟩ : ∃ k', k = k' + 1 := ⟨k - 1, by omega⟩
      obtain ⟨g, cp, hv⟩ := ownsRow_succ hown
      subst hv
      have hlt := (hown.lt g rfl).2
      have hcap : k' + 1 ≤ cp := by
        rcases hown.2 with ⟨e, _⟩ | ⟨g', cap', cur, e, _, _, hc, _⟩
        · cases e
        · cases e; exact hc
      have hlen := textOf_length (k' + 1) W G
      have HH : Hid (((rowsOf (k' + 1) W G).map (fun r => (⟨r.toArray⟩ : ByteArray))).length = k' + 1) := Lib.hid (by simp [rowsOf])
      have HM : Hid (((rowsOf (k' + 1) W G).map (fun r => (⟨r.toArray⟩ : ByteArray))).map (·.data.toList) = rowsOf (k' + 1) W G) := Lib.hid (by
        rw [List.map_map]
        exact (List.map_congr_left (fun _ _ => rfl)).trans (List.map_id _))
      have hj := Tryd.strings_Join g 0 cp ((rowsOf (k' + 1) W G).map (fun r => (⟨r.toArray⟩ : ByteArray))) ⟨#[47]⟩ wr (fun j x hx => by
          have hjl : j < k' + 1 := by
            rcases Nat.lt_or_ge j (k' + 1) with h | h
            · exact h
            · rw [List.getElem?_eq_none (by rw [HH.out]; exact h)] at hx; cases hx
          rw [Nat.zero_add, hown.cellAt j (by omega), List.getElem?_map]
          rw [List.getElem?_map] at hx
          cases hr : (rowsOf (k' + 1) W G)[j]? with
          | none => rw [hr] at hx; cases hx
          | some r => rw [hr] at hx; cases hx; rfl)
        hlt (by rw [HH.out]; omega) (by rw [HH.out]; exact hcap) (by
          rw [HM.out]
          have e : Lib.join (rowsOf (k' + 1) W G) (⟨#[47]⟩ : ByteArray).data.toList = textOf (k' + 1) W G := rfl
          rw [e]
          have h2 : (k' + 1) * W ≤ 16 * 16 := Nat.mul_le_mul h8 w8
          omega)
      rw [HH.out, HM.out] at hj
      have HJ := Lib.hid hj
      clear hj
      go_wp2_with fail
      refine HJ.out.mono ?_
      rintro e w2 ⟨rfl, hb2⟩
      go_wp2
      go_ret
      refine ⟨rfl, hb.trans ⟨hb2.os, hb2.tape, hb2.output, hb2.size, fun k hk => hb2.block k (by have := hb.size; omega)⟩⟩
end Go.Proofs.YtahihapgbcoanaaDoor
