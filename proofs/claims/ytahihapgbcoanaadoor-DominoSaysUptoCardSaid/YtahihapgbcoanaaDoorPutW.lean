/- The walk of ferref.Put. -/
import Derived.Test.YtahihapgbcoanaaDoorBlocksW
namespace Go.Proofs.YtahihapgbcoanaaDoor
open Go.RowKit

/-- Four letters put at q, q + 1 and a line further on. -/
def putL (s : List UInt8) (W q : Nat) (a b c d : UInt8) : List UInt8 := (((s.set q a).set (q + 1) b).set (q + (W + 1)) c).set (q + (W + 1) + 1) d

theorem RowAt.set {w : World} {b : Nat} {r : List UInt8} (h : RowAt w b r) {i : Nat} (hi : i < r.length) (c : UInt8) : RowAt (w.setCell ⟨b, i, none⟩ (.int .u8 c.toNat)) b (r.set i c) := by
  obtain ⟨⟨cur, fr, hb⟩, hc⟩ := h
  refine ⟨⟨cur.setIfInBounds i (.int .u8 c.toNat), fr, ?_⟩, fun j e hj => ?_⟩
  · simp [World.setCell, Array.getElem?_modify, hb]
  · rw [World.frozen?_setCell]
    by_cases hij : j = i
    · subst hij
      have : e = c := by
        rw [List.getElem?_set_self hi] at hj
        exact (Option.some.inj hj).symm
      subst this
      have h0 := hc j (r[j]) (List.getElem?_eq_getElem hi)
      exact ⟨World.cell?_setCell_same' _ _ _ (by rw [h0.1]; rfl), h0.2⟩
    · rw [List.getElem?_set_ne (fun e => hij e.symm)] at hj
      have h0 := hc j e hj
      refine ⟨?_, h0.2⟩
      rw [World.cell?_setCell_other _ _ _ _ (fun e2 => hij (congrArg Addr.off e2).symm)]
      exact h0.1
theorem RowAt.drew {w : World} {b : Nat} {r : List UInt8} (h : RowAt w b r) : RowAt w.drew b r := h

theorem index_at (l : List UInt8) (c : UInt8) (n : Nat) (w : World) (h : Lib.indexByte l c = n) :
    Calls Tryd.prog 30 #[.string ⟨l.toArray⟩, .int .u8 (c.toNat : Int)] w fun e w' => e = .returned (.int .i64 (n : Int)) ∧ w = w' := by
  refine (Tryd.strings_IndexByte ⟨l.toArray⟩ (c.toNat : Int) w).mono ?_
  rintro e w' ⟨rfl, rfl⟩
  exact ⟨by simp [h], rfl⟩
theorem index_slash (s : List UInt8) (n : Nat) (w : World) (h : Lib.indexByte (s ++ [47]) 47 = n) :
    Calls Tryd.prog 30 #[.string ⟨(s ++ [47]).toArray⟩, .int .u8 47] w fun e w' => e = .returned (.int .i64 (n : Int)) ∧ w = w' := by
  have h1 := index_at (s ++ [47]) 47 n w h
  have e : ((47 : UInt8).toNat : Int) = 47 := by simp
  rw [e] at h1
  exact h1

set_option maxRecDepth 100000 in
set_option maxHeartbeats 4000000 in
theorem put_any (s : List UInt8) (W x y q : Nat) (a b c d : UInt8) (w : World) (hs : s.length ≤ 1048576) (hW : W ≤ 1048576) (hW1 : 1 ≤ W) (hi : Lib.indexByte (s ++ [47]) 47 = W) (hq : y * (W + 1) = q) (hl : q + (W + 1) + x + 1 < s.length) :
    Calls Tryd.prog 15 #[.string ⟨s.toArray⟩, .int .i64 x, .int .i64 y, .string ⟨#[a, b, c, d]⟩] w fun e w' => e = .returned (.string ⟨(putL s W (q + x) a b c d).toArray⟩) ∧ Below w.heap.size w w' := by
  have hmul : (y : Int) * ((W : Int) + 1) = (q : Int) := by rw [← hq]; simp
  have hap : (⟨s.toArray⟩ : ByteArray) ++ ⟨#[47]⟩ = ⟨(s ++ [47]).toArray⟩ := by
    apply ByteArray.ext
    rw [ByteArray.data_append]
    simp
  have hconv : ∀ u : World, (convert 9 63 (.string ⟨s.toArray⟩)).run Tryd.prog u = .ok (.slice (some ⟨u.heap.size, 0, none⟩) s.length (grownCap u s.length 0 5)) (Lib.bytesWorld u 5 ⟨s.toArray⟩) := fun u => by
    have h := Lib.run_convert_string_bytes (P := Tryd.prog) u 9 63 5 ⟨s.toArray⟩ Tryd.underlying9 Tryd.underlying63 Tryd.underlying5
    simpa [ByteArray.size] using h
  have hy : y ≤ q := by rw [← hq]; exact Nat.le_mul_of_pos_right y (by omega)
  have HI := Lib.hid hi
  clear hq hi
  go_enter Tryd.func15, Tryd.ntmps15
  go_wp2_with (go_at_call 30; refine (index_slash s W _ HI.out).mono ?_; rintro e w' ⟨rfl, rfl⟩)
  have hr1 := RowAt.bytes w s
  have hb1 : Below w.heap.size w (Lib.bytesWorld w 5 ⟨s.toArray⟩) := below_bytes (Below.refl _ _) (Nat.le_refl _) _
  clear hconv hap
  generalize Lib.bytesWorld w 5 ⟨s.toArray⟩ = w1 at hr1 hb1 ⊢
  generalize hB : w.heap.size = B at hr1 hb1 ⊢
  have HB := Lib.hid hB
  clear hB
  generalize grownCap w s.length 0 5 = cp
  obtain ⟨g1, hg1⟩ : ∃ g, s[q + x]? = some g := ⟨_, List.getElem?_eq_getElem (by omega)⟩
  obtain ⟨g2, hg2⟩ : ∃ g, s[q + x + 1]? = some g := ⟨_, List.getElem?_eq_getElem (by omega)⟩
  obtain ⟨g3, hg3⟩ : ∃ g, s[q + (W + 1) + x]? = some g := ⟨_, List.getElem?_eq_getElem (by omega)⟩
  obtain ⟨g4, hg4⟩ : ∃ g, s[q + (W + 1) + x + 1]? = some g := ⟨_, List.getElem?_eq_getElem (by omega)⟩
  have d1 := hr1.2 _ _ hg1
  have d2 := hr1.2 _ _ hg2
  have d3 := hr1.2 _ _ hg3
  have d4 := hr1.2 _ _ hg4
  obtain ⟨c1, f1⟩ := d1
  obtain ⟨c2, f2⟩ := d2
  obtain ⟨c3, f3⟩ := d3
  obtain ⟨c4, f4⟩ := d4
  clear hg1 hg2 hg3 hg4
  have i1 : (q : Int) + x < (s.length : Int) := by omega
  have i2 : (q : Int) + x + 1 < (s.length : Int) := by omega
  have i3 : (q : Int) + (W + 1) + x < (s.length : Int) := by omega
  have i4 : (q : Int) + (W + 1) + x + 1 < (s.length : Int) := by omega
  go_region
  have h1 : RowAt (w1.setCell ⟨B, q + x, none⟩ (.int .u8 a.toNat)) B (s.set (q + x) a) := hr1.set (by omega) a
  have h2 := h1.set (i := q + x + 1) (by simp; omega) b
  have h3 := h2.set (i := q + (W + 1) + x) (by simp; omega) c
  have h4 := (h3.set (i := q + (W + 1) + x + 1) (by simp; omega) d).drew
  have hput : putL s W (q + x) a b c d = (((s.set (q + x) a).set (q + x + 1) b).set (q + (W + 1) + x) c).set (q + (W + 1) + x + 1) d := by
    unfold putL
    have e : q + x + (W + 1) = q + (W + 1) + x := by omega
    rw [e]
  rw [← hput] at h4
  have hlen : (putL s W (q + x) a b c d).length = s.length := by simp [putL]
  have hb2 := Below.drew (((((hb1.setCell (p := ⟨B, q + x, none⟩) (Nat.le_refl B) (.int .u8 a.toNat)).setCell (p := ⟨B, q + x + 1, none⟩) (Nat.le_refl B) (.int .u8 b.toNat)).setCell (p := ⟨B, q + (W + 1) + x, none⟩) (Nat.le_refl B) (.int .u8 c.toNat)).setCell (p := ⟨B, q + (W + 1) + x + 1, none⟩) (Nat.le_refl B) (.int .u8 d.toNat)))
  have hconv2 := run_convert_bytes_back (P := Tryd.prog) _ 63 9 5 ⟨B, 0, none⟩ cp (putL s W (q + x) a b c d) Tryd.underlying63 Tryd.underlying5 Tryd.underlying9 (fun j hj => by
    have e : (⟨B, 0, none⟩ : Addr).add j = ⟨B, j, none⟩ := addr_add0 _ _
    rw [e, (h4.2 j _ (List.getElem?_eq_getElem hj)).1])
  rw [hlen] at hconv2
  clear hput h1 h2 h3 h4 hr1 c1 c2 c3 c4 f1 f2 f3 f4 i1 i2 i3 i4
  go_wp2_with fail
  erw [hconv2]
  clear hconv2
  generalize hw9 : ((((w1.setCell ⟨B, q + x, none⟩ (.int .u8 a.toNat)).setCell ⟨B, q + x + 1, none⟩ (.int .u8 b.toNat)).setCell ⟨B, q + (W + 1) + x, none⟩ (.int .u8 c.toNat)).setCell ⟨B, q + (W + 1) + x + 1, none⟩ (.int .u8 d.toNat)).drew = w9 at hb2 ⊢
  clear hw9
  go_wp2_with fail
  go_ret
  exact ⟨rfl, by first | exact hb2 | (rw [HB.out]; exact hb2)⟩
end Go.Proofs.YtahihapgbcoanaaDoor
