/- The walk of domino.First: its closure joined, and the whole. -/
import Derived.Test.YtahihapgbcoanaaDoorFirstX
import Derived.Laws.EntriesVeiled
namespace Go.Proofs.YtahihapgbcoanaaDoor
open Go.RowKit Go.Maps

theorem from_any (B top cap h W cl cw cd cf bm : Nat) (rb rc : Nat → Nat) (S : Nat → Nat → UInt8) (w0 : 0 < W) (w8 : W ≤ 8) (h8 : h ≤ 8) : ∀ n, FromIh B top cap rb rc h W S cl cw cd cf bm n := by
  intro n
  induction n with
  | zero =>
    intro k m c G D w hk I hD _ F
    exact from_end B top cap h W cl cw cd cf bm rb rc S w8 h8 k m c G D w hk (Nat.lt_of_lt_of_le I.lt (two_pow8 w8)) hD F
  | succ n ih =>
    intro k m c G D w hk I hD hc F
    by_cases h1 : m % 2 = 1
    · exact from_odd B top cap h W cl cw cd cf bm rb rc S w0 w8 h8 n ih k m c G D w hk I hD hc F h1
    · have h1 : m % 2 = 0 := by omega
      by_cases h2 : S (k / W) (k % W) = 35
      · by_cases h3 : lieB W S (k / W) (k % W) m = true
        · exact from_hash0 B top cap h W cl cw cd cf bm rb rc S w0 w8 h8 n ih k m c G D w hk I hD hc F h1 h2 h3
        · by_cases h4 : k % W + 1 < W
          · by_cases h5 : m / 2 % 2 = 1
            · exact from_hash2 B top cap h W cl cw cd cf bm rb rc S w0 w8 h8 n ih k m c G D w hk I hD hc F h1 h2 h4 h5
            · have h5 : m / 2 % 2 = 0 := by omega
              exact from_hash3 B top cap h W cl cw cd cf bm rb rc S w0 w8 h8 n ih k m c G D w hk I hD hc F h1 h2 h4 h5 (fun e => h3 (by simp only [lieB, Bool.and_eq_true, decide_eq_true_eq]; exact ⟨h4, h5, e⟩))
          · exact from_hash1 B top cap h W cl cw cd cf bm rb rc S w0 w8 h8 n ih k m c G D w hk I hD hc F h1 h2 h4
      · exact from_dot B top cap h W cl cw cd cf bm rb rc S w0 w8 h8 n ih k m c G D w hk I hD hc F h1 h2

/-- What First hands back. -/
def FirstG (s : List UInt8) (w : World) (e : Ending) (w' : World) : Prop :=
  Below w.heap.size w w' ∧ ((¬ Good hash (pieces s) ∧ e = .returned (.tuple #[.string ⟨#[]⟩, .int .i64 1])) ∨
    (Good hash (pieces s) ∧ wayF (hOf s) (wOf s) (gOf s) (hOf s * wOf s) 0 0 = false ∧ e = .returned (.tuple #[.string ⟨#[]⟩, .int .i64 5])) ∨
    (Good hash (pieces s) ∧ wayF (hOf s) (wOf s) (gOf s) (hOf s * wOf s) 0 0 = true ∧
      e = .returned (.tuple #[.string ⟨(textOf (hOf s) (wOf s) (fillF (hOf s) (wOf s) (gOf s) (hOf s * wOf s) 0 0 (gOf s))).toArray⟩, .int .i64 0])))

theorem cell_newF (w : World) (v : Value) (t : TypeId) (N : Nat) (hN : w.heap.size = N) : (w.alloc (.cells #[v] t)).cell? ⟨N, 0, none⟩ = some v := by
  have hn := World.alloc_heap_new w (.cells #[v] t)
  rw [hN] at hn
  simp [World.cell?, hn]
theorem cell_al {w : World} {v : Value} {b o : Nat} (h : w.cell? ⟨b, o, none⟩ = some v) (x : Obj) : (w.alloc x).cell? ⟨b, o, none⟩ = some v :=
  cell_b h ((Below.refl _ _).alloc (Nat.le_refl _) _)
/-- The closure's memory as First lays it. -/
theorem fw_start {w : World} {B top cap h W : Nat} {rb rc : Nat → Nat} {G : Nat → Nat → UInt8} (hm : GMem w B top rb rc h W G) (hB : B ≤ w.heap.size) (v : Value)
    (hv : v = .func (.func 39) #[] #[.pointer (some ⟨w.heap.size + 1, 0, none⟩), .pointer (some ⟨w.heap.size, 0, none⟩), .pointer (some ⟨w.heap.size + 1 + 1 + 1, 0, none⟩), .pointer (some ⟨w.heap.size + 1 + 1 + 1 + 1, 0, none⟩)]) :
    FW (((((w.alloc (.cells #[.slice (some ⟨top, 0, none⟩) h cap] 60)).alloc (.cells #[.int .i64 W] 3)).alloc (.map #[] 0)).alloc (.cells #[.map (some (w.heap.size + 1 + 1))] 68)).alloc (.cells #[v] 69))
      B top cap rb rc h W G w.heap.size (w.heap.size + 1) (w.heap.size + 1 + 1 + 1) (w.heap.size + 1 + 1 + 1 + 1) (w.heap.size + 1 + 1) 0 (.map []) ∧
    Below B w (((((w.alloc (.cells #[.slice (some ⟨top, 0, none⟩) h cap] 60)).alloc (.cells #[.int .i64 W] 3)).alloc (.map #[] 0)).alloc (.cells #[.map (some (w.heap.size + 1 + 1))] 68)).alloc (.cells #[v] 69)) := by
  have hlt := hm.lt
  have s1 : (w.alloc (.cells #[.slice (some ⟨top, 0, none⟩) h cap] 60)).heap.size = w.heap.size + 1 := by simp
  have s2 : ((w.alloc (.cells #[.slice (some ⟨top, 0, none⟩) h cap] 60)).alloc (.cells #[.int .i64 W] 3)).heap.size = w.heap.size + 1 + 1 := by simp
  have s3 : (((w.alloc (.cells #[.slice (some ⟨top, 0, none⟩) h cap] 60)).alloc (.cells #[.int .i64 W] 3)).alloc (.map #[] 0)).heap.size = w.heap.size + 1 + 1 + 1 := by simp
  have s4 : ((((w.alloc (.cells #[.slice (some ⟨top, 0, none⟩) h cap] 60)).alloc (.cells #[.int .i64 W] 3)).alloc (.map #[] 0)).alloc (.cells #[.map (some (w.heap.size + 1 + 1))] 68)).heap.size = w.heap.size + 1 + 1 + 1 + 1 := by simp
  have hmap := World.ownsMap_made (H := Unit) ((w.alloc (.cells #[.slice (some ⟨top, 0, none⟩) h cap] 60)).alloc (.cells #[.int .i64 W] 3)) Tryd.prog 70 (plainElem Tryd.prog 3)
  rw [s2] at hmap
  refine ⟨⟨((((hm.alloc _).alloc _).alloc _).alloc _).alloc _, cell_al (cell_al (cell_al (cell_al (cell_newF w _ 60 _ rfl) _) _) _) _, cell_al (cell_al (cell_al (cell_newF _ _ 3 _ s1) _) _) _, cell_al (cell_newF _ _ 68 _ s3) _, by rw [← hv]; exact cell_newF _ _ 69 _ s4,
    (hmap.alloc _).alloc _, fun i hi => ?_, ⟨?_, by omega, by omega, by omega, by omega⟩, by omega⟩,
    (((((Below.refl B w).alloc hB _).alloc (by rw [s1]; omega) _).alloc (by rw [s2]; omega) _).alloc (by rw [s3]; omega) _).alloc (by rw [s4]; omega) _⟩
  · have := (hlt (rb i) (.inr ⟨i, hi, rfl⟩)).2
    refine ⟨by omega, by omega, by omega, by omega, by omega⟩
  · have := (hlt top (.inl rfl)).2
    omega

set_option maxRecDepth 100000 in
set_option maxHeartbeats 4000000 in
theorem First_any (s : List UInt8) (hs : s.length ≤ 9223372036854775807) (w : World) : Calls Tryd.prog 16 #[.string ⟨s.toArray⟩] w (FirstG s w) := by
  have hn0 := eqnil_none
  have hn1 := eqnil_some
  have hmm := @run_makeMap Tryd.prog
  go_enter Tryd.func16, Tryd.ntmps16
  go_wp2_with fail
  refine (rows_hash s hs _).mono ?_
  rintro e w1 ⟨hb, ⟨hng, rfl⟩ | ⟨hg, top, cap, rb, rc, rfl, hm⟩⟩
  · have HN := Lib.hid hng
    clear hng
    go_wp2_with fail
    go_ret2
    exact ⟨hb.alloc hb.size _, .inl ⟨HN.out, rfl⟩⟩
  · obtain ⟨h8, w8, h0, w0⟩ := good_h hg
    have HG := Lib.hid hg
    clear hg
    obtain ⟨h, hh⟩ : ∃ h, hOf s = h := ⟨_, rfl⟩
    obtain ⟨W, hw⟩ : ∃ W, wOf s = W := ⟨_, rfl⟩
    obtain ⟨S, hS⟩ : ∃ S, gOf s = S := ⟨_, rfl⟩
    rw [hh, hw, hS] at hm
    rw [hh] at h8 h0 ⊢
    rw [hw] at w8 w0
    have HE := Lib.hid (⟨hh, hw, hS⟩ : hOf s = h ∧ wOf s = W ∧ gOf s = S)
    clear hh hw hS
    have c0 : (w1.alloc (.cells #[.slice (some ⟨top, 0, none⟩) h cap] 60)).cell? ⟨top, 0, none⟩ = some (.slice (some ⟨rb 0, 0, none⟩) W (rc 0)) := (hm.alloc _).row 0 h0
    have hst := fw_start (cap := cap) hm hb.size _ rfl
    have hbud : 0 + budget W (h * W) 0 ≤ 9000000000000 := by have := budget_le W (h * W) 0 (Nat.mul_le_mul h8 w8); omega
    go_wp2_with fail
    refine (from_any _ top cap h W _ _ _ _ _ rb rc S w0 w8 h8 (h * W) 0 0 0 S (.map []) _ (by omega) InvF.start (deadOk_empty h W S) hbud hst.1).mono ?_
    intro e w2 hfg
    have hb1 := hb.trans hst.2
    clear hst
    cases hx : wayF h W S (h * W) 0 0
    · obtain ⟨rfl, hb2, D2, _, F2⟩ := hfg.no hx
      clear hfg
      go_wp2_with fail
      go_ret2
      exact ⟨hb1.trans hb2, .inr (.inl ⟨HG.out, by rw [HE.out.1, HE.out.2.1, HE.out.2.2]; exact hx, rfl⟩)⟩
    · obtain ⟨rfl, hb2, D2, _, F2⟩ := hfg.yes hx
      clear hfg
      have d1 := F2.l
      have HX := Lib.hid hx
      clear hx
      go_wp2_with fail
      refine (text_any _ top cap h W rb rc _ _ F2.g h0 (by omega) (by omega)).mono ?_
      rintro e w3 ⟨rfl, hb3⟩
      go_wp2_with fail
      go_ret2
      refine ⟨(hb1.trans hb2).trans (hb3.mono ?_), .inr (.inr ⟨HG.out, by rw [HE.out.1, HE.out.2.1, HE.out.2.2]; exact HX.out, by rw [HE.out.1, HE.out.2.1, HE.out.2.2]; rfl⟩)⟩
      have := F2.m.lt
      have := F2.bB
      omega
end Go.Proofs.YtahihapgbcoanaaDoor
