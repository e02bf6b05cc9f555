/- The walk of domino.Shuffle. -/
import Derived.Test.YtahihapgbcoanaaDoorNeedsW
namespace Go.Proofs.YtahihapgbcoanaaDoor
open Go.RowKit

/-- No open cell ahead of a place. -/
def openFree (H : Nat) (O : Nat → Nat → UInt8) (y x : Nat) : Prop := ∀ i j, i < H → j < H → (i < y ∨ (i = y ∧ j < x)) → O i j ≠ 35
/-- The open cells, block by block, each block at the first open cell. -/
def PeelG (H : Nat) : (Nat → Nat → UInt8) → List (Nat × Nat) → Prop
  | O, [] => ∀ i j, i < H → j < H → O i j ≠ 35
  | O, p :: ps => p.1 + 1 < H ∧ p.2 + 1 < H ∧ O p.2 p.1 = 35 ∧ openFree H O p.2 p.1 ∧ PeelG H (layG O p.1 p.2 false) ps
def layAll : (Nat → Nat → UInt8) → List (Nat × Nat) → List Bool → Nat → Nat → UInt8
  | O, p :: ps, b :: bs => layAll (layG O p.1 p.2 b) ps bs
  | O, _, _ => O

theorem layG_open (O : Nat → Nat → UInt8) (x y : Nat) (b : Bool) (i j : Nat) : layG O x y b i j = 35 ↔ (¬ ((i = y ∨ i = y + 1) ∧ (j = x ∨ j = x + 1)) ∧ O i j = 35) := by
  have key : ∀ a c d e : UInt8, a ≠ 35 → c ≠ 35 → d ≠ 35 → e ≠ 35 → (putG O x y a c d e i j = 35 ↔ (¬ ((i = y ∨ i = y + 1) ∧ (j = x ∨ j = x + 1)) ∧ O i j = 35)) := by
    intro a c d e ha hc hd he
    unfold putG
    by_cases h1 : i = y + 1 ∧ j = x + 1
    · rw [if_pos h1]; simp [h1.1, h1.2, he]
    · rw [if_neg h1]
      by_cases h2 : i = y + 1 ∧ j = x
      · rw [if_pos h2]; simp [h2.1, h2.2, hd]
      · rw [if_neg h2]
        by_cases h3 : i = y ∧ j = x + 1
        · rw [if_pos h3]; simp [h3.1, h3.2, hc]
        · rw [if_neg h3]
          by_cases h4 : i = y ∧ j = x
          · rw [if_pos h4]; simp [h4.1, h4.2, ha]
          · rw [if_neg h4]
            have : ¬ ((i = y ∨ i = y + 1) ∧ (j = x ∨ j = x + 1)) := by
              rintro ⟨e1 | e1, e2 | e2⟩
              · exact h4 ⟨e1, e2⟩
              · exact h3 ⟨e1, e2⟩
              · exact h2 ⟨e1, e2⟩
              · exact h1 ⟨e1, e2⟩
            simp [this]
  cases b
  · exact key 108 114 108 114 (by decide) (by decide) (by decide) (by decide)
  · exact key 117 117 100 100 (by decide) (by decide) (by decide) (by decide)
theorem PeelG.mask {H : Nat} {ps : List (Nat × Nat)} : ∀ {O O' : Nat → Nat → UInt8}, (∀ i j, O i j = 35 ↔ O' i j = 35) → PeelG H O ps → PeelG H O' ps := by
  induction ps with
  | nil => intro O O' hm h i j hi hj e; exact h i j hi hj ((hm i j).2 e)
  | cons p ps ih =>
    intro O O' hm h
    obtain ⟨h1, h2, h3, h4, h5⟩ := h
    refine ⟨h1, h2, (hm _ _).1 h3, fun i j hi hj hb e => h4 i j hi hj hb ((hm i j).2 e), ih (fun i j => ?_) h5⟩
    rw [layG_open, layG_open, hm]
theorem PeelG.tail {H : Nat} {O : Nat → Nat → UInt8} {p : Nat × Nat} {ps : List (Nat × Nat)} (h : PeelG H O (p :: ps)) (b : Bool) : PeelG H (layG O p.1 p.2 b) ps :=
  h.2.2.2.2.mask (fun i j => by rw [layG_open, layG_open])
/-- The first open cell is where the peeling goes on. -/
theorem PeelG.at {H : Nat} {O : Nat → Nat → UInt8} {ps : List (Nat × Nat)} (h : PeelG H O ps) {y x : Nat} (hy : y < H) (hx : x < H) (ho : O y x = 35) (hf : openFree H O y x) : ∃ r, ps = (x, y) :: r := by
  cases ps with
  | nil => exact absurd ho (h y x hy hx)
  | cons p r =>
    obtain ⟨a, b⟩ := p
    obtain ⟨h1, h2, h3, h4, h5⟩ := h
    have n1 : ¬ (y < b ∨ (y = b ∧ x < a)) := fun e => h4 y x hy hx e ho
    have n2 : ¬ (b < y ∨ (b = y ∧ a < x)) := fun e => hf b a (by simp at h2; omega) (by simp at h1; omega) e h3
    obtain rfl : a = x := by omega
    obtain rfl : b = y := by omega
    exact ⟨r, rfl⟩
theorem PeelG.done {H : Nat} {O : Nat → Nat → UInt8} {ps : List (Nat × Nat)} (h : PeelG H O ps) (hf : openFree H O H 0) : ps = [] := by
  cases ps with
  | nil => rfl
  | cons p r =>
    obtain ⟨h1, h2, h3, h4, h5⟩ := h
    exact absurd h3 (hf p.2 p.1 (by omega) (by omega) (.inl (by omega)))
theorem openFree.lay {H : Nat} {O : Nat → Nat → UInt8} {y x : Nat} (h : openFree H O y x) (b : Bool) : openFree H (layG O x y b) y (x + 1) := by
  intro i j hi hj hb e
  rw [layG_open] at e
  by_cases hxy : i = y ∧ j = x
  · exact e.1 ⟨.inl hxy.1, .inl hxy.2⟩
  · exact h i j hi hj (by omega) e.2
theorem openFree.next {H : Nat} {O : Nat → Nat → UInt8} {y x : Nat} (h : openFree H O y x) (hn : O y x ≠ 35) : openFree H O y (x + 1) := by
  intro i j hi hj hb
  by_cases hxy : i = y ∧ j = x
  · rw [hxy.1, hxy.2]; exact hn
  · exact h i j hi hj (by omega)
theorem openFree.row {H : Nat} {O : Nat → Nat → UInt8} {y : Nat} (h : openFree H O y H) : openFree H O (y + 1) 0 := by
  intro i j hi hj hb
  exact h i j hi hj (by omega)

/-- A slice of bools, read. -/
structure BoolsAt (w : World) (A : Option Addr) (l : List Bool) : Prop where
  at_ : ∀ (i : Nat) (b : Bool), l[i]? = some b → ∃ g o, A = some ⟨g, o, none⟩ ∧ g < w.heap.size ∧ w.cell? ⟨g, o + i, none⟩ = some (.bool b)
theorem BoolsAt.below {w w' : World} {A : Option Addr} {l : List Bool} (h : BoolsAt w A l) (hb : Below w.heap.size w w') : BoolsAt w' A l :=
  ⟨fun i b hi => by
    obtain ⟨g, o, hA, hg, hc⟩ := h.at_ i b hi
    exact ⟨g, o, hA, Nat.lt_of_lt_of_le hg hb.size, (hb.cell (p := ⟨g, o + i, none⟩) hg).trans hc⟩⟩

def ShuffleG (s : List UInt8) (up : List Bool) (ps : List (Nat × Nat)) (w : World) (e : Ending) (w' : World) : Prop :=
  Below w.heap.size w w' ∧ ((∃ er, ErrIs s er ∧ e = .returned (.tuple #[.string ⟨#[]⟩, .int .i64 er])) ∨
    (∃ n, Dia s n ∧
      ((ps.length ≠ up.length ∧ e = .returned (.tuple #[.string ⟨#[]⟩, .int .i64 3])) ∨
      (ps.length = up.length ∧ e = .returned (.tuple #[.string ⟨(textOf (2 * (n + 1)) (2 * (n + 1)) (layAll (shG n (gOf s)) ps up)).toArray⟩, .int .i64 0])))))

/-- What the loops keep: the blocks done, those to come. -/
structure ShI (H : Nat) (O0 O : Nat → Nat → UInt8) (ps psr : List (Nat × Nat)) (up : List Bool) (k : Nat) : Prop where
  le : k ≤ up.length
  len : k + psr.length = ps.length
  peel : PeelG H O psr
  rest : layAll O psr (up.drop k) = layAll O0 ps up
theorem ShI.start {H : Nat} {O : Nat → Nat → UInt8} {ps : List (Nat × Nat)} {up : List Bool} (h : PeelG H O ps) : ShI H O O ps ps up 0 := ⟨Nat.zero_le _, by simp, h, rfl⟩
theorem ShI.step {H : Nat} {O0 O : Nat → Nat → UInt8} {ps r : List (Nat × Nat)} {p : Nat × Nat} {up : List Bool} {k : Nat} {b : Bool} (h : ShI H O0 O ps (p :: r) up k) (hb : up[k]? = some b) : ShI H O0 (layG O p.1 p.2 b) ps r up (k + 1) := by
  have hk := (List.getElem?_eq_some_iff.1 hb).1
  have hd : up.drop k = b :: up.drop (k + 1) := by
    rw [List.drop_eq_getElem_cons hk]
    congr 1
    exact (List.getElem?_eq_some_iff.1 hb).2
  refine ⟨hk, by have := h.len; simp at this; omega, h.peel.tail b, ?_⟩
  have := h.rest
  rw [hd] at this
  exact this

set_option maxRecDepth 100000 in
set_option maxHeartbeats 16000000 in
theorem shuffle_any (s : List UInt8) (up : List Bool) (A : Option Addr) (acap : Nat) (ps : List (Nat × Nat)) (hs : s.length ≤ 9223372036854775807) (_hu : up.length ≤ 9223372036854775807) (w : World) (hT : Lib.Utf8Tabs 1 2 w) (hA : BoolsAt w A up)
    (hp : ∀ n, Dia s n → PeelG (2 * (n + 1)) (shG n (gOf s)) ps) (hp16 : ps.length ≤ 64) : Calls Tryd.prog 27 #[.string ⟨s.toArray⟩, .slice A up.length acap] w (ShuffleG s up ps w) := by
  go_enter Tryd.func27, Tryd.ntmps27
  go_wp2_with fail
  refine (diamond_any s hs _ hT).mono ?_
  intro e w1 hd
  obtain ⟨hb, ⟨er, her, rfl⟩ | ⟨n, hD, top, cap, rb, rc, rfl, hm⟩⟩ := hd.cases
  · have hne : (er == 0) = false := beq_eq_false_iff_ne.2 her.ne
    have HE := Lib.hid her
    clear her hd
    go_wp2
    go_ret2
    exact ⟨hb, .inl ⟨er, HE.out, rfl⟩⟩
  · clear hd
    have hpe := hp n hD
    have h1 := hD.2.2.1
    have h3 := hD.2.2.2.1
    have HD := Lib.hid hD
    clear hD hp
    obtain ⟨h, hh⟩ : ∃ h, 2 * n = h := ⟨_, rfl⟩
    obtain ⟨H, hH⟩ : ∃ H, 2 * (n + 1) = H := ⟨_, rfl⟩
    rw [hh] at hm ⊢
    rw [hH] at hpe
    have HH := Lib.hid hh.symm
    have HH2 := Lib.hid hH.symm
    have hH8 : H ≤ 8 := by omega
    have hH1 : 1 ≤ H := by omega
    have hA1 := hA.below hb
    clear hh hH hA
    go_wp2_with fail
    refine (shuffled_any n h H _ top cap rb rc _ _ h1 (by omega) HH HH2 hm).mono ?_
    rintro e w2 ⟨top2, cap2, rb2, rc2, rfl, hb2, hm2⟩
    have hb02 := hb.trans (hb2.mono hb.size)
    have hsz2 := hb2.size
    have e2 : shG n (gOf s) = shTo n h (gOf s) (azG (n + 1)) h := by unfold shG; rw [← HH.out]
    rw [e2] at hpe
    have HE2 := Lib.hid e2
    clear e2
    obtain ⟨O0, hO⟩ : ∃ O, shTo n h (gOf s) (azG (n + 1)) h = O := ⟨_, rfl⟩
    rw [hO] at hm2 hpe
    have HO := Lib.hid hO
    clear hO hm hT
    obtain ⟨B, hB⟩ : ∃ B, w1.heap.size = B := ⟨_, rfl⟩
    rw [hB] at hm2 hsz2 hb2
    have hB0 : w.heap.size ≤ B := by rw [← hB]; exact hb.size
    have HB := Lib.hid hB
    clear hB
    have hAB : ∀ (i : Nat) (b : Bool), up[i]? = some b → ∀ wr, Below B w2 wr → ∃ g o, A = some ⟨g, o, none⟩ ∧ wr.cell? ⟨g, o + i, none⟩ = some (.bool b) := fun i b hi wr hbr => by
      obtain ⟨g, o, hA, hg, hc⟩ := hA1.at_ i b hi
      rw [HB.out] at hg
      exact ⟨g, o, hA, (hbr.cell (p := ⟨g, o + i, none⟩) hg).trans ((hb2.cell (p := ⟨g, o + i, none⟩) hg).trans hc)⟩
    clear hb hA1
    go_wp2
    go_loopw [10, 28] (fun c i wr => ∃ y k psr O, y ≤ H ∧ i = .int .i64 (y : Nat) ∧ c = .int .i64 (k : Nat) ∧ GMem wr B top2 rb2 rc2 H H O ∧ Below B w2 wr ∧ Hid (ShI H O0 O ps psr up k ∧ openFree H O y 0)) (fun _ i _ => H - (intOf i).toNat)
    case atStart => exact ⟨0, 0, ps, O0, Nat.zero_le _, rfl, rfl, hm2, Below.refl _ _, Lib.hid ⟨ShI.start hpe, fun i j _ _ e => by omega⟩⟩
    case round =>
      obtain ⟨y, k, psr, O, hy, rfl, rfl, hmo, hbr, HI⟩ := hrel
      have hk64 : k ≤ 64 := by have := HI.out.1.len; omega
      obtain ⟨wo, rfl⟩ : ∃ wo : World, wo = wr := ⟨_, rfl⟩
      by_cases hyl : y < H
      · have ry := hmo.row y hyl
        have hyi : (y : Int) < (H : Int) := by omega
        go_wp2
        go_loopw [10, 35] (fun c i wi => ∃ x k psr O, x ≤ H ∧ i = .int .i64 (x : Nat) ∧ c = .int .i64 (k : Nat) ∧ GMem wi B top2 rb2 rc2 H H O ∧ Below B w2 wi ∧ Hid (ShI H O0 O ps psr up k ∧ openFree H O y x)) (fun _ i _ => H - (intOf i).toNat)
        case atStart => exact ⟨0, k, psr, O, Nat.zero_le _, rfl, rfl, hmo, hbr, HI⟩
        case round =>
          clear hmo hbr HI hk64 ry
          obtain ⟨x, k, psr, O, hx, rfl, rfl, hmo, hbr, HI⟩ := hrel
          have hk64 : k ≤ 64 := by have := HI.out.1.len; omega
          by_cases hxl : x < H
          · have cx := hmo.cell y x hyl hxl
            have hxi : (x : Int) < (H : Int) := by omega
            by_cases ho : O y x = 35
            · have dx : wr.cell? ⟨rb2 y, x, none⟩ = some (.int .u8 35) := by rw [cx, ho]; rfl
              have HOx := Lib.hid ho
              clear ho cx
              obtain ⟨r, hr⟩ := HI.out.1.peel.at hyl hxl HOx.out HI.out.2
              by_cases hku : k = up.length
              · have ek : ((k : Int) == (up.length : Int)) = true := by simp [hku]
                have HK := Lib.hid (show ps.length ≠ up.length by have := HI.out.1.len; rw [hr] at this; simp at this; omega)
                clear hr hku
                go_wp2
                go_ret2
                exact ⟨hb02.trans (hbr.mono hB0), .inr ⟨n, HD.out, .inl ⟨HK.out, rfl⟩⟩⟩
              · have ek : ((k : Int) == (up.length : Int)) = false := by simp; omega
                have hkl : k < up.length := by have := HI.out.1.le; omega
                have hki : (k : Int) < (up.length : Int) := by omega
                obtain ⟨b, hub⟩ : ∃ b, up[k]? = some b := ⟨_, List.getElem?_eq_getElem hkl⟩
                obtain ⟨g, o, rfl, hc⟩ := hAB k b hub wr hbr
                have HI0 := HI.out
                rw [hr] at HI0
                have hx1 : x + 1 < H := HI0.1.peel.1
                have hy1 : y + 1 < H := HI0.1.peel.2.1
                have HI2 := Lib.hid (show ShI H O0 (layG O x y b) ps r up (k + 1) ∧ openFree H (layG O x y b) y (x + 1) from ⟨HI0.1.step hub, HI0.2.lay b⟩)
                clear hr hku hub HI0
                go_wp2_with (go_at_call 35; refine (lay_any B top2 cap2 H H rb2 rc2 O _ hmo (by omega) (by omega) x y hx1 hy1 b).mono ?_; rintro e w9 ⟨rfl, hm9, hk9⟩)
                have hb9 := hbr.trans ((hk9.below (Nat.le_trans hsz2 hbr.size) (fun q hq => by rcases hq with rfl | rfl; exact hmo.rbB y hyl; exact hmo.rbB (y + 1) hy1)))
                exact ⟨⟨x + 1, k + 1, r, layG O x y b, by omega, by go_num, by go_num, hm9, hb9, HI2⟩, by simp [intOf]; omega⟩
            · have fx : (((O y x).toNat : Int) == 35) = false := u8_ne (n := 35) ho
              have HI2 := Lib.hid (show ShI H O0 O ps psr up k ∧ openFree H O y (x + 1) from ⟨HI.out.1, HI.out.2.next ho⟩)
              clear ho
              go_wp2
              exact ⟨⟨x + 1, k, psr, O, by omega, by go_num, rfl, hmo, hbr, HI2⟩, by simp [intOf]; omega⟩
          · obtain rfl : x = H := by omega
            go_wp2
            exact ⟨⟨y + 1, k, psr, O, by omega, by go_num, rfl, hmo, hbr, Lib.hid ⟨HI.out.1, HI.out.2.row⟩⟩, by simp [intOf]; omega⟩
      · obtain rfl : y = H := by omega
        have hps := HI.out.1.peel.done HI.out.2
        have HIo := HI.out
        rw [hps] at HIo
        have hkp : k = ps.length := by have := HIo.1.len; simpa using this
        by_cases hku : k = up.length
        · have ek : ((k : Int) == (up.length : Int)) = true := by simp [hku]
          have HK := Lib.hid (show ps.length = up.length by omega)
          have HR := Lib.hid (show O = layAll O0 ps up from HIo.1.rest)
          clear hps HIo hkp hku
          go_wp2_with fail
          refine (text_any B top2 cap2 y y rb2 rc2 O _ hmo (by omega) (by omega) (by omega)).mono ?_
          rintro e w9 ⟨rfl, hb9⟩
          go_wp2
          go_ret2
          refine ⟨(hb02.trans (hbr.mono hB0)).trans (hb9.mono (by have := hb02.size; have := hbr.size; omega)), .inr ⟨n, HD.out, .inr ⟨HK.out, ?_⟩⟩⟩
          rw [HE2.out, HO.out, ← HR.out, ← HH2.out]
          rfl
        · have ek : ((k : Int) == (up.length : Int)) = false := by simp; omega
          have HK := Lib.hid (show ps.length ≠ up.length by omega)
          clear hps HIo hkp hku
          go_wp2
          go_ret2
          exact ⟨hb02.trans (hbr.mono hB0), .inr ⟨n, HD.out, .inl ⟨HK.out, rfl⟩⟩⟩
end Go.Proofs.YtahihapgbcoanaaDoor
