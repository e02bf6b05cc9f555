/- The walk of domino.shuffled. -/
import Derived.Test.YtahihapgbcoanaaDoorFirstB
import Derived.BigRegion
namespace Go.Proofs.YtahihapgbcoanaaDoor
open Go.RowKit

/-- Two letters set. -/
def set2 (o : Nat → Nat → UInt8) (a b : Nat) (u : UInt8) (c d : Nat) (v : UInt8) : Nat → Nat → UInt8 := fun x y => if x = c ∧ y = d then v else if x = a ∧ y = b then u else o x y
/-- One cell's domino goes. -/
def shStep (n h : Nat) (G o : Nat → Nat → UInt8) (i j : Nat) : Nat → Nat → UInt8 :=
  if G i j = 108 then
    if firstB n i j = true then (if i = 0 ∨ G (i - 1) j ≠ 108 then set2 o i (j + 1) 108 i (j + 2) 114 else o)
    else (if i + 1 = h ∨ G (i + 1) j ≠ 108 then set2 o (i + 2) (j + 1) 108 (i + 2) (j + 2) 114 else o)
  else if G i j = 117 then
    if firstB n i j = true then (if j = 0 ∨ G i (j - 1) ≠ 117 then set2 o (i + 1) j 117 (i + 2) j 100 else o)
    else (if j + 1 = h ∨ G i (j + 1) ≠ 117 then set2 o (i + 1) (j + 2) 117 (i + 2) (j + 2) 100 else o)
  else o
def shRow (n h : Nat) (G o : Nat → Nat → UInt8) (i : Nat) : Nat → Nat → Nat → UInt8
  | 0 => o
  | m + 1 => shStep n h G (shRow n h G o i m) i m
def shTo (n h : Nat) (G o : Nat → Nat → UInt8) : Nat → Nat → Nat → UInt8
  | 0 => o
  | k + 1 => shRow n h G (shTo n h G o k) k h

/-- A grid that lies below the base. -/
theorem GMem.within {w w' : World} {B B' top : Nat} {rb rc : Nat → Nat} {h W : Nat} {G : Nat → Nat → UInt8} {S : Nat} (m : GMem w B top rb rc h W G) (hb : Below B' w w') (hS : ∀ k, (k = top ∨ ∃ i, i < h ∧ rb i = k) → k < S) (hSB : S ≤ B') : GMem w' B top rb rc h W G :=
  m.same hb.size fun k hk => hb.block k (Nat.lt_of_lt_of_le (hS k hk) hSB)
theorem aztec_next (n : Nat) (hn : n ≤ 4) (w : World) :
    Calls Tryd.prog 32 #[.int .i64 ((n : Int) + 1)] w fun e w' => ∃ top cap rb rc, e = .returned (.slice (some ⟨top, 0, none⟩) (2 * (n + 1)) cap) ∧ Below w.heap.size w w' ∧ GMem w' w.heap.size top rb rc (2 * (n + 1)) (2 * (n + 1)) (azG (n + 1)) :=
  aztec_g (n + 1) (by omega) (by omega) w

set_option maxRecDepth 100000 in
set_option maxHeartbeats 16000000 in
theorem shuffled_any (n h H2 B0 top cap : Nat) (rb rc : Nat → Nat) (G : Nat → Nat → UInt8) (w : World) (h1 : 1 ≤ n) (hn : n ≤ 4) (hh : Hid (h = 2 * n)) (hH2 : Hid (H2 = 2 * (n + 1))) (hm : GMem w B0 top rb rc h h G) :
    Calls Tryd.prog 44 #[.slice (some ⟨top, 0, none⟩) h cap, .int .i64 n] w fun e w' => ∃ top2 cap2 rb2 rc2, e = .returned (.slice (some ⟨top2, 0, none⟩) H2 cap2) ∧ Below w.heap.size w w' ∧ GMem w' w.heap.size top2 rb2 rc2 H2 H2 (shTo n h G (azG (n + 1)) h) := by
  have hl1 : 1 ≤ h := by have := hh.out; omega
  have hl2 : h ≤ 8 := by have := hh.out; omega
  have hg1 : h + 2 ≤ H2 := by have := hh.out; have := hH2.out; omega
  have hg2 : H2 ≤ 10 := by have := hH2.out; omega
  go_enter Tryd.func44, Tryd.ntmps44
  go_wp2_with fail
  refine (aztec_next n hn _).mono ?_
  rintro e w1 ⟨top2, cap2, rb2, rc2, rfl, hb1, hmo1⟩
  rw [← hH2.out] at hmo1 ⊢
  have hsz : (w.alloc (.cells #[.int .i64 n] 3)).heap.size = w.heap.size + 1 := by simp
  rw [hsz] at hmo1 hb1
  have cN1 : w1.cell? ⟨w.heap.size, 0, none⟩ = some (.int .i64 n) := (hb1.cell (p := ⟨w.heap.size, 0, none⟩) (by simp)).trans (by simp)
  have hb0 : Below w.heap.size w w1 := ((Below.refl _ w).alloc (Nat.le_refl _) _).trans (hb1.mono (by simp))
  have hm1 := hm.below hb0
  have hS : ∀ k, (k = top ∨ ∃ i, i < h ∧ rb i = k) → k < w.heap.size := fun k hk => (hm.lt k hk).2
  have hlt : w.heap.size < w1.heap.size := by have := hb1.size; simp at this; omega
  clear hm hb1 hsz
  generalize hB : w.heap.size = N at *
  have HB := Lib.hid hB
  clear hB
  go_wp2
  go_loopw [17] (fun i wr => ∃ k : Nat, k ≤ h ∧ i = .int .i64 k ∧ GMem wr (N + 1) top2 rb2 rc2 H2 H2 (shTo n h G (azG (n + 1)) k) ∧ Below (N + 1) w1 wr) (fun i _ => h - (intOf i).toNat)
  case atStart => exact ⟨0, Nat.zero_le _, rfl, hmo1, Below.refl _ _⟩
  case round =>
    obtain ⟨k, hk, rfl, hmo, hbr⟩ := hrel
    clear hmo1
    obtain ⟨wo, rfl⟩ : ∃ wo : World, wo = wr := ⟨_, rfl⟩
    have hmr : GMem wo B0 top rb rc h h G := hm1.within hbr hS (by omega)
    by_cases hkl : k < h
    · have rk := hmr.row k hkl
      have hki : (k : Int) < (h : Int) := by omega
      go_wp2
      go_loopw [24] (fun i wi => ∃ m : Nat, m ≤ h ∧ i = .int .i64 m ∧ GMem wi (N + 1) top2 rb2 rc2 H2 H2 (shRow n h G (shTo n h G (azG (n + 1)) k) k m) ∧ Below (N + 1) w1 wi) (fun i _ => h - (intOf i).toNat)
      case atStart => exact ⟨0, Nat.zero_le _, rfl, hmo, hbr⟩
      case round =>
        obtain ⟨m, hmm, rfl, hmi, hbi⟩ := hrel
        clear hmr rk hmo hbr
        by_cases hml : m < h
        · have hmr := hm1.within hbi hS (Nat.le_succ N)
          have ck := hmr.cell k m hkl hml
          have cN := (hbi.cell (p := ⟨N, 0, none⟩) (Nat.lt_succ_self N)).trans cN1
          have hmi' : (m : Int) < (h : Int) := by omega
          by_cases hc : G k m = 108
          · have d0 : wr.cell? ⟨rb k, m, none⟩ = some (.int .u8 108) := by rw [ck, hc]; rfl
            have C108 := Lib.hid hc
            have C117 : Hid (G k m ≠ 117) := Lib.hid (by rw [hc]; decide)
            clear hc
            cases hf : firstB n k m
            · have HF := Lib.hid hf
              clear hf
              by_cases he : k + 1 = h
              · have eK : ((k : Int) + 1 == (h : Int)) = true := by simp; omega
                have HQ : Hid ((k + 1 = h ∨ G (k + 1) m ≠ 108) ↔ True) := Lib.hid ⟨fun _ => trivial, fun _ => .inl he⟩
                have HE := Lib.hid he
                clear he
                have r1 := hmi.row (k + 2) (by omega)
                have c1 := hmi.cell (k + 2) (m + 1) (by omega) (by omega)
                have c2 := hmi.cell (k + 2) (m + 2) (by omega) (by omega)
                have f1 := hmi.frz (k + 2) (m + 1) (by omega) (by omega)
                have f2 := hmi.frz (k + 2) (m + 2) (by omega) (by omega)
                have n3 : rb2 (k + 2) ≠ top2 := hmi.apart (k + 2) (by omega)
                have n5 : top2 ≠ rb2 (k + 2) := fun e => n3 e.symm
                have hG := ((hmi.set (i := k + 2) (j := m + 1) (by omega) (by omega) 108).set (i := k + 2) (j := m + 2) (by omega) (by omega) 114).drew
                have hBl := ((hbi.setCell (p := ⟨rb2 (k + 2), m + 1, none⟩) (hmi.rbB (k + 2) (by omega)) (.int .u8 108)).setCell (p := ⟨rb2 (k + 2), m + 2, none⟩) (hmi.rbB (k + 2) (by omega)) (.int .u8 114)).drew
                have j1 : (k : Int) + 2 < (H2 : Int) := by omega
                have j2 : (m : Int) + 1 < (H2 : Int) := by omega
                have j3 : (k : Int) + 2 < (H2 : Int) := by omega
                have j4 : (m : Int) + 2 < (H2 : Int) := by omega
                have HR := Lib.hid (show shRow n h G (shTo n h G (azG (n + 1)) k) k (m + 1) = set2 (shRow n h G (shTo n h G (azG (n + 1)) k) k m) (k + 2) (m + 1) 108 (k + 2) (m + 2) 114 by simp [shRow, shStep, C108.out, HF.out, HQ.out])
                clear hmi hbi hmr ck
                go_wp2_with (go_at_call 62; refine (first_any n k m N _ _ HF cN h1 hn (by omega) (by omega)).mono ?_; rintro e w2 ⟨rfl, rfl⟩)
                go_region
                all_goals go_wp2
                all_goals exact ⟨⟨m + 1, by omega, by go_num, by rw [HR.out]; exact hG, hBl⟩, by simp [intOf]; omega⟩
              · have eK : ((k : Int) + 1 == (h : Int)) = false := by simp; omega
                have zj : (k : Int) + 1 < (h : Int) := by omega
                have rq := hmr.row (k + 1) (by omega)
                have cq := hmr.cell (k + 1) m (by omega) (by omega)
                by_cases hq : G (k + 1) m = 108
                · have dq : wr.cell? ⟨rb (k + 1), m, none⟩ = some (.int .u8 108) := by rw [cq, hq]; rfl
                  have HQ : Hid ((k + 1 = h ∨ G (k + 1) m ≠ 108) ↔ False) := Lib.hid ⟨fun e => e.elim he (fun e => e hq), fun e => e.elim⟩
                  have HE := Lib.hid he
                  clear he hq cq
                  have HR := Lib.hid (show shRow n h G (shTo n h G (azG (n + 1)) k) k (m + 1) = shRow n h G (shTo n h G (azG (n + 1)) k) k m by simp [shRow, shStep, C108.out, HF.out, HQ.out])
                  have hG := hmi
                  have hBl := hbi
                  clear hmi hbi hmr ck
                  go_wp2_with (go_at_call 62; refine (first_any n k m N _ _ HF cN h1 hn (by omega) (by omega)).mono ?_; rintro e w2 ⟨rfl, rfl⟩)
                  exact ⟨⟨m + 1, by omega, by go_num, by rw [HR.out]; exact hG, hBl⟩, by simp [intOf]; omega⟩
                · have fq : (((G (k + 1) m).toNat : Int) != 108) = true := u8_bne_ne (n := 108) hq
                  have HQ : Hid ((k + 1 = h ∨ G (k + 1) m ≠ 108) ↔ True) := Lib.hid ⟨fun _ => trivial, fun _ => .inr hq⟩
                  have HE := Lib.hid he
                  clear he hq
                  have r1 := hmi.row (k + 2) (by omega)
                  have c1 := hmi.cell (k + 2) (m + 1) (by omega) (by omega)
                  have c2 := hmi.cell (k + 2) (m + 2) (by omega) (by omega)
                  have f1 := hmi.frz (k + 2) (m + 1) (by omega) (by omega)
                  have f2 := hmi.frz (k + 2) (m + 2) (by omega) (by omega)
                  have n3 : rb2 (k + 2) ≠ top2 := hmi.apart (k + 2) (by omega)
                  have n5 : top2 ≠ rb2 (k + 2) := fun e => n3 e.symm
                  have hG := ((hmi.set (i := k + 2) (j := m + 1) (by omega) (by omega) 108).set (i := k + 2) (j := m + 2) (by omega) (by omega) 114).drew
                  have hBl := ((hbi.setCell (p := ⟨rb2 (k + 2), m + 1, none⟩) (hmi.rbB (k + 2) (by omega)) (.int .u8 108)).setCell (p := ⟨rb2 (k + 2), m + 2, none⟩) (hmi.rbB (k + 2) (by omega)) (.int .u8 114)).drew
                  have j1 : (k : Int) + 2 < (H2 : Int) := by omega
                  have j2 : (m : Int) + 1 < (H2 : Int) := by omega
                  have j3 : (k : Int) + 2 < (H2 : Int) := by omega
                  have j4 : (m : Int) + 2 < (H2 : Int) := by omega
                  have HR := Lib.hid (show shRow n h G (shTo n h G (azG (n + 1)) k) k (m + 1) = set2 (shRow n h G (shTo n h G (azG (n + 1)) k) k m) (k + 2) (m + 1) 108 (k + 2) (m + 2) 114 by simp [shRow, shStep, C108.out, HF.out, HQ.out])
                  clear hmi hbi hmr ck
                  go_wp2_with (go_at_call 62; refine (first_any n k m N _ _ HF cN h1 hn (by omega) (by omega)).mono ?_; rintro e w2 ⟨rfl, rfl⟩)
                  go_region
                  all_goals go_wp2
                  all_goals exact ⟨⟨m + 1, by omega, by go_num, by rw [HR.out]; exact hG, hBl⟩, by simp [intOf]; omega⟩
            · have HF := Lib.hid hf
              clear hf
              by_cases he : k = 0
              · have eK : ((k : Int) == 0) = true := by simp; omega
                have HQ : Hid ((k = 0 ∨ G (k - 1) m ≠ 108) ↔ True) := Lib.hid ⟨fun _ => trivial, fun _ => .inl he⟩
                have HE := Lib.hid he
                clear he
                have r1 := hmi.row (k) (by omega)
                have c1 := hmi.cell (k) (m + 1) (by omega) (by omega)
                have c2 := hmi.cell (k) (m + 2) (by omega) (by omega)
                have f1 := hmi.frz (k) (m + 1) (by omega) (by omega)
                have f2 := hmi.frz (k) (m + 2) (by omega) (by omega)
                have n3 : rb2 (k) ≠ top2 := hmi.apart (k) (by omega)
                have n5 : top2 ≠ rb2 (k) := fun e => n3 e.symm
                have hG := ((hmi.set (i := k) (j := m + 1) (by omega) (by omega) 108).set (i := k) (j := m + 2) (by omega) (by omega) 114).drew
                have hBl := ((hbi.setCell (p := ⟨rb2 (k), m + 1, none⟩) (hmi.rbB (k) (by omega)) (.int .u8 108)).setCell (p := ⟨rb2 (k), m + 2, none⟩) (hmi.rbB (k) (by omega)) (.int .u8 114)).drew
                have j1 : (k : Int) < (H2 : Int) := by omega
                have j2 : (m : Int) + 1 < (H2 : Int) := by omega
                have j3 : (k : Int) < (H2 : Int) := by omega
                have j4 : (m : Int) + 2 < (H2 : Int) := by omega
                have HR := Lib.hid (show shRow n h G (shTo n h G (azG (n + 1)) k) k (m + 1) = set2 (shRow n h G (shTo n h G (azG (n + 1)) k) k m) (k) (m + 1) 108 (k) (m + 2) 114 by simp [shRow, shStep, C108.out, HF.out, HQ.out])
                clear hmi hbi hmr ck
                go_wp2_with (go_at_call 62; refine (first_any n k m N _ _ HF cN h1 hn (by omega) (by omega)).mono ?_; rintro e w2 ⟨rfl, rfl⟩)
                go_region
                all_goals go_wp2
                all_goals exact ⟨⟨m + 1, by omega, by go_num, by rw [HR.out]; exact hG, hBl⟩, by simp [intOf]; omega⟩
              · have eK : ((k : Int) == 0) = false := by simp; omega
                have zz : ((k : Int) - 1).toNat = k - 1 := by omega
                have zi : (0 : Int) ≤ (k : Int) - 1 := by omega
                have zj : (k : Int) - 1 < (h : Int) := by omega
                have rq := hmr.row (k - 1) (by omega)
                have cq := hmr.cell (k - 1) m (by omega) (by omega)
                by_cases hq : G (k - 1) m = 108
                · have dq : wr.cell? ⟨rb (k - 1), m, none⟩ = some (.int .u8 108) := by rw [cq, hq]; rfl
                  have HQ : Hid ((k = 0 ∨ G (k - 1) m ≠ 108) ↔ False) := Lib.hid ⟨fun e => e.elim he (fun e => e hq), fun e => e.elim⟩
                  have HE := Lib.hid he
                  clear he hq cq
                  have HR := Lib.hid (show shRow n h G (shTo n h G (azG (n + 1)) k) k (m + 1) = shRow n h G (shTo n h G (azG (n + 1)) k) k m by simp [shRow, shStep, C108.out, HF.out, HQ.out])
                  have hG := hmi
                  have hBl := hbi
                  clear hmi hbi hmr ck
                  go_wp2_with (go_at_call 62; refine (first_any n k m N _ _ HF cN h1 hn (by omega) (by omega)).mono ?_; rintro e w2 ⟨rfl, rfl⟩)
                  exact ⟨⟨m + 1, by omega, by go_num, by rw [HR.out]; exact hG, hBl⟩, by simp [intOf]; omega⟩
                · have fq : (((G (k - 1) m).toNat : Int) != 108) = true := u8_bne_ne (n := 108) hq
                  have HQ : Hid ((k = 0 ∨ G (k - 1) m ≠ 108) ↔ True) := Lib.hid ⟨fun _ => trivial, fun _ => .inr hq⟩
                  have HE := Lib.hid he
                  clear he hq
                  have r1 := hmi.row (k) (by omega)
                  have c1 := hmi.cell (k) (m + 1) (by omega) (by omega)
                  have c2 := hmi.cell (k) (m + 2) (by omega) (by omega)
                  have f1 := hmi.frz (k) (m + 1) (by omega) (by omega)
                  have f2 := hmi.frz (k) (m + 2) (by omega) (by omega)
                  have n3 : rb2 (k) ≠ top2 := hmi.apart (k) (by omega)
                  have n5 : top2 ≠ rb2 (k) := fun e => n3 e.symm
                  have hG := ((hmi.set (i := k) (j := m + 1) (by omega) (by omega) 108).set (i := k) (j := m + 2) (by omega) (by omega) 114).drew
                  have hBl := ((hbi.setCell (p := ⟨rb2 (k), m + 1, none⟩) (hmi.rbB (k) (by omega)) (.int .u8 108)).setCell (p := ⟨rb2 (k), m + 2, none⟩) (hmi.rbB (k) (by omega)) (.int .u8 114)).drew
                  have j1 : (k : Int) < (H2 : Int) := by omega
                  have j2 : (m : Int) + 1 < (H2 : Int) := by omega
                  have j3 : (k : Int) < (H2 : Int) := by omega
                  have j4 : (m : Int) + 2 < (H2 : Int) := by omega
                  have HR := Lib.hid (show shRow n h G (shTo n h G (azG (n + 1)) k) k (m + 1) = set2 (shRow n h G (shTo n h G (azG (n + 1)) k) k m) (k) (m + 1) 108 (k) (m + 2) 114 by simp [shRow, shStep, C108.out, HF.out, HQ.out])
                  clear hmi hbi hmr ck
                  go_wp2_with (go_at_call 62; refine (first_any n k m N _ _ HF cN h1 hn (by omega) (by omega)).mono ?_; rintro e w2 ⟨rfl, rfl⟩)
                  go_region
                  all_goals go_wp2
                  all_goals exact ⟨⟨m + 1, by omega, by go_num, by rw [HR.out]; exact hG, hBl⟩, by simp [intOf]; omega⟩
          · by_cases hc2 : G k m = 117
            · have hc' := hc2
              clear hc
              have hc := hc'
              clear hc' hc2
              have d0 : wr.cell? ⟨rb k, m, none⟩ = some (.int .u8 117) := by rw [ck, hc]; rfl
              have C117 := Lib.hid hc
              have C108 : Hid (G k m ≠ 108) := Lib.hid (by rw [hc]; decide)
              clear hc
              cases hf : firstB n k m
              · have HF := Lib.hid hf
                clear hf
                by_cases he : m + 1 = h
                · have eK : ((m : Int) + 1 == (h : Int)) = true := by simp; omega
                  have HQ : Hid ((m + 1 = h ∨ G k (m + 1) ≠ 117) ↔ True) := Lib.hid ⟨fun _ => trivial, fun _ => .inl he⟩
                  have HE := Lib.hid he
                  clear he
                  have r1 := hmi.row (k + 1) (by omega)
                  have c1 := hmi.cell (k + 1) (m + 2) (by omega) (by omega)
                  have c2 := hmi.cell (k + 2) (m + 2) (by omega) (by omega)
                  have f1 := hmi.frz (k + 1) (m + 2) (by omega) (by omega)
                  have f2 := hmi.frz (k + 2) (m + 2) (by omega) (by omega)
                  have n3 : rb2 (k + 1) ≠ top2 := hmi.apart (k + 1) (by omega)
                  have n5 : top2 ≠ rb2 (k + 1) := fun e => n3 e.symm
                  have hG := ((hmi.set (i := k + 1) (j := m + 2) (by omega) (by omega) 117).set (i := k + 2) (j := m + 2) (by omega) (by omega) 100).drew
                  have hBl := ((hbi.setCell (p := ⟨rb2 (k + 1), m + 2, none⟩) (hmi.rbB (k + 1) (by omega)) (.int .u8 117)).setCell (p := ⟨rb2 (k + 2), m + 2, none⟩) (hmi.rbB (k + 2) (by omega)) (.int .u8 100)).drew
                  have j1 : (k : Int) + 1 < (H2 : Int) := by omega
                  have j2 : (m : Int) + 2 < (H2 : Int) := by omega
                  have j3 : (k : Int) + 2 < (H2 : Int) := by omega
                  have j4 : (m : Int) + 2 < (H2 : Int) := by omega
                  have r2 := hmi.row (k + 2) (by omega)
                  have n4 : rb2 (k + 2) ≠ top2 := hmi.apart (k + 2) (by omega)
                  have n6 : top2 ≠ rb2 (k + 2) := fun e => n4 e.symm
                  have n1 : rb2 (k + 1) ≠ rb2 (k + 2) := fun e => by have := hmi.inj (k + 1) (k + 2) (by omega) (by omega) e; omega
                  have n2 : rb2 (k + 2) ≠ rb2 (k + 1) := fun e => n1 e.symm
                  have HR := Lib.hid (show shRow n h G (shTo n h G (azG (n + 1)) k) k (m + 1) = set2 (shRow n h G (shTo n h G (azG (n + 1)) k) k m) (k + 1) (m + 2) 117 (k + 2) (m + 2) 100 by simp [shRow, shStep, C117.out, HF.out, HQ.out])
                  clear hmi hbi hmr ck
                  go_wp2_with (go_at_call 62; refine (first_any n k m N _ _ HF cN h1 hn (by omega) (by omega)).mono ?_; rintro e w2 ⟨rfl, rfl⟩)
                  go_region
                  all_goals go_wp2
                  all_goals exact ⟨⟨m + 1, by omega, by go_num, by rw [HR.out]; exact hG, hBl⟩, by simp [intOf]; omega⟩
                · have eK : ((m : Int) + 1 == (h : Int)) = false := by simp; omega
                  have zj : (m : Int) + 1 < (h : Int) := by omega
                  have cq := hmr.cell k (m + 1) (by omega) (by omega)
                  by_cases hq : G k (m + 1) = 117
                  · have dq : wr.cell? ⟨rb k, (m + 1), none⟩ = some (.int .u8 117) := by rw [cq, hq]; rfl
                    have HQ : Hid ((m + 1 = h ∨ G k (m + 1) ≠ 117) ↔ False) := Lib.hid ⟨fun e => e.elim he (fun e => e hq), fun e => e.elim⟩
                    have HE := Lib.hid he
                    clear he hq cq
                    have HR := Lib.hid (show shRow n h G (shTo n h G (azG (n + 1)) k) k (m + 1) = shRow n h G (shTo n h G (azG (n + 1)) k) k m by simp [shRow, shStep, C117.out, HF.out, HQ.out])
                    have hG := hmi
                    have hBl := hbi
                    clear hmi hbi hmr ck
                    go_wp2_with (go_at_call 62; refine (first_any n k m N _ _ HF cN h1 hn (by omega) (by omega)).mono ?_; rintro e w2 ⟨rfl, rfl⟩)
                    exact ⟨⟨m + 1, by omega, by go_num, by rw [HR.out]; exact hG, hBl⟩, by simp [intOf]; omega⟩
                  · have fq : (((G k (m + 1)).toNat : Int) != 117) = true := u8_bne_ne (n := 117) hq
                    have HQ : Hid ((m + 1 = h ∨ G k (m + 1) ≠ 117) ↔ True) := Lib.hid ⟨fun _ => trivial, fun _ => .inr hq⟩
                    have HE := Lib.hid he
                    clear he hq
                    have r1 := hmi.row (k + 1) (by omega)
                    have c1 := hmi.cell (k + 1) (m + 2) (by omega) (by omega)
                    have c2 := hmi.cell (k + 2) (m + 2) (by omega) (by omega)
                    have f1 := hmi.frz (k + 1) (m + 2) (by omega) (by omega)
                    have f2 := hmi.frz (k + 2) (m + 2) (by omega) (by omega)
                    have n3 : rb2 (k + 1) ≠ top2 := hmi.apart (k + 1) (by omega)
                    have n5 : top2 ≠ rb2 (k + 1) := fun e => n3 e.symm
                    have hG := ((hmi.set (i := k + 1) (j := m + 2) (by omega) (by omega) 117).set (i := k + 2) (j := m + 2) (by omega) (by omega) 100).drew
                    have hBl := ((hbi.setCell (p := ⟨rb2 (k + 1), m + 2, none⟩) (hmi.rbB (k + 1) (by omega)) (.int .u8 117)).setCell (p := ⟨rb2 (k + 2), m + 2, none⟩) (hmi.rbB (k + 2) (by omega)) (.int .u8 100)).drew
                    have j1 : (k : Int) + 1 < (H2 : Int) := by omega
                    have j2 : (m : Int) + 2 < (H2 : Int) := by omega
                    have j3 : (k : Int) + 2 < (H2 : Int) := by omega
                    have j4 : (m : Int) + 2 < (H2 : Int) := by omega
                    have r2 := hmi.row (k + 2) (by omega)
                    have n4 : rb2 (k + 2) ≠ top2 := hmi.apart (k + 2) (by omega)
                    have n6 : top2 ≠ rb2 (k + 2) := fun e => n4 e.symm
                    have n1 : rb2 (k + 1) ≠ rb2 (k + 2) := fun e => by have := hmi.inj (k + 1) (k + 2) (by omega) (by omega) e; omega
                    have n2 : rb2 (k + 2) ≠ rb2 (k + 1) := fun e => n1 e.symm
                    have HR := Lib.hid (show shRow n h G (shTo n h G (azG (n + 1)) k) k (m + 1) = set2 (shRow n h G (shTo n h G (azG (n + 1)) k) k m) (k + 1) (m + 2) 117 (k + 2) (m + 2) 100 by simp [shRow, shStep, C117.out, HF.out, HQ.out])
                    clear hmi hbi hmr ck
                    go_wp2_with (go_at_call 62; refine (first_any n k m N _ _ HF cN h1 hn (by omega) (by omega)).mono ?_; rintro e w2 ⟨rfl, rfl⟩)
                    go_region
                    all_goals go_wp2
                    all_goals exact ⟨⟨m + 1, by omega, by go_num, by rw [HR.out]; exact hG, hBl⟩, by simp [intOf]; omega⟩
              · have HF := Lib.hid hf
                clear hf
                by_cases he : m = 0
                · have eK : ((m : Int) == 0) = true := by simp; omega
                  have HQ : Hid ((m = 0 ∨ G k (m - 1) ≠ 117) ↔ True) := Lib.hid ⟨fun _ => trivial, fun _ => .inl he⟩
                  have HE := Lib.hid he
                  clear he
                  have r1 := hmi.row (k + 1) (by omega)
                  have c1 := hmi.cell (k + 1) (m) (by omega) (by omega)
                  have c2 := hmi.cell (k + 2) (m) (by omega) (by omega)
                  have f1 := hmi.frz (k + 1) (m) (by omega) (by omega)
                  have f2 := hmi.frz (k + 2) (m) (by omega) (by omega)
                  have n3 : rb2 (k + 1) ≠ top2 := hmi.apart (k + 1) (by omega)
                  have n5 : top2 ≠ rb2 (k + 1) := fun e => n3 e.symm
                  have hG := ((hmi.set (i := k + 1) (j := m) (by omega) (by omega) 117).set (i := k + 2) (j := m) (by omega) (by omega) 100).drew
                  have hBl := ((hbi.setCell (p := ⟨rb2 (k + 1), m, none⟩) (hmi.rbB (k + 1) (by omega)) (.int .u8 117)).setCell (p := ⟨rb2 (k + 2), m, none⟩) (hmi.rbB (k + 2) (by omega)) (.int .u8 100)).drew
                  have j1 : (k : Int) + 1 < (H2 : Int) := by omega
                  have j2 : (m : Int) < (H2 : Int) := by omega
                  have j3 : (k : Int) + 2 < (H2 : Int) := by omega
                  have j4 : (m : Int) < (H2 : Int) := by omega
                  have r2 := hmi.row (k + 2) (by omega)
                  have n4 : rb2 (k + 2) ≠ top2 := hmi.apart (k + 2) (by omega)
                  have n6 : top2 ≠ rb2 (k + 2) := fun e => n4 e.symm
                  have n1 : rb2 (k + 1) ≠ rb2 (k + 2) := fun e => by have := hmi.inj (k + 1) (k + 2) (by omega) (by omega) e; omega
                  have n2 : rb2 (k + 2) ≠ rb2 (k + 1) := fun e => n1 e.symm
                  have HR := Lib.hid (show shRow n h G (shTo n h G (azG (n + 1)) k) k (m + 1) = set2 (shRow n h G (shTo n h G (azG (n + 1)) k) k m) (k + 1) (m) 117 (k + 2) (m) 100 by simp [shRow, shStep, C117.out, HF.out, HQ.out])
                  clear hmi hbi hmr ck
                  go_wp2_with (go_at_call 62; refine (first_any n k m N _ _ HF cN h1 hn (by omega) (by omega)).mono ?_; rintro e w2 ⟨rfl, rfl⟩)
                  go_region
                  all_goals go_wp2
                  all_goals exact ⟨⟨m + 1, by omega, by go_num, by rw [HR.out]; exact hG, hBl⟩, by simp [intOf]; omega⟩
                · have eK : ((m : Int) == 0) = false := by simp; omega
                  have zz : ((m : Int) - 1).toNat = m - 1 := by omega
                  have zi : (0 : Int) ≤ (m : Int) - 1 := by omega
                  have zj : (m : Int) - 1 < (h : Int) := by omega
                  have cq := hmr.cell k (m - 1) (by omega) (by omega)
                  by_cases hq : G k (m - 1) = 117
                  · have dq : wr.cell? ⟨rb k, (m - 1), none⟩ = some (.int .u8 117) := by rw [cq, hq]; rfl
                    have HQ : Hid ((m = 0 ∨ G k (m - 1) ≠ 117) ↔ False) := Lib.hid ⟨fun e => e.elim he (fun e => e hq), fun e => e.elim⟩
                    have HE := Lib.hid he
                    clear he hq cq
                    have HR := Lib.hid (show shRow n h G (shTo n h G (azG (n + 1)) k) k (m + 1) = shRow n h G (shTo n h G (azG (n + 1)) k) k m by simp [shRow, shStep, C117.out, HF.out, HQ.out])
                    have hG := hmi
                    have hBl := hbi
                    clear hmi hbi hmr ck
                    go_wp2_with (go_at_call 62; refine (first_any n k m N _ _ HF cN h1 hn (by omega) (by omega)).mono ?_; rintro e w2 ⟨rfl, rfl⟩)
                    exact ⟨⟨m + 1, by omega, by go_num, by rw [HR.out]; exact hG, hBl⟩, by simp [intOf]; omega⟩
                  · have fq : (((G k (m - 1)).toNat : Int) != 117) = true := u8_bne_ne (n := 117) hq
                    have HQ : Hid ((m = 0 ∨ G k (m - 1) ≠ 117) ↔ True) := Lib.hid ⟨fun _ => trivial, fun _ => .inr hq⟩
                    have HE := Lib.hid he
                    clear he hq
                    have r1 := hmi.row (k + 1) (by omega)
                    have c1 := hmi.cell (k + 1) (m) (by omega) (by omega)
                    have c2 := hmi.cell (k + 2) (m) (by omega) (by omega)
                    have f1 := hmi.frz (k + 1) (m) (by omega) (by omega)
                    have f2 := hmi.frz (k + 2) (m) (by omega) (by omega)
                    have n3 : rb2 (k + 1) ≠ top2 := hmi.apart (k + 1) (by omega)
                    have n5 : top2 ≠ rb2 (k + 1) := fun e => n3 e.symm
                    have hG := ((hmi.set (i := k + 1) (j := m) (by omega) (by omega) 117).set (i := k + 2) (j := m) (by omega) (by omega) 100).drew
                    have hBl := ((hbi.setCell (p := ⟨rb2 (k + 1), m, none⟩) (hmi.rbB (k + 1) (by omega)) (.int .u8 117)).setCell (p := ⟨rb2 (k + 2), m, none⟩) (hmi.rbB (k + 2) (by omega)) (.int .u8 100)).drew
                    have j1 : (k : Int) + 1 < (H2 : Int) := by omega
                    have j2 : (m : Int) < (H2 : Int) := by omega
                    have j3 : (k : Int) + 2 < (H2 : Int) := by omega
                    have j4 : (m : Int) < (H2 : Int) := by omega
                    have r2 := hmi.row (k + 2) (by omega)
                    have n4 : rb2 (k + 2) ≠ top2 := hmi.apart (k + 2) (by omega)
                    have n6 : top2 ≠ rb2 (k + 2) := fun e => n4 e.symm
                    have n1 : rb2 (k + 1) ≠ rb2 (k + 2) := fun e => by have := hmi.inj (k + 1) (k + 2) (by omega) (by omega) e; omega
                    have n2 : rb2 (k + 2) ≠ rb2 (k + 1) := fun e => n1 e.symm
                    have HR := Lib.hid (show shRow n h G (shTo n h G (azG (n + 1)) k) k (m + 1) = set2 (shRow n h G (shTo n h G (azG (n + 1)) k) k m) (k + 1) (m) 117 (k + 2) (m) 100 by simp [shRow, shStep, C117.out, HF.out, HQ.out])
                    clear hmi hbi hmr ck
                    go_wp2_with (go_at_call 62; refine (first_any n k m N _ _ HF cN h1 hn (by omega) (by omega)).mono ?_; rintro e w2 ⟨rfl, rfl⟩)
                    go_region
                    all_goals go_wp2
                    all_goals exact ⟨⟨m + 1, by omega, by go_num, by rw [HR.out]; exact hG, hBl⟩, by simp [intOf]; omega⟩
            · have f108 : (((G k m).toNat : Int) == 108) = false := u8_ne (n := 108) hc
              have f117 : (((G k m).toNat : Int) == 117) = false := u8_ne (n := 117) hc2
              have HR := Lib.hid (show shRow n h G (shTo n h G (azG (n + 1)) k) k (m + 1) = shRow n h G (shTo n h G (azG (n + 1)) k) k m by simp [shRow, shStep, hc, hc2])
              have hG := hmi
              have hBl := hbi
              clear hmi hbi hmr hc hc2
              go_wp2
              exact ⟨⟨m + 1, by omega, by go_num, by rw [HR.out]; exact hG, hBl⟩, by simp [intOf]; omega⟩
        · obtain rfl : m = h := by omega
          go_wp2
          exact ⟨⟨k + 1, by omega, by go_num, hmi, hbi⟩, by simp [intOf]; omega⟩
    · obtain rfl : k = h := by omega
      go_wp2
      go_ret
      refine ⟨top2, cap2, rb2, rc2, rfl, ?_, ?_⟩
      · rw [HB.out]; exact hb0.trans (hbr.mono (Nat.le_succ N))
      · rw [HB.out]; exact hmo.mono (Nat.le_succ N)
end Go.Proofs.YtahihapgbcoanaaDoor
