/- The walk of domino.First's closure. -/
import Derived.Test.YtahihapgbcoanaaDoorDeadMap
import Derived.BigQuiet
import Derived.BigRegion
import Derived.StillTailTactics
namespace Go.Proofs.YtahihapgbcoanaaDoor
open Go.RowKit Go.Maps

/-- What the closure hands back at (k, m), n cells from the end. -/
def FromG (B top cap : Nat) (rb rc : Nat → Nat) (h W : Nat) (S : Nat → Nat → UInt8) (cl cw cd cf bm n k m c : Nat) (G : Nat → Nat → UInt8) (w : World) (e : Ending) (w' : World) : Prop :=
  e = .returned (.bool (wayF h W S n k m)) ∧ Below B w w' ∧ ∃ D', DeadOk h W S D' ∧ FW w' B top cap rb rc h W (if wayF h W S n k m = true then fillF h W S n k m G else G) cl cw cd cf bm (c + budget W n m) D'
section
variable {B top cap h W cl cw cd cf bm n k m c : Nat} {rb rc : Nat → Nat} {S G : Nat → Nat → UInt8} {w w' : World} {e : Ending}
theorem FromG.yes (H : FromG B top cap rb rc h W S cl cw cd cf bm n k m c G w e w') (hw : wayF h W S n k m = true) :
    e = .returned (.bool true) ∧ Below B w w' ∧ ∃ D', DeadOk h W S D' ∧ FW w' B top cap rb rc h W (fillF h W S n k m G) cl cw cd cf bm (c + budget W n m) D' := by
  obtain ⟨h1, h2, D', h3, h4⟩ := H
  rw [if_pos hw] at h4
  exact ⟨by rw [h1, hw], h2, D', h3, h4⟩
theorem FromG.no (H : FromG B top cap rb rc h W S cl cw cd cf bm n k m c G w e w') (hw : wayF h W S n k m = false) :
    e = .returned (.bool false) ∧ Below B w w' ∧ ∃ D', DeadOk h W S D' ∧ FW w' B top cap rb rc h W G cl cw cd cf bm (c + budget W n m) D' := by
  obtain ⟨h1, h2, D', h3, h4⟩ := H
  rw [if_neg (by rw [hw]; decide)] at h4
  exact ⟨by rw [h1, hw], h2, D', h3, h4⟩
theorem FromG.mk_yes (hw : wayF h W S n k m = true) (h1 : Below B w w') {D' : DataW Unit} (h2 : DeadOk h W S D') {G' : Nat → Nat → UInt8} (hG : fillF h W S n k m G = G') {c' : Nat} (hc : c' ≤ c + budget W n m) (h3 : FW w' B top cap rb rc h W G' cl cw cd cf bm c' D') :
    FromG B top cap rb rc h W S cl cw cd cf bm n k m c G w (.returned (.bool true)) w' :=
  ⟨by rw [hw], h1, D', h2, by rw [if_pos hw, hG]; exact ⟨h3.g, h3.l, h3.w_, h3.d, h3.f, h3.m.mono hc, h3.ap, h3.am, h3.bB⟩⟩
theorem FromG.mk_no (hw : wayF h W S n k m = false) (h1 : Below B w w') {D' : DataW Unit} (h2 : DeadOk h W S D') {c' : Nat} (hc : c' ≤ c + budget W n m) (h3 : FW w' B top cap rb rc h W G cl cw cd cf bm c' D') :
    FromG B top cap rb rc h W S cl cw cd cf bm n k m c G w (.returned (.bool false)) w' :=
  ⟨by rw [hw], h1, D', h2, by rw [if_neg (by rw [hw]; decide)]; exact ⟨h3.g, h3.l, h3.w_, h3.d, h3.f, h3.m.mono hc, h3.ap, h3.am, h3.bB⟩⟩
end
theorem InvF.right {h W : Nat} {S : Nat → Nat → UInt8} {k m : Nat} {G : Nat → Nat → UInt8} (I : InvF h W S k m G) (hk : k < h * W) (hj : k % W + 1 < W) (hz : m / 2 % 2 = 0) : G (k / W) (k % W + 1) = S (k / W) (k % W + 1) := by
  have e := cell_next hj
  have h1 := (I.ahead 1 (code_next hk hj)).2 (by
    have := bit_half m 0
    rw [Nat.testBit_zero] at this
    rw [← this]
    simp [hz])
  rw [e.1, e.2] at h1
  exact h1
theorem InvF.down {h W : Nat} {S : Nat → Nat → UInt8} {k m : Nat} {G : Nat → Nat → UInt8} (I : InvF h W S k m G) (hW : 0 < W) (hi : k / W + 1 < h) : G (k / W + 1) (k % W) = S (k / W + 1) (k % W) := by
  have e := cell_below (k := k) hW
  have h1 := (I.ahead W (code_below hW hi)).2 (Nat.testBit_lt_two_pow I.lt)
  rw [e.1, e.2] at h1
  exact h1
set_option maxRecDepth 100000 in
theorem and_two_i64 (m : Nat) (hm : m < 256) : bits .and .i64 (m : Int) 2 = ((2 * (m / 2 % 2) : Nat) : Int) := by
  have h := and_i64 m 2 (by omega) (by omega)
  have h2 : ∀ m, m < 256 → m &&& 2 = 2 * (m / 2 % 2) := by decide
  rw [h2 m hm] at h
  exact h

set_option maxRecDepth 100000 in
set_option maxHeartbeats 4000000 in
theorem from_end (B top cap h W cl cw cd cf bm : Nat) (rb rc : Nat → Nat) (S : Nat → Nat → UInt8) (w8 : W ≤ 8) (h8 : h ≤ 8) (k m c : Nat) (G : Nat → Nat → UInt8) (D : DataW Unit) (w : World)
    (hk : k = h * W) (_hm : m < 256) (hD : DeadOk h W S D) (F : FW w B top cap rb rc h W G cl cw cd cf bm c D) :
    Calls Tryd.prog 39 #[.int .i64 k, .int .i64 m, .pointer (some ⟨cw, 0, none⟩), .pointer (some ⟨cl, 0, none⟩), .pointer (some ⟨cd, 0, none⟩), .pointer (some ⟨cf, 0, none⟩)] w (FromG B top cap rb rc h W S cl cw cd cf bm 0 k m c G w) := by
  have hmul : (W : Int) * (h : Int) = (k : Int) := by rw [hk]; rw [Int.natCast_mul]; exact Int.mul_comm _ _
  have hk64 : k ≤ 64 := by rw [hk]; exact Nat.mul_le_mul h8 w8
  have c1 := F.l
  have c2 := F.w_
  clear hk
  go_enter Tryd.func39, Tryd.ntmps39
  go_wp2_with fail
  go_ret
  refine ⟨?_, Below.refl _ _, D, hD, ?_⟩
  · show Ending.returned (.bool ((m : Int) == 0)) = .returned (.bool (decide (m = 0)))
    congr 2
    rw [Bool.eq_iff_iff, beq_iff_eq, decide_eq_true_iff]
    omega
  · have e : (if wayF h W S 0 k m = true then fillF h W S 0 k m G else G) = G := by split <;> rfl
    rw [e]
    exact ⟨F.g, F.l, F.w_, F.d, F.f, F.m.mono (by omega), F.ap, F.am, F.bB⟩

/-- The call of itself, one cell on. -/
def FromIh (B top cap : Nat) (rb rc : Nat → Nat) (h W : Nat) (S : Nat → Nat → UInt8) (cl cw cd cf bm n : Nat) : Prop :=
  ∀ (k m c : Nat) (G : Nat → Nat → UInt8) (D : DataW Unit) (w : World), k + n = h * W → InvF h W S k m G → DeadOk h W S D → c + budget W n m ≤ 9000000000000 → FW w B top cap rb rc h W G cl cw cd cf bm c D →
      Calls Tryd.prog 39 #[.int .i64 k, .int .i64 m, .pointer (some ⟨cw, 0, none⟩), .pointer (some ⟨cl, 0, none⟩), .pointer (some ⟨cd, 0, none⟩), .pointer (some ⟨cf, 0, none⟩)] w (FromG B top cap rb rc h W S cl cw cd cf bm n k m c G w)
theorem FromIh.at {B top cap : Nat} {rb rc : Nat → Nat} {h W : Nat} {S : Nat → Nat → UInt8} {cl cw cd cf bm n : Nat} (ih : FromIh B top cap rb rc h W S cl cw cd cf bm n) (k m c : Nat) (G : Nat → Nat → UInt8) (D : DataW Unit) (w : World) (h1 : k + 1 + n = h * W) (h2 : InvF h W S (k + 1) m G) (h3 : DeadOk h W S D) (h4 : c + budget W n m ≤ 9000000000000) (h5 : FW w B top cap rb rc h W G cl cw cd cf bm c D) :
    Calls Tryd.prog 39 #[.int .i64 ((k : Int) + 1), .int .i64 m, .pointer (some ⟨cw, 0, none⟩), .pointer (some ⟨cl, 0, none⟩), .pointer (some ⟨cd, 0, none⟩), .pointer (some ⟨cf, 0, none⟩)] w (FromG B top cap rb rc h W S cl cw cd cf bm n (k + 1) m c G w) := by
  have h := ih (k + 1) m c G D w h1 h2 h3 h4 h5
  have e : ((k + 1 : Nat) : Int) = (k : Int) + 1 := by omega
  rw [e] at h
  exact h

set_option maxRecDepth 100000 in
set_option maxHeartbeats 16000000 in
theorem from_odd (B top cap h W cl cw cd cf bm : Nat) (rb rc : Nat → Nat) (S : Nat → Nat → UInt8) (w0 : 0 < W) (w8 : W ≤ 8) (h8 : h ≤ 8) (n : Nat) (ih : FromIh B top cap rb rc h W S cl cw cd cf bm n)
    (k m c : Nat) (G : Nat → Nat → UInt8) (D : DataW Unit) (w : World) (hk : k + (n + 1) = h * W) (I : InvF h W S k m G) (hD : DeadOk h W S D) (hc : c + budget W (n + 1) m ≤ 9000000000000) (F : FW w B top cap rb rc h W G cl cw cd cf bm c D) (ho : m % 2 = 1) :
    Calls Tryd.prog 39 #[.int .i64 k, .int .i64 m, .pointer (some ⟨cw, 0, none⟩), .pointer (some ⟨cl, 0, none⟩), .pointer (some ⟨cd, 0, none⟩), .pointer (some ⟨cf, 0, none⟩)] w (FromG B top cap rb rc h W S cl cw cd cf bm (n + 1) k m c G w) := by
  obtain ⟨kl, hkl⟩ := key70 (k : Int) (m : Int) (WalkArith.wf_i64 (by have := Nat.mul_le_mul h8 w8; omega)) (WalkArith.wf_i64 (by have := Nat.lt_of_lt_of_le I.lt (two_pow8 w8); omega))
  obtain ⟨N, hN⟩ : ∃ N, h * W = N := ⟨_, rfl⟩
  have hN64 : N ≤ 64 := by rw [← hN]; exact Nat.mul_le_mul h8 w8
  have hmul : (W : Int) * (h : Int) = (N : Int) := by rw [← hN, Int.natCast_mul]; exact Int.mul_comm _ _
  have hkN : k < N := by omega
  have hkW : k < h * W := by omega
  have hkNe : ((k : Int) == (N : Int)) = false := beq_eq_false_iff_ne.2 (by omega)
  have hm256 : m < 256 := Nat.lt_of_lt_of_le I.lt (two_pow8 w8)
  have hhere := I.here hkW
  have hlieS := fun q => I.lie hkW q
  have hstandS := fun q => I.stand w0 q
  have hbud := budget_half (n := n) w0 w8 I.lt
  have hbud2 := fun q => budget_both (n := n) w0 w8 I.lt q
  have hdead := fun c6 q => hD k m kl c6 hkl q
  rw [show h * W - k = n + 1 from by omega] at hdead
  have hwu : wayF h W S (n + 1) k m = if m % 2 = 1 then wayF h W S n (k + 1) (m / 2) else if S (k / W) (k % W) ≠ 35 then wayF h W S n (k + 1) (m / 2) else (lieB W S (k / W) (k % W) m && wayF h W S n (k + 1) (m / 2 ||| 1)) || (standB h S (k / W) (k % W) && wayF h W S n (k + 1) (m / 2 ||| 2 ^ (W - 1))) := rfl
  have hfu : fillF h W S (n + 1) k m G = if m % 2 = 1 then fillF h W S n (k + 1) (m / 2) G else if S (k / W) (k % W) ≠ 35 then fillF h W S n (k + 1) (m / 2) G else if lieB W S (k / W) (k % W) m && wayF h W S n (k + 1) (m / 2 ||| 1) then fillF h W S n (k + 1) (m / 2 ||| 1) (set2 G (k / W) (k % W) 108 (k / W) (k % W + 1) 114) else fillF h W S n (k + 1) (m / 2 ||| 2 ^ (W - 1)) (set2 G (k / W) (k % W) 117 (k / W + 1) (k % W) 100) := rfl
  obtain ⟨i, hi⟩ : ∃ i, k / W = i := ⟨_, rfl⟩
  obtain ⟨j, hj⟩ : ∃ j, k % W = j := ⟨_, rfl⟩
  obtain ⟨z, hz⟩ : ∃ z, m / 2 = z := ⟨_, rfl⟩
  have hdi : (k : Int) / (W : Int) = (i : Int) := by rw [← hi]; exact (Int.natCast_ediv k W).symm
  have hdj : (k : Int) % (W : Int) = (j : Int) := by rw [← hj]; exact (Int.natCast_emod k W).symm
  have hdz : (m : Int) / 2 = (z : Int) := by omega
  have hz128 : z < 128 := by omega
  have hih : i < h := by rw [← hi]; exact code_row hkW
  have hjW : j < W := by rw [← hj]; exact Nat.mod_lt _ w0
  have hW0 : ((W : Int) == 0) = false := beq_eq_false_iff_ne.2 (by omega)
  rw [hi, hj] at hhere hlieS hstandS
  rw [hz] at hlieS hstandS hbud hbud2
  rw [hi, hj, hz] at hwu hfu
  have hand : bits BinOp.and IntKind.i64 (m : Int) 1 = 1 := by rw [and_one_i64 m (by omega), ho]; rfl
  have hg : (((G i j).toNat : Int) != 46) = true := u8_bne_ne (n := 46) (by rcases (hhere.1 ho).1 with e | e <;> rw [e] <;> decide)
  rw [if_pos ho] at hwu hfu
  have IO := I.odd
  rw [hz] at IO
  have c1 := F.l
  have c2 := F.w_
  have c3 := F.d
  have c4 := F.f
  have r1 := F.g.row i hih
  have g1 := F.g.cell i j hih hjW
  have HN := Lib.hid hN
  have HI := Lib.hid hi
  have HJ := Lib.hid hj
  have HZ := Lib.hid hz
  have HWU := Lib.hid hwu
  have HFU := Lib.hid hfu
  clear hN hi hj hz hwu hfu hhere hlieS hstandS hkW
  go_enter Tryd.func39, Tryd.ntmps39
  go_wp2_with fail
  go_quiet (fail)
  have Fq := F.drewN nq
  go_wp2_with (first
    | (at_lookup; refine wpList_lookup_own_int _ rfl _ _ 68 rfl 70 3 .i64 law70 Tryd.underlying68 Tryd.underlying3 (zero3 _) bm _ _ rfl (F.drewN _).m _ _ rfl hkl ?_; intro c6 hat6 hwc6)
    | fail)
  · have hw9 := hdead c6 hat6 (by assumption)
    go_ret
    exact FromG.mk_no hw9 (below_drewN (Below.refl _ _) _) hD (Nat.le_add_right _ _) (F.drewN _)
  · refine (ih.at k z c G D _ (by omega) IO hD (by omega) Fq).mono ?_
    intro e w2 hfg
    cases hx : wayF h W S n (k + 1) z
    · obtain ⟨rfl, hb2, D2, hD2, F2⟩ := hfg.no hx
      have hbw := (below_drewN (Below.refl B w) nq).trans hb2
      go_wp2_with fail
      have HWN := Lib.hid (show wayF h W S (n + 1) k m = false by rw [HWU.out]; exact hx)
      obtain ⟨c9, st, w8, e1, e2, e3, e4, e5⟩ := entry_law klaw70 Tryd.underlying68 Tryd.underlying3 zero3 F2.drew.m (by unfold maxLen; omega) hkl
      obtain ⟨w9, e6, hown9, hg9⟩ := e5 (wrap64 (c9 + 1)) (wrap64_wf _)
      have e2 : (Instr.mapEntry 68 (.map (some bm)) (.agg #[.int .i64 k, .int .i64 m])).run Tryd.prog _ = .ok (.tuple #[.int .i64 c9, .int .i64 st]) w8 := e2
      have e6 : (Instr.entryStore 68 (.map (some bm)) (.int .i64 st) (.int .i64 (wrap64 (c9 + 1)))).run Tryd.prog w8 = .ok () w9 := e6
      have d3 := F2.d
      have d8 : w8.cell? ⟨cd, 0, none⟩ = some (.map (some bm)) := (e4 _ F2.am.2.2.2.1).trans d3
      have F9 := F2.drew.turned hg9 hown9
      have hb9 := (hbw.drew).grown hg9 (Nat.le_trans F2.bB (Nat.le_of_lt F2.m.lt)) (fun b hb => by cases hb; exact F2.bB)
      clear e4 e5 hown9 hg9
      go_region
      go_wp2_with fail
      go_ret
      exact FromG.mk_no HWN.out hb9 (hD2.put F2.m.isMap hkl (by rw [show h * W - k = n + 1 from by omega]; exact HWN.out) _) (by omega) F9
    · obtain ⟨rfl, hb2, D2, hD2, F2⟩ := hfg.yes hx
      have hw9 : wayF h W S (n + 1) k m = true := by rw [HWU.out]; exact hx
      go_wp2_with fail
      go_ret
      exact FromG.mk_yes hw9 ((below_drewN (Below.refl _ _) _).trans hb2) hD2 HFU.out (by omega) F2

set_option maxRecDepth 100000 in
set_option maxHeartbeats 16000000 in
theorem from_dot (B top cap h W cl cw cd cf bm : Nat) (rb rc : Nat → Nat) (S : Nat → Nat → UInt8) (w0 : 0 < W) (w8 : W ≤ 8) (h8 : h ≤ 8) (n : Nat) (ih : FromIh B top cap rb rc h W S cl cw cd cf bm n)
    (k m c : Nat) (G : Nat → Nat → UInt8) (D : DataW Unit) (w : World) (hk : k + (n + 1) = h * W) (I : InvF h W S k m G) (hD : DeadOk h W S D) (hc : c + budget W (n + 1) m ≤ 9000000000000) (F : FW w B top cap rb rc h W G cl cw cd cf bm c D) (ho : m % 2 = 0) (hs : S (k / W) (k % W) ≠ 35) :
    Calls Tryd.prog 39 #[.int .i64 k, .int .i64 m, .pointer (some ⟨cw, 0, none⟩), .pointer (some ⟨cl, 0, none⟩), .pointer (some ⟨cd, 0, none⟩), .pointer (some ⟨cf, 0, none⟩)] w (FromG B top cap rb rc h W S cl cw cd cf bm (n + 1) k m c G w) := by
  obtain ⟨kl, hkl⟩ := key70 (k : Int) (m : Int) (WalkArith.wf_i64 (by have := Nat.mul_le_mul h8 w8; omega)) (WalkArith.wf_i64 (by have := Nat.lt_of_lt_of_le I.lt (two_pow8 w8); omega))
  obtain ⟨N, hN⟩ : ∃ N, h * W = N := ⟨_, rfl⟩
  have hN64 : N ≤ 64 := by rw [← hN]; exact Nat.mul_le_mul h8 w8
  have hmul : (W : Int) * (h : Int) = (N : Int) := by rw [← hN, Int.natCast_mul]; exact Int.mul_comm _ _
  have hkN : k < N := by omega
  have hkW : k < h * W := by omega
  have hkNe : ((k : Int) == (N : Int)) = false := beq_eq_false_iff_ne.2 (by omega)
  have hm256 : m < 256 := Nat.lt_of_lt_of_le I.lt (two_pow8 w8)
  have hhere := I.here hkW
  have hlieS := fun q => I.lie hkW q
  have hstandS := fun q => I.stand w0 q
  have hbud := budget_half (n := n) w0 w8 I.lt
  have hbud2 := fun q => budget_both (n := n) w0 w8 I.lt q
  have hdead := fun c6 q => hD k m kl c6 hkl q
  rw [show h * W - k = n + 1 from by omega] at hdead
  have hwu : wayF h W S (n + 1) k m = if m % 2 = 1 then wayF h W S n (k + 1) (m / 2) else if S (k / W) (k % W) ≠ 35 then wayF h W S n (k + 1) (m / 2) else (lieB W S (k / W) (k % W) m && wayF h W S n (k + 1) (m / 2 ||| 1)) || (standB h S (k / W) (k % W) && wayF h W S n (k + 1) (m / 2 ||| 2 ^ (W - 1))) := rfl
  have hfu : fillF h W S (n + 1) k m G = if m % 2 = 1 then fillF h W S n (k + 1) (m / 2) G else if S (k / W) (k % W) ≠ 35 then fillF h W S n (k + 1) (m / 2) G else if lieB W S (k / W) (k % W) m && wayF h W S n (k + 1) (m / 2 ||| 1) then fillF h W S n (k + 1) (m / 2 ||| 1) (set2 G (k / W) (k % W) 108 (k / W) (k % W + 1) 114) else fillF h W S n (k + 1) (m / 2 ||| 2 ^ (W - 1)) (set2 G (k / W) (k % W) 117 (k / W + 1) (k % W) 100) := rfl
  obtain ⟨i, hi⟩ : ∃ i, k / W = i := ⟨_, rfl⟩
  obtain ⟨j, hj⟩ : ∃ j, k % W = j := ⟨_, rfl⟩
  obtain ⟨z, hz⟩ : ∃ z, m / 2 = z := ⟨_, rfl⟩
  have hdi : (k : Int) / (W : Int) = (i : Int) := by rw [← hi]; exact (Int.natCast_ediv k W).symm
  have hdj : (k : Int) % (W : Int) = (j : Int) := by rw [← hj]; exact (Int.natCast_emod k W).symm
  have hdz : (m : Int) / 2 = (z : Int) := by omega
  have hz128 : z < 128 := by omega
  have hih : i < h := by rw [← hi]; exact code_row hkW
  have hjW : j < W := by rw [← hj]; exact Nat.mod_lt _ w0
  have hW0 : ((W : Int) == 0) = false := beq_eq_false_iff_ne.2 (by omega)
  rw [hi, hj] at hhere hlieS hstandS
  rw [hz] at hlieS hstandS hbud hbud2
  rw [hi, hj, hz] at hwu hfu
  have hand : bits BinOp.and IntKind.i64 (m : Int) 1 = 0 := by rw [and_one_i64 m (by omega), ho]; rfl
  rw [hi, hj] at hs
  have hgs := hhere.2 ho
  have hg : (((G i j).toNat : Int) != 35) = true := u8_bne_ne (n := 35) (by rw [hgs]; exact hs)
  clear hgs
  rw [if_neg (by omega), if_pos hs] at hwu hfu
  have IO := I.odd
  rw [hz] at IO
  have c1 := F.l
  have c2 := F.w_
  have c3 := F.d
  have c4 := F.f
  have r1 := F.g.row i hih
  have g1 := F.g.cell i j hih hjW
  have HN := Lib.hid hN
  have HI := Lib.hid hi
  have HJ := Lib.hid hj
  have HZ := Lib.hid hz
  have HWU := Lib.hid hwu
  have HFU := Lib.hid hfu
  clear hN hi hj hz hwu hfu hhere hlieS hstandS hkW
  go_enter Tryd.func39, Tryd.ntmps39
  go_wp2_with fail
  go_quiet (fail)
  have Fq := F.drewN nq
  go_wp2_with (first
    | (at_lookup; refine wpList_lookup_own_int _ rfl _ _ 68 rfl 70 3 .i64 law70 Tryd.underlying68 Tryd.underlying3 (zero3 _) bm _ _ rfl (F.drewN _).m _ _ rfl hkl ?_; intro c6 hat6 hwc6)
    | fail)
  · have hw9 := hdead c6 hat6 (by assumption)
    go_ret
    exact FromG.mk_no hw9 (below_drewN (Below.refl _ _) _) hD (Nat.le_add_right _ _) (F.drewN _)
  · refine (ih.at k z c G D _ (by omega) IO hD (by omega) Fq).mono ?_
    intro e w2 hfg
    cases hx : wayF h W S n (k + 1) z
    · obtain ⟨rfl, hb2, D2, hD2, F2⟩ := hfg.no hx
      have hbw := (below_drewN (Below.refl B w) nq).trans hb2
      go_wp2_with fail
      have HWN := Lib.hid (show wayF h W S (n + 1) k m = false by rw [HWU.out]; exact hx)
      obtain ⟨c9, st, w8, e1, e2, e3, e4, e5⟩ := entry_law klaw70 Tryd.underlying68 Tryd.underlying3 zero3 F2.drew.m (by unfold maxLen; omega) hkl
      obtain ⟨w9, e6, hown9, hg9⟩ := e5 (wrap64 (c9 + 1)) (wrap64_wf _)
      have e2 : (Instr.mapEntry 68 (.map (some bm)) (.agg #[.int .i64 k, .int .i64 m])).run Tryd.prog _ = .ok (.tuple #[.int .i64 c9, .int .i64 st]) w8 := e2
      have e6 : (Instr.entryStore 68 (.map (some bm)) (.int .i64 st) (.int .i64 (wrap64 (c9 + 1)))).run Tryd.prog w8 = .ok () w9 := e6
      have d3 := F2.d
      have d8 : w8.cell? ⟨cd, 0, none⟩ = some (.map (some bm)) := (e4 _ F2.am.2.2.2.1).trans d3
      have F9 := F2.drew.turned hg9 hown9
      have hb9 := (hbw.drew).grown hg9 (Nat.le_trans F2.bB (Nat.le_of_lt F2.m.lt)) (fun b hb => by cases hb; exact F2.bB)
      clear e4 e5 hown9 hg9
      go_region
      go_wp2_with fail
      go_ret
      exact FromG.mk_no HWN.out hb9 (hD2.put F2.m.isMap hkl (by rw [show h * W - k = n + 1 from by omega]; exact HWN.out) _) (by omega) F9
    · obtain ⟨rfl, hb2, D2, hD2, F2⟩ := hfg.yes hx
      have hw9 : wayF h W S (n + 1) k m = true := by rw [HWU.out]; exact hx
      go_wp2_with fail
      go_ret
      exact FromG.mk_yes hw9 ((below_drewN (Below.refl _ _) _).trans hb2) hD2 HFU.out (by omega) F2

set_option maxRecDepth 100000 in
set_option maxHeartbeats 16000000 in
theorem from_hash1 (B top cap h W cl cw cd cf bm : Nat) (rb rc : Nat → Nat) (S : Nat → Nat → UInt8) (w0 : 0 < W) (w8 : W ≤ 8) (h8 : h ≤ 8) (n : Nat) (ih : FromIh B top cap rb rc h W S cl cw cd cf bm n)
    (k m c : Nat) (G : Nat → Nat → UInt8) (D : DataW Unit) (w : World) (hk : k + (n + 1) = h * W) (I : InvF h W S k m G) (hD : DeadOk h W S D) (hc : c + budget W (n + 1) m ≤ 9000000000000) (F : FW w B top cap rb rc h W G cl cw cd cf bm c D) (ho : m % 2 = 0) (hs : S (k / W) (k % W) = 35) (hl1 : ¬ k % W + 1 < W) :
    Calls Tryd.prog 39 #[.int .i64 k, .int .i64 m, .pointer (some ⟨cw, 0, none⟩), .pointer (some ⟨cl, 0, none⟩), .pointer (some ⟨cd, 0, none⟩), .pointer (some ⟨cf, 0, none⟩)] w (FromG B top cap rb rc h W S cl cw cd cf bm (n + 1) k m c G w) := by
  obtain ⟨kl, hkl⟩ := key70 (k : Int) (m : Int) (WalkArith.wf_i64 (by have := Nat.mul_le_mul h8 w8; omega)) (WalkArith.wf_i64 (by have := Nat.lt_of_lt_of_le I.lt (two_pow8 w8); omega))
  obtain ⟨N, hN⟩ : ∃ N, h * W = N := ⟨_, rfl⟩
  have hN64 : N ≤ 64 := by rw [← hN]; exact Nat.mul_le_mul h8 w8
  have hmul : (W : Int) * (h : Int) = (N : Int) := by rw [← hN, Int.natCast_mul]; exact Int.mul_comm _ _
  have hkN : k < N := by omega
  have hkW : k < h * W := by omega
  have hkNe : ((k : Int) == (N : Int)) = false := beq_eq_false_iff_ne.2 (by omega)
  have hm256 : m < 256 := Nat.lt_of_lt_of_le I.lt (two_pow8 w8)
  have hhere := I.here hkW
  have hlieS := fun q => I.lie hkW q
  have hstandS := fun q => I.stand w0 q
  have hbud := budget_half (n := n) w0 w8 I.lt
  have hbud2 := fun q => budget_both (n := n) w0 w8 I.lt q
  have hdead := fun c6 q => hD k m kl c6 hkl q
  rw [show h * W - k = n + 1 from by omega] at hdead
  have hwu : wayF h W S (n + 1) k m = if m % 2 = 1 then wayF h W S n (k + 1) (m / 2) else if S (k / W) (k % W) ≠ 35 then wayF h W S n (k + 1) (m / 2) else (lieB W S (k / W) (k % W) m && wayF h W S n (k + 1) (m / 2 ||| 1)) || (standB h S (k / W) (k % W) && wayF h W S n (k + 1) (m / 2 ||| 2 ^ (W - 1))) := rfl
  have hfu : fillF h W S (n + 1) k m G = if m % 2 = 1 then fillF h W S n (k + 1) (m / 2) G else if S (k / W) (k % W) ≠ 35 then fillF h W S n (k + 1) (m / 2) G else if lieB W S (k / W) (k % W) m && wayF h W S n (k + 1) (m / 2 ||| 1) then fillF h W S n (k + 1) (m / 2 ||| 1) (set2 G (k / W) (k % W) 108 (k / W) (k % W + 1) 114) else fillF h W S n (k + 1) (m / 2 ||| 2 ^ (W - 1)) (set2 G (k / W) (k % W) 117 (k / W + 1) (k % W) 100) := rfl
  obtain ⟨i, hi⟩ : ∃ i, k / W = i := ⟨_, rfl⟩
  obtain ⟨j, hj⟩ : ∃ j, k % W = j := ⟨_, rfl⟩
  obtain ⟨z, hz⟩ : ∃ z, m / 2 = z := ⟨_, rfl⟩
  have hdi : (k : Int) / (W : Int) = (i : Int) := by rw [← hi]; exact (Int.natCast_ediv k W).symm
  have hdj : (k : Int) % (W : Int) = (j : Int) := by rw [← hj]; exact (Int.natCast_emod k W).symm
  have hdz : (m : Int) / 2 = (z : Int) := by omega
  have hz128 : z < 128 := by omega
  have hih : i < h := by rw [← hi]; exact code_row hkW
  have hjW : j < W := by rw [← hj]; exact Nat.mod_lt _ w0
  have hW0 : ((W : Int) == 0) = false := beq_eq_false_iff_ne.2 (by omega)
  rw [hi, hj] at hhere hlieS hstandS
  rw [hz] at hlieS hstandS hbud hbud2
  rw [hi, hj, hz] at hwu hfu
  have hand : bits BinOp.and IntKind.i64 (m : Int) 1 = 0 := by rw [and_one_i64 m (by omega), ho]; rfl
  rw [hi, hj] at hs
  have HGS := Lib.hid (show G i j = 35 by rw [hhere.2 ho, hs])
  rw [if_neg (by omega), if_neg (by rw [hs]; decide)] at hwu hfu
  obtain ⟨T, hT⟩ : ∃ T, 2 ^ (W - 1) = T := ⟨_, rfl⟩
  have hT128 : T ≤ 128 := by rw [← hT]; have : 2 ^ (W - 1) ≤ 2 ^ 7 := Nat.pow_le_pow_right (by decide) (by omega); simpa using this
  have hWi : ((W : Int) - 1).toNat = W - 1 := by omega
  have hWi2 : (0 : Int) ≤ (W : Int) - 1 := by omega
  have hTi : (2 : Int) ^ (W - 1) = (T : Int) := by rw [← hT]; simp
  have hors : bits BinOp.or IntKind.i64 (z : Int) (T : Int) = ((z ||| T : Nat) : Int) := or_i64 z T (by omega) (by omega)
  have horl : bits BinOp.or IntKind.i64 (z : Int) 1 = ((z ||| 1 : Nat) : Int) := or_i64 z 1 (by omega) (by omega)
  have hbT := hbud2 ho
  have hright := fun q1 q2 => I.right hkW q1 q2
  have hdown := fun q => I.down w0 q
  rw [hi, hj] at hright hdown
  rw [hz] at hright
  have HDN := Lib.hid hdown
  have HRT := Lib.hid hright
  clear hdown hright
  rw [hT] at hwu hfu hstandS hbT
  clear hs hbud2
  rw [hj] at hl1
  have HLF := Lib.hid (show lieB W S i j m = false by simp [lieB, hl1])
  have q1 : decide ((j : Int) + 1 < (W : Int)) = false := decide_eq_false (by omega)
  have hbT1 := hbT.1
  have hbT2 := hbT.2
  clear hbT
  have HLX := Lib.hid (show (lieB W S i j m && wayF h W S n (k + 1) (z ||| 1)) = false by rw [HLF.out]; rfl)
  have c1 := F.l
  have c2 := F.w_
  have c3 := F.d
  have c4 := F.f
  have r1 := F.g.row i hih
  have g1 : w.cell? ⟨rb i, j, none⟩ = some (.int .u8 35) := by rw [F.g.cell i j hih hjW, HGS.out]; rfl
  have HN := Lib.hid hN
  have HI := Lib.hid hi
  have HJ := Lib.hid hj
  have HZ := Lib.hid hz
  have HWU := Lib.hid hwu
  have HFU := Lib.hid hfu
  by_cases s1 : i + 1 < h
  · have s1i : (i : Int) + 1 < (h : Int) := by omega
    have r2 := F.g.row (i + 1) s1
    by_cases s2 : S (i + 1) j = 35
    · have HS2 := Lib.hid s2
      have hsb : standB h S i j = true := by simp only [standB, Bool.and_eq_true, decide_eq_true_eq]; exact ⟨s1, s2⟩
      have HST := Lib.hid (hstandS hsb)
      have HSB := Lib.hid hsb
      have g3 : w.cell? ⟨rb (i + 1), j, none⟩ = some (.int .u8 35) := by rw [F.g.cell (i + 1) j s1 hjW, HDN.out s1, s2]; rfl
      clear s2 hsb hstandS
      clear hN hi hj hz hwu hfu hhere hlieS hkW
      go_enter Tryd.func39, Tryd.ntmps39
      go_wp2_with fail
      go_quiet (fail)
      have Fq := F.drewN nq
      go_wp2_with (first
        | (at_lookup; refine wpList_lookup_own_int _ rfl _ _ 68 rfl 70 3 .i64 law70 Tryd.underlying68 Tryd.underlying3 (zero3 _) bm _ _ rfl (F.drewN _).m _ _ rfl hkl ?_; intro c6 hat6 hwc6)
        | fail)
      · have hw9 := hdead c6 hat6 (by assumption)
        go_ret
        exact FromG.mk_no hw9 (below_drewN (Below.refl _ _) _) hD (Nat.le_add_right _ _) (F.drewN _)
      · have hbw : Below B w (w.drewN nq) := below_drewN (Below.refl _ _) _
        clear c1 c2 c3 c4 r1 g1 r2 g3
        generalize w.drewN nq = wq at Fq hbw ⊢
        have c1 := Fq.l
        have r1 := Fq.g.row i hih
        have r2 := Fq.g.row (i + 1) s1
        have g1 : wq.cell? ⟨rb i, j, none⟩ = some (.int .u8 35) := by rw [Fq.g.cell i j hih hjW, HGS.out]; rfl
        have g3 : wq.cell? ⟨rb (i + 1), j, none⟩ = some (.int .u8 35) := by rw [Fq.g.cell (i + 1) j s1 hjW, HST.out.2]; rfl
        have n1 : rb i ≠ rb (i + 1) := fun e => by have := Fq.g.inj i (i + 1) hih s1 e; omega
        have n2 : rb (i + 1) ≠ rb i := fun e => n1 e.symm
        have n3 : rb i ≠ top := Fq.g.apart i hih
        have n4 : rb (i + 1) ≠ top := Fq.g.apart (i + 1) s1
        have n5 : top ≠ rb i := fun e => n3 e.symm
        have n6 : top ≠ rb (i + 1) := fun e => n4 e.symm
        have n7 : cl ≠ rb i := fun e => (Fq.ap i hih).1 e.symm
        have n8 : cl ≠ rb (i + 1) := fun e => (Fq.ap (i + 1) s1).1 e.symm
        have i1 : (i : Int) < (h : Int) := by omega
        have i3 : (j : Int) < (W : Int) := by omega
        have f1 := Fq.g.frz i j hih hjW
        have f3 := Fq.g.frz (i + 1) j s1 hjW
        have F13 : FW ((wq.setCell ⟨rb i, j, none⟩ (.int .u8 117)).setCell ⟨rb (i + 1), j, none⟩ (.int .u8 100)).drew B top cap rb rc h W (set2 G i j 117 (i + 1) j 100) cl cw cd cf bm c D := ((Fq.set hih hjW 117).set s1 hjW 100).drew
        have hb13 : Below B w ((wq.setCell ⟨rb i, j, none⟩ (.int .u8 117)).setCell ⟨rb (i + 1), j, none⟩ (.int .u8 100)).drew := ((hbw.setCell (p := ⟨rb i, j, none⟩) (Fq.g.rbB i hih) _).setCell (p := ⟨rb (i + 1), j, none⟩) (Fq.g.rbB (i + 1) s1) _).drew
        go_region
        generalize ((wq.setCell ⟨rb i, j, none⟩ (.int .u8 117)).setCell ⟨rb (i + 1), j, none⟩ (.int .u8 100)).drew = w13 at F13 hb13 ⊢
        clear c1 r1 r2 g1 g3 f1 f3
        clear n1 n2 n3 n4 n5 n6 n7 n8 i1 i3
        have c2 := F13.w_
        have c4 := F13.f
        have hk1w : IntKind.i64.wrap ((k : Int) + 1) = (k : Int) + 1 := IntWalk.i64_in _ (by omega)
        have hsh : ∀ u : World, (Op.shift BinOp.shl IntKind.i64 1 IntKind.i64 (IntKind.i64.wrap ((W : Int) - 1))).run Tryd.prog u = .ok (.int .i64 T) u := fun u => by
          rw [IntWalk.i64_in ((W : Int) - 1) (by omega), shift_shl .i64 .i64 1 ((W : Int) - 1) (by omega) (by show (W : Int) - 1 ≤ 64; omega), hWi, hTi, Int.one_mul, IntWalk.i64_in (T : Int) (by omega)]
          rfl
        have F14 := F13.drew
        have hb14 := hb13.drew
        go_wp2_with fail
        go_still_tail 9, (by kernel_rfl)
        change wpList _ _ _ _ _ w13.drew
        generalize w13.drew = w14 at F14 hb14 ⊢
        clear c2 c4 hk1w hsh F13 hb13
        go_wp2_with fail
        refine (ih.at k (z ||| T) c (set2 G i j 117 (i + 1) j 100) D w14 (by omega) HST.out.1 hD (by omega) F14).mono ?_
        intro e w15 hfg
        cases hx2 : wayF h W S n (k + 1) (z ||| T)
        · obtain ⟨rfl, hb15, D15, hD15, F15⟩ := hfg.no hx2
          have HWN := Lib.hid (show wayF h W S (n + 1) k m = false by rw [HWU.out, HLX.out, HSB.out, hx2]; rfl)
          have hbs := hb14.trans hb15
          have c1 := F15.l
          have r1 := F15.g.row i hih
          have r2 := F15.g.row (i + 1) s1
          obtain ⟨v1, g1⟩ : ∃ v, w15.cell? ⟨rb i, j, none⟩ = some v := ⟨_, F15.g.cell i j hih hjW⟩
          obtain ⟨v3, g3⟩ : ∃ v, w15.cell? ⟨rb (i + 1), j, none⟩ = some v := ⟨_, F15.g.cell (i + 1) j s1 hjW⟩
          have n1 : rb i ≠ rb (i + 1) := fun e => by have := F15.g.inj i (i + 1) hih s1 e; omega
          have n2 : rb (i + 1) ≠ rb i := fun e => n1 e.symm
          have n3 : rb i ≠ top := F15.g.apart i hih
          have n4 : rb (i + 1) ≠ top := F15.g.apart (i + 1) s1
          have n5 : top ≠ rb i := fun e => n3 e.symm
          have n6 : top ≠ rb (i + 1) := fun e => n4 e.symm
          have n7 : cl ≠ rb i := fun e => (F15.ap i hih).1 e.symm
          have n8 : cl ≠ rb (i + 1) := fun e => (F15.ap (i + 1) s1).1 e.symm
          have i1 : (i : Int) < (h : Int) := by omega
          have i3 : (j : Int) < (W : Int) := by omega
          have f1 := F15.g.frz i j hih hjW
          have f3 := F15.g.frz (i + 1) j s1 hjW
          go_wp2_with fail
          have F16 : FW ((w15.setCell ⟨rb i, j, none⟩ (.int .u8 35)).setCell ⟨rb (i + 1), j, none⟩ (.int .u8 35)).drew B top cap rb rc h W G cl cw cd cf bm (c + budget W n (z ||| T)) D15 := ((F15.set hih hjW 35).set s1 hjW 35).drew.congr (set2_back G i j 117 (i + 1) j 100 HGS.out HST.out.2)
          have hb16 : Below B w ((w15.setCell ⟨rb i, j, none⟩ (.int .u8 35)).setCell ⟨rb (i + 1), j, none⟩ (.int .u8 35)).drew := ((hbs.setCell (p := ⟨rb i, j, none⟩) (F15.g.rbB i hih) _).setCell (p := ⟨rb (i + 1), j, none⟩) (F15.g.rbB (i + 1) s1) _).drew
          go_region
          generalize ((w15.setCell ⟨rb i, j, none⟩ (.int .u8 35)).setCell ⟨rb (i + 1), j, none⟩ (.int .u8 35)).drew = w16 at F16 hb16 ⊢
          clear c1 r1 r2 g1 g3 f1 f3
          clear n1 n2 n3 n4 n5 n6 n7 n8 i1 i3
          go_wp2_with fail
          obtain ⟨c9, st, w8, e1, e2, e3, e4, e5⟩ := entry_law klaw70 Tryd.underlying68 Tryd.underlying3 zero3 F16.drew.m (by unfold maxLen; omega) hkl
          obtain ⟨w9, e6, hown9, hg9⟩ := e5 (wrap64 (c9 + 1)) (wrap64_wf _)
          have e2 : (Instr.mapEntry 68 (.map (some bm)) (.agg #[.int .i64 k, .int .i64 m])).run Tryd.prog _ = .ok (.tuple #[.int .i64 c9, .int .i64 st]) w8 := e2
          have e6 : (Instr.entryStore 68 (.map (some bm)) (.int .i64 st) (.int .i64 (wrap64 (c9 + 1)))).run Tryd.prog w8 = .ok () w9 := e6
          have d3 := F16.d
          have d8 : w8.cell? ⟨cd, 0, none⟩ = some (.map (some bm)) := (e4 _ F16.am.2.2.2.1).trans d3
          have F9 := F16.drew.turned hg9 hown9
          have hb9 := (hb16.drew).grown hg9 (Nat.le_trans F16.bB (Nat.le_of_lt F16.m.lt)) (fun b hb => by cases hb; exact F16.bB)
          clear e4 e5 hown9 hg9
          go_region
          go_wp2_with fail
          go_ret
          exact FromG.mk_no HWN.out hb9 (hD15.put F16.m.isMap hkl (by rw [show h * W - k = n + 1 from by omega]; exact HWN.out) _) (by omega) F9
        · obtain ⟨rfl, hb15, D15, hD15, F15⟩ := hfg.yes hx2
          have hw9 : wayF h W S (n + 1) k m = true := by rw [HWU.out, HLX.out, HSB.out, hx2]; rfl
          have hf9 : fillF h W S (n + 1) k m G = fillF h W S n (k + 1) (z ||| T) (set2 G i j 117 (i + 1) j 100) := by rw [HFU.out, HLX.out, if_neg (by decide)]
          go_wp2_with fail
          go_ret
          exact FromG.mk_yes hw9 (hb14.trans hb15) hD15 hf9 (by omega) F15
    · have HSBF := Lib.hid (show standB h S i j = false by simp [standB, s2])
      have g3 := F.g.cell (i + 1) j s1 hjW
      have f35 : (((G (i + 1) j).toNat : Int) == 35) = false := u8_ne (n := 35) (by rw [HDN.out s1]; exact s2)
      clear s2 hstandS
      clear hN hi hj hz hwu hfu hhere hlieS hkW
      go_enter Tryd.func39, Tryd.ntmps39
      go_wp2_with fail
      go_quiet (fail)
      have Fq := F.drewN nq
      go_wp2_with (first
        | (at_lookup; refine wpList_lookup_own_int _ rfl _ _ 68 rfl 70 3 .i64 law70 Tryd.underlying68 Tryd.underlying3 (zero3 _) bm _ _ rfl (F.drewN _).m _ _ rfl hkl ?_; intro c6 hat6 hwc6)
        | fail)
      · have hw9 := hdead c6 hat6 (by assumption)
        go_ret
        exact FromG.mk_no hw9 (below_drewN (Below.refl _ _) _) hD (Nat.le_add_right _ _) (F.drewN _)
      · have hbw : Below B w (w.drewN nq) := below_drewN (Below.refl _ _) _
        clear c1 c2 c3 c4 r1 g1 r2 g3
        generalize w.drewN nq = wq at Fq hbw ⊢
        have HWN := Lib.hid (show wayF h W S (n + 1) k m = false by rw [HWU.out, HLX.out, HSBF.out]; rfl)
        obtain ⟨c9, st, w8, e1, e2, e3, e4, e5⟩ := entry_law klaw70 Tryd.underlying68 Tryd.underlying3 zero3 Fq.drew.m (by unfold maxLen; omega) hkl
        obtain ⟨w9, e6, hown9, hg9⟩ := e5 (wrap64 (c9 + 1)) (wrap64_wf _)
        have e2 : (Instr.mapEntry 68 (.map (some bm)) (.agg #[.int .i64 k, .int .i64 m])).run Tryd.prog _ = .ok (.tuple #[.int .i64 c9, .int .i64 st]) w8 := e2
        have e6 : (Instr.entryStore 68 (.map (some bm)) (.int .i64 st) (.int .i64 (wrap64 (c9 + 1)))).run Tryd.prog w8 = .ok () w9 := e6
        have d3 := Fq.d
        have d8 : w8.cell? ⟨cd, 0, none⟩ = some (.map (some bm)) := (e4 _ Fq.am.2.2.2.1).trans d3
        have F9 := Fq.drew.turned hg9 hown9
        have hb9 := (hbw.drew).grown hg9 (Nat.le_trans Fq.bB (Nat.le_of_lt Fq.m.lt)) (fun b hb => by cases hb; exact Fq.bB)
        clear e4 e5 hown9 hg9
        go_region
        go_wp2_with fail
        go_ret
        exact FromG.mk_no HWN.out hb9 (hD.put Fq.m.isMap hkl (by rw [show h * W - k = n + 1 from by omega]; exact HWN.out) _) (by omega) F9
  · have HSBF := Lib.hid (show standB h S i j = false by simp [standB, s1])
    have s1i : decide ((i : Int) + 1 < (h : Int)) = false := decide_eq_false (by omega)
    clear hstandS
    clear hN hi hj hz hwu hfu hhere hlieS hkW
    go_enter Tryd.func39, Tryd.ntmps39
    go_wp2_with fail
    go_quiet (fail)
    have Fq := F.drewN nq
    go_wp2_with (first
      | (at_lookup; refine wpList_lookup_own_int _ rfl _ _ 68 rfl 70 3 .i64 law70 Tryd.underlying68 Tryd.underlying3 (zero3 _) bm _ _ rfl (F.drewN _).m _ _ rfl hkl ?_; intro c6 hat6 hwc6)
      | fail)
    · have hw9 := hdead c6 hat6 (by assumption)
      go_ret
      exact FromG.mk_no hw9 (below_drewN (Below.refl _ _) _) hD (Nat.le_add_right _ _) (F.drewN _)
    · have hbw : Below B w (w.drewN nq) := below_drewN (Below.refl _ _) _
      clear c1 c2 c3 c4 r1 g1
      generalize w.drewN nq = wq at Fq hbw ⊢
      have HWN := Lib.hid (show wayF h W S (n + 1) k m = false by rw [HWU.out, HLX.out, HSBF.out]; rfl)
      obtain ⟨c9, st, w8, e1, e2, e3, e4, e5⟩ := entry_law klaw70 Tryd.underlying68 Tryd.underlying3 zero3 Fq.drew.m (by unfold maxLen; omega) hkl
      obtain ⟨w9, e6, hown9, hg9⟩ := e5 (wrap64 (c9 + 1)) (wrap64_wf _)
      have e2 : (Instr.mapEntry 68 (.map (some bm)) (.agg #[.int .i64 k, .int .i64 m])).run Tryd.prog _ = .ok (.tuple #[.int .i64 c9, .int .i64 st]) w8 := e2
      have e6 : (Instr.entryStore 68 (.map (some bm)) (.int .i64 st) (.int .i64 (wrap64 (c9 + 1)))).run Tryd.prog w8 = .ok () w9 := e6
      have d3 := Fq.d
      have d8 : w8.cell? ⟨cd, 0, none⟩ = some (.map (some bm)) := (e4 _ Fq.am.2.2.2.1).trans d3
      have F9 := Fq.drew.turned hg9 hown9
      have hb9 := (hbw.drew).grown hg9 (Nat.le_trans Fq.bB (Nat.le_of_lt Fq.m.lt)) (fun b hb => by cases hb; exact Fq.bB)
      clear e4 e5 hown9 hg9
      go_region
      go_wp2_with fail
      go_ret
      exact FromG.mk_no HWN.out hb9 (hD.put Fq.m.isMap hkl (by rw [show h * W - k = n + 1 from by omega]; exact HWN.out) _) (by omega) F9

set_option maxRecDepth 100000 in
set_option maxHeartbeats 16000000 in
theorem from_hash2 (B top cap h W cl cw cd cf bm : Nat) (rb rc : Nat → Nat) (S : Nat → Nat → UInt8) (w0 : 0 < W) (w8 : W ≤ 8) (h8 : h ≤ 8) (n : Nat) (ih : FromIh B top cap rb rc h W S cl cw cd cf bm n)
    (k m c : Nat) (G : Nat → Nat → UInt8) (D : DataW Unit) (w : World) (hk : k + (n + 1) = h * W) (I : InvF h W S k m G) (hD : DeadOk h W S D) (hc : c + budget W (n + 1) m ≤ 9000000000000) (F : FW w B top cap rb rc h W G cl cw cd cf bm c D) (ho : m % 2 = 0) (hs : S (k / W) (k % W) = 35) (hl1 : k % W + 1 < W) (hl2 : m / 2 % 2 = 1) :
    Calls Tryd.prog 39 #[.int .i64 k, .int .i64 m, .pointer (some ⟨cw, 0, none⟩), .pointer (some ⟨cl, 0, none⟩), .pointer (some ⟨cd, 0, none⟩), .pointer (some ⟨cf, 0, none⟩)] w (FromG B top cap rb rc h W S cl cw cd cf bm (n + 1) k m c G w) := by
  obtain ⟨kl, hkl⟩ := key70 (k : Int) (m : Int) (WalkArith.wf_i64 (by have := Nat.mul_le_mul h8 w8; omega)) (WalkArith.wf_i64 (by have := Nat.lt_of_lt_of_le I.lt (two_pow8 w8); omega))
  obtain ⟨N, hN⟩ : ∃ N, h * W = N := ⟨_, rfl⟩
  have hN64 : N ≤ 64 := by rw [← hN]; exact Nat.mul_le_mul h8 w8
  have hmul : (W : Int) * (h : Int) = (N : Int) := by rw [← hN, Int.natCast_mul]; exact Int.mul_comm _ _
  have hkN : k < N := by omega
  have hkW : k < h * W := by omega
  have hkNe : ((k : Int) == (N : Int)) = false := beq_eq_false_iff_ne.2 (by omega)
  have hm256 : m < 256 := Nat.lt_of_lt_of_le I.lt (two_pow8 w8)
  have hhere := I.here hkW
  have hlieS := fun q => I.lie hkW q
  have hstandS := fun q => I.stand w0 q
  have hbud := budget_half (n := n) w0 w8 I.lt
  have hbud2 := fun q => budget_both (n := n) w0 w8 I.lt q
  have hdead := fun c6 q => hD k m kl c6 hkl q
  rw [show h * W - k = n + 1 from by omega] at hdead
  have hwu : wayF h W S (n + 1) k m = if m % 2 = 1 then wayF h W S n (k + 1) (m / 2) else if S (k / W) (k % W) ≠ 35 then wayF h W S n (k + 1) (m / 2) else (lieB W S (k / W) (k % W) m && wayF h W S n (k + 1) (m / 2 ||| 1)) || (standB h S (k / W) (k % W) && wayF h W S n (k + 1) (m / 2 ||| 2 ^ (W - 1))) := rfl
  have hfu : fillF h W S (n + 1) k m G = if m % 2 = 1 then fillF h W S n (k + 1) (m / 2) G else if S (k / W) (k % W) ≠ 35 then fillF h W S n (k + 1) (m / 2) G else if lieB W S (k / W) (k % W) m && wayF h W S n (k + 1) (m / 2 ||| 1) then fillF h W S n (k + 1) (m / 2 ||| 1) (set2 G (k / W) (k % W) 108 (k / W) (k % W + 1) 114) else fillF h W S n (k + 1) (m / 2 ||| 2 ^ (W - 1)) (set2 G (k / W) (k % W) 117 (k / W + 1) (k % W) 100) := rfl
  obtain ⟨i, hi⟩ : ∃ i, k / W = i := ⟨_, rfl⟩
  obtain ⟨j, hj⟩ : ∃ j, k % W = j := ⟨_, rfl⟩
  obtain ⟨z, hz⟩ : ∃ z, m / 2 = z := ⟨_, rfl⟩
  have hdi : (k : Int) / (W : Int) = (i : Int) := by rw [← hi]; exact (Int.natCast_ediv k W).symm
  have hdj : (k : Int) % (W : Int) = (j : Int) := by rw [← hj]; exact (Int.natCast_emod k W).symm
  have hdz : (m : Int) / 2 = (z : Int) := by omega
  have hz128 : z < 128 := by omega
  have hih : i < h := by rw [← hi]; exact code_row hkW
  have hjW : j < W := by rw [← hj]; exact Nat.mod_lt _ w0
  have hW0 : ((W : Int) == 0) = false := beq_eq_false_iff_ne.2 (by omega)
  rw [hi, hj] at hhere hlieS hstandS
  rw [hz] at hlieS hstandS hbud hbud2
  rw [hi, hj, hz] at hwu hfu
  have hand : bits BinOp.and IntKind.i64 (m : Int) 1 = 0 := by rw [and_one_i64 m (by omega), ho]; rfl
  rw [hi, hj] at hs
  have HGS := Lib.hid (show G i j = 35 by rw [hhere.2 ho, hs])
  rw [if_neg (by omega), if_neg (by rw [hs]; decide)] at hwu hfu
  obtain ⟨T, hT⟩ : ∃ T, 2 ^ (W - 1) = T := ⟨_, rfl⟩
  have hT128 : T ≤ 128 := by rw [← hT]; have : 2 ^ (W - 1) ≤ 2 ^ 7 := Nat.pow_le_pow_right (by decide) (by omega); simpa using this
  have hWi : ((W : Int) - 1).toNat = W - 1 := by omega
  have hWi2 : (0 : Int) ≤ (W : Int) - 1 := by omega
  have hTi : (2 : Int) ^ (W - 1) = (T : Int) := by rw [← hT]; simp
  have hors : bits BinOp.or IntKind.i64 (z : Int) (T : Int) = ((z ||| T : Nat) : Int) := or_i64 z T (by omega) (by omega)
  have horl : bits BinOp.or IntKind.i64 (z : Int) 1 = ((z ||| 1 : Nat) : Int) := or_i64 z 1 (by omega) (by omega)
  have hbT := hbud2 ho
  have hright := fun q1 q2 => I.right hkW q1 q2
  have hdown := fun q => I.down w0 q
  rw [hi, hj] at hright hdown
  rw [hz] at hright
  have HDN := Lib.hid hdown
  have HRT := Lib.hid hright
  clear hdown hright
  rw [hT] at hwu hfu hstandS hbT
  clear hs hbud2
  rw [hj] at hl1
  rw [hz] at hl2
  have HLF := Lib.hid (show lieB W S i j m = false by simp [lieB, hz, hl2])
  have q1 : (j : Int) + 1 < (W : Int) := by omega
  have hand2 : bits BinOp.and IntKind.i64 (m : Int) 2 = 2 := by rw [and_two_i64 m hm256, hz, hl2]; rfl
  have hbT1 := hbT.1
  have hbT2 := hbT.2
  clear hbT
  have HLX := Lib.hid (show (lieB W S i j m && wayF h W S n (k + 1) (z ||| 1)) = false by rw [HLF.out]; rfl)
  have c1 := F.l
  have c2 := F.w_
  have c3 := F.d
  have c4 := F.f
  have r1 := F.g.row i hih
  have g1 : w.cell? ⟨rb i, j, none⟩ = some (.int .u8 35) := by rw [F.g.cell i j hih hjW, HGS.out]; rfl
  have HN := Lib.hid hN
  have HI := Lib.hid hi
  have HJ := Lib.hid hj
  have HZ := Lib.hid hz
  have HWU := Lib.hid hwu
  have HFU := Lib.hid hfu
  by_cases s1 : i + 1 < h
  · have s1i : (i : Int) + 1 < (h : Int) := by omega
    have r2 := F.g.row (i + 1) s1
    by_cases s2 : S (i + 1) j = 35
    · have HS2 := Lib.hid s2
      have hsb : standB h S i j = true := by simp only [standB, Bool.and_eq_true, decide_eq_true_eq]; exact ⟨s1, s2⟩
      have HST := Lib.hid (hstandS hsb)
      have HSB := Lib.hid hsb
      have g3 : w.cell? ⟨rb (i + 1), j, none⟩ = some (.int .u8 35) := by rw [F.g.cell (i + 1) j s1 hjW, HDN.out s1, s2]; rfl
      clear s2 hsb hstandS
      clear hN hi hj hz hwu hfu hhere hlieS hkW
      go_enter Tryd.func39, Tryd.ntmps39
      go_wp2_with fail
      go_quiet (fail)
      have Fq := F.drewN nq
      go_wp2_with (first
        | (at_lookup; refine wpList_lookup_own_int _ rfl _ _ 68 rfl 70 3 .i64 law70 Tryd.underlying68 Tryd.underlying3 (zero3 _) bm _ _ rfl (F.drewN _).m _ _ rfl hkl ?_; intro c6 hat6 hwc6)
        | fail)
      · have hw9 := hdead c6 hat6 (by assumption)
        go_ret
        exact FromG.mk_no hw9 (below_drewN (Below.refl _ _) _) hD (Nat.le_add_right _ _) (F.drewN _)
      · have hbw : Below B w (w.drewN nq) := below_drewN (Below.refl _ _) _
        clear c1 c2 c3 c4 r1 g1 r2 g3
        generalize w.drewN nq = wq at Fq hbw ⊢
        have c1 := Fq.l
        have r1 := Fq.g.row i hih
        have r2 := Fq.g.row (i + 1) s1
        have g1 : wq.cell? ⟨rb i, j, none⟩ = some (.int .u8 35) := by rw [Fq.g.cell i j hih hjW, HGS.out]; rfl
        have g3 : wq.cell? ⟨rb (i + 1), j, none⟩ = some (.int .u8 35) := by rw [Fq.g.cell (i + 1) j s1 hjW, HST.out.2]; rfl
        have n1 : rb i ≠ rb (i + 1) := fun e => by have := Fq.g.inj i (i + 1) hih s1 e; omega
        have n2 : rb (i + 1) ≠ rb i := fun e => n1 e.symm
        have n3 : rb i ≠ top := Fq.g.apart i hih
        have n4 : rb (i + 1) ≠ top := Fq.g.apart (i + 1) s1
        have n5 : top ≠ rb i := fun e => n3 e.symm
        have n6 : top ≠ rb (i + 1) := fun e => n4 e.symm
        have n7 : cl ≠ rb i := fun e => (Fq.ap i hih).1 e.symm
        have n8 : cl ≠ rb (i + 1) := fun e => (Fq.ap (i + 1) s1).1 e.symm
        have i1 : (i : Int) < (h : Int) := by omega
        have i3 : (j : Int) < (W : Int) := by omega
        have f1 := Fq.g.frz i j hih hjW
        have f3 := Fq.g.frz (i + 1) j s1 hjW
        have F13 : FW ((wq.setCell ⟨rb i, j, none⟩ (.int .u8 117)).setCell ⟨rb (i + 1), j, none⟩ (.int .u8 100)).drew B top cap rb rc h W (set2 G i j 117 (i + 1) j 100) cl cw cd cf bm c D := ((Fq.set hih hjW 117).set s1 hjW 100).drew
        have hb13 : Below B w ((wq.setCell ⟨rb i, j, none⟩ (.int .u8 117)).setCell ⟨rb (i + 1), j, none⟩ (.int .u8 100)).drew := ((hbw.setCell (p := ⟨rb i, j, none⟩) (Fq.g.rbB i hih) _).setCell (p := ⟨rb (i + 1), j, none⟩) (Fq.g.rbB (i + 1) s1) _).drew
        go_region
        generalize ((wq.setCell ⟨rb i, j, none⟩ (.int .u8 117)).setCell ⟨rb (i + 1), j, none⟩ (.int .u8 100)).drew = w13 at F13 hb13 ⊢
        clear c1 r1 r2 g1 g3 f1 f3
        clear n1 n2 n3 n4 n5 n6 n7 n8 i1 i3
        have c2 := F13.w_
        have c4 := F13.f
        have hk1w : IntKind.i64.wrap ((k : Int) + 1) = (k : Int) + 1 := IntWalk.i64_in _ (by omega)
        have hsh : ∀ u : World, (Op.shift BinOp.shl IntKind.i64 1 IntKind.i64 (IntKind.i64.wrap ((W : Int) - 1))).run Tryd.prog u = .ok (.int .i64 T) u := fun u => by
          rw [IntWalk.i64_in ((W : Int) - 1) (by omega), shift_shl .i64 .i64 1 ((W : Int) - 1) (by omega) (by show (W : Int) - 1 ≤ 64; omega), hWi, hTi, Int.one_mul, IntWalk.i64_in (T : Int) (by omega)]
          rfl
        have F14 := F13.drew
        have hb14 := hb13.drew
        go_wp2_with fail
        go_still_tail 9, (by kernel_rfl)
        change wpList _ _ _ _ _ w13.drew
        generalize w13.drew = w14 at F14 hb14 ⊢
        clear c2 c4 hk1w hsh F13 hb13
        go_wp2_with fail
        refine (ih.at k (z ||| T) c (set2 G i j 117 (i + 1) j 100) D w14 (by omega) HST.out.1 hD (by omega) F14).mono ?_
        intro e w15 hfg
        cases hx2 : wayF h W S n (k + 1) (z ||| T)
        · obtain ⟨rfl, hb15, D15, hD15, F15⟩ := hfg.no hx2
          have HWN := Lib.hid (show wayF h W S (n + 1) k m = false by rw [HWU.out, HLX.out, HSB.out, hx2]; rfl)
          have hbs := hb14.trans hb15
          have c1 := F15.l
          have r1 := F15.g.row i hih
          have r2 := F15.g.row (i + 1) s1
          obtain ⟨v1, g1⟩ : ∃ v, w15.cell? ⟨rb i, j, none⟩ = some v := ⟨_, F15.g.cell i j hih hjW⟩
          obtain ⟨v3, g3⟩ : ∃ v, w15.cell? ⟨rb (i + 1), j, none⟩ = some v := ⟨_, F15.g.cell (i + 1) j s1 hjW⟩
          have n1 : rb i ≠ rb (i + 1) := fun e => by have := F15.g.inj i (i + 1) hih s1 e; omega
          have n2 : rb (i + 1) ≠ rb i := fun e => n1 e.symm
          have n3 : rb i ≠ top := F15.g.apart i hih
          have n4 : rb (i + 1) ≠ top := F15.g.apart (i + 1) s1
          have n5 : top ≠ rb i := fun e => n3 e.symm
          have n6 : top ≠ rb (i + 1) := fun e => n4 e.symm
          have n7 : cl ≠ rb i := fun e => (F15.ap i hih).1 e.symm
          have n8 : cl ≠ rb (i + 1) := fun e => (F15.ap (i + 1) s1).1 e.symm
          have i1 : (i : Int) < (h : Int) := by omega
          have i3 : (j : Int) < (W : Int) := by omega
          have f1 := F15.g.frz i j hih hjW
          have f3 := F15.g.frz (i + 1) j s1 hjW
          go_wp2_with fail
          have F16 : FW ((w15.setCell ⟨rb i, j, none⟩ (.int .u8 35)).setCell ⟨rb (i + 1), j, none⟩ (.int .u8 35)).drew B top cap rb rc h W G cl cw cd cf bm (c + budget W n (z ||| T)) D15 := ((F15.set hih hjW 35).set s1 hjW 35).drew.congr (set2_back G i j 117 (i + 1) j 100 HGS.out HST.out.2)
          have hb16 : Below B w ((w15.setCell ⟨rb i, j, none⟩ (.int .u8 35)).setCell ⟨rb (i + 1), j, none⟩ (.int .u8 35)).drew := ((hbs.setCell (p := ⟨rb i, j, none⟩) (F15.g.rbB i hih) _).setCell (p := ⟨rb (i + 1), j, none⟩) (F15.g.rbB (i + 1) s1) _).drew
          go_region
          generalize ((w15.setCell ⟨rb i, j, none⟩ (.int .u8 35)).setCell ⟨rb (i + 1), j, none⟩ (.int .u8 35)).drew = w16 at F16 hb16 ⊢
          clear c1 r1 r2 g1 g3 f1 f3
          clear n1 n2 n3 n4 n5 n6 n7 n8 i1 i3
          go_wp2_with fail
          obtain ⟨c9, st, w8, e1, e2, e3, e4, e5⟩ := entry_law klaw70 Tryd.underlying68 Tryd.underlying3 zero3 F16.drew.m (by unfold maxLen; omega) hkl
          obtain ⟨w9, e6, hown9, hg9⟩ := e5 (wrap64 (c9 + 1)) (wrap64_wf _)
          have e2 : (Instr.mapEntry 68 (.map (some bm)) (.agg #[.int .i64 k, .int .i64 m])).run Tryd.prog _ = .ok (.tuple #[.int .i64 c9, .int .i64 st]) w8 := e2
          have e6 : (Instr.entryStore 68 (.map (some bm)) (.int .i64 st) (.int .i64 (wrap64 (c9 + 1)))).run Tryd.prog w8 = .ok () w9 := e6
          have d3 := F16.d
          have d8 : w8.cell? ⟨cd, 0, none⟩ = some (.map (some bm)) := (e4 _ F16.am.2.2.2.1).trans d3
          have F9 := F16.drew.turned hg9 hown9
          have hb9 := (hb16.drew).grown hg9 (Nat.le_trans F16.bB (Nat.le_of_lt F16.m.lt)) (fun b hb => by cases hb; exact F16.bB)
          clear e4 e5 hown9 hg9
          go_region
          go_wp2_with fail
          go_ret
          exact FromG.mk_no HWN.out hb9 (hD15.put F16.m.isMap hkl (by rw [show h * W - k = n + 1 from by omega]; exact HWN.out) _) (by omega) F9
        · obtain ⟨rfl, hb15, D15, hD15, F15⟩ := hfg.yes hx2
          have hw9 : wayF h W S (n + 1) k m = true := by rw [HWU.out, HLX.out, HSB.out, hx2]; rfl
          have hf9 : fillF h W S (n + 1) k m G = fillF h W S n (k + 1) (z ||| T) (set2 G i j 117 (i + 1) j 100) := by rw [HFU.out, HLX.out, if_neg (by decide)]
          go_wp2_with fail
          go_ret
          exact FromG.mk_yes hw9 (hb14.trans hb15) hD15 hf9 (by omega) F15
    · have HSBF := Lib.hid (show standB h S i j = false by simp [standB, s2])
      have g3 := F.g.cell (i + 1) j s1 hjW
      have f35 : (((G (i + 1) j).toNat : Int) == 35) = false := u8_ne (n := 35) (by rw [HDN.out s1]; exact s2)
      clear s2 hstandS
      clear hN hi hj hz hwu hfu hhere hlieS hkW
      go_enter Tryd.func39, Tryd.ntmps39
      go_wp2_with fail
      go_quiet (fail)
      have Fq := F.drewN nq
      go_wp2_with (first
        | (at_lookup; refine wpList_lookup_own_int _ rfl _ _ 68 rfl 70 3 .i64 law70 Tryd.underlying68 Tryd.underlying3 (zero3 _) bm _ _ rfl (F.drewN _).m _ _ rfl hkl ?_; intro c6 hat6 hwc6)
        | fail)
      · have hw9 := hdead c6 hat6 (by assumption)
        go_ret
        exact FromG.mk_no hw9 (below_drewN (Below.refl _ _) _) hD (Nat.le_add_right _ _) (F.drewN _)
      · have hbw : Below B w (w.drewN nq) := below_drewN (Below.refl _ _) _
        clear c1 c2 c3 c4 r1 g1 r2 g3
        generalize w.drewN nq = wq at Fq hbw ⊢
        have HWN := Lib.hid (show wayF h W S (n + 1) k m = false by rw [HWU.out, HLX.out, HSBF.out]; rfl)
        obtain ⟨c9, st, w8, e1, e2, e3, e4, e5⟩ := entry_law klaw70 Tryd.underlying68 Tryd.underlying3 zero3 Fq.drew.m (by unfold maxLen; omega) hkl
        obtain ⟨w9, e6, hown9, hg9⟩ := e5 (wrap64 (c9 + 1)) (wrap64_wf _)
        have e2 : (Instr.mapEntry 68 (.map (some bm)) (.agg #[.int .i64 k, .int .i64 m])).run Tryd.prog _ = .ok (.tuple #[.int .i64 c9, .int .i64 st]) w8 := e2
        have e6 : (Instr.entryStore 68 (.map (some bm)) (.int .i64 st) (.int .i64 (wrap64 (c9 + 1)))).run Tryd.prog w8 = .ok () w9 := e6
        have d3 := Fq.d
        have d8 : w8.cell? ⟨cd, 0, none⟩ = some (.map (some bm)) := (e4 _ Fq.am.2.2.2.1).trans d3
        have F9 := Fq.drew.turned hg9 hown9
        have hb9 := (hbw.drew).grown hg9 (Nat.le_trans Fq.bB (Nat.le_of_lt Fq.m.lt)) (fun b hb => by cases hb; exact Fq.bB)
        clear e4 e5 hown9 hg9
        go_region
        go_wp2_with fail
        go_ret
        exact FromG.mk_no HWN.out hb9 (hD.put Fq.m.isMap hkl (by rw [show h * W - k = n + 1 from by omega]; exact HWN.out) _) (by omega) F9
  · have HSBF := Lib.hid (show standB h S i j = false by simp [standB, s1])
    have s1i : decide ((i : Int) + 1 < (h : Int)) = false := decide_eq_false (by omega)
    clear hstandS
    clear hN hi hj hz hwu hfu hhere hlieS hkW
    go_enter Tryd.func39, Tryd.ntmps39
    go_wp2_with fail
    go_quiet (fail)
    have Fq := F.drewN nq
    go_wp2_with (first
      | (at_lookup; refine wpList_lookup_own_int _ rfl _ _ 68 rfl 70 3 .i64 law70 Tryd.underlying68 Tryd.underlying3 (zero3 _) bm _ _ rfl (F.drewN _).m _ _ rfl hkl ?_; intro c6 hat6 hwc6)
      | fail)
    · have hw9 := hdead c6 hat6 (by assumption)
      go_ret
      exact FromG.mk_no hw9 (below_drewN (Below.refl _ _) _) hD (Nat.le_add_right _ _) (F.drewN _)
    · have hbw : Below B w (w.drewN nq) := below_drewN (Below.refl _ _) _
      clear c1 c2 c3 c4 r1 g1
      generalize w.drewN nq = wq at Fq hbw ⊢
      have HWN := Lib.hid (show wayF h W S (n + 1) k m = false by rw [HWU.out, HLX.out, HSBF.out]; rfl)
      obtain ⟨c9, st, w8, e1, e2, e3, e4, e5⟩ := entry_law klaw70 Tryd.underlying68 Tryd.underlying3 zero3 Fq.drew.m (by unfold maxLen; omega) hkl
      obtain ⟨w9, e6, hown9, hg9⟩ := e5 (wrap64 (c9 + 1)) (wrap64_wf _)
      have e2 : (Instr.mapEntry 68 (.map (some bm)) (.agg #[.int .i64 k, .int .i64 m])).run Tryd.prog _ = .ok (.tuple #[.int .i64 c9, .int .i64 st]) w8 := e2
      have e6 : (Instr.entryStore 68 (.map (some bm)) (.int .i64 st) (.int .i64 (wrap64 (c9 + 1)))).run Tryd.prog w8 = .ok () w9 := e6
      have d3 := Fq.d
      have d8 : w8.cell? ⟨cd, 0, none⟩ = some (.map (some bm)) := (e4 _ Fq.am.2.2.2.1).trans d3
      have F9 := Fq.drew.turned hg9 hown9
      have hb9 := (hbw.drew).grown hg9 (Nat.le_trans Fq.bB (Nat.le_of_lt Fq.m.lt)) (fun b hb => by cases hb; exact Fq.bB)
      clear e4 e5 hown9 hg9
      go_region
      go_wp2_with fail
      go_ret
      exact FromG.mk_no HWN.out hb9 (hD.put Fq.m.isMap hkl (by rw [show h * W - k = n + 1 from by omega]; exact HWN.out) _) (by omega) F9

set_option maxRecDepth 100000 in
set_option maxHeartbeats 16000000 in
theorem from_hash3 (B top cap h W cl cw cd cf bm : Nat) (rb rc : Nat → Nat) (S : Nat → Nat → UInt8) (w0 : 0 < W) (w8 : W ≤ 8) (h8 : h ≤ 8) (n : Nat) (ih : FromIh B top cap rb rc h W S cl cw cd cf bm n)
    (k m c : Nat) (G : Nat → Nat → UInt8) (D : DataW Unit) (w : World) (hk : k + (n + 1) = h * W) (I : InvF h W S k m G) (hD : DeadOk h W S D) (hc : c + budget W (n + 1) m ≤ 9000000000000) (F : FW w B top cap rb rc h W G cl cw cd cf bm c D) (ho : m % 2 = 0) (hs : S (k / W) (k % W) = 35) (hl1 : k % W + 1 < W) (hl2 : m / 2 % 2 = 0) (hl3 : S (k / W) (k % W + 1) ≠ 35) :
    Calls Tryd.prog 39 #[.int .i64 k, .int .i64 m, .pointer (some ⟨cw, 0, none⟩), .pointer (some ⟨cl, 0, none⟩), .pointer (some ⟨cd, 0, none⟩), .pointer (some ⟨cf, 0, none⟩)] w (FromG B top cap rb rc h W S cl cw cd cf bm (n + 1) k m c G w) := by
  obtain ⟨kl, hkl⟩ := key70 (k : Int) (m : Int) (WalkArith.wf_i64 (by have := Nat.mul_le_mul h8 w8; omega)) (WalkArith.wf_i64 (by have := Nat.lt_of_lt_of_le I.lt (two_pow8 w8); omega))
  obtain ⟨N, hN⟩ : ∃ N, h * W = N := ⟨_, rfl⟩
  have hN64 : N ≤ 64 := by rw [← hN]; exact Nat.mul_le_mul h8 w8
  have hmul : (W : Int) * (h : Int) = (N : Int) := by rw [← hN, Int.natCast_mul]; exact Int.mul_comm _ _
  have hkN : k < N := by omega
  have hkW : k < h * W := by omega
  have hkNe : ((k : Int) == (N : Int)) = false := beq_eq_false_iff_ne.2 (by omega)
  have hm256 : m < 256 := Nat.lt_of_lt_of_le I.lt (two_pow8 w8)
  have hhere := I.here hkW
  have hlieS := fun q => I.lie hkW q
  have hstandS := fun q => I.stand w0 q
  have hbud := budget_half (n := n) w0 w8 I.lt
  have hbud2 := fun q => budget_both (n := n) w0 w8 I.lt q
  have hdead := fun c6 q => hD k m kl c6 hkl q
  rw [show h * W - k = n + 1 from by omega] at hdead
  have hwu : wayF h W S (n + 1) k m = if m % 2 = 1 then wayF h W S n (k + 1) (m / 2) else if S (k / W) (k % W) ≠ 35 then wayF h W S n (k + 1) (m / 2) else (lieB W S (k / W) (k % W) m && wayF h W S n (k + 1) (m / 2 ||| 1)) || (standB h S (k / W) (k % W) && wayF h W S n (k + 1) (m / 2 ||| 2 ^ (W - 1))) := rfl
  have hfu : fillF h W S (n + 1) k m G = if m % 2 = 1 then fillF h W S n (k + 1) (m / 2) G else if S (k / W) (k % W) ≠ 35 then fillF h W S n (k + 1) (m / 2) G else if lieB W S (k / W) (k % W) m && wayF h W S n (k + 1) (m / 2 ||| 1) then fillF h W S n (k + 1) (m / 2 ||| 1) (set2 G (k / W) (k % W) 108 (k / W) (k % W + 1) 114) else fillF h W S n (k + 1) (m / 2 ||| 2 ^ (W - 1)) (set2 G (k / W) (k % W) 117 (k / W + 1) (k % W) 100) := rfl
  obtain ⟨i, hi⟩ : ∃ i, k / W = i := ⟨_, rfl⟩
  obtain ⟨j, hj⟩ : ∃ j, k % W = j := ⟨_, rfl⟩
  obtain ⟨z, hz⟩ : ∃ z, m / 2 = z := ⟨_, rfl⟩
  have hdi : (k : Int) / (W : Int) = (i : Int) := by rw [← hi]; exact (Int.natCast_ediv k W).symm
  have hdj : (k : Int) % (W : Int) = (j : Int) := by rw [← hj]; exact (Int.natCast_emod k W).symm
  have hdz : (m : Int) / 2 = (z : Int) := by omega
  have hz128 : z < 128 := by omega
  have hih : i < h := by rw [← hi]; exact code_row hkW
  have hjW : j < W := by rw [← hj]; exact Nat.mod_lt _ w0
  have hW0 : ((W : Int) == 0) = false := beq_eq_false_iff_ne.2 (by omega)
  rw [hi, hj] at hhere hlieS hstandS
  rw [hz] at hlieS hstandS hbud hbud2
  rw [hi, hj, hz] at hwu hfu
  have hand : bits BinOp.and IntKind.i64 (m : Int) 1 = 0 := by rw [and_one_i64 m (by omega), ho]; rfl
  rw [hi, hj] at hs
  have HGS := Lib.hid (show G i j = 35 by rw [hhere.2 ho, hs])
  rw [if_neg (by omega), if_neg (by rw [hs]; decide)] at hwu hfu
  obtain ⟨T, hT⟩ : ∃ T, 2 ^ (W - 1) = T := ⟨_, rfl⟩
  have hT128 : T ≤ 128 := by rw [← hT]; have : 2 ^ (W - 1) ≤ 2 ^ 7 := Nat.pow_le_pow_right (by decide) (by omega); simpa using this
  have hWi : ((W : Int) - 1).toNat = W - 1 := by omega
  have hWi2 : (0 : Int) ≤ (W : Int) - 1 := by omega
  have hTi : (2 : Int) ^ (W - 1) = (T : Int) := by rw [← hT]; simp
  have hors : bits BinOp.or IntKind.i64 (z : Int) (T : Int) = ((z ||| T : Nat) : Int) := or_i64 z T (by omega) (by omega)
  have horl : bits BinOp.or IntKind.i64 (z : Int) 1 = ((z ||| 1 : Nat) : Int) := or_i64 z 1 (by omega) (by omega)
  have hbT := hbud2 ho
  have hright := fun q1 q2 => I.right hkW q1 q2
  have hdown := fun q => I.down w0 q
  rw [hi, hj] at hright hdown
  rw [hz] at hright
  have HDN := Lib.hid hdown
  have HRT := Lib.hid hright
  clear hdown hright
  rw [hT] at hwu hfu hstandS hbT
  clear hs hbud2
  rw [hj] at hl1
  rw [hi, hj] at hl3
  rw [hz] at hl2
  have HLF := Lib.hid (show lieB W S i j m = false by simp [lieB, hl3])
  have q1 : (j : Int) + 1 < (W : Int) := by omega
  have hand2 : bits BinOp.and IntKind.i64 (m : Int) 2 = 0 := by rw [and_two_i64 m hm256, hz, hl2]; rfl
  have hr35 : (((G i (j + 1)).toNat : Int) == 35) = false := u8_ne (n := 35) (by rw [HRT.out hl1 hl2]; exact hl3)
  have g2 := F.g.cell i (j + 1) hih hl1
  have hbT1 := hbT.1
  have hbT2 := hbT.2
  clear hbT
  have HLX := Lib.hid (show (lieB W S i j m && wayF h W S n (k + 1) (z ||| 1)) = false by rw [HLF.out]; rfl)
  have c1 := F.l
  have c2 := F.w_
  have c3 := F.d
  have c4 := F.f
  have r1 := F.g.row i hih
  have g1 : w.cell? ⟨rb i, j, none⟩ = some (.int .u8 35) := by rw [F.g.cell i j hih hjW, HGS.out]; rfl
  have HN := Lib.hid hN
  have HI := Lib.hid hi
  have HJ := Lib.hid hj
  have HZ := Lib.hid hz
  have HWU := Lib.hid hwu
  have HFU := Lib.hid hfu
  by_cases s1 : i + 1 < h
  · have s1i : (i : Int) + 1 < (h : Int) := by omega
    have r2 := F.g.row (i + 1) s1
    by_cases s2 : S (i + 1) j = 35
    · have HS2 := Lib.hid s2
      have hsb : standB h S i j = true := by simp only [standB, Bool.and_eq_true, decide_eq_true_eq]; exact ⟨s1, s2⟩
      have HST := Lib.hid (hstandS hsb)
      have HSB := Lib.hid hsb
      have g3 : w.cell? ⟨rb (i + 1), j, none⟩ = some (.int .u8 35) := by rw [F.g.cell (i + 1) j s1 hjW, HDN.out s1, s2]; rfl
      clear s2 hsb hstandS
      clear hN hi hj hz hwu hfu hhere hlieS hkW
      go_enter Tryd.func39, Tryd.ntmps39
      go_wp2_with fail
      go_quiet (fail)
      have Fq := F.drewN nq
      go_wp2_with (first
        | (at_lookup; refine wpList_lookup_own_int _ rfl _ _ 68 rfl 70 3 .i64 law70 Tryd.underlying68 Tryd.underlying3 (zero3 _) bm _ _ rfl (F.drewN _).m _ _ rfl hkl ?_; intro c6 hat6 hwc6)
        | fail)
      · have hw9 := hdead c6 hat6 (by assumption)
        go_ret
        exact FromG.mk_no hw9 (below_drewN (Below.refl _ _) _) hD (Nat.le_add_right _ _) (F.drewN _)
      · have hbw : Below B w (w.drewN nq) := below_drewN (Below.refl _ _) _
        clear c1 c2 c3 c4 r1 g1 r2 g3 g2
        generalize w.drewN nq = wq at Fq hbw ⊢
        have c1 := Fq.l
        have r1 := Fq.g.row i hih
        have r2 := Fq.g.row (i + 1) s1
        have g1 : wq.cell? ⟨rb i, j, none⟩ = some (.int .u8 35) := by rw [Fq.g.cell i j hih hjW, HGS.out]; rfl
        have g3 : wq.cell? ⟨rb (i + 1), j, none⟩ = some (.int .u8 35) := by rw [Fq.g.cell (i + 1) j s1 hjW, HST.out.2]; rfl
        have n1 : rb i ≠ rb (i + 1) := fun e => by have := Fq.g.inj i (i + 1) hih s1 e; omega
        have n2 : rb (i + 1) ≠ rb i := fun e => n1 e.symm
        have n3 : rb i ≠ top := Fq.g.apart i hih
        have n4 : rb (i + 1) ≠ top := Fq.g.apart (i + 1) s1
        have n5 : top ≠ rb i := fun e => n3 e.symm
        have n6 : top ≠ rb (i + 1) := fun e => n4 e.symm
        have n7 : cl ≠ rb i := fun e => (Fq.ap i hih).1 e.symm
        have n8 : cl ≠ rb (i + 1) := fun e => (Fq.ap (i + 1) s1).1 e.symm
        have i1 : (i : Int) < (h : Int) := by omega
        have i3 : (j : Int) < (W : Int) := by omega
        have f1 := Fq.g.frz i j hih hjW
        have f3 := Fq.g.frz (i + 1) j s1 hjW
        have F13 : FW ((wq.setCell ⟨rb i, j, none⟩ (.int .u8 117)).setCell ⟨rb (i + 1), j, none⟩ (.int .u8 100)).drew B top cap rb rc h W (set2 G i j 117 (i + 1) j 100) cl cw cd cf bm c D := ((Fq.set hih hjW 117).set s1 hjW 100).drew
        have hb13 : Below B w ((wq.setCell ⟨rb i, j, none⟩ (.int .u8 117)).setCell ⟨rb (i + 1), j, none⟩ (.int .u8 100)).drew := ((hbw.setCell (p := ⟨rb i, j, none⟩) (Fq.g.rbB i hih) _).setCell (p := ⟨rb (i + 1), j, none⟩) (Fq.g.rbB (i + 1) s1) _).drew
        go_region
        generalize ((wq.setCell ⟨rb i, j, none⟩ (.int .u8 117)).setCell ⟨rb (i + 1), j, none⟩ (.int .u8 100)).drew = w13 at F13 hb13 ⊢
        clear c1 r1 r2 g1 g3 f1 f3
        clear n1 n2 n3 n4 n5 n6 n7 n8 i1 i3
        have c2 := F13.w_
        have c4 := F13.f
        have hk1w : IntKind.i64.wrap ((k : Int) + 1) = (k : Int) + 1 := IntWalk.i64_in _ (by omega)
        have hsh : ∀ u : World, (Op.shift BinOp.shl IntKind.i64 1 IntKind.i64 (IntKind.i64.wrap ((W : Int) - 1))).run Tryd.prog u = .ok (.int .i64 T) u := fun u => by
          rw [IntWalk.i64_in ((W : Int) - 1) (by omega), shift_shl .i64 .i64 1 ((W : Int) - 1) (by omega) (by show (W : Int) - 1 ≤ 64; omega), hWi, hTi, Int.one_mul, IntWalk.i64_in (T : Int) (by omega)]
          rfl
        have F14 := F13.drew
        have hb14 := hb13.drew
        go_wp2_with fail
        go_still_tail 9, (by kernel_rfl)
        change wpList _ _ _ _ _ w13.drew
        generalize w13.drew = w14 at F14 hb14 ⊢
        clear c2 c4 hk1w hsh F13 hb13
        go_wp2_with fail
        refine (ih.at k (z ||| T) c (set2 G i j 117 (i + 1) j 100) D w14 (by omega) HST.out.1 hD (by omega) F14).mono ?_
        intro e w15 hfg
        cases hx2 : wayF h W S n (k + 1) (z ||| T)
        · obtain ⟨rfl, hb15, D15, hD15, F15⟩ := hfg.no hx2
          have HWN := Lib.hid (show wayF h W S (n + 1) k m = false by rw [HWU.out, HLX.out, HSB.out, hx2]; rfl)
          have hbs := hb14.trans hb15
          have c1 := F15.l
          have r1 := F15.g.row i hih
          have r2 := F15.g.row (i + 1) s1
          obtain ⟨v1, g1⟩ : ∃ v, w15.cell? ⟨rb i, j, none⟩ = some v := ⟨_, F15.g.cell i j hih hjW⟩
          obtain ⟨v3, g3⟩ : ∃ v, w15.cell? ⟨rb (i + 1), j, none⟩ = some v := ⟨_, F15.g.cell (i + 1) j s1 hjW⟩
          have n1 : rb i ≠ rb (i + 1) := fun e => by have := F15.g.inj i (i + 1) hih s1 e; omega
          have n2 : rb (i + 1) ≠ rb i := fun e => n1 e.symm
          have n3 : rb i ≠ top := F15.g.apart i hih
          have n4 : rb (i + 1) ≠ top := F15.g.apart (i + 1) s1
          have n5 : top ≠ rb i := fun e => n3 e.symm
          have n6 : top ≠ rb (i + 1) := fun e => n4 e.symm
          have n7 : cl ≠ rb i := fun e => (F15.ap i hih).1 e.symm
          have n8 : cl ≠ rb (i + 1) := fun e => (F15.ap (i + 1) s1).1 e.symm
          have i1 : (i : Int) < (h : Int) := by omega
          have i3 : (j : Int) < (W : Int) := by omega
          have f1 := F15.g.frz i j hih hjW
          have f3 := F15.g.frz (i + 1) j s1 hjW
          go_wp2_with fail
          have F16 : FW ((w15.setCell ⟨rb i, j, none⟩ (.int .u8 35)).setCell ⟨rb (i + 1), j, none⟩ (.int .u8 35)).drew B top cap rb rc h W G cl cw cd cf bm (c + budget W n (z ||| T)) D15 := ((F15.set hih hjW 35).set s1 hjW 35).drew.congr (set2_back G i j 117 (i + 1) j 100 HGS.out HST.out.2)
          have hb16 : Below B w ((w15.setCell ⟨rb i, j, none⟩ (.int .u8 35)).setCell ⟨rb (i + 1), j, none⟩ (.int .u8 35)).drew := ((hbs.setCell (p := ⟨rb i, j, none⟩) (F15.g.rbB i hih) _).setCell (p := ⟨rb (i + 1), j, none⟩) (F15.g.rbB (i + 1) s1) _).drew
          go_region
          generalize ((w15.setCell ⟨rb i, j, none⟩ (.int .u8 35)).setCell ⟨rb (i + 1), j, none⟩ (.int .u8 35)).drew = w16 at F16 hb16 ⊢
          clear c1 r1 r2 g1 g3 f1 f3
          clear n1 n2 n3 n4 n5 n6 n7 n8 i1 i3
          go_wp2_with fail
          obtain ⟨c9, st, w8, e1, e2, e3, e4, e5⟩ := entry_law klaw70 Tryd.underlying68 Tryd.underlying3 zero3 F16.drew.m (by unfold maxLen; omega) hkl
          obtain ⟨w9, e6, hown9, hg9⟩ := e5 (wrap64 (c9 + 1)) (wrap64_wf _)
          have e2 : (Instr.mapEntry 68 (.map (some bm)) (.agg #[.int .i64 k, .int .i64 m])).run Tryd.prog _ = .ok (.tuple #[.int .i64 c9, .int .i64 st]) w8 := e2
          have e6 : (Instr.entryStore 68 (.map (some bm)) (.int .i64 st) (.int .i64 (wrap64 (c9 + 1)))).run Tryd.prog w8 = .ok () w9 := e6
          have d3 := F16.d
          have d8 : w8.cell? ⟨cd, 0, none⟩ = some (.map (some bm)) := (e4 _ F16.am.2.2.2.1).trans d3
          have F9 := F16.drew.turned hg9 hown9
          have hb9 := (hb16.drew).grown hg9 (Nat.le_trans F16.bB (Nat.le_of_lt F16.m.lt)) (fun b hb => by cases hb; exact F16.bB)
          clear e4 e5 hown9 hg9
          go_region
          go_wp2_with fail
          go_ret
          exact FromG.mk_no HWN.out hb9 (hD15.put F16.m.isMap hkl (by rw [show h * W - k = n + 1 from by omega]; exact HWN.out) _) (by omega) F9
        · obtain ⟨rfl, hb15, D15, hD15, F15⟩ := hfg.yes hx2
          have hw9 : wayF h W S (n + 1) k m = true := by rw [HWU.out, HLX.out, HSB.out, hx2]; rfl
          have hf9 : fillF h W S (n + 1) k m G = fillF h W S n (k + 1) (z ||| T) (set2 G i j 117 (i + 1) j 100) := by rw [HFU.out, HLX.out, if_neg (by decide)]
          go_wp2_with fail
          go_ret
          exact FromG.mk_yes hw9 (hb14.trans hb15) hD15 hf9 (by omega) F15
    · have HSBF := Lib.hid (show standB h S i j = false by simp [standB, s2])
      have g3 := F.g.cell (i + 1) j s1 hjW
      have f35 : (((G (i + 1) j).toNat : Int) == 35) = false := u8_ne (n := 35) (by rw [HDN.out s1]; exact s2)
      clear s2 hstandS
      clear hN hi hj hz hwu hfu hhere hlieS hkW
      go_enter Tryd.func39, Tryd.ntmps39
      go_wp2_with fail
      go_quiet (fail)
      have Fq := F.drewN nq
      go_wp2_with (first
        | (at_lookup; refine wpList_lookup_own_int _ rfl _ _ 68 rfl 70 3 .i64 law70 Tryd.underlying68 Tryd.underlying3 (zero3 _) bm _ _ rfl (F.drewN _).m _ _ rfl hkl ?_; intro c6 hat6 hwc6)
        | fail)
      · have hw9 := hdead c6 hat6 (by assumption)
        go_ret
        exact FromG.mk_no hw9 (below_drewN (Below.refl _ _) _) hD (Nat.le_add_right _ _) (F.drewN _)
      · have hbw : Below B w (w.drewN nq) := below_drewN (Below.refl _ _) _
        clear c1 c2 c3 c4 r1 g1 r2 g3 g2
        generalize w.drewN nq = wq at Fq hbw ⊢
        have HWN := Lib.hid (show wayF h W S (n + 1) k m = false by rw [HWU.out, HLX.out, HSBF.out]; rfl)
        obtain ⟨c9, st, w8, e1, e2, e3, e4, e5⟩ := entry_law klaw70 Tryd.underlying68 Tryd.underlying3 zero3 Fq.drew.m (by unfold maxLen; omega) hkl
        obtain ⟨w9, e6, hown9, hg9⟩ := e5 (wrap64 (c9 + 1)) (wrap64_wf _)
        have e2 : (Instr.mapEntry 68 (.map (some bm)) (.agg #[.int .i64 k, .int .i64 m])).run Tryd.prog _ = .ok (.tuple #[.int .i64 c9, .int .i64 st]) w8 := e2
        have e6 : (Instr.entryStore 68 (.map (some bm)) (.int .i64 st) (.int .i64 (wrap64 (c9 + 1)))).run Tryd.prog w8 = .ok () w9 := e6
        have d3 := Fq.d
        have d8 : w8.cell? ⟨cd, 0, none⟩ = some (.map (some bm)) := (e4 _ Fq.am.2.2.2.1).trans d3
        have F9 := Fq.drew.turned hg9 hown9
        have hb9 := (hbw.drew).grown hg9 (Nat.le_trans Fq.bB (Nat.le_of_lt Fq.m.lt)) (fun b hb => by cases hb; exact Fq.bB)
        clear e4 e5 hown9 hg9
        go_region
        go_wp2_with fail
        go_ret
        exact FromG.mk_no HWN.out hb9 (hD.put Fq.m.isMap hkl (by rw [show h * W - k = n + 1 from by omega]; exact HWN.out) _) (by omega) F9
  · have HSBF := Lib.hid (show standB h S i j = false by simp [standB, s1])
    have s1i : decide ((i : Int) + 1 < (h : Int)) = false := decide_eq_false (by omega)
    clear hstandS
    clear hN hi hj hz hwu hfu hhere hlieS hkW
    go_enter Tryd.func39, Tryd.ntmps39
    go_wp2_with fail
    go_quiet (fail)
    have Fq := F.drewN nq
    go_wp2_with (first
      | (at_lookup; refine wpList_lookup_own_int _ rfl _ _ 68 rfl 70 3 .i64 law70 Tryd.underlying68 Tryd.underlying3 (zero3 _) bm _ _ rfl (F.drewN _).m _ _ rfl hkl ?_; intro c6 hat6 hwc6)
      | fail)
    · have hw9 := hdead c6 hat6 (by assumption)
      go_ret
      exact FromG.mk_no hw9 (below_drewN (Below.refl _ _) _) hD (Nat.le_add_right _ _) (F.drewN _)
    · have hbw : Below B w (w.drewN nq) := below_drewN (Below.refl _ _) _
      clear c1 c2 c3 c4 r1 g1 g2
      generalize w.drewN nq = wq at Fq hbw ⊢
      have HWN := Lib.hid (show wayF h W S (n + 1) k m = false by rw [HWU.out, HLX.out, HSBF.out]; rfl)
      obtain ⟨c9, st, w8, e1, e2, e3, e4, e5⟩ := entry_law klaw70 Tryd.underlying68 Tryd.underlying3 zero3 Fq.drew.m (by unfold maxLen; omega) hkl
      obtain ⟨w9, e6, hown9, hg9⟩ := e5 (wrap64 (c9 + 1)) (wrap64_wf _)
      have e2 : (Instr.mapEntry 68 (.map (some bm)) (.agg #[.int .i64 k, .int .i64 m])).run Tryd.prog _ = .ok (.tuple #[.int .i64 c9, .int .i64 st]) w8 := e2
      have e6 : (Instr.entryStore 68 (.map (some bm)) (.int .i64 st) (.int .i64 (wrap64 (c9 + 1)))).run Tryd.prog w8 = .ok () w9 := e6
      have d3 := Fq.d
      have d8 : w8.cell? ⟨cd, 0, none⟩ = some (.map (some bm)) := (e4 _ Fq.am.2.2.2.1).trans d3
      have F9 := Fq.drew.turned hg9 hown9
      have hb9 := (hbw.drew).grown hg9 (Nat.le_trans Fq.bB (Nat.le_of_lt Fq.m.lt)) (fun b hb => by cases hb; exact Fq.bB)
      clear e4 e5 hown9 hg9
      go_region
      go_wp2_with fail
      go_ret
      exact FromG.mk_no HWN.out hb9 (hD.put Fq.m.isMap hkl (by rw [show h * W - k = n + 1 from by omega]; exact HWN.out) _) (by omega) F9
end Go.Proofs.YtahihapgbcoanaaDoor
