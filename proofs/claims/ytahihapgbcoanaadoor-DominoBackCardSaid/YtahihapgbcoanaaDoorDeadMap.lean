/- The map of domino.First's dead ends; the memory that its closure works on. -/
import Derived.Test.YtahihapgbcoanaaDoorCountMap
import Derived.DeepKeys4
import Derived.WideKeyEntry
import Derived.Test.YtahihapgbcoanaaDoorTurnsLaw
namespace Go.Proofs.YtahihapgbcoanaaDoor
open Go.RowKit Go.Maps

open Go.ChangeMaps (setBlock heap_setBlock_same)
open Go.WideElems (Fit)

theorem ok_inj {α : Type} {a b : α} {u v : World} (h : (Result.ok a u : Result α) = .ok b v) : a = b ∧ u = v := by
  cases h
  exact ⟨rfl, rfl⟩
theorem tuple_fst {a b u v : Value} (h : Value.tuple #[a, u] = .tuple #[b, v]) : a = b := by
  injection h with h
  have h2 : [a, u] = [b, v] := by injection h
  injection h2
theorem tuple_int {q : IntKind} {a b : Int} {u v : Value} (h : Value.tuple #[.int q a, u] = .tuple #[.int q b, v]) : a = b := by
  injection h with h
  have h2 : [Value.int q a, u] = [.int q b, v] := by injection h
  injection h2 with h2 _
  injection h2
set_option maxRecDepth 100000 in
theorem entry_law {H : Type} {P : Program} {t k e : TypeId} {q : IntKind} {b n : Nat} {D : DataW H} {w : World} (K : Go.WideMaps.KeyLaw P k) (ht : P.underlying t = some (.map k e)) (he : P.underlying e = some (.int q))
    (hz : ∀ u : World, (zeroValue e).run P u = .ok (.int q 0) u) (hown : w.ownsMap P k (plainElem P e) b n D) (hn : n < maxLen) {key : Value} {kl : Lit} (hkey : keyOf P k key = some kl) :
    ∃ (c : Int) (st : Nat) (w1 : World), (Instr.lookup t (.map (some b)) key false).run P w = .ok (.int q c) w ∧ (Instr.mapEntry t (.map (some b)) key).run P w = .ok (.tuple #[.int q c, goInt st]) w1 ∧
      (Instr.lookup t (.map (some b)) key false).run P w1 = .ok (.int q c) w1 ∧ (∀ a : Addr, a.block ≠ b → w1.cell? a = w.cell? a) ∧
      ∀ x : Int, (Lit.int q x).wf = true → ∃ w3, (Instr.entryStore t (.map (some b)) (goInt st) (.int q x)).run P w1 = .ok () w3 ∧ w3.ownsMap P k (plainElem P e) b (n + 1) (D.put kl (.lit (.int q x))) ∧ w.grownBy w3 (some b) := by
  have K2 := Keyed.of_law K
  have hown0 := hown
  obtain ⟨es, clock, hb, F, hs, hDe⟩ := hown
  obtain ⟨v0, st, es1, clock1, hme, hv, hst⟩ := Go.WideElems.entry_then_store K ht hz hb F hkey
  obtain ⟨c, hlook, hat, hwc⟩ := hown0.lookup_int K2 ht he (hz w) hkey
  have hpw := ((MapKept.stamped_iff es clock).1 F.stamped).2.2
  have hb1 : (setBlock w b (.map es1 clock1)).heap[b]? = some (.map es1 clock1) := heap_setBlock_same hb _
  have hv0 : v0 = .int q c := by
    rcases Maps.fit_look false K2 ht (hz w) hb F hkey with ⟨hrun, hno, _⟩ | ⟨e1, y, hm1, hk1, hrun, _⟩
    · rw [hlook] at hrun
      have hrun := (ok_inj hrun).1
      rcases hv with ⟨e0, hm0, hk0, _⟩ | ⟨_, hz0⟩
      · exact absurd hk0 (hno e0 hm0)
      · rw [hz0]; exact hrun.symm
    · rw [hlook] at hrun
      have hrun := (ok_inj hrun).1
      rcases hv with ⟨e0, hm0, hk0, hv0⟩ | ⟨hno, _⟩
      · rw [hv0, entry_eq_of_key hpw hm0 hm1 (hk0.trans hk1.symm)]; exact hrun.symm
      · exact absurd hk1 (hno e1 hm1)
  subst hv0
  refine ⟨c, st, setBlock w b (.map es1 clock1), hlook, hme, ?_, fun a ha => World.cell?_of_block (Go.ChangeMaps.heap_setBlock_other hb _ ha), fun x hx => ?_⟩
  · have hz1 := hz (setBlock w b (.map es1 clock1))
    rcases K.find w hkey es.toList F.keys with ⟨h1, h2⟩ | ⟨j, e0, h1, h2, h3⟩
    · have hme2 : (Instr.mapEntry t (.map (some b)) key).run P w = .ok (.tuple #[.int q 0, goInt clock]) (setBlock w b (.map (es.push ⟨key, .int q 0, clock⟩) (clock + 1))) := by
        simp [Instr.mapEntry, run_underlying ht, MapKept.run_getObj_map hb, K.check w false hkey, h1, hz, MapKept.run_setObj_map _ hb, Result.andThen, setBlock]
      rw [hme2] at hme
      obtain ⟨hme1, hme2⟩ := ok_inj hme
      have hc0 : c = 0 := by
        exact (tuple_int hme1).symm
      have hb2 : (setBlock w b (.map (es.push ⟨key, .int q 0, clock⟩) (clock + 1))).heap[b]? = some (.map (es.push ⟨key, .int q 0, clock⟩) (clock + 1)) := heap_setBlock_same hb _
      rw [hme2, hb1] at hb2
      have hes : es1 = es.push ⟨key, .int q 0, clock⟩ := by
        have := Option.some.inj hb2
        injection this
      have hkeys : ∀ x ∈ es1.toList, ∃ l, keyOf P k x.key = some l := by
        intro x hx
        rw [hes] at hx
        simp only [Array.toList_push, List.mem_append, List.mem_singleton] at hx
        rcases hx with hx | rfl
        · exact F.keys x hx
        · exact ⟨kl, hkey⟩
      rcases K.find (setBlock w b (.map es1 clock1)) hkey es1.toList hkeys with ⟨g1, g2⟩ | ⟨j, e1, g1, g2, g3⟩
      · exact absurd rfl (g2 ⟨key, .int q 0, clock⟩ (by rw [hes]; simp))
      · have hm1 := List.mem_of_getElem? g2
        rw [hes] at hm1
        simp only [Array.toList_push, List.mem_append, List.mem_singleton] at hm1
        rcases hm1 with hm1 | hm1
        · exact absurd g3 (h2 e1 hm1)
        · simp [Instr.lookup, run_underlying ht, MapKept.run_getObj_map hb1, K.check (setBlock w b (.map es1 clock1)) _ hkey, g1, Result.andThen, hm1, hc0]
    · have hj : es[j]? = some e0 := by simpa using h2
      have hsame : es.modify j (fun e => { e with key := key }) = es := by
        apply Array.ext'
        rw [Array.toList_modify]
        apply List.ext_getElem?
        intro i
        rw [List.getElem?_modify]
        by_cases hij : j = i
        · subst hij
          rw [h2]
          simp [← h3]
        · simp [hij]
      have hme2 : (Instr.mapEntry t (.map (some b)) key).run P w = .ok (.tuple #[e0.val, goInt e0.born]) (setBlock w b (.map es clock)) := by
        simp [Instr.mapEntry, run_underlying ht, MapKept.run_getObj_map hb, K.check w false hkey, h1, hj, h3, K.stays w hkey, hsame, MapKept.run_setObj_map _ hb, Result.andThen, setBlock]
      rw [hme2] at hme
      obtain ⟨hme1, hme2⟩ := ok_inj hme
      have hv : e0.val = .int q c := tuple_fst hme1
      have hb2 : (setBlock w b (.map es clock)).heap[b]? = some (.map es clock) := heap_setBlock_same hb _
      rw [hme2, hb1] at hb2
      have hes : es1 = es := by
        have := Option.some.inj hb2
        injection this
      rcases K.find (setBlock w b (.map es1 clock1)) hkey es1.toList (by rw [hes]; exact F.keys) with ⟨g1, g2⟩ | ⟨j2, e1, g1, g2, g3⟩
      · exact absurd h3 (g2 e0 (by rw [hes]; exact List.mem_of_getElem? h2))
      · have hm1 := List.mem_of_getElem? g2
        rw [hes] at hm1
        have e10 : e1 = e0 := entry_eq_of_key hpw hm1 (List.mem_of_getElem? h2) (g3.trans h3.symm)
        simp [Instr.lookup, run_underlying ht, MapKept.run_getObj_map hb1, K.check (setBlock w b (.map es1 clock1)) _ hkey, g1, Result.andThen, e10, hv]
  · obtain ⟨es', clock', r1, r2⟩ := hst (setBlock w b (.map es1 clock1)) (.int q x) hb1
    obtain ⟨w', u1, u2, u3⟩ := hown0.update K2 ht hn hkey (plainElem_int he hx)
    rw [r2] at u1
    have u1 := (ok_inj u1).2
    have hw : setBlock (setBlock w b (.map es1 clock1)) b (.map es' clock') = w' := by
      rw [← u1]
      simp [setBlock]
    exact ⟨w', by rw [r1, hw], u2, u3⟩

theorem laidOut : laidOutB Tryd.prog = true := by kernel_rfl
theorem row70 : (70 : TypeId) < Tryd.prog.types.size := of_decide_eq_true (by kernel_rfl)
theorem wide70 : (match Tryd.prog.underlying 70 with | some (.array _ _) | some (.struct _) => true | _ => false) = true := by rw [Tryd.underlying70]
set_option maxRecDepth 100000 in
theorem klaw70 : Go.WideMaps.KeyLaw Tryd.prog 70 := deep_law_laid laidOut (m := 2) (by omega) row70 (by kernel_rfl) wide70
theorem law70 : Keyed Tryd.prog 70 := Keyed.of_law klaw70
theorem zero3 (w : World) : (zeroValue 3).run Tryd.prog w = .ok (.int .i64 0) w := by kernel_rfl
theorem keyType70 : Tryd.prog.keyType 70 = true := by kernel_rfl
theorem cells70 : Tryd.prog.cellsOf 70 = 2 := by kernel_rfl
theorem formed70 (a b : Value) : (Value.agg #[a, b]).formed Tryd.prog 70 = true := by simp [Value.formed, Tryd.underlying70, cells70]
theorem types_size : Tryd.prog.types.size + 1 = (Tryd.prog.types.size - 1) + 1 + 1 := by
  have h : 0 < Tryd.prog.types.size := Nat.lt_of_le_of_lt (Nat.zero_le 70) row70
  omega
theorem cells3 : Tryd.prog.cellsOf 3 = 1 := by kernel_rfl
theorem keyLits3 (d : Nat) (k : Int) (hk : (Lit.int .i64 k).wf = true) : Tryd.prog.keyLits (d + 1) 3 [.int .i64 k] = some [.int .i64 k] := by
  unfold Program.keyLits
  rw [Tryd.underlying3]
  simp [hk]
theorem keyLits70 (d : Nat) (k m : Int) (hk : (Lit.int .i64 k).wf = true) (hm : (Lit.int .i64 m).wf = true) : Tryd.prog.keyLits (d + 1 + 1) 70 [.int .i64 k, .int .i64 m] = some [.int .i64 k, .int .i64 m] := by
  have h1 := keyLits3 d k hk
  have h2 := keyLits3 d m hm
  rw [Program.keyLits.eq_def]
  simp only [Tryd.underlying70, cells70, cells3, List.length_cons, List.length_nil]
  rw [if_pos trivial]
  have hr : List.range 2 = [0, 1] := rfl
  rw [hr]
  simp [h1, h2]
theorem key70 (k m : Int) (hk : (Lit.int .i64 k).wf = true) (hm : (Lit.int .i64 m).wf = true) : ∃ l, keyOf Tryd.prog 70 (.agg #[.int .i64 k, .int .i64 m]) = some l := by
  unfold keyOf
  rw [Tryd.underlying70]
  obtain ⟨d, hd⟩ : ∃ d, Tryd.prog.types.size + 1 = d + 1 + 1 := ⟨_, types_size⟩
  have h := keyLits70 d k m hk hm
  have e : (Value.agg #[Value.int .i64 k, .int .i64 m]).cells.toList = [.int .i64 k, .int .i64 m] := rfl
  simp only [keyType70, formed70, Bool.and_self, if_true]
  rw [e, hd, h]
  exact ⟨_, rfl⟩

/-- What stands in the map of dead ends leads nowhere. -/
def DeadOk (h W : Nat) (S : Nat → Nat → UInt8) (D : DataW Unit) : Prop :=
  ∀ (k m : Nat) (l : Lit) (c : Int), keyOf Tryd.prog 70 (.agg #[.int .i64 k, .int .i64 m]) = some l → D.atKey l (.lit (.int .i64 0)) = .lit (.int .i64 c) → 0 < c → wayF h W S (h * W - k) k m = false
set_option maxRecDepth 100000 in
theorem deadOk_empty (h W : Nat) (S : Nat → Nat → UInt8) : DeadOk h W S (.map []) := by
  intro k m l c _ hat hc
  have h0 : (DataW.map [] : DataW Unit).atKey l (.lit (.int .i64 0)) = .lit (.int .i64 0) := rfl
  rw [h0] at hat
  injection hat with hat
  injection hat with _ hat
  omega
set_option maxRecDepth 100000 in
theorem DeadOk.put {h W : Nat} {S : Nat → Nat → UInt8} {D : DataW Unit} (hD : DeadOk h W S D) (_hM : IsMap D) {k m : Nat} {l : Lit} (hl : keyOf Tryd.prog 70 (.agg #[.int .i64 k, .int .i64 m]) = some l) (hw : wayF h W S (h * W - k) k m = false) (d : DataW Unit) : DeadOk h W S (D.put l d) := by
  intro k2 m2 l2 c hl2 hat hc
  by_cases e : l2 = l
  · subst e
    have e2 := law70.inj hl hl2
    injection e2 with e2
    have e3 : (Value.int .i64 (k : Int)) = .int .i64 k2 ∧ (Value.int .i64 (m : Int)) = .int .i64 m2 := by simpa using e2
    have e4 : (k : Int) = k2 := by have := e3.1; injection this
    have e5 : (m : Int) = m2 := by have := e3.2; injection this
    obtain rfl : k = k2 := by omega
    obtain rfl : m = m2 := by omega
    exact hw
  · rw [atKey_put_other e] at hat
    exact hD k2 m2 l2 c hl2 hat hc

/-- The closure's memory: the captured variables, the grid, the map. -/
structure FW (w : World) (B top cap : Nat) (rb rc : Nat → Nat) (h W : Nat) (G : Nat → Nat → UInt8) (cl cw cd cf bm c : Nat) (D : DataW Unit) : Prop where
  g : GMem w B top rb rc h W G
  l : w.cell? ⟨cl, 0, none⟩ = some (.slice (some ⟨top, 0, none⟩) h cap)
  w_ : w.cell? ⟨cw, 0, none⟩ = some (.int .i64 W)
  d : w.cell? ⟨cd, 0, none⟩ = some (.map (some bm))
  f : w.cell? ⟨cf, 0, none⟩ = some (.func (.func 39) #[] #[.pointer (some ⟨cw, 0, none⟩), .pointer (some ⟨cl, 0, none⟩), .pointer (some ⟨cd, 0, none⟩), .pointer (some ⟨cf, 0, none⟩)])
  m : w.ownsMap Tryd.prog 70 (plainElem Tryd.prog 3) bm c D
  ap : ∀ i, i < h → rb i ≠ cl ∧ rb i ≠ cw ∧ rb i ≠ cd ∧ rb i ≠ cf ∧ rb i ≠ bm
  am : top ≠ bm ∧ cl ≠ bm ∧ cw ≠ bm ∧ cd ≠ bm ∧ cf ≠ bm
  bB : B ≤ bm
section
variable {w : World} {B top cap h W cl cw cd cf bm c : Nat} {rb rc : Nat → Nat} {G : Nat → Nat → UInt8} {D : DataW Unit}
theorem FW.drewN (F : FW w B top cap rb rc h W G cl cw cd cf bm c D) (n : Nat) : FW (w.drewN n) B top cap rb rc h W G cl cw cd cf bm c D :=
  ⟨F.g.drewN n, F.l, F.w_, F.d, F.f, F.m.kept (row := none) ⟨rfl, rfl, rfl, Nat.le_refl _, fun _ _ _ => rfl⟩ (by simp), F.ap, F.am, F.bB⟩
theorem FW.drew (F : FW w B top cap rb rc h W G cl cw cd cf bm c D) : FW w.drew B top cap rb rc h W G cl cw cd cf bm c D :=
  ⟨F.g.drew, F.l, F.w_, F.d, F.f, F.m.drew, F.ap, F.am, F.bB⟩
theorem FW.set (F : FW w B top cap rb rc h W G cl cw cd cf bm c D) {i j : Nat} (hi : i < h) (hj : j < W) (u : UInt8) :
    FW (w.setCell ⟨rb i, j, none⟩ (.int .u8 u.toNat)) B top cap rb rc h W (fun a b => if a = i ∧ b = j then u else G a b) cl cw cd cf bm c D := by
  obtain ⟨a1, a2, a3, a4, a5⟩ := F.ap i hi
  have ne : ∀ b o, rb i ≠ b → (⟨rb i, j, none⟩ : Addr) ≠ ⟨b, o, none⟩ := fun b o h e => h (congrArg Addr.block e)
  refine ⟨F.g.set hi hj u, ?_, ?_, ?_, ?_, F.m.setCell (fun e => a5 e.symm) _, F.ap, F.am, F.bB⟩
  · rw [World.cell?_setCell_other _ _ _ _ (ne _ _ a1)]; exact F.l
  · rw [World.cell?_setCell_other _ _ _ _ (ne _ _ a2)]; exact F.w_
  · rw [World.cell?_setCell_other _ _ _ _ (ne _ _ a3)]; exact F.d
  · rw [World.cell?_setCell_other _ _ _ _ (ne _ _ a4)]; exact F.f
theorem FW.congr (F : FW w B top cap rb rc h W G cl cw cd cf bm c D) {G' : Nat → Nat → UInt8} (hG : G = G') : FW w B top cap rb rc h W G' cl cw cd cf bm c D := by rw [← hG]; exact F
/-- The map has turned, nothing else. -/
theorem FW.turned (F : FW w B top cap rb rc h W G cl cw cd cf bm c D) {w' : World} {c' : Nat} {D' : DataW Unit} (hg : w.grownBy w' (some bm)) (hm : w'.ownsMap Tryd.prog 70 (plainElem Tryd.prog 3) bm c' D') : FW w' B top cap rb rc h W G cl cw cd cf bm c' D' := by
  have hlt := F.g.lt
  obtain ⟨m1, m2, m3, m4, m5⟩ := F.am
  have keep : ∀ b o v, b ≠ bm → w.cell? ⟨b, o, none⟩ = some v → w'.cell? ⟨b, o, none⟩ = some v := fun b o v hb hc => by
    rw [World.cell?_of_block (a := ⟨b, o, none⟩) (hg.block b (cell_lt hc) (fun e => hb (Option.some.inj e)))]
    exact hc
  refine ⟨F.g.same hg.size (fun k hk => hg.block k (hlt k hk).2 (fun e => ?_)), keep _ _ _ m2 F.l, keep _ _ _ m3 F.w_, keep _ _ _ m4 F.d, keep _ _ _ m5 F.f, hm, F.ap, F.am, F.bB⟩
  have e := Option.some.inj e
  rcases hk with rfl | ⟨i, hi, rfl⟩
  · exact m1 e
  · exact (F.ap i hi).2.2.2.2 e
end
/-- Two cells of a grid, set. -/
theorem set2_two (G : Nat → Nat → UInt8) (a b : Nat) (u : UInt8) (c d : Nat) (v : UInt8) : (fun x y => if x = c ∧ y = d then v else (fun x y => if x = a ∧ y = b then u else G x y) x y) = set2 G a b u c d v := rfl
theorem set2_back (G : Nat → Nat → UInt8) (a b : Nat) (u : UInt8) (c d : Nat) (v : UInt8) (h1 : G a b = 35) (h2 : G c d = 35) : set2 (set2 G a b u c d v) a b 35 c d 35 = G := by
  funext x y
  unfold set2
  by_cases e1 : x = c ∧ y = d
  · rw [if_pos e1, e1.1, e1.2, h2]
  · rw [if_neg e1]
    by_cases e2 : x = a ∧ y = b
    · rw [if_pos e2, e2.1, e2.2, h1]
    · rw [if_neg e2, if_neg e1, if_neg e2]
/-- How many dead ends may be told from here on. -/
def budget (W n m : Nat) : Nat := (n + 1) * 2 ^ ((n + 8 - pop W m) / 2)
theorem pop_le : ∀ a m, pop a m ≤ a := by
  intro a
  induction a with
  | zero => intro m; exact Nat.le_refl _
  | succ a ih => intro m; have := ih (m / 2); unfold pop; omega
theorem pow_two_pos (e : Nat) : 1 ≤ 2 ^ e := Nat.two_pow_pos e
theorem budget_pos (W n m : Nat) : 1 ≤ budget W n m := by
  unfold budget
  have := Nat.mul_le_mul (show 1 ≤ n + 1 by omega) (pow_two_pos ((n + 8 - pop W m) / 2))
  omega
theorem budget_le (W n m : Nat) (hn : n ≤ 64) : budget W n m ≤ 65 * 68719476736 := by
  unfold budget
  have h1 : 2 ^ ((n + 8 - pop W m) / 2) ≤ 2 ^ 36 := Nat.pow_le_pow_right (by decide) (by omega)
  exact Nat.mul_le_mul (by omega) h1
section
variable {W n m : Nat}
theorem budget_half (hW : 0 < W) (h8 : W ≤ 8) (hm : m < 2 ^ W) : budget W n (m / 2) + 1 ≤ budget W (n + 1) m := by
  obtain ⟨a, rfl⟩ : ∃ a, W = a + 1 := ⟨W - 1, by omega⟩
  have hp := pop_half a m hm
  have hl := pop_le (a + 1) m
  have hl2 := pop_le (a + 1) (m / 2)
  unfold budget
  have h1 : 2 ^ ((n + 8 - pop (a + 1) (m / 2)) / 2) ≤ 2 ^ ((n + 1 + 8 - pop (a + 1) m) / 2) := Nat.pow_le_pow_right (by decide) (by omega)
  have h2 := pow_two_pos ((n + 1 + 8 - pop (a + 1) m) / 2)
  generalize 2 ^ ((n + 8 - pop (a + 1) (m / 2)) / 2) = x at *
  generalize 2 ^ ((n + 1 + 8 - pop (a + 1) m) / 2) = y at *
  have h3 : (n + 1) * x ≤ (n + 1) * y := Nat.mul_le_mul_left _ h1
  have h4 : (n + 1 + 1) * y = (n + 1) * y + y := Nat.succ_mul _ _
  omega
theorem budget_both (hW : 0 < W) (h8 : W ≤ 8) (hm : m < 2 ^ W) (he : m % 2 = 0) :
    (m / 2 % 2 = 0 → budget W n (m / 2 ||| 1) + budget W n (m / 2 ||| 2 ^ (W - 1)) + 1 ≤ budget W (n + 1) m) ∧ budget W n (m / 2 ||| 2 ^ (W - 1)) + 1 ≤ budget W (n + 1) m := by
  obtain ⟨a, rfl⟩ : ∃ a, W = a + 1 := ⟨W - 1, by omega⟩
  have hp := pop_half a m hm
  have hl := pop_le (a + 1) m
  have hh := half_lt (W := a + 1) (by omega) hm
  rw [Nat.add_sub_cancel] at hh
  have e2 : pop (a + 1) (m / 2 ||| 2 ^ (a + 1 - 1)) = pop (a + 1) (m / 2) + 1 := by
    rw [Nat.add_sub_cancel, or_top hh]
    exact pop_add _ _ _ hh (by omega)
  have hl2 := pop_le (a + 1) (m / 2 ||| 2 ^ (a + 1 - 1))
  have key : ∀ x, pop (a + 1) x = pop (a + 1) m + 1 → budget (a + 1) n x + budget (a + 1) n x + 1 ≤ budget (a + 1) (n + 1) m := by
    intro x hx
    have hlx := pop_le (a + 1) x
    unfold budget
    rw [hx, show (n + 1 + 8 - pop (a + 1) m) / 2 = (n + 8 - (pop (a + 1) m + 1)) / 2 + 1 from by omega, Nat.pow_succ]
    have h2 := pow_two_pos ((n + 8 - (pop (a + 1) m + 1)) / 2)
    generalize 2 ^ ((n + 8 - (pop (a + 1) m + 1)) / 2) = y at *
    have h4 : (n + 1 + 1) * (y * 2) = (n + 1) * (y * 2) + y * 2 := Nat.succ_mul _ _
    have h5 : (n + 1) * (y * 2) = (n + 1) * y * 2 := (Nat.mul_assoc _ _ _).symm
    omega
  have k2 := key (m / 2 ||| 2 ^ (a + 1 - 1)) (by omega)
  refine ⟨fun h2 => ?_, by omega⟩
  have e1 : pop (a + 1) (m / 2 ||| 1) = pop (a + 1) (m / 2) + 1 := by
    rw [or_one h2]
    show (m / 2 + 1) % 2 + pop a ((m / 2 + 1) / 2) = m / 2 % 2 + pop a (m / 2 / 2) + 1
    rw [show (m / 2 + 1) / 2 = m / 2 / 2 from by omega]
    omega
  have k1 := key (m / 2 ||| 1) (by omega)
  omega
end
end Go.Proofs.YtahihapgbcoanaaDoor
