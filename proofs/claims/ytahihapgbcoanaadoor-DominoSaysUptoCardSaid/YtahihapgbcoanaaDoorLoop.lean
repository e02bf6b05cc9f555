/- The law for a range over strings.SplitSeq: the iterator keeps the rest of the text in a box of its own. -/
import Derived.Test.YtahihapgbcoanaaDoorSeq
import Derived.RangeFuncWrites
namespace Go.Proofs.YtahihapgbcoanaaDoor
open Go.RowKit Go.Shelf
variable {n : Nat} {P : Program}

/-- What the iterator's contract says, at boxes eb (what parts), sb (the rest), vb. -/
def SplitStops (n : Nat) (P : Program) (gf eb sb vb : Nat) (all : List (List UInt8)) (s : List UInt8) : Prop :=
  ∀ (l : Nat) (J Jx : List (List UInt8) → World → Prop),
    (∀ pre W v, J pre W → J pre (W.setCell ⟨sb, 0, none⟩ v)) →
    (∀ pre x rest W, all = pre ++ x :: rest → J pre W → YieldAt Fence.wide (n - 1) P l #[.string ⟨x.toArray⟩] W fun e W' =>
      (e = .returned (.bool true) ∧ J (pre ++ [x]) W' ∧ BoxesKept eb sb vb W W') ∨ (e = .returned (.bool false) ∧ Jx (pre ++ [x]) W')) →
    ∀ W : World, W.cell? ⟨eb, 0, none⟩ = some (.string ⟨#[47]⟩) → W.cell? ⟨sb, 0, none⟩ = some (.string ⟨s.toArray⟩) → W.cell? ⟨vb, 0, none⟩ = some (.int .i64 0) →
    W.frozen? ⟨sb, 0, none⟩ = false → J [] W →
    CallsIn Fence.wide n P gf #[.func (.yield l) #[] #[], .pointer (some ⟨eb, 0, none⟩), .pointer (some ⟨sb, 0, none⟩), .pointer (some ⟨vb, 0, none⟩)] W fun e W' => (∃ v, e = .returned v) ∧
      (J all W' ∨ ∃ pre, pre <+: all ∧ Jx pre W')

theorem splitSeq1_stops (n : Nat) (hn : 1 ≤ n) (eb sb vb : Nat) (hne1 : eb ≠ sb) (hne2 : vb ≠ sb) (s : List UInt8) (hlen : s.length ≤ 9223372036854775807) :
    SplitStops n Tryd.prog 87 eb sb vb (pieces s) s := fun l J Jx hJs hY W he hs hv hf h0 =>
  splitSeq1_in n hn l eb sb vb (pieces s) J Jx hne1 hne2 hJs hY s rfl hlen W he hs hv hf h0

theorem BoxesKept.trans {eb sb vb : Nat} {A B C : World} (h : BoxesKept eb sb vb A B) (k : BoxesKept eb sb vb B C) : BoxesKept eb sb vb A C :=
  ⟨k.1.trans h.1, k.2.1.trans h.2.1, k.2.2.1.trans h.2.2.1, k.2.2.2.trans h.2.2.2⟩
theorem BoxesKept.putObj {eb sb vb : Nat} (W : World) (l : Nat) (o : Obj) (h1 : eb ≠ l) (h2 : sb ≠ l) (h3 : vb ≠ l) : BoxesKept eb sb vb W (W.putObj l o) := by
  have hh : ∀ b, b ≠ l → (W.putObj l o).heap[b]? = W.heap[b]? := fun b hb => World.putObj_heap_other hb
  refine ⟨?_, ?_, ?_, ?_⟩
  · exact World.cell?_of_block (hh _ h1)
  · exact World.cell?_of_block (hh _ h2)
  · exact World.cell?_of_block (hh _ h3)
  · unfold World.frozen?; rw [hh _ h2]
theorem BoxesKept.below {eb sb vb : Nat} {B : Nat} {W W' : World} (h : Below B W W') (h1 : eb < B) (h2 : sb < B) (h3 : vb < B) : BoxesKept eb sb vb W W' :=
  ⟨h.cell (p := ⟨eb, 0, none⟩) h1, h.cell (p := ⟨sb, 0, none⟩) h2, h.cell (p := ⟨vb, 0, none⟩) h3, h.frozen (p := ⟨sb, 0, none⟩) h2⟩

theorem wpIn_rangeFunc_split {g : Operand} {p0 : Tmp} {assign body : Code} {Q : Exit → Act → World → Prop} {a : Act} {w : World}
    (h1 : 1 ≤ n) {gf eb sb vb : Nat} {all : List (List UInt8)} {s : List UInt8}
    (hg : a.eval g = .func (.func gf) #[] #[.pointer (some ⟨eb, 0, none⟩), .pointer (some ⟨sb, 0, none⟩), .pointer (some ⟨vb, 0, none⟩)])
    (eg : ∀ args w, (callFunc gf args).run P w = .ok (.enter gf args) w)
    (hseq : SplitStops (n - 1) P gf eb sb vb all s) (he : eb < w.heap.size) (hs : sb < w.heap.size) (hv : vb < w.heap.size)
    (ce : w.cell? ⟨eb, 0, none⟩ = some (.string ⟨#[47]⟩)) (cs : w.cell? ⟨sb, 0, none⟩ = some (.string ⟨s.toArray⟩)) (cv : w.cell? ⟨vb, 0, none⟩ = some (.int .i64 0))
    (fs : w.frozen? ⟨sb, 0, none⟩ = false)
    (I : List (List UInt8) → World → Prop) (Ix : Code → List (List UInt8) → World → Prop) (hI : OwnFrom w.heap.size I) (hIx : ∀ c, OwnFrom w.heap.size (Ix c))
    (hIs : ∀ pre W v, I pre W → I pre (W.setCell ⟨sb, 0, none⟩ v)) (h0 : I [] w) (a₁ : List UInt8 → Act)
    (hassign : ∀ (l : Nat) (x : List UInt8) (W : World) (K : Act → World → Prop), K (a₁ x) W →
      assign.wpIn (Fence.wide.inRound l) (n - 1 - 1) P (Exit.then K (fun _ _ _ => False)) { tmps := (#[p0].zip #[.string ⟨x.toArray⟩]).foldl (fun t (p, v) => t.setIfInBounds p v) a.tmps, defers := [] } W)
    (hbody : ∀ (l : Nat) (pre : List (List UInt8)) (x : List UInt8) (rest : List (List UInt8)) (W : World), all = pre ++ x :: rest → I pre W →
      body.wpIn (Fence.wide.inRound l) (n - 1 - 1) P (ownPostG w.heap.size (BoxesKept eb sb vb) I Ix (pre ++ [x]) W) (a₁ x) W)
    (hdone : ∀ (D : Nat) (W : World), w.heap.size ≤ D → I all W → W.heap[D]? = some (.deferred (some [])) → Q .normal { a with defers := { target := .collected D, args := #[] } :: a.defers } W)
    (hstop : ∀ (D : Nat) (c : Code) (pre : List (List UInt8)) (W : World), w.heap.size ≤ D → pre <+: all → Ix c pre W → W.heap[D]? = some (.deferred (some [])) → c.wpIn Fence.wide n P Q { a with defers := { target := .collected D, args := #[] } :: a.defers } W) :
    (Code.rangeFunc g #[p0] assign body).wpIn Fence.wide n P Q a w := by
  refine wpIn_rangeFunc ?_
  intro fn hfn
  have hro : Fence.wide.round = none := rfl
  rw [hro]
  obtain ⟨rec, hrec⟩ : ∃ rec : LoopState → Option Code → Loop, rec = fun st pe => { state := st, pending := pe, fn, tmps := a.tmps, params := #[p0], assign, body, defers := w.heap.size } := ⟨_, rfl⟩
  obtain ⟨W1, hW1⟩ : ∃ W1, (w.alloc (.deferred (some []))).alloc (.loop (rec .ready none)) = W1 := ⟨_, rfl⟩
  have hL1 : W1.heap[w.heap.size + 1]? = some (.loop (rec .ready none)) := by
    rw [← hW1]; have := World.alloc_heap_new (w.alloc (.deferred (some []))) (.loop (rec .ready none)); rwa [World.size_alloc] at this
  have hK1 : W1.heap[w.heap.size]? = some (.deferred (some [])) := by
    rw [← hW1]; exact (Below.heap_alloc _ _ _ (by simp)).trans (World.alloc_heap_new w _)
  have hI1 : I [] W1 := by rw [← hW1]; exact hI.alloc _ (hI.alloc _ h0)
  have hb1 : Below w.heap.size w W1 := by
    rw [← hW1]; exact (((Below.refl _ w).alloc (Nat.le_refl _) _).alloc (by simp) _)
  refine ⟨w.heap.size + 1, [{ target := .collected w.heap.size, args := #[] }], W1, { target := .fn (.func gf) #[.pointer (some ⟨eb, 0, none⟩), .pointer (some ⟨sb, 0, none⟩), .pointer (some ⟨vb, 0, none⟩)], args := #[.func (.yield (w.heap.size + 1)) #[] #[]] }, W1, gf,
    #[.func (.yield (w.heap.size + 1)) #[] #[]] ++ #[.pointer (some ⟨eb, 0, none⟩), .pointer (some ⟨sb, 0, none⟩), .pointer (some ⟨vb, 0, none⟩)], W1, ?_, ?_, ?_, ?_, fun _ => h1, ?_⟩
  · rw [← hW1, hrec]; exact run_enterLoop_outer _ _ _ _ _
  · simp only [resolve, hg]
    simp [go_sem]
  · intro f' hf'; trivial
  · simp [invoke, go_sem, eg]
  · refine (hseq (w.heap.size + 1)
      (fun pre W => I pre W ∧ W.heap[w.heap.size + 1]? = some (.loop (rec .ready none)) ∧ W.heap[w.heap.size]? = some (.deferred (some [])))
      (fun pre W => ∃ c, Ix c pre W ∧ W.heap[w.heap.size + 1]? = some (.loop (rec .done (some c))) ∧ W.heap[w.heap.size]? = some (.deferred (some [])))
      (fun pre W v ⟨hi, hl, hk⟩ => ⟨hIs _ _ _ hi, (Below.heap_setCell W ⟨sb, 0, none⟩ v _ (by show w.heap.size + 1 ≠ sb; omega)).trans hl, (Below.heap_setCell W ⟨sb, 0, none⟩ v _ (by show w.heap.size ≠ sb; omega)).trans hk⟩)
      ?_ W1 ((hb1.cell (p := ⟨eb, 0, none⟩) he).trans ce) ((hb1.cell (p := ⟨sb, 0, none⟩) hs).trans cs) ((hb1.cell (p := ⟨vb, 0, none⟩) hv).trans cv) ((hb1.frozen (p := ⟨sb, 0, none⟩) hs).trans fs) ⟨hI1, hL1, hK1⟩).mono ?_
    · rintro pre x rest W hxx ⟨hi, hl, hk⟩
      have hlt : w.heap.size + 1 < W.heap.size := (Array.getElem?_eq_some_iff.1 hl).1
      have hy := run_yield (P := P) (args := #[.string ⟨x.toArray⟩]) hl (by rw [hrec]; rfl)
      rw [hrec] at hy
      refine ⟨fn, _, assign, body, hy, roundIn_of_wpIn hfn (hassign _ x W _ ⟨_, run_beginRound hl (by rw [hrec]), ?_⟩)⟩
      have hl2 : (W.putObj (w.heap.size + 1) (.loop { rec .ready none with state := .busy })).heap[w.heap.size + 1]? = some (.loop { rec .ready none with state := .busy }) := World.putObj_heap_same hlt
      have hk2 : (W.putObj (w.heap.size + 1) (.loop { rec .ready none with state := .busy })).heap[w.heap.size]? = some (.deferred (some [])) := (World.putObj_heap_other (by omega)).trans hk
      have hw2 : BoxesKept eb sb vb W (W.putObj (w.heap.size + 1) (.loop { rec .ready none with state := .busy })) := BoxesKept.putObj _ _ _ (by omega) (by omega) (by omega)
      refine wpIn_mono (hbody _ pre x rest _ hxx (hI.putObj _ hi (by omega) hl rfl)) ?_
      have fin : ∀ (jump : Option Code) (W3 : World), KeepsFrom w.heap.size (W.putObj (w.heap.size + 1) (.loop { rec .ready none with state := .busy })) W3 →
          (Instr.endRound (w.heap.size + 1) jump).run P W3 = .ok (.bool jump.isNone) (W3.putObj (w.heap.size + 1) (.loop (rec (if jump.isNone then .ready else .done) jump))) ∧
          W3.heap[w.heap.size + 1]? = some (.loop { rec .ready none with state := .busy }) ∧
          (W3.putObj (w.heap.size + 1) (.loop (rec (if jump.isNone then .ready else .done) jump))).heap[w.heap.size + 1]? = some (.loop (rec (if jump.isNone then .ready else .done) jump)) ∧
          (W3.putObj (w.heap.size + 1) (.loop (rec (if jump.isNone then .ready else .done) jump))).heap[w.heap.size]? = some (.deferred (some [])) := fun jump W3 hk3 => by
        have hl3 := hk3.same _ _ (by omega) hl2 rfl
        have := run_endRound (P := P) jump hl3
        rw [hrec] at this ⊢
        exact ⟨this, by rw [hrec] at hl3; exact hl3, World.putObj_heap_same (Array.getElem?_eq_some_iff.1 hl3).1, (World.putObj_heap_other (by omega)).trans (hk3.same _ _ (Nat.le_refl _) hk2 rfl)⟩
      rintro e a3 W3 hp
      cases e with
      | normal =>
        obtain ⟨hk3, hkp3, hi3⟩ := hp
        obtain ⟨hr, hl3, hl4, hk4⟩ := fin none W3 hk3
        exact ⟨_, _, hr, .inl ⟨rfl, ⟨hI.putObj _ hi3 (by omega) hl3 rfl, hl4, hk4⟩, (hw2.trans hkp3).trans (BoxesKept.putObj _ _ _ (by omega) (by omega) (by omega))⟩⟩
      | ret =>
        obtain ⟨hk3, hi3⟩ := hp
        obtain ⟨hr, hl3, hl4, hk4⟩ := fin (some .ret) W3 hk3
        exact ⟨_, _, hr, .inr ⟨rfl, .ret, (hIx _).putObj _ hi3 (by omega) hl3 rfl, hl4, hk4⟩⟩
      | exit id =>
        obtain ⟨hk3, hi3⟩ := hp
        obtain ⟨hr, hl3, hl4, hk4⟩ := fin (some (.exit id)) W3 hk3
        exact ⟨_, _, hr, .inr ⟨rfl, .exit id, (hIx _).putObj _ hi3 (by omega) hl3 rfl, hl4, hk4⟩⟩
      | goto t =>
        obtain ⟨hk3, hi3⟩ := hp
        obtain ⟨hr, hl3, hl4, hk4⟩ := fin (some (.goto t)) W3 hk3
        exact ⟨_, _, hr, .inr ⟨rfl, .goto t, (hIx _).putObj _ hi3 (by omega) hl3 rfl, hl4, hk4⟩⟩
      | panic ch => exact hp.elim
      | outgrown => exact hp.elim
    · rintro e W2 ⟨⟨v, rfl⟩, (⟨hi, hl, hk⟩ | ⟨pre, hSp, c, hi, hl, hk⟩)⟩
      · exact ⟨none, _, by have := run_endLoop (P := P) hl (by rw [hrec]; simp); rw [hrec] at this; exact this, hdone _ _ (Nat.le_refl _) (hI.putObj _ hi (by omega) hl rfl) ((World.putObj_heap_other (by omega)).trans hk)⟩
      · exact ⟨some c, _, by have := run_endLoop (P := P) hl (by rw [hrec]; simp); rw [hrec] at this; exact this, hstop _ c pre _ (Nat.le_refl _) hSp ((hIx c).putObj _ hi (by omega) hl rfl) ((World.putObj_heap_other (by omega)).trans hk)⟩
end Go.Proofs.YtahihapgbcoanaaDoor
