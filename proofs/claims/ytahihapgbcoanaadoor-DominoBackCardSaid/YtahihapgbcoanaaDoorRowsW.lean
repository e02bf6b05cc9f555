/- The walk of domino.rows. -/
import Derived.Test.YtahihapgbcoanaaDoorGrid
import Derived.BigGuardIn
import Derived.Maps.RangeWalk
namespace Go.Proofs.YtahihapgbcoanaaDoor
open Go.RowKit Go.Shelf
attribute [local go_sem] Oper.semAt_some

theorem trim_any (x cut : List UInt8) (w : World) (hx : x.length ≤ 9223372036854775807) (hc : cut.length < 4294967281) (ha : ∀ b ∈ cut, b.toNat < 128) :
    Calls Tryd.prog 53 #[.string ⟨x.toArray⟩, .string ⟨cut.toArray⟩] w fun e w' => e = .returned (.string ⟨(Lib.trimS x cut).toArray⟩) ∧ Below w.heap.size w w' := by
  have h := Any.strings_Trim_laid Tryd.lays160x (by kernel_rfl) ⟨x.toArray⟩ ⟨cut.toArray⟩ w (by simpa [ByteArray.size] using hx) (by simpa [ByteArray.size] using hc)
    (fun j b hb => ha b (by simp at hb; exact List.mem_of_getElem? hb))
  exact h

theorem trim_nil (x cut : List UInt8) (w : World) (hx : x.length ≤ 9223372036854775807) (hc : cut.length < 4294967281) (ha : ∀ b ∈ cut, b.toNat < 128) (hn : Hid (Lib.trimS x cut = [])) :
    Calls Tryd.prog 53 #[.string ⟨x.toArray⟩, .string ⟨cut.toArray⟩] w fun e w' => e = .returned (.string ⟨#[]⟩) ∧ Below w.heap.size w w' := by
  refine (trim_any x cut w hx hc ha).mono ?_
  rintro e w' ⟨rfl, hb⟩
  exact ⟨by rw [hn.out], hb⟩

/-- An operation that is not wanted is passed over, in a round of the wide fence. -/
theorem skipIn {l m : Nat} {P : Program} {ops : Array Oper} {Q : Exit → Act → World → Prop} {a : Act} {w : World} {rest : List Oper} {dst : Option Tmp} {op : Op} {ty : TypeId} {pos : String} {after : Array Edge} {i : Nat} {b : Bool}
    (hw : Region.wanted ⟨dst, op, ty, pos, after, some (i, b)⟩ (yielded ops a.tmps) = false) (h : wpListIn (Fence.wide.inRound l) m P ops Q rest (a.put dst undef) w) :
    wpListIn (Fence.wide.inRound l) m P ops Q (⟨dst, op, ty, pos, after, some (i, b)⟩ :: rest) a w := by
  simp only [wpListIn, hw]
  exact ⟨fun f _ => trivial, h⟩

theorem info63 : (Tryd.prog.info? 63).map (fun i => (i.zero, i.size, i.bytes)) = some (some (.slice none 0 0), 1, 24) := by kernel_rfl

/-- Rows as a board or a tiling has them. -/
def Good (letters : List UInt8) (g : List (List UInt8)) : Prop :=
  g.length ≤ 8 ∧ (∀ r ∈ g, 1 ≤ r.length ∧ r.length ≤ 8 ∧ r.length = (g.headD []).length) ∧ ∀ r ∈ g, ∀ c ∈ r, c ∈ letters

/-- What holds between two rounds of the loop over the pieces. N: the heap's size as the call began. -/
structure RowsI (N : Nat) (w : World) (letters : List UInt8) (pre : List (List UInt8)) (W : World) : Prop where
  out : ∃ v rs, Boxed W (N + 1 + 1) 60 v ∧ rs.map (·.1) = pre ∧ GridAt W (N + 6) v rs
  letr : Boxed W N 9 (.string ⟨letters.toArray⟩)
  res : Boxed W (N + 1) 60 (.slice none 0 0)
  ok : ∀ r ∈ pre, 1 ≤ r.length ∧ r.length ≤ 8 ∧ r.length = (pre.headD []).length
  le : pre.length ≤ 8
  bel : Below N w W
  sz : N + 6 ≤ W.heap.size

theorem Boxed.keptCells {W W' : World} {row : Option Nat} {B : Nat} {t : TypeId} {v : Value} (h : Boxed W B t v) (hg : W.grownBy W' row)
    (hr : ∀ r, row = some r → ∃ o : Obj, W.heap[r]? = some o ∧ o.isCells = false) : Boxed W' B t v :=
  h.kept hg (fun e => by
    obtain ⟨o, ho, hc⟩ := hr B e.symm
    have hh : W.heap[B]? = some (.cells #[v] t (0, 0)) := h
    rw [hh] at ho; cases ho; cases hc)
theorem GridAt.keptCells {W W' : World} {row : Option Nat} {B : Nat} {v : Value} {rs : List GRow} (h : GridAt W B v rs) (hg : W.grownBy W' row)
    (hr : ∀ r, row = some r → ∃ o : Obj, W.heap[r]? = some o ∧ o.isCells = false) : GridAt W' B v rs :=
  h.grown hg fun g e => by
    obtain ⟨o, ho, hc⟩ := hr g e
    refine ⟨fun e2 => ?_, fun x hx e2 => ?_⟩
    · rcases h.own.2 with ⟨rfl, _⟩ | ⟨g', cap, cur, rfl, _, hh, _⟩
      · simp [Value.ownBlock] at e2
      · simp [Value.ownBlock] at e2
        subst e2
        rw [hh] at ho; cases ho; cases hc
    · obtain ⟨⟨cur, fr, hh⟩, _⟩ := (h.rows x hx).2
      rw [e2, ho] at hh; cases hh; cases hc
theorem rowsI_own (N B : Nat) (w : World) (letters : List UInt8) (hB : N ≤ B) : OwnFrom B (RowsI N w letters) := fun pre W W' row h hg hr => by
  have hr' : ∀ r, row = some r → ∃ o : Obj, W.heap[r]? = some o ∧ o.isCells = false := fun r e => (hr r e).2
  obtain ⟨v, rs, hb, hm, hgr⟩ := h.out
  refine ⟨⟨v, rs, Boxed.keptCells hb hg hr', hm, hgr.keptCells hg hr'⟩, Boxed.keptCells h.letr hg hr', Boxed.keptCells h.res hg hr', h.ok, h.le, h.bel.grown hg (Nat.le_of_lt h.letr.lt) (fun k e => Nat.le_trans hB (hr k e).1), Nat.le_trans h.sz hg.size⟩
theorem rowsI_set (N : Nat) (w : World) (letters : List UInt8) (pre : List (List UInt8)) (W : World) (v : Value) (h : RowsI N w letters pre W) : RowsI N w letters pre (W.setCell ⟨N + 1 + 1 + 1, 0, none⟩ v) := by
  obtain ⟨u, rs, hb, hm, hgr⟩ := h.out
  exact ⟨⟨u, rs, hb.other (by omega) v, hm, hgr.setCell (by show N + 1 + 1 + 1 < N + 6; omega) v⟩, h.letr.other (by omega) v, h.res.other (by omega) v, h.ok, h.le, h.bel.setCell (p := ⟨N + 1 + 1 + 1, 0, none⟩) (by show N ≤ N + 1 + 1 + 1; omega) v, by simpa [World.setCell] using h.sz⟩

/-- What one more row does: the row's block is made, laid into a block of its own, appended; the list's box is written. -/
theorem rowsI_step {N B : Nat} {w W w1 w3 : World} {letters : List UInt8} {pre : List (List UInt8)} {x : List UInt8} {v v' : Value} {rs : List GRow} {cap : Nat} (hN : w.heap.size = N) (hB : W.heap.size ≥ B) (hNB : N + 6 ≤ B)
    (hv : Boxed W (N + 1 + 1) 60 v) (hrs : rs.map (·.1) = pre) (hgr : GridAt W (N + 6) v rs) (hlet : Boxed W N 9 (.string ⟨letters.toArray⟩)) (hres : Boxed W (N + 1) 60 (.slice none 0 0)) (hbel : Below N w W)
    (hok : ∀ r ∈ pre ++ [x], 1 ≤ r.length ∧ r.length ≤ 8 ∧ r.length = ((pre ++ [x]).headD []).length) (hle : (pre ++ [x]).length ≤ 8)
    (hb1 : Below W.heap.size W w1)
    (hown : w3.ownsRow (N + 6) 63 1 v' (rs.length + 1) (rs.map rowVal ++ [rowVal (x, w1.heap.size, cap)]))
    (hg : ((Lib.bytesWorld w1 5 ⟨x.toArray⟩).alloc (.cells #[rowVal (x, w1.heap.size, cap)] 63)).grownBy w3 v.ownBlock) :
    RowsI N w letters (pre ++ [x]) (w3.setCell ⟨N + 1 + 1, 0, none⟩ v') ∧ KeepsFrom B W (w3.setCell ⟨N + 1 + 1, 0, none⟩ v') ∧ BoxesKept (N + 1 + 1 + 1 + 1) (N + 1 + 1 + 1) (N + 1 + 1 + 1 + 2) W (w3.setCell ⟨N + 1 + 1, 0, none⟩ v') := by
  have hs1 := hb1.size
  have hlt := hv.lt
  have hs2 : (Lib.bytesWorld w1 5 ⟨x.toArray⟩).heap.size = w1.heap.size + 1 := Lib.bytesWorld_size _ _ _
  -- a block of W that is not the list's own is as it was
  have key : ∀ k, k < W.heap.size → v.ownBlock ≠ some k → w3.heap[k]? = W.heap[k]? := fun k hk hne =>
    ((hg.block k (by simp [hs2]; omega) (fun e => hne e.symm)).trans (Below.heap_alloc _ _ k (by rw [hs2]; omega))).trans ((Lib.bytesWorld_at_old w1 5 _ k (by omega)).trans (hb1.block k hk))
  have hvo : ∀ k, v.ownBlock = some k → N + 6 ≤ k ∧ k < W.heap.size := fun k e => hgr.own.lt k e
  have small : ∀ k, k < N + 6 → v.ownBlock ≠ some k := fun k hk e => by have := (hvo k e).1; omega
  have boxk : ∀ (k : Nat) (t : TypeId) (u : Value), Boxed W k t u → k < N + 6 → Boxed w3 k t u := fun k t u hb hk => (key k hb.lt (small k hk)).trans hb
  have hnew : RowAt w3 w1.heap.size x := by
    refine ((RowAt.bytes w1 x).same (Below.heap_alloc _ _ _ (by rw [hs2]; omega))).same (hg.block _ (by simp [hs2]; omega) (fun e => ?_))
    have := (hvo _ e.symm).2
    omega
  have hgrid : GridAt w3 (N + 6) v' (rs ++ [(x, w1.heap.size, cap)]) := by
    refine ⟨by simpa using hown, fun y hy => ?_, ?_⟩
    · rcases List.mem_append.1 hy with hy | hy
      · refine ⟨(hgr.rows y hy).1, (hgr.rows y hy).2.same (key _ (hgr.rows y hy).2.lt (hgr.top_ne y hy))⟩
      · simp at hy
        subst hy
        refine ⟨?_, hnew⟩
        have : N + 6 ≤ W.heap.size := by omega
        show N + 6 ≤ w1.heap.size
        omega
    · rw [List.map_append, List.nodup_append]
      refine ⟨hgr.apart, by simp, ?_⟩
      intro a ha b hb
      simp at hb
      subst hb
      obtain ⟨y, hy, rfl⟩ := List.mem_map.1 ha
      have := (hgr.rows y hy).2.lt
      omega
  have hbel3 : Below N w w3 := by
    refine ⟨?_, ?_, ?_, ?_, fun k hk => (key k (by omega) (small k (by omega))).trans (hbel.block k hk)⟩
    · exact (hg.os.trans (hb1.os)).trans hbel.os
    · exact (hg.tape.trans (hb1.tape)).trans hbel.tape
    · exact (hg.output.trans (hb1.output)).trans hbel.output
    · have := hg.size; simp [hs2] at this; have := hbel.size; omega
  refine ⟨⟨⟨v', _, (boxk _ _ _ hv (by omega)).set v', by simp [hrs], hgrid.setCell (by show N + 1 + 1 < N + 6; omega) v'⟩, (boxk _ _ _ hlet (by omega)).other (by omega) v', (boxk _ _ _ hres (by omega)).other (by omega) v', hok, hle,
    hbel3.setCell (p := ⟨N + 1 + 1, 0, none⟩) (by show N ≤ N + 1 + 1; omega) v', by have := hg.size; simp [hs2] at this; simp; omega⟩, ⟨?_, ?_⟩, ?_⟩
  · have := hg.size; simp [hs2] at this; simp; omega
  · intro k o hk ho hc
    have hkl := (Array.getElem?_eq_some_iff.1 ho).1
    refine ((Below.heap_setCell w3 ⟨N + 1 + 1, 0, none⟩ v' k (by show k ≠ N + 1 + 1; omega)).trans (key k hkl (fun e => ?_))).trans ho
    rcases hgr.own.2 with ⟨rfl, _⟩ | ⟨g', c', cur, rfl, _, hh, _⟩
    · simp [Value.ownBlock] at e
    · simp [Value.ownBlock] at e
      subst e
      rw [hh] at ho; cases ho; cases hc
  · have hh : ∀ k, k < N + 6 → k < W.heap.size → k ≠ N + 1 + 1 → (w3.setCell ⟨N + 1 + 1, 0, none⟩ v').heap[k]? = W.heap[k]? := fun k h1 h2 h3 =>
      (Below.heap_setCell w3 ⟨N + 1 + 1, 0, none⟩ v' k (by show k ≠ N + 1 + 1; omega)).trans (key k h2 (small k h1))
    exact ⟨World.cell?_of_block (a := ⟨N + 1 + 1 + 1 + 1, 0, none⟩) (hh (N + 1 + 1 + 1 + 1) (by omega) (by omega) (by omega)), World.cell?_of_block (a := ⟨N + 1 + 1 + 1, 0, none⟩) (hh (N + 1 + 1 + 1) (by omega) (by omega) (by omega)),
      World.cell?_of_block (a := ⟨N + 1 + 1 + 1 + 2, 0, none⟩) (hh (N + 1 + 1 + 1 + 2) (by omega) (by omega) (by omega)), World.frozen?_of_block (a := ⟨N + 1 + 1 + 1, 0, none⟩) (hh (N + 1 + 1 + 1) (by omega) (by omega) (by omega))⟩

theorem box_through {W w1 w3 : World} {k : Nat} {t : TypeId} {u : Value} {s : ByteArray} {o : Obj} {row : Option Nat} (hv : Boxed W k t u) (hb1 : Below W.heap.size W w1) (hg : ((Lib.bytesWorld w1 5 s).alloc o).grownBy w3 row) (hne : some k ≠ row) : Boxed w3 k t u := by
  have h1 := hv.lt
  have h2 := hb1.size
  have h3 : (Lib.bytesWorld w1 5 s).heap.size = w1.heap.size + 1 := Lib.bytesWorld_size _ _ _
  exact ((hg.block k (by simp [h3]; omega) hne).trans (Below.heap_alloc _ _ k (by rw [h3]; omega))).trans ((Lib.bytesWorld_at_old w1 5 s k (by omega)).trans ((hb1.block k h1).trans hv))
theorem cell_new1 {m : Nat} (w : World) (x : Value) (t : TypeId) (h : w.heap.size = m + 1) : ∀ j u, [x][j]? = some u → (w.alloc (.cells #[x] t)).cell? ((⟨m + 1, 0, none⟩ : Addr).add j) = some u := by
  rw [← h]; exact cell_one_new w x t

theorem hok_snoc {pre : List (List UInt8)} {x : List UInt8} {m : Nat} (hok : ∀ r ∈ pre, 1 ≤ r.length ∧ r.length ≤ 8 ∧ r.length = (pre.headD []).length) (hpl : 0 < pre.length) (hm : (pre.headD []).length = m)
    (h1 : 1 ≤ x.length) (h8 : x.length ≤ 8) (hx : x.length = m) : ∀ r ∈ pre ++ [x], 1 ≤ r.length ∧ r.length ≤ 8 ∧ r.length = ((pre ++ [x]).headD []).length := by
  have hh : (pre ++ [x]).headD [] = pre.headD [] := by
    cases pre with
    | nil => simp at hpl
    | cons a l => rfl
  rw [hh, hm]
  intro r hr
  rcases List.mem_append.1 hr with hr | hr
  · have := hok r hr
    rw [hm] at this
    exact this
  · simp at hr
    subst hr
    exact ⟨h1, h8, hx⟩

/-- What rows hands back. -/
def RowsOut (letters s : List UInt8) (w : World) (e : Ending) (w' : World) : Prop :=
  ∃ v, e = .returned v ∧ Below w.heap.size w w' ∧ ((¬ Good letters (pieces s) ∧ v = .slice none 0 0) ∨ (Good letters (pieces s) ∧ ∃ rs, rs.map (·.1) = pieces s ∧ GridAt w' w.heap.size v rs))

theorem indexByte_in {l : List UInt8} {c : UInt8} (h : c ∈ l) : ∃ n : Nat, Lib.indexByte l c = n ∧ n < l.length := by
  induction l with
  | nil => simp at h
  | cons b l ih =>
    unfold Lib.indexByte
    by_cases hb : b = c
    · exact ⟨0, by simp [hb], by simp⟩
    · have hc : c ∈ l := by
        rcases List.mem_cons.1 h with h | h
        · exact absurd h.symm hb
        · exact h
      obtain ⟨n, hn, hl⟩ := ih hc
      refine ⟨n + 1, ?_, by simp; omega⟩
      simp [hb, hn]
      try omega
theorem indexByte_out {l : List UInt8} {c : UInt8} (h : c ∉ l) : Lib.indexByte l c = -1 := by
  induction l with
  | nil => rfl
  | cons b l ih =>
    unfold Lib.indexByte
    have hb : ¬ b = c := fun e => h (by simp [e])
    have hc : c ∉ l := fun e => h (by simp [e])
    simp [hb, ih hc]
theorem index_in (l : List UInt8) (c : UInt8) (w : World) (h : c ∈ l) :
    Calls Tryd.prog 30 #[.string ⟨l.toArray⟩, .int .u8 (c.toNat : Int)] w fun e w' => ∃ n : Nat, n < l.length ∧ e = .returned (.int .i64 (n : Int)) ∧ w = w' := by
  obtain ⟨n, hn, hl⟩ := indexByte_in h
  refine (Tryd.strings_IndexByte ⟨l.toArray⟩ (c.toNat : Int) w).mono ?_
  rintro e w' ⟨rfl, rfl⟩
  refine ⟨n, hl, ?_, rfl⟩
  simp [hn]
theorem index_out (l : List UInt8) (c : UInt8) (w : World) (h : c ∉ l) :
    Calls Tryd.prog 30 #[.string ⟨l.toArray⟩, .int .u8 (c.toNat : Int)] w fun e w' => e = .returned (.int .i64 (-1)) ∧ w = w' := by
  refine (Tryd.strings_IndexByte ⟨l.toArray⟩ (c.toNat : Int) w).mono ?_
  rintro e w' ⟨rfl, rfl⟩
  refine ⟨?_, rfl⟩
  simp [indexByte_out h]

/-- The deferred calls' block is let go: what lies in cells stays. -/
theorem putObj_heap {W : World} {D : Nat} {o o' : Obj} (hK : W.heap[D]? = some o) (ho : o.isCells = false) {k : Nat} {cur : Array Value} {t : TypeId} {fr : Nat × Nat} (hk : W.heap[k]? = some (.cells cur t fr)) : (W.putObj D o').heap[k]? = some (.cells cur t fr) :=
  (World.putObj_heap_other (fun e => by subst e; rw [hk] at hK; cases hK; cases ho)).trans hk
theorem below_put {N D : Nat} {w W : World} {o o' : Obj} (h : Below N w W) (hD : N ≤ D) (_hK : W.heap[D]? = some o) : Below N w (W.putObj D o') :=
  ⟨h.os, h.tape, h.output, by have := h.size; simpa [World.putObj] using this, fun k hk => (World.putObj_heap_other (by omega)).trans (h.block k hk)⟩

/-- A round that says no: the result's cell is nil, the loop is left. -/
theorem rows_bad {N B : Nat} {w W w1 : World} {letters : List UInt8} {all pre : List (List UInt8)} {K : World → World → Prop} {I : List (List UInt8) → World → Prop} {a : Act} (hB : W.heap.size ≥ B) (hNB : N + 6 ≤ B) (hbad : ¬ Good letters all)
    (hres : Boxed W (N + 1) 60 (.slice none 0 0)) (hbel : Below N w W) (hb1 : Below W.heap.size W w1) :
    ownPostG B K I (fun c _ W => c = Code.ret ∧ ¬ Good letters all ∧ Boxed W (N + 1) 60 (.slice none 0 0) ∧ Below N w W) pre W .ret a (w1.setCell ⟨N + 1, 0, none⟩ (.slice none 0 0)) := by
  have hlt := hres.lt
  have hs1 := hb1.size
  have h1 : Boxed w1 (N + 1) 60 (.slice none 0 0) := (hb1.block _ hlt).trans hres
  have hbel1 : Below N w w1 := ⟨hb1.os.trans hbel.os, hb1.tape.trans hbel.tape, hb1.output.trans hbel.output, Nat.le_trans hbel.size hs1, fun k hk => (hb1.block k (by omega)).trans (hbel.block k hk)⟩
  refine ⟨⟨by simp; omega, fun k o hk ho hc => ?_⟩, rfl, hbad, h1.set _, hbel1.setCell (p := ⟨N + 1, 0, none⟩) (by show N ≤ N + 1; omega) _⟩
  have hkl := (Array.getElem?_eq_some_iff.1 ho).1
  exact ((Below.heap_setCell w1 ⟨N + 1, 0, none⟩ _ k (by show k ≠ N + 1; omega)).trans (hb1.block k hkl)).trans ho

theorem not_good_of {letters : List UInt8} {all : List (List UInt8)} {pre rest : List (List UInt8)} {x : List UInt8} (hall : all = pre ++ x :: rest)
    (h : x.length < 1 ∨ 8 < x.length ∨ pre.length = 8 ∨ (∃ p ps, pre = p :: ps ∧ x.length ≠ p.length) ∨ ∃ c ∈ x, c ∉ letters) : ¬ Good letters all := by
  rintro ⟨g1, g2, g3⟩
  have hx : x ∈ all := by rw [hall]; simp
  rcases h with h | h | h | ⟨p, ps, hp, h⟩ | ⟨c, hc, h⟩
  · have := (g2 x hx).1; omega
  · have := (g2 x hx).2.1; omega
  · rw [hall] at g1; simp at g1; omega
  · have := (g2 x hx).2.2
    rw [hall, hp] at this
    simp at this
    omega
  · exact h (g3 x hx c hc)

theorem dropWhile_nil_iff {α : Type} (p : α → Bool) (l : List α) : l.dropWhile p = [] ↔ ∀ c ∈ l, p c = true := by
  induction l with
  | nil => simp
  | cons a l ih =>
    rw [List.dropWhile_cons]
    cases h : p a
    · simp [h]
    · simp [h, ih]

theorem trimS_some {x cut : List UInt8} (h : Lib.trimS x cut ≠ []) : ∃ c ∈ x, c ∉ cut := by
  refine Classical.byContradiction fun hn => h ?_
  have hall : ∀ c ∈ x, c ∈ cut := fun c hc => Classical.byContradiction fun hh => hn ⟨c, hc, hh⟩
  have e : x.reverse.dropWhile (fun b => cut.contains b) = [] := by
    rw [dropWhile_nil_iff]
    intro c hc
    simpa using hall c (List.mem_reverse.1 hc)
  unfold Lib.trimS Lib.trimLeftS Lib.trimRightS
  rw [e]
  rfl

set_option maxRecDepth 100000 in
set_option maxHeartbeats 4000000 in
theorem rows_in (n : Nat) (hn : 3 ≤ n) (s letters : List UInt8) (hs : s.length ≤ 9223372036854775807) (hc : letters.length < 4294967281) (ha : ∀ b ∈ letters, b.toNat < 128) (w : World) :
    CallsIn Fence.wide n Tryd.prog 38 #[.string ⟨s.toArray⟩, .string ⟨letters.toArray⟩] w (RowsOut letters s w) := by
  have h1 : 1 ≤ n := by omega
  obtain ⟨i0, hi, hz0, hz1, hz2⟩ := info_parts info63
  refine callsIn_of_wp_marks Tryd.func38 rfl trivial ?_ rfl
  simp only [Tryd.ntmps38, List.size_toArray, List.length_cons, List.length_nil, Nat.reduceAdd, Nat.reduceSub, Array.replicate_succ, Array.replicate_zero, List.push_toArray, List.append_toArray, List.nil_append, List.cons_append]
  gi_wp2_with (refine ⟨trivial, ?_⟩; gi_at_call 52; refine (callsIn_wide.2 (splitSeq_any _ _)).mono ?_; rintro e w' ⟨rfl, rfl⟩)
  have b0 := Boxed.new w 9 (.string ⟨letters.toArray⟩)
  have b1 := Boxed.new (w.alloc (.cells #[.string ⟨letters.toArray⟩] 9)) 60 (.slice none 0 0)
  have b2 := Boxed.new ((w.alloc (.cells #[.string ⟨letters.toArray⟩] 9)).alloc (.cells #[.slice none 0 0] 60)) 60 (.slice none 0 0)
  have b3 := Boxed.new (((w.alloc (.cells #[.string ⟨letters.toArray⟩] 9)).alloc (.cells #[.slice none 0 0] 60)).alloc (.cells #[.slice none 0 0] 60)) 9 (.string ⟨s.toArray⟩)
  have b4 := Boxed.new ((((w.alloc (.cells #[.string ⟨letters.toArray⟩] 9)).alloc (.cells #[.slice none 0 0] 60)).alloc (.cells #[.slice none 0 0] 60)).alloc (.cells #[.string ⟨s.toArray⟩] 9)) 9 (.string ⟨#[47]⟩)
  have b5 := Boxed.new (((((w.alloc (.cells #[.string ⟨letters.toArray⟩] 9)).alloc (.cells #[.slice none 0 0] 60)).alloc (.cells #[.slice none 0 0] 60)).alloc (.cells #[.string ⟨s.toArray⟩] 9)).alloc (.cells #[.string ⟨#[47]⟩] 9)) 3 (.int .i64 0)
  simp only [World.size_alloc] at b1 b2 b3 b4 b5
  have hB0 : Below w.heap.size w ((((((w.alloc (.cells #[.string ⟨letters.toArray⟩] 9)).alloc (.cells #[.slice none 0 0] 60)).alloc (.cells #[.slice none 0 0] 60)).alloc (.cells #[.string ⟨s.toArray⟩] 9)).alloc (.cells #[.string ⟨#[47]⟩] 9)).alloc (.cells #[.int .i64 0] 3)) :=
    ((((((Below.refl _ w).alloc (Nat.le_refl _) _).alloc (by simp) _).alloc (by simp; omega) _).alloc (by simp; omega) _).alloc (by simp; omega) _).alloc (by simp; omega) _
  replace b0 := ((((b0.alloc (.cells #[.slice none 0 0] 60)).alloc (.cells #[.slice none 0 0] 60)).alloc (.cells #[.string ⟨s.toArray⟩] 9)).alloc (.cells #[.string ⟨#[47]⟩] 9)).alloc (.cells #[.int .i64 0] 3)
  replace b1 := (((b1.alloc (.cells #[.slice none 0 0] 60)).alloc (.cells #[.string ⟨s.toArray⟩] 9)).alloc (.cells #[.string ⟨#[47]⟩] 9)).alloc (.cells #[.int .i64 0] 3)
  replace b2 := ((b2.alloc (.cells #[.string ⟨s.toArray⟩] 9)).alloc (.cells #[.string ⟨#[47]⟩] 9)).alloc (.cells #[.int .i64 0] 3)
  replace b3 := (b3.alloc (.cells #[.string ⟨#[47]⟩] 9)).alloc (.cells #[.int .i64 0] 3)
  replace b4 := b4.alloc (.cells #[.int .i64 0] 3)
  obtain ⟨W0, hW0⟩ : ∃ W0, (((((w.alloc (.cells #[.string ⟨letters.toArray⟩] 9)).alloc (.cells #[.slice none 0 0] 60)).alloc (.cells #[.slice none 0 0] 60)).alloc (.cells #[.string ⟨s.toArray⟩] 9)).alloc (.cells #[.string ⟨#[47]⟩] 9)).alloc (.cells #[.int .i64 0] 3) = W0 := ⟨_, rfl⟩
  have hsz : W0.heap.size = w.heap.size + 6 := by rw [← hW0]; simp
  rw [hW0] at b0 b1 b2 b3 b4 b5 hB0 ⊢
  refine wpIn_rangeFunc_split (gf := 87) h1 rfl (enters_of Tryd.func87 (by kernel_rfl) rfl) (splitSeq1_stops (n - 1) (by omega) _ _ _ (by omega) (by omega) s hs)
    b4.lt b3.lt b5.lt b4.cell b3.cell b5.cell b3.frozen
    (RowsI w.heap.size w letters) (fun c _ W => c = .ret ∧ ¬ Good letters (pieces s) ∧ Boxed W (w.heap.size + 1) 60 (.slice none 0 0) ∧ Below w.heap.size w W)
    (rowsI_own _ _ w letters (by omega)) ?hix (fun pre W v h => rowsI_set _ w letters pre W v h)
    ⟨⟨_, [], b2, rfl, GridAt.nil _ _⟩, b0, b1, by simp, by simp, hB0, by omega⟩
    (fun x => { tmps := #[.string ⟨s.toArray⟩, .string ⟨letters.toArray⟩, undef, .pointer (some ⟨w.heap.size, 0, none⟩), .pointer (some ⟨w.heap.size + 1, 0, none⟩), .pointer (some ⟨w.heap.size + 1 + 1, 0, none⟩), .string ⟨x.toArray⟩, undef, undef, undef, undef, .string ⟨s.toArray⟩, .func (.func 87) #[] #[.pointer (some ⟨w.heap.size + 1 + 1 + 1 + 1, 0, none⟩), .pointer (some ⟨w.heap.size + 1 + 1 + 1, 0, none⟩), .pointer (some ⟨w.heap.size + 1 + 1 + 1 + 2, 0, none⟩)], .string ⟨x.toArray⟩, undef, undef, undef, undef, undef, undef, undef, undef, undef, undef, undef, undef, undef, undef, undef, undef, undef, undef, undef, undef, undef, undef, undef, undef, undef, undef, undef, undef, undef, undef, undef, undef, undef, undef, undef, undef, undef, undef, undef, undef, undef, undef, undef, undef, undef, undef, undef, undef, undef, undef, undef, undef, undef, undef, undef, undef, undef], defers := [] }) ?assign ?body ?done ?stop
  case hix =>
    rintro c pre W W' row ⟨rfl, hb, hx, hbel⟩ hg hr
    exact ⟨rfl, hb, Boxed.keptCells hx hg (fun r e => (hr r e).2), hbel.grown hg (Nat.le_of_lt (Nat.lt_of_succ_lt hx.lt)) (fun k e => by have := (hr k e).1; omega)⟩
  case assign =>
    intro l x W K hK
    gi_wp2
    exact hK
  case body =>
    rintro l pre x rest W hall hI
    obtain ⟨⟨v, rs, hv, hrs, hgr⟩, hlet, hres, hok, hle, hbel, hsW⟩ := hI
    have cl := hlet.cell
    have cr := hres.cell
    have fr := hres.frozen
    have co := hv.cell
    have fo := hv.frozen
    have hBB : W0.heap.size ≤ W.heap.size := by omega
    have hn2 : 1 ≤ n - 1 - 1 := by omega
    obtain ⟨A, cp, hvf⟩ : ∃ A cp, v = .slice A pre.length cp := by
      rcases hgr.own.2 with ⟨e, hn⟩ | ⟨g, cap, cur, e, _⟩
      · exact ⟨none, 0, by rw [e, ← hrs, List.length_map, hn]⟩
      · exact ⟨_, _, by rw [e, ← hrs, List.length_map]⟩
    by_cases q1 : x.length < 1
    · have e1 : decide ((x.length : Int) < 1) = true := decide_eq_true (by omega)
      gi_wp2_with (first | ((with_reducible refine skipIn (i := 8) (b := false) ?_ ?_); rfl; go_frame) | ((with_reducible refine skipIn (i := 13) (b := false) ?_ ?_); rfl; go_frame) | ((with_reducible refine skipIn (i := 17) (b := true) ?_ ?_); rfl; go_frame) | ((with_reducible refine skipIn (i := 27) (b := false) ?_ ?_); rfl; go_frame))
      exact rows_bad hBB (by omega) (not_good_of hall (.inl q1)) hres hbel (Below.refl _ _)
    have e1 : decide ((x.length : Int) < 1) = false := decide_eq_false (by omega)
    by_cases q2 : 8 < x.length
    · have e2 : decide (8 < (x.length : Int)) = true := decide_eq_true (by omega)
      gi_wp2_with (first | ((with_reducible refine skipIn (i := 13) (b := false) ?_ ?_); rfl; go_frame) | ((with_reducible refine skipIn (i := 17) (b := true) ?_ ?_); rfl; go_frame) | ((with_reducible refine skipIn (i := 27) (b := false) ?_ ?_); rfl; go_frame))
      exact rows_bad hBB (by omega) (not_good_of hall (.inr (.inl q2))) hres hbel (Below.refl _ _)
    have e2 : decide (8 < (x.length : Int)) = false := decide_eq_false (by omega)
    by_cases q3 : pre.length = 8
    · have e3 : ((pre.length : Int) == 8) = true := beq_iff_eq.2 (by omega)
      subst hvf
      gi_wp2_with (first | ((with_reducible refine skipIn (i := 17) (b := true) ?_ ?_); rfl; go_frame) | ((with_reducible refine skipIn (i := 27) (b := false) ?_ ?_); rfl; go_frame))
      exact rows_bad hBB (by omega) (not_good_of hall (.inr (.inr (.inl q3)))) hres hbel (Below.refl _ _)
    have e3 : ((pre.length : Int) == 8) = false := beq_eq_false_iff_ne.2 (by omega)
    have hx8 : x.length ≤ 8 := by omega
    subst hvf
    by_cases q4 : pre = []
    · have e4 : decide (0 < (pre.length : Int)) = false := decide_eq_false (by rw [q4]; simp)
      have e4n : decide (0 < pre.length) = false := decide_eq_false (by rw [q4]; simp)
      have e4m : ¬ 0 < pre.length := by rw [q4]; simp
      have H4 := Lib.hid q4
      clear q4
      by_cases q5 : Lib.trimS x letters = []
      · have H5 := Lib.hid q5
        clear q5
        have hlr : rs.length = pre.length := by rw [← hrs, List.length_map]
        have hconv : ∀ u : World, (convert 9 63 (.string ⟨x.toArray⟩)).run Tryd.prog u = .ok (.slice (some ⟨u.heap.size, 0, none⟩) x.length (grownCap u x.length 0 5)) (Lib.bytesWorld u 5 ⟨x.toArray⟩) := fun u => by
          have h := Lib.run_convert_string_bytes (P := Tryd.prog) u 9 63 5 ⟨x.toArray⟩ Tryd.underlying9 Tryd.underlying63 Tryd.underlying5
          simpa [ByteArray.size] using h
        have hne : some (w.heap.size + 1 + 1) ≠ (Value.slice A pre.length cp).ownBlock := fun e => by have := (hgr.own.lt _ e.symm).1; omega
        have hbs : ∀ u : World, (Lib.bytesWorld u 5 ⟨x.toArray⟩).heap.size = u.heap.size + 1 := fun u => Lib.bytesWorld_size u 5 _
        gi_wp2_with (first | ((with_reducible refine skipIn (i := 17) (b := true) ?_ ?_); rfl; go_frame) | (refine ⟨trivial, ?_⟩; gi_at_call 53; refine (CallsIn.inRound l (callsIn_wide.2 (trim_nil x letters _ (by omega) hc ha H5))).mono ?_; rintro e w1 ⟨rfl, hb1⟩; have co1 := (hb1.cell (p := ⟨w.heap.size + 1 + 1, 0, none⟩) hv.lt).trans co; have cr1 := (hb1.cell (p := ⟨w.heap.size + 1, 0, none⟩) hres.lt).trans cr; have fr1 := (hb1.frozen (p := ⟨w.heap.size + 1, 0, none⟩) hres.lt).trans fr; have fo1 := (hb1.frozen (p := ⟨w.heap.size + 1 + 1, 0, none⟩) hv.lt).trans fo; have bo1 := (Lib.bytesWorld_old w1 5 ⟨x.toArray⟩ ⟨w.heap.size + 1 + 1, 0, none⟩ (Nat.lt_of_lt_of_le hv.lt hb1.size)).trans co1) | (gi_at_builtin; refine wpListIn_append_own _ rfl _ _ 60 rfl (w.heap.size + 6) 63 i0 (.slice none 0 0) 1 24 Tryd.underlying60 hi hz0 hz1 hz2 rfl (by decide) (.slice A pre.length cp) rs.length (rs.map rowVal) rfl (((hgr.below hb1).bytes _).own.alloc _) ⟨w1.heap.size + 1, 0, none⟩ 1 1 [rowVal (x, w1.heap.size, grownCap w1 x.length 0 5)] rfl rfl ?d1 ?d2 ?d3 ?d4 ?d5 ?_; rotate_right; intro v' w3 hown' hgrow hdrop; clear hdrop; obtain ⟨g', cap', hvv⟩ := ownsRow_succ hown'; subst hvv; have hv3 := box_through hv hb1 hgrow hne; have co3 := hv3.cell; have fo3 := hv3.frozen))
        case d1 => exact cell_new1 _ _ _ (hbs w1)
        case d2 => simp [Value.oneCell', rowVal]
        case d3 => rw [hlr]; unfold maxLen; omega
        case d4 => rw [hlr]; omega
        case d5 => have := hb1.size; simp [hbs]; omega
        have hst := rowsI_step (B := W0.heap.size) (v := .slice A pre.length cp) rfl hBB (by omega) hv hrs hgr hlet hres hbel (by rw [H4.out]; intro r hr; simp at hr; subst hr; simp; omega) (by simp; omega) hb1 hown' hgrow
        rw [hlr] at hst
        exact ⟨hst.2.1, hst.2.2, hst.1⟩
      · have e5 : (Lib.trimS x letters).isEmpty = false := by simpa using q5
        gi_wp2_with (first | ((with_reducible refine skipIn (i := 17) (b := true) ?_ ?_); rfl; go_frame) | (refine ⟨trivial, ?_⟩; gi_at_call 53; refine (CallsIn.inRound l (callsIn_wide.2 (trim_any x letters _ (by omega) hc ha))).mono ?_; rintro e w1 ⟨rfl, hb1⟩; have co1 := (hb1.cell (p := ⟨w.heap.size + 1 + 1, 0, none⟩) hv.lt).trans co; have cr1 := (hb1.cell (p := ⟨w.heap.size + 1, 0, none⟩) hres.lt).trans cr; have fr1 := (hb1.frozen (p := ⟨w.heap.size + 1, 0, none⟩) hres.lt).trans fr; have fo1 := (hb1.frozen (p := ⟨w.heap.size + 1 + 1, 0, none⟩) hv.lt).trans fo; have bo1 := (Lib.bytesWorld_old w1 5 ⟨x.toArray⟩ ⟨w.heap.size + 1 + 1, 0, none⟩ (Nat.lt_of_lt_of_le hv.lt hb1.size)).trans co1))
        exact rows_bad hBB (by omega) (not_good_of hall (.inr (.inr (.inr (.inr (trimS_some q5)))))) hres hbel hb1
    · have e4 : decide (0 < (pre.length : Int)) = true := decide_eq_true (by have := List.length_pos_iff.2 q4; omega)
      obtain ⟨p0, ps, hp0⟩ := List.exists_cons_of_ne_nil q4
      have hrn : rs ≠ [] := by intro e; rw [e] at hrs; exact q4 hrs.symm
      obtain ⟨r0, rs', hr0⟩ := List.exists_cons_of_ne_nil hrn
      obtain ⟨g, cap, hv', hcells⟩ := hgr.form hrn
      have c0 := hcells 0 r0 (by rw [hr0]; rfl)
      have hr0p : r0.1 = p0 := by rw [hr0, hp0] at hrs; simpa using congrArg (fun l => l.head?) hrs
      have hA : A = some ⟨g, 0, none⟩ := by injection hv'
      subst hA
      have c0' : W.cell? ⟨g, 0, none⟩ = some (.slice (some ⟨r0.2.1, 0, none⟩) r0.1.length r0.2.2) := c0
      have hpl : 0 < pre.length := List.length_pos_iff.2 q4
      have e4n : decide (0 < pre.length) = true := decide_eq_true hpl
      have hok0 := hok
      have hp0h : (pre.headD []).length = r0.1.length := by rw [hp0, hr0p]; rfl
      have HP := Lib.hid hp0
      have HR := Lib.hid hr0
      have HO := Lib.hid hr0p
      have HH := Lib.hid hp0h
      clear c0 hcells hv' hp0 hr0 hr0p hp0h q4 hok0
      by_cases q6 : x.length = r0.1.length
      · have e6 : ((x.length : Int) != (r0.1.length : Int)) = false := by rw [q6]; simp
        have e6n : (x.length != r0.1.length) = false := by rw [q6]; simp
        have H6 := Lib.hid q6
        clear q6
        by_cases q5 : Lib.trimS x letters = []
        · have H5 := Lib.hid q5
          clear q5
          have hlr : rs.length = pre.length := by rw [← hrs, List.length_map]
          have hconv : ∀ u : World, (convert 9 63 (.string ⟨x.toArray⟩)).run Tryd.prog u = .ok (.slice (some ⟨u.heap.size, 0, none⟩) x.length (grownCap u x.length 0 5)) (Lib.bytesWorld u 5 ⟨x.toArray⟩) := fun u => by
            have h := Lib.run_convert_string_bytes (P := Tryd.prog) u 9 63 5 ⟨x.toArray⟩ Tryd.underlying9 Tryd.underlying63 Tryd.underlying5
            simpa [ByteArray.size] using h
          have hne : some (w.heap.size + 1 + 1) ≠ (Value.slice (some ⟨g, 0, none⟩) pre.length cp).ownBlock := fun e => by have := (hgr.own.lt _ e.symm).1; omega
          have hbs : ∀ u : World, (Lib.bytesWorld u 5 ⟨x.toArray⟩).heap.size = u.heap.size + 1 := fun u => Lib.bytesWorld_size u 5 _
          gi_wp2_with (first | ((with_reducible refine skipIn (i := 27) (b := false) ?_ ?_); rfl; go_frame) | (refine ⟨trivial, ?_⟩; gi_at_call 53; refine (CallsIn.inRound l (callsIn_wide.2 (trim_nil x letters _ (by omega) hc ha H5))).mono ?_; rintro e w1 ⟨rfl, hb1⟩; have co1 := (hb1.cell (p := ⟨w.heap.size + 1 + 1, 0, none⟩) hv.lt).trans co; have cr1 := (hb1.cell (p := ⟨w.heap.size + 1, 0, none⟩) hres.lt).trans cr; have fr1 := (hb1.frozen (p := ⟨w.heap.size + 1, 0, none⟩) hres.lt).trans fr; have fo1 := (hb1.frozen (p := ⟨w.heap.size + 1 + 1, 0, none⟩) hv.lt).trans fo; have bo1 := (Lib.bytesWorld_old w1 5 ⟨x.toArray⟩ ⟨w.heap.size + 1 + 1, 0, none⟩ (Nat.lt_of_lt_of_le hv.lt hb1.size)).trans co1) | (gi_at_builtin; refine wpListIn_append_own _ rfl _ _ 60 rfl (w.heap.size + 6) 63 i0 (.slice none 0 0) 1 24 Tryd.underlying60 hi hz0 hz1 hz2 rfl (by decide) (.slice (some ⟨g, 0, none⟩) pre.length cp) rs.length (rs.map rowVal) rfl (((hgr.below hb1).bytes _).own.alloc _) ⟨w1.heap.size + 1, 0, none⟩ 1 1 [rowVal (x, w1.heap.size, grownCap w1 x.length 0 5)] rfl rfl ?d1 ?d2 ?d3 ?d4 ?d5 ?_; rotate_right; intro v' w3 hown' hgrow hdrop; clear hdrop; obtain ⟨g', cap', hvv⟩ := ownsRow_succ hown'; subst hvv; have hv3 := box_through hv hb1 hgrow hne; have co3 := hv3.cell; have fo3 := hv3.frozen))
          case d1 => exact cell_new1 _ _ _ (hbs w1)
          case d2 => simp [Value.oneCell', rowVal]
          case d3 => rw [hlr]; unfold maxLen; omega
          case d4 => rw [hlr]; omega
          case d5 => have := hb1.size; simp [hbs]; omega
          have hst := rowsI_step (B := W0.heap.size) (v := .slice (some ⟨g, 0, none⟩) pre.length cp) rfl hBB (by omega) hv hrs hgr hlet hres hbel (hok_snoc hok hpl HH.out (by omega) hx8 H6.out) (by simp; omega) hb1 hown' hgrow
          rw [hlr] at hst
          exact ⟨hst.2.1, hst.2.2, hst.1⟩
        · have e5 : (Lib.trimS x letters).isEmpty = false := by simpa using q5
          gi_wp2_with (first | ((with_reducible refine skipIn (i := 27) (b := false) ?_ ?_); rfl; go_frame) | (refine ⟨trivial, ?_⟩; gi_at_call 53; refine (CallsIn.inRound l (callsIn_wide.2 (trim_any x letters _ (by omega) hc ha))).mono ?_; rintro e w1 ⟨rfl, hb1⟩; have co1 := (hb1.cell (p := ⟨w.heap.size + 1 + 1, 0, none⟩) hv.lt).trans co; have cr1 := (hb1.cell (p := ⟨w.heap.size + 1, 0, none⟩) hres.lt).trans cr; have fr1 := (hb1.frozen (p := ⟨w.heap.size + 1, 0, none⟩) hres.lt).trans fr; have fo1 := (hb1.frozen (p := ⟨w.heap.size + 1 + 1, 0, none⟩) hv.lt).trans fo; have bo1 := (Lib.bytesWorld_old w1 5 ⟨x.toArray⟩ ⟨w.heap.size + 1 + 1, 0, none⟩ (Nat.lt_of_lt_of_le hv.lt hb1.size)).trans co1))
          exact rows_bad hBB (by omega) (not_good_of hall (.inr (.inr (.inr (.inr (trimS_some q5)))))) hres hbel hb1
      · have e6 : ((x.length : Int) != (r0.1.length : Int)) = true := by simp; omega
        have e6n : (x.length != r0.1.length) = true := by simp; omega
        gi_wp2_with (first | ((with_reducible refine skipIn (i := 27) (b := false) ?_ ?_); rfl; go_frame))
        exact rows_bad hBB (by omega) (not_good_of hall (.inr (.inr (.inr (.inl ⟨p0, ps, HP.out, by rw [← HO.out]; exact q6⟩))))) hres hbel (Below.refl _ _)
  case done =>
    rintro D W hD hI hK
    obtain ⟨⟨v, rs, hv, hrs, hgr⟩, hlet, hres, hok, hle, hbel, hsW⟩ := hI
    have cl := hlet.cell
    have cr := hres.cell
    have fr := hres.frozen
    have co := hv.cell
    have hrn : rs ≠ [] := by intro e; rw [e] at hrs; exact pieces_ne s hrs.symm
    obtain ⟨g, cap, rfl, hcells⟩ := hgr.form hrn
    have hlr : rs.length = (pieces s).length := by rw [← hrs, List.length_map]
    have hl8 : rs.length ≤ 8 := by omega
    have HLR := Lib.hid hlr
    have HRS := Lib.hid hrs
    have HOK := Lib.hid hok
    clear hlr hrs hW0 hok
    gi_wp2
    gi_loop [54] (fun i => ∃ k : Nat, k ≤ rs.length ∧ i = .int .i64 k ∧ ∀ j r, j < k → rs[j]? = some r → ∀ c ∈ r.1, c ∈ letters) (fun i => rs.length - (intOf i).toNat)
    case atStart => exact ⟨0, Nat.zero_le _, rfl, fun j r hj => absurd hj (Nat.not_lt_zero _)⟩
    case round =>
      obtain ⟨k, hk, rfl, hdone⟩ := hrel
      by_cases hkl : k < rs.length
      · obtain ⟨x, hx⟩ : ∃ x, rs[k]? = some x := ⟨rs[k], List.getElem?_eq_getElem hkl⟩
        have c1 : W.cell? ⟨g, k, none⟩ = some (.slice (some ⟨x.2.1, 0, none⟩) x.1.length x.2.2) := hcells k x hx
        have hxm : x ∈ rs := List.mem_of_getElem? hx
        have hrow := (hgr.rows x hxm).2
        have hx8 : x.1.length ≤ 8 := (HOK.out x.1 (by rw [← HRS.out]; exact List.mem_map.2 ⟨x, hxm, rfl⟩)).2.1
        have HX := Lib.hid hx
        have HD := Lib.hid hdone
        clear hx hdone hcells
        gi_wp2
        gi_loop [60] (fun i => ∃ m : Nat, m ≤ x.1.length ∧ i = .int .i64 m ∧ ∀ j c, j < m → x.1[j]? = some c → c ∈ letters) (fun i => x.1.length - (intOf i).toNat)
        case atStart => exact ⟨0, Nat.zero_le _, rfl, fun j r hj => absurd hj (Nat.not_lt_zero _)⟩
        case round =>
          obtain ⟨m, hm, rfl, hdone2⟩ := hrel
          have HD2 := Lib.hid hdone2
          clear hdone2
          by_cases hml : m < x.1.length
          · obtain ⟨c, hcx⟩ : ∃ c, x.1[m]? = some c := ⟨x.1[m], List.getElem?_eq_getElem hml⟩
            have c2 : W.cell? ⟨x.2.1, m, none⟩ = some (.int .u8 c.toNat) := (hrow.2 m c hcx).1
            have HC := Lib.hid hcx
            have hrow2 := Lib.hid hrow
            clear hcx hrow
            by_cases hin : c ∈ letters
            · gi_wp2_with (refine ⟨trivial, ?_⟩; gi_at_call 30; refine (callsIn_wide.2 (index_in letters c _ hin)).mono ?_; rintro e w' ⟨q, hq, rfl, rfl⟩)
              go_round
              case rel =>
                go_light
                refine ⟨m + 1, by omega, by go_num, fun j c' hj hc' => ?_⟩
                rcases Nat.lt_succ_iff_lt_or_eq.1 hj with hj | rfl
                · exact HD2.out j c' hj hc'
                · have := HC.out.symm.trans hc'; cases this; exact hin
              case measure => go_light; simp [intOf]; omega
            · have hbad : ¬ Good letters (pieces s) := fun hg => hin (hg.2.2 x.1 (by rw [← HRS.out]; exact List.mem_map.2 ⟨x, hxm, rfl⟩) c (List.mem_of_getElem? HC.out))
              gi_wp2_with (refine ⟨trivial, ?_⟩; gi_at_call 30; refine (callsIn_wide.2 (index_out letters c _ hin)).mono ?_; rintro e w' ⟨rfl, rfl⟩)
              have hK2 := (Below.heap_setCell W ⟨w.heap.size + 1, 0, none⟩ (.slice none 0 0) D (by show D ≠ w.heap.size + 1; omega)).trans hK
              have hb2 := hres.set (.slice none 0 0)
              have hb3 : Boxed ((W.setCell ⟨w.heap.size + 1, 0, none⟩ (.slice none 0 0)).putObj D (.deferred none)) (w.heap.size + 1) 60 (.slice none 0 0) := putObj_heap hK2 rfl hb2
              have hbel2 := below_put (o' := .deferred none) (hbel.setCell (p := ⟨w.heap.size + 1, 0, none⟩) (by show w.heap.size ≤ w.heap.size + 1; omega) (.slice none 0 0)) (by omega) hK2
              refine ⟨by simp, .inl ⟨_, _, rfl, run_takeDeferred hK2, ?_⟩⟩
              refine ⟨.slice none 0 0, ?_, ⟨_, rfl, hbel2, .inl ⟨hbad, rfl⟩⟩⟩
              simp [results, Tryd.f38, go_sem, hb3.cell]
          · gi_wp2
            go_round
            case rel =>
              go_light
              refine ⟨k + 1, by omega, by go_num, fun j r hj hr c hc => ?_⟩
              rcases Nat.lt_succ_iff_lt_or_eq.1 hj with hj | rfl
              · exact HD.out j r hj hr c hc
              · have := HX.out.symm.trans hr
                cases this
                obtain ⟨i, hi, he⟩ := List.getElem_of_mem hc
                exact HD2.out i c (by omega) (by rw [← he]; exact List.getElem?_eq_getElem hi)
            case measure => go_light; simp [intOf]; omega
      · have hgood : Good letters (pieces s) := by
          refine ⟨by rw [← HLR.out]; omega, HOK.out, fun r hr c hc => ?_⟩
          rw [← HRS.out] at hr
          obtain ⟨x, hx, rfl⟩ := List.mem_map.1 hr
          obtain ⟨i, hi, he⟩ := List.getElem_of_mem hx
          exact hdone i x (by omega) (by rw [← he]; exact List.getElem?_eq_getElem hi) c hc
        clear hdone
        gi_wp2
        have hK2 := (Below.heap_setCell W ⟨w.heap.size + 1, 0, none⟩ (.slice (some ⟨g, 0, none⟩) rs.length cap) D (by show D ≠ w.heap.size + 1; omega)).trans hK
        have hb2 := hres.set (.slice (some ⟨g, 0, none⟩) rs.length cap)
        have hb3 : Boxed ((W.setCell ⟨w.heap.size + 1, 0, none⟩ (.slice (some ⟨g, 0, none⟩) rs.length cap)).putObj D (.deferred none)) (w.heap.size + 1) 60 (.slice (some ⟨g, 0, none⟩) rs.length cap) := putObj_heap hK2 rfl hb2
        have hbel2 := below_put (o' := .deferred none) (hbel.setCell (p := ⟨w.heap.size + 1, 0, none⟩) (by show w.heap.size ≤ w.heap.size + 1; omega) (.slice (some ⟨g, 0, none⟩) rs.length cap)) (by omega) hK2
        have hg2 := ((hgr.setCell (p := ⟨w.heap.size + 1, 0, none⟩) (by show w.heap.size + 1 < w.heap.size + 6; omega) (.slice (some ⟨g, 0, none⟩) rs.length cap)).keptCells (grownBy_putObj' _ D (.deferred none)) (fun r e => by cases e; exact ⟨_, hK2, rfl⟩)).mono (B' := w.heap.size) (by omega)
        refine ⟨by simp, .inl ⟨_, _, rfl, run_takeDeferred hK2, ?_⟩⟩
        refine ⟨.slice (some ⟨g, 0, none⟩) rs.length cap, ?_, ⟨_, rfl, hbel2, .inr ⟨hgood, rs, HRS.out, hg2⟩⟩⟩
        simp [results, Tryd.f38, go_sem, hb3.cell]
  case stop =>
    rintro D c pre W hD hpre ⟨rfl, hbad, hb, hbel⟩ hK
    gi_wp2
    have hb3 : Boxed (W.putObj D (.deferred none)) (w.heap.size + 1) 60 (.slice none 0 0) := putObj_heap hK rfl hb
    refine ⟨by simp, .inl ⟨_, _, rfl, run_takeDeferred hK, ?_⟩⟩
    refine ⟨.slice none 0 0, ?_, ⟨_, rfl, below_put hbel (by omega) hK, .inl ⟨hbad, rfl⟩⟩⟩
    simp [results, Tryd.f38, go_sem, hb3.cell]

/-- domino.rows: a text's rows, or nil. -/
theorem rows_any (s letters : List UInt8) (hs : s.length ≤ 9223372036854775807) (hc : letters.length < 4294967281) (ha : ∀ b ∈ letters, b.toNat < 128) (w : World) :
    Calls Tryd.prog 38 #[.string ⟨s.toArray⟩, .string ⟨letters.toArray⟩] w (RowsOut letters s w) :=
  callsIn_wide.1 (rows_in 3 (Nat.le_refl _) s letters hs hc ha w)
end Go.Proofs.YtahihapgbcoanaaDoor
