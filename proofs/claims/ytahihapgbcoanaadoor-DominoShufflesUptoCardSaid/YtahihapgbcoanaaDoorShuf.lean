/- ferlaw.DominoShuffles returns true for every text and every list of bools whose reading is of bulk at most 1048576; its arguments read behind the call as they read before. The tied card of the second form. -/
import Derived.Test.YtahihapgbcoanaaDoorShLaw
import Derived.Test.YtahihapgbcoanaaDoorFrame
import Derived.Deep.Grids
import Derived.Carry
namespace Go.Proofs.YtahihapgbcoanaaDoor.shuffles
open Go.ChangeShapes Go.WideShapes Go.ChangeAt Go.RowKit Go.Deep Go.Proofs.YtahihapgbcoanaaDoor Go.Proofs.YtahihapgbcoanaaDoor.frame
open Go.ChangeMaps (open_string shut_string)

theorem u8types : U8Types Tryd.prog Tryd.laysMap_ren := { Tryd.laysMap with }
theorem tabs {W : World} (h3 : Lib.VarReads Tryd.prog W "unicode/utf8.first" Lib.firstData) (h4 : Lib.VarReads Tryd.prog W "unicode/utf8.acceptRanges" Lib.acceptData) : Lib.Utf8Tabs 1 2 W :=
  utf8Tabs_of_readsT (ρ := Tryd.laysMap_ren) u8types ⟨by kernel_rfl, by kernel_rfl, by kernel_rfl, by kernel_rfl, by kernel_rfl, by kernel_rfl, by kernel_rfl⟩ h3 h4
theorem firstIs : Rows.laid_unicode_utf8_first = Lib.firstData := by kernel_rfl
theorem acceptIs : Rows.laid_unicode_utf8_acceptRanges = Lib.acceptData := by kernel_rfl
theorem laidOut : laidOutB Tryd.prog = true := by kernel_rfl
theorem rec49 : Tryd.prog.readableRec 49 = true := by kernel_rfl
theorem row49 : (49 : TypeId) < Tryd.prog.types.size := of_decide_eq_true (by kernel_rfl)
theorem cells4 : Tryd.prog.cellsOf 4 = 1 := by kernel_rfl
theorem bulk_bools {H : Type} (f : Nat → Bool) : ∀ l : List Nat, Rows.uptoBulkAll (l.map fun i => DataW.lit (H := H) (.bool (f i))) = l.length := by
  intro l
  induction l with
  | nil => rfl
  | cons a l ih =>
    simp only [List.map_cons, Rows.uptoBulkAll, Rows.uptoBulk, ih, List.length_cons]
    omega
theorem bools_at {w : World} {a : Addr} {len : Nat} {B : Nat → Bool} (h : ∀ i, i < len → w.cell? (a.add i) = some (.bool (B i))) : BoolsAt w (some a) ((List.range len).map B) := by
  refine ⟨fun i b hi => ?_⟩
  have hlt : i < len := by
    have := (List.getElem?_eq_some_iff.1 hi).1
    simpa using this
  have hb : B i = b := by
    rw [List.getElem?_map, List.getElem?_range hlt] at hi
    exact Option.some.inj hi
  have hc := h i hlt
  obtain ⟨g, o, spot⟩ := a
  have hspot : spot = none := by simpa [Addr.add] using World.cell?_spot (h 0 (by omega))
  subst hspot
  rw [Go.WideShapes.add_plain, hb] at hc
  exact ⟨g, o, rfl, cell_lt hc, hc⟩
theorem row_lt {w : World} {a : Addr} {cap : Nat} {B : Nat → Bool} (h : ∀ i, i < cap → w.cell? (a.add i) = some (.bool (B i))) {i : Nat} (hi : i < cap) : a.block < w.heap.size := by
  have h0 := h 0 (by omega)
  obtain ⟨g, o, spot⟩ := a
  have hspot : spot = none := by simpa [Addr.add] using World.cell?_spot h0
  subst hspot
  rw [Go.WideShapes.add_plain] at h0
  exact cell_lt h0
theorem bools_none (w : World) : BoolsAt w none [] := ⟨fun i b hi => by simp at hi⟩
theorem small_str {H : Type} {s : ByteArray} {d : DataW H} (hk : Rows.uptoSmall H [.lit (.string s.data.toList), d] = true) : s.data.toList.length ≤ 1048576 ∧ Rows.uptoBulk d ≤ 1048576 := by
  have h : Rows.uptoBulkAll [DataW.lit (H := H) (.string s.data.toList), d] ≤ 1048576 := of_decide_eq_true hk
  simp only [Rows.uptoBulkAll, Rows.uptoBulk] at h
  omega
set_option maxRecDepth 100000 in
theorem contract (H : Type) (enc : TypeId × Value → H) (W : World) (base : Nat) (args : Array Value) (ds gs : List (DataW H)) (before : List MemPlace)
    (hval : ∀ (j : Nat) t v, Tryd.f6.params[j]? = some t → args[j]? = some v → Value.okWide Tryd.prog W .any base t v)
    (hW : DataW.Whole enc Tryd.prog Tryd.f6.params.toList Rows.dominoShufflesSpec.vars false W args.toList ds gs before) (hk : Rows.uptoSmall H (ds ++ gs) = true) (hT : Lib.Utf8Tabs 1 2 W) (hsh : W.ShapedOpen Tryd.prog) :
    Calls Tryd.prog 6 args W fun e W' => ∃ v, e = .returned v ∧ Rows.dominoShufflesSpec.post enc Tryd.prog Tryd.f6 false true false false W args v W' := by
  have hW' := hW
  obtain ⟨p, q, hA0, hV, rfl, hfz, hnd⟩ := hW
  have hA : DataW.TrodAll enc Tryd.prog W 0 (fun _ => true) true Tryd.f6.params.toList args.toList ds p := hA0
  rw [Tryd.params6] at hA hval
  obtain ⟨v0, vs0, d0, ds0, p0, q0, hargs, rfl, rfl, h0, r0⟩ := trodAll_cons hA
  obtain ⟨v1, vs1, d1, ds1, p1, q1, rfl, rfl, rfl, h1, r1⟩ := trodAll_cons r0
  obtain ⟨rfl, rfl, rfl⟩ := trodAll_nil r1
  obtain rfl : args = #[v0, v1] := by cases args; simp_all
  obtain ⟨rfl, rfl⟩ := trodVars_none hV
  obtain ⟨s, rfl, rfl, rfl, hmax⟩ := open_string Tryd.underlying9 (hval 0 9 v0 rfl rfl) h0
  obtain ⟨a0, len, cap, rfl⟩ := okWide_slice Tryd.underlying49 (hval 1 49 v1 rfl rfl)
  obtain ⟨m, hm⟩ := max_cell W hsh
  have h1' := h1
  obtain ⟨fuel, hf⟩ := h1
  clear hA0
  simp only [List.append_nil, List.nil_append] at hW' hk
  have hl := small_str hk
  have hup : ∃ up : List Bool, up.length = len ∧ up.length ≤ 1048576 ∧ BoolsAt W a0 up ∧ ∀ x ∈ p1, x.block < W.heap.size := by
    rcases open_bools Tryd.underlying49 Tryd.underlying4 cells4 hf with ⟨hcs, hx⟩ | ⟨a, len', cap', B, hcs, _, hle, _, hx, hcell⟩
    · simp only [Value.cells] at hcs
      have e := (List.cons.inj (show [Value.slice a0 len cap] = [.slice none 0 0] from hcs)).1
      injection e with e1 e2 e3
      subst e1 e2 e3
      refine ⟨[], rfl, by simp, bools_none W, ?_⟩
      simp only [Prod.mk.injEq] at hx
      rw [hx.2]
      simp
    · have e := (List.cons.inj (show [Value.slice a0 len cap] = [.slice (some a) len' cap'] from hcs)).1
      injection e with e1 e2 e3
      subst e1 e2 e3
      simp only [Prod.mk.injEq] at hx
      have hb := hl.2
      rw [hx.1] at hb
      simp only [boolRow, Rows.uptoBulk, bulk_bools, List.length_range] at hb
      refine ⟨(List.range len).map B, by simp, by simp; omega, bools_at (fun i hi => hcell i (by omega)), ?_⟩
      rw [hx.2]
      intro x hx2
      obtain ⟨i, hi, rfl⟩ := List.mem_map.1 hx2
      exact row_lt hcell (List.mem_range.1 hi)
  obtain ⟨up, hlen, hu, hbools, hpl⟩ := hup
  subst hlen
  have walk := shuffles_law s.data.toList up a0 cap m W hl.1 hu hT hbools hm
  refine walk.mono fun e W' ⟨he, hg⟩ => ?_
  subst he
  have e1 : Rows.dominoShufflesSpec.fn H ([.lit (.string s.data.toList), d1] ++ []) = { results := [.lit (.bool true)], args := [.lit (.string s.data.toList), d1] } := rfl
  refine ⟨_, rfl, _, _, _, [], p1, [], hW', ?_, ?_, ?_, hg.frame _, fun h => by cases h⟩
  · rw [e1]; exact trodAll_mk1 (shut_bool Tryd.underlying4 _)
  · rw [e1]
    have ha := trodAll_cons_mk (shut_string Tryd.underlying9 hmax) (trodAll_cons_mk (Below.trod laidOut rec49 row49 h1' hg hpl) trodAll_mk0)
    simpa using ha
  · rw [e1]; rfl
theorem reads (os : Os) {H : Type} (enc : TypeId × Value → H) : ∃ places, DataW.whole enc Tryd.prog ((laidWorld os).forCall (fun _ _ => 0) ⟨#[], #[.string ⟨#[]⟩, .slice none 0 0], []⟩).memory Tryd.f6.params.toList Rows.dominoShufflesSpec.vars false #[Value.string ⟨#[]⟩, .slice none 0 0].toList 8 = some ([.lit (.string []), .nil], [], places) :=
  ⟨[], by kernel_rfl⟩

set_option maxRecDepth 100000 in
theorem lifted (os : Os) (started : os.Started) (H : Type) (enc : TypeId × Value → H) (F : Stop.Interp) :
    ReturnsInHanded {} Tryd.checked os 6 .any ((Rows.OpenSpec.upto Rows.dominoShufflesSpec).preRow enc Tryd.prog Tryd.f6 Rows.dominoShufflesUptoRow.domain false Rows.dominoShufflesUptoRow.laid) (((Rows.OpenSpec.upto Rows.dominoShufflesSpec).at F).post enc Tryd.prog Tryd.f6 false true false false) := by
  obtain ⟨places, hx⟩ := reads os enc
  refine returnsInHanded_of_row (C := Tryd.checked) (s := Rows.OpenSpec.upto Rows.dominoShufflesSpec) own started (by kernel_rfl) Tryd.func6
    (witness_row_at (enc := enc) (C := Tryd.checked) false (laidWorld os) #[.string ⟨#[]⟩, .slice none 0 0] rfl (by kernel_rfl) (by kernel_rfl) (by kernel_rfl)
      (OpenSpec.preRow_of_cond 8 hx (by kernel_rfl) (fun k hk => by cases hk; kernel_rfl) (by kernel_rfl) (laid_met os _))) ?_
  intro W base args ds gs before hval hW _ hcond _ hL hsh _
  exact contract H enc W base args ds gs before hval hW (hcond _ rfl) (tabs (by rw [← firstIs]; exact Lib.laidMet.reads hL (.tail _ (.head _))) (by rw [← acceptIs]; exact Lib.laidMet.reads hL (.head _))) hsh

theorem said : Rows.DominoShufflesUptoSaid :=
  OpenClaim.holds_of_cond 6 Tryd.f6 rfl rfl rfl rfl rfl rfl rfl ⟨rfl, rfl, rfl, rfl, rfl⟩ rfl rfl rfl rfl rfl (by kernel_rfl) Tryd.func6 (by kernel_rfl)
    (of_decide_eq_true (by kernel_rfl)) (by unfold Func.isWrapper; first | (rw [if_pos (by decide +kernel)]; kernel_rfl) | (rw [if_neg (by decide +kernel)]; exact ⟨rfl, rfl⟩))
    (fun os started H enc _ F => by rw [OpenClaim.pre_eq_preRow]; exact lifted os started H enc F)

/-- No parameter wants a stand-in; the program's own looks are off. -/
theorem plain (f : FuncId) (fn : Func) (hf : Tryd.pinned.checked.prog.funcNamed "ferrers/ferlaw.DominoShuffles" = some f) (hfn : Tryd.pinned.checked.prog.funcs[f]? = some fn) :
    false = Tryd.pinned.checked.prog.looks [] ∧ ∀ (j : Nat) t, fn.params[j]? = some t → Tryd.pinned.checked.prog.wantsStandIn t = false := by
  obtain rfl : f = 6 := Option.some.inj ((show Tryd.prog.funcNamed "ferrers/ferlaw.DominoShuffles" = some 6 by kernel_rfl).symm.trans hf) |>.symm
  obtain rfl : fn = Tryd.f6 := (Option.some.inj (Tryd.func6.symm.trans hfn)).symm
  refine ⟨by kernel_rfl, fun j t ht => ?_⟩
  rw [Tryd.params6] at ht
  have hm := Array.mem_of_getElem? ht
  simp only [List.mem_toArray, List.mem_cons, List.not_mem_nil, or_false] at hm
  rcases hm with rfl | rfl
  · exact (show Tryd.prog.wantsStandIn 9 = false by kernel_rfl)
  · exact (show Tryd.prog.wantsStandIn 49 = false by kernel_rfl)

/-- THE CARD. -/
theorem card : Rows.DominoShufflesUptoCardSaid :=
  Claim7.holds_tied_plain_at .later [] _ _ _ _ said (fun _ h => by cases h) (by kernel_rfl) (fun _ h => by cases h) dominoShufflesUpto_row_tie rfl ⟨rfl, rfl⟩ (by kernel_rfl) rfl plain (by kernel_rfl)
end Go.Proofs.YtahihapgbcoanaaDoor.shuffles
