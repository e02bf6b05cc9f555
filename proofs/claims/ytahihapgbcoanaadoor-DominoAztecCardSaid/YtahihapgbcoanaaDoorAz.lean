/- ferkeep.DominoAztec returns true for every number, every list of numbers and every list of bools; its arguments read behind the call as they read before. The tied card. -/
import Derived.Test.YtahihapgbcoanaaDoorAzL
import Derived.Test.YtahihapgbcoanaaDoorFrame
import Derived.Deep.Grids
import Derived.ChangeSlices
import Derived.Carry
namespace Go.Proofs.YtahihapgbcoanaaDoor.az
open Go.ChangeShapes Go.WideShapes Go.ChangeAt Go.RowKit Go.Deep Go.Proofs.YtahihapgbcoanaaDoor Go.Proofs.YtahihapgbcoanaaDoor.frame

theorem u8types : U8Types Tryd.prog Tryd.laysMap_ren := { Tryd.laysMap with }
theorem tabs {W : World} (h3 : Lib.VarReads Tryd.prog W "unicode/utf8.first" Lib.firstData) (h4 : Lib.VarReads Tryd.prog W "unicode/utf8.acceptRanges" Lib.acceptData) : Lib.Utf8Tabs 1 2 W :=
  utf8Tabs_of_readsT (ρ := Tryd.laysMap_ren) u8types ⟨by kernel_rfl, by kernel_rfl, by kernel_rfl, by kernel_rfl, by kernel_rfl, by kernel_rfl, by kernel_rfl⟩ h3 h4
theorem firstIs : Rows.laid_unicode_utf8_first = Lib.firstData := by kernel_rfl
theorem acceptIs : Rows.laid_unicode_utf8_acceptRanges = Lib.acceptData := by kernel_rfl
theorem rec49 : Tryd.prog.readableRec 49 = true := by kernel_rfl
theorem row49 : (49 : TypeId) < Tryd.prog.types.size := of_decide_eq_true (by kernel_rfl)
theorem rec57 : Tryd.prog.readableRec 57 = true := by kernel_rfl
theorem row57 : (57 : TypeId) < Tryd.prog.types.size := of_decide_eq_true (by kernel_rfl)
theorem cells4 : Tryd.prog.cellsOf 4 = 1 := by kernel_rfl
theorem bools_at {w : World} {a : Addr} {len : Nat} {B : Nat → Bool} (h : ∀ i, i < len → w.cell? (a.add i) = some (.bool (B i))) : BoolsAt w (some a) ((List.range len).map B) := by
  refine ⟨fun i b hi => ?_⟩
  have hlt : i < len := by
    have := (List.getElem?_eq_some_iff.1 hi).1
    simpa using this
  have hb : B i = b := by
    rw [List.getElem?_map, List.getElem?_range hlt] at hi
    exact Option.some.inj hi
  have hc := h i hlt
  obtain ⟨g, o, spot⟩ := a
  have hspot : spot = none := by simpa [Addr.add] using World.cell?_spot (h 0 (by omega))
  subst hspot
  rw [Go.WideShapes.add_plain, hb] at hc
  exact ⟨g, o, rfl, cell_lt hc, hc⟩
theorem row_lt {w : World} {a : Addr} {cap : Nat} {V : Nat → Value} (h : ∀ i, i < cap → w.cell? (a.add i) = some (V i)) {i : Nat} (hi : i < cap) : a.block < w.heap.size := by
  have h0 := h 0 (by omega)
  obtain ⟨g, o, spot⟩ := a
  have hspot : spot = none := by simpa [Addr.add] using World.cell?_spot h0
  subst hspot
  rw [Go.WideShapes.add_plain] at h0
  exact cell_lt h0
theorem bools_none (w : World) : BoolsAt w none [] := ⟨fun i b hi => by simp at hi⟩
theorem ints_at {w : World} {a : Addr} {zs : List Int} (h : ∀ i, i < zs.length → w.cell? (a.add i) = some (.int .i64 (zs.getD i 0))) (hw : ∀ n ∈ zs, (Lit.int .i64 n).wf = true) (len : Nat) : IntsAt w (some a) (zs.take len) := by
  refine ⟨fun i x hi => ?_⟩
  have hiz : zs[i]? = some x := by
    rw [List.getElem?_take] at hi
    split at hi
    · exact hi
    · cases hi
  have hlt : i < zs.length := (List.getElem?_eq_some_iff.1 hiz).1
  have hc := h i hlt
  rw [List.getD_eq_getElem?_getD, hiz, Option.getD_some] at hc
  obtain ⟨g, o, spot⟩ := a
  have hspot : spot = none := by simpa [Addr.add] using World.cell?_spot (h 0 (by omega))
  subst hspot
  rw [Go.WideShapes.add_plain] at hc
  exact ⟨g, o, rfl, cell_lt hc, hc, bounds_i64 (hw x (List.mem_of_getElem? hiz))⟩
theorem ints_none (w : World) : IntsAt w none [] := ⟨fun i b hi => by simp at hi⟩
set_option maxRecDepth 100000 in
theorem contract (H : Type) (enc : TypeId × Value → H) (W : World) (base : Nat) (args : Array Value) (ds gs : List (DataW H)) (before : List MemPlace)
    (hval : ∀ (j : Nat) t v, Tryd.f7.params[j]? = some t → args[j]? = some v → Value.okWide Tryd.prog W .any base t v)
    (hW : DataW.Whole enc Tryd.prog Tryd.f7.params.toList Rows.dominoAztecSpec.vars false W args.toList ds gs before) (hT : Lib.Utf8Tabs 1 2 W) :
    Calls Tryd.prog 7 args W fun e W' => ∃ v, e = .returned v ∧ Rows.dominoAztecSpec.post enc Tryd.prog Tryd.f7 false true false false W args v W' := by
  have hW' := hW
  obtain ⟨p, q, hA0, hV, rfl, hfz, hnd⟩ := hW
  have hA : DataW.TrodAll enc Tryd.prog W 0 (fun _ => true) true Tryd.f7.params.toList args.toList ds p := hA0
  rw [Tryd.params7] at hA hval
  obtain ⟨v0, vs0, d0, ds0, p0, q0, hargs, rfl, rfl, h0, r0⟩ := trodAll_cons hA
  obtain ⟨v1, vs1, d1, ds1, p1, q1, rfl, rfl, rfl, h1, r1⟩ := trodAll_cons r0
  obtain ⟨v2, vs2, d2, ds2, p2, q2, rfl, rfl, rfl, h2, r2⟩ := trodAll_cons r1
  obtain ⟨rfl, rfl, rfl⟩ := trodAll_nil r2
  obtain rfl : args = #[v0, v1, v2] := by cases args; simp_all
  obtain ⟨rfl, rfl⟩ := trodVars_none hV
  obtain ⟨n, rfl, rfl, rfl, hwn⟩ := open_int Tryd.underlying3 (hval 0 3 v0 rfl rfl) h0
  obtain ⟨a1, len1, cap1, rfl⟩ := okWide_slice Tryd.underlying57 (hval 1 57 v1 rfl rfl)
  obtain ⟨a2, len2, cap2, rfl⟩ := okWide_slice Tryd.underlying49 (hval 2 49 v2 rfl rfl)
  have h1' := h1
  have h2' := h2
  obtain ⟨fuel1, hf1⟩ := h1
  obtain ⟨fuel2, hf2⟩ := h2
  clear hA0
  simp only [List.append_nil, List.nil_append] at hW'
  have htu : ∃ tu : List Int, tu.length = len1 ∧ tu.length ≤ 9223372036854775807 ∧ IntsAt W a1 tu ∧ ∀ x ∈ p1, x.block < W.heap.size := by
    rcases open_ints Tryd.underlying57 Tryd.underlying3 cells3 hf1 with ⟨hcs, hx⟩ | ⟨a, len', cap', zs, hcs, _, hle, hcap, hzl, hx, hcell, hwf⟩
    · simp only [Value.cells] at hcs
      have e := (List.cons.inj (show [Value.slice a1 len1 cap1] = [.slice none 0 0] from hcs)).1
      injection e with e1 e2 e3
      subst e1 e2 e3
      refine ⟨[], rfl, by simp, ints_none W, ?_⟩
      simp only [Prod.mk.injEq] at hx
      rw [hx.2]
      simp
    · have e := (List.cons.inj (show [Value.slice a1 len1 cap1] = [.slice (some a) len' cap'] from hcs)).1
      injection e with e1 e2 e3
      subst e1 e2 e3
      simp only [Prod.mk.injEq] at hx
      simp only [if_true] at hzl
      unfold maxLen at hcap
      refine ⟨zs.take len1, by rw [List.length_take]; omega, by rw [List.length_take]; omega, ints_at hcell hwf len1, ?_⟩
      rw [hx.2]
      intro x hx2
      obtain ⟨i, hi, rfl⟩ := List.mem_map.1 hx2
      exact row_lt hcell (List.mem_range.1 hi)
  have hup : ∃ up : List Bool, up.length = len2 ∧ up.length ≤ 9223372036854775807 ∧ BoolsAt W a2 up ∧ ∀ x ∈ p2, x.block < W.heap.size := by
    rcases open_bools Tryd.underlying49 Tryd.underlying4 cells4 hf2 with ⟨hcs, hx⟩ | ⟨a, len', cap', B, hcs, _, hle, hcap, hx, hcell⟩
    · simp only [Value.cells] at hcs
      have e := (List.cons.inj (show [Value.slice a2 len2 cap2] = [.slice none 0 0] from hcs)).1
      injection e with e1 e2 e3
      subst e1 e2 e3
      refine ⟨[], rfl, by simp, bools_none W, ?_⟩
      simp only [Prod.mk.injEq] at hx
      rw [hx.2]
      simp
    · have e := (List.cons.inj (show [Value.slice a2 len2 cap2] = [.slice (some a) len' cap'] from hcs)).1
      injection e with e1 e2 e3
      subst e1 e2 e3
      simp only [Prod.mk.injEq] at hx
      unfold maxLen at hcap
      refine ⟨(List.range len2).map B, by simp, by simp; omega, bools_at (fun i hi => hcell i (by omega)), ?_⟩
      rw [hx.2]
      intro x hx2
      obtain ⟨i, hi, rfl⟩ := List.mem_map.1 hx2
      exact row_lt hcell (List.mem_range.1 hi)
  obtain ⟨tu, hlen1, hu1, hints, hpl1⟩ := htu
  obtain ⟨up, hlen2, hu2, hbools, hpl2⟩ := hup
  subst hlen1
  subst hlen2
  have walk := aztec_law n (bounds_i64 hwn) tu up a1 a2 cap1 cap2 W hu1 hu2 hT hints hbools
  refine walk.mono fun e W' ⟨he, hg⟩ => ?_
  subst he
  have e1 : Rows.dominoAztecSpec.fn H ([.lit (.int .i64 n), d1, d2] ++ []) = { results := [.lit (.bool true)], args := [.lit (.int .i64 n), d1, d2] } := rfl
  refine ⟨_, rfl, _, _, _, [], p1 ++ p2, [], hW', ?_, ?_, ?_, hg.frame _, fun h => by cases h⟩
  · rw [e1]; exact trodAll_mk1 (shut_bool Tryd.underlying4 _)
  · rw [e1]
    have ha := trodAll_cons_mk (shut_int Tryd.underlying3 hwn) (trodAll_cons_mk (Below.trod laidOut rec57 row57 h1' hg hpl1) (trodAll_cons_mk (Below.trod laidOut rec49 row49 h2' hg hpl2) trodAll_mk0))
    simpa using ha
  · rw [e1]; rfl

theorem reads (os : Os) {H : Type} (enc : TypeId × Value → H) : ∃ places, DataW.whole enc Tryd.prog ((laidWorld os).forCall (fun _ _ => 0) ⟨#[], #[.int .i64 0, .slice none 0 0, .slice none 0 0], []⟩).memory Tryd.f7.params.toList Rows.dominoAztecSpec.vars false #[Value.int .i64 0, .slice none 0 0, .slice none 0 0].toList 8 = some ([.lit (.int .i64 0), .nil, .nil], [], places) :=
  ⟨[], by kernel_rfl⟩

set_option maxRecDepth 100000 in
theorem lifted (os : Os) (started : os.Started) (H : Type) (enc : TypeId × Value → H) (F : Stop.Interp) :
    ReturnsInHanded {} Tryd.checked os 7 .any ((OpenSpec.ofChange Rows.dominoAztecSpec).preRow enc Tryd.prog Tryd.f7 Rows.dominoAztecRow.domain false Rows.dominoAztecRow.laid) (((OpenSpec.ofChange Rows.dominoAztecSpec).at F).post enc Tryd.prog Tryd.f7 false true false false) := by
  obtain ⟨places, hx⟩ := reads os enc
  refine returnsInHanded_of_row (C := Tryd.checked) (s := OpenSpec.ofChange Rows.dominoAztecSpec) own started (by kernel_rfl) Tryd.func7
    (witness_row_at (enc := enc) (C := Tryd.checked) false (laidWorld os) #[.int .i64 0, .slice none 0 0, .slice none 0 0] rfl (by kernel_rfl) (by kernel_rfl) (by kernel_rfl)
      (OpenSpec.preRow_of_cond 8 hx (by kernel_rfl) (fun k hk => by cases hk) (by kernel_rfl) (laid_met os _))) ?_
  intro W base args ds gs before hval hW _ _ _ hL _ _
  exact contract H enc W base args ds gs before hval hW (tabs (by rw [← firstIs]; exact Lib.laidMet.reads hL (.tail _ (.head _))) (by rw [← acceptIs]; exact Lib.laidMet.reads hL (.head _)))

theorem said : Rows.DominoAztecSaid :=
  OpenClaim.holds_of_cond 7 Tryd.f7 rfl rfl rfl rfl rfl rfl rfl ⟨rfl, rfl, rfl, rfl, rfl⟩ rfl rfl rfl rfl rfl (by kernel_rfl) Tryd.func7 (by kernel_rfl)
    (of_decide_eq_true (by kernel_rfl)) (by unfold Func.isWrapper; first | (rw [if_pos (by decide +kernel)]; kernel_rfl) | (rw [if_neg (by decide +kernel)]; exact ⟨rfl, rfl⟩))
    (fun os started H enc _ F => by rw [OpenClaim.pre_eq_preRow]; exact lifted os started H enc F)

/-- No parameter wants a stand-in; the program's own looks are off. -/
theorem plain (f : FuncId) (fn : Func) (hf : Tryd.pinned.checked.prog.funcNamed "ferrers/ferkeep.DominoAztec" = some f) (hfn : Tryd.pinned.checked.prog.funcs[f]? = some fn) :
    false = Tryd.pinned.checked.prog.looks [] ∧ ∀ (j : Nat) t, fn.params[j]? = some t → Tryd.pinned.checked.prog.wantsStandIn t = false := by
  obtain rfl : f = 7 := Option.some.inj ((show Tryd.prog.funcNamed "ferrers/ferkeep.DominoAztec" = some 7 by kernel_rfl).symm.trans hf) |>.symm
  obtain rfl : fn = Tryd.f7 := (Option.some.inj (Tryd.func7.symm.trans hfn)).symm
  refine ⟨by kernel_rfl, fun j t ht => ?_⟩
  rw [Tryd.params7] at ht
  have hm := Array.mem_of_getElem? ht
  simp only [List.mem_toArray, List.mem_cons, List.not_mem_nil, or_false] at hm
  rcases hm with rfl | rfl | rfl
  · exact (show Tryd.prog.wantsStandIn 3 = false by kernel_rfl)
  · exact (show Tryd.prog.wantsStandIn 57 = false by kernel_rfl)
  · exact (show Tryd.prog.wantsStandIn 49 = false by kernel_rfl)

/-- THE CARD. -/
theorem card : Rows.DominoAztecCardSaid :=
  Claim7.holds_tied_plain_at .later [] _ _ _ _ said (fun _ h => by cases h) (by kernel_rfl) (fun _ h => by cases h) dominoAztec_row_tie rfl ⟨rfl, rfl⟩ (by kernel_rfl) rfl plain (by kernel_rfl)
end Go.Proofs.YtahihapgbcoanaaDoor.az
