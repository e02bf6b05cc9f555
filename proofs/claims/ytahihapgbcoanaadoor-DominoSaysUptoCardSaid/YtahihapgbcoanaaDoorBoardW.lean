/- strings.Map at this dump; the walks of domino.Board and ferref.Covered. -/
import Derived.Test.YtahihapgbcoanaaDoorFlat
import Derived.Test.YtahihapgbcoanaaDoorShelfM
import Derived.Lib.MapLaws
import Derived.Lib.TrimAscii
namespace Go.Proofs
open Go.Shelf Go.RowKit Go.Lib
theorem Tryd.extra : Builder.Extra Tryd.prog Tryd.laysMap_ren := {
  sizeBuilder := by kernel_rfl
  liesBuilder := by kernel_rfl
  t5 := Tryd.laysMap.t5
  a5 := Tryd.laysMap.a5
  z5 := Tryd.laysMap.z5
  v5 := Tryd.laysMap.v5
  infoByte := by kernel_rfl
  cellsByte := by kernel_rfl
  sizeByte := by kernel_rfl
  neB5 := by decide }
end Go.Proofs
namespace Go.Proofs.YtahihapgbcoanaaDoor
open Go.RowKit

def covR (x : Int) : Int := if x = 46 ∨ x = 47 then x else 35
def covB (c : UInt8) : UInt8 := if c = 46 ∨ c = 47 then c else 35

theorem covR_range (x : Nat) (hx : x ≤ 1114111) : -2147483648 ≤ covR x ∧ covR x ≤ 2147483647 := by
  unfold covR
  split <;> omega

theorem mapD_cov (l : List UInt8) (h : ∀ c ∈ l, c.toNat < 128) : Lib.mapD covR l = l.map covB := by
  induction l with
  | nil => rfl
  | cons c r ih =>
    rw [Lib.mapD_step covR (c :: r) (by simp), Lib.decodeL_ascii c r (h c (by simp))]
    have hr := ih (fun d hd => h d (by simp [hd]))
    have hc : c.toNat < 128 := h c (by simp)
    have h0 : 0 ≤ covR (c.toNat : Int) ∧ covR (c.toNat : Int) ≤ 127 := by unfold covR; split <;> omega
    simp only [List.drop_succ_cons, List.drop_zero, hr, List.map_cons]
    rw [if_pos h0.1]
    unfold Lib.encodeRune
    rw [Lib.encodeRuneZ_one h0.1 h0.2]
    have : (covR (c.toNat : Int)).toNat.toUInt8 = covB c := by
      unfold covR covB
      by_cases h46 : c = 46
      · subst h46; decide
      · by_cases h47 : c = 47
        · subst h47; decide
        · have e1 : ¬ ((c.toNat : Int) = 46 ∨ (c.toNat : Int) = 47) := by
            rintro (e | e)
            · exact h46 (UInt8.toNat_inj.1 (by simp; omega))
            · exact h47 (UInt8.toNat_inj.1 (by simp; omega))
          rw [if_neg e1, if_neg (by simp [h46, h47])]
          decide
    simp [this]

set_option maxRecDepth 100000 in
theorem cov_pays (w : World) : MapGrows Tryd.prog 41 #[] covR w := by
  intro W x hx hb
  show Calls Tryd.prog 41 #[.int .i32 (x : Int)] W _
  by_cases h1 : x = 46
  · subst h1
    go_enter Tryd.func41, Tryd.ntmps41
    go_wp2
    go_ret
    exact ⟨rfl, Below.refl _ _⟩
  · by_cases h2 : x = 47
    · subst h2
      go_enter Tryd.func41, Tryd.ntmps41
      go_wp2
      go_ret
      exact ⟨rfl, Below.refl _ _⟩
    · have e1 : ((x : Int) == 46) = false := by simp; omega
      have e2 : ((x : Int) == 47) = false := by simp; omega
      have e3 : covR x = 35 := by unfold covR; rw [if_neg (by omega)]
      have HE := Lib.hid e3
      clear e3
      go_enter Tryd.func41, Tryd.ntmps41
      go_wp2
      go_ret
      exact ⟨by rw [HE.out]; rfl, Below.refl _ _⟩

theorem tiling_ascii {s : List UInt8} (hg : Good lrud (pieces s)) : ∀ c ∈ s, c.toNat < 128 := by
  intro c hc
  have hp := pieces_slash s
  have hc2 : c ∈ (pieces s).flatMap (· ++ [47]) := by rw [hp]; simp [hc]
  obtain ⟨r, hr, hcr⟩ := List.mem_flatMap.1 hc2
  rcases List.mem_append.1 hcr with h | h
  · have := hg.2.2 r hr c h
    simp [lrud] at this
    rcases this with rfl | rfl | rfl | rfl | rfl <;> decide
  · simp at h
    subst h
    decide
theorem good_len {letters s : List UInt8} (hg : Good letters (pieces s)) : s.length ≤ 71 := by
  obtain ⟨h8, w8, h0, w0⟩ := good_h hg
  have hlen : s.length + 1 = hOf s * (wOf s + 1) := by
    conv => lhs; rw [good_text hg]
    exact text_len _ _ _ h0
  have : hOf s * (wOf s + 1) ≤ 8 * 9 := Nat.mul_le_mul h8 (by omega)
  omega

theorem map_cov (s : List UInt8) (hg : Good lrud (pieces s)) (w : World) (hT : Lib.Utf8Tabs 1 2 w) :
    Calls Tryd.prog 40 #[.func (.func 41) #[] #[], .string ⟨s.toArray⟩] w fun e w' => e = .returned (.string ⟨(s.map covB).toArray⟩) ∧ Below w.heap.size w w' := by
  have h := Any.strings_Map_grows Tryd.laysMap Tryd.extra 41 #[] (enters_of Tryd.func41 (by kernel_rfl) rfl) covR ⟨s.toArray⟩ w (by have := good_len hg; simp [ByteArray.size]; omega) (cov_pays w) covR_range hT
  have e : Lib.mapD covR (⟨s.toArray⟩ : ByteArray).data.toList = s.map covB := mapD_cov s (tiling_ascii hg)
  rw [e] at h
  exact h

/-- What Board hands back. -/
def BoardG (s : List UInt8) (w : World) (e : Ending) (w' : World) : Prop :=
  Below w.heap.size w w' ∧ ((¬ Tiling s ∧ e = .returned (.tuple #[.string ⟨#[]⟩, .int .i64 1])) ∨
    (Tiling s ∧ e = .returned (.tuple #[.string ⟨(s.map covB).toArray⟩, .int .i64 0])))
theorem tabs_below {w w' : World} (hT : Lib.Utf8Tabs 1 2 w) (hb : Below w.heap.size w w') : Lib.Utf8Tabs 1 2 w' := Utf8Tabs_below hT hb

set_option maxRecDepth 100000 in
set_option maxHeartbeats 4000000 in
theorem board_any (s : List UInt8) (hs : s.length ≤ 9223372036854775807) (w : World) (hT : Lib.Utf8Tabs 1 2 w) : Calls Tryd.prog 18 #[.string ⟨s.toArray⟩] w (BoardG s w) := by
  have hn0 := eqnil_none
  have hn1 := eqnil_some
  go_enter Tryd.func18, Tryd.ntmps18
  go_wp2_with fail
  refine (tiles_any s hs _).mono ?_
  rintro e w1 ⟨hb, ⟨hng, rfl⟩ | ⟨hT1, top, cap, rb, rc, rfl, hm⟩⟩
  · have HN := Lib.hid hng
    clear hng
    go_wp2
    go_ret2
    exact ⟨hb, .inl ⟨HN.out, rfl⟩⟩
  · have HT := Lib.hid hT1
    clear hT1
    go_wp2_with fail
    refine (map_cov s HT.out.1 _ (tabs_below hT hb)).mono ?_
    rintro e w2 ⟨rfl, hb2⟩
    go_wp2
    go_ret2
    exact ⟨hb.trans (hb2.mono hb.size), .inr ⟨HT.out, rfl⟩⟩

theorem extract_one {p : List UInt8} {x : Nat} {a : UInt8} (ha : p[x]? = some a) : (⟨p.toArray⟩ : ByteArray).extract x (x + 1) = ⟨#[a]⟩ := by
  rw [extract_list]
  have h0 : (p.drop x)[0]? = some a := by simpa using ha
  have : (p.drop x).take (x + 1 - x) = [a] := by
    rw [show x + 1 - x = 1 from by omega]
    cases hd : p.drop x with
    | nil => rw [hd] at h0; simp at h0
    | cons u l => rw [hd] at h0; simp at h0; simp [h0]
  rw [this]

set_option maxRecDepth 100000 in
set_option maxHeartbeats 4000000 in
theorem covered_any (s : List UInt8) (hs : s.length ≤ 1048576) (w : World) : Calls Tryd.prog 21 #[.string ⟨s.toArray⟩] w fun e w' => e = .returned (.string ⟨(s.map covB).toArray⟩) ∧ w' = w := by
  obtain ⟨L, hL⟩ : ∃ L, s.map covB = L := ⟨_, rfl⟩
  have hLl : L.length = s.length := by rw [← hL]; simp
  rw [hL]
  have HL := Lib.hid hL
  have HLl := Lib.hid hLl
  clear hL hLl
  go_enter Tryd.func21, Tryd.ntmps21
  go_wp2
  go_loop [3, 4] (fun t i => ∃ k : Nat, k ≤ s.length ∧ i = .int .i64 k ∧ t = .string ⟨(L.take k).toArray⟩) (fun _ i => s.length - (intOf i).toNat)
  case atStart => exact ⟨0, Nat.zero_le _, rfl, rfl⟩
  case round =>
    obtain ⟨k, hk, rfl, rfl⟩ := hrel
    have hl : (L.take k).length = k := by rw [List.length_take, HLl.out]; omega
    by_cases hkl : k < s.length
    · obtain ⟨c, hc⟩ : ∃ c, s[k]? = some c := ⟨_, List.getElem?_eq_getElem hkl⟩
      have hcc : (⟨s.toArray⟩ : ByteArray)[k]'(by simpa [ByteArray.size] using hkl) = c := by
        have h1 := hc
        rw [List.getElem?_eq_getElem hkl] at h1
        exact Option.some.inj h1
      have hnext : L.take k ++ [covB c] = L.take (k + 1) := by
        rw [List.take_add_one, ← HL.out, List.getElem?_map, hc]
        rfl
      have hx := extract_one hc
      have ap := app_one (L.take k) (covB c)
      rw [hnext] at ap
      have hki : (k : Int) < (s.length : Int) := by omega
      have hki1 : (k : Int) + 1 ≤ (s.length : Int) := by omega
      clear hc hnext
      by_cases h46 : c = 46
      · subst h46
        have ap : (⟨(L.take k).toArray⟩ : ByteArray) ++ ⟨#[46]⟩ = ⟨(L.take (k + 1)).toArray⟩ := ap
        go_wp2
        exact ⟨⟨k + 1, by omega, by go_num, rfl⟩, by simp [intOf]; omega⟩
      · by_cases h47 : c = 47
        · subst h47
          have ap : (⟨(L.take k).toArray⟩ : ByteArray) ++ ⟨#[47]⟩ = ⟨(L.take (k + 1)).toArray⟩ := ap
          go_wp2
          exact ⟨⟨k + 1, by omega, by go_num, rfl⟩, by simp [intOf]; omega⟩
        · have f46 : ((c.toNat : Int) == 46) = false := u8_ne (n := 46) h46
          have f47 : ((c.toNat : Int) == 47) = false := u8_ne (n := 47) h47
          have e35 : covB c = 35 := by simp [covB, h46, h47]
          rw [e35] at ap
          clear e35 h46 h47
          go_wp2
          exact ⟨⟨k + 1, by omega, by go_num, rfl⟩, by simp [intOf]; omega⟩
    · obtain rfl : k = s.length := by omega
      have HE := Lib.hid (show L.take s.length = L by rw [← HLl.out, List.take_length])
      go_wp2
      go_ret
      exact ⟨by show Ending.returned (.string ⟨(L.take s.length).toArray⟩) = _; rw [HE.out], rfl⟩
end Go.Proofs.YtahihapgbcoanaaDoor
