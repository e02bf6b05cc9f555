/- What the maps of domino.Count hold: how often each state has come. -/
import Derived.Test.YtahihapgbcoanaaDoorText2
import Derived.Maps.RangeWalk
import Derived.Maps.Ext
namespace Go.Proofs.YtahihapgbcoanaaDoor
open Go.RowKit Go.Maps

theorem law3 : Keyed Tryd.prog 3 := int_keyed Tryd.underlying3
theorem zero2 (w : World) : (zeroValue 2).run Tryd.prog w = .ok (.int .i64 0) w := by kernel_rfl

/-- A map reads as the numbers f, at keys below 2^W alone. -/
structure MapIs (D : DataW Unit) (W : Nat) (f : Nat → Nat) : Prop where
  map : IsMap D
  at_ : ∀ m : Nat, D.atKey (.int .i64 m) (.lit (.int .i64 0)) = .lit (.int .i64 (wrap64 (f m : Nat)))
  key : ∀ kl, has D kl = true → ∃ m : Nat, m < 2 ^ W ∧ kl = .int .i64 m
  there : ∀ m : Nat, 0 < f m → has D (.int .i64 m) = true
theorem wrap_add (a b : Nat) : wrap64 (wrap64 a + wrap64 b) = wrap64 ((a + b : Nat) : Int) := by
  unfold wrap64
  omega
theorem mapIs_empty (W : Nat) : MapIs (.map []) W (fun _ => 0) := by
  refine ⟨isMap_empty, fun m => ?_, fun kl h => (by cases h), fun m h => absurd h (Nat.lt_irrefl 0)⟩
  have e : wrap64 ((0 : Nat) : Int) = 0 := by unfold wrap64; omega
  rw [e]
  rfl
theorem MapIs.put {D : DataW Unit} {W : Nat} {f : Nat → Nat} (h : MapIs D W f) {y : Nat} (hy : y < 2 ^ W) {c v : Int} (hc : D.atKey (.int .i64 y) (.lit (.int .i64 0)) = .lit (.int .i64 c)) (n : Nat) (hv : v = wrap64 n) :
    MapIs (D.put (.int .i64 y) (.lit (.int .i64 (wrap64 (c + v))))) W (fun m => if m = y then f m + n else f m) := by
  have hcc : c = wrap64 (f y : Nat) := by
    have h1 := h.at_ y
    rw [hc] at h1
    injection h1 with h1
    injection h1
  refine ⟨h.map.put _ _, fun m => ?_, fun kl hk => ?_, fun m hm => ?_⟩
  · by_cases e : m = y
    · subst e
      rw [atKey_put_same h.map (show WideAt.IsKeyLit (.int .i64 _) from trivial), if_pos rfl, hcc, hv, wrap_add]
    · rw [atKey_put_other (by intro e2; injection e2 with _ e3; exact e (by omega)), if_neg e]
      exact h.at_ m
  · by_cases e : kl = .int .i64 y
    · exact ⟨y, hy, e⟩
    · rw [has_put_other e] at hk
      exact h.key kl hk
  · by_cases e : m = y
    · subst e
      exact has_put_same h.map (show WideAt.IsKeyLit (.int .i64 _) from trivial) _
    · rw [if_neg e] at hm
      rw [has_put_other (by intro e2; injection e2 with _ e3; exact e (by omega))]
      exact h.there m hm
theorem MapIs.congr {D : DataW Unit} {W : Nat} {f g : Nat → Nat} (h : MapIs D W f) (hg : ∀ m, f m = g m) : MapIs D W g :=
  ⟨h.map, fun m => by rw [← hg m]; exact h.at_ m, h.key, fun m hm => h.there m (by rw [hg m]; exact hm)⟩
theorem rising_len : ∀ (l : List Nat) (lo hi : Nat), l.Pairwise (· < ·) → (∀ x ∈ l, lo ≤ x ∧ x < hi) → l.length ≤ hi - lo := by
  intro l
  induction l with
  | nil => intro lo hi _ _; exact Nat.zero_le _
  | cons a l ih =>
    intro lo hi hp hx
    rw [List.pairwise_cons] at hp
    have h1 := hx a List.mem_cons_self
    have h2 := ih (a + 1) hi hp.2 (fun x hxl => ⟨hp.1 x hxl, (hx x (List.mem_cons_of_mem _ hxl)).2⟩)
    simp only [List.length_cons]
    omega
def litNat : Lit → Nat
  | .int _ a => a.toNat
  | _ => 0
theorem MapIs.small {D : DataW Unit} {W : Nat} {f : Nat → Nat} (h : MapIs D W f) (hc : Canon D) : size D ≤ 2 ^ W := by
  obtain ⟨es, rfl, hp, hk⟩ := hc
  have hin : ∀ p ∈ es, ∃ m : Nat, m < 2 ^ W ∧ p.1 = .int .i64 m := fun p hpe => h.key p.1 (List.any_eq_true.2 ⟨p, hpe, WideAt.sameKey_self (hk p hpe)⟩)
  rw [size_eq]
  have h1 := rising_len (es.map (fun p => litNat p.1)) 0 (2 ^ W) (by
    rw [List.pairwise_map]
    refine List.Pairwise.imp_of_mem ?_ hp
    intro p q hpe hqe hb
    obtain ⟨m, _, e1⟩ := hin p hpe
    obtain ⟨m2, _, e2⟩ := hin q hqe
    rw [e1, e2] at hb ⊢
    simp only [Lit.before, decide_eq_true_eq] at hb
    show (m : Int).toNat < (m2 : Int).toNat
    omega) (fun x hx => by
    obtain ⟨p, hpe, rfl⟩ := List.mem_map.1 hx
    obtain ⟨m, hm, e1⟩ := hin p hpe
    rw [e1]
    refine ⟨Nat.zero_le _, ?_⟩
    show (m : Int).toNat < 2 ^ W
    rw [Int.toNat_natCast]
    exact hm)
  rw [List.length_map] at h1
  omega
theorem two_pow8 {W : Nat} (h : W ≤ 8) : 2 ^ W ≤ 256 := by
  have : 2 ^ W ≤ 2 ^ 8 := Nat.pow_le_pow_right (by decide) h
  simpa using this
/-- The bound drawn tight again. -/
theorem own_tight {w : World} {b n : Nat} {D : DataW Unit} {W : Nat} {f : Nat → Nat} (ho : w.ownsMap Tryd.prog 3 (plainElem Tryd.prog 2) b n D) (h : MapIs D W f) (hW : W ≤ 8) : w.ownsMap Tryd.prog 3 (plainElem Tryd.prog 2) b 256 D := by
  have hs := h.small (ho.canon law3)
  have h8 := two_pow8 hW
  obtain ⟨es, clock, hb, F, _, hD⟩ := ho
  refine ⟨es, clock, hb, F, ?_, hD⟩
  rw [hD, size_eq, length_sorted] at hs
  simp only [List.length_map, Array.length_toList] at hs
  omega

/-- What has been gone through: the states that are no longer to come. -/
def gone (left : Lit → Bool) (m : Nat) : Bool := !left (.int .i64 m)
/-- What the next map holds while the range loop runs. -/
def partF (L : List Nat) (left : Lit → Bool) (step : Nat → List Nat) (y : Nat) : Nat := ((L.filter (gone left)).flatMap step).count y
theorem partF_start (L : List Nat) (left : Lit → Bool) (step : Nat → List Nat) (hl : ∀ m ∈ L, left (.int .i64 m) = true) (y : Nat) : partF L left step y = 0 := by
  unfold partF
  have : L.filter (gone left) = [] := by
    rw [List.filter_eq_nil_iff]
    intro m hm e
    simp only [gone, Bool.not_eq_true'] at e
    rw [hl m hm] at e
    cases e
  rw [this]
  rfl
theorem partF_end (L : List Nat) (left : Lit → Bool) (step : Nat → List Nat) (hl : ∀ kl, left kl = false) (y : Nat) : partF L left step y = (L.flatMap step).count y := by
  unfold partF
  have : L.filter (gone left) = L := by
    rw [List.filter_eq_self]
    intro m _
    simp [gone, hl]
  rw [this]
theorem gone_step (left : Lit → Bool) (x m : Nat) : gone (fun z => left z && !z.sameKey (.int .i64 x)) m = (gone left m || decide (m = x)) := by
  simp only [gone, Lit.sameKey]
  cases left (.int .i64 m) <;> simp
  by_cases e : m = x
  · simp [e]
  · have : ¬ ((m : Int) = (x : Int)) := by omega
    simp [e, this]
/-- One state gone through. -/
theorem partF_step (L : List Nat) (left : Lit → Bool) (step : Nat → List Nat) (x : Nat) (hx : left (.int .i64 x) = true) (y : Nat) :
    partF L (fun z => left z && !z.sameKey (.int .i64 x)) step y = partF L left step y + L.count x * (step x).count y := by
  unfold partF
  induction L with
  | nil => simp
  | cons a L ih =>
    have hg := gone_step left x a
    by_cases e : a = x
    · subst e
      have h1 : gone left a = false := by simp [gone, hx]
      rw [h1, Bool.false_or, decide_eq_true rfl] at hg
      rw [List.filter_cons_of_pos hg, List.filter_cons_of_neg (by rw [h1]; decide), List.flatMap_cons, List.count_append, ih, List.count_cons_self, Nat.add_mul]
      omega
    · rw [decide_eq_false e, Bool.or_false] at hg
      rw [List.count_cons_of_ne e]
      cases h1 : gone left a
      · rw [h1] at hg
        rw [List.filter_cons_of_neg (by rw [hg]; decide), List.filter_cons_of_neg (by rw [h1]; decide)]
        exact ih
      · rw [h1] at hg
        rw [List.filter_cons_of_pos hg, List.filter_cons_of_pos h1, List.flatMap_cons, List.flatMap_cons, List.count_append, List.count_append, ih]
        omega
/-- No way on from it. -/
theorem MapIs.none {D : DataW Unit} {W : Nat} {L : List Nat} {left : Lit → Bool} {step : Nat → List Nat} (h : MapIs D W (partF L left step)) {x : Nat} (hx : left (.int .i64 x) = true) (hs : step x = []) :
    MapIs D W (partF L (fun z => left z && !z.sameKey (.int .i64 x)) step) :=
  h.congr (fun y => by rw [partF_step L left step x hx y, hs]; simp)
/-- One way on. -/
theorem MapIs.one {D : DataW Unit} {W : Nat} {L : List Nat} {left : Lit → Bool} {step : Nat → List Nat} (h : MapIs D W (partF L left step)) {x : Nat} (hx : left (.int .i64 x) = true) {a : Nat} (ha : a < 2 ^ W) (hs : step x = [a]) {c v : Int}
    (hc : D.atKey (.int .i64 a) (.lit (.int .i64 0)) = .lit (.int .i64 c)) (hv : v = wrap64 (L.count x : Nat)) :
    MapIs (D.put (.int .i64 a) (.lit (.int .i64 (wrap64 (c + v))))) W (partF L (fun z => left z && !z.sameKey (.int .i64 x)) step) :=
  (h.put ha hc (L.count x) hv).congr (fun y => by
    rw [partF_step L left step x hx y, hs]
    by_cases e : y = a
    · rw [if_pos e, e]; simp
    · have e0 : [a].count y = 0 := List.count_eq_zero.2 (by simp [e])
      rw [if_neg e, e0]; simp)
/-- Two ways on. -/
theorem MapIs.two {D : DataW Unit} {W : Nat} {L : List Nat} {left : Lit → Bool} {step : Nat → List Nat} (h : MapIs D W (partF L left step)) {x : Nat} (hx : left (.int .i64 x) = true) {a b : Nat} (ha : a < 2 ^ W) (hb : b < 2 ^ W) (hs : step x = [a, b]) {c v d : Int}
    (hc : D.atKey (.int .i64 a) (.lit (.int .i64 0)) = .lit (.int .i64 c)) (hv : v = wrap64 (L.count x : Nat))
    (hd : (D.put (.int .i64 a) (.lit (.int .i64 (wrap64 (c + v))))).atKey (.int .i64 b) (.lit (.int .i64 0)) = .lit (.int .i64 d)) :
    MapIs ((D.put (.int .i64 a) (.lit (.int .i64 (wrap64 (c + v))))).put (.int .i64 b) (.lit (.int .i64 (wrap64 (d + v))))) W (partF L (fun z => left z && !z.sameKey (.int .i64 x)) step) :=
  ((h.put ha hc (L.count x) hv).put hb hd (L.count x) hv).congr (fun y => by
    rw [partF_step L left step x hx y, hs]
    by_cases e : y = a
    · by_cases e2 : y = b
      · rw [if_pos e2, if_pos e]
        have e3 : a = b := by omega
        subst e3
        rw [e]
        simp
        omega
      · rw [if_neg e2, if_pos e, e]
        rw [e] at e2
        have e0 : [b].count a = 0 := List.count_eq_zero.2 (by simp [e2])
        rw [List.count_cons_self, e0]
        simp
    · by_cases e2 : y = b
      · rw [if_pos e2, if_neg e, e2]
        rw [e2] at e
        rw [List.count_cons_of_ne (fun x => e x.symm)]
        simp
      · have e0 : [a, b].count y = 0 := List.count_eq_zero.2 (by simp [e, e2])
        rw [if_neg e2, if_neg e, e0]
        simp)
/-- What a map holds at a state's key, if the key is there. -/
theorem MapIs.elem {D : DataW Unit} {W : Nat} {L : List Nat} (h : MapIs D W (fun m => L.count m)) {x : Nat} {c : Int} (hat : ∀ zd, D.atKey (.int .i64 x) zd = .lit (.int .i64 c)) : c = wrap64 (L.count x : Nat) := by
  have h1 := h.at_ x
  rw [hat] at h1
  injection h1 with h1
  injection h1
theorem and_i64 (a b : Nat) (ha : a < 1048576) (hb : b < 1048576) : bits .and .i64 (a : Int) (b : Int) = ((a &&& b : Nat) : Int) := by
  have h := Nat.and_le_left (n := a) (m := b)
  simp only [bits, BitVec.ofInt_natCast, BitVec.toNat_and, BitVec.toNat_ofNat]
  rw [show IntKind.i64.bits = 64 from rfl, Nat.mod_eq_of_lt (show a < 2 ^ 64 by omega), Nat.mod_eq_of_lt (show b < 2 ^ 64 by omega), IntKind.wrap_i64]
  omega
theorem or_i64 (a b : Nat) (ha : a < 1048576) (hb : b < 1048576) : bits .or .i64 (a : Int) (b : Int) = ((a ||| b : Nat) : Int) := by
  have h : a ||| b < 2 ^ 20 := Nat.or_lt_two_pow (by omega) (by omega)
  simp only [bits, BitVec.ofInt_natCast, BitVec.toNat_or, BitVec.toNat_ofNat]
  rw [show IntKind.i64.bits = 64 from rfl, Nat.mod_eq_of_lt (show a < 2 ^ 64 by omega), Nat.mod_eq_of_lt (show b < 2 ^ 64 by omega), IntKind.wrap_i64]
  omega
theorem and_one_i64 (a : Nat) (ha : a < 1048576) : bits .and .i64 (a : Int) 1 = ((a % 2 : Nat) : Int) := by
  have h := and_i64 a 1 ha (by omega)
  rw [Nat.and_one_is_mod] at h
  exact h
end Go.Proofs.YtahihapgbcoanaaDoor
