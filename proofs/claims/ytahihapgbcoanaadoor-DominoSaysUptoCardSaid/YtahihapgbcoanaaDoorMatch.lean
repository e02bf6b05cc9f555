/- Perfect matchings of the open cells of a board: their number, by whatever cell is covered first. -/
namespace Go.Proofs.YtahihapgbcoanaaDoor

/-- Each element of a list, with those that are left. -/
def picks {α : Type} : List α → List (α × List α)
  | [] => []
  | a :: l => (a, l) :: (picks l).map (fun p => (p.1, a :: p.2))
/-- The perfect matchings of a list, its head matched first; n: at least its length. -/
def pmF {α : Type} (adj : α → α → Bool) : Nat → List α → Nat
  | _, [] => 1
  | 0, _ :: _ => 0
  | n + 1, a :: l => ((picks l).map fun p => if adj a p.1 = true then pmF adj n p.2 else 0).sum

theorem picks_len {α : Type} : ∀ (l : List α) (p : α × List α), p ∈ picks l → p.2.length + 1 = l.length := by
  intro l
  induction l with
  | nil => intro p h; simp [picks] at h
  | cons a l ih =>
    intro p h
    simp only [picks, List.mem_cons, List.mem_map] at h
    rcases h with rfl | ⟨q, hq, rfl⟩
    · rfl
    · have := ih q hq
      simp [this]
theorem sum_add' {β : Type} (l : List β) (f g : β → Nat) : (l.map fun x => f x + g x).sum = (l.map f).sum + (l.map g).sum := by
  induction l with
  | nil => rfl
  | cons a l ih =>
    simp only [List.map_cons, List.sum_cons, ih]
    omega
theorem sum_congr' {β : Type} {l : List β} {f g : β → Nat} (h : ∀ x, x ∈ l → f x = g x) : (l.map f).sum = (l.map g).sum := by
  rw [List.map_congr_left h]
theorem picks_sum {α : Type} (a : α) (l : List α) (g : α → List α → Nat) : ((picks (a :: l)).map fun p => g p.1 p.2).sum = g a l + ((picks l).map fun p => g p.1 (a :: p.2)).sum := by
  simp only [picks, List.map_cons, List.sum_cons, List.map_map]
  rfl
theorem picks_perm {α : Type} {l1 l2 : List α} (h : l1.Perm l2) : ∀ (g : α → List α → Nat), (∀ a r r', r.Perm r' → r.length < l1.length → g a r = g a r') →
    ((picks l1).map fun p => g p.1 p.2).sum = ((picks l2).map fun p => g p.1 p.2).sum := by
  induction h with
  | nil => intro g _; rfl
  | cons a h ih =>
    intro g hg
    rw [picks_sum, picks_sum, hg a _ _ h (by simp)]
    congr 1
    exact ih (fun b r => g b (a :: r)) (fun b r r' hr hl => hg b _ _ (hr.cons a) (by simp; omega))
  | swap a b l =>
    intro g hg
    rw [picks_sum, picks_sum, picks_sum a l (fun c r => g c (b :: r)), picks_sum b l (fun c r => g c (a :: r))]
    have e : ((picks l).map fun p => g p.1 (b :: a :: p.2)).sum = ((picks l).map fun p => g p.1 (a :: b :: p.2)).sum := sum_congr' fun p hp => by
      have := picks_len l p hp
      exact hg p.1 _ _ (.swap a b _) (by simp; omega)
    rw [e]
    omega
  | trans h1 h2 ih1 ih2 =>
    intro g hg
    rw [ih1 g hg]
    exact ih2 g (fun a r r' hr hl => hg a r r' hr (by rw [h1.length_eq]; exact hl))
theorem picks_swap {α : Type} : ∀ (l : List α) (F : α → α → List α → Nat),
    ((picks l).map fun p => ((picks p.2).map fun q => F p.1 q.1 q.2).sum).sum = ((picks l).map fun p => ((picks p.2).map fun q => F q.1 p.1 q.2).sum).sum := by
  intro l
  induction l with
  | nil => intro F; rfl
  | cons a l ih =>
    intro F
    rw [picks_sum a l (fun x r => ((picks r).map fun q => F x q.1 q.2).sum), picks_sum a l (fun x r => ((picks r).map fun q => F q.1 x q.2).sum)]
    have e1 : ((picks l).map fun p => ((picks (a :: p.2)).map fun q => F p.1 q.1 q.2).sum).sum = ((picks l).map fun p => F p.1 a p.2).sum + ((picks l).map fun p => ((picks p.2).map fun q => F p.1 q.1 (a :: q.2)).sum).sum := by
      rw [← sum_add']
      exact sum_congr' fun p _ => picks_sum a p.2 (fun x r => F p.1 x r)
    have e2 : ((picks l).map fun p => ((picks (a :: p.2)).map fun q => F q.1 p.1 q.2).sum).sum = ((picks l).map fun p => F a p.1 p.2).sum + ((picks l).map fun p => ((picks p.2).map fun q => F q.1 p.1 (a :: q.2)).sum).sum := by
      rw [← sum_add']
      exact sum_congr' fun p _ => picks_sum a p.2 (fun x r => F x p.1 r)
    rw [e1, e2, ih (fun x y r => F x y (a :: r))]
    omega

theorem pm_perm {α : Type} (adj : α → α → Bool) (hs : ∀ a b, adj a b = adj b a) : ∀ N n, n ≤ N → ∀ l1 l2 : List α, l1.Perm l2 → l1.length ≤ n → pmF adj n l1 = pmF adj n l2 := by
  intro N
  induction N with
  | zero =>
    intro n hn l1 l2 h hl
    obtain rfl : l1 = [] := List.length_eq_zero_iff.1 (by omega)
    rw [List.nil_perm.1 h]
  | succ N ih =>
    intro n hn l1 l2 h
    induction h with
    | nil => intro _; rfl
    | cons a h _ =>
      intro hl
      cases n with
      | zero => simp at hl
      | succ n =>
        simp only [List.length_cons] at hl
        exact picks_perm h (fun b r => if adj a b = true then pmF adj n r else 0) (fun b r r' hr hlt => by
          rw [ih n (by omega) r r' hr (by omega)])
    | swap a b l =>
      intro hl
      simp only [List.length_cons] at hl
      obtain ⟨m, rfl⟩ : ∃ m, n = m + 1 + 1 := ⟨n - 2, by omega⟩
      have key : ∀ x y : α, pmF adj (m + 1 + 1) (x :: y :: l) = (if adj x y = true then pmF adj (m + 1) l else 0) +
          ((picks l).map fun p => ((picks p.2).map fun q => if adj x p.1 = true ∧ adj y q.1 = true then pmF adj m q.2 else 0).sum).sum := by
        intro x y
        show ((picks (y :: l)).map fun p => if adj x p.1 = true then pmF adj (m + 1) p.2 else 0).sum = _
        rw [picks_sum y l (fun c r => if adj x c = true then pmF adj (m + 1) r else 0)]
        congr 1
        refine sum_congr' fun p _ => ?_
        by_cases hx : adj x p.1 = true
        · rw [if_pos hx]
          show ((picks p.2).map fun q => if adj y q.1 = true then pmF adj m q.2 else 0).sum = _
          exact sum_congr' fun q _ => by simp [hx]
        · rw [if_neg hx]
          have : ((picks p.2).map fun q => if adj x p.1 = true ∧ adj y q.1 = true then pmF adj m q.2 else 0) = (picks p.2).map fun _ => 0 := List.map_congr_left fun q _ => by simp [hx]
          rw [this]
          have h0 : ∀ l : List (α × List α), (l.map fun _ => 0).sum = 0 := by
            intro l
            induction l with
            | nil => rfl
            | cons a l ih => simpa using ih
          exact (h0 _).symm
      rw [key b a, key a b, hs b a, picks_swap l (fun x y r => if adj b x = true ∧ adj a y = true then pmF adj m r else 0)]
      congr 1
      exact sum_congr' fun p _ => sum_congr' fun q _ => by simp only [and_comm]
    | trans h1 _ ih1 ih2 =>
      intro hl
      rw [ih1 hl]
      exact ih2 (by rw [← h1.length_eq]; exact hl)
theorem pm_fuel {α : Type} (adj : α → α → Bool) : ∀ (n m : Nat) (l : List α), l.length ≤ n → l.length ≤ m → pmF adj n l = pmF adj m l := by
  intro n
  induction n with
  | zero =>
    intro m l hl _
    obtain rfl : l = [] := List.length_eq_zero_iff.1 (by omega)
    cases m <;> rfl
  | succ n ih =>
    intro m l hn hm
    cases l with
    | nil => cases m <;> rfl
    | cons a l =>
      cases m with
      | zero => simp at hm
      | succ m =>
        simp only [List.length_cons] at hn hm
        show ((picks l).map fun p => if adj a p.1 = true then pmF adj n p.2 else 0).sum = ((picks l).map fun p => if adj a p.1 = true then pmF adj m p.2 else 0).sum
        refine sum_congr' fun p hp => ?_
        have := picks_len l p hp
        rw [ih m p.2 (by omega) (by omega)]

/- Over lists with no element twice. -/
theorem picks_erase : ∀ l : List Nat, l.Nodup → picks l = l.map fun b => (b, l.erase b) := by
  intro l
  induction l with
  | nil => intro _; rfl
  | cons a l ih =>
    intro h
    have hn := List.nodup_cons.1 h
    simp only [picks, List.map_cons, List.erase_cons_head]
    congr 1
    rw [ih hn.2, List.map_map]
    apply List.map_congr_left
    intro b hb
    have hne : a ≠ b := fun e => hn.1 (by rw [e]; exact hb)
    simp [List.erase_cons_tail, hne]
theorem sum_two : ∀ (l : List Nat) (f : Nat → Nat) (r d : Nat), l.Nodup → r ≠ d → (∀ b ∈ l, b ≠ r → b ≠ d → f b = 0) →
    (l.map f).sum = (if r ∈ l then f r else 0) + (if d ∈ l then f d else 0) := by
  intro l
  induction l with
  | nil => intro f r d _ _ _; simp
  | cons a l ih =>
    intro f r d hl hrd hf
    have hn := List.nodup_cons.1 hl
    rw [List.map_cons, List.sum_cons, ih f r d hn.2 hrd (fun b hb => hf b (List.mem_cons_of_mem _ hb))]
    by_cases h1 : a = r
    · subst h1
      rw [if_neg hn.1, if_pos (List.mem_cons_self ..)]
      have : (d ∈ a :: l) ↔ d ∈ l := by simp [Ne.symm hrd]
      simp only [this]
      omega
    · by_cases h2 : a = d
      · subst h2
        rw [if_neg hn.1, if_pos (List.mem_cons_self ..)]
        have : (r ∈ a :: l) ↔ r ∈ l := by simp [hrd]
        simp only [this]
        omega
      · rw [hf a (List.mem_cons_self ..) h1 h2]
        have e1 : (r ∈ a :: l) ↔ r ∈ l := by simp [show ¬ r = a from fun e => h1 e.symm]
        have e2 : (d ∈ a :: l) ↔ d ∈ l := by simp [show ¬ d = a from fun e => h2 e.symm]
        simp only [e1, e2]
        omega

/- The board: cells by their codes, row by row. -/
def adjC (W : Nat) (a b : Nat) : Bool := (a / W == b / W && (a % W + 1 == b % W || b % W + 1 == a % W)) || (a % W == b % W && (a / W + 1 == b / W || b / W + 1 == a / W))
theorem adjC_symm (W a b : Nat) : adjC W a b = adjC W b a := by
  unfold adjC
  rw [Bool.eq_iff_iff]
  simp only [Bool.or_eq_true, Bool.and_eq_true, beq_iff_eq]
  constructor
  · rintro (⟨h1, h2 | h2⟩ | ⟨h1, h2 | h2⟩)
    · exact .inl ⟨h1.symm, .inr h2⟩
    · exact .inl ⟨h1.symm, .inl h2⟩
    · exact .inr ⟨h1.symm, .inr h2⟩
    · exact .inr ⟨h1.symm, .inl h2⟩
  · rintro (⟨h1, h2 | h2⟩ | ⟨h1, h2 | h2⟩)
    · exact .inl ⟨h1.symm, .inr h2⟩
    · exact .inl ⟨h1.symm, .inl h2⟩
    · exact .inr ⟨h1.symm, .inr h2⟩
    · exact .inr ⟨h1.symm, .inl h2⟩
/-- How many ways there are to cover the open cells of the codes below N. -/
def cnt (W N : Nat) (o : Nat → Bool) : Nat := pmF (adjC W) N ((List.range N).filter o)
def without (o : Nat → Bool) (a b : Nat) : Nat → Bool := fun c => o c && (c != a) && (c != b)
theorem cnt_congr {W N : Nat} {o o' : Nat → Bool} (h : ∀ c, c < N → o c = o' c) : cnt W N o = cnt W N o' := by
  unfold cnt
  rw [List.filter_congr fun c hc => h c (List.mem_range.1 hc)]
theorem cnt_none {W N : Nat} {o : Nat → Bool} (h : ∀ c, c < N → o c = false) : cnt W N o = 1 := by
  unfold cnt
  rw [List.filter_eq_nil_iff.2 fun c hc => by rw [h c (List.mem_range.1 hc)]; decide]
  cases N <;> rfl
theorem filter_len (N : Nat) (o : Nat → Bool) : ((List.range N).filter o).length ≤ N := by
  have := List.length_filter_le o (List.range N)
  simpa using this
theorem cnt_expand {W N : Nat} {o : Nat → Bool} {c r d : Nat} (hc : c < N) (ho : o c = true) (hrd : r ≠ d) (hrc : r ≠ c) (hdc : d ≠ c)
    (hnb : ∀ b, b < N → o b = true → adjC W c b = true → b = r ∨ b = d) :
    cnt W N o = (if r < N ∧ o r = true ∧ adjC W c r = true then cnt W N (without o c r) else 0) + (if d < N ∧ o d = true ∧ adjC W c d = true then cnt W N (without o c d) else 0) := by
  have hnd : ((List.range N).filter o).Nodup := List.Pairwise.filter _ List.nodup_range
  have hmem : c ∈ (List.range N).filter o := List.mem_filter.2 ⟨List.mem_range.2 hc, ho⟩
  have hlen := filter_len N o
  obtain ⟨l, hl⟩ : ∃ l, ((List.range N).filter o).erase c = l := ⟨_, rfl⟩
  have hp := List.perm_cons_erase hmem
  rw [hl] at hp
  have hnl : l.Nodup := by rw [← hl]; exact hnd.erase c
  have hml : ∀ b, b ∈ l ↔ b < N ∧ o b = true ∧ b ≠ c := fun b => by
    rw [← hl, hnd.mem_erase_iff, List.mem_filter, List.mem_range]
    constructor
    · rintro ⟨h1, h2, h3⟩; exact ⟨h2, h3, h1⟩
    · rintro ⟨h1, h2, h3⟩; exact ⟨h3, h1, h2⟩
  have hll : l.length + 1 ≤ N := by
    have := hp.length_eq
    simp only [List.length_cons] at this
    omega
  obtain ⟨M, rfl⟩ : ∃ M, N = M + 1 := ⟨N - 1, by omega⟩
  have h1 : cnt W (M + 1) o = (l.map fun b => if adjC W c b = true then pmF (adjC W) M (l.erase b) else 0).sum := by
    unfold cnt
    rw [pm_perm (adjC W) (adjC_symm W) (M + 1) (M + 1) (Nat.le_refl _) _ _ hp hlen]
    show ((picks l).map fun p => if adjC W c p.1 = true then pmF (adjC W) M p.2 else 0).sum = _
    rw [picks_erase l hnl, List.map_map]
    rfl
  rw [h1, sum_two l _ r d hnl hrd (fun b hb hr hd => by
    have hb2 := (hml b).1 hb
    by_cases ha : adjC W c b = true
    · rcases hnb b hb2.1 hb2.2.1 ha with e | e
      · exact absurd e hr
      · exact absurd e hd
    · simp [ha])]
  have key : ∀ x, x ≠ c → x ∈ l → pmF (adjC W) M (l.erase x) = cnt W (M + 1) (without o c x) := by
    intro x hx hxl
    have hlx : (l.erase x).length + 1 = l.length := by
      have := (List.perm_cons_erase hxl).length_eq
      simp only [List.length_cons] at this
      omega
    rw [pm_fuel (adjC W) M (M + 1) _ (by omega) (by omega)]
    unfold cnt
    refine pm_perm (adjC W) (adjC_symm W) (M + 1) (M + 1) (Nat.le_refl _) _ _ ?_ (by omega)
    refine (List.perm_ext_iff_of_nodup (hnl.erase x) (List.Pairwise.filter _ List.nodup_range)).2 fun b => ?_
    rw [hnl.mem_erase_iff, hml, List.mem_filter, List.mem_range]
    simp only [without, Bool.and_eq_true, bne_iff_ne, ne_eq]
    constructor
    · rintro ⟨h1, h2, h3, h4⟩; exact ⟨h2, ⟨h3, h4⟩, h1⟩
    · rintro ⟨h1, ⟨h2, h3⟩, h4⟩; exact ⟨h4, h1, h2, h3⟩
  have part : ∀ x, x ≠ c → (if x ∈ l then (if adjC W c x = true then pmF (adjC W) M (l.erase x) else 0) else 0) = (if x < M + 1 ∧ o x = true ∧ adjC W c x = true then cnt W (M + 1) (without o c x) else 0) := by
    intro x hx
    by_cases hm : x ∈ l
    · have h2 := (hml x).1 hm
      by_cases ha : adjC W c x = true
      · rw [if_pos hm, if_pos ha, if_pos ⟨h2.1, h2.2.1, ha⟩]
        exact key x hx hm
      · rw [if_pos hm, if_neg ha, if_neg (fun h => ha h.2.2)]
    · rw [if_neg hm, if_neg (fun h => hm ((hml x).2 ⟨h.1, h.2.1, hx⟩))]
  rw [part r hrc, part d hdc]
end Go.Proofs.YtahihapgbcoanaaDoor
