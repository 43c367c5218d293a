/-
  Plain: all rounds from 126 down to 1 give the same order as those that 'rounds' takes; what comes of levels raised by one; of two neighbours of one level. No program in sight.
-/
import Derived.Test.YtlcijmllffablaaVis
namespace Go.Proofs.Ytlcijmllffablaa

theorem rev_split {p : Nat → Bool} {x : Nat} (hx : p x = false) (b : List Nat) : ∀ (a acc : List Nat), rev p acc (a ++ x :: b) = rev p acc a ++ x :: rev p [] b
  | [], acc => by simp [rev, hx]
  | c :: a, acc => by
    rw [List.cons_append, rev, rev]
    split
    · exact rev_split hx b a _
    · rw [rev_split hx b a []]; simp
theorem rev_all {p : Nat → Bool} (s : List Nat) (h : ∀ x ∈ s, p x = true) : rev p [] s = s.reverse := by
  have := rev_run (p := p) s [] [] h
  simpa [rev] using this
theorem rev_none {p : Nat → Bool} : ∀ (s : List Nat), (∀ x ∈ s, p x = false) → rev p [] s = s
  | [], _ => rfl
  | x :: r, h => by rw [rev_skip x r (h x (by simp)), rev_none r (fun y hy => h y (by simp [hy]))]
theorem rev_congr {p q : Nat → Bool} : ∀ (s a : List Nat), (∀ x ∈ s, p x = q x) → rev p a s = rev q a s
  | [], _, _ => rfl
  | x :: r, a, h => by
    have hr := fun (a : List Nat) => rev_congr (p := p) (q := q) r a (fun y hy => h y (by simp [hy]))
    rw [rev, rev, h x (by simp), hr, hr]
theorem cut_run {p : Nat → Bool} : ∀ (o : List Nat), (∀ x ∈ o, p x = true) ∨ ∃ s x r, o = s ++ x :: r ∧ (∀ y ∈ s, p y = true) ∧ p x = false
  | [] => .inl (by simp)
  | x :: r => by
    cases hx : p x with
    | false => exact .inr ⟨[], x, r, rfl, by simp, hx⟩
    | true =>
      rcases cut_run (p := p) r with h | ⟨s, y, t, rfl, hs, hy⟩
      · exact .inl (by intro z hz; rcases List.mem_cons.1 hz with rfl | hz; exact hx; exact h z hz)
      · exact .inr ⟨x :: s, y, t, rfl, by intro z hz; rcases List.mem_cons.1 hz with rfl | hz; exact hx; exact hs z hz, hy⟩
theorem rev_twice {p : Nat → Bool} : ∀ (n : Nat) (o : List Nat), o.length ≤ n → rev p [] (rev p [] o) = o
  | 0, o, h => by
    have : o = [] := List.eq_nil_of_length_eq_zero (by omega)
    subst this
    rfl
  | n + 1, o, h => by
    rcases cut_run (p := p) o with ha | ⟨s, x, r, rfl, hs, hx⟩
    · rw [rev_all o ha, rev_all o.reverse (by simpa using ha), List.reverse_reverse]
    · have e : rev p [] (s ++ x :: r) = s.reverse ++ x :: rev p [] r := by rw [rev_split hx, rev_all s hs]
      rw [e, rev_split hx, rev_all s.reverse (by simpa using hs), List.reverse_reverse, rev_twice n r (by simp at h; omega)]

def atLeast (lv : Nat → Int) (k : Int) (i : Nat) : Bool := decide (k ≤ lv i)
/-- the rounds from m down to 1 -/
def fullR (lv : Nat → Int) : Nat → List Nat → List Nat
  | 0, o => o
  | m + 1, o => fullR lv m (rev (atLeast lv ((m : Int) + 1)) [] o)

theorem ge_eq (l : List Int) (k : Int) : ge l k = atLeast (lvl l) k := rfl
theorem full_mem (lv : Nat → Int) (x : Nat) : ∀ (m : Nat) (o : List Nat), x ∈ fullR lv m o ↔ x ∈ o
  | 0, o => Iff.rfl
  | m + 1, o => by rw [fullR, full_mem lv x m, rev_mem]; simp
theorem loop_full (l : List Int) (a : Nat) : ∀ (m : Nat) (o : List Nat) (n : Nat), fullR (lvl l) (a + m) o = fullR (lvl l) a (loopR l ((a : Int) + 1) m o n).1
  | 0, o, n => rfl
  | m + 1, o, n => by
    rw [loopR, ← loop_full l a m, ← Nat.add_assoc, fullR, ge_eq, show ((a + m : Nat) : Int) + 1 = (a : Int) + 1 + (m : Int) from by omega]
/-- above all levels nothing turns -/
theorem full_high (lv : Nat → Int) (M : Nat) (o : List Nat) (h : ∀ x ∈ o, lv x ≤ M) : ∀ d : Nat, fullR lv (M + d) o = fullR lv M o
  | 0 => rfl
  | d + 1 => by
    rw [← Nat.add_assoc, fullR, rev_none o (by
      intro x hx
      have := h x hx
      unfold atLeast
      simp
      omega)]
    exact full_high lv M o h d
/-- below the least odd level two rounds undo each other -/
theorem full_even (lv : Nat → Int) (o : List Nat) : ∀ j : Nat, (∀ x ∈ o, ∀ i : Nat, i < j → lv x ≠ 2 * (i : Int) + 1) → fullR lv (2 * j) o = o
  | 0, _ => rfl
  | j + 1, h => by
    have e : 2 * (j + 1) = 2 * j + 1 + 1 := by omega
    have hj := full_even lv o j (fun x hx i hi => h x hx i (by omega))
    rw [e, fullR, fullR]
    have hc : rev (atLeast lv ((2 * j : Nat) + 1)) [] (rev (atLeast lv ((2 * j + 1 : Nat) + 1)) [] o) = o := by
      rw [rev_congr (p := atLeast lv ((2 * j : Nat) + 1)) (q := atLeast lv ((2 * j + 1 : Nat) + 1))]
      · exact rev_twice _ o (Nat.le_refl _)
      · intro x hx
        rw [rev_mem] at hx
        have hx : x ∈ o := by simpa using hx
        have := h x hx j (by omega)
        unfold atLeast
        rw [Bool.eq_iff_iff]
        simp
        omega
    rw [hc]
    exact hj

theorem most_ge (l : List Int) (i : Nat) (hi : i < l.length) : lvl l i ≤ most l := by
  have h : ∀ (l : List Int) (m : Int), m ≤ l.foldl (fun m n => max m (held n)) m ∧ ∀ x ∈ l, held x ≤ l.foldl (fun m n => max m (held n)) m := by
    intro l
    induction l with
    | nil => intro m; exact ⟨Int.le_refl _, by simp⟩
    | cons x r ih =>
      intro m
      simp only [List.foldl_cons]
      obtain ⟨h1, h2⟩ := ih (max m (held x))
      refine ⟨by omega, fun y hy => ?_⟩
      rcases List.mem_cons.1 hy with rfl | hy
      · omega
      · exact h2 y hy
  unfold lvl
  rw [List.getD_eq_getElem?_getD, List.getElem?_eq_getElem hi]
  exact (h l 0).2 _ (List.getElem_mem hi)
theorem least_odd (l : List Int) : least l % 2 = 1 ∧ ∀ i, i < l.length → lvl l i % 2 = 1 → least l ≤ lvl l i := by
  have h : ∀ (l : List Int) (m : Int), m % 2 = 1 → let r := l.foldl (fun m n => if held n % 2 = 1 then min m (held n) else m) m
      r % 2 = 1 ∧ r ≤ m ∧ ∀ x ∈ l, held x % 2 = 1 → r ≤ held x := by
    intro l
    induction l with
    | nil => intro m hm; exact ⟨hm, Int.le_refl _, by simp⟩
    | cons x r ih =>
      intro m hm
      simp only [List.foldl_cons]
      split
      · obtain ⟨h1, h2, h3⟩ := ih (min m (held x)) (by omega)
        refine ⟨h1, by omega, fun y hy hyo => ?_⟩
        rcases List.mem_cons.1 hy with rfl | hy
        · omega
        · exact h3 y hy hyo
      · obtain ⟨h1, h2, h3⟩ := ih m hm
        refine ⟨h1, h2, fun y hy hyo => ?_⟩
        rcases List.mem_cons.1 hy with rfl | hy
        · omega
        · exact h3 y hy hyo
  obtain ⟨h1, _, h3⟩ := h l 127 (by decide)
  refine ⟨h1, fun i hi ho => ?_⟩
  unfold lvl at ho ⊢
  rw [List.getD_eq_getElem?_getD, List.getElem?_eq_getElem hi] at ho ⊢
  exact h3 _ (List.getElem_mem hi) ho

theorem lvl_bd (l : List Int) (i : Nat) : 0 ≤ lvl l i ∧ lvl l i ≤ 126 := ⟨held_ge _, held_le _⟩
/-- ALL ROUNDS GIVE THE SAME ORDER -/
theorem rounds_full (l : List Int) : (rounds l).1 = fullR (lvl l) 126 (List.range l.length) := by
  obtain ⟨ho, hlo⟩ := least_odd l
  have hb := least_bd l
  have hm := most_bd l
  obtain ⟨j, hj⟩ : ∃ j : Nat, least l = 2 * (j : Int) + 1 := ⟨(least l / 2).toNat, by omega⟩
  have hv : ∀ x ∈ List.range l.length, lvl l x ≤ ((2 * j + (most l + 1 - least l).toNat : Nat) : Int) := by
    intro x hx
    have := most_ge l x (by simpa using hx)
    omega
  obtain ⟨d, hd⟩ : ∃ d, 126 = 2 * j + (most l + 1 - least l).toNat + d := ⟨126 - (2 * j + (most l + 1 - least l).toNat), by omega⟩
  rw [hd, full_high _ _ _ hv, loop_full l (2 * j) _ _ 0]
  unfold rounds
  have e : ((2 * j : Nat) : Int) + 1 = least l := by omega
  rw [e, full_even]
  intro x hx i hi e2
  have hx2 : x < l.length := (rounds_places l).2 x hx
  have := hlo x hx2 (by omega)
  omega

/-- levels raised by one: one round more, over all -/
theorem full_raised (lv lv' : Nat → Int) : ∀ (m : Nat) (o : List Nat), (∀ x ∈ o, lv' x = lv x + 1) → fullR lv' (m + 1) o = rev (atLeast lv 0) [] (fullR lv m o) := by
  intro m
  induction m with
  | zero =>
    intro o h
    show rev _ [] o = rev _ [] o
    refine rev_congr o [] fun x hx => ?_
    unfold atLeast
    rw [h x hx, Bool.eq_iff_iff]
    simp
    omega
  | succ m ih =>
    intro o h
    rw [fullR, ih _ (fun x hx => h x (by rw [rev_mem] at hx; simpa using hx)), fullR]
    congr 2
    refine rev_congr o [] fun x hx => ?_
    unfold atLeast
    rw [h x hx, Bool.eq_iff_iff]
    simp

def Adj (x y : Nat) (o : List Nat) : Prop := ∃ a b, o = a ++ x :: y :: b
theorem rev_keeps {p : Nat → Bool} : ∀ (b a : List Nat), ∃ u v, rev p a b = u ++ a ++ v
  | [], a => ⟨[], [], by simp [rev]⟩
  | x :: r, a => by
    rw [rev]
    split
    · obtain ⟨u, v, h⟩ := rev_keeps (p := p) r (x :: a)
      exact ⟨u ++ [x], v, by rw [h]; simp⟩
    · exact ⟨[], x :: rev p [] r, by simp⟩
theorem adj_out {p : Nat → Bool} {x y : Nat} {o : List Nat} (hx : p x = false) (hy : p y = false) (h : Adj x y o) : Adj x y (rev p [] o) := by
  obtain ⟨a, b, rfl⟩ := h
  exact ⟨rev p [] a, rev p [] b, by rw [rev_split hx, rev_skip y b hy]⟩
theorem adj_in' {p : Nat → Bool} {x y : Nat} (hx : p x = true) (hy : p y = true) (b : List Nat) : ∀ (a acc : List Nat), Adj y x (rev p acc (a ++ x :: y :: b))
  | [], acc => by
    rw [List.nil_append, rev, if_pos hx, rev, if_pos hy]
    obtain ⟨u, v, h⟩ := rev_keeps (p := p) b (y :: x :: acc)
    exact ⟨u, acc ++ v, by rw [h]; simp⟩
  | c :: a, acc => by
    rw [List.cons_append, rev]
    split
    · exact adj_in' hx hy b a _
    · obtain ⟨u, v, h⟩ := adj_in' hx hy b a []
      exact ⟨acc ++ c :: u, v, by rw [h]; simp⟩
theorem adj_in {p : Nat → Bool} {x y : Nat} {o : List Nat} (hx : p x = true) (hy : p y = true) (h : Adj x y o) : Adj y x (rev p [] o) := by
  obtain ⟨a, b, rfl⟩ := h
  exact adj_in' hx hy b a []
/-- two neighbours of one level L: they turn round L times -/
theorem adj_full (lv : Nat → Int) (L : Nat) : ∀ (m : Nat) (x y : Nat) (o : List Nat), lv x = L → lv y = L → Adj x y o → if min m L % 2 = 0 then Adj x y (fullR lv m o) else Adj y x (fullR lv m o)
  | 0, x, y, o, _, _, h => by simpa [fullR] using h
  | m + 1, x, y, o, hx, hy, h => by
    rw [fullR]
    by_cases hm : m + 1 ≤ L
    · have := adj_full lv L m y x _ hy hx (adj_in (p := atLeast lv ((m : Int) + 1)) (by unfold atLeast; simp; omega) (by unfold atLeast; simp; omega) h)
      rw [Nat.min_eq_left (by omega)] at this ⊢
      by_cases he : m % 2 = 0
      · rw [if_pos he] at this
        rw [if_neg (by omega)]
        exact this
      · rw [if_neg he] at this
        rw [if_pos (by omega)]
        exact this
    · have := adj_full lv L m x y _ hx hy (adj_out (p := atLeast lv ((m : Int) + 1)) (by unfold atLeast; simp; omega) (by unfold atLeast; simp; omega) h)
      rw [Nat.min_eq_right (by omega)] at this ⊢
      exact this
theorem adj_range (n i : Nat) (h : i + 1 < n) : Adj i (i + 1) (List.range n) := by
  refine ⟨List.range i, (List.range (n - (i + 2))).map (i + 2 + ·), ?_⟩
  have e : n = i + 2 + (n - (i + 2)) := by omega
  conv => lhs; rw [e, List.range_add]
  rw [List.range_succ, List.range_succ]
  simp
end Go.Proofs.Ytlcijmllffablaa
