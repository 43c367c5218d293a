/-
  What 'rounds' computes, in plain words: 'rev p' turns each longest stretch of p round, 'cnt p' counts these stretches, 'loopR' does it from the greatest level down. Plain lemmas; no program in sight.
-/
import Derived.Test.YtlcijmllffablaaBase
namespace Go.Proofs.Ytlcijmllffablaa

def held (n : Int) : Int := max 0 (min n 126)
theorem held_ge (n : Int) : 0 ≤ held n := by unfold held; omega
theorem held_le (n : Int) : held n ≤ 126 := by unfold held; omega
theorem held_held (n : Int) : held (held n) = held n := by unfold held; omega
def ints (o : List Nat) : List Int := o.map fun (i : Nat) => (i : Int)
theorem ints_get (o : List Nat) (k : Nat) : (ints o)[k]? = (o[k]?).map fun (i : Nat) => (i : Int) := by simp [ints]
theorem ints_length (o : List Nat) : (ints o).length = o.length := by simp [ints]
def lvl (l : List Int) (i : Nat) : Int := held (l.getD i 0)
/-- the stretch 'a' is open -/
def rev (p : Nat → Bool) : List Nat → List Nat → List Nat
  | a, [] => a
  | a, x :: r => if p x then rev p (x :: a) r else a ++ x :: rev p [] r
def cnt (p : Nat → Bool) : Bool → List Nat → Nat
  | _, [] => 0
  | b, x :: r => if p x then (if b then 0 else 1) + cnt p true r else cnt p false r
def most (l : List Int) : Int := l.foldl (fun m n => max m (held n)) 0
def least (l : List Int) : Int := l.foldl (fun m n => if held n % 2 = 1 then min m (held n) else m) 127
def ge (l : List Int) (k : Int) (i : Nat) : Bool := decide (k ≤ lvl l i)
/-- m rounds, down to level a -/
def loopR (l : List Int) (a : Int) : Nat → List Nat → Nat → List Nat × Nat
  | 0, o, n => (o, n)
  | m + 1, o, n => loopR l a m (rev (ge l (a + m)) [] o) (n + cnt (ge l (a + m)) false o)
def rounds (l : List Int) : List Nat × Nat := loopR l (least l) (most l + 1 - least l).toNat (List.range l.length) 0

theorem most_snoc (l : List Int) (x : Int) : most (l ++ [x]) = max (most l) (held x) := by simp [most]
theorem least_snoc (l : List Int) (x : Int) : least (l ++ [x]) = if held x % 2 = 1 then min (least l) (held x) else least l := by simp [least]
theorem most_bd (l : List Int) : 0 ≤ most l ∧ most l ≤ 126 := by
  have h : ∀ (l : List Int) (m : Int), 0 ≤ m → m ≤ 126 → 0 ≤ l.foldl (fun m n => max m (held n)) m ∧ l.foldl (fun m n => max m (held n)) m ≤ 126 := by
    intro l
    induction l with
    | nil => intro m h1 h2; exact ⟨h1, h2⟩
    | cons x r ih =>
      intro m h1 h2
      have := held_ge x
      have := held_le x
      simp only [List.foldl_cons]
      exact ih _ (by omega) (by omega)
  exact h l 0 (by omega) (by omega)
theorem least_bd (l : List Int) : 1 ≤ least l ∧ least l ≤ 127 := by
  have h : ∀ (l : List Int) (m : Int), 1 ≤ m → m ≤ 127 → 1 ≤ l.foldl (fun m n => if held n % 2 = 1 then min m (held n) else m) m ∧ l.foldl (fun m n => if held n % 2 = 1 then min m (held n) else m) m ≤ 127 := by
    intro l
    induction l with
    | nil => intro m h1 h2; exact ⟨h1, h2⟩
    | cons x r ih =>
      intro m h1 h2
      have := held_ge x
      have := held_le x
      simp only [List.foldl_cons]
      split
      · exact ih _ (by omega) (by omega)
      · exact ih _ (by omega) (by omega)
  exact h l 127 (by omega) (by omega)

section
variable {p : Nat → Bool}
theorem rev_run : ∀ (s a r : List Nat), (∀ x ∈ s, p x = true) → rev p a (s ++ r) = rev p (s.reverse ++ a) r
  | [], a, r, _ => rfl
  | x :: s, a, r, h => by
    rw [List.cons_append, rev, if_pos (h x (by simp)), rev_run s (x :: a) r (fun y hy => h y (by simp [hy]))]
    simp
/-- the list stops being p at its head -/
def Stops (p : Nat → Bool) (r : List Nat) : Prop := ∀ x, r[0]? = some x → p x = false
theorem rev_stop (a r : List Nat) (h : Stops p r) : rev p a r = a ++ rev p [] r := by
  cases r with
  | nil => simp [rev]
  | cons x r => rw [rev, if_neg (by simp [h x rfl]), rev, if_neg (by simp [h x rfl])]; simp
theorem rev_seg (s r : List Nat) (hs : ∀ x ∈ s, p x = true) (h : Stops p r) : rev p [] (s ++ r) = s.reverse ++ rev p [] r := by
  rw [rev_run s [] r hs, rev_stop _ r h, List.append_nil]
theorem rev_skip (x : Nat) (r : List Nat) (h : p x = false) : rev p [] (x :: r) = x :: rev p [] r := by
  rw [rev, if_neg (by simp [h])]; rfl
theorem cnt_run : ∀ (s r : List Nat), (∀ x ∈ s, p x = true) → cnt p true (s ++ r) = cnt p true r
  | [], r, _ => rfl
  | x :: s, r, h => by
    rw [List.cons_append, cnt, if_pos (h x (by simp)), cnt_run s r (fun y hy => h y (by simp [hy]))]
    simp
theorem cnt_stop (b : Bool) (r : List Nat) (h : Stops p r) : cnt p b r = cnt p false r := by
  cases r with
  | nil => simp [cnt]
  | cons x r => rw [cnt, if_neg (by simp [h x rfl]), cnt, if_neg (by simp [h x rfl])]
theorem cnt_seg (s r : List Nat) (h0 : s ≠ []) (hs : ∀ x ∈ s, p x = true) (h : Stops p r) : cnt p false (s ++ r) = 1 + cnt p false r := by
  cases s with
  | nil => exact absurd rfl h0
  | cons x s =>
    rw [List.cons_append, cnt, if_pos (hs x (by simp)), cnt_run s r (fun y hy => hs y (by simp [hy])), cnt_stop true r h]
    simp
theorem cnt_skip (x : Nat) (r : List Nat) (h : p x = false) : cnt p false (x :: r) = cnt p false r := by
  rw [cnt, if_neg (by simp [h])]
theorem rev_length : ∀ (r a : List Nat), (rev p a r).length = a.length + r.length
  | [], a => by simp [rev]
  | x :: r, a => by
    rw [rev]
    split
    · rw [rev_length r]; simp; omega
    · rw [List.length_append, List.length_cons, rev_length r]; simp
theorem rev_mem : ∀ (r a : List Nat) (y : Nat), y ∈ rev p a r ↔ y ∈ a ∨ y ∈ r
  | [], a, y => by simp [rev]
  | x :: r, a, y => by
    rw [rev]
    split
    · rw [rev_mem r]; simp only [List.mem_cons]; constructor
      · rintro ((h | h) | h)
        · exact .inr (.inl h)
        · exact .inl h
        · exact .inr (.inr h)
      · rintro (h | h | h)
        · exact .inl (.inr h)
        · exact .inl (.inl h)
        · exact .inr h
    · rw [List.mem_append, List.mem_cons, rev_mem r]; simp
end

/-- ONE ROUND, IN ITS MIDST: what is done, what is to be done -/
def Mid (p : Nat → Bool) (o : List Nat) (n : Nat) (R : List Nat) (N : Nat) (i : Nat) : Prop := o.take i ++ rev p [] (o.drop i) = R ∧ n + cnt p false (o.drop i) = N
theorem mid_start (p : Nat → Bool) (o : List Nat) (n : Nat) : Mid p o n (rev p [] o) (n + cnt p false o) 0 := ⟨by simp, by simp⟩
theorem mid_end {p : Nat → Bool} {o R : List Nat} {n N i : Nat} (h : Mid p o n R N i) (hi : o.length ≤ i) : o = R ∧ n = N := by
  obtain ⟨h1, h2⟩ := h
  rw [List.drop_eq_nil_of_le hi] at h1 h2
  rw [List.take_of_length_le hi] at h1
  simpa [rev, cnt] using And.intro h1 h2
theorem mid_skip {p : Nat → Bool} {o R : List Nat} {n N i x : Nat} (h : Mid p o n R N i) (hx : o[i]? = some x) (hp : p x = false) : Mid p o n R N (i + 1) := by
  obtain ⟨h1, h2⟩ := h
  rw [drop_at hx, rev_skip x _ hp] at h1
  rw [drop_at hx, cnt_skip x _ hp] at h2
  refine ⟨?_, h2⟩
  rw [take_at hx, List.append_assoc]
  exact h1
/-- all from f to t are p -/
def Run (p : Nat → Bool) (o : List Nat) (f t : Nat) : Prop := ∀ j x, f ≤ j → j < t → o[j]? = some x → p x = true
theorem mid_run {p : Nat → Bool} {o R : List Nat} {n N f t : Nat} (h : Mid p o n R N f) (hft : f < t) (ht : t ≤ o.length) (hr : Run p o f t) (hs : ∀ x, o[t]? = some x → p x = false) :
    Mid p (o.take f ++ ((o.drop f).take (t - f)).reverse ++ o.drop t) (n + 1) R N t := by
  obtain ⟨h1, h2⟩ := h
  have e : o.drop f = (o.drop f).take (t - f) ++ o.drop t := by
    have := (List.take_append_drop (t - f) (o.drop f)).symm
    rw [List.drop_drop, show f + (t - f) = t from by omega] at this
    exact this
  have hall : ∀ x ∈ (o.drop f).take (t - f), p x = true := by
    intro x hx
    obtain ⟨j, hj⟩ := List.getElem?_of_mem hx
    rw [List.getElem?_take] at hj
    split at hj
    · rw [List.getElem?_drop] at hj
      exact hr (f + j) x (by omega) (by omega) hj
    · cases hj
  have hst : Stops p (o.drop t) := by
    intro x hx
    rw [List.getElem?_drop] at hx
    exact hs x hx
  have hl : (o.take f ++ ((o.drop f).take (t - f)).reverse).length = t := by simp; omega
  have hne : (o.drop f).take (t - f) ≠ [] := by
    intro e
    have := congrArg List.length e
    simp at this
    omega
  unfold Mid
  rw [List.take_left' hl, List.drop_left' hl]
  rw [e, rev_seg _ _ hall hst] at h1
  rw [e, cnt_seg _ _ hne hall hst] at h2
  exact ⟨by rw [List.append_assoc]; exact h1, by omega⟩
end Go.Proofs.Ytlcijmllffablaa
