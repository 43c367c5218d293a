/-
  Plain: the stretches of one level, and how the order of the places is the order of the stretches, each turned round or not. No program in sight.
-/
import Derived.Test.YtlcijmllffablaaFull
namespace Go.Proofs.Ytlcijmllffablaa

/-- a stretch: from, to, level -/
abbrev Run3 := Nat × Nat × Int
def seg (r : Run3) : List Nat := (List.range (r.2.1 - r.1)).map (r.1 + ·)
/-- the last stretch stands first -/
def addRun (R : List Run3) (i : Nat) (h : Int) : List Run3 :=
  match R with
  | [] => [(i, i + 1, h)]
  | (f, t, v) :: r => if v = h then (f, i + 1, h) :: r else (i, i + 1, h) :: (f, t, v) :: r
def runsK (L : List Int) : Nat → List Run3
  | 0 => []
  | k + 1 => addRun (runsK L k) k (L.getD k 0)
/-- the stretches cover the first k places, neighbours differ -/
def G (L : List Int) : List Run3 → Nat → Prop
  | [], k => k = 0
  | (f, t, v) :: r, k => t = k ∧ f < t ∧ (∀ i, f ≤ i → i < t → L[i]? = some v) ∧ (∀ q ∈ r.head?, q.2.2 ≠ v) ∧ G L r f

theorem runs_good (L : List Int) : ∀ k, k ≤ L.length → G L (runsK L k) k
  | 0, _ => rfl
  | k + 1, h => by
    have ih := runs_good L k (by omega)
    have hk : L[k]? = some (L.getD k 0) := by rw [List.getD_eq_getElem?_getD, List.getElem?_eq_getElem (by omega)]; rfl
    rw [runsK]
    generalize L.getD k 0 = x at hk
    cases hR : runsK L k with
    | nil =>
      rw [hR] at ih
      have h0 : k = 0 := ih
      subst h0
      exact ⟨rfl, by omega, by intro i h1 h2; rw [show i = 0 from by omega]; exact hk, by simp, rfl⟩
    | cons q r =>
      rw [hR] at ih
      obtain ⟨f, t, v⟩ := q
      obtain ⟨h1, h2, h3, h4, h5⟩ := ih
      rw [addRun]
      split
      · rename_i hv
        subst hv
        refine ⟨rfl, by omega, fun i hi1 hi2 => ?_, h4, h5⟩
        by_cases e : i = k
        · rw [e]; exact hk
        · exact h3 i hi1 (by omega)
      · rename_i hv
        exact ⟨rfl, by omega, by intro i hi1 hi2; rw [show i = k from by omega]; exact hk, by intro q hq; simp at hq; subst hq; exact hv, h1, h2, h3, h4, h5⟩

/-- a stretch is as long as can be -/
def MaxR (L : List Int) (n : Nat) (r : Run3) : Prop :=
  r.1 < r.2.1 ∧ r.2.1 ≤ n ∧ (∀ i, r.1 ≤ i → i < r.2.1 → L[i]? = some r.2.2) ∧ (r.1 = 0 ∨ L[r.1 - 1]? ≠ some r.2.2) ∧ (r.2.1 = n ∨ L[r.2.1]? ≠ some r.2.2)
theorem good_max (L : List Int) : ∀ (R : List Run3) (k : Nat), G L R k → ∀ r ∈ R, MaxR L k r
  | [], _, _, r, hr => by simp at hr
  | (f, t, v) :: R, k, h, r, hr => by
    obtain ⟨h1, h2, h3, h4, h5⟩ := h
    rcases List.mem_cons.1 hr with rfl | hr
    · refine ⟨h2, by show t ≤ k; omega, h3, ?_, .inl h1⟩
      cases R with
      | nil => exact .inl h5
      | cons q R =>
        right
        obtain ⟨f', t', v'⟩ := q
        obtain ⟨g1, g2, g3, _, _⟩ := h5
        have hv : v' ≠ v := h4 (f', t', v') rfl
        show L[f - 1]? ≠ some v
        rw [g3 (f - 1) (by omega) (by omega)]
        simpa using hv
    · obtain ⟨m1, m2, m3, m4, m5⟩ := good_max L R f h5 r hr
      refine ⟨m1, by omega, m3, m4, ?_⟩
      rcases m5 with m5 | m5
      · right
        rw [m5, h3 f (Nat.le_refl _) h2]
        cases R with
        | nil => simp at hr
        | cons q R =>
          obtain ⟨f', t', v'⟩ := q
          obtain ⟨g1, g2, g3, g4, g5⟩ := h5
          rcases List.mem_cons.1 hr with rfl | hr
          · have := h4 (f', t', v') rfl
            intro e
            injection e with e
            exact this e.symm
          · have := (good_max L R f' g5 r hr).2.1
            omega
      · exact .inr m5
theorem good_cover (L : List Int) : ∀ (R : List Run3) (k : Nat), G L R k → List.range k = R.reverse.flatMap seg
  | [], k, h => by have : k = 0 := h; subst this; rfl
  | (f, t, v) :: R, k, h => by
    obtain ⟨h1, h2, _, _, h5⟩ := h
    subst h1
    rw [List.reverse_cons, List.flatMap_append, ← good_cover L R f h5]
    have e : t = f + (t - f) := by omega
    conv => lhs; rw [e, List.range_add]
    simp [seg]

/-- one round over stretches -/
theorem rev_blocks {p q : Nat → Bool} (f : Nat → List Nat) : ∀ (o A : List Nat), (∀ j ∈ o, f j ≠ [] ∧ ∀ x ∈ f j, p x = q j) → (∀ j ∈ A, q j = true) →
    rev p (A.flatMap fun j => (f j).reverse) (o.flatMap f) = (rev q A o).flatMap fun j => if q j then (f j).reverse else f j
  | [], A, _, hA => by
    simp only [List.flatMap_nil, rev]
    have : ∀ (A : List Nat), (∀ j ∈ A, q j = true) → (A.flatMap fun j => (f j).reverse) = A.flatMap fun j => if q j then (f j).reverse else f j := by
      intro A
      induction A with
      | nil => intro _; rfl
      | cons j A ih => intro h; rw [List.flatMap_cons, List.flatMap_cons, if_pos (h j (by simp)), ih (fun i hi => h i (by simp [hi]))]
    exact this A hA
  | j :: o, A, h, hA => by
    obtain ⟨hne, hall⟩ := h j (by simp)
    have hr : ∀ i ∈ o, f i ≠ [] ∧ ∀ x ∈ f i, p x = q i := fun i hi => h i (by simp [hi])
    have hAA : ∀ (A : List Nat), (∀ j ∈ A, q j = true) → (A.flatMap fun j => (f j).reverse) = A.flatMap fun j => if q j then (f j).reverse else f j := by
      intro A
      induction A with
      | nil => intro _; rfl
      | cons j A ih => intro h; rw [List.flatMap_cons, List.flatMap_cons, if_pos (h j (by simp)), ih (fun i hi => h i (by simp [hi]))]
    rw [List.flatMap_cons, rev]
    cases hq : q j with
    | true =>
      rw [if_pos rfl, rev_run (f j) _ _ (fun x hx => by rw [hall x hx, hq])]
      have := rev_blocks f o (j :: A) hr (by intro i hi; rcases List.mem_cons.1 hi with rfl | hi; exact hq; exact hA i hi)
      rw [List.flatMap_cons] at this
      exact this
    | false =>
      rw [if_neg (by simp)]
      have hall' : ∀ x ∈ f j, p x = false := fun x hx => by rw [hall x hx, hq]
      cases hf : f j with
      | nil => exact absurd hf hne
      | cons x xs =>
        rw [hf] at hall'
        have hskip : ∀ (s r : List Nat), (∀ x ∈ s, p x = false) → rev p [] (s ++ r) = s ++ rev p [] r := by
          intro s
          induction s with
          | nil => intro r _; rfl
          | cons y s ih => intro r h; rw [List.cons_append, rev_skip y _ (h y (by simp)), ih r (fun z hz => h z (by simp [hz]))]; rfl
        have h0 := rev_blocks f o [] hr (by simp)
        rw [List.flatMap_nil] at h0
        rw [List.cons_append, rev, if_neg (by simp [hall' x (by simp)]), hskip xs _ (fun y hy => hall' y (by simp [hy])), h0, hAA A hA, List.flatMap_append, List.flatMap_cons]
        simp [hq, hf]
theorem full_blocks (lv lq : Nat → Int) : ∀ (m : Nat) (f : Nat → List Nat) (o : List Nat), (∀ j ∈ o, f j ≠ [] ∧ ∀ x ∈ f j, lv x = lq j) →
    ∃ g : Nat → List Nat, (∀ j, g j = f j ∨ g j = (f j).reverse) ∧ fullR lv m (o.flatMap f) = (fullR lq m o).flatMap g
  | 0, f, o, _ => ⟨f, fun _ => .inl rfl, rfl⟩
  | m + 1, f, o, h => by
    have h1 := rev_blocks (p := atLeast lv ((m : Int) + 1)) (q := atLeast lq ((m : Int) + 1)) f o [] (fun j hj => ⟨(h j hj).1, fun x hx => by unfold atLeast; rw [(h j hj).2 x hx]⟩) (by simp)
    rw [List.flatMap_nil] at h1
    rw [fullR, fullR, h1]
    obtain ⟨g, hg, e⟩ := full_blocks lv lq m (fun j => if atLeast lq ((m : Int) + 1) j then (f j).reverse else f j) (rev (atLeast lq ((m : Int) + 1)) [] o) (by
      intro j hj
      rw [rev_mem] at hj
      obtain ⟨a, b⟩ := h j (by simpa using hj)
      split
      · exact ⟨by simpa using a, fun x hx => b x (by simpa using hx)⟩
      · exact ⟨a, b⟩)
    refine ⟨g, fun j => ?_, e⟩
    have := hg j
    split at this
    · rcases this with this | this
      · exact .inr this
      · exact .inl (by rw [this, List.reverse_reverse])
    · exact this

/-- what is left of the order, what is left of the stretches -/
def Bl (L : List Int) (n : Nat) : List Nat → List Run3 → Prop
  | V, [] => V = []
  | V, r :: T => ∃ x b V', V = x :: (b ++ V') ∧ b.length + 1 = r.2.1 - r.1 ∧ r.1 ≤ x ∧ x < r.2.1 ∧ MaxR L n r ∧ Bl L n V' T

theorem seg_length (r : Run3) : (seg r).length = r.2.1 - r.1 := by simp [seg]
theorem mem_seg (r : Run3) (x : Nat) : x ∈ seg r ↔ r.1 ≤ x ∧ x < r.2.1 := by
  simp only [seg, List.mem_map, List.mem_range]
  constructor
  · rintro ⟨i, hi, rfl⟩; omega
  · intro h; exact ⟨x - r.1, by omega, by omega⟩
theorem bl_blocks (L : List Int) (n : Nat) (R : Nat → Run3) (g : Nat → List Nat) (hg : ∀ j, g j = seg (R j) ∨ g j = (seg (R j)).reverse) : ∀ (o : List Nat), (∀ j ∈ o, MaxR L n (R j)) → Bl L n (o.flatMap g) (o.map R)
  | [], _ => rfl
  | j :: o, h => by
    have hm := h j (by simp)
    have hl : (g j).length = (R j).2.1 - (R j).1 := by
      rcases hg j with e | e
      · rw [e, seg_length]
      · rw [e, List.length_reverse, seg_length]
    have hmem : ∀ x ∈ g j, (R j).1 ≤ x ∧ x < (R j).2.1 := by
      intro x hx
      rcases hg j with e | e
      · rw [e, mem_seg] at hx; exact hx
      · rw [e, List.mem_reverse, mem_seg] at hx; exact hx
    cases hgj : g j with
    | nil =>
      rw [hgj] at hl
      have := hm.1
      simp at hl
      omega
    | cons x b =>
      rw [hgj] at hl hmem
      refine ⟨x, b, o.flatMap g, by rw [List.flatMap_cons, hgj]; rfl, by simpa using hl, (hmem x (by simp)).1, (hmem x (by simp)).2, hm, bl_blocks L n R g hg o (fun i hi => h i (by simp [hi]))⟩

/-- THE STRETCHES IN THE ORDER IN WHICH THEY ARE SEEN -/
theorem runs_law (l kinds : List Int) (R : List Run3) (hG : G (l.map held) R.reverse l.length) (hk : kinds.map held = R.map (·.2.2)) :
    Bl (l.map held) l.length (rounds l).1 ((rounds kinds).1.map fun j => R.getD j (0, 0, 0)) := by
  have hkl : kinds.length = R.length := by have := congrArg List.length hk; simpa using this
  have hmax : ∀ j, j < R.length → MaxR (l.map held) l.length (R.getD j (0, 0, 0)) := by
    intro j hj
    rw [List.getD_eq_getElem?_getD, List.getElem?_eq_getElem hj]
    exact good_max _ _ _ hG _ (by simp)
  have hcov : List.range l.length = (List.range kinds.length).flatMap fun j => seg (R.getD j (0, 0, 0)) := by
    rw [good_cover _ _ _ hG, List.reverse_reverse, hkl]
    have : R = (List.range R.length).map fun j => R.getD j (0, 0, 0) := by
      apply List.ext_getElem
      · simp
      · intro i h1 h2
        simp only [List.getElem_map, List.getElem_range]
        rw [List.getD_eq_getElem?_getD, List.getElem?_eq_getElem h1]
        rfl
    conv => lhs; rw [this]
    rw [List.flatMap_map]
  obtain ⟨g, hg, e⟩ := full_blocks (lvl l) (lvl kinds) 126 (fun j => seg (R.getD j (0, 0, 0))) (List.range kinds.length) (by
    intro j hj
    have hj' : j < R.length := by rw [← hkl]; simpa using hj
    have hm := hmax j hj'
    refine ⟨?_, fun x hx => ?_⟩
    · intro e
      have h1 := congrArg List.length e
      rw [seg_length] at h1
      have := hm.1
      have h1' : (R.getD j (0, 0, 0)).2.1 - (R.getD j (0, 0, 0)).1 = 0 := h1
      omega
    · rw [mem_seg] at hx
      have h1 := hm.2.2.1 x hx.1 hx.2
      rw [List.getElem?_map] at h1
      have h2 : (kinds.map held)[j]? = some (R.getD j (0, 0, 0)).2.2 := by
        rw [hk, List.getElem?_map, List.getD_eq_getElem?_getD, List.getElem?_eq_getElem hj']
        rfl
      rw [List.getElem?_map] at h2
      have e1 : lvl l x = (R.getD j (0, 0, 0)).2.2 := by
        cases hlx : l[x]? with
        | none => rw [hlx] at h1; cases h1
        | some y =>
          rw [hlx] at h1
          injection h1 with h1
          unfold lvl
          rw [List.getD_eq_getElem?_getD, hlx]
          exact h1
      have e2 : lvl kinds j = (R.getD j (0, 0, 0)).2.2 := by
        cases hlx : kinds[j]? with
        | none => rw [hlx] at h2; cases h2
        | some y =>
          rw [hlx] at h2
          injection h2 with h2
          unfold lvl
          rw [List.getD_eq_getElem?_getD, hlx]
          exact h2
      rw [e1, e2])
  rw [rounds_full l, hcov, e, ← rounds_full kinds]
  refine bl_blocks _ _ (fun j => R.getD j (0, 0, 0)) g hg _ fun j hj => hmax j ?_
  rw [← hkl]
  exact (rounds_places kinds).2 j hj
end Go.Proofs.Ytlcijmllffablaa
