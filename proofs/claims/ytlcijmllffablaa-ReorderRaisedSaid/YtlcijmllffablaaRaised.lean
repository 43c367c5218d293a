/-
  Plain: levels raised by one turn the order round; neighbours of one level stay neighbours.
-/
import Derived.Test.YtlcijmllffablaaFlat
import Derived.Test.YtlcijmllffablaaBackLaw
namespace Go.Proofs.Ytlcijmllffablaa

theorem vis_raised (a b : List Int) (hl : b.length = a.length) (ha : ∀ x ∈ a, 0 ≤ x ∧ x ≤ 125) (hb : ∀ (i : Nat) (x : Int), a[i]? = some x → b[i]? = some (x + 1)) : vis b = (vis a).reverse := by
  have hlv : ∀ x ∈ List.range a.length, lvl b x = lvl a x + 1 := by
    intro i hi
    have hi' : i < a.length := by simpa using hi
    have hx := ha _ (List.getElem_mem hi')
    unfold lvl
    rw [List.getD_eq_getElem?_getD, List.getD_eq_getElem?_getD, hb i _ (List.getElem?_eq_getElem hi'), List.getElem?_eq_getElem hi', Option.getD_some, Option.getD_some, held_small (by omega) (by omega), held_small (by omega) (by omega)]
  have hhi : ∀ x ∈ List.range a.length, lvl a x ≤ ((125 : Nat) : Int) := by
    intro i hi
    have hi' : i < a.length := by simpa using hi
    have hx := ha _ (List.getElem_mem hi')
    unfold lvl
    rw [List.getD_eq_getElem?_getD, List.getElem?_eq_getElem hi', Option.getD_some, held_small (by omega) (by omega)]
    omega
  have h1 : (rounds a).1 = fullR (lvl a) 125 (List.range a.length) := by
    rw [rounds_full, full_high (lvl a) 125 _ hhi 1]
  have h2 : (rounds b).1 = (rounds a).1.reverse := by
    rw [rounds_full, hl, full_raised (lvl a) (lvl b) 125 _ hlv, ← h1, rev_all]
    intro x _
    unfold atLeast
    simp [(lvl_bd a x).1]
  unfold vis ints
  rw [h2, List.map_reverse]

theorem adj_pos {x y : Nat} {v : List Nat} {U : List Int} (h : Adj x y v) (hU : Leads (ints v) U (ints v).length) : ∃ p : Nat, U[x]? = some (p : Int) ∧ U[y]? = some ((p : Int) + 1) := by
  obtain ⟨a, b, rfl⟩ := h
  have h1 := hU.2 a.length x (by simp [ints]) (by simp [ints])
  have h2 := hU.2 (a.length + 1) y (by simp [ints]) (by rw [ints_get, List.getElem?_append_right (by omega)]; simp)
  rw [Int.toNat_natCast] at h1 h2
  exact ⟨a.length, h1, by rw [h2]; simp⟩

/-- neighbours of one level: their places differ by one, up or down -/
theorem near_law (a U : List Int) (i : Nat) (L p q : Int) (hL0 : 0 ≤ L) (hL1 : L ≤ 125) (h1 : a[i + 1]? = some L) (h2 : a[i]? = some L) (hU : Leads (vis a) U (vis a).length) (hp : U[i + 1]? = some p) (hq : U[i]? = some q) :
    p - q = 1 - 2 * (L % 2) := by
  have hi : i + 1 < a.length := (List.getElem?_eq_some_iff.1 h1).1
  have l1 : lvl a (i + 1) = ((L.toNat : Nat) : Int) := by
    unfold lvl
    rw [List.getD_eq_getElem?_getD, h1, Option.getD_some, held_small hL0 (by omega)]
    omega
  have l2 : lvl a i = ((L.toNat : Nat) : Int) := by
    unfold lvl
    rw [List.getD_eq_getElem?_getD, h2, Option.getD_some, held_small hL0 (by omega)]
    omega
  have := adj_full (lvl a) L.toNat 126 i (i + 1) _ l2 l1 (adj_range a.length i hi)
  rw [Nat.min_eq_right (by omega), ← rounds_full] at this
  split at this
  · obtain ⟨t, e1, e2⟩ := adj_pos this hU
    rw [hq] at e1
    rw [hp] at e2
    injection e1 with e1
    injection e2 with e2
    omega
  · obtain ⟨t, e1, e2⟩ := adj_pos this hU
    rw [hp] at e1
    rw [hq] at e2
    injection e1 with e1
    injection e2 with e2
    omega
end Go.Proofs.Ytlcijmllffablaa
