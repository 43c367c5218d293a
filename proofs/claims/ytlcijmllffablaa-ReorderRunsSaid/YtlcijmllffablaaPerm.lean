/-
  Plain lemmas on lists without doubles (pigeonholes). No program in sight; no condition.
-/
import Derived.Test.YtlcijmllffablaaBase
namespace Go.Proofs.Ytlcijmllffablaa

theorem nodup_le {α : Type} [BEq α] [LawfulBEq α] : ∀ (a b : List α), a.Nodup → (∀ x ∈ a, x ∈ b) → a.length ≤ b.length
  | [], _, _, _ => Nat.zero_le _
  | x :: r, b, h, hs => by
    rw [List.nodup_cons] at h
    have hx : x ∈ b := hs x (by simp)
    have := nodup_le r (b.erase x) h.2 (fun y hy => by
      rw [List.mem_erase_of_ne]
      · exact hs y (by simp [hy])
      · intro e
        subst e
        exact h.1 hy)
    rw [List.length_erase_of_mem hx] at this
    have : 0 < b.length := List.length_pos_of_mem hx
    simp only [List.length_cons]
    omega

/-- a list without doubles, as long as one that holds it, holds that -/
theorem nodup_full {α : Type} [BEq α] [LawfulBEq α] (a b : List α) (h : a.Nodup) (hs : ∀ x ∈ a, x ∈ b) (hl : b.length ≤ a.length) : ∀ x ∈ b, x ∈ a := by
  intro x hx
  rcases Classical.em (x ∈ a) with hin | hin
  · exact hin
  · have := nodup_le (x :: a) b (List.nodup_cons.2 ⟨hin, h⟩) (by
      intro y hy
      rcases List.mem_cons.1 hy with rfl | hy
      · exact hx
      · exact hs y hy)
    simp only [List.length_cons] at this
    omega

theorem nodup_of_erase {α : Type} [BEq α] [LawfulBEq α] : ∀ (l : List α), (∀ x ∈ l, ¬ x ∈ l.erase x) → l.Nodup
  | [], _ => List.nodup_nil
  | x :: r, h => by
    have hx : ¬ x ∈ r := by simpa using h x (by simp)
    refine List.nodup_cons.2 ⟨hx, nodup_of_erase r fun y hy => ?_⟩
    have hne : x ≠ y := by
      intro e
      subst e
      exact hx hy
    have := h y (by simp [hy])
    rw [List.erase_cons_tail (by simpa using hne)] at this
    intro h2
    exact this (by simp [h2])

/-- a list that holds one without doubles, of the same length, has none itself -/
theorem nodup_of_full {α : Type} [BEq α] [LawfulBEq α] (a b : List α) (h : a.Nodup) (hs : ∀ x ∈ a, x ∈ b) (hl : b.length ≤ a.length) : b.Nodup := by
  refine nodup_of_erase b fun x hx h2 => ?_
  have := nodup_le a (b.erase x) h (by
    intro y hy
    by_cases e : y = x
    · subst e
      exact h2
    · rw [List.mem_erase_of_ne e]
      exact hs y hy)
  rw [List.length_erase_of_mem hx] at this
  have : 0 < b.length := List.length_pos_of_mem hx
  omega

/-- the numbers below n, as ints -/
def upto (n : Nat) : List Int := (List.range n).map fun (i : Nat) => (i : Int)
theorem upto_length (n : Nat) : (upto n).length = n := by simp [upto]
theorem mem_upto (n : Nat) (x : Int) : x ∈ upto n ↔ 0 ≤ x ∧ x < n := by
  simp only [upto, List.mem_map, List.mem_range]
  constructor
  · rintro ⟨i, hi, rfl⟩
    omega
  · intro h
    exact ⟨x.toNat, by omega, by omega⟩
theorem upto_nodup (n : Nat) : (upto n).Nodup := by
  refine List.Pairwise.map _ ?_ List.nodup_range
  intro a b h e
  have e2 : (a : Int) = (b : Int) := e
  exact h (by omega)
/-- a list of the numbers below its length, without doubles: each once -/
def Perm (l : List Int) : Prop := l.Nodup ∧ ∀ x ∈ l, 0 ≤ x ∧ x < l.length
theorem perm_iff (l : List Int) : Perm l ↔ ∀ i : Nat, i < l.length → (i : Int) ∈ l := by
  constructor
  · rintro ⟨h1, h2⟩ i hi
    exact nodup_full l (upto l.length) h1 (fun x hx => (mem_upto _ _).2 (h2 x hx)) (by rw [upto_length]; omega) _ ((mem_upto _ _).2 (by omega))
  · intro h
    have hs : ∀ x ∈ upto l.length, x ∈ l := by
      intro x hx
      have := (mem_upto _ _).1 hx
      have hh := h x.toNat (by omega)
      rwa [Int.toNat_of_nonneg this.1] at hh
    exact ⟨nodup_of_full _ _ (upto_nodup l.length) hs (by rw [upto_length]; omega), fun x hx => (mem_upto _ _).1 (nodup_full _ _ (upto_nodup l.length) hs (by rw [upto_length]; omega) x hx)⟩
instance (l : List Int) : Decidable (Perm l) := by unfold Perm; infer_instance
end Go.Proofs.Ytlcijmllffablaa
