/-
  The plain law: the program's scan and the reference's search answer alike, both: 'each number below the length once'. No condition.
-/
import Derived.Test.YtlcijmllffablaaPerm
import Derived.Test.YtlcijmllffablaaIs
namespace Go.Proofs.Ytlcijmllffablaa

theorem scanB_iff : ∀ (l : List Int) (s : List Bool), scanB s l = true ↔ l.Nodup ∧ ∀ x ∈ l, 0 ≤ x ∧ x < s.length ∧ s[x.toNat]? = some false
  | [], s => by simp [scanB]
  | x :: r, s => by
    rw [scanB]
    by_cases h : 0 ≤ x ∧ x < s.length ∧ s[x.toNat]? = some false
    · rw [if_pos h, scanB_iff r]
      obtain ⟨h0, h1, h2⟩ := h
      simp only [List.length_set, List.nodup_cons, List.mem_cons]
      constructor
      · rintro ⟨hn, hr⟩
        have hx : ¬ x ∈ r := by
          intro hx
          have := (hr x hx).2.2
          rw [List.getElem?_set_self (by omega)] at this
          cases this
        refine ⟨⟨hx, hn⟩, ?_⟩
        rintro y (rfl | hy)
        · exact ⟨h0, h1, h2⟩
        · obtain ⟨a, b, c⟩ := hr y hy
          refine ⟨a, b, ?_⟩
          rwa [List.getElem?_set_ne (by
            intro e
            have : x = y := by omega
            exact hx (this ▸ hy))] at c
      · rintro ⟨⟨hx, hn⟩, hr⟩
        refine ⟨hn, fun y hy => ?_⟩
        obtain ⟨a, b, c⟩ := hr y (.inr hy)
        refine ⟨a, b, ?_⟩
        rwa [List.getElem?_set_ne (by
            intro e
            have : x = y := by omega
            exact hx (this ▸ hy))]
    · rw [if_neg h]
      constructor
      · intro h'
        cases h'
      · rintro ⟨_, hr⟩
        exact absurd (hr x (by simp)) h

theorem scan_perm (l : List Int) : scanB (List.replicate l.length false) l = true ↔ Perm l := by
  rw [scanB_iff]
  unfold Perm
  simp only [List.length_replicate]
  constructor
  · rintro ⟨h, hr⟩
    exact ⟨h, fun x hx => ⟨(hr x hx).1, (hr x hx).2.1⟩⟩
  · rintro ⟨h, hr⟩
    refine ⟨h, fun x hx => ⟨(hr x hx).1, (hr x hx).2, ?_⟩⟩
    have := hr x hx
    rw [List.getElem?_replicate, if_pos (by omega)]

theorem all_perm (l : List Int) : allB l = true ↔ Perm l := by
  rw [perm_iff]
  unfold allB
  simp only [List.all_eq_true, List.mem_range, List.contains_eq_mem, decide_eq_true_eq]

theorem scan_all (l : List Int) : scanB (List.replicate l.length false) l = allB l := by
  rw [Bool.eq_iff_iff, scan_perm, all_perm]
end Go.Proofs.Ytlcijmllffablaa
