/-
  Contract of the law's 'level'; plain: what 'rounds' gives of one level throughout.
-/
import Derived.Test.YtlcijmllffablaaFull
import Derived.Test.YtlcijmllffablaaBase2
namespace Go.Proofs.Ytlcijmllffablaa
open Go.RowKit

def levOf (n : Int) : Int := if n.tmod 126 < 0 then -(n.tmod 126) else n.tmod 126
theorem lev_bd (n : Int) : 0 ≤ levOf n ∧ levOf n ≤ 125 := by
  have h1 : n.tmod 126 < 126 := Int.tmod_lt_of_pos n (by omega)
  have h2 := Int.tmod_lt_of_pos (-n) (b := 126) (by omega)
  rw [Int.neg_tmod] at h2
  unfold levOf
  split <;> omega
theorem level_calls (n : Int) (w : World) (k : Int) (H : Hid (k = levOf n)) : Calls Try.prog 12 #[.int .i64 n] w fun e w' => e = .returned (.int .i64 k) ∧ w = w' := by
  have h1 : n.tmod 126 < 126 := Int.tmod_lt_of_pos n (by omega)
  have h2 := Int.tmod_lt_of_pos (-n) (b := 126) (by omega)
  rw [Int.neg_tmod] at h2
  have h3 : -126 < n.tmod 126 := by omega
  clear h2
  by_cases hneg : n.tmod 126 < 0
  · go_enter Try.func12, Try.ntmps12
    go_wp2
    go_ret
    exact ⟨ret_int (by rw [H.out, levOf, if_pos (by omega)]), rfl⟩
  · go_enter Try.func12, Try.ntmps12
    go_wp2
    go_ret
    exact ⟨ret_int (by rw [H.out, levOf, if_neg (by omega)]), rfl⟩

theorem held_small {k : Int} (h0 : 0 ≤ k) (h1 : k ≤ 126) : held k = k := by unfold held; omega
theorem most_flat (n : Nat) (k : Int) (h0 : 0 ≤ k) (h1 : k ≤ 126) : most (List.replicate (n + 1) k) = k := by
  induction n with
  | zero => simp [most, held_small h0 h1]; omega
  | succ n ih => rw [List.replicate_succ', most_snoc, ih, held_small h0 h1]; omega
theorem least_flat_odd (n : Nat) (k : Int) (h0 : 0 ≤ k) (h1 : k ≤ 126) (ho : k % 2 = 1) : least (List.replicate (n + 1) k) = k := by
  induction n with
  | zero => simp [least, held_small h0 h1, ho]; omega
  | succ n ih => rw [List.replicate_succ', least_snoc, ih, held_small h0 h1, if_pos ho]; omega
theorem least_flat_even (n : Nat) (k : Int) (h0 : 0 ≤ k) (h1 : k ≤ 126) (ho : ¬ k % 2 = 1) : least (List.replicate n k) = 127 := by
  induction n with
  | zero => rfl
  | succ n ih => rw [List.replicate_succ', least_snoc, ih, held_small h0 h1, if_neg ho]
theorem flat_even (n : Nat) (k : Int) (h0 : 0 ≤ k) (h1 : k ≤ 126) (ho : ¬ k % 2 = 1) : rounds (List.replicate n k) = (List.range n, 0) := by
  unfold rounds
  have hb := (most_bd (List.replicate n k)).2
  rw [least_flat_even n k h0 h1 ho, show (most (List.replicate n k) + 1 - 127).toNat = 0 from by omega, List.length_replicate]
  rfl
theorem flat_odd (n : Nat) (k : Int) (h0 : 0 ≤ k) (h1 : k ≤ 126) (ho : k % 2 = 1) : rounds (List.replicate n k) = ((List.range n).reverse, min 1 n) := by
  cases n with
  | zero => rfl
  | succ n =>
    have hall : ∀ x ∈ List.range (n + 1), ge (List.replicate (n + 1) k) (k + (0 : Nat)) x = true := by
      intro x hx
      have hx' : x < n + 1 := by simpa using hx
      unfold ge lvl
      rw [List.getD_eq_getElem?_getD, List.getElem?_replicate, if_pos hx', Option.getD_some, held_small h0 h1]
      simp
    unfold rounds
    rw [least_flat_odd n k h0 h1 ho, most_flat n k h0 h1, show (k + 1 - k).toNat = 1 from by omega, List.length_replicate, loopR, loopR, rev_all _ hall]
    have := cnt_seg (p := ge (List.replicate (n + 1) k) (k + (0 : Nat))) (List.range (n + 1)) [] (by simp) hall (by intro x hx; simp at hx)
    rw [List.append_nil] at this
    rw [this]
    simp [cnt]
/-- the law's list 'turned' -/
def downTo (n : Int) (k : Nat) : List Int := (List.range k).map fun (i : Nat) => n - 1 - (i : Int)
theorem downTo_snoc (n : Int) (k : Nat) : downTo n (k + 1) = downTo n k ++ [n - 1 - (k : Int)] := by simp [downTo, List.range_succ]
theorem downTo_rev (n : Nat) : ints (List.range n).reverse = downTo n n := by
  apply List.ext_getElem?
  intro i
  unfold ints downTo
  rw [List.getElem?_map, List.getElem?_map]
  by_cases h : i < n
  · rw [List.getElem?_reverse (by simpa using h), List.length_range, List.getElem?_range (by omega), List.getElem?_range h]
    simp
    omega
  · rw [List.getElem?_eq_none (by simp; omega), List.getElem?_eq_none (by simp; omega)]
    rfl
theorem ints_range_snoc (k : Nat) : ints (List.range (k + 1)) = ints (List.range k) ++ [(k : Int)] := by simp [ints, List.range_succ]
end Go.Proofs.Ytlcijmllffablaa
