/-
  Plain: the quotient and the rest of a product, binary digit by binary digit; the floor of a total's share. No condition beyond those that each lemma states.
-/
import Derived.Lib.BitFns
namespace Go.Proofs.Ytdcmofdmjpggjaa

/-- q and r are the quotient and the rest of a times X by den -/
structure Inv (a den X q r : Nat) : Prop where
  sum : q * den + r = a * X
  lt : r < den
section
variable {a b den X q r most : Nat}
theorem inv_bd (h : Inv a den X q r) (hX : X ≤ b) (hm : a * b ≤ most * den) : q ≤ most := by
  have h1 := Nat.mul_le_mul_left a hX
  have hs := h.sum
  have hd : 0 < den := Nat.lt_of_le_of_lt (Nat.zero_le _) h.lt
  have h2 : q * den ≤ most * den := by
    generalize a * X = m at *
    generalize a * b = n at *
    omega
  exact Nat.le_of_mul_le_mul_right h2 hd
theorem inv_dbl1 (h : Inv a den X q r) (hc : den ≤ 2 * r) : Inv a den (2 * X) (2 * q + 1) (2 * r - den) := by
  have hs := h.sum
  have hl := h.lt
  refine ⟨?_, by omega⟩
  rw [Nat.mul_left_comm, ← hs, Nat.add_mul, Nat.one_mul, Nat.mul_assoc]
  generalize q * den = m
  omega
theorem inv_dbl0 (h : Inv a den X q r) (hc : 2 * r < den) : Inv a den (2 * X) (2 * q) (2 * r) := by
  have hs := h.sum
  refine ⟨?_, hc⟩
  rw [Nat.mul_left_comm, ← hs, Nat.mul_assoc]
  generalize q * den = m
  omega
theorem inv_add1 (h : Inv a den X q r) (hc : den ≤ r + a % den) : Inv a den (X + 1) (q + a / den + 1) (r + a % den - den) := by
  have hs := h.sum
  have hl := h.lt
  have hm := Nat.mod_lt a (show 0 < den by omega)
  have e := Nat.div_add_mod' a den
  refine ⟨?_, by omega⟩
  rw [Nat.mul_add, Nat.mul_one, ← hs, Nat.add_mul, Nat.add_mul, Nat.one_mul]
  generalize q * den = m at *
  generalize a / den * den = n at *
  omega
theorem inv_add0 (h : Inv a den X q r) (hc : r + a % den < den) : Inv a den (X + 1) (q + a / den) (r + a % den) := by
  have hs := h.sum
  have e := Nat.div_add_mod' a den
  refine ⟨?_, hc⟩
  rw [Nat.mul_add, Nat.mul_one, ← hs, Nat.add_mul]
  generalize q * den = m at *
  generalize a / den * den = n at *
  omega
theorem inv_end (h : Inv a den X q r) : q = a * X / den ∧ r = a * X % den := by
  have hs := h.sum
  have hl := h.lt
  rw [← hs, Nat.mul_comm q, Nat.mul_add_div (by omega), Nat.mul_add_mod, Nat.div_eq_of_lt hl, Nat.mod_eq_of_lt hl]
  exact ⟨rfl, rfl⟩
end
theorem half_bit (b k : Nat) : b / 2 ^ k = 2 * (b / 2 ^ (k + 1)) + b / 2 ^ k % 2 := by
  rw [Nat.pow_succ, ← Nat.div_div_eq_div_mul]
  omega

/-- the floor of a total's share: some of all -/
def partOf (total some_ all : Int) : Int := total * some_ / all
theorem part_unique {x all t : Int} (h : 0 < all) (h1 : t * all ≤ x) (h2 : x < t * all + all) : x / all = t := by
  have h3 : t ≤ x / all := (Int.le_ediv_iff_mul_le h).2 h1
  have h4 : x / all < t + 1 := (Int.ediv_lt_iff_lt_mul h).2 (by rw [Int.add_mul, Int.one_mul]; exact h2)
  omega
/-- the same, out of the sizes -/
theorem part_size (total : Int) (s all : Nat) (ha : 0 < all) (q r : Nat) (hq : q = total.natAbs * s / all) (hr : r = total.natAbs * s % all) :
    partOf total s all = if 0 ≤ total then (q : Int) else if 0 < r then -(q : Int) - 1 else -(q : Int) := by
  have e := Nat.div_add_mod' (total.natAbs * s) all
  have hl := Nat.mod_lt (total.natAbs * s) ha
  rw [← hq, ← hr] at e
  rw [← hr] at hl
  have e2 : (total.natAbs : Int) * (s : Int) = (q : Int) * (all : Int) + (r : Int) := by
    rw [← Int.natCast_mul, ← e]
    push_cast
    rfl
  unfold partOf
  apply part_unique (by omega)
  all_goals
    split
    · have : (total.natAbs : Int) = total := by omega
      rw [this] at e2
      rw [e2]
      omega
    · have : total = -(total.natAbs : Int) := by omega
      rw [this, Int.neg_mul, e2]
      split
      · rw [Int.sub_mul, Int.neg_mul, Int.one_mul]
        generalize (q : Int) * (all : Int) = m
        omega
      · rw [Int.neg_mul]
        generalize (q : Int) * (all : Int) = m
        omega
theorem size_le {n : Int} (h1 : -9223372036854775808 ≤ n) (h2 : n ≤ 9223372036854775807) : n.natAbs ≤ 9223372036854775808 := by omega
/-- the product is small enough -/
theorem prod_le (t s all : Nat) (ht : t ≤ 9223372036854775808) (hs : s ≤ all) : t * s ≤ 9223372036854775808 * all := Nat.mul_le_mul ht hs
theorem quot_le (t s all : Nat) (hs : s ≤ all) (ha : 0 < all) : t * s / all ≤ t := by
  rw [Nat.div_le_iff_le_mul_add_pred ha]
  have := Nat.mul_le_mul_left t hs
  rw [Nat.mul_comm all t]
  omega
theorem quot_lt (t s all : Nat) (hs : s ≤ all) (hr : 0 < t * s % all) : t * s / all < t := by
  have e := Nat.div_add_mod' (t * s) all
  have h := Nat.mul_le_mul_left t hs
  rcases Nat.lt_or_ge (t * s / all) t with h1 | h1
  · exact h1
  · have := Nat.mul_le_mul_right all h1
    omega
end Go.Proofs.Ytdcmofdmjpggjaa
