/-
  Plain: the division of a number of two words by one of a word, digit by digit of 32 bits, as math/bits.Div64 does it. No condition beyond those that each lemma states.
-/
import Derived.Lib.BitFns
import Derived.Laws.Bits64b
namespace Go.Proofs.Ytdcmofdmjpggjaa

/-- one digit of the quotient -/
def qd (u d y : Nat) : Nat := (u * 4294967296 + d) / y
/-- the estimate, and what it leaves -/
structure Est (u d y1 y0 q r : Nat) : Prop where
  sum : q * y1 + r = u
  ge : qd u d (y1 * 4294967296 + y0) ≤ q
  le : q ≤ 4294967297
  rest : r < 4294967296
structure Dig (u d y1 y0 : Nat) : Prop where
  hu : u < y1 * 4294967296 + y0
  hd : d < 4294967296
  l0 : y0 < 4294967296
  l1 : y1 < 4294967296
  big : 2147483648 ≤ y1
section
variable {u d y1 y0 q r : Nat}
theorem qd_lt (h : Dig u d y1 y0) : qd u d (y1 * 4294967296 + y0) < 4294967296 := by
  have h1 := h.hu
  have h2 := h.hd
  unfold qd
  rw [Nat.div_lt_iff_lt_mul (by omega)]
  omega
theorem est_start (h : Dig u d y1 y0) : Est u d y1 y0 (u / y1) (u % y1) := by
  have h1 := h.hu
  have h2 := h.hd
  have h3 := h.l0
  have h4 := h.l1
  have h5 := h.big
  have hm := Nat.mod_lt u (show 0 < y1 by omega)
  refine ⟨by rw [Nat.mul_comm]; exact Nat.div_add_mod u y1, ?_, ?_, by omega⟩
  · unfold qd
    rw [Nat.le_div_iff_mul_le (by omega)]
    have hq := Nat.div_mul_le_self (u * 4294967296 + d) (y1 * 4294967296 + y0)
    generalize (u * 4294967296 + d) / (y1 * 4294967296 + y0) = t at hq
    have e : t * (y1 * 4294967296 + y0) = t * y1 * 4294967296 + t * y0 := by rw [Nat.mul_add, Nat.mul_assoc]
    rw [e] at hq
    generalize t * y1 = a at hq ⊢
    generalize t * y0 = c at hq
    omega
  · have : u / y1 < 4294967298 := by
      rw [Nat.div_lt_iff_lt_mul (by omega)]
      omega
    omega
theorem est_mul (h : Est u d y1 y0 q r) : q * (y1 * 4294967296 + y0) + r * 4294967296 = u * 4294967296 + q * y0 := by
  have e : q * (y1 * 4294967296 + y0) = q * y1 * 4294967296 + q * y0 := by rw [Nat.mul_add, Nat.mul_assoc]
  have hs := h.sum
  rw [e, ← hs]
  generalize q * y1 = a
  generalize q * y0 = c
  omega
theorem est_no (hD : Dig u d y1 y0) (h : Est u d y1 y0 q r) (hc : q * y0 ≤ 4294967296 * r + d) : q = qd u d (y1 * 4294967296 + y0) := by
  have hm := est_mul h
  have hg := h.ge
  have hb := hD.big
  apply Nat.le_antisymm _ hg
  unfold qd
  rw [Nat.le_div_iff_mul_le (by omega)]
  generalize q * (y1 * 4294967296 + y0) = m at hm ⊢
  generalize q * y0 = c at hm hc
  omega
theorem est_yes (hD : Dig u d y1 y0) (h : Est u d y1 y0 q r) (hc : 4294967296 ≤ q ∨ 4294967296 * r + d < q * y0) : qd u d (y1 * 4294967296 + y0) ≤ q - 1 ∧ 1 ≤ q := by
  have hm := est_mul h
  have hl := qd_lt hD
  have hb := hD.big
  have : qd u d (y1 * 4294967296 + y0) < q := by
    rcases hc with hc | hc
    · omega
    · unfold qd
      rw [Nat.div_lt_iff_lt_mul (by omega)]
      generalize q * (y1 * 4294967296 + y0) = m at hm ⊢
      generalize q * y0 = c at hm hc
      omega
  omega
theorem est_next (hD : Dig u d y1 y0) (h : Est u d y1 y0 q r) (hc : 4294967296 ≤ q ∨ 4294967296 * r + d < q * y0) (hr : r + y1 < 4294967296) : Est u d y1 y0 (q - 1) (r + y1) := by
  obtain ⟨h1, h2⟩ := est_yes hD h hc
  refine ⟨?_, h1, by have := h.le; omega, hr⟩
  have hs := h.sum
  obtain ⟨k, rfl⟩ : ∃ k, q = k + 1 := ⟨q - 1, by omega⟩
  rw [Nat.add_mul, Nat.one_mul] at hs
  simp only [Nat.add_sub_cancel]
  omega
theorem est_break (hD : Dig u d y1 y0) (h : Est u d y1 y0 q r) (hc : 4294967296 ≤ q ∨ 4294967296 * r + d < q * y0) (hr : 4294967296 ≤ r + y1) : q - 1 = qd u d (y1 * 4294967296 + y0) := by
  obtain ⟨h1, h2⟩ := est_yes hD h hc
  have hle := h.le
  have hs := h.sum
  have hy0 := hD.l0
  have hb := hD.big
  obtain ⟨k, rfl⟩ : ∃ k, q = k + 1 := ⟨q - 1, by omega⟩
  simp only [Nat.add_sub_cancel] at h1 ⊢
  apply Nat.le_antisymm _ h1
  unfold qd
  rw [Nat.le_div_iff_mul_le (by omega)]
  have e : k * (y1 * 4294967296 + y0) = k * y1 * 4294967296 + k * y0 := by rw [Nat.mul_add, Nat.mul_assoc]
  rw [e]
  rw [Nat.add_mul, Nat.one_mul] at hs
  have h3 : k * y0 ≤ 4294967296 * y0 := Nat.mul_le_mul_right y0 (by omega)
  generalize k * y1 = a at hs ⊢
  generalize k * y0 = c at h3 ⊢
  omega
/-- the rest behind a digit, as it is reckoned in words of 64 bits -/
theorem rest_lt (hD : Dig u d y1 y0) : (u * 4294967296 + d) % (y1 * 4294967296 + y0) < y1 * 4294967296 + y0 := Nat.mod_lt _ (by have := hD.big; omega)
theorem rest_word (hD : Dig u d y1 y0) : (((u : Int) * 4294967296 + d) - (qd u d (y1 * 4294967296 + y0) : Int) * ((y1 * 4294967296 + y0 : Nat) : Int)) % 18446744073709551616 = (((u * 4294967296 + d) % (y1 * 4294967296 + y0) : Nat) : Int) := by
  have hl := rest_lt hD
  have h1 := hD.l1
  have h0 := hD.l0
  have e := Nat.div_add_mod (u * 4294967296 + d) (y1 * 4294967296 + y0)
  unfold qd
  rw [Nat.mul_comm] at e
  have e2 : (((u * 4294967296 + d) / (y1 * 4294967296 + y0) : Nat) : Int) * ((y1 * 4294967296 + y0 : Nat) : Int) = (((u * 4294967296 + d) / (y1 * 4294967296 + y0) * (y1 * 4294967296 + y0) : Nat) : Int) := by rw [Int.natCast_mul]
  rw [e2]
  generalize (u * 4294967296 + d) / (y1 * 4294967296 + y0) * (y1 * 4294967296 + y0) = m at e ⊢
  generalize (u * 4294967296 + d) % (y1 * 4294967296 + y0) = t at e hl ⊢
  omega
end

theorem bitLenAux_pos : ∀ (f x : Nat), x < 2 ^ f → 0 < x → 2 ^ (Lib.bitLenAux f x - 1) ≤ x ∧ x < 2 ^ Lib.bitLenAux f x
  | 0, x, h, h0 => by simp at h; omega
  | f + 1, x, h, h0 => by
    rw [Lib.bitLenAux, if_neg (by omega)]
    rcases Nat.eq_zero_or_pos (x / 2) with h2 | h2
    · have : x = 1 := by omega
      subst this
      have e : Lib.bitLenAux f (1 / 2) = 0 := by cases f <;> simp [Lib.bitLenAux]
      rw [e]
      simp
    · have ih := bitLenAux_pos f (x / 2) (by rw [Nat.pow_succ] at h; omega) h2
      have hp : 0 < Lib.bitLenAux f (x / 2) := by
        rcases Nat.eq_zero_or_pos (Lib.bitLenAux f (x / 2)) with hz | hz
        · rw [hz] at ih; simp at ih; omega
        · exact hz
      obtain ⟨k, hk⟩ : ∃ k, Lib.bitLenAux f (x / 2) = k + 1 := ⟨_, (Nat.succ_pred_eq_of_pos hp).symm⟩
      rw [hk] at ih ⊢
      rw [show 1 + (k + 1) - 1 = k + 1 by omega, show 1 + (k + 1) = k + 1 + 1 by omega]
      rw [show k + 1 - 1 = k by omega] at ih
      rw [Nat.pow_succ, Nat.pow_succ, Nat.pow_succ] at *
      omega
/-- how far a word is to be shifted -/
def shiftOf (y : Nat) : Nat := 64 - Lib.bitLen y
theorem shift_bd (y : Nat) (h0 : 0 < y) (h : y < 18446744073709551616) : shiftOf y ≤ 63 ∧ Lib.bitLen y ≤ 64 ∧ 9223372036854775808 ≤ y * 2 ^ shiftOf y ∧ y * 2 ^ shiftOf y < 18446744073709551616 := by
  obtain ⟨h1, h2⟩ := bitLenAux_pos 64 y h h0
  have h3 := Lib.bitLen_le y 64 (Nat.le_refl _) h
  unfold shiftOf
  have h4 : 0 < Lib.bitLen y := by
    rcases Nat.eq_zero_or_pos (Lib.bitLen y) with hz | hz
    · unfold Lib.bitLen at hz; rw [hz] at h2; simp at h2; omega
    · exact hz
  change 2 ^ (Lib.bitLen y - 1) ≤ y at h1
  change y < 2 ^ Lib.bitLen y at h2
  generalize Lib.bitLen y = L at *
  have e1 : 2 ^ (L - 1) * 2 ^ (64 - L) = 2 ^ 63 := by rw [← Nat.pow_add]; congr 1; omega
  have e2 : 2 ^ L * 2 ^ (64 - L) = 2 ^ 64 := by rw [← Nat.pow_add]; congr 1; omega
  have m1 := Nat.mul_le_mul_right (2 ^ (64 - L)) h1
  have m2 := Nat.mul_lt_mul_of_pos_right h2 (Nat.two_pow_pos (64 - L))
  rw [e1] at m1
  rw [e2] at m2
  refine ⟨by omega, h3, m1, m2⟩

/-- a number of two words, shifted -/
theorem norm_split (hi lo y s : Nat) (hs : s ≤ 63) (hh : hi < y) (hl : lo < 18446744073709551616) (hy : y * 2 ^ s < 18446744073709551616) :
    hi * 2 ^ s + lo / 2 ^ (64 - s) < y * 2 ^ s ∧ hi * 2 ^ s < 18446744073709551616 ∧ (hi * 2 ^ s) ||| (lo / 2 ^ (64 - s)) = hi * 2 ^ s + lo / 2 ^ (64 - s) ∧
    (hi * 18446744073709551616 + lo) * 2 ^ s = (hi * 2 ^ s + lo / 2 ^ (64 - s)) * 18446744073709551616 + lo * 2 ^ s % 18446744073709551616 := by
  have hp := Nat.two_pow_pos s
  have e64 : 2 ^ s * 2 ^ (64 - s) = 18446744073709551616 := by rw [← Nat.pow_add, show s + (64 - s) = 64 by omega]
  have h1 : lo / 2 ^ (64 - s) < 2 ^ s := by
    rw [Nat.div_lt_iff_lt_mul (Nat.two_pow_pos _), e64]
    exact hl
  have h2 : (hi + 1) * 2 ^ s ≤ y * 2 ^ s := Nat.mul_le_mul_right _ hh
  rw [Nat.add_mul, Nat.one_mul] at h2
  refine ⟨by omega, by omega, ?_, ?_⟩
  · rw [← Nat.shiftLeft_eq, Nat.shiftLeft_add_eq_or_of_lt h1]
  · have e3 : lo * 2 ^ s / 18446744073709551616 = lo / 2 ^ (64 - s) := by
      rw [← e64, Nat.mul_comm lo, Nat.mul_div_mul_left _ _ hp]
    have e4 := Nat.div_add_mod (lo * 2 ^ s) 18446744073709551616
    rw [e3] at e4
    have e5 : (hi * 18446744073709551616 + lo) * 2 ^ s = hi * 2 ^ s * 18446744073709551616 + lo * 2 ^ s := by rw [Nat.add_mul, Nat.mul_right_comm]
    rw [e5]
    generalize hi * 2 ^ s = a at *
    generalize lo * 2 ^ s = c at *
    generalize lo / 2 ^ (64 - s) = d at *
    omega
/-- two digits -/
theorem two_digits (U L Y : Nat) (hY : 0 < Y) :
    (U * 18446744073709551616 + L) / Y = qd U (L / 4294967296) Y * 4294967296 + qd ((U * 4294967296 + L / 4294967296) % Y) (L % 4294967296) Y ∧
    (U * 18446744073709551616 + L) % Y = ((U * 4294967296 + L / 4294967296) % Y * 4294967296 + L % 4294967296) % Y := by
  have e1 := Nat.div_add_mod (U * 4294967296 + L / 4294967296) Y
  have hN : U * 18446744073709551616 + L = Y * ((U * 4294967296 + L / 4294967296) / Y * 4294967296) + ((U * 4294967296 + L / 4294967296) % Y * 4294967296 + L % 4294967296) := by
    rw [← Nat.mul_assoc]
    generalize (U * 4294967296 + L / 4294967296) % Y = t at *
    generalize Y * ((U * 4294967296 + L / 4294967296) / Y) = m at *
    omega
  constructor
  · rw [hN, Nat.mul_add_div hY]
    rfl
  · rw [hN, Nat.mul_add_mod]
/-- all of it -/
theorem div_whole (hi lo y s : Nat) (hs : s ≤ 63) (hh : hi < y) (hl : lo < 18446744073709551616) (hy : y * 2 ^ s < 18446744073709551616) (U L Y : Nat) (hY : Y = y * 2 ^ s) (hU : U = hi * 2 ^ s + lo / 2 ^ (64 - s)) (hL : L = lo * 2 ^ s % 18446744073709551616) :
    (hi * 18446744073709551616 + lo) / y = qd U (L / 4294967296) Y * 4294967296 + qd ((U * 4294967296 + L / 4294967296) % Y) (L % 4294967296) Y ∧
    (hi * 18446744073709551616 + lo) % y = ((U * 4294967296 + L / 4294967296) % Y * 4294967296 + L % 4294967296) % Y / 2 ^ s := by
  obtain ⟨h1, _, _, h4⟩ := norm_split hi lo y s hs hh hl hy
  have hp := Nat.two_pow_pos s
  rw [← hU, ← hL] at h4
  rw [← hU, ← hY] at h1
  obtain ⟨t1, t2⟩ := two_digits U L Y (by omega)
  rw [← t1, ← t2, ← h4, hY]
  constructor
  · rw [Nat.mul_div_mul_right _ _ hp]
  · rw [Nat.mul_mod_mul_right, Nat.mul_div_cancel _ hp]
end Go.Proofs.Ytdcmofdmjpggjaa
