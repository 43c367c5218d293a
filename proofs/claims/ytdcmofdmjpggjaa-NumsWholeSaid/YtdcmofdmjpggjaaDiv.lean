/-
  The contract of math/bits.Div64: the quotient and the rest. Conditions: the divisor is above the upper word; all are 64-bit words.
-/
import Derived.Test.YtdcmofdmjpggjaaShelf
import Derived.Test.YtdcmofdmjpggjaaDivP
import Derived.WalkKit
import Derived.ProofKit
import Derived.Lib.Hide
import Derived.Deep.QuietTactic
import Derived.BigQuiet
import Derived.IntWalk
import Derived.Deep.DeepCutAuto
import Derived.Deep.CutBlock
namespace Go.Proofs.Ytdcmofdmjpggjaa
open Go.RowKit

theorem ret_u2 {a a' b b' : Int} (h : a = a') (h' : b = b') : Ending.returned (.tuple #[.int .u64 a, .int .u64 b]) = Ending.returned (.tuple #[.int .u64 a', .int .u64 b']) := by rw [h, h']
theorem pow_cast (s : Nat) : ((2 ^ s : Nat) : Int) = (2 : Int) ^ s := by push_cast; rfl
theorem div_zero (lo y : Nat) (hy : 0 < y) (hy2 : y < 18446744073709551616) (hl : lo < 18446744073709551616) (w : World) :
    Calls Try.prog 33 #[.int .u64 (0 : Nat), .int .u64 lo, .int .u64 y] w fun e w' => e = .returned (.tuple #[.int .u64 (lo / y : Nat), .int .u64 (lo % y : Nat)]) ∧ ∃ n, w' = w.drewN n := by
  have hd : ((y : Int) == 0) = false := by simp; omega
  have hd2 : decide ((y : Int) ≤ ((0 : Nat) : Int)) = false := by simp; omega
  go_enter Try.func33, Try.ntmps33
  go_wp2_with fail
  go_quiet (fail)
  go_wp2_with fail
  go_ret2
  exact ⟨ret_u2 (by rw [IntKind.wrap_u64, ← Int.natCast_ediv]; have := Nat.div_le_self lo y; generalize lo / y = q at *; omega) (Int.natCast_emod lo y).symm, _, rfl⟩
set_option maxHeartbeats 1000000 in
set_option maxRecDepth 100000 in
theorem div_big (hi lo y : Nat) (h0 : 0 < hi) (hh : hi < y) (hy2 : y < 18446744073709551616) (hl : lo < 18446744073709551616) (w : World) :
    Calls Try.prog 33 #[.int .u64 hi, .int .u64 lo, .int .u64 y] w fun e w' => e = .returned (.tuple #[.int .u64 ((hi * 18446744073709551616 + lo) / y : Nat), .int .u64 ((hi * 18446744073709551616 + lo) % y : Nat)]) ∧ ∃ n, w' = w.drewN n := by
  obtain ⟨s, hs⟩ : ∃ s, s = shiftOf y := ⟨_, rfl⟩
  obtain ⟨b1, b2, b3, b4⟩ := shift_bd y (by omega) hy2
  have hs64 : (64 : Int) - (Lib.bitLen ((y : Int).toNat) : Int) = (s : Int) := by rw [Int.toNat_natCast, hs, shiftOf]; omega
  have HS := Lib.hid hs64
  rw [← hs] at b1 b3 b4
  clear hs64 hs b2
  have hd : ((y : Int) == 0) = false := by simp; omega
  have hd2 : decide ((y : Int) ≤ (hi : Int)) = false := by simp; omega
  have hd3 : ((hi : Int) == 0) = false := by simp; omega
  obtain ⟨Y, hY⟩ : ∃ Y, Y = y * 2 ^ s := ⟨_, rfl⟩
  obtain ⟨y1, hy1⟩ : ∃ y1, y1 = Y / 4294967296 := ⟨_, rfl⟩
  obtain ⟨y0, hy0⟩ : ∃ y0, y0 = Y % 4294967296 := ⟨_, rfl⟩
  obtain ⟨A, hA⟩ : ∃ A, A = hi * 2 ^ s := ⟨_, rfl⟩
  obtain ⟨B, hB⟩ : ∃ B, B = lo / 2 ^ (64 - s) := ⟨_, rfl⟩
  obtain ⟨n1, n2, n3, n4⟩ := norm_split hi lo y s b1 hh hl b4
  rw [← hA, ← hB] at n1 n3 n4
  rw [← hA] at n2
  rw [← hY] at n1 b3 b4
  have e1 : IntKind.u64.wrap ((y : Int) * 2 ^ s) = (Y : Int) := by rw [hY, IntKind.wrap_u64, ← pow_cast, ← Int.natCast_mul]; omega
  have e2 : (Y : Int) / 4294967296 = (y1 : Int) := by omega
  have e3 : bits .and .u64 (Y : Int) 4294967295 = (y0 : Int) := by rw [hy0]; exact Mul64.maskN Y b4
  have e4 : IntKind.u64.wrap ((hi : Int) * 2 ^ s) = (A : Int) := by rw [hA, IntKind.wrap_u64, ← pow_cast, ← Int.natCast_mul]; omega
  have e4b : ¬ (y1 : Int) = 0 := by omega
  have hsI : (s : Int) ≤ 63 := by omega
  obtain ⟨U, hU⟩ : ∃ U, U = A + B := ⟨_, rfl⟩
  obtain ⟨L, hL⟩ : ∃ L, L = lo * 2 ^ s % 18446744073709551616 := ⟨_, rfl⟩
  obtain ⟨u1, hu1⟩ : ∃ u1, u1 = L / 4294967296 := ⟨_, rfl⟩
  obtain ⟨u0, hu0⟩ : ∃ u0, u0 = L % 4294967296 := ⟨_, rfl⟩
  obtain ⟨Q, hQ⟩ : ∃ Q, Q = U / y1 := ⟨_, rfl⟩
  obtain ⟨M, hM⟩ : ∃ M, M = Q * y1 := ⟨_, rfl⟩
  obtain ⟨R, hR⟩ : ∃ R, R = U % y1 := ⟨_, rfl⟩
  have hYd : y1 * 4294967296 + y0 = Y := by omega
  have hD : Dig U u1 y1 y0 := ⟨by omega, by omega, by omega, by omega, by omega⟩
  have hUM : M + R = U := by rw [hM, hR, hQ, Nat.mul_comm]; exact Nat.div_add_mod U y1
  have hQb : Q ≤ 4294967297 := by rw [hQ]; exact (est_start hD).le
  have e5 : (lo : Int) / 2 ^ (64 - s) = (B : Int) := by rw [hB, ← pow_cast, ← Int.natCast_ediv]
  have e6 : bits .or .u64 (A : Int) (B : Int) = (U : Int) := by
    have hBl : B < 18446744073709551616 := by omega
    rw [bits_or_u64_nat A B n2 hBl, n3, hU]
  have e7 : IntKind.u64.wrap ((lo : Int) * 2 ^ s) = (L : Int) := by rw [hL, IntKind.wrap_u64, ← pow_cast, ← Int.natCast_mul]; omega
  have e8 : (L : Int) / 4294967296 = (u1 : Int) := by omega
  have e9 : bits .and .u64 (L : Int) 4294967295 = (u0 : Int) := by rw [hu0]; exact Mul64.maskN L (by omega)
  have e10 : IntKind.u64.wrap ((U : Int) / (y1 : Int)) = (Q : Int) := by rw [← Int.natCast_ediv, ← hQ, IntKind.wrap_u64]; omega
  have e11 : IntKind.u64.wrap ((Q : Int) * (y1 : Int)) = (M : Int) := by rw [← Int.natCast_mul, ← hM, IntKind.wrap_u64]; omega
  have e12 : IntKind.u64.wrap ((U : Int) - (M : Int)) = (R : Int) := by rw [IntKind.wrap_u64]; omega
  have ES : Hid (Est U u1 y1 y0 Q R) := by rw [hQ, hR]; exact est_start hD
  have HD := Lib.hid hD
  have HYd : Hid (Y = y1 * 4294967296 + y0) := hYd.symm
  obtain ⟨d1, hd1⟩ : ∃ d1, d1 = qd U u1 Y := ⟨_, rfl⟩
  have Hd1 := Lib.hid hd1
  have HU := Lib.hid hU
  have HL := Lib.hid hL
  have Hu1 := Lib.hid hu1
  have Hu0 := Lib.hid hu0
  clear hd1 hU hL hu1 hu0 hQ hM hR hYd hD hUM hQb
  have LZ : ∀ w : World, Calls Try.prog 35 #[.int .u64 (y : Int)] w fun e w' => e = .returned (.int .i64 (s : Int)) ∧ w' = w := by
    intro w
    have h := bits_LeadingZeros64 y w (by omega) (by omega)
    rw [HS.out] at h
    exact h
  have HLZ := Lib.hid LZ
  have HY := Lib.hid hY
  have HA := Lib.hid hA
  have HB := Lib.hid hB
  have Hy1 := Lib.hid hy1
  have Hy0 := Lib.hid hy0
  have G2 := Lib.hid hy2
  have G3 := Lib.hid hl
  have G4 := Lib.hid b3
  have G5 := Lib.hid b4
  have G6 := Lib.hid n1
  have G7 := Lib.hid n2
  have G8 := Lib.hid n3
  have G9 := Lib.hid n4
  clear hA hY hB LZ hy2 hl b3 b4 n1 n2 n3 n4 hy1 hy0
  go_enter Try.func33, Try.ntmps33
  go_wp2_with fail
  refine (HLZ.out _).mono ?_
  rintro e w' ⟨rfl, rfl⟩
  go_upto_block 0 with fail
  go_cut [15] (fun s15 wx => s15 = .int .u64 (d1 : Int) ∧ wx = w')
  case first =>
    clear e1 e2 e3 e4 e5 e6 e7 e8 e9 e10 e11 e12
    go_wp2_with fail
    go_loop [15, 16] (fun a b => ∃ q r : Nat, a = .int .u64 (q : Int) ∧ b = .int .u64 (r : Int) ∧ Hid (Est U u1 y1 y0 q r)) (fun _ b => 4294967296 - (intOf b).toNat)
    case atStart => exact ⟨_, _, rfl, rfl, ES⟩
    case round =>
      obtain ⟨q, r, rfl, rfl, HE⟩ := hrel
      obtain ⟨P, hP⟩ : ∃ P, P = q * y0 := ⟨_, rfl⟩
      obtain ⟨T1, hT1⟩ : ∃ T1, T1 = 4294967296 * r := ⟨_, rfl⟩
      obtain ⟨T2, hT2⟩ : ∃ T2, T2 = T1 + u1 := ⟨_, rfl⟩
      obtain ⟨q2, hq2⟩ : ∃ q2, q2 = q - 1 := ⟨_, rfl⟩
      obtain ⟨r2, hr2⟩ : ∃ r2, r2 = r + y1 := ⟨_, rfl⟩
      have hr := HE.out.rest
      have hle := HE.out.le
      have hDl0 := HD.out.l0
      have hDl1 := HD.out.l1
      have hDd := HD.out.hd
      have hDb := HD.out.big
      have w2 : IntKind.u64.wrap (4294967296 * (r : Int)) = (T1 : Int) := by rw [IntKind.wrap_u64]; omega
      have w3 : IntKind.u64.wrap ((T1 : Int) + (u1 : Int)) = (T2 : Int) := by rw [IntKind.wrap_u64]; omega
      have w5 : IntKind.u64.wrap ((r : Int) + (y1 : Int)) = (r2 : Int) := by rw [IntKind.wrap_u64]; omega
      have hT2' : T2 = 4294967296 * r + u1 := by omega
      have M1 : Hid (4294967296 ≤ q ∨ T2 < P → r2 < 4294967296 → Est U u1 y1 y0 q2 r2) := by
        intro h1 h2
        rw [hq2, hr2]
        rw [hT2', hP] at h1
        exact est_next HD.out HE.out h1 (by omega)
      have M2 : Hid (4294967296 ≤ q ∨ T2 < P → 4294967296 ≤ r2 → q2 = d1) := by
        intro h1 h2
        rw [hq2, Hd1.out, HYd.out]
        rw [hT2', hP] at h1
        exact est_break HD.out HE.out h1 (by omega)
      have M3 : Hid (¬ T2 < P → q = d1) := by
        intro h1
        rw [Hd1.out, HYd.out]
        rw [hT2', hP] at h1
        exact est_no HD.out HE.out (by omega)
      have w4' : Hid (4294967296 ≤ q ∨ T2 < P → IntKind.u64.wrap ((q : Int) - 1) = (q2 : Int)) := by
        intro h1
        rw [hT2', hP] at h1
        have := (est_yes HD.out HE.out h1).2
        rw [IntKind.wrap_u64]
        omega
      have w1' : Hid (q < 4294967296 → IntKind.u64.wrap ((q : Int) * (y0 : Int)) = (P : Int)) := by
        intro h1
        have := Lib.half_mul_le (a := q) (b := y0) (by omega) (by omega)
        rw [← Int.natCast_mul, ← hP, IntKind.wrap_u64]
        rw [← hP] at this
        omega
      have hr2b : r < r2 := by omega
      clear hP hT1 hT2 hT2' hq2 hr2 hDl0 hDl1 hDd hDb
      have hrI : (r : Int) < 4294967296 := by omega
      have hr2I : (r : Int) < (r2 : Int) := by omega
      clear hr hle hr2b
      rcases Nat.lt_or_ge q 4294967296 with hq | hq
      · have w1 := w1'.out hq
        have hqI : (q : Int) < 4294967296 := by omega
        clear hq
        rcases Nat.lt_or_ge T2 P with ht | ht
        · have w4 := w4'.out (.inr ht)
          rcases Nat.lt_or_ge r2 4294967296 with hb | hb
          · have HE2 := Lib.hid (M1.out (.inr ht) hb)
            have hbI : decide ((4294967296 : Int) ≤ (r2 : Int)) = false := decide_eq_false (by omega)
            have hbN : decide (4294967296 ≤ r2) = false := decide_eq_false (by omega)
            clear M1 M2 M3 w1' w4' hb
            go_wp2_with fail
            go_round
            case rel => exact ⟨q2, r2, rfl, rfl, HE2⟩
            case measure => simp [intOf]; omega
          · have hq3 := M2.out (.inr ht) hb
            subst hq3
            have hbI : (4294967296 : Int) ≤ (r2 : Int) := by omega
            clear M1 M2 M3 w1' w4' hb
            go_wp2_with fail
            go_meet
            exact ⟨rfl, rfl⟩
        · have hq3 := M3.out (by omega)
          have hqB : decide ((4294967296 : Int) ≤ (q : Int)) = false := decide_eq_false (by omega)
          have hqN : decide (4294967296 ≤ q) = false := decide_eq_false (by omega)
          clear hqI
          subst hq3
          have htd : decide (T2 < P) = false := decide_eq_false (by omega)
          clear M1 M2 M3 w1' w4' ht
          go_wp2_with fail
          go_meet
          exact ⟨rfl, rfl⟩
      · have w4 := w4'.out (.inl hq)
        have hqI : (4294967296 : Int) ≤ (q : Int) := by omega
        rcases Nat.lt_or_ge r2 4294967296 with hb | hb
        · have HE2 := Lib.hid (M1.out (.inl hq) hb)
          have hbI : decide ((4294967296 : Int) ≤ (r2 : Int)) = false := decide_eq_false (by omega)
          have hbN : decide (4294967296 ≤ r2) = false := decide_eq_false (by omega)
          clear M1 M2 M3 w1' w4' hb hq
          go_wp2_with fail
          go_round
          case rel => exact ⟨q2, r2, rfl, rfl, HE2⟩
          case measure => simp [intOf]; omega
        · have hq3 := M2.out (.inl hq) hb
          subst hq3
          have hbI : (4294967296 : Int) ≤ (r2 : Int) := by omega
          clear M1 M2 M3 w1' w4' hb hq
          go_wp2_with fail
          go_meet
          exact ⟨rfl, rfl⟩
  case rest =>
    obtain ⟨rfl, rfl⟩ := hcut
    obtain ⟨V, hV⟩ : ∃ V, V = (U * 4294967296 + u1) % Y := ⟨_, rfl⟩
    obtain ⟨d0, hd0⟩ : ∃ d0, d0 = qd V u0 Y := ⟨_, rfl⟩
    obtain ⟨V0, hV0⟩ : ∃ V0, V0 = (V * 4294967296 + u0) % Y := ⟨_, rfl⟩
    have hD := HD.out
    have hYd := HYd.out
    have hYb := G5.out
    have hDl0 := hD.l0
    have hDl1 := hD.l1
    have hDd := hD.hd
    have hDb := hD.big
    have hVY : V < y1 * 4294967296 + y0 := by rw [hV, hYd]; exact rest_lt hD
    have hu0b : u0 < 4294967296 := by have := Hu0.out; omega
    have hD2 : Dig V u0 y1 y0 := ⟨hVY, hu0b, hDl0, hDl1, hDb⟩
    have hV0Y : V0 < Y := by rw [hV0, hYd]; exact rest_lt hD2
    have hd1b : d1 < 4294967296 := by rw [Hd1.out, hYd]; exact qd_lt hD
    have hd0b : d0 < 4294967296 := by rw [hd0, hYd]; exact qd_lt hD2
    have hr1 : ((U : Int) * 4294967296 + u1 - (d1 : Int) * (Y : Int)) % 18446744073709551616 = (V : Int) := by rw [Hd1.out, hV, hYd]; exact rest_word hD
    have hr0 : ((V : Int) * 4294967296 + u0 - (d0 : Int) * (Y : Int)) % 18446744073709551616 = (V0 : Int) := by rw [hd0, hV0, hYd]; exact rest_word hD2
    obtain ⟨P1, hP1⟩ : ∃ P1 : Int, P1 = (d1 : Int) * (Y : Int) := ⟨_, rfl⟩
    obtain ⟨P0, hP0⟩ : ∃ P0 : Int, P0 = (d0 : Int) * (Y : Int) := ⟨_, rfl⟩
    obtain ⟨x1, hx1⟩ : ∃ x1, x1 = IntKind.u64.wrap ((U : Int) * 4294967296) := ⟨_, rfl⟩
    obtain ⟨x2, hx2⟩ : ∃ x2, x2 = IntKind.u64.wrap (x1 + (u1 : Int)) := ⟨_, rfl⟩
    obtain ⟨x3, hx3⟩ : ∃ x3, x3 = IntKind.u64.wrap P1 := ⟨_, rfl⟩
    obtain ⟨z1, hz1⟩ : ∃ z1, z1 = IntKind.u64.wrap ((V : Int) * 4294967296) := ⟨_, rfl⟩
    obtain ⟨z2, hz2⟩ : ∃ z2, z2 = IntKind.u64.wrap (z1 + (u0 : Int)) := ⟨_, rfl⟩
    obtain ⟨z3, hz3⟩ : ∃ z3, z3 = IntKind.u64.wrap P0 := ⟨_, rfl⟩
    obtain ⟨Q2, hQ2⟩ : ∃ Q2, Q2 = V / y1 := ⟨_, rfl⟩
    obtain ⟨M2, hM2⟩ : ∃ M2, M2 = Q2 * y1 := ⟨_, rfl⟩
    obtain ⟨R2, hR2⟩ : ∃ R2, R2 = V % y1 := ⟨_, rfl⟩
    rw [← hP1] at hr1
    rw [← hP0] at hr0
    have hUM : M2 + R2 = V := by rw [hM2, hR2, hQ2, Nat.mul_comm]; exact Nat.div_add_mod V y1
    have hQb : Q2 ≤ 4294967297 := by rw [hQ2]; exact (est_start hD2).le
    have f3 : IntKind.u64.wrap (x2 - x3) = (V : Int) := by
      rw [hx2, hx3, hx1]
      simp only [IntKind.wrap_u64]
      omega
    have k3 : IntKind.u64.wrap (z2 - z3) = (V0 : Int) := by
      rw [hz2, hz3, hz1]
      simp only [IntKind.wrap_u64]
      omega
    have f1 : IntKind.u64.wrap ((U : Int) * 4294967296) = x1 := hx1.symm
    have f2 : IntKind.u64.wrap (x1 + (u1 : Int)) = x2 := hx2.symm
    have f4 : IntKind.u64.wrap ((d1 : Int) * (Y : Int)) = x3 := by rw [hx3, hP1]
    have k1 : IntKind.u64.wrap ((V : Int) * 4294967296) = z1 := hz1.symm
    have k2 : IntKind.u64.wrap (z1 + (u0 : Int)) = z2 := hz2.symm
    have k4 : IntKind.u64.wrap ((d0 : Int) * (Y : Int)) = z3 := by rw [hz3, hP0]
    have f10 : IntKind.u64.wrap ((V : Int) / (y1 : Int)) = (Q2 : Int) := by rw [← Int.natCast_ediv, ← hQ2, IntKind.wrap_u64]; omega
    have f11 : IntKind.u64.wrap ((Q2 : Int) * (y1 : Int)) = (M2 : Int) := by rw [← Int.natCast_mul, ← hM2, IntKind.wrap_u64]; omega
    have f12 : IntKind.u64.wrap ((V : Int) - (M2 : Int)) = (R2 : Int) := by rw [IntKind.wrap_u64]; omega
    obtain ⟨t1, ht1⟩ : ∃ t1 : Int, t1 = (d1 : Int) * 4294967296 := ⟨_, rfl⟩
    obtain ⟨q, hq⟩ : ∃ q : Nat, q = d1 * 4294967296 + d0 := ⟨_, rfl⟩
    have g1 : IntKind.u64.wrap ((d1 : Int) * 4294967296) = t1 := by rw [ht1, IntKind.wrap_u64]; omega
    have g2 : IntKind.u64.wrap (t1 + (d0 : Int)) = (q : Int) := by rw [ht1, IntKind.wrap_u64]; omega
    obtain ⟨rr, hrr⟩ : ∃ rr : Nat, rr = V0 / 2 ^ s := ⟨_, rfl⟩
    have g3 : (V0 : Int) / 2 ^ s = (rr : Int) := by rw [hrr, ← pow_cast, ← Int.natCast_ediv]
    have ES : Hid (Est V u0 y1 y0 Q2 R2) := by rw [hQ2, hR2]; exact est_start hD2
    have HW : Hid ((hi * 18446744073709551616 + lo) / y = q ∧ (hi * 18446744073709551616 + lo) % y = rr) := by
      have hYs := HY.out
      have h := div_whole hi lo y s b1 hh G3.out (by rw [← hYs]; exact hYb) U L Y hYs (by rw [HU.out, HA.out, HB.out]) HL.out
      rw [← Hu1.out, ← Hu0.out, ← hV, ← Hd1.out, ← hd0, ← hV0, ← hq, ← hrr] at h
      exact h
    have HD := Lib.hid hD2
    have Hd0 := Lib.hid hd0
    clear hV hd0 hV0 hYd hYb hDl0 hDl1 hDd hDb hVY hu0b hD hD2 hV0Y hd1b hd0b hr1 hr0 hP1 hP0 hx1 hx2 hx3 hz1 hz2 hz3 hQ2 hM2 hR2 hUM hQb ht1 hq hrr
    go_upto_block 2 with fail
    go_cut [18] (fun s18 wx => s18 = .int .u64 (d0 : Int) ∧ wx = wc)
    case first =>
      clear e1 e2 e3 e4 e5 e6 e7 e8 e9 e10 e11 e12 f1 f2 f3 f4 f10 f11 f12 k1 k2 k3 k4 g1 g2 g3
      go_wp2_with fail
      go_loop [18, 16] (fun a b => ∃ q r : Nat, a = .int .u64 (q : Int) ∧ b = .int .u64 (r : Int) ∧ Hid (Est V u0 y1 y0 q r)) (fun _ b => 4294967296 - (intOf b).toNat)
      case atStart => exact ⟨_, _, rfl, rfl, ES⟩
      case round =>
        obtain ⟨q, r, rfl, rfl, HE⟩ := hrel
        obtain ⟨P, hP⟩ : ∃ P, P = q * y0 := ⟨_, rfl⟩
        obtain ⟨T1, hT1⟩ : ∃ T1, T1 = 4294967296 * r := ⟨_, rfl⟩
        obtain ⟨T2, hT2⟩ : ∃ T2, T2 = T1 + u0 := ⟨_, rfl⟩
        obtain ⟨q2, hq2⟩ : ∃ q2, q2 = q - 1 := ⟨_, rfl⟩
        obtain ⟨r2, hr2⟩ : ∃ r2, r2 = r + y1 := ⟨_, rfl⟩
        have hr := HE.out.rest
        have hle := HE.out.le
        have hDl0 := HD.out.l0
        have hDl1 := HD.out.l1
        have hDd := HD.out.hd
        have hDb := HD.out.big
        have w2 : IntKind.u64.wrap (4294967296 * (r : Int)) = (T1 : Int) := by rw [IntKind.wrap_u64]; omega
        have w3 : IntKind.u64.wrap ((T1 : Int) + (u0 : Int)) = (T2 : Int) := by rw [IntKind.wrap_u64]; omega
        have w5 : IntKind.u64.wrap ((r : Int) + (y1 : Int)) = (r2 : Int) := by rw [IntKind.wrap_u64]; omega
        have hT2' : T2 = 4294967296 * r + u0 := by omega
        have M1 : Hid (4294967296 ≤ q ∨ T2 < P → r2 < 4294967296 → Est V u0 y1 y0 q2 r2) := by
          intro h1 h2
          rw [hq2, hr2]
          rw [hT2', hP] at h1
          exact est_next HD.out HE.out h1 (by omega)
        have M2 : Hid (4294967296 ≤ q ∨ T2 < P → 4294967296 ≤ r2 → q2 = d0) := by
          intro h1 h2
          rw [hq2, Hd0.out, HYd.out]
          rw [hT2', hP] at h1
          exact est_break HD.out HE.out h1 (by omega)
        have M3 : Hid (¬ T2 < P → q = d0) := by
          intro h1
          rw [Hd0.out, HYd.out]
          rw [hT2', hP] at h1
          exact est_no HD.out HE.out (by omega)
        have w4' : Hid (4294967296 ≤ q ∨ T2 < P → IntKind.u64.wrap ((q : Int) - 1) = (q2 : Int)) := by
          intro h1
          rw [hT2', hP] at h1
          have := (est_yes HD.out HE.out h1).2
          rw [IntKind.wrap_u64]
          omega
        have w1' : Hid (q < 4294967296 → IntKind.u64.wrap ((q : Int) * (y0 : Int)) = (P : Int)) := by
          intro h1
          have := Lib.half_mul_le (a := q) (b := y0) (by omega) (by omega)
          rw [← Int.natCast_mul, ← hP, IntKind.wrap_u64]
          rw [← hP] at this
          omega
        have hr2b : r < r2 := by omega
        clear hP hT1 hT2 hT2' hq2 hr2 hDl0 hDl1 hDd hDb
        have hrI : (r : Int) < 4294967296 := by omega
        have hr2I : (r : Int) < (r2 : Int) := by omega
        clear hr hle hr2b
        rcases Nat.lt_or_ge q 4294967296 with hq | hq
        · have w1 := w1'.out hq
          have hqI : (q : Int) < 4294967296 := by omega
          clear hq
          rcases Nat.lt_or_ge T2 P with ht | ht
          · have w4 := w4'.out (.inr ht)
            rcases Nat.lt_or_ge r2 4294967296 with hb | hb
            · have HE2 := Lib.hid (M1.out (.inr ht) hb)
              have hbI : decide ((4294967296 : Int) ≤ (r2 : Int)) = false := decide_eq_false (by omega)
              have hbN : decide (4294967296 ≤ r2) = false := decide_eq_false (by omega)
              clear M1 M2 M3 w1' w4' hb
              go_wp2_with fail
              go_round
              case rel => exact ⟨q2, r2, rfl, rfl, HE2⟩
              case measure => simp [intOf]; omega
            · have hq3 := M2.out (.inr ht) hb
              subst hq3
              have hbI : (4294967296 : Int) ≤ (r2 : Int) := by omega
              clear M1 M2 M3 w1' w4' hb
              go_wp2_with fail
              go_meet
              exact ⟨rfl, rfl⟩
          · have hq3 := M3.out (by omega)
            have hqB : decide ((4294967296 : Int) ≤ (q : Int)) = false := decide_eq_false (by omega)
            have hqN : decide (4294967296 ≤ q) = false := decide_eq_false (by omega)
            clear hqI
            subst hq3
            have htd : decide (T2 < P) = false := decide_eq_false (by omega)
            clear M1 M2 M3 w1' w4' ht
            go_wp2_with fail
            go_meet
            exact ⟨rfl, rfl⟩
        · have w4 := w4'.out (.inl hq)
          have hqI : (4294967296 : Int) ≤ (q : Int) := by omega
          rcases Nat.lt_or_ge r2 4294967296 with hb | hb
          · have HE2 := Lib.hid (M1.out (.inl hq) hb)
            have hbI : decide ((4294967296 : Int) ≤ (r2 : Int)) = false := decide_eq_false (by omega)
            have hbN : decide (4294967296 ≤ r2) = false := decide_eq_false (by omega)
            clear M1 M2 M3 w1' w4' hb hq
            go_wp2_with fail
            go_round
            case rel => exact ⟨q2, r2, rfl, rfl, HE2⟩
            case measure => simp [intOf]; omega
          · have hq3 := M2.out (.inl hq) hb
            subst hq3
            have hbI : (4294967296 : Int) ≤ (r2 : Int) := by omega
            clear M1 M2 M3 w1' w4' hb hq
            go_wp2_with fail
            go_meet
            exact ⟨rfl, rfl⟩
    case rest =>
      obtain ⟨rfl, rfl⟩ := hcut
      go_wp2_with fail
      go_ret2
      exact ⟨ret_u2 (by rw [HW.out.1]) (by rw [HW.out.2]), 0, rfl⟩
end Go.Proofs.Ytdcmofdmjpggjaa
