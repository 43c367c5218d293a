/-
  NumsWhole: the shares of a small total are that total, none is below 0 of a total that is not, each is near its weight's part. No condition.
  The frame (but for the walk and the lemmas ahead of it) was written by the kit's program proof-skeleton.mjs.
-/
import Derived.Test.YtdcmofdmjpggjaaWholeP
import Derived.Test.YtdcmofdmjpggjaaRows
import Derived.WalkKit
import Derived.ProofKit
import Derived.OpenShut
import Derived.ShutString
import Derived.ChangeOld
import Derived.Below
namespace Go.Proofs.Ytdcmofdmjpggjaa.numsWhole
open Go.ChangeShapes Go.WideShapes Go.ChangeAt Go.RowKit
open Go.ChangeMaps (open_string shut_string)
set_option linter.unusedVariables false

theorem own : ownKnob Try.prog.godebug = none := by kernel_rfl
theorem laidOut : laidOutB Try.prog = true := by kernel_rfl

/-- WHAT THE WALK IS TOLD OF A SLICE OF INTEGERS THAT CAME IN: it is nil; or it leads to a row of 'cap' cells, the numbers 'zs' (the first 'len' are its elements, the rest its spare room), each fitting its kind. -/
def IsRow (k : IntKind) (w : World) (a : Option Addr) (len cap : Nat) (zs : List Int) : Prop :=
  (a = none ∧ len = 0 ∧ cap = 0 ∧ zs = []) ∨
  ∃ x, a = some x ∧ len ≤ cap ∧ cap ≤ maxLen ∧ zs.length = cap ∧ (∀ i, i < zs.length → w.cell? (x.add i) = some (.int k (zs.getD i 0))) ∧ ∀ n ∈ zs, (Lit.int k n).wf = true

theorem block_lt {w : World} {x : Addr} {v : Value} (h : w.cell? x = some v) : x.block < w.heap.size := World.block_lt_of_cell? w x h
/-- what came in, as a list -/
theorem view {w : World} {a : Option Addr} {len cap : Nat} {zs : List Int} (h : IsRow .i64 w a len cap zs) :
    ∃ l : List Int, len = l.length ∧ Ints w w.heap.size a l ∧ ∀ x ∈ l, -9223372036854775808 ≤ x ∧ x ≤ 9223372036854775807 := by
  rcases h with ⟨rfl, rfl, rfl, rfl⟩ | ⟨x, rfl, hl, hm, hz, hcell, hwz⟩
  · exact ⟨[], rfl, .inl rfl, by simp⟩
  · refine ⟨zs.take len, by rw [List.length_take]; omega, ?_, fun y hy => bounds_i64 (hwz y (List.mem_of_mem_take hy))⟩
    rcases Nat.eq_zero_or_pos len with h0 | h0
    · subst h0
      exact .inl (by simp)
    · obtain ⟨b, off, spot⟩ := x
      have hc := hcell 0 (by omega)
      have hspot : spot = none := by simpa [Addr.add] using World.cell?_spot hc
      subst hspot
      refine .inr ⟨b, off, rfl, by simpa [Addr.add] using block_lt hc, fun k y hy => ?_⟩
      rw [List.getElem?_take] at hy
      split at hy
      · have hk := hcell k (by omega)
        rw [List.getD_eq_getElem?_getD, hy] at hk
        simpa [Addr.add_lit] using hk
      · cases hy

set_option maxHeartbeats 8000000 in
set_option maxRecDepth 100000 in
theorem walk (a0 : Int) (a1 : Option Addr) (len1 cap1 : Nat) (z1 : List Int) (w : World) (w0 : (Lit.int .i64 a0).wf = true) (w1 : IsRow .i64 w a1 len1 cap1 z1) :
    Calls Try.prog 9 #[.int .i64 a0, .slice a1 len1 cap1] w fun e w' => e = .returned (.bool true) ∧ Below w.heap.size w w' := by
  obtain ⟨t1, t2⟩ := bounds_i64 w0
  obtain ⟨l, rfl, hI, hlb⟩ := view w1
  clear w0 w1
  rcases Nat.lt_or_ge 20 l.length with hn | hn
  · have hi : (20 : Int) < (l.length : Int) := by omega
    clear t1 t2 hlb
    go_enter Try.func9, Try.ntmps9
    go_wp2_with fail
    go_ret
    exact ⟨rfl, Below.refl _ _⟩
  · have hi20 : ¬ (20 : Int) < (l.length : Int) := by omega
    obtain ⟨i3, hi, hz0, hz1, hz2⟩ := info_parts (show (Try.prog.info? 3).map (fun i => (i.zero, i.size, i.bytes)) = some (some (.int .i64 0), 1, 8) by kernel_rfl)
    obtain ⟨T, hT⟩ : ∃ T, T = sml a0 := ⟨_, rfl⟩
    have hT1 : -1048576 < T := by rw [hT]; exact (sml_bd a0).1
    have hT2 : T < 1048576 := by rw [hT]; exact (sml_bd a0).2
    obtain ⟨wl, hwl⟩ : ∃ wl, wl = l.map sml := ⟨_, rfl⟩
    have hwn : wl.length = l.length := by rw [hwl]; simp
    have hsl : sm wl ≤ 1048576 * (l.length : Int) := by rw [hwl]; exact sm_small l
    have hsm : sm wl ≤ 20971520 := by omega
    have CT : Hid (∀ w : World, Calls Try.prog 22 #[.int .i64 a0] w fun e w' => e = .returned (.int .i64 T) ∧ w = w') := fun w => small_calls a0 w T hT
    have HWL : Hid (∀ (k : Nat) (x : Int), l[k]? = some x → wl[k]? = some (sml x)) := by
      intro k x hx
      rw [hwl, List.getElem?_map, hx]
      rfl
    have HSM := Lib.hid hsm
    have HWN := Lib.hid hwn
    have HT := Lib.hid hT
    clear t1 t2 hlb hT hwl hwn hsl hsm
    go_enter Try.func9, Try.ntmps9
    go_wp2_with fail
    refine (CT.out _).mono ?_
    rintro e w' ⟨rfl, rfl⟩
    go_wp2_with fail
    go_loopw [6, 7, 8] (fun va vw i wr => ∃ (k : Nat) (S : Int), va = .int .i64 S ∧ i = .int .i64 (k : Int) ∧ k ≤ l.length ∧ Hid (S = sm (wl.take k)) ∧ wr.ownsRow w.heap.size 3 1 vw k (ivs (wl.take k)) ∧ Below w.heap.size w wr) (fun _ _ i _ => l.length - (intOf i).toNat)
    case atStart => exact ⟨0, 0, rfl, rfl, Nat.zero_le _, rfl, World.ownsRow_nil _ _ _ _, Below.refl _ _⟩
    case round =>
      obtain ⟨k, S, rfl, rfl, hk, HSk, hA, hb⟩ := hrel
      have hsz := hb.size
      by_cases hlt : k < l.length
      · obtain ⟨b, off, x, rfl, hlb, hx, hc⟩ := (hI.below hb).at_ hlt
        have hki : (k : Int) < (l.length : Int) := by omega
        obtain ⟨y, hy⟩ : ∃ y, y = sml x := ⟨_, rfl⟩
        have hyw : wl[k]? = some y := by rw [hy]; exact HWL.out k x hx
        have C1 : Hid (∀ w : World, Calls Try.prog 22 #[.int .i64 x] w fun e w' => e = .returned (.int .i64 y) ∧ w = w') := fun w => small_calls x w y hy
        have HT3 : Hid (ivs (wl.take k) ++ [.int .i64 y] = ivs (wl.take (k + 1))) := Lib.hid (by rw [take_at hyw, ivs_snoc])
        obtain ⟨S2, hS2⟩ : ∃ S2, S2 = sm (wl.take (k + 1)) := ⟨_, rfl⟩
        have hSS : S2 = S + posi y := by rw [hS2, sm_at hyw, HSk.out]
        have hS0 : 0 ≤ S := by rw [HSk.out]; exact sm_nonneg _
        have hS2l : S2 ≤ 20971520 := by
          have := sm_take_le wl (k + 1)
          have := HSM.out
          omega
        have HS2 := Lib.hid hS2
        have HYW := Lib.hid hyw
        have hnewk : ∀ (w9 : World) (v : Value), w9.ownsRow w.heap.size 3 1 v (k + 1) (ivs (wl.take k) ++ [.int .i64 y]) → ∃ g cap, v = .slice (some ⟨g, 0, none⟩) (k + 1) cap ∧ w9.cell? ⟨g, k, none⟩ = some (.int .i64 y) ∧ w9.ownsRow w.heap.size 3 1 (.slice (some ⟨g, 0, none⟩) (k + 1) cap) (k + 1) (ivs (wl.take (k + 1))) := by
          intro w9 v h
          rw [HT3.out] at h
          obtain ⟨g, cap, rfl, hR⟩ := own_row h (by omega)
          obtain ⟨z, hz, hcz, _⟩ := hR.at_ (k := k) (by omega)
          rw [List.getElem?_take_of_lt (by omega), HYW.out] at hz
          injection hz with hz
          subst hz
          exact ⟨g, cap, rfl, hcz, hR⟩
        have HNK := Lib.hid hnewk
        have hki2 : (k : Int) < ((k + 1 : Nat) : Int) := by omega
        clear hx hy hyw hS2 hnewk
        unfold posi at hSS
        rcases Int.lt_or_le 0 y with h0 | h0
        · have e1 : S2 = S + y := by omega
          have q1 : IntKind.i64.wrap (S + y) = S2 := by rw [e1]; exact wrap_in _ (by omega) (by omega)
          have q2 : wrap64 (S + y) = S2 := (wrap64_is _).trans q1
          have HE1 := Lib.hid e1
          clear hSS e1 hS0 hS2l
          go_wp2_with (first | (go_at_call 22; refine (C1.out _).mono ?_; rintro e w' ⟨rfl, rfl⟩) | (at_builtin; refine wpList_append_own_at _ rfl (.tmp 25) (.tmp 31) 28 rfl w.heap.size 3 i3 (.int .i64 0) 1 8 Try.underlying28 hi hz0 hz1 hz2 rfl (by decide) _ _ _ rfl (hA.alloc _) ⟨wr.heap.size, 0, none⟩ 1 1 [.int .i64 y] rfl rfl (cell_one_new _ _ _) (one_cell _ rfl) (by unfold maxLen; omega) (by omega) (by simp; omega) ?_; intro vA' w3 hA1 hg1 _ ha1; have hb2 := push_below hb (Nat.le_refl _) hA hg1; obtain ⟨gn, capn, rfl, hcn, hA2⟩ := HNK.out w3 vA' hA1))
          go_roundw
          case rel => exact ⟨k + 1, S2, by first | rfl | exact congrArg (Value.int .i64) HE1.out.symm, by go_num, by omega, HS2, hA2, hb2⟩
          case measure => simp [intOf]; omega
        · have e1 : S2 = S := by omega
          have HE1 := Lib.hid e1
          clear hSS e1 hS0 hS2l
          go_wp2_with (first | (go_at_call 22; refine (C1.out _).mono ?_; rintro e w' ⟨rfl, rfl⟩) | (at_builtin; refine wpList_append_own_at _ rfl (.tmp 25) (.tmp 31) 28 rfl w.heap.size 3 i3 (.int .i64 0) 1 8 Try.underlying28 hi hz0 hz1 hz2 rfl (by decide) _ _ _ rfl (hA.alloc _) ⟨wr.heap.size, 0, none⟩ 1 1 [.int .i64 y] rfl rfl (cell_one_new _ _ _) (one_cell _ rfl) (by unfold maxLen; omega) (by omega) (by simp; omega) ?_; intro vA' w3 hA1 hg1 _ ha1; have hb2 := push_below hb (Nat.le_refl _) hA hg1; obtain ⟨gn, capn, rfl, hcn, hA2⟩ := HNK.out w3 vA' hA1))
          go_roundw
          case rel => exact ⟨k + 1, S2, congrArg (Value.int .i64) HE1.out.symm, by go_num, by omega, HS2, hA2, hb2⟩
          case measure => simp [intOf]; omega
      · have hkl : k = l.length := by omega
        subst hkl
        have hSA := HSk.out
        rw [← HWN.out, List.take_of_length_le (Nat.le_refl _)] at hSA hA
        obtain ⟨AW, cW, rfl, hIW⟩ := own_ints hA
        rw [HWN.out]
        obtain ⟨N, hN⟩ : ∃ N, N = shareL T wl := ⟨_, rfl⟩
        have CS : Hid (∀ w : World, Ints w w.heap.size AW wl → Calls Try.prog 20 #[.int .i64 T, .slice AW l.length cW] w (Gives N w)) := by
          intro w h
          have := shareAll_calls T AW cW wl w h (by omega) (by omega) (by have := HWN.out; omega) (by have := HSM.out; omega) N hN
          rwa [HWN.out] at this
        have HN := Lib.hid hN
        have HSA := Lib.hid hSA
        have hS0 : 0 ≤ S := by rw [hSA]; exact sm_nonneg _
        have hSm : S ≤ 20971520 := by rw [hSA]; exact HSM.out
        clear hN hSA hA
        by_cases h0 : S = 0
        · have hnil : N = [] := by rw [HN.out]; exact shareL_zero (by rw [← HSA.out]; exact h0)
          subst hnil
          subst h0
          go_wp2_with fail
          refine (CS.out _ hIW).mono ?_
          rintro e w2 ⟨A2, c2, rfl, hI2, hb2⟩
          go_wp2_with fail
          go_ret
          exact ⟨rfl, Below.then_ hb hb2⟩
        · have hne : sm wl ≠ 0 := by rw [← HSA.out]; exact h0
          have hNl : N.length = l.length := by rw [HN.out, shareL_length hne, HWN.out]
          have hd0 : (S == 0) = false := by simpa using h0
          have hnn : ((l.length : Int) != (l.length : Int)) = false := by simp
          have CS2 : Hid (∀ w : World, Ints w w.heap.size AW wl → Calls Try.prog 20 #[.int .i64 T, .slice AW l.length cW] w (fun e w' => ∃ A' c', e = .returned (.slice A' l.length c') ∧ Ints w' w'.heap.size A' N ∧ Below w.heap.size w w')) := by
            intro w h
            refine (CS.out w h).mono ?_
            rintro e w' ⟨A', c', he, h1, h2⟩
            rw [hNl] at he
            exact ⟨A', c', he, h1, h2⟩
          have HNL := Lib.hid hNl
          have HNE := Lib.hid hne
          have hSp : 0 < S := by omega
          clear h0 hne hNl CS hS0
          go_wp2_with fail
          refine (CS2.out _ hIW).mono ?_
          rintro e w2 ⟨A2, c2, rfl, hI2, hb2⟩
          have hIW2 := hIW.on hb2
          have hb3 := Below.then_ hb hb2
          clear hb hb2 hIW
          go_wp2_with fail
          go_loop [10, 11] (fun vs i => ∃ (k : Nat) (P : Int), vs = .int .i64 P ∧ i = .int .i64 (k : Int) ∧ k ≤ l.length ∧ Hid (P = pt T wl k)) (fun _ i => l.length - (intOf i).toNat)
          case atStart => exact ⟨0, 0, rfl, rfl, Nat.zero_le _, (pt_zero T wl).symm⟩
          case round =>
            obtain ⟨k, P, rfl, rfl, hk, HP⟩ := hrel
            by_cases hlt : k < l.length
            · obtain ⟨b, off, y, rfl, hlb, hy, hc⟩ := hIW2.at_ (k := k) (by rw [HWN.out]; exact hlt)
              obtain ⟨b', off', d, rfl, hlb', hdk, hc'⟩ := hI2.at_ (k := k) (by rw [HNL.out]; exact hlt)
              have hki : (k : Int) < (l.length : Int) := by omega
              have hG := share_good hT1 hT2 (by rw [← HSA.out]; exact hSp) hy
              rw [HN.out, shareL_get HNE.out (by rw [HWN.out]; exact hlt)] at hdk
              injection hdk with hdk
              rw [hdk, ← HSA.out] at hG
              obtain ⟨hdp, g0, g1, g2, g3, g4, g5⟩ := hG
              obtain ⟨px, hpx⟩ : ∃ px, px = posi y := ⟨_, rfl⟩
              rw [← hpx] at g4 g5
              obtain ⟨m1, hm1⟩ : ∃ m1, m1 = d * S := ⟨_, rfl⟩
              obtain ⟨m2, hm2⟩ : ∃ m2, m2 = T * px := ⟨_, rfl⟩
              rw [← hm1, ← hm2] at g4 g5
              have b1 : -(1048576 * 20971520) ≤ m1 ∧ m1 ≤ 1048576 * 20971520 := by rw [hm1]; exact mul_small (by omega) g3 (Int.le_of_lt hSp) hSm (by omega)
              have hpS : px ≤ S := by
                have h1 := sm_at hy
                have h2 := sm_take_le wl (k + 1)
                have h3 := sm_nonneg (wl.take k)
                rw [← HSA.out] at h2
                rw [← hpx] at h1
                omega
              have hp0 : 0 ≤ px := by rw [hpx, posi]; omega
              have b2 : -(1048576 * 20971520) ≤ m2 ∧ m2 ≤ 1048576 * 20971520 := by rw [hm2]; exact mul_small (by omega) (by omega) hp0 (by omega) (by omega)
              obtain ⟨of_, hof⟩ : ∃ of_, of_ = m1 - m2 := ⟨_, rfl⟩
              have q1 : IntKind.i64.wrap (d * S) = m1 := by rw [hm1]; exact wrap_in _ (by rw [← hm1]; omega) (by rw [← hm1]; omega)
              have q2 : wrap64 (d * S) = m1 := (wrap64_is _).trans q1
              have q3 : IntKind.i64.wrap (T * px) = m2 := by rw [hm2]; exact wrap_in _ (by rw [← hm2]; omega) (by rw [← hm2]; omega)
              have q4 : wrap64 (T * px) = m2 := (wrap64_is _).trans q3
              have q5 : IntKind.i64.wrap (m1 - m2) = of_ := by rw [hof]; exact wrap_in _ (by omega) (by omega)
              have q6 : wrap64 (m1 - m2) = of_ := (wrap64_is _).trans q5
              have o1 : -S < of_ := by omega
              have o2 : of_ < S := by omega
              have o1d : decide (of_ ≤ -S) = false := decide_eq_false (by omega)
              have o2d : decide (S ≤ of_) = false := decide_eq_false (by omega)
              have hPb := pt_bd hT1 hT2 (by rw [← HSA.out]; exact hSp) k
              rw [← HP.out] at hPb
              obtain ⟨P2, hP2⟩ : ∃ P2, P2 = pt T wl (k + 1) := ⟨_, rfl⟩
              have hPd : P2 = P + d := by rw [hP2, HP.out]; omega
              have q7 : IntKind.i64.wrap (P + d) = P2 := by rw [hPd]; exact wrap_in _ (by omega) (by omega)
              have q8 : wrap64 (P + d) = P2 := (wrap64_is _).trans q7
              have HP2 := Lib.hid hP2
              have HPD := Lib.hid hPd
              have d1 : decide (d < -1048576) = false := decide_eq_false (by omega)
              have d2 : decide (1048576 < d) = false := decide_eq_false (by omega)
              clear hdk hdp hm1 hm2 b1 b2 hpS hof hPb hP2 hPd
              unfold posi at hpx
              rcases Int.lt_or_le 0 y with hy0 | hy0
              · have e1 : px = y := by omega
                have e2 : (px == 0) = false := by simp; omega
                subst e1
                clear hpx g0 hy
                rcases Int.lt_or_le T 0 with hTs | hTs
                · have f1 : decide (0 ≤ T) = false := decide_eq_false (by omega)
                  clear g1
                  go_wp2_with fail
                  go_round
                  case rel => exact ⟨k + 1, P2, by first | rfl | exact congrArg (Value.int .i64) (by have := HPD.out; omega), by go_num, by omega, HP2⟩
                  case measure => simp [intOf]; omega
                · have f1 : decide (0 ≤ T) = true := decide_eq_true hTs
                  have f2 : decide (d < 0) = false := decide_eq_false (by have := g1 hTs; omega)
                  clear g1
                  go_wp2_with fail
                  go_round
                  case rel => exact ⟨k + 1, P2, by first | rfl | exact congrArg (Value.int .i64) (by have := HPD.out; omega), by go_num, by omega, HP2⟩
                  case measure => simp [intOf]; omega
              · have e1 : px = 0 := by omega
                have e3 : d = 0 := g0 hy0
                have e4 : P2 = P := by have := HPD.out; omega
                subst e3
                subst e1
                subst e4
                rw [Int.add_zero] at q8
                have Q9 := Lib.hid q8
                clear hpx g0 hy g1 g2 g3 q7 q8
                rcases Int.lt_or_le T 0 with hTs | hTs
                · have f1 : decide (0 ≤ T) = false := decide_eq_false (by omega)
                  go_wp2_with fail
                  go_round
                  case rel => exact ⟨k + 1, P2, congrArg (Value.int .i64) Q9.out, by go_num, by omega, HP2⟩
                  case measure => simp [intOf]; omega
                · have f1 : decide (0 ≤ T) = true := decide_eq_true hTs
                  go_wp2_with fail
                  go_round
                  case rel => exact ⟨k + 1, P2, congrArg (Value.int .i64) Q9.out, by go_num, by omega, HP2⟩
                  case measure => simp [intOf]; omega
            · have hkl : k = l.length := by omega
              subst hkl
              have hPT := HP.out
              rw [← HWN.out, pt_all (by rw [← HSA.out]; exact hSp)] at hPT
              have hPB : (P == T) = true := by simpa using hPT
              clear hPT
              go_wp2_with fail
              go_ret
              exact ⟨rfl, hb3⟩

set_option maxRecDepth 100000 in
theorem lifted (os : Os) (started : os.Started) (H : Type) (enc : TypeId × Value → H) :
    ReturnsInHanded {} Try.checked os 9 .any (Rows.numsWholeSpec.pre6 enc Try.prog Try.f9 Rows.numsWholeRow.domain false) (Rows.numsWholeSpec.post enc Try.prog Try.f9 false true false false) := by
  refine returnsInHanded_of_change (C := Try.checked) own started (by kernel_rfl) Try.func9
    (ChangeSpec.witness6 (enc := enc) (C := Try.checked) false ⟨#[], #[.int .i64 0, .slice none 0 0], []⟩ 8 (by kernel_rfl) (by kernel_rfl) (by kernel_rfl) (by kernel_rfl)) ?_
  intro W base args ds gs before hval0 hW hcnd _
  have hval : ∀ (j : Nat) t v, Try.f9.params[j]? = some t → args[j]? = some v → Value.okWide Try.prog W .any base t v := hval0
  have hW' := hW
  obtain ⟨p, q, hA0, hV, rfl, hfz, hnd⟩ := hW
  have hA : DataW.TrodAll enc Try.prog W 0 (fun _ => true) true Try.f9.params.toList args.toList ds p := hA0
  rw [Try.params9] at hA hval
  obtain ⟨v0, vs0, d0, ds0, p0, q0, hargs, rfl, rfl, h0, r0⟩ := trodAll_cons hA
  obtain ⟨v1, vs1, d1, ds1, p1, q1, rfl, rfl, rfl, h1, r1⟩ := trodAll_cons r0
  obtain ⟨rfl, rfl, rfl⟩ := trodAll_nil r1
  obtain rfl : args = #[v0, v1] := by cases args; simp_all
  obtain ⟨rfl, rfl⟩ := trodVars_none hV
  obtain ⟨a0, rfl, rfl, rfl, w0⟩ := open_int Try.underlying3 (hval 0 3 v0 rfl rfl) h0
  obtain ⟨a1, len1, cap1, rfl⟩ := okWide_slice Try.underlying28 (hval 1 28 v1 rfl rfl)
  have k1 := h1
  have lt1 : ∀ x ∈ p1, x.block < W.heap.size := by obtain ⟨m, hm⟩ := k1; exact DataW.trod_lt m _ _ _ hm
  obtain ⟨z1, w1⟩ : ∃ zs, IsRow .i64 W a1 len1 cap1 zs := by
    obtain ⟨fuel, hf⟩ := h1
    rcases open_ints Try.underlying28 Try.underlying3 (by kernel_rfl) hf with ⟨hcs, _⟩ | ⟨x, l, c, zs, hcs, _, hl, hm, hz, _, hcell, hwz⟩
    · simp [Value.cells] at hcs
      obtain ⟨rfl, rfl, rfl⟩ := hcs
      exact ⟨[], .inl ⟨rfl, rfl, rfl, rfl⟩⟩
    · simp [Value.cells] at hcs
      obtain ⟨rfl, rfl, rfl⟩ := hcs
      exact ⟨zs, .inr ⟨_, rfl, hl, hm, by simpa using hz, hcell, hwz⟩⟩
  clear hA0 hval0
  refine (walk a0 a1 len1 cap1 z1 W w0 w1).mono fun e W' ⟨he, bel⟩ => ?_
  subst he
  exact ⟨_, rfl, _, _, _, [], _, [], hW', trodAll_mk1 (shut_bool Try.underlying4 _), (trodAll_cons_mk (shut_int Try.underlying3 w0) (trodAll_cons_mk (Below.trod laidOut (by kernel_rfl) (of_decide_eq_true (by kernel_rfl)) k1 bel lt1) trodAll_mk0)), rfl, bel.frame _, fun h => by cases h⟩

theorem over : Rows.numsWholeRow.holds Try.pinned (OpenSpec.ofChange Rows.numsWholeSpec) :=
  OpenClaim.holds_of_wide 9 Try.f9 rfl rfl rfl rfl rfl rfl rfl ⟨rfl, rfl, rfl, rfl, rfl⟩ rfl rfl rfl rfl rfl (by kernel_rfl) Try.func9 (by kernel_rfl)
    (of_decide_eq_true (by kernel_rfl)) (by unfold Func.isWrapper; first | (rw [if_pos (by decide +kernel)]; kernel_rfl) | (rw [if_neg (by decide +kernel)]; exact ⟨rfl, rfl⟩))
    (fun os started H enc _ => lifted os started H enc)

theorem proved : Rows.NumsWholeSaid := over
#print axioms proved
end Go.Proofs.Ytdcmofdmjpggjaa.numsWhole
