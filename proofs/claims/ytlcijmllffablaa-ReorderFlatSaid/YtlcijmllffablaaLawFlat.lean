/-
  ReorderFlat: of one level throughout the order is the identity, or turned round whole. No condition.
  The frame (but for the walk and the lemmas ahead of it) was written by the kit's program proof-skeleton.mjs.
-/
import Derived.Test.YtlcijmllffablaaFlat
import Derived.Test.YtlcijmllffablaaSame
import Derived.Test.YtlcijmllffablaaIs
import Derived.Test.YtlcijmllffablaaRows
import Derived.WalkKit
import Derived.ProofKit
import Derived.OpenShut
import Derived.ShutString
import Derived.ChangeOld
import Derived.Below
namespace Go.Proofs.Ytlcijmllffablaa.reorderFlat
open Go.ChangeShapes Go.WideShapes Go.ChangeAt Go.RowKit
open Go.ChangeMaps (open_string shut_string)
set_option linter.unusedVariables false      -- a walk need not use every 'w<i>' (that an integer argument fits its kind)

theorem own : ownKnob Try.prog.godebug = none := by kernel_rfl

theorem walk (a0 : Int) (a1 : Int) (w0 : (Lit.int .u8 a0).wf = true) (w1 : (Lit.int .i64 a1).wf = true) (w : World) :
    Calls Try.prog 4 #[.int .u8 a0, .int .i64 a1] w fun e w' => e = .returned (.bool true) ∧ Below w.heap.size w w' := by
  obtain ⟨b0, b0'⟩ := bounds_u8 w0
  have hq0 : 0 ≤ a0 % 20 := by omega
  have hq1 : a0 % 20 < 20 := by omega
  obtain ⟨N, hN⟩ : ∃ N : Nat, a0 % 20 = N := ⟨(a0 % 20).toNat, by omega⟩
  have hN20 : N < 20 := by omega
  have HN := Lib.hid hN
  obtain ⟨K, hK⟩ : ∃ K, K = levOf a1 := ⟨_, rfl⟩
  have hK0 : 0 ≤ K := by rw [hK]; exact (lev_bd a1).1
  have hK1 : K ≤ 125 := by rw [hK]; exact (lev_bd a1).2
  have HK := Lib.hid hK
  clear hN hK w0 w1
  obtain ⟨i3, hi, hz0, hz1, hz2⟩ := info_parts (show (Try.prog.info? 3).map (fun i => (i.zero, i.size, i.bytes)) = some (some (.int .i64 0), 1, 8) by kernel_rfl)
  go_enter Try.func4, Try.ntmps4
  go_wp2_with fail
  refine (level_calls a1 _ K HK).mono ?_
  rintro e w1 ⟨rfl, rfl⟩
  go_wp2
  go_loopw [6, 7, 8, 9] (fun vL vS vT i wr => ∃ k : Nat, i = .int .i64 k ∧ k ≤ N ∧ wr.ownsRow w.heap.size 3 1 vL k (ivs (List.replicate k K)) ∧ wr.ownsRow w.heap.size 3 1 vS k (ivs (ints (List.range k))) ∧
      wr.ownsRow w.heap.size 3 1 vT k (ivs (downTo (a0 % 20) k)) ∧ Sep vL vS ∧ Sep vL vT ∧ Sep vS vT ∧ Below w.heap.size w wr) (fun _ _ _ i _ => N - (intOf i).toNat)
  case atStart => exact ⟨0, rfl, Nat.zero_le _, World.ownsRow_nil _ _ _ _, World.ownsRow_nil _ _ _ _, World.ownsRow_nil _ _ _ _, sep_nil _, sep_nil _, sep_nil _, Below.refl _ _⟩
  case round =>
    obtain ⟨k, rfl, hk, hL, hS, hT, hLS, hLT, hST, hb⟩ := hrel
    have hsz := hb.size
    by_cases hlt : k < N
    · have hlt2 : (k : Int) < a0 % 20 := by rw [HN.out]; omega
      go_wp2_with (first | (at_builtin; refine wpList_append_own_at _ rfl (.tmp 19) (.tmp 21) 22 rfl w.heap.size 3 i3 (.int .i64 0) 1 8 Try.underlying22 hi hz0 hz1 hz2 rfl (by decide) _ _ _ rfl (hL.alloc _) ⟨wr.heap.size, 0, none⟩ 1 1 [.int .i64 K] rfl rfl (cell_one_new _ _ _) (one_cell _ rfl) (by unfold maxLen; omega) (by omega) (by simp; omega) ?_; intro vL' w1 hL1 hg1 _ ha1; obtain ⟨hS1, hLS1⟩ := push_other hS hLS hg1 ha1; obtain ⟨hT1, hLT1⟩ := push_other hT hLT hg1 ha1; have hb1 := push_below hb (Nat.le_refl _) hL hg1; have hz1s := hb1.size) | (at_builtin; refine wpList_append_own_at _ rfl (.tmp 23) (.tmp 25) 22 rfl w.heap.size 3 i3 (.int .i64 0) 1 8 Try.underlying22 hi hz0 hz1 hz2 rfl (by decide) _ _ _ rfl (hS1.alloc _) ⟨w1.heap.size, 0, none⟩ 1 1 [.int .i64 k] rfl rfl (cell_one_new _ _ _) (one_cell _ rfl) (by unfold maxLen; omega) (by omega) (by simp; omega) ?_; intro vS' w2 hS2 hg2 _ ha2; obtain ⟨hL2, hSL2⟩ := push_other hL1 hLS1.symm hg2 ha2; obtain ⟨hT2, hST2⟩ := push_other hT1 hST hg2 ha2; have hb2 := push_below hb1 (Nat.le_refl _) hS1 hg2; have hz2s := hb2.size) | (at_builtin; refine wpList_append_own_at _ rfl (.tmp 27) (.tmp 34) 22 rfl w.heap.size 3 i3 (.int .i64 0) 1 8 Try.underlying22 hi hz0 hz1 hz2 rfl (by decide) _ _ _ rfl (hT2.alloc _) ⟨w2.heap.size, 0, none⟩ 1 1 [.int .i64 (a0 % 20 - 1 - k)] rfl rfl (cell_one_new _ _ _) (one_cell _ rfl) (by unfold maxLen; omega) (by omega) (by simp; omega) ?_; intro vT' w3 hT3 hg3 _ ha3; obtain ⟨hL3, hTL3⟩ := push_other hL2 hLT1.symm hg3 ha3; obtain ⟨hS3, hTS3⟩ := push_other hS2 hST2.symm hg3 ha3; have hb3 := push_below hb2 (Nat.le_refl _) hT2 hg3))
      go_roundw
      case rel =>
        refine ⟨k + 1, by go_num, by omega, ?_, ?_, ?_, hSL2.symm, hTL3.symm, hTS3.symm, hb3⟩
        · rw [List.replicate_succ', ← ivs_snoc]; exact hL3
        · rw [ints_range_snoc, ← ivs_snoc]; exact hS3
        · rw [downTo_snoc, ← ivs_snoc]; exact hT3
      case measure => simp [intOf]; omega
    · have hkN : k = N := by omega
      subst hkN
      have hnl : ¬ (k : Int) < a0 % 20 := by rw [HN.out]; omega
      obtain ⟨L, hLL⟩ : ∃ L, L = List.replicate k K := ⟨_, rfl⟩
      obtain ⟨S, hSS⟩ : ∃ S, S = ints (List.range k) := ⟨_, rfl⟩
      obtain ⟨T, hTT⟩ : ∃ T, T = downTo (a0 % 20) k := ⟨_, rfl⟩
      rw [HN.out] at hTT
      have hTk : downTo (a0 % 20) k = T := by rw [HN.out]; exact hTT.symm
      have hLl : L.length = k := by rw [hLL]; simp
      have hSl : S.length = k := by rw [hSS, ints_length]; simp
      have hTl : T.length = k := by rw [hTT, downTo]; simp
      rw [← hLL] at hL
      rw [← hSS] at hS
      rw [hTk] at hT
      clear hTk
      have hL' : wr.ownsRow w.heap.size 3 1 u6 L.length (ivs L) := by rw [hLl]; exact hL
      have hS' : wr.ownsRow w.heap.size 3 1 u7 S.length (ivs S) := by rw [hSl]; exact hS
      have hT' : wr.ownsRow w.heap.size 3 1 u8 T.length (ivs T) := by rw [hTl]; exact hT
      obtain ⟨AL, cL, hvL, hIL⟩ := own_ints hL'
      obtain ⟨AS, cS, hvS, hIS⟩ := own_ints hS'
      obtain ⟨AT, cT, hvT, hIT⟩ := own_ints hT'
      rw [hvL, hvS, hvT]
      have hLn : L.length ≤ 100 := by omega
      have hSn : S.length ≤ 100000 := by omega
      have hTn : T.length ≤ 100000 := by omega
      have HLL := Lib.hid hLL
      have HSS := Lib.hid hSS
      have HTT := Lib.hid hTT
      have HLl := Lib.hid hLl
      have HSl := Lib.hid hSl
      clear hvL hvS hvT hL hS hT hL' hS' hT' hLL hSS hTT hLl hSl hTl hLS hLT hST hi hz0 hz1 hz2
      by_cases hodd : K % 2 = 1
      · have hfl := flat_odd k K hK0 (by omega) hodd
        have hd : (K % 2 == 0) = false := by simp; omega
        have HV : Hid (T = vis L) := by unfold Hid; rw [HTT.out, HLL.out, vis, hfl, downTo_rev]
        have HO := Lib.hid hodd
        have HFL := Lib.hid hfl
        clear hodd hfl
        rcases Nat.eq_zero_or_pos L.length with hz | hz
        · have HN2 : Hid ((0 : Int) = ((rounds L).2 : Nat)) := by unfold Hid; rw [HLL.out, HFL.out, ← HLl.out, hz]; rfl
          have hzi : (L.length : Int) < 1 := by omega
          have Hz := Lib.hid hz
          clear hz
          go_wp2_with fail
          refine (visual_calls AL cL L _ hIL hLn T HV).mono ?_
          rintro e w2 ⟨A2, c2, rfl, hI2, hb2⟩
          go_wp2_with fail
          refine (same_below A2 AT c2 cT T T _ hI2.ints (hIT.on hb2) hTn true (by unfold Hid; simp)).mono ?_
          rintro e w3 ⟨rfl, hb3⟩
          go_wp2_with fail
          refine (turns_calls AL cL L _ ((hIL.on hb2).on hb3) hLn 0 HN2).mono ?_
          rintro e w4 ⟨rfl, hb4⟩
          go_wp2_with fail
          all_goals
            go_ret
            refine ⟨ret_bool ?_, Below.then_ (Below.then_ (Below.then_ hb hb2) hb3) hb4⟩
            have := Hz.out
            simp
            omega
        · have HN2 : Hid ((1 : Int) = ((rounds L).2 : Nat)) := by unfold Hid; rw [HLL.out, HFL.out]; have := HLl.out; simp; omega
          have hzi : (1 : Int) ≤ (L.length : Int) := by omega
          go_wp2_with fail
          refine (visual_calls AL cL L _ hIL hLn T HV).mono ?_
          rintro e w2 ⟨A2, c2, rfl, hI2, hb2⟩
          go_wp2_with fail
          refine (same_below A2 AT c2 cT T T _ hI2.ints (hIT.on hb2) hTn true (by unfold Hid; simp)).mono ?_
          rintro e w3 ⟨rfl, hb3⟩
          go_wp2_with fail
          refine (turns_calls AL cL L _ ((hIL.on hb2).on hb3) hLn 1 HN2).mono ?_
          rintro e w4 ⟨rfl, hb4⟩
          go_wp2_with fail
          all_goals
            go_ret
            refine ⟨ret_bool ?_, Below.then_ (Below.then_ (Below.then_ hb hb2) hb3) hb4⟩
            first | rfl | (simp; omega)
      · have hfl := flat_even k K hK0 (by omega) hodd
        have hd : (K % 2 == 0) = true := by simp; omega
        have HV : Hid (S = vis L) := by unfold Hid; rw [HSS.out, HLL.out, vis, hfl]
        have HN2 : Hid ((0 : Int) = ((rounds L).2 : Nat)) := by unfold Hid; rw [HLL.out, hfl]; rfl
        have HO := Lib.hid hodd
        clear hodd hfl
        go_wp2_with fail
        refine (visual_calls AL cL L _ hIL hLn S HV).mono ?_
        rintro e w2 ⟨A2, c2, rfl, hI2, hb2⟩
        go_wp2_with fail
        refine (same_below A2 AS c2 cS S S _ hI2.ints (hIS.on hb2) hSn true (by unfold Hid; simp)).mono ?_
        rintro e w3 ⟨rfl, hb3⟩
        go_wp2_with fail
        refine (turns_calls AL cL L _ ((hIL.on hb2).on hb3) hLn 0 HN2).mono ?_
        rintro e w4 ⟨rfl, hb4⟩
        go_wp2_with fail
        go_ret
        exact ⟨rfl, Below.then_ (Below.then_ (Below.then_ hb hb2) hb3) hb4⟩

set_option maxRecDepth 100000 in
theorem lifted (os : Os) (started : os.Started) (H : Type) (enc : TypeId × Value → H) :
    ReturnsInHanded {} Try.checked os 4 .any (Rows.reorderFlatSpec.pre6 enc Try.prog Try.f4 Rows.reorderFlatRow.domain false) (Rows.reorderFlatSpec.post enc Try.prog Try.f4 false true false false) := by
  refine returnsInHanded_of_change (C := Try.checked) own started (by kernel_rfl) Try.func4
    (ChangeSpec.witness6 (enc := enc) (C := Try.checked) false ⟨#[], #[.int .u8 0, .int .i64 0], []⟩ 8 (by kernel_rfl) (by kernel_rfl) (by kernel_rfl) (by kernel_rfl)) ?_
  intro W base args ds gs before hval0 hW hcnd _
  have hval : ∀ (j : Nat) t v, Try.f4.params[j]? = some t → args[j]? = some v → Value.okWide Try.prog W .any base t v := hval0
  have hW' := hW
  obtain ⟨p, q, hA0, hV, rfl, hfz, hnd⟩ := hW
  have hA : DataW.TrodAll enc Try.prog W 0 (fun _ => true) true Try.f4.params.toList args.toList ds p := hA0
  rw [Try.params4] at hA hval
  obtain ⟨v0, vs0, d0, ds0, p0, q0, hargs, rfl, rfl, h0, r0⟩ := trodAll_cons hA
  obtain ⟨v1, vs1, d1, ds1, p1, q1, rfl, rfl, rfl, h1, r1⟩ := trodAll_cons r0
  obtain ⟨rfl, rfl, rfl⟩ := trodAll_nil r1
  obtain rfl : args = #[v0, v1] := by cases args; simp_all
  obtain ⟨rfl, rfl⟩ := trodVars_none hV
  obtain ⟨a0, rfl, rfl, rfl, w0⟩ := open_int Try.underlying5 (hval 0 5 v0 rfl rfl) h0
  obtain ⟨a1, rfl, rfl, rfl, w1⟩ := open_int Try.underlying3 (hval 1 3 v1 rfl rfl) h1
  clear hA0 hval0
  simp only [List.append_nil] at hW'
  refine (walk a0 a1 w0 w1 W).mono fun e W' ⟨he, hg⟩ => ?_
  subst he
  exact ⟨_, rfl, _, _, _, [], _, [], hW', (trodAll_cons_mk (shut_bool Try.underlying4 _) trodAll_mk0), (trodAll_cons_mk (shut_int Try.underlying5 w0) (trodAll_cons_mk (shut_int Try.underlying3 w1) trodAll_mk0)), rfl, hg.frame _, fun h => by cases h⟩

theorem over : Rows.reorderFlatRow.holds Try.pinned (OpenSpec.ofChange Rows.reorderFlatSpec) :=
  OpenClaim.holds_of_wide 4 Try.f4 rfl rfl rfl rfl rfl rfl rfl ⟨rfl, rfl, rfl, rfl, rfl⟩ rfl rfl rfl rfl rfl (by kernel_rfl) Try.func4 (by kernel_rfl)
    (of_decide_eq_true (by kernel_rfl)) (by unfold Func.isWrapper; first | (rw [if_pos (by decide +kernel)]; kernel_rfl) | (rw [if_neg (by decide +kernel)]; exact ⟨rfl, rfl⟩))
    (fun os started H enc _ => lifted os started H enc)

theorem proved : Rows.ReorderFlatSaid :=
  over
#print axioms proved
end Go.Proofs.Ytlcijmllffablaa.reorderFlat
