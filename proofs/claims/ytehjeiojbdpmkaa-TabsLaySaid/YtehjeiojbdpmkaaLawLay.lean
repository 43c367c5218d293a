/-
  TabsLay: the program and the reference agree where each segment of a line begins, and none begins ahead of where the one ahead ends. No condition.
  The frame follows the shells of the kit's program proof-skeleton.mjs, for parameters that it does not serve.
-/
import Derived.Test.YtehjeiojbdpmkaaOpen
import Derived.Test.YtehjeiojbdpmkaaCheck
import Derived.Test.YtehjeiojbdpmkaaRows
import Derived.WalkKit
import Derived.ProofKit
import Derived.OpenShut
import Derived.ShutString
import Derived.ChangeOld
import Derived.Below
import Derived.Deep.RegionHeld3
import Derived.Deep.DeepCutAuto
namespace Go.Proofs.Ytehjeiojbdpmkaa.tabsLay
open Go.ChangeShapes Go.WideShapes Go.ChangeAt Go.RowKit
open Go.ChangeMaps (open_string shut_string)
set_option linter.unusedVariables false

theorem own : ownKnob Try.prog.godebug = none := by kernel_rfl
theorem laidOut : laidOutB Try.prog = true := by kernel_rfl

theorem near_of {n : Int} (h : nearB n = true) : -1099511627776 ≤ n ∧ n ≤ 1099511627776 := of_decide_eq_true h
theorem tabs_at {w : World} {B b off : Nat} {l : List (Int × Int)} (h : Tabs w B (some ⟨b, off, none⟩) l) {k : Nat} {x y : Int} (hx : Hid (l[k]? = some (x, y))) : w.cell? ⟨b, off + k * 2, none⟩ = some (.int .i64 x) ∧ w.cell? ⟨b, off + k * 2 + 1, none⟩ = some (.int .i64 y) := by
  rcases h with rfl | ⟨b', off', hA, _, hc⟩
  · have := hx.out
    simp at this
  · injection hA with hA
    injection hA with h1 h2 _
    subst h1
    subst h2
    exact hc k _ hx.out
theorem own_cap {w : World} {B : Nat} {e : TypeId} {size n : Nat} {v : Value} {xs : List Value} (h : w.ownsRow B e size v n xs) : ∃ A c, v = .slice A n c ∧ n ≤ c := by
  rcases h.2 with ⟨rfl, rfl⟩ | ⟨g, cap, cur, rfl, _, _, hc, _⟩
  · exact ⟨_, _, rfl, Nat.le_refl _⟩
  · exact ⟨_, _, rfl, hc⟩
theorem ints_take {w : World} {B : Nat} {A : Option Addr} {l : List Int} (h : Ints w B A l) (m : Nat) : Ints w B A (l.take m) := by
  rcases h with rfl | ⟨b, off, hA, hb, hc⟩
  · exact .inl (by simp)
  · refine .inr ⟨b, off, hA, hb, fun k x hx => hc k x ?_⟩
    rw [List.getElem?_take] at hx
    split at hx
    · exact hx
    · cases hx

set_option maxHeartbeats 4000000 in
set_option maxRecDepth 100000 in
theorem walk (a0 : Option Addr) (len0 cap0 : Nat) (z0 : List (Int × Int)) (a1 : Int) (a2 : Option Addr) (len2 cap2 : Nat) (z2 : List (Int × Int)) (w : World) (w0 : IsRow2 w a0 len0 z0) (w1 : (Lit.int .i64 a1).wf = true) (w2 : IsRow2 w a2 len2 z2) :
    Calls Try.prog 5 #[.slice a0 len0 cap0, .int .i64 a1, .slice a2 len2 cap2] w fun e w' => e = .returned (.bool true) ∧ Below w.heap.size w w' := by
  obtain ⟨rfl, hm, hI, _⟩ := view2 w0
  obtain ⟨rfl, hm2, hP, _⟩ := view2 w2
  clear w0 w2
  obtain ⟨v, hv⟩ := check_is z0
  obtain ⟨b1, k1⟩ : ∃ b, nearB a1 = b := ⟨_, rfl⟩
  have HV := Lib.hid hv
  have H1 := Lib.hid k1
  clear k1 hv
  by_cases hv0 : v = 0
  · subst hv0
    cases b1 with
    | false =>
      go_enter Try.func5, Try.ntmps5
      go_wp2_with fail
      refine (refCheck_calls a0 cap0 z0 _ hI hm _ HV).mono ?_
      rintro e w1 ⟨rfl, nd, rfl⟩
      have hbd : Below w.heap.size w (w.drewN nd) := below_drewN (Below.refl _ _) nd
      generalize w.drewN nd = wd at *
      go_wp2_with (go_at_call 8; refine (near_calls _ _ H1 _).mono ?_; rintro e w1 ⟨rfl, rfl⟩)
      refine (alive_calls _).mono ?_
      rintro e w1 ⟨rfl, hb1⟩
      go_wp2_with fail
      go_ret
      exact ⟨rfl, Below.then_ hbd hb1⟩
    | true =>
      by_cases hn : 40 < z2.length
      · have hi : (40 : Int) < (z2.length : Int) := by omega
        go_enter Try.func5, Try.ntmps5
        go_wp2_with fail
        refine (refCheck_calls a0 cap0 z0 _ hI hm _ HV).mono ?_
        rintro e w1 ⟨rfl, nd, rfl⟩
        have hbd : Below w.heap.size w (w.drewN nd) := below_drewN (Below.refl _ _) nd
        generalize w.drewN nd = wd at *
        go_wp2_with (go_at_call 8; refine (near_calls _ _ H1 _).mono ?_; rintro e w1 ⟨rfl, rfl⟩)
        refine (alive_calls _).mono ?_
        rintro e w1 ⟨rfl, hb1⟩
        go_wp2_with fail
        go_ret
        exact ⟨rfl, Below.then_ hbd hb1⟩
      · obtain ⟨n1, m1⟩ := near_of H1.out
        have hlen : z0.length ≤ 100 := by
          rcases HV.out with ⟨h, _⟩ | ⟨h, _⟩ | ⟨_, h, _⟩ <;> omega
        have hfar : FarT z0 := by
          rcases HV.out with ⟨h, _⟩ | ⟨h, _⟩ | ⟨_, _, h⟩
          · omega
          · omega
          · intro t ht
            obtain ⟨i, hi⟩ := List.getElem?_of_mem ht
            have := h i t hi
            have h1 := this.1
            have h2 := this.2.1
            exact ⟨by omega, by omega⟩
        have HFT := Lib.hid hfar
        clear hfar
        have hn' : ¬ (40 : Int) < (z2.length : Int) := by omega
        have hn40 : z2.length ≤ 40 := by omega
        clear hn
        obtain ⟨i3, hi, hz0, hz1, hz2⟩ := info_parts (show (Try.prog.info? 3).map (fun i => (i.zero, i.size, i.bytes)) = some (some (.int .i64 0), 1, 8) by kernel_rfl)
        go_enter Try.func5, Try.ntmps5
        go_wp2_with fail
        refine (refCheck_calls a0 cap0 z0 _ hI hm _ HV).mono ?_
        rintro e w1 ⟨rfl, nd, rfl⟩
        have hbd : Below w.heap.size w (w.drewN nd) := below_drewN (Below.refl _ _) nd
        generalize w.drewN nd = wd at *
        go_wp2_with (go_at_call 8; refine (near_calls _ _ H1 _).mono ?_; rintro e w1 ⟨rfl, rfl⟩)
        go_loopw [7, 8, 9, 10] (fun va vb pl i wr => ∃ (k : Nat) (p : Bool), i = .int .i64 k ∧ pl = .bool p ∧ k ≤ z2.length ∧ wr.ownsRow w.heap.size 3 1 va k (ivs ((z2.take k).map Prod.fst)) ∧ wr.ownsRow w.heap.size 3 1 vb k (ivs ((z2.take k).map Prod.snd)) ∧ Sep va vb ∧ Hid (∀ z ∈ z2.take k, Far z.1 ∧ Far z.2) ∧ Below w.heap.size w wr) (fun _ _ _ i _ => z2.length - (intOf i).toNat)
        case atStart => exact ⟨0, true, rfl, rfl, Nat.zero_le _, World.ownsRow_nil _ _ _ _, World.ownsRow_nil _ _ _ _, sep_nil _, (by intro z hz; simp at hz), hbd⟩
        case round =>
          obtain ⟨k, p, rfl, rfl, hk, hA, hB, hAB, HFar, hb⟩ := hrel
          have hsz := hb.size
          by_cases hlt : k < z2.length
          · obtain ⟨b, off, z, rfl, hlb, hz, c0, c1⟩ := (hP.below hb).at_ hlt
            obtain ⟨x, y⟩ := z
            dsimp only at c0 c1
            have HZ := Lib.hid hz
            have HT := Lib.hid (take_at hz)
            clear hz
            obtain ⟨q1, e1⟩ : ∃ b, nearB x = b := ⟨_, rfl⟩
            obtain ⟨q2, e2⟩ : ∃ b, nearB y = b := ⟨_, rfl⟩
            have Q1 := Lib.hid e1
            have Q2 := Lib.hid e2
            clear e1 e2
            cases q1 with
            | false =>
              go_wp2_with (go_at_call 8; refine (near_calls _ _ (by first | exact Q1 | exact Q2) _).mono ?_; rintro e w1 ⟨rfl, rfl⟩)
              refine (alive_calls _).mono ?_
              rintro e w1 ⟨rfl, hb1⟩
              go_wp2_with fail
              go_ret
              exact ⟨rfl, Below.then_ hb hb1⟩
            | true =>
              cases q2 with
              | false =>
                go_wp2_with (go_at_call 8; refine (near_calls _ _ (by first | exact Q1 | exact Q2) _).mono ?_; rintro e w1 ⟨rfl, rfl⟩)
                refine (alive_calls _).mono ?_
                rintro e w1 ⟨rfl, hb1⟩
                go_wp2_with fail
                go_ret
                exact ⟨rfl, Below.then_ hb hb1⟩
              | true =>
                have hrel2 : ∀ (w9 : World) (va vb : Value), w9.ownsRow w.heap.size 3 1 va (k + 1) (ivs ((z2.take k).map Prod.fst) ++ [.int .i64 x]) → w9.ownsRow w.heap.size 3 1 vb (k + 1) (ivs ((z2.take k).map Prod.snd) ++ [.int .i64 y]) →
                    w9.ownsRow w.heap.size 3 1 va (k + 1) (ivs ((z2.take (k + 1)).map Prod.fst)) ∧ w9.ownsRow w.heap.size 3 1 vb (k + 1) (ivs ((z2.take (k + 1)).map Prod.snd)) := by
                  intro w9 va vb h1 h2
                  rw [HT.out, List.map_append, List.map_append, List.map_singleton, List.map_singleton, ← ivs_snoc, ← ivs_snoc]
                  exact ⟨h1, h2⟩
                have HR := Lib.hid hrel2
                have HFar2 : Hid (∀ z ∈ z2.take (k + 1), Far z.1 ∧ Far z.2) := by
                  intro z hz
                  rw [HT.out, List.mem_append, List.mem_singleton] at hz
                  rcases hz with hz | rfl
                  · exact HFar.out z hz
                  · exact ⟨near_of Q1.out, near_of Q2.out⟩
                clear hrel2
                obtain ⟨Ab, cb, rfl⟩ := own_form hB
                have hdd : ((k : Int) == (((k + 1 : Nat) : Int) - 1)) = true := by simp
                have hk0 : (0 : Int) ≤ (k : Int) := by omega
                cases p with
                | false =>
                  rcases Int.lt_or_le x 0 with hx | hx
                  · have hdx : decide (0 ≤ x) = false := by simpa using hx
                    by_cases h3 : (k : Int) % 3 = 2
                    · have hd3 : ((k : Int) % 3 != 2) = false := by simp [h3]
                      clear h3
                      go_wp2_with (first | (go_at_call 8; refine (near_calls _ _ (by first | exact Q1 | exact Q2) _).mono ?_; rintro e w1 ⟨rfl, rfl⟩) | (at_builtin; refine wpList_append_own_at _ rfl (.tmp 50) (.tmp 56) 35 rfl w.heap.size 3 i3 (.int .i64 0) 1 8 Try.underlying35 hi hz0 hz1 hz2 rfl (by decide) _ _ _ rfl (hA.alloc _) ⟨wr.heap.size, 0, none⟩ 1 1 [.int .i64 x] rfl rfl (cell_one_new _ _ _) (one_cell _ rfl) (by unfold maxLen; omega) (by omega) (by simp; omega) ?_; intro vA' w3 hA1 hg1 _ ha1; obtain ⟨hB1, hAB1⟩ := push_other hB hAB hg1 ha1; have hb1 := push_below hb (Nat.le_refl _) hA hg1; have hz1s := hb1.size; have c10 := (tabs_at (hP.below hb1) HZ).1; have c11 := (tabs_at (hP.below hb1) HZ).2; obtain ⟨Aa, ca, rfl⟩ := own_form hA1) | (at_builtin; refine wpList_append_own_at _ rfl (.tmp 69) (.tmp 75) 35 rfl w.heap.size 3 i3 (.int .i64 0) 1 8 Try.underlying35 hi hz0 hz1 hz2 rfl (by decide) _ _ _ rfl (hB1.alloc _) ⟨w3.heap.size, 0, none⟩ 1 1 [.int .i64 y] rfl rfl (cell_one_new _ _ _) (one_cell _ rfl) (by unfold maxLen; omega) (by omega) (by simp; omega) ?_; intro vB' w4 hB2 hg2 _ ha2; obtain ⟨hA2, hBA2⟩ := push_other hA1 hAB1.symm hg2 ha2; have hb2 := push_below hb1 (Nat.le_refl _) hB1 hg2; have hz2s := hb2.size; have c20 := (tabs_at (hP.below hb2) HZ).1))
                      go_roundw
                      case rel => exact ⟨k + 1, _, by go_num, rfl, by omega, (HR.out _ _ _ hA2 hB2).1, (HR.out _ _ _ hA2 hB2).2, hBA2.symm, HFar2, hb2⟩
                      case measure => simp [intOf]; omega
                    · have hd3 : ((k : Int) % 3 != 2) = true := by simp [h3]
                      clear h3
                      go_wp2_with (first | (go_at_call 8; refine (near_calls _ _ (by first | exact Q1 | exact Q2) _).mono ?_; rintro e w1 ⟨rfl, rfl⟩) | (at_builtin; refine wpList_append_own_at _ rfl (.tmp 50) (.tmp 56) 35 rfl w.heap.size 3 i3 (.int .i64 0) 1 8 Try.underlying35 hi hz0 hz1 hz2 rfl (by decide) _ _ _ rfl (hA.alloc _) ⟨wr.heap.size, 0, none⟩ 1 1 [.int .i64 x] rfl rfl (cell_one_new _ _ _) (one_cell _ rfl) (by unfold maxLen; omega) (by omega) (by simp; omega) ?_; intro vA' w3 hA1 hg1 _ ha1; obtain ⟨hB1, hAB1⟩ := push_other hB hAB hg1 ha1; have hb1 := push_below hb (Nat.le_refl _) hA hg1; have hz1s := hb1.size; have c10 := (tabs_at (hP.below hb1) HZ).1; have c11 := (tabs_at (hP.below hb1) HZ).2; obtain ⟨Aa, ca, rfl⟩ := own_form hA1) | (at_builtin; refine wpList_append_own_at _ rfl (.tmp 69) (.tmp 75) 35 rfl w.heap.size 3 i3 (.int .i64 0) 1 8 Try.underlying35 hi hz0 hz1 hz2 rfl (by decide) _ _ _ rfl (hB1.alloc _) ⟨w3.heap.size, 0, none⟩ 1 1 [.int .i64 y] rfl rfl (cell_one_new _ _ _) (one_cell _ rfl) (by unfold maxLen; omega) (by omega) (by simp; omega) ?_; intro vB' w4 hB2 hg2 _ ha2; obtain ⟨hA2, hBA2⟩ := push_other hA1 hAB1.symm hg2 ha2; have hb2 := push_below hb1 (Nat.le_refl _) hB1 hg2; have hz2s := hb2.size; have c20 := (tabs_at (hP.below hb2) HZ).1))
                      go_roundw
                      case rel => exact ⟨k + 1, _, by go_num, rfl, by omega, (HR.out _ _ _ hA2 hB2).1, (HR.out _ _ _ hA2 hB2).2, hBA2.symm, HFar2, hb2⟩
                      case measure => simp [intOf]; omega
                  · have hdx : decide (0 ≤ x) = true := by simpa using hx
                    by_cases h3 : (k : Int) % 3 = 2
                    · have hd3 : ((k : Int) % 3 != 2) = false := by simp [h3]
                      clear h3
                      go_wp2_with (first | (go_at_call 8; refine (near_calls _ _ (by first | exact Q1 | exact Q2) _).mono ?_; rintro e w1 ⟨rfl, rfl⟩) | (at_builtin; refine wpList_append_own_at _ rfl (.tmp 50) (.tmp 56) 35 rfl w.heap.size 3 i3 (.int .i64 0) 1 8 Try.underlying35 hi hz0 hz1 hz2 rfl (by decide) _ _ _ rfl (hA.alloc _) ⟨wr.heap.size, 0, none⟩ 1 1 [.int .i64 x] rfl rfl (cell_one_new _ _ _) (one_cell _ rfl) (by unfold maxLen; omega) (by omega) (by simp; omega) ?_; intro vA' w3 hA1 hg1 _ ha1; obtain ⟨hB1, hAB1⟩ := push_other hB hAB hg1 ha1; have hb1 := push_below hb (Nat.le_refl _) hA hg1; have hz1s := hb1.size; have c10 := (tabs_at (hP.below hb1) HZ).1; have c11 := (tabs_at (hP.below hb1) HZ).2; obtain ⟨Aa, ca, rfl⟩ := own_form hA1) | (at_builtin; refine wpList_append_own_at _ rfl (.tmp 69) (.tmp 75) 35 rfl w.heap.size 3 i3 (.int .i64 0) 1 8 Try.underlying35 hi hz0 hz1 hz2 rfl (by decide) _ _ _ rfl (hB1.alloc _) ⟨w3.heap.size, 0, none⟩ 1 1 [.int .i64 y] rfl rfl (cell_one_new _ _ _) (one_cell _ rfl) (by unfold maxLen; omega) (by omega) (by simp; omega) ?_; intro vB' w4 hB2 hg2 _ ha2; obtain ⟨hA2, hBA2⟩ := push_other hA1 hAB1.symm hg2 ha2; have hb2 := push_below hb1 (Nat.le_refl _) hB1 hg2; have hz2s := hb2.size; have c20 := (tabs_at (hP.below hb2) HZ).1))
                      go_roundw
                      case rel => exact ⟨k + 1, _, by go_num, rfl, by omega, (HR.out _ _ _ hA2 hB2).1, (HR.out _ _ _ hA2 hB2).2, hBA2.symm, HFar2, hb2⟩
                      case measure => simp [intOf]; omega
                    · have hd3 : ((k : Int) % 3 != 2) = true := by simp [h3]
                      clear h3
                      go_wp2_with (first | (go_at_call 8; refine (near_calls _ _ (by first | exact Q1 | exact Q2) _).mono ?_; rintro e w1 ⟨rfl, rfl⟩) | (at_builtin; refine wpList_append_own_at _ rfl (.tmp 50) (.tmp 56) 35 rfl w.heap.size 3 i3 (.int .i64 0) 1 8 Try.underlying35 hi hz0 hz1 hz2 rfl (by decide) _ _ _ rfl (hA.alloc _) ⟨wr.heap.size, 0, none⟩ 1 1 [.int .i64 x] rfl rfl (cell_one_new _ _ _) (one_cell _ rfl) (by unfold maxLen; omega) (by omega) (by simp; omega) ?_; intro vA' w3 hA1 hg1 _ ha1; obtain ⟨hB1, hAB1⟩ := push_other hB hAB hg1 ha1; have hb1 := push_below hb (Nat.le_refl _) hA hg1; have hz1s := hb1.size; have c10 := (tabs_at (hP.below hb1) HZ).1; have c11 := (tabs_at (hP.below hb1) HZ).2; obtain ⟨Aa, ca, rfl⟩ := own_form hA1) | (at_builtin; refine wpList_append_own_at _ rfl (.tmp 69) (.tmp 75) 35 rfl w.heap.size 3 i3 (.int .i64 0) 1 8 Try.underlying35 hi hz0 hz1 hz2 rfl (by decide) _ _ _ rfl (hB1.alloc _) ⟨w3.heap.size, 0, none⟩ 1 1 [.int .i64 y] rfl rfl (cell_one_new _ _ _) (one_cell _ rfl) (by unfold maxLen; omega) (by omega) (by simp; omega) ?_; intro vB' w4 hB2 hg2 _ ha2; obtain ⟨hA2, hBA2⟩ := push_other hA1 hAB1.symm hg2 ha2; have hb2 := push_below hb1 (Nat.le_refl _) hB1 hg2; have hz2s := hb2.size; have c20 := (tabs_at (hP.below hb2) HZ).1))
                      go_roundw
                      case rel => exact ⟨k + 1, _, by go_num, rfl, by omega, (HR.out _ _ _ hA2 hB2).1, (HR.out _ _ _ hA2 hB2).2, hBA2.symm, HFar2, hb2⟩
                      case measure => simp [intOf]; omega
                | true =>
                  rcases Int.lt_or_le x 0 with hx | hx
                  · have hdx : decide (0 ≤ x) = false := by simpa using hx
                    by_cases h3 : (k : Int) % 3 = 2
                    · have hd3 : ((k : Int) % 3 != 2) = false := by simp [h3]
                      clear h3
                      go_wp2_with (first | (go_at_call 8; refine (near_calls _ _ (by first | exact Q1 | exact Q2) _).mono ?_; rintro e w1 ⟨rfl, rfl⟩) | (at_builtin; refine wpList_append_own_at _ rfl (.tmp 50) (.tmp 56) 35 rfl w.heap.size 3 i3 (.int .i64 0) 1 8 Try.underlying35 hi hz0 hz1 hz2 rfl (by decide) _ _ _ rfl (hA.alloc _) ⟨wr.heap.size, 0, none⟩ 1 1 [.int .i64 x] rfl rfl (cell_one_new _ _ _) (one_cell _ rfl) (by unfold maxLen; omega) (by omega) (by simp; omega) ?_; intro vA' w3 hA1 hg1 _ ha1; obtain ⟨hB1, hAB1⟩ := push_other hB hAB hg1 ha1; have hb1 := push_below hb (Nat.le_refl _) hA hg1; have hz1s := hb1.size; have c10 := (tabs_at (hP.below hb1) HZ).1; have c11 := (tabs_at (hP.below hb1) HZ).2; obtain ⟨Aa, ca, rfl⟩ := own_form hA1) | (at_builtin; refine wpList_append_own_at _ rfl (.tmp 69) (.tmp 75) 35 rfl w.heap.size 3 i3 (.int .i64 0) 1 8 Try.underlying35 hi hz0 hz1 hz2 rfl (by decide) _ _ _ rfl (hB1.alloc _) ⟨w3.heap.size, 0, none⟩ 1 1 [.int .i64 y] rfl rfl (cell_one_new _ _ _) (one_cell _ rfl) (by unfold maxLen; omega) (by omega) (by simp; omega) ?_; intro vB' w4 hB2 hg2 _ ha2; obtain ⟨hA2, hBA2⟩ := push_other hA1 hAB1.symm hg2 ha2; have hb2 := push_below hb1 (Nat.le_refl _) hB1 hg2; have hz2s := hb2.size; have c20 := (tabs_at (hP.below hb2) HZ).1))
                      go_roundw
                      case rel => exact ⟨k + 1, _, by go_num, rfl, by omega, (HR.out _ _ _ hA2 hB2).1, (HR.out _ _ _ hA2 hB2).2, hBA2.symm, HFar2, hb2⟩
                      case measure => simp [intOf]; omega
                    · have hd3 : ((k : Int) % 3 != 2) = true := by simp [h3]
                      clear h3
                      go_wp2_with (first | (go_at_call 8; refine (near_calls _ _ (by first | exact Q1 | exact Q2) _).mono ?_; rintro e w1 ⟨rfl, rfl⟩) | (at_builtin; refine wpList_append_own_at _ rfl (.tmp 50) (.tmp 56) 35 rfl w.heap.size 3 i3 (.int .i64 0) 1 8 Try.underlying35 hi hz0 hz1 hz2 rfl (by decide) _ _ _ rfl (hA.alloc _) ⟨wr.heap.size, 0, none⟩ 1 1 [.int .i64 x] rfl rfl (cell_one_new _ _ _) (one_cell _ rfl) (by unfold maxLen; omega) (by omega) (by simp; omega) ?_; intro vA' w3 hA1 hg1 _ ha1; obtain ⟨hB1, hAB1⟩ := push_other hB hAB hg1 ha1; have hb1 := push_below hb (Nat.le_refl _) hA hg1; have hz1s := hb1.size; have c10 := (tabs_at (hP.below hb1) HZ).1; have c11 := (tabs_at (hP.below hb1) HZ).2; obtain ⟨Aa, ca, rfl⟩ := own_form hA1) | (at_builtin; refine wpList_append_own_at _ rfl (.tmp 69) (.tmp 75) 35 rfl w.heap.size 3 i3 (.int .i64 0) 1 8 Try.underlying35 hi hz0 hz1 hz2 rfl (by decide) _ _ _ rfl (hB1.alloc _) ⟨w3.heap.size, 0, none⟩ 1 1 [.int .i64 y] rfl rfl (cell_one_new _ _ _) (one_cell _ rfl) (by unfold maxLen; omega) (by omega) (by simp; omega) ?_; intro vB' w4 hB2 hg2 _ ha2; obtain ⟨hA2, hBA2⟩ := push_other hA1 hAB1.symm hg2 ha2; have hb2 := push_below hb1 (Nat.le_refl _) hB1 hg2; have hz2s := hb2.size; have c20 := (tabs_at (hP.below hb2) HZ).1))
                      go_roundw
                      case rel => exact ⟨k + 1, _, by go_num, rfl, by omega, (HR.out _ _ _ hA2 hB2).1, (HR.out _ _ _ hA2 hB2).2, hBA2.symm, HFar2, hb2⟩
                      case measure => simp [intOf]; omega
                  · have hdx : decide (0 ≤ x) = true := by simpa using hx
                    by_cases h3 : (k : Int) % 3 = 2
                    · have hd3 : ((k : Int) % 3 != 2) = false := by simp [h3]
                      clear h3
                      go_wp2_with (first | (go_at_call 8; refine (near_calls _ _ (by first | exact Q1 | exact Q2) _).mono ?_; rintro e w1 ⟨rfl, rfl⟩) | (at_builtin; refine wpList_append_own_at _ rfl (.tmp 50) (.tmp 56) 35 rfl w.heap.size 3 i3 (.int .i64 0) 1 8 Try.underlying35 hi hz0 hz1 hz2 rfl (by decide) _ _ _ rfl (hA.alloc _) ⟨wr.heap.size, 0, none⟩ 1 1 [.int .i64 x] rfl rfl (cell_one_new _ _ _) (one_cell _ rfl) (by unfold maxLen; omega) (by omega) (by simp; omega) ?_; intro vA' w3 hA1 hg1 _ ha1; obtain ⟨hB1, hAB1⟩ := push_other hB hAB hg1 ha1; have hb1 := push_below hb (Nat.le_refl _) hA hg1; have hz1s := hb1.size; have c10 := (tabs_at (hP.below hb1) HZ).1; have c11 := (tabs_at (hP.below hb1) HZ).2; obtain ⟨Aa, ca, rfl⟩ := own_form hA1) | (at_builtin; refine wpList_append_own_at _ rfl (.tmp 69) (.tmp 75) 35 rfl w.heap.size 3 i3 (.int .i64 0) 1 8 Try.underlying35 hi hz0 hz1 hz2 rfl (by decide) _ _ _ rfl (hB1.alloc _) ⟨w3.heap.size, 0, none⟩ 1 1 [.int .i64 y] rfl rfl (cell_one_new _ _ _) (one_cell _ rfl) (by unfold maxLen; omega) (by omega) (by simp; omega) ?_; intro vB' w4 hB2 hg2 _ ha2; obtain ⟨hA2, hBA2⟩ := push_other hA1 hAB1.symm hg2 ha2; have hb2 := push_below hb1 (Nat.le_refl _) hB1 hg2; have hz2s := hb2.size; have c20 := (tabs_at (hP.below hb2) HZ).1))
                      go_roundw
                      case rel => exact ⟨k + 1, _, by go_num, rfl, by omega, (HR.out _ _ _ hA2 hB2).1, (HR.out _ _ _ hA2 hB2).2, hBA2.symm, HFar2, hb2⟩
                      case measure => simp [intOf]; omega
                    · have hd3 : ((k : Int) % 3 != 2) = true := by simp [h3]
                      clear h3
                      go_wp2_with (first | (go_at_call 8; refine (near_calls _ _ (by first | exact Q1 | exact Q2) _).mono ?_; rintro e w1 ⟨rfl, rfl⟩) | (at_builtin; refine wpList_append_own_at _ rfl (.tmp 50) (.tmp 56) 35 rfl w.heap.size 3 i3 (.int .i64 0) 1 8 Try.underlying35 hi hz0 hz1 hz2 rfl (by decide) _ _ _ rfl (hA.alloc _) ⟨wr.heap.size, 0, none⟩ 1 1 [.int .i64 x] rfl rfl (cell_one_new _ _ _) (one_cell _ rfl) (by unfold maxLen; omega) (by omega) (by simp; omega) ?_; intro vA' w3 hA1 hg1 _ ha1; obtain ⟨hB1, hAB1⟩ := push_other hB hAB hg1 ha1; have hb1 := push_below hb (Nat.le_refl _) hA hg1; have hz1s := hb1.size; have c10 := (tabs_at (hP.below hb1) HZ).1; have c11 := (tabs_at (hP.below hb1) HZ).2; obtain ⟨Aa, ca, rfl⟩ := own_form hA1) | (at_builtin; refine wpList_append_own_at _ rfl (.tmp 69) (.tmp 75) 35 rfl w.heap.size 3 i3 (.int .i64 0) 1 8 Try.underlying35 hi hz0 hz1 hz2 rfl (by decide) _ _ _ rfl (hB1.alloc _) ⟨w3.heap.size, 0, none⟩ 1 1 [.int .i64 y] rfl rfl (cell_one_new _ _ _) (one_cell _ rfl) (by unfold maxLen; omega) (by omega) (by simp; omega) ?_; intro vB' w4 hB2 hg2 _ ha2; obtain ⟨hA2, hBA2⟩ := push_other hA1 hAB1.symm hg2 ha2; have hb2 := push_below hb1 (Nat.le_refl _) hB1 hg2; have hz2s := hb2.size; have c20 := (tabs_at (hP.below hb2) HZ).1))
                      go_roundw
                      case rel => exact ⟨k + 1, _, by go_num, rfl, by omega, (HR.out _ _ _ hA2 hB2).1, (HR.out _ _ _ hA2 hB2).2, hBA2.symm, HFar2, hb2⟩
                      case measure => simp [intOf]; omega
          · have hkl : k = z2.length := by omega
            subst hkl
            rw [List.take_of_length_le (Nat.le_refl _)] at hA hB
            have hFar0 := HFar.out
            rw [List.take_of_length_le (Nat.le_refl _)] at hFar0
            obtain ⟨wl, hwl⟩ : ∃ wl, wl = z2.map Prod.fst := ⟨_, rfl⟩
            obtain ⟨pl, hpl⟩ : ∃ pl, pl = z2.map Prod.snd := ⟨_, rfl⟩
            have hwn : wl.length = z2.length := by rw [hwl]; simp
            have hpn : pl.length = z2.length := by rw [hpl]; simp
            have hfw : Hid (FarL wl) := by
              intro x hx
              rw [hwl] at hx
              obtain ⟨z, hz, rfl⟩ := List.mem_map.1 hx
              exact (hFar0 z hz).1
            have hfp0 : FarL pl := by
              intro x hx
              rw [hpl] at hx
              obtain ⟨z, hz, rfl⟩ := List.mem_map.1 hx
              exact (hFar0 z hz).2
            rw [← hwl] at hA
            rw [← hpl] at hB
            rw [← hwn] at hA
            obtain ⟨AA, cA, rfl, hIA⟩ := own_ints hA
            obtain ⟨m, hm3⟩ : ∃ m, m = z2.length - z2.length / 3 := ⟨_, rfl⟩
            obtain ⟨AB, cB, hvB, hcB⟩ := own_cap hB
            have hIB : Ints wr wr.heap.size AB (pl.take m) := by
              rw [← hpn] at hB
              obtain ⟨AB2, cB2, hvB2, hIB2⟩ := own_ints hB
              rw [hvB] at hvB2
              injection hvB2 with h1 _ _
              subst h1
              exact ints_take hIB2 m
            subst hvB
            obtain ⟨pt, hpt⟩ : ∃ pt, pt = pl.take m := ⟨_, rfl⟩
            have hptn : pt.length = m := by rw [hpt, List.length_take]; omega
            have hfp : Hid (FarL pt) := by
              intro x hx
              rw [hpt] at hx
              exact hfp0 x (List.mem_of_mem_take hx)
            rw [← hpt] at hIB
            have HPT := Lib.hid hpt
            obtain ⟨X, hX⟩ : ∃ X, X = layL z0 a1 wl pt := ⟨_, rfl⟩
            have hXn : X.length = z2.length := by rw [hX, layL_length, hwn]
            have hb40 : wl.length ≤ 40 := by omega
            have L1 : ∀ W : World, Below wr.heap.size wr W → Calls Try.prog 14 #[.slice a0 z0.length cap0, .int .i64 a1, .slice AA z2.length cA, .slice AB (z2.length - z2.length / 3) cB] W fun e w' => ∃ A c, e = .returned (.slice A z2.length c) ∧ Ints w' w'.heap.size A X ∧ Below W.heap.size W w' := by
              intro W hW
              have h := lay_calls a0 cap0 z0 a1 AA cA wl AB cB pt W ((hI.on hb).on hW) (hIA.on hW) (hIB.on hW) hlen hb40 HFT m1 hfw hfp
              rw [← hX, hwn, hptn, hm3] at h
              refine h.mono ?_
              rintro e w' ⟨v, he, hO, hb'⟩
              rw [← hXn] at hO
              obtain ⟨A, c, rfl, hIX⟩ := own_ints hO
              rw [hXn] at he
              exact ⟨A, c, he, hIX, hb'⟩
            have L2 : ∀ W : World, Below wr.heap.size wr W → Calls Try.prog 16 #[.slice a0 z0.length cap0, .int .i64 a1, .slice AA z2.length cA, .slice AB (z2.length - z2.length / 3) cB] W fun e w' => ∃ A c, e = .returned (.slice A z2.length c) ∧ Ints w' w'.heap.size A X ∧ Below W.heap.size W w' := by
              intro W hW
              have h := refLay_calls a0 cap0 z0 a1 AA cA wl AB cB pt W ((hI.on hb).on hW) (hIA.on hW) (hIB.on hW) hlen hb40 HFT m1 hfw hfp
              rw [← hX, hwn, hptn, hm3] at h
              refine h.mono ?_
              rintro e w' ⟨v, he, hO, hb'⟩
              rw [← hXn] at hO
              obtain ⟨A, c, rfl, hIX⟩ := own_ints hO
              rw [hXn] at he
              exact ⟨A, c, he, hIX, hb'⟩
            have L3 : ∀ (W : World) (A A' : Option Addr) (c c' : Nat), Ints W W.heap.size A X → Ints W W.heap.size A' X → Calls Try.prog 15 #[.slice A z2.length c, .slice A' z2.length c'] W fun e w' => e = .returned (.bool true) ∧ Below W.heap.size W w' := by
              intro W A A' c c' h1 h2
              have h := same_below A A' c c' X X W h1 h2 (by omega) true (by unfold Hid; simp)
              rwa [hXn] at h
            have L4 : ∀ (k : Nat) (x y a : Int), X[k + 1]? = some x → X[k]? = some y → wl[k]? = some a → y + a ≤ x ∧ -140737488355328 ≤ y + a ∧ y + a ≤ 140737488355328 := by
              intro k x y a hx hy ha
              have hk1 : k + 1 < wl.length := by rw [hwn, ← hXn]; exact (List.getElem?_eq_some_iff.1 hx).1
              rw [hX, layL_get _ _ _ _ _ hk1] at hx
              rw [hX, layL_get _ _ _ _ _ (by omega)] at hy
              injection hx with hx
              injection hy with hy
              have he := end_succ ha hy
              have hbd2 := end_bd2 (k := k + 1) HFT.out m1 hfw.out hfp.out (by omega)
              rw [he] at hx hbd2
              unfold stO at hx
              rw [if_neg (by omega)] at hx
              have hpb := place_bd (nextOf z0 a1 (y + a)).1 (nextOf z0 a1 (y + a)).2 (y + a) (wl.getD (k + 1) 0) (pointOf wl pt (k + 1)) (far_getD hfw.out _) (far_point hfw.out hfp.out _)
              rw [hx] at hpb
              exact ⟨hpb.1, hbd2.1, hbd2.2⟩
            simp only [hwn]
            have HXn := Lib.hid hXn
            have HWn := Lib.hid hwn
            have M1 := Lib.hid L1
            have M2 := Lib.hid L2
            have M3 := Lib.hid L3
            have M4 := Lib.hid L4
            clear L1 L2 L3 L4 hA hB hAB HFar hFar0 hwl hpl hfp0 hpt hX hXn hwn hpn hptn hb40 hIB HPT hfw hfp HFT
            have hmc : ((z2.length - z2.length / 3 : Nat) : Int) ≤ (cB : Int) := by omega
            clear hm3
            go_wp2_with fail
            refine (M1.out _ (Below.refl _ _)).mono ?_
            rintro e w5 ⟨A5, c5, rfl, hI5, hb5⟩
            go_wp2_with fail
            refine (M2.out _ hb5).mono ?_
            rintro e w6 ⟨A6, c6, rfl, hI6, hb6⟩
            have hI5b := hI5.on hb6
            go_wp2_with fail
            refine (M3.out _ _ _ _ _ hI5b hI6).mono ?_
            rintro e w7 ⟨rfl, hb7⟩
            have hI7 := hI5b.on hb7
            have hA7 := ((hIA.on hb5).on hb6).on hb7
            have hb8 := Below.then_ (Below.then_ (Below.then_ hb hb5) hb6) hb7
            clear hI5 hI5b hI6 hIA hb5 hb6 hb7 hb M1 M2 M3
            go_wp2_with fail
            go_loopw [12] (fun i w9 => ∃ k : Nat, i = .int .i64 (k + 1 : Nat) ∧ k ≤ z2.length ∧ ∃ m, w9 = w7.drewN m) (fun i _ => z2.length + 1 - (intOf i).toNat)
            case atStart => exact ⟨0, rfl, Nat.zero_le _, 0, rfl⟩
            case round =>
              obtain ⟨k, rfl, hk, n9, rfl⟩ := hrel
              by_cases hlt2 : k + 1 < z2.length
              · cases p with
                | false =>
                  go_wp2_with fail
                  refine (alive_calls _).mono ?_
                  rintro e w9 ⟨rfl, hb9⟩
                  go_wp2_with fail
                  go_ret
                  exact ⟨rfl, Below.then_ (below_drewN hb8 n9) hb9⟩
                | true =>
                  obtain ⟨b2, off2, x, rfl, hlb2, hx, c2⟩ := hI7.at_ (k := k + 1) (by rw [HXn.out]; exact hlt2)
                  obtain ⟨b3, off3, y, hAA, hlb3, hy, c3⟩ := hI7.at_ (k := k) (by rw [HXn.out]; omega)
                  injection hAA with hAA
                  injection hAA with e1 e2 _
                  rw [← e1, ← e2] at c3
                  obtain ⟨b4, off4, a, rfl, hlb4, ha, c4⟩ := hA7.at_ (k := k) (by rw [HWn.out]; omega)
                  obtain ⟨s, hs⟩ : ∃ s, s = y + a := ⟨_, rfl⟩
                  have h4 := M4.out k x y a hx hy ha
                  rw [← hs] at h4
                  have hw1 : IntKind.i64.wrap (((k + 1 : Nat) : Int) - 1) = (k : Int) := by rw [IntWalk.i64_in _ (by omega)]; omega
                  have hw2 : IntKind.i64.wrap (y + a) = s := by rw [IntWalk.i64_in _ (by omega)]; exact hs.symm
                  have hd9 : decide (x < s) = false := decide_eq_false (by omega)
                  have hi9 : ((k + 1 : Nat) : Int) < (z2.length : Int) := by omega
                  have hi8 : (k : Int) < (z2.length : Int) := by omega
                  clear hx hy ha e1 e2 hs h4 hlb3 M4
                  go_wp2_with fail
                  go_quiet (fail)
                  clear hw1 hw2
                  go_wp2_with fail
                  go_roundw
                  case rel => exact ⟨k + 1, by go_num, by omega, _, by first | exact rfl | exact World.drewN_drewN _ _ _⟩
                  case measure => simp [intOf]; omega
              · cases p <;>
                · go_wp2_with fail
                  refine (alive_calls _).mono ?_
                  rintro e w9 ⟨rfl, hb9⟩
                  go_wp2_with fail
                  go_ret
                  exact ⟨rfl, Below.then_ (below_drewN hb8 n9) hb9⟩
  · have hv1 : (v != 0) = true := by simpa using hv0
    go_enter Try.func5, Try.ntmps5
    go_wp2_with fail
    refine (refCheck_calls a0 cap0 z0 _ hI hm _ HV).mono ?_
    rintro e w1 ⟨rfl, nd, rfl⟩
    have hbd : Below w.heap.size w (w.drewN nd) := below_drewN (Below.refl _ _) nd
    generalize w.drewN nd = wd at *
    go_wp2_with (go_at_call 8; refine (near_calls _ _ H1 _).mono ?_; rintro e w1 ⟨rfl, rfl⟩)
    refine (alive_calls _).mono ?_
    rintro e w1 ⟨rfl, hb1⟩
    go_wp2_with fail
    go_ret
    exact ⟨rfl, Below.then_ hbd hb1⟩

set_option maxRecDepth 100000 in
theorem lifted (os : Os) (started : os.Started) (H : Type) (enc : TypeId × Value → H) :
    ReturnsInHanded {} Try.checked os 5 .any (Rows.tabsLaySpec.pre6 enc Try.prog Try.f5 Rows.tabsLayRow.domain false) (Rows.tabsLaySpec.post enc Try.prog Try.f5 false true false false) := by
  refine returnsInHanded_of_change (C := Try.checked) own started (by kernel_rfl) Try.func5
    (ChangeSpec.witness6 (enc := enc) (C := Try.checked) false ⟨#[], #[.slice none 0 0, .int .i64 0, .slice none 0 0], []⟩ 8 (by kernel_rfl) (by kernel_rfl) (by kernel_rfl) (by kernel_rfl)) ?_
  intro W base args ds gs before hval0 hW hcnd _
  have hval : ∀ (j : Nat) t v, Try.f5.params[j]? = some t → args[j]? = some v → Value.okWide Try.prog W .any base t v := hval0
  have hW' := hW
  obtain ⟨p, q, hA0, hV, rfl, hfz, hnd⟩ := hW
  have hA : DataW.TrodAll enc Try.prog W 0 (fun _ => true) true Try.f5.params.toList args.toList ds p := hA0
  rw [Try.params5] at hA hval
  obtain ⟨v0, vs0, d0, ds0, p0, q0, hargs, rfl, rfl, h0, r0⟩ := trodAll_cons hA
  obtain ⟨v1, vs1, d1, ds1, p1, q1, rfl, rfl, rfl, h1, r1⟩ := trodAll_cons r0
  obtain ⟨v2, vs2, d2, ds2, p2, q2, rfl, rfl, rfl, h2, r2⟩ := trodAll_cons r1
  obtain ⟨rfl, rfl, rfl⟩ := trodAll_nil r2
  obtain rfl : args = #[v0, v1, v2] := by cases args; simp_all
  obtain ⟨rfl, rfl⟩ := trodVars_none hV
  have k0 := h0
  have lt0 : ∀ x ∈ p0, x.block < W.heap.size := by obtain ⟨m, hm⟩ := k0; exact DataW.trod_lt m _ _ _ hm
  obtain ⟨a0, len0, cap0, rfl⟩ := okWide_slice Try.underlying22 (hval 0 22 v0 rfl rfl)
  obtain ⟨z0, w0⟩ : ∃ zs, IsRow2 W a0 len0 zs := open_rows2 Try.underlying22 (by kernel_rfl) (fun _ _ _ hl hh => (two_tab Try.underlying29 Try.underlying3 Try.underlying3 (by kernel_rfl) hl hh)) h0
  obtain ⟨a1, rfl, rfl, rfl, w1⟩ := open_int Try.underlying3 (hval 1 3 v1 rfl rfl) h1
  have k2 := h2
  have lt2 : ∀ x ∈ p2, x.block < W.heap.size := by obtain ⟨m, hm⟩ := k2; exact DataW.trod_lt m _ _ _ hm
  obtain ⟨a2, len2, cap2, rfl⟩ := okWide_slice Try.underlying34 (hval 2 34 v2 rfl rfl)
  obtain ⟨z2, w2⟩ : ∃ zs, IsRow2 W a2 len2 zs := open_rows2 Try.underlying34 (by kernel_rfl) (fun _ _ _ hl hh => (two_arr Try.underlying36 Try.underlying3 (by kernel_rfl) hl hh)) h2
  clear hA0 hval0
  refine (walk a0 len0 cap0 z0 a1 a2 len2 cap2 z2 W w0 w1 w2).mono fun e W' ⟨he, bel⟩ => ?_
  subst he
  exact ⟨_, rfl, _, _, _, [], _, [], hW', trodAll_mk1 (shut_bool Try.underlying4 _), (trodAll_cons_mk (Below.trod laidOut (by kernel_rfl) (of_decide_eq_true (by kernel_rfl)) k0 bel lt0) (trodAll_cons_mk (shut_int Try.underlying3 w1) (trodAll_cons_mk (Below.trod laidOut (by kernel_rfl) (of_decide_eq_true (by kernel_rfl)) k2 bel lt2) trodAll_mk0))), rfl, bel.frame _, fun h => by cases h⟩

theorem over : Rows.tabsLayRow.holds Try.pinned (OpenSpec.ofChange Rows.tabsLaySpec) :=
  OpenClaim.holds_of_wide 5 Try.f5 rfl rfl rfl rfl rfl rfl rfl ⟨rfl, rfl, rfl, rfl, rfl⟩ rfl rfl rfl rfl rfl (by kernel_rfl) Try.func5 (by kernel_rfl)
    (of_decide_eq_true (by kernel_rfl)) (by unfold Func.isWrapper; first | (rw [if_pos (by decide +kernel)]; kernel_rfl) | (rw [if_neg (by decide +kernel)]; exact ⟨rfl, rfl⟩))
    (fun os started H enc _ => lifted os started H enc)

theorem proved : Rows.TabsLaySaid := over
#print axioms proved
end Go.Proofs.Ytehjeiojbdpmkaa.tabsLay
