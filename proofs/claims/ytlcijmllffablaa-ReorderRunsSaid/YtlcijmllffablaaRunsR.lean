/-
  The contract of the reference's 'Runs': it gives the stretches in the order in which they are seen. And the comparison of two slices of spans.
-/
import Derived.Test.YtlcijmllffablaaRunsW
import Derived.Test.YtlcijmllffablaaRefB
namespace Go.Proofs.Ytlcijmllffablaa
open Go.RowKit

theorem MaxR.lt {L : List Int} {n : Nat} {r : Run3} (h : MaxR L n r) : r.1 < r.2.1 ∧ r.2.1 ≤ n := ⟨h.1, h.2.1⟩

set_option maxHeartbeats 1000000 in
set_option maxRecDepth 100000 in
theorem refRuns_calls (A : Option Addr) (c : Nat) (l : List Int) (w : World) (hI : Ints w w.heap.size A l) (hn : l.length ≤ 100) (T : List Run3) (HT : Hid (Bl (l.map held) l.length (rounds l).1 T)) :
    Calls Try.prog 21 #[.slice A l.length c] w fun e w' => ∃ v, e = .returned v ∧ w'.ownsRow w.heap.size 38 3 v T.length (sps T) ∧ Below w.heap.size w w' := by
  obtain ⟨i38, hj, hy0, hy1, hy2⟩ := info_parts info38
  go_enter Try.func21, Try.ntmps21
  go_wp2_with fail
  refine (counts_calls A c l _ hI hn).mono ?_
  rintro e w1 ⟨v1, rfl, hown1, hb1⟩
  obtain ⟨L, hL⟩ : ∃ L, L = l.map held := ⟨_, rfl⟩
  have hLl : L.length = l.length := by rw [hL]; simp
  rw [← hL] at HT hown1
  rw [← hLl] at hown1
  obtain ⟨A4, c4, hv1, hI4⟩ := own_ints hown1
  rw [hv1]
  have hL100 : L.length ≤ 100 := by omega
  have HLL := Lib.hid hL
  have HLl := Lib.hid hLl
  clear hv1 hown1 hL hLl
  obtain ⟨V, hV⟩ : ∃ V, V = vis l := ⟨_, rfl⟩
  have hVl : V.length = L.length := by rw [hV, vis_length, HLl.out]
  have HV := Lib.hid hV
  have HVl := Lib.hid hVl
  have hVn : V.length ≤ 100 := by omega
  clear hV hVl
  go_wp2_with fail
  refine (refVisual_calls A c l _ (hI.on hb1) hn V HV).mono ?_
  rintro e w2 ⟨A2, c2, rfl, hI2, hb2⟩
  have hIV := hI2.ints
  have hIL := hI4.on hb2
  have hb3 := Below.then_ hb1 hb2
  clear hI2 hI4 hb1 hb2
  have hs3 := hb3.size
  go_wp2_with fail
  go_loopw [5, 6] (fun vO i wr => ∃ (k s : Nat), i = .int .i64 k ∧ k ≤ V.length ∧ s ≤ k ∧ Hid (Bl L L.length ((rounds l).1.drop k) (T.drop s)) ∧ wr.ownsRow w2.heap.size 38 3 vO s (sps (T.take s)) ∧ Hid (s ≤ T.length) ∧ Below w2.heap.size w2 wr) (fun _ i _ => V.length - (intOf i).toNat)
  case atStart => exact ⟨0, 0, rfl, Nat.zero_le _, Nat.le_refl _, by rw [HLl.out]; exact HT, World.ownsRow_nil _ _ _ _, Nat.zero_le _, Below.refl _ _⟩
  case round =>
    obtain ⟨k, s, rfl, hk, hsk, HB, hO, HS, hb4⟩ := hrel
    have hs4 := hb4.size
    by_cases hlt : k < V.length
    · obtain ⟨b, off, x, rfl, hlb, hx, hc⟩ := (hIV.below hb4).at_ hlt
      cases hTs : T.drop s with
      | nil =>
        have h := HB.out
        rw [hTs] at h
        have h2 : (rounds l).1.drop k = [] := h
        have h3 := congrArg List.length h2
        rw [List.length_drop, (rounds_places l).1, List.length_nil] at h3
        have := HVl.out
        have := HLl.out
        omega
      | cons r T2 =>
        have h := HB.out
        rw [hTs] at h
        obtain ⟨y, bl, V', hV', hbl, hy1', hy2', hmax, hrest⟩ := h
        have hxy : x = (y : Int) := by
          rw [HV.out, vis, ints_get] at hx
          have h4 : (rounds l).1[k]? = some y := by
            have h5 := congrArg (fun (l : List Nat) => l[0]?) hV'
            simp only [List.getElem?_drop, List.getElem?_cons_zero, Nat.add_zero] at h5
            exact h5
          rw [h4] at hx
          injection hx with hx
          exact hx.symm
        subst hxy
        obtain ⟨f, t, v⟩ := r
        simp only at hbl hy1' hy2'
        have hft : f < t := hmax.1
        have htn : t ≤ L.length := hmax.2.1
        have hin : ∀ i, f ≤ i → i < t → L[i]? = some v := hmax.2.2.1
        have HIN := Lib.hid hin
        have HMX := Lib.hid hmax
        have hly : L[y]? = some v := hin y hy1' hy2'
        have HV' := Lib.hid hV'
        have HBL := Lib.hid hbl
        have HRS := Lib.hid hrest
        have HTS := Lib.hid hTs
        obtain ⟨b2, off2, v', rfl, hlb2, hv', hc2⟩ := (hIL.below hb4).at_ (k := y) (by omega)
        have hvv : v' = v := by rw [hly] at hv'; injection hv' with hv'; exact hv'.symm
        subst hvv
        have hyL : (y : Int) < (L.length : Int) := by omega
        have hkV : (k : Int) < (V.length : Int) := by omega
        clear hx hV' hbl hmax hin hly hrest hTs hv' HB
        obtain ⟨wo, rfl⟩ : ∃ wo : World, wo = wr := ⟨_, rfl⟩
        have hILo := hIL.below hb4
        go_wp2_with fail
        go_loopw [7] (fun a wr => ∃ p : Nat, a = .int .i64 p ∧ f ≤ p ∧ p ≤ y ∧ ∃ nn, wr = wo.drewN nn) (fun a _ => (intOf a).toNat)
        case atStart => exact ⟨y, rfl, hy1', Nat.le_refl _, 0, rfl⟩
        case round =>
          obtain ⟨p, rfl, hp1, hp2, nn, rfl⟩ := hrel
          by_cases hpf : f < p
          · obtain ⟨p1, hp1e⟩ : ∃ p1, p = p1 + 1 := ⟨p - 1, by omega⟩
            have hlp : L[p1]? = some v' := HIN.out p1 (by omega) (by omega)
            obtain ⟨b3, off3, u, hA3, hlb3, hu, hc3⟩ := hILo.at_ (k := p1) (by omega)
            injection hA3 with hA3
            injection hA3 with e1 e2 _
            rw [← e1, ← e2] at hc3
            rw [hlp] at hu
            injection hu with hu
            rw [← hu] at hc3
            have hw1 : IntKind.i64.wrap ((p : Int) - 1) = (p1 : Int) := by rw [IntWalk.i64_in _ (by omega)]; omega
            have hpi : (p1 : Int) < (L.length : Int) := by omega
            have hg : 0 < p := by omega
            have hdd : (v' == v') = true := by simp
            have HP1 := Lib.hid hp1e
            clear hu e1 e2 hlp hp1e
            go_wp2_with fail
            go_quiet (fail)
            clear hw1
            go_wp2_with fail
            go_roundw
            case rel =>
              have e : (p : Int) - 1 = ((p - 1 : Nat) : Int) := by omega
              exact ⟨p - 1, by rw [e], by omega, by omega, _, rfl⟩
            case measure => simp [intOf]; omega
          · have hpf2 : p = f := by omega
            subst hpf2
            by_cases hf0 : p = 0
            · have hgd : decide (0 < p) = false := decide_eq_false (by omega)
              clear hf0
              go_wp2_with fail
              go_quiet (fail)
              obtain ⟨nn, hnn⟩ : ∃ m, (wo.drewN nn).drewN nq = wo.drewN m := ⟨_, World.drewN_drewN _ _ _⟩
              rw [hnn]
              clear hnn
              go_wp2_with fail
              go_loopw [8] (fun a wr => ∃ z : Nat, a = .int .i64 z ∧ y + 1 ≤ z ∧ z ≤ t ∧ ∃ nn, wr = wo.drewN nn) (fun a _ => L.length - (intOf a).toNat)
              case atStart => exact ⟨y + 1, by go_num, Nat.le_refl _, by omega, _, rfl⟩
              case round =>
                obtain ⟨z, rfl, hp1, hp2, nn, rfl⟩ := hrel
                by_cases hpt : z < t
                · have hlp : L[z]? = some v' := HIN.out z (by omega) hpt
                  obtain ⟨b3, off3, u, hA3, hlb3, hu, hc3⟩ := hILo.at_ (k := z) (by omega)
                  injection hA3 with hA3
                  injection hA3 with e1 e2 _
                  rw [← e1, ← e2] at hc3
                  rw [hlp] at hu
                  injection hu with hu
                  rw [← hu] at hc3
                  have hpi : (z : Int) < (L.length : Int) := by omega
                  have hdd : (v' == v') = true := by simp
                  clear hu e1 e2 hlp
                  go_wp2_with fail
                  go_quiet (fail)
                  go_wp2_with fail
                  go_roundw
                  case rel => exact ⟨z + 1, by go_num, by omega, by omega, _, rfl⟩
                  case measure => simp [intOf]; omega
                · have hpt2 : z = t := by omega
                  subst hpt2
                  by_cases htl : z < L.length
                  · have hne : L[z]? ≠ some v' := by
                      have h := HMX.out.2.2.2.2
                      rcases h with h | h
                      · have h' : z = L.length := h
                        omega
                      · exact h
                    obtain ⟨b3, off3, u, hA3, hlb3, hu, hc3⟩ := hILo.at_ (k := z) htl
                    injection hA3 with hA3
                    injection hA3 with e1 e2 _
                    rw [← e1, ← e2] at hc3
                    have huv : (u == v') = false := by
                      simp
                      intro e
                      exact hne (by rw [hu, e])
                    have hpi : (z : Int) < (L.length : Int) := by omega
                    clear hu e1 e2 hne
                    go_wp2_with fail
                    go_quiet (fail)
                    have hOq : ((wo.drewN nn).drewN nq).ownsRow w2.heap.size 38 3 u5 s (sps (T.take s)) := hO
                    have hbq := below_drewN (below_drewN hb4 nn) nq
                    have hcq : ((wo.drewN nn).drewN nq).cell? ⟨b, off + k, none⟩ = some (.int .i64 (y : Int)) := hc
                    have hcq2 : ((wo.drewN nn).drewN nq).cell? ⟨b2, off2 + y, none⟩ = some (.int .i64 v') := hc2
                    clear hO hb4 hc hc2 hILo hs4
                    generalize (wo.drewN nn).drewN nq = wq at *
                    have hsq := hbq.size
                    go_wp2_with (at_builtin; refine wpList_append_own_at _ rfl (.tmp 65) (.tmp 76) 30 rfl w2.heap.size 38 i38 (.agg #[.int .i64 0, .int .i64 0, .int .i64 0]) 3 24 Try.underlying30 hj hy0 hy1 hy2 rfl (by decide) _ _ _ rfl (hOq.alloc _) ⟨wq.heap.size, 0, none⟩ 1 1 [.int .i64 p, .int .i64 z, .int .i64 v'] rfl rfl (cells_new _ _ _) (three_cell _ _ _ rfl rfl rfl) (by unfold maxLen; omega) (by omega) (by simp; omega) ?_; intro vO' w3 hO1 hg1 _ ha1; have hb5 := push_below hbq (Nat.le_refl _) hOq hg1)
                    go_roundw
                    case rel =>
                      have hrl := (rounds_places l).1
                      have hd := congrArg List.length HV'.out
                      rw [List.length_drop, hrl, List.length_cons, List.length_append] at hd
                      have hbl := HBL.out
                      have hvl := HVl.out
                      have hll := HLl.out
                      have hts := congrArg List.length HTS.out
                      rw [List.length_drop, List.length_cons] at hts
                      have hT1 : T[s]? = some (p, z, v') := by
                        have h5 := congrArg (fun (l : List Run3) => l[0]?) HTS.out
                        simp only [List.getElem?_drop, List.getElem?_cons_zero, Nat.add_zero] at h5
                        exact h5
                      refine ⟨k + (z - p), s + 1, ?_, by omega, by omega, ?_, ?_, by unfold Hid; omega, hb5⟩
                      · have e : (k : Int) + ((z : Int) - (p : Int)) = ((k + (z - p) : Nat) : Int) := by omega
                        rw [e]
                      · unfold Hid
                        have e1 : (rounds l).1.drop (k + (z - p)) = V' := by
                          rw [← List.drop_drop, HV'.out, ← hbl, List.drop_succ_cons, List.drop_left]
                        have e2 : T.drop (s + 1) = T2 := by
                          rw [← List.drop_drop, HTS.out]
                          rfl
                        rw [e1, e2]
                        exact HRS.out
                      · rw [take_at hT1, sps_snoc]
                        exact hO1
                    case measure => simp [intOf]; omega
                  · have hgd : decide (z < L.length) = false := decide_eq_false (by omega)
                    go_wp2_with fail
                    go_quiet (fail)
                    have hOq : ((wo.drewN nn).drewN nq).ownsRow w2.heap.size 38 3 u5 s (sps (T.take s)) := hO
                    have hbq := below_drewN (below_drewN hb4 nn) nq
                    have hcq : ((wo.drewN nn).drewN nq).cell? ⟨b, off + k, none⟩ = some (.int .i64 (y : Int)) := hc
                    have hcq2 : ((wo.drewN nn).drewN nq).cell? ⟨b2, off2 + y, none⟩ = some (.int .i64 v') := hc2
                    clear hO hb4 hc hc2 hILo hs4
                    generalize (wo.drewN nn).drewN nq = wq at *
                    have hsq := hbq.size
                    go_wp2_with (at_builtin; refine wpList_append_own_at _ rfl (.tmp 65) (.tmp 76) 30 rfl w2.heap.size 38 i38 (.agg #[.int .i64 0, .int .i64 0, .int .i64 0]) 3 24 Try.underlying30 hj hy0 hy1 hy2 rfl (by decide) _ _ _ rfl (hOq.alloc _) ⟨wq.heap.size, 0, none⟩ 1 1 [.int .i64 p, .int .i64 z, .int .i64 v'] rfl rfl (cells_new _ _ _) (three_cell _ _ _ rfl rfl rfl) (by unfold maxLen; omega) (by omega) (by simp; omega) ?_; intro vO' w3 hO1 hg1 _ ha1; have hb5 := push_below hbq (Nat.le_refl _) hOq hg1)
                    go_roundw
                    case rel =>
                      have hrl := (rounds_places l).1
                      have hd := congrArg List.length HV'.out
                      rw [List.length_drop, hrl, List.length_cons, List.length_append] at hd
                      have hbl := HBL.out
                      have hvl := HVl.out
                      have hll := HLl.out
                      have hts := congrArg List.length HTS.out
                      rw [List.length_drop, List.length_cons] at hts
                      have hT1 : T[s]? = some (p, z, v') := by
                        have h5 := congrArg (fun (l : List Run3) => l[0]?) HTS.out
                        simp only [List.getElem?_drop, List.getElem?_cons_zero, Nat.add_zero] at h5
                        exact h5
                      refine ⟨k + (z - p), s + 1, ?_, by omega, by omega, ?_, ?_, by unfold Hid; omega, hb5⟩
                      · have e : (k : Int) + ((z : Int) - (p : Int)) = ((k + (z - p) : Nat) : Int) := by omega
                        rw [e]
                      · unfold Hid
                        have e1 : (rounds l).1.drop (k + (z - p)) = V' := by
                          rw [← List.drop_drop, HV'.out, ← hbl, List.drop_succ_cons, List.drop_left]
                        have e2 : T.drop (s + 1) = T2 := by
                          rw [← List.drop_drop, HTS.out]
                          rfl
                        rw [e1, e2]
                        exact HRS.out
                      · rw [take_at hT1, sps_snoc]
                        exact hO1
                    case measure => simp [intOf]; omega
            · obtain ⟨p1, hp1e⟩ : ∃ p1, p = p1 + 1 := ⟨p - 1, by omega⟩
              have hne : L[p1]? ≠ some v' := by
                have h := HMX.out.2.2.2.1
                rcases h with h | h
                · exact absurd h hf0
                · have h' : L[p - 1]? ≠ some v' := h
                  rwa [hp1e] at h'
              obtain ⟨b3, off3, u, hA3, hlb3, hu, hc3⟩ := hILo.at_ (k := p1) (by omega)
              injection hA3 with hA3
              injection hA3 with e1 e2 _
              rw [← e1, ← e2] at hc3
              have huv : (u == v') = false := by
                simp
                intro e
                exact hne (by rw [hu, e])
              have hw1 : IntKind.i64.wrap ((p : Int) - 1) = (p1 : Int) := by rw [IntWalk.i64_in _ (by omega)]; omega
              have hpi : (p1 : Int) < (L.length : Int) := by omega
              have hg : 0 < p := by omega
              have HP1 := Lib.hid hp1e
              clear hu e1 e2 hne hp1e hf0
              go_wp2_with fail
              go_quiet (fail)
              clear hw1
              obtain ⟨nn, hnn⟩ : ∃ m, (wo.drewN nn).drewN nq = wo.drewN m := ⟨_, World.drewN_drewN _ _ _⟩
              rw [hnn]
              clear hnn
              go_wp2_with fail
              go_loopw [8] (fun a wr => ∃ z : Nat, a = .int .i64 z ∧ y + 1 ≤ z ∧ z ≤ t ∧ ∃ nn, wr = wo.drewN nn) (fun a _ => L.length - (intOf a).toNat)
              case atStart => exact ⟨y + 1, by go_num, Nat.le_refl _, by omega, _, rfl⟩
              case round =>
                obtain ⟨z, rfl, hp1, hp2, nn, rfl⟩ := hrel
                by_cases hpt : z < t
                · have hlp : L[z]? = some v' := HIN.out z (by omega) hpt
                  obtain ⟨b3, off3, u, hA3, hlb3, hu, hc3⟩ := hILo.at_ (k := z) (by omega)
                  injection hA3 with hA3
                  injection hA3 with e1 e2 _
                  rw [← e1, ← e2] at hc3
                  rw [hlp] at hu
                  injection hu with hu
                  rw [← hu] at hc3
                  have hpi : (z : Int) < (L.length : Int) := by omega
                  have hdd : (v' == v') = true := by simp
                  clear hu e1 e2 hlp
                  go_wp2_with fail
                  go_quiet (fail)
                  go_wp2_with fail
                  go_roundw
                  case rel => exact ⟨z + 1, by go_num, by omega, by omega, _, rfl⟩
                  case measure => simp [intOf]; omega
                · have hpt2 : z = t := by omega
                  subst hpt2
                  by_cases htl : z < L.length
                  · have hne : L[z]? ≠ some v' := by
                      have h := HMX.out.2.2.2.2
                      rcases h with h | h
                      · have h' : z = L.length := h
                        omega
                      · exact h
                    obtain ⟨b3, off3, u, hA3, hlb3, hu, hc3⟩ := hILo.at_ (k := z) htl
                    injection hA3 with hA3
                    injection hA3 with e1 e2 _
                    rw [← e1, ← e2] at hc3
                    have huv : (u == v') = false := by
                      simp
                      intro e
                      exact hne (by rw [hu, e])
                    have hpi : (z : Int) < (L.length : Int) := by omega
                    clear hu e1 e2 hne
                    go_wp2_with fail
                    go_quiet (fail)
                    have hOq : ((wo.drewN nn).drewN nq).ownsRow w2.heap.size 38 3 u5 s (sps (T.take s)) := hO
                    have hbq := below_drewN (below_drewN hb4 nn) nq
                    have hcq : ((wo.drewN nn).drewN nq).cell? ⟨b, off + k, none⟩ = some (.int .i64 (y : Int)) := hc
                    have hcq2 : ((wo.drewN nn).drewN nq).cell? ⟨b2, off2 + y, none⟩ = some (.int .i64 v') := hc2
                    clear hO hb4 hc hc2 hILo hs4
                    generalize (wo.drewN nn).drewN nq = wq at *
                    have hsq := hbq.size
                    go_wp2_with (at_builtin; refine wpList_append_own_at _ rfl (.tmp 65) (.tmp 76) 30 rfl w2.heap.size 38 i38 (.agg #[.int .i64 0, .int .i64 0, .int .i64 0]) 3 24 Try.underlying30 hj hy0 hy1 hy2 rfl (by decide) _ _ _ rfl (hOq.alloc _) ⟨wq.heap.size, 0, none⟩ 1 1 [.int .i64 p, .int .i64 z, .int .i64 v'] rfl rfl (cells_new _ _ _) (three_cell _ _ _ rfl rfl rfl) (by unfold maxLen; omega) (by omega) (by simp; omega) ?_; intro vO' w3 hO1 hg1 _ ha1; have hb5 := push_below hbq (Nat.le_refl _) hOq hg1)
                    go_roundw
                    case rel =>
                      have hrl := (rounds_places l).1
                      have hd := congrArg List.length HV'.out
                      rw [List.length_drop, hrl, List.length_cons, List.length_append] at hd
                      have hbl := HBL.out
                      have hvl := HVl.out
                      have hll := HLl.out
                      have hts := congrArg List.length HTS.out
                      rw [List.length_drop, List.length_cons] at hts
                      have hT1 : T[s]? = some (p, z, v') := by
                        have h5 := congrArg (fun (l : List Run3) => l[0]?) HTS.out
                        simp only [List.getElem?_drop, List.getElem?_cons_zero, Nat.add_zero] at h5
                        exact h5
                      refine ⟨k + (z - p), s + 1, ?_, by omega, by omega, ?_, ?_, by unfold Hid; omega, hb5⟩
                      · have e : (k : Int) + ((z : Int) - (p : Int)) = ((k + (z - p) : Nat) : Int) := by omega
                        rw [e]
                      · unfold Hid
                        have e1 : (rounds l).1.drop (k + (z - p)) = V' := by
                          rw [← List.drop_drop, HV'.out, ← hbl, List.drop_succ_cons, List.drop_left]
                        have e2 : T.drop (s + 1) = T2 := by
                          rw [← List.drop_drop, HTS.out]
                          rfl
                        rw [e1, e2]
                        exact HRS.out
                      · rw [take_at hT1, sps_snoc]
                        exact hO1
                    case measure => simp [intOf]; omega
                  · have hgd : decide (z < L.length) = false := decide_eq_false (by omega)
                    go_wp2_with fail
                    go_quiet (fail)
                    have hOq : ((wo.drewN nn).drewN nq).ownsRow w2.heap.size 38 3 u5 s (sps (T.take s)) := hO
                    have hbq := below_drewN (below_drewN hb4 nn) nq
                    have hcq : ((wo.drewN nn).drewN nq).cell? ⟨b, off + k, none⟩ = some (.int .i64 (y : Int)) := hc
                    have hcq2 : ((wo.drewN nn).drewN nq).cell? ⟨b2, off2 + y, none⟩ = some (.int .i64 v') := hc2
                    clear hO hb4 hc hc2 hILo hs4
                    generalize (wo.drewN nn).drewN nq = wq at *
                    have hsq := hbq.size
                    go_wp2_with (at_builtin; refine wpList_append_own_at _ rfl (.tmp 65) (.tmp 76) 30 rfl w2.heap.size 38 i38 (.agg #[.int .i64 0, .int .i64 0, .int .i64 0]) 3 24 Try.underlying30 hj hy0 hy1 hy2 rfl (by decide) _ _ _ rfl (hOq.alloc _) ⟨wq.heap.size, 0, none⟩ 1 1 [.int .i64 p, .int .i64 z, .int .i64 v'] rfl rfl (cells_new _ _ _) (three_cell _ _ _ rfl rfl rfl) (by unfold maxLen; omega) (by omega) (by simp; omega) ?_; intro vO' w3 hO1 hg1 _ ha1; have hb5 := push_below hbq (Nat.le_refl _) hOq hg1)
                    go_roundw
                    case rel =>
                      have hrl := (rounds_places l).1
                      have hd := congrArg List.length HV'.out
                      rw [List.length_drop, hrl, List.length_cons, List.length_append] at hd
                      have hbl := HBL.out
                      have hvl := HVl.out
                      have hll := HLl.out
                      have hts := congrArg List.length HTS.out
                      rw [List.length_drop, List.length_cons] at hts
                      have hT1 : T[s]? = some (p, z, v') := by
                        have h5 := congrArg (fun (l : List Run3) => l[0]?) HTS.out
                        simp only [List.getElem?_drop, List.getElem?_cons_zero, Nat.add_zero] at h5
                        exact h5
                      refine ⟨k + (z - p), s + 1, ?_, by omega, by omega, ?_, ?_, by unfold Hid; omega, hb5⟩
                      · have e : (k : Int) + ((z : Int) - (p : Int)) = ((k + (z - p) : Nat) : Int) := by omega
                        rw [e]
                      · unfold Hid
                        have e1 : (rounds l).1.drop (k + (z - p)) = V' := by
                          rw [← List.drop_drop, HV'.out, ← hbl, List.drop_succ_cons, List.drop_left]
                        have e2 : T.drop (s + 1) = T2 := by
                          rw [← List.drop_drop, HTS.out]
                          rfl
                        rw [e1, e2]
                        exact HRS.out
                      · rw [take_at hT1, sps_snoc]
                        exact hO1
                    case measure => simp [intOf]; omega
    · have hkV : k = V.length := by omega
      have hTs : T.drop s = [] := by
        have h := HB.out
        rw [List.drop_eq_nil_of_le (by rw [(rounds_places l).1, ← HLl.out, ← HVl.out]; omega)] at h
        cases hT2 : T.drop s with
        | nil => rfl
        | cons r T2 =>
          rw [hT2] at h
          obtain ⟨y, bl, V', hV', _⟩ := h
          cases hV'
      have hsT : s = T.length := by
        have h1 := congrArg List.length hTs
        rw [List.length_drop, List.length_nil] at h1
        have := HS.out
        omega
      have hO2 : wr.ownsRow w2.heap.size 38 3 u5 T.length (sps T) := by
        rw [hsT, List.take_of_length_le (Nat.le_refl _)] at hO
        exact hO
      clear hkV hTs hsT
      go_wp2_with fail
      go_ret
      exact ⟨_, rfl, own_low hO2 (by omega), Below.then_ hb3 hb4⟩
end Go.Proofs.Ytlcijmllffablaa
