/-
  The contract of the program's 'Neutral'. Condition: at most 200 classes.
-/
import Derived.Test.YthlmbmopdjnjaaaPlain
import Derived.Test.YthlmbmopdjnjaaaRow
namespace Go.Proofs.Ythlmbmopdjnjaaa
open Go.RowKit

set_option maxHeartbeats 1000000 in
set_option maxRecDepth 100000 in
theorem neutral_full (b0 off0 c : Nat) (l : List Int) (lv sos eos : Int) (w : World) (hI : Ints w w.heap.size (some ⟨b0, off0, none⟩) l) (hn : l.length ≤ 200) (h0 : 0 < l.length) :
    Calls Try.prog 9 #[.slice (some ⟨b0, off0, none⟩) l.length c, .int .i64 lv, .int .i64 sos, .int .i64 eos] w fun e w' => ∃ v, e = .returned v ∧ w'.ownsRow w.heap.size 3 1 v l.length (ivs (neuL l lv sos eos)) ∧ Below w.heap.size w w' := by
  obtain ⟨i3, hi, hz0, hz1, hz2⟩ := info_parts (show (Try.prog.info? 3).map (fun i => (i.zero, i.size, i.bytes)) = some (some (.int .i64 0), 1, 8) by kernel_rfl)
  have hcells : ∀ j u, (ivs l)[j]? = some u → w.cell? ((⟨b0, off0, none⟩ : Addr).add j) = some u := by
    intro j u hu
    rw [ivs_get] at hu
    cases hx : l[j]? with
    | none => rw [hx] at hu; cases hu
    | some x =>
      rw [hx] at hu
      injection hu with hu
      rw [← hu, Addr.add_lit]
      rcases hI with h | ⟨b, off, hA, _, hc⟩
      · rw [h] at h0; simp at h0
      · injection hA with hA
        injection hA with e1 e2 _
        rw [e1, e2]
        exact hc j x hx
  have HC := Lib.hid hcells
  clear hcells
  go_enter Try.func9, Try.ntmps9
  go_wp2_with (at_builtin; refine wpList_append_own _ rfl _ _ 22 rfl w.heap.size 3 i3 (.int .i64 0) 1 8 Try.underlying22 hi hz0 hz1 hz2 rfl (by decide) (.slice none 0 0) 0 [] rfl (World.ownsRow_nil _ _ _ _) ⟨b0, off0, none⟩ l.length c (ivs l) rfl (by simp) HC.out (ivs_one l) (by unfold maxLen; omega) (by omega) (Nat.le_refl _) ?_; intro v w1 hown hgrow _)
  have hb1 : Below w.heap.size w w1 := (Below.refl _ _).grown hgrow (Nat.le_refl _) (by intro k hk; cases hk)
  rw [Nat.zero_add, List.nil_append] at hown
  obtain ⟨g, cap, hv, hR⟩ := own_row hown h0
  subst hv
  obtain ⟨N, hN⟩ : ∃ N, N = neuL l lv sos eos := ⟨_, rfl⟩
  have HNN := Lib.hid hN
  obtain ⟨a1, ha1⟩ : ∃ x, en sos = x := ⟨_, rfl⟩
  obtain ⟨b1, hb1'⟩ : ∃ x, en eos = x := ⟨_, rfl⟩
  obtain ⟨em, hem⟩ : ∃ x, emb lv = x := ⟨_, rfl⟩
  have HSA := Lib.hid ha1
  have HSB := Lib.hid hb1'
  have HEM := Lib.hid hem
  clear hown hgrow hN ha1 hb1' hem hi hz0 hz1 hz2 HC
  go_wp2_with fail
  go_loopw [10] (fun a wr => ∃ (i : Nat) (C : List Int), a = .int .i64 i ∧ i ≤ l.length ∧ Hid (Done l lv sos eos C i) ∧ Hid (Bnd l i) ∧ Row wr w.heap.size g l.length cap C ∧ Below w.heap.size w wr) (fun a _ => l.length - (intOf a).toNat)
  case atStart => exact ⟨0, l, rfl, Nat.zero_le _, done_start l lv sos eos, .inl rfl, hR, hb1⟩
  case round =>
    obtain ⟨i, C, rfl, hil, HD, HB, hRr, hb⟩ := hrel
    clear hR hb1
    by_cases hlt : i < l.length
    · obtain ⟨x, hx, hcx, hfx⟩ := hRr.at_ hlt
      have hlx : l[i]? = some x := by rw [← done_get HD.out hil]; exact hx
      have HLX := Lib.hid hlx
      clear hx hlx
      cases hnx : neu x with
      | false =>
        have HNX := Lib.hid hnx
        clear hnx
        go_wp2_with (go_at_call 16; refine (neu_calls _ _ HNX _).mono ?_; rintro e w' ⟨rfl, rfl⟩)
        go_roundw
        case rel => exact ⟨i + 1, C, by go_num, by omega, done_keep HD.out HLX.out HNX.out, .inr (.inl (by intro y hy; rw [Nat.add_sub_cancel, HLX.out] at hy; injection hy with hy; rw [← hy]; exact HNX.out)), hRr, hb⟩
        case measure => simp [intOf]; omega
      | true =>
        have HNX := Lib.hid hnx
        clear hnx
        have hIr := hI.below hb
        go_wp2_with (go_at_call 16; refine (neu_calls _ _ HNX _).mono ?_; rintro e w' ⟨rfl, rfl⟩)
        go_loop [11] (fun a => ∃ t : Nat, a = .int .i64 t ∧ i ≤ t ∧ t ≤ l.length ∧ Hid (AllN l i t)) (fun a => l.length - (intOf a).toNat)
        case atStart => exact ⟨i, rfl, Nat.le_refl _, hil, by intro j y h1 h2; omega⟩
        case round =>
          obtain ⟨t, rfl, hit, htl, HA⟩ := hrel
          by_cases htn : t < l.length
          · obtain ⟨b, off, y, hA, hlb, hy, hcy⟩ := hIr.at_ htn
            injection hA with hA
            injection hA with e1 e2 _
            rw [← e1, ← e2] at hcy
            have HY := Lib.hid hy
            clear hy e1 e2
            cases hny : neu y with
            | true =>
              have HNY := Lib.hid hny
              clear hny
              go_wp2_with (go_at_call 16; refine (neu_calls _ _ HNY _).mono ?_; rintro e w' ⟨rfl, rfl⟩)
              go_round
              case rel => exact ⟨t + 1, by go_num, by omega, by omega, all_step HA.out HY.out HNY.out⟩
              case measure => simp [intOf]; omega
            | false =>
              have HNY := Lib.hid hny
              clear hny
              have hit2 : i < t := by
                rcases Nat.lt_or_ge i t with h | h
                · exact h
                · have e : i = t := by omega
                  have h1 := HLX.out
                  rw [e, HY.out] at h1
                  injection h1 with h1
                  have h2 := HNX.out
                  rw [← h1, HNY.out] at h2
                  cases h2
              obtain ⟨wb, hwb⟩ : ∃ z, wy y = z := ⟨_, rfl⟩
              have HWB := Lib.hid hwb
              have HNB : Hid (nextW (en eos) (l.drop t) = wb) := by rw [← hwb]; exact next_stop HY.out HNY.out
              clear hwb
              have HBT : Hid (Bnd l t) := .inr (.inr (by intro q hq; rw [HY.out] at hq; injection hq with hq; rw [← hq]; exact HNY.out))
              by_cases hi0 : i = 0
              · have HPA : Hid (prevW l (en sos) i = a1) := by subst hi0; exact HSA.out
                have hgi : ¬ 0 < i := by omega
                have HI0 := Lib.hid hi0
                clear hi0
                by_cases hab : a1 = wb
                · have hd : (a1 == wb) = true := by simpa using hab
                  have HMX : Hid (mix lv a1 wb = a1) := by unfold Hid mix; rw [if_pos hab]
                  have HAB := Lib.hid hab
                  clear hab
                  go_wp2_with (go_at_call 16; refine (neu_calls _ _ HNY _).mono ?_; rintro e w' ⟨rfl, rfl⟩)
                  refine (end_calls sos a1 HSA _).mono ?_
                  rintro e w' ⟨rfl, rfl⟩
                  go_wp2_with fail
                  refine (end_calls eos b1 HSB _).mono ?_
                  rintro e w' ⟨rfl, rfl⟩
                  go_wp2_with fail
                  refine (way_calls y wb HWB _).mono ?_
                  rintro e w' ⟨rfl, rfl⟩
                  go_wp2_with fail
                  refine (embed_calls lv em HEM _).mono ?_
                  rintro e w' ⟨rfl, rfl⟩
                  go_wp2_with fail
                  go_loopw [10] (fun a wr => ∃ (j : Nat) (C : List Int), a = .int .i64 j ∧ i ≤ j ∧ j ≤ t ∧ Hid (Done l lv sos eos C j) ∧ Row wr w.heap.size g l.length cap C ∧ Below w.heap.size w wr) (fun a _ => t - (intOf a).toNat)
                  case atStart => exact ⟨i, C, rfl, Nat.le_refl _, hit, HD, hRr, hb⟩
                  case round =>
                    obtain ⟨j, C2, rfl, hij, hjt, HD2, hR2, hb2⟩ := hrel
                    by_cases hj : j < t
                    · obtain ⟨old, _, hco, hfo⟩ := hR2.at_ (k := j) (by omega)
                      have hds := done_step HD2.out (by omega)
                      rw [val_run HA.out htl j hij hj, HPA.out, HNB.out, HMX.out] at hds
                      have HDS := Lib.hid hds
                      have hRs := hR2.set_ j a1
                      have hbs := hb2.setCell (p := ⟨g, j, none⟩) hR2.ge (.int .i64 a1)
                      have hjl : j < l.length := by omega
                      clear hds
                      go_wp2_with fail
                      go_roundw
                      case rel => exact ⟨j + 1, _, by go_num, by omega, by omega, HDS, hRs, hbs⟩
                      case measure => simp [intOf]; omega
                    · have hjt2 : j = t := by omega
                      subst hjt2
                      go_wp2_with fail
                      go_roundw
                      case rel => exact ⟨j, C2, rfl, htl, HD2, HBT, hR2, hb2⟩
                      case measure => simp [intOf]; omega
                · have hd : (a1 == wb) = false := by simpa using hab
                  have HMX : Hid (mix lv a1 wb = em) := by unfold Hid mix; rw [if_neg hab]; exact HEM.out
                  have HAB := Lib.hid hab
                  clear hab
                  go_wp2_with (go_at_call 16; refine (neu_calls _ _ HNY _).mono ?_; rintro e w' ⟨rfl, rfl⟩)
                  refine (end_calls sos a1 HSA _).mono ?_
                  rintro e w' ⟨rfl, rfl⟩
                  go_wp2_with fail
                  refine (end_calls eos b1 HSB _).mono ?_
                  rintro e w' ⟨rfl, rfl⟩
                  go_wp2_with fail
                  refine (way_calls y wb HWB _).mono ?_
                  rintro e w' ⟨rfl, rfl⟩
                  go_wp2_with fail
                  refine (embed_calls lv em HEM _).mono ?_
                  rintro e w' ⟨rfl, rfl⟩
                  go_wp2_with fail
                  go_loopw [10] (fun a wr => ∃ (j : Nat) (C : List Int), a = .int .i64 j ∧ i ≤ j ∧ j ≤ t ∧ Hid (Done l lv sos eos C j) ∧ Row wr w.heap.size g l.length cap C ∧ Below w.heap.size w wr) (fun a _ => t - (intOf a).toNat)
                  case atStart => exact ⟨i, C, rfl, Nat.le_refl _, hit, HD, hRr, hb⟩
                  case round =>
                    obtain ⟨j, C2, rfl, hij, hjt, HD2, hR2, hb2⟩ := hrel
                    by_cases hj : j < t
                    · obtain ⟨old, _, hco, hfo⟩ := hR2.at_ (k := j) (by omega)
                      have hds := done_step HD2.out (by omega)
                      rw [val_run HA.out htl j hij hj, HPA.out, HNB.out, HMX.out] at hds
                      have HDS := Lib.hid hds
                      have hRs := hR2.set_ j em
                      have hbs := hb2.setCell (p := ⟨g, j, none⟩) hR2.ge (.int .i64 em)
                      have hjl : j < l.length := by omega
                      clear hds
                      go_wp2_with fail
                      go_roundw
                      case rel => exact ⟨j + 1, _, by go_num, by omega, by omega, HDS, hRs, hbs⟩
                      case measure => simp [intOf]; omega
                    · have hjt2 : j = t := by omega
                      subst hjt2
                      go_wp2_with fail
                      go_roundw
                      case rel => exact ⟨j, C2, rfl, htl, HD2, HBT, hR2, hb2⟩
                      case measure => simp [intOf]; omega
              · have hgi : 0 < i := by omega
                obtain ⟨b2, off2, z, hA2, hlb2, hz, hcz⟩ := hIr.at_ (k := i - 1) (by omega)
                injection hA2 with hA2
                injection hA2 with e1 e2 _
                rw [← e1, ← e2] at hcz
                have hnz : neu z = false := by
                  rcases HB.out with h | h | h
                  · exact absurd h hi0
                  · exact h z hz
                  · have h2 := h x HLX.out
                    rw [HNX.out] at h2
                    cases h2
                obtain ⟨wa, hwa⟩ : ∃ q, wy z = q := ⟨_, rfl⟩
                have HWA := Lib.hid hwa
                have HPA : Hid (prevW l (en sos) i = wa) := by
                  have h := prev_at (s := en sos) hz hnz
                  rw [show i - 1 + 1 = i from by omega] at h
                  unfold Hid
                  rw [h, hwa]
                clear e1 e2 hz hnz hwa hi0
                by_cases hab : wa = wb
                · have hd : (wa == wb) = true := by simpa using hab
                  have HMX : Hid (mix lv wa wb = wa) := by unfold Hid mix; rw [if_pos hab]
                  have HAB := Lib.hid hab
                  clear hab
                  go_wp2_with (go_at_call 16; refine (neu_calls _ _ HNY _).mono ?_; rintro e w' ⟨rfl, rfl⟩)
                  refine (end_calls sos a1 HSA _).mono ?_
                  rintro e w' ⟨rfl, rfl⟩
                  go_wp2_with fail
                  refine (end_calls eos b1 HSB _).mono ?_
                  rintro e w' ⟨rfl, rfl⟩
                  go_wp2_with fail
                  refine (way_calls _ wa HWA _).mono ?_
                  rintro e w' ⟨rfl, rfl⟩
                  go_wp2_with fail
                  refine (way_calls y wb HWB _).mono ?_
                  rintro e w' ⟨rfl, rfl⟩
                  go_wp2_with fail
                  refine (embed_calls lv em HEM _).mono ?_
                  rintro e w' ⟨rfl, rfl⟩
                  go_wp2_with fail
                  go_loopw [10] (fun a wr => ∃ (j : Nat) (C : List Int), a = .int .i64 j ∧ i ≤ j ∧ j ≤ t ∧ Hid (Done l lv sos eos C j) ∧ Row wr w.heap.size g l.length cap C ∧ Below w.heap.size w wr) (fun a _ => t - (intOf a).toNat)
                  case atStart => exact ⟨i, C, rfl, Nat.le_refl _, hit, HD, hRr, hb⟩
                  case round =>
                    obtain ⟨j, C2, rfl, hij, hjt, HD2, hR2, hb2⟩ := hrel
                    by_cases hj : j < t
                    · obtain ⟨old, _, hco, hfo⟩ := hR2.at_ (k := j) (by omega)
                      have hds := done_step HD2.out (by omega)
                      rw [val_run HA.out htl j hij hj, HPA.out, HNB.out, HMX.out] at hds
                      have HDS := Lib.hid hds
                      have hRs := hR2.set_ j wa
                      have hbs := hb2.setCell (p := ⟨g, j, none⟩) hR2.ge (.int .i64 wa)
                      have hjl : j < l.length := by omega
                      clear hds
                      go_wp2_with fail
                      go_roundw
                      case rel => exact ⟨j + 1, _, by go_num, by omega, by omega, HDS, hRs, hbs⟩
                      case measure => simp [intOf]; omega
                    · have hjt2 : j = t := by omega
                      subst hjt2
                      go_wp2_with fail
                      go_roundw
                      case rel => exact ⟨j, C2, rfl, htl, HD2, HBT, hR2, hb2⟩
                      case measure => simp [intOf]; omega
                · have hd : (wa == wb) = false := by simpa using hab
                  have HMX : Hid (mix lv wa wb = em) := by unfold Hid mix; rw [if_neg hab]; exact HEM.out
                  have HAB := Lib.hid hab
                  clear hab
                  go_wp2_with (go_at_call 16; refine (neu_calls _ _ HNY _).mono ?_; rintro e w' ⟨rfl, rfl⟩)
                  refine (end_calls sos a1 HSA _).mono ?_
                  rintro e w' ⟨rfl, rfl⟩
                  go_wp2_with fail
                  refine (end_calls eos b1 HSB _).mono ?_
                  rintro e w' ⟨rfl, rfl⟩
                  go_wp2_with fail
                  refine (way_calls _ wa HWA _).mono ?_
                  rintro e w' ⟨rfl, rfl⟩
                  go_wp2_with fail
                  refine (way_calls y wb HWB _).mono ?_
                  rintro e w' ⟨rfl, rfl⟩
                  go_wp2_with fail
                  refine (embed_calls lv em HEM _).mono ?_
                  rintro e w' ⟨rfl, rfl⟩
                  go_wp2_with fail
                  go_loopw [10] (fun a wr => ∃ (j : Nat) (C : List Int), a = .int .i64 j ∧ i ≤ j ∧ j ≤ t ∧ Hid (Done l lv sos eos C j) ∧ Row wr w.heap.size g l.length cap C ∧ Below w.heap.size w wr) (fun a _ => t - (intOf a).toNat)
                  case atStart => exact ⟨i, C, rfl, Nat.le_refl _, hit, HD, hRr, hb⟩
                  case round =>
                    obtain ⟨j, C2, rfl, hij, hjt, HD2, hR2, hb2⟩ := hrel
                    by_cases hj : j < t
                    · obtain ⟨old, _, hco, hfo⟩ := hR2.at_ (k := j) (by omega)
                      have hds := done_step HD2.out (by omega)
                      rw [val_run HA.out htl j hij hj, HPA.out, HNB.out, HMX.out] at hds
                      have HDS := Lib.hid hds
                      have hRs := hR2.set_ j em
                      have hbs := hb2.setCell (p := ⟨g, j, none⟩) hR2.ge (.int .i64 em)
                      have hjl : j < l.length := by omega
                      clear hds
                      go_wp2_with fail
                      go_roundw
                      case rel => exact ⟨j + 1, _, by go_num, by omega, by omega, HDS, hRs, hbs⟩
                      case measure => simp [intOf]; omega
                    · have hjt2 : j = t := by omega
                      subst hjt2
                      go_wp2_with fail
                      go_roundw
                      case rel => exact ⟨j, C2, rfl, htl, HD2, HBT, hR2, hb2⟩
                      case measure => simp [intOf]; omega
          · have hit2 : i < t := by omega
            have htl2 : ¬ t < l.length := htn
            have HNB : Hid (nextW (en eos) (l.drop t) = b1) := by rw [← HSB.out]; exact next_end (by omega)
            have HBT : Hid (Bnd l t) := .inr (.inr (by intro q hq; rw [List.getElem?_eq_none (by omega)] at hq; cases hq))
            by_cases hi0 : i = 0
            · have HPA : Hid (prevW l (en sos) i = a1) := by subst hi0; exact HSA.out
              have hgi : ¬ 0 < i := by omega
              have HI0 := Lib.hid hi0
              clear hi0
              by_cases hab : a1 = b1
              · have hd : (a1 == b1) = true := by simpa using hab
                have HMX : Hid (mix lv a1 b1 = a1) := by unfold Hid mix; rw [if_pos hab]
                have HAB := Lib.hid hab
                clear hab
                go_wp2_with fail
                refine (end_calls sos a1 HSA _).mono ?_
                rintro e w' ⟨rfl, rfl⟩
                go_wp2_with fail
                refine (end_calls eos b1 HSB _).mono ?_
                rintro e w' ⟨rfl, rfl⟩
                go_wp2_with fail
                refine (embed_calls lv em HEM _).mono ?_
                rintro e w' ⟨rfl, rfl⟩
                go_wp2_with fail
                go_loopw [10] (fun a wr => ∃ (j : Nat) (C : List Int), a = .int .i64 j ∧ i ≤ j ∧ j ≤ t ∧ Hid (Done l lv sos eos C j) ∧ Row wr w.heap.size g l.length cap C ∧ Below w.heap.size w wr) (fun a _ => t - (intOf a).toNat)
                case atStart => exact ⟨i, C, rfl, Nat.le_refl _, hit, HD, hRr, hb⟩
                case round =>
                  obtain ⟨j, C2, rfl, hij, hjt, HD2, hR2, hb2⟩ := hrel
                  by_cases hj : j < t
                  · obtain ⟨old, _, hco, hfo⟩ := hR2.at_ (k := j) (by omega)
                    have hds := done_step HD2.out (by omega)
                    rw [val_run HA.out htl j hij hj, HPA.out, HNB.out, HMX.out] at hds
                    have HDS := Lib.hid hds
                    have hRs := hR2.set_ j a1
                    have hbs := hb2.setCell (p := ⟨g, j, none⟩) hR2.ge (.int .i64 a1)
                    have hjl : j < l.length := by omega
                    clear hds
                    go_wp2_with fail
                    go_roundw
                    case rel => exact ⟨j + 1, _, by go_num, by omega, by omega, HDS, hRs, hbs⟩
                    case measure => simp [intOf]; omega
                  · have hjt2 : j = t := by omega
                    subst hjt2
                    go_wp2_with fail
                    go_roundw
                    case rel => exact ⟨j, C2, rfl, htl, HD2, HBT, hR2, hb2⟩
                    case measure => simp [intOf]; omega
              · have hd : (a1 == b1) = false := by simpa using hab
                have HMX : Hid (mix lv a1 b1 = em) := by unfold Hid mix; rw [if_neg hab]; exact HEM.out
                have HAB := Lib.hid hab
                clear hab
                go_wp2_with fail
                refine (end_calls sos a1 HSA _).mono ?_
                rintro e w' ⟨rfl, rfl⟩
                go_wp2_with fail
                refine (end_calls eos b1 HSB _).mono ?_
                rintro e w' ⟨rfl, rfl⟩
                go_wp2_with fail
                refine (embed_calls lv em HEM _).mono ?_
                rintro e w' ⟨rfl, rfl⟩
                go_wp2_with fail
                go_loopw [10] (fun a wr => ∃ (j : Nat) (C : List Int), a = .int .i64 j ∧ i ≤ j ∧ j ≤ t ∧ Hid (Done l lv sos eos C j) ∧ Row wr w.heap.size g l.length cap C ∧ Below w.heap.size w wr) (fun a _ => t - (intOf a).toNat)
                case atStart => exact ⟨i, C, rfl, Nat.le_refl _, hit, HD, hRr, hb⟩
                case round =>
                  obtain ⟨j, C2, rfl, hij, hjt, HD2, hR2, hb2⟩ := hrel
                  by_cases hj : j < t
                  · obtain ⟨old, _, hco, hfo⟩ := hR2.at_ (k := j) (by omega)
                    have hds := done_step HD2.out (by omega)
                    rw [val_run HA.out htl j hij hj, HPA.out, HNB.out, HMX.out] at hds
                    have HDS := Lib.hid hds
                    have hRs := hR2.set_ j em
                    have hbs := hb2.setCell (p := ⟨g, j, none⟩) hR2.ge (.int .i64 em)
                    have hjl : j < l.length := by omega
                    clear hds
                    go_wp2_with fail
                    go_roundw
                    case rel => exact ⟨j + 1, _, by go_num, by omega, by omega, HDS, hRs, hbs⟩
                    case measure => simp [intOf]; omega
                  · have hjt2 : j = t := by omega
                    subst hjt2
                    go_wp2_with fail
                    go_roundw
                    case rel => exact ⟨j, C2, rfl, htl, HD2, HBT, hR2, hb2⟩
                    case measure => simp [intOf]; omega
            · have hgi : 0 < i := by omega
              obtain ⟨b2, off2, z, hA2, hlb2, hz, hcz⟩ := hIr.at_ (k := i - 1) (by omega)
              injection hA2 with hA2
              injection hA2 with e1 e2 _
              rw [← e1, ← e2] at hcz
              have hnz : neu z = false := by
                rcases HB.out with h | h | h
                · exact absurd h hi0
                · exact h z hz
                · have h2 := h x HLX.out
                  rw [HNX.out] at h2
                  cases h2
              obtain ⟨wa, hwa⟩ : ∃ q, wy z = q := ⟨_, rfl⟩
              have HWA := Lib.hid hwa
              have HPA : Hid (prevW l (en sos) i = wa) := by
                have h := prev_at (s := en sos) hz hnz
                rw [show i - 1 + 1 = i from by omega] at h
                unfold Hid
                rw [h, hwa]
              clear e1 e2 hz hnz hwa hi0
              by_cases hab : wa = b1
              · have hd : (wa == b1) = true := by simpa using hab
                have HMX : Hid (mix lv wa b1 = wa) := by unfold Hid mix; rw [if_pos hab]
                have HAB := Lib.hid hab
                clear hab
                go_wp2_with fail
                refine (end_calls sos a1 HSA _).mono ?_
                rintro e w' ⟨rfl, rfl⟩
                go_wp2_with fail
                refine (end_calls eos b1 HSB _).mono ?_
                rintro e w' ⟨rfl, rfl⟩
                go_wp2_with fail
                refine (way_calls _ wa HWA _).mono ?_
                rintro e w' ⟨rfl, rfl⟩
                go_wp2_with fail
                refine (embed_calls lv em HEM _).mono ?_
                rintro e w' ⟨rfl, rfl⟩
                go_wp2_with fail
                go_loopw [10] (fun a wr => ∃ (j : Nat) (C : List Int), a = .int .i64 j ∧ i ≤ j ∧ j ≤ t ∧ Hid (Done l lv sos eos C j) ∧ Row wr w.heap.size g l.length cap C ∧ Below w.heap.size w wr) (fun a _ => t - (intOf a).toNat)
                case atStart => exact ⟨i, C, rfl, Nat.le_refl _, hit, HD, hRr, hb⟩
                case round =>
                  obtain ⟨j, C2, rfl, hij, hjt, HD2, hR2, hb2⟩ := hrel
                  by_cases hj : j < t
                  · obtain ⟨old, _, hco, hfo⟩ := hR2.at_ (k := j) (by omega)
                    have hds := done_step HD2.out (by omega)
                    rw [val_run HA.out htl j hij hj, HPA.out, HNB.out, HMX.out] at hds
                    have HDS := Lib.hid hds
                    have hRs := hR2.set_ j wa
                    have hbs := hb2.setCell (p := ⟨g, j, none⟩) hR2.ge (.int .i64 wa)
                    have hjl : j < l.length := by omega
                    clear hds
                    go_wp2_with fail
                    go_roundw
                    case rel => exact ⟨j + 1, _, by go_num, by omega, by omega, HDS, hRs, hbs⟩
                    case measure => simp [intOf]; omega
                  · have hjt2 : j = t := by omega
                    subst hjt2
                    go_wp2_with fail
                    go_roundw
                    case rel => exact ⟨j, C2, rfl, htl, HD2, HBT, hR2, hb2⟩
                    case measure => simp [intOf]; omega
              · have hd : (wa == b1) = false := by simpa using hab
                have HMX : Hid (mix lv wa b1 = em) := by unfold Hid mix; rw [if_neg hab]; exact HEM.out
                have HAB := Lib.hid hab
                clear hab
                go_wp2_with fail
                refine (end_calls sos a1 HSA _).mono ?_
                rintro e w' ⟨rfl, rfl⟩
                go_wp2_with fail
                refine (end_calls eos b1 HSB _).mono ?_
                rintro e w' ⟨rfl, rfl⟩
                go_wp2_with fail
                refine (way_calls _ wa HWA _).mono ?_
                rintro e w' ⟨rfl, rfl⟩
                go_wp2_with fail
                refine (embed_calls lv em HEM _).mono ?_
                rintro e w' ⟨rfl, rfl⟩
                go_wp2_with fail
                go_loopw [10] (fun a wr => ∃ (j : Nat) (C : List Int), a = .int .i64 j ∧ i ≤ j ∧ j ≤ t ∧ Hid (Done l lv sos eos C j) ∧ Row wr w.heap.size g l.length cap C ∧ Below w.heap.size w wr) (fun a _ => t - (intOf a).toNat)
                case atStart => exact ⟨i, C, rfl, Nat.le_refl _, hit, HD, hRr, hb⟩
                case round =>
                  obtain ⟨j, C2, rfl, hij, hjt, HD2, hR2, hb2⟩ := hrel
                  by_cases hj : j < t
                  · obtain ⟨old, _, hco, hfo⟩ := hR2.at_ (k := j) (by omega)
                    have hds := done_step HD2.out (by omega)
                    rw [val_run HA.out htl j hij hj, HPA.out, HNB.out, HMX.out] at hds
                    have HDS := Lib.hid hds
                    have hRs := hR2.set_ j em
                    have hbs := hb2.setCell (p := ⟨g, j, none⟩) hR2.ge (.int .i64 em)
                    have hjl : j < l.length := by omega
                    clear hds
                    go_wp2_with fail
                    go_roundw
                    case rel => exact ⟨j + 1, _, by go_num, by omega, by omega, HDS, hRs, hbs⟩
                    case measure => simp [intOf]; omega
                  · have hjt2 : j = t := by omega
                    subst hjt2
                    go_wp2_with fail
                    go_roundw
                    case rel => exact ⟨j, C2, rfl, htl, HD2, HBT, hR2, hb2⟩
                    case measure => simp [intOf]; omega
    · have hil2 : i = l.length := by omega
      have hD := HD.out
      rw [hil2] at hD
      rw [done_end hD] at hRr
      clear hD hil2
      go_wp2_with fail
      go_ret
      exact ⟨_, rfl, hRr, hb⟩
end Go.Proofs.Ythlmbmopdjnjaaa
