/-
  The contract of the reference's 'Neutral'. Condition: at most 200 classes.
-/
import Derived.Test.YthlmbmopdjnjaaaPlain
import Derived.Test.YthlmbmopdjnjaaaRow
namespace Go.Proofs.Ythlmbmopdjnjaaa
open Go.RowKit

/-- the first i places are filled as they should be -/
def Filled (N C : List Int) (i : Nat) : Prop := C.length = N.length ∧ ∀ j, j < i → C[j]? = N[j]?
theorem filled_step {l C : List Int} {lv sos eos x : Int} {i : Nat} (h : Filled (neuL l lv sos eos) C i) (hi : i < l.length) (hx : valAt l lv sos eos i = x) : Filled (neuL l lv sos eos) (C.set i x) (i + 1) := by
  obtain ⟨h1, h2⟩ := h
  refine ⟨by simpa using h1, fun j hj => ?_⟩
  by_cases e : j = i
  · subst e
    rw [neuL_length] at h1
    rw [List.getElem?_set_self (by omega), neuL_get _ _ _ _ _ hi, hx]
  · rw [List.getElem?_set_ne (by omega)]
    exact h2 j (by omega)
theorem filled_again {N C : List Int} {i : Nat} {x : Int} (h : Filled N C i) : Filled N (C.set i x) i :=
  ⟨by simpa using h.1, fun j hj => by rw [List.getElem?_set_ne (by omega)]; exact h.2 j hj⟩
theorem filled_end {N C : List Int} (h : Filled N C N.length) : C = N := by
  apply List.ext_getElem?
  intro j
  by_cases hj : j < N.length
  · exact h.2 j hj
  · rw [List.getElem?_eq_none (by rw [h.1]; omega), List.getElem?_eq_none (by omega)]

set_option maxHeartbeats 1000000 in
set_option maxRecDepth 100000 in
theorem refNeutral_calls (A : Option Addr) (c : Nat) (l : List Int) (lv sos eos : Int) (w : World) (hI : Ints w w.heap.size A l) (hn : l.length ≤ 200) :
    Calls Try.prog 10 #[.slice A l.length c, .int .i64 lv, .int .i64 sos, .int .i64 eos] w fun e w' => ∃ v, e = .returned v ∧ w'.ownsRow w.heap.size 3 1 v l.length (ivs (neuL l lv sos eos)) ∧ Below w.heap.size w w' := by
  obtain ⟨i3, hi, hz0, hz1, hz2⟩ := info_parts (show (Try.prog.info? 3).map (fun i => (i.zero, i.size, i.bytes)) = some (some (.int .i64 0), 1, 8) by kernel_rfl)
  obtain ⟨g, hg⟩ : ∃ g, g = w.heap.size := ⟨_, rfl⟩
  obtain ⟨a1, ha1⟩ : ∃ x, en sos = x := ⟨_, rfl⟩
  obtain ⟨b1, hb1'⟩ : ∃ x, en eos = x := ⟨_, rfl⟩
  obtain ⟨em, hem⟩ : ∃ x, emb lv = x := ⟨_, rfl⟩
  have HSA := Lib.hid ha1
  have HSB := Lib.hid hb1'
  have HEM := Lib.hid hem
  clear ha1 hb1' hem
  go_enter Try.func10, Try.ntmps10
  go_wp2_with (at_make; refine wpList_make_full _ rfl _ _ _ rfl w.heap.size 3 i3 (.int .i64 0) 1 Try.underlying22 hi hz0 hz1 .i64 .i64 l.length l.length l.length rfl rfl rfl rfl (by rw [hz2]; omega) (by unfold maxLen; omega) (Nat.le_refl _) ?_; intro w1 hown hgrow)
  have hb1 : Below w.heap.size w w1 := (Below.refl _ _).grown hgrow (Nat.le_refl _) (by intro k hk; cases hk)
  have hblk := own_blk hown
  rw [zeros_int] at hblk
  rw [← hg] at hblk ⊢
  have hwg : w.heap.size ≤ g := by omega
  have HG := Lib.hid hg
  clear hown hgrow hi hz0 hz1 hz2 hg
  go_loopw [10] (fun a wr => ∃ (i : Nat) (C : List Int), a = .int .i64 i ∧ i ≤ l.length ∧ Blk wr g 3 (ivs C) ∧ Hid (Filled (neuL l lv sos eos) C i) ∧ Below w.heap.size w wr) (fun a _ => l.length - (intOf a).toNat)
  case atStart => exact ⟨0, _, rfl, Nat.zero_le _, hblk, ⟨by rw [neuL_length]; simp, by intro j hj; omega⟩, hb1⟩
  case round =>
    obtain ⟨i, C, rfl, hil, hC, HF, hb⟩ := hrel
    clear hblk hb1
    by_cases hlt : i < l.length
    · obtain ⟨b, off, x, rfl, hlb, hx, hc⟩ := (hI.below hb).at_ hlt
      obtain ⟨old, hold⟩ : ∃ old, C[i]? = some old := ⟨_, List.getElem?_eq_getElem (by rw [HF.out.1, neuL_length]; exact hlt)⟩
      have hcell : wr.cell? ⟨g, i, none⟩ = some (.int .i64 old) := by rw [hC.cell, ivs_get, hold]; rfl
      have hfz : wr.frozen? ⟨g, i, none⟩ = false := hC.frozen i
      have hCq := hC.set_ i (.int .i64 x)
      rw [ivs_set] at hCq
      have hbq := hb.setCell (p := ⟨g, i, none⟩) hwg (.int .i64 x)
      have hIq := hI.below hbq
      have hcx : (wr.setCell ⟨g, i, none⟩ (.int .i64 x)).cell? ⟨b, off + i, none⟩ = some (.int .i64 x) := by
        rw [World.cell?_setCell_other _ _ _ _ (by intro e; injection e with e _; omega)]; exact hc
      have hcq : (wr.setCell ⟨g, i, none⟩ (.int .i64 x)).cell? ⟨g, i, none⟩ = some (.int .i64 x) := World.cell?_setCell_same _ _ _ hcell
      have HFq := Lib.hid (filled_again (x := x) HF.out)
      have HLX := Lib.hid hx
      clear hx hold
      cases hnx : neu x with
      | false =>
        have HNX := Lib.hid hnx
        have HF2 := Lib.hid (filled_step (x := x) HF.out hlt (val_strong lv sos eos HLX.out hnx))
        clear hnx
        go_wp2_with (go_at_call 13; refine (neu1_calls _ _ HNX _).mono ?_; rintro e w' ⟨rfl, rfl⟩)
        go_roundw
        case rel => exact ⟨i + 1, _, by go_num, by omega, hCq, HF2, hbq⟩
        case measure => simp [intOf]; omega
      | true =>
        have HNX := Lib.hid hnx
        clear hnx
        go_wp2_with fail
        generalize wr.setCell ⟨g, i, none⟩ (.int .i64 x) = wq at *
        clear hcell hfz hc hC HF hb
        generalize C.set i x = Cq at *
        refine (neu1_calls _ _ HNX _).mono ?_
        rintro e w' ⟨rfl, rfl⟩
        go_wp2_with fail
        refine (edge_calls sos a1 HSA _).mono ?_
        rintro e w' ⟨rfl, rfl⟩
        go_wp2_with fail
        refine (edge_calls eos b1 HSB _).mono ?_
        rintro e w' ⟨rfl, rfl⟩
        go_wp2_with fail
        go_loop [11, 13] (fun b a => ∃ (m : Nat) (kk : Int), a = .int .i64 kk ∧ Hid (kk = (m : Int) - 1) ∧ b = .int .i64 a1 ∧ m ≤ i ∧ Hid (prevW l (en sos) m = prevW l (en sos) i)) (fun _ a => (intOf a + 1).toNat)
        case atStart => exact ⟨i, (i : Int) - 1, by go_num, rfl, rfl, Nat.le_refl _, rfl⟩
        case round =>
          obtain ⟨m, kk, rfl, HK, rfl, hmi, HP⟩ := hrel
          by_cases hm0 : 0 < m
          · obtain ⟨k, hk⟩ : ∃ k : Nat, m = k + 1 := ⟨m - 1, by omega⟩
            have hkk : kk = (k : Int) := by have := HK.out; omega
            subst hkk
            subst hk
            obtain ⟨b2, off2, z, hA2, hlb2, hz, hcz⟩ := hIq.at_ (k := k) (by omega)
            injection hA2 with hA2
            injection hA2 with e1 e2 _
            rw [← e1, ← e2] at hcz
            have hkl : k < l.length := by omega
            cases hnz : neu z with
            | true =>
              have HNZ := Lib.hid hnz
              have hpp : prevW l (en sos) k = prevW l (en sos) i := by
                rw [← HP.out, prevW, getD_of hz, hnz, if_pos rfl]
              have HP2 := Lib.hid hpp
              clear hz hnz hpp e1 e2
              go_wp2_with (go_at_call 13; refine (neu1_calls _ _ HNZ _).mono ?_; rintro e w' ⟨rfl, rfl⟩)
              go_round
              case rel => exact ⟨k, (k : Int) - 1, by go_num, rfl, rfl, by omega, HP2⟩
              case measure => simp [intOf]
            | false =>
              have HNZ := Lib.hid hnz
              obtain ⟨wa, hwa⟩ : ∃ q, wy z = q := ⟨_, rfl⟩
              have HWA := Lib.hid hwa
              have HPA : Hid (prevW l (en sos) i = wa) := by
                unfold Hid
                rw [← HP.out, prevW, getD_of hz, hnz, ← hwa]
                rfl
              clear hz hnz hwa e1 e2
              go_wp2_with (first | (go_at_call 13; refine (neu1_calls _ _ HNZ _).mono ?_; rintro e w' ⟨rfl, rfl⟩) | (go_at_call 20; refine (way1_calls z wa HWA _).mono ?_; rintro e w' ⟨rfl, rfl⟩))
              go_loop [12, 14] (fun b a => ∃ m : Nat, a = .int .i64 m ∧ b = .int .i64 b1 ∧ i + 1 ≤ m ∧ m ≤ l.length ∧ Hid (nextW (en eos) (l.drop m) = nextW (en eos) (l.drop (i + 1)))) (fun _ a => l.length - (intOf a).toNat)
              case atStart => exact ⟨i + 1, by go_num, rfl, Nat.le_refl _, by omega, rfl⟩
              case round =>
                obtain ⟨m, rfl, rfl, hm1, hm2, HM⟩ := hrel
                by_cases hml : m < l.length
                · obtain ⟨b3, off3, z, hA3, hlb3, hz, hcz⟩ := hIq.at_ hml
                  injection hA3 with hA3
                  injection hA3 with e1 e2 _
                  rw [← e1, ← e2] at hcz
                  cases hnz : neu z with
                  | true =>
                    have HNZ := Lib.hid hnz
                    have hnx : nextW (en eos) (l.drop (m + 1)) = nextW (en eos) (l.drop (i + 1)) := by
                      rw [← HM.out, drop_at hz, nextW, hnz, if_pos rfl]
                    have HM2 := Lib.hid hnx
                    clear hz hnz hnx e1 e2
                    go_wp2_with (go_at_call 13; refine (neu1_calls _ _ HNZ _).mono ?_; rintro e w' ⟨rfl, rfl⟩)
                    go_round
                    case rel => exact ⟨m + 1, by go_num, rfl, by omega, by omega, HM2⟩
                    case measure => simp [intOf]; omega
                  | false =>
                    have HNZ := Lib.hid hnz
                    obtain ⟨wb, hwb⟩ : ∃ q, wy z = q := ⟨_, rfl⟩
                    have HWB := Lib.hid hwb
                    have HNB : Hid (nextW (en eos) (l.drop (i + 1)) = wb) := by rw [← HM.out, ← hwb]; exact next_stop hz hnz
                    clear hz hnz hwb e1 e2
                    by_cases hab : wa = wb
                    · have hd : (wa == wb) = true := by simpa using hab
                      have HMX : Hid (mix lv wa wb = wa) := by unfold Hid mix; rw [if_pos hab]
                      have HAB := Lib.hid hab
                      clear hab
                      have hR2 := hCq.set_ i (.int .i64 wa)
                      rw [ivs_set] at hR2
                      have HF2 := Lib.hid (filled_step (x := wa) HFq.out hlt (by rw [valAt, getD_of HLX.out, HNX.out, if_pos rfl, HPA.out, HNB.out]; exact HMX.out))
                      have hb2 := hbq.setCell (p := ⟨g, i, none⟩) hwg (.int .i64 wa)
                      have hcellq : wq.cell? ⟨g, i, none⟩ = some (.int .i64 x) := hcq
                      have hfzq := hCq.frozen i
                      have hil2 : i < l.length := hlt
                      go_wp2_with (first | (go_at_call 13; refine (neu1_calls _ _ HNZ _).mono ?_; rintro e w' ⟨rfl, rfl⟩) | (go_at_call 20; refine (way1_calls z wb HWB _).mono ?_; rintro e w' ⟨rfl, rfl⟩))
                      go_roundw
                      case rel => exact ⟨i + 1, _, by go_num, by omega, hR2, HF2, hb2⟩
                      case measure => simp [intOf]; omega
                    · have hd : (wa == wb) = false := by simpa using hab
                      have HMX : Hid (mix lv wa wb = em) := by unfold Hid mix; rw [if_neg hab]; exact HEM.out
                      have HAB := Lib.hid hab
                      clear hab
                      have hR2 := hCq.set_ i (.int .i64 em)
                      rw [ivs_set] at hR2
                      have HF2 := Lib.hid (filled_step (x := em) HFq.out hlt (by rw [valAt, getD_of HLX.out, HNX.out, if_pos rfl, HPA.out, HNB.out]; exact HMX.out))
                      have hb2 := hbq.setCell (p := ⟨g, i, none⟩) hwg (.int .i64 em)
                      have hcellq : wq.cell? ⟨g, i, none⟩ = some (.int .i64 x) := hcq
                      have hfzq := hCq.frozen i
                      have hil2 : i < l.length := hlt
                      go_wp2_with (first | (go_at_call 13; refine (neu1_calls _ _ HNZ _).mono ?_; rintro e w' ⟨rfl, rfl⟩) | (go_at_call 20; refine (way1_calls z wb HWB _).mono ?_; rintro e w' ⟨rfl, rfl⟩))
                      refine (embed1_calls lv em HEM _).mono ?_
                      rintro e w' ⟨rfl, rfl⟩
                      go_wp2_with fail
                      go_roundw
                      case rel => exact ⟨i + 1, _, by go_num, by omega, hR2, HF2, hb2⟩
                      case measure => simp [intOf]; omega
                · have HNB : Hid (nextW (en eos) (l.drop (i + 1)) = b1) := by rw [← HM.out, ← HSB.out]; exact next_end (by omega)
                  have hml2 : ¬ m < l.length := hml
                  by_cases hab : wa = b1
                  · have hd : (wa == b1) = true := by simpa using hab
                    have HMX : Hid (mix lv wa b1 = wa) := by unfold Hid mix; rw [if_pos hab]
                    have HAB := Lib.hid hab
                    clear hab
                    have hR2 := hCq.set_ i (.int .i64 wa)
                    rw [ivs_set] at hR2
                    have HF2 := Lib.hid (filled_step (x := wa) HFq.out hlt (by rw [valAt, getD_of HLX.out, HNX.out, if_pos rfl, HPA.out, HNB.out]; exact HMX.out))
                    have hb2 := hbq.setCell (p := ⟨g, i, none⟩) hwg (.int .i64 wa)
                    have hcellq : wq.cell? ⟨g, i, none⟩ = some (.int .i64 x) := hcq
                    have hfzq := hCq.frozen i
                    have hil2 : i < l.length := hlt
                    go_wp2_with fail
                    go_roundw
                    case rel => exact ⟨i + 1, _, by go_num, by omega, hR2, HF2, hb2⟩
                    case measure => simp [intOf]; omega
                  · have hd : (wa == b1) = false := by simpa using hab
                    have HMX : Hid (mix lv wa b1 = em) := by unfold Hid mix; rw [if_neg hab]; exact HEM.out
                    have HAB := Lib.hid hab
                    clear hab
                    have hR2 := hCq.set_ i (.int .i64 em)
                    rw [ivs_set] at hR2
                    have HF2 := Lib.hid (filled_step (x := em) HFq.out hlt (by rw [valAt, getD_of HLX.out, HNX.out, if_pos rfl, HPA.out, HNB.out]; exact HMX.out))
                    have hb2 := hbq.setCell (p := ⟨g, i, none⟩) hwg (.int .i64 em)
                    have hcellq : wq.cell? ⟨g, i, none⟩ = some (.int .i64 x) := hcq
                    have hfzq := hCq.frozen i
                    have hil2 : i < l.length := hlt
                    go_wp2_with fail
                    refine (embed1_calls lv em HEM _).mono ?_
                    rintro e w' ⟨rfl, rfl⟩
                    go_wp2_with fail
                    go_roundw
                    case rel => exact ⟨i + 1, _, by go_num, by omega, hR2, HF2, hb2⟩
                    case measure => simp [intOf]; omega
          · have hkk : kk < 0 := by have := HK.out; omega
            have hm00 : m = 0 := by omega
            have HPA : Hid (prevW l (en sos) i = a1) := by
              have h := HP.out
              rw [hm00] at h
              rw [← h]
              exact HSA.out
            clear hm00
            go_wp2_with fail
            go_loop [12, 14] (fun b a => ∃ m : Nat, a = .int .i64 m ∧ b = .int .i64 b1 ∧ i + 1 ≤ m ∧ m ≤ l.length ∧ Hid (nextW (en eos) (l.drop m) = nextW (en eos) (l.drop (i + 1)))) (fun _ a => l.length - (intOf a).toNat)
            case atStart => exact ⟨i + 1, by go_num, rfl, Nat.le_refl _, by omega, rfl⟩
            case round =>
              obtain ⟨m, rfl, rfl, hm1, hm2, HM⟩ := hrel
              by_cases hml : m < l.length
              · obtain ⟨b3, off3, z, hA3, hlb3, hz, hcz⟩ := hIq.at_ hml
                injection hA3 with hA3
                injection hA3 with e1 e2 _
                rw [← e1, ← e2] at hcz
                cases hnz : neu z with
                | true =>
                  have HNZ := Lib.hid hnz
                  have hnx : nextW (en eos) (l.drop (m + 1)) = nextW (en eos) (l.drop (i + 1)) := by
                    rw [← HM.out, drop_at hz, nextW, hnz, if_pos rfl]
                  have HM2 := Lib.hid hnx
                  clear hz hnz hnx e1 e2
                  go_wp2_with (go_at_call 13; refine (neu1_calls _ _ HNZ _).mono ?_; rintro e w' ⟨rfl, rfl⟩)
                  go_round
                  case rel => exact ⟨m + 1, by go_num, rfl, by omega, by omega, HM2⟩
                  case measure => simp [intOf]; omega
                | false =>
                  have HNZ := Lib.hid hnz
                  obtain ⟨wb, hwb⟩ : ∃ q, wy z = q := ⟨_, rfl⟩
                  have HWB := Lib.hid hwb
                  have HNB : Hid (nextW (en eos) (l.drop (i + 1)) = wb) := by rw [← HM.out, ← hwb]; exact next_stop hz hnz
                  clear hz hnz hwb e1 e2
                  by_cases hab : a1 = wb
                  · have hd : (a1 == wb) = true := by simpa using hab
                    have HMX : Hid (mix lv a1 wb = a1) := by unfold Hid mix; rw [if_pos hab]
                    have HAB := Lib.hid hab
                    clear hab
                    have hR2 := hCq.set_ i (.int .i64 a1)
                    rw [ivs_set] at hR2
                    have HF2 := Lib.hid (filled_step (x := a1) HFq.out hlt (by rw [valAt, getD_of HLX.out, HNX.out, if_pos rfl, HPA.out, HNB.out]; exact HMX.out))
                    have hb2 := hbq.setCell (p := ⟨g, i, none⟩) hwg (.int .i64 a1)
                    have hcellq : wq.cell? ⟨g, i, none⟩ = some (.int .i64 x) := hcq
                    have hfzq := hCq.frozen i
                    have hil2 : i < l.length := hlt
                    go_wp2_with (first | (go_at_call 13; refine (neu1_calls _ _ HNZ _).mono ?_; rintro e w' ⟨rfl, rfl⟩) | (go_at_call 20; refine (way1_calls z wb HWB _).mono ?_; rintro e w' ⟨rfl, rfl⟩))
                    go_roundw
                    case rel => exact ⟨i + 1, _, by go_num, by omega, hR2, HF2, hb2⟩
                    case measure => simp [intOf]; omega
                  · have hd : (a1 == wb) = false := by simpa using hab
                    have HMX : Hid (mix lv a1 wb = em) := by unfold Hid mix; rw [if_neg hab]; exact HEM.out
                    have HAB := Lib.hid hab
                    clear hab
                    have hR2 := hCq.set_ i (.int .i64 em)
                    rw [ivs_set] at hR2
                    have HF2 := Lib.hid (filled_step (x := em) HFq.out hlt (by rw [valAt, getD_of HLX.out, HNX.out, if_pos rfl, HPA.out, HNB.out]; exact HMX.out))
                    have hb2 := hbq.setCell (p := ⟨g, i, none⟩) hwg (.int .i64 em)
                    have hcellq : wq.cell? ⟨g, i, none⟩ = some (.int .i64 x) := hcq
                    have hfzq := hCq.frozen i
                    have hil2 : i < l.length := hlt
                    go_wp2_with (first | (go_at_call 13; refine (neu1_calls _ _ HNZ _).mono ?_; rintro e w' ⟨rfl, rfl⟩) | (go_at_call 20; refine (way1_calls z wb HWB _).mono ?_; rintro e w' ⟨rfl, rfl⟩))
                    refine (embed1_calls lv em HEM _).mono ?_
                    rintro e w' ⟨rfl, rfl⟩
                    go_wp2_with fail
                    go_roundw
                    case rel => exact ⟨i + 1, _, by go_num, by omega, hR2, HF2, hb2⟩
                    case measure => simp [intOf]; omega
              · have HNB : Hid (nextW (en eos) (l.drop (i + 1)) = b1) := by rw [← HM.out, ← HSB.out]; exact next_end (by omega)
                have hml2 : ¬ m < l.length := hml
                by_cases hab : a1 = b1
                · have hd : (a1 == b1) = true := by simpa using hab
                  have HMX : Hid (mix lv a1 b1 = a1) := by unfold Hid mix; rw [if_pos hab]
                  have HAB := Lib.hid hab
                  clear hab
                  have hR2 := hCq.set_ i (.int .i64 a1)
                  rw [ivs_set] at hR2
                  have HF2 := Lib.hid (filled_step (x := a1) HFq.out hlt (by rw [valAt, getD_of HLX.out, HNX.out, if_pos rfl, HPA.out, HNB.out]; exact HMX.out))
                  have hb2 := hbq.setCell (p := ⟨g, i, none⟩) hwg (.int .i64 a1)
                  have hcellq : wq.cell? ⟨g, i, none⟩ = some (.int .i64 x) := hcq
                  have hfzq := hCq.frozen i
                  have hil2 : i < l.length := hlt
                  go_wp2_with fail
                  go_roundw
                  case rel => exact ⟨i + 1, _, by go_num, by omega, hR2, HF2, hb2⟩
                  case measure => simp [intOf]; omega
                · have hd : (a1 == b1) = false := by simpa using hab
                  have HMX : Hid (mix lv a1 b1 = em) := by unfold Hid mix; rw [if_neg hab]; exact HEM.out
                  have HAB := Lib.hid hab
                  clear hab
                  have hR2 := hCq.set_ i (.int .i64 em)
                  rw [ivs_set] at hR2
                  have HF2 := Lib.hid (filled_step (x := em) HFq.out hlt (by rw [valAt, getD_of HLX.out, HNX.out, if_pos rfl, HPA.out, HNB.out]; exact HMX.out))
                  have hb2 := hbq.setCell (p := ⟨g, i, none⟩) hwg (.int .i64 em)
                  have hcellq : wq.cell? ⟨g, i, none⟩ = some (.int .i64 x) := hcq
                  have hfzq := hCq.frozen i
                  have hil2 : i < l.length := hlt
                  go_wp2_with fail
                  refine (embed1_calls lv em HEM _).mono ?_
                  rintro e w' ⟨rfl, rfl⟩
                  go_wp2_with fail
                  go_roundw
                  case rel => exact ⟨i + 1, _, by go_num, by omega, hR2, HF2, hb2⟩
                  case measure => simp [intOf]; omega
    · have hil2 : i = l.length := by omega
      have hF := HF.out
      rw [hil2, ← neuL_length l lv sos eos] at hF
      rw [filled_end hF] at hC
      clear hF hil2
      go_wp2_with fail
      go_ret
      exact ⟨_, rfl, by have h := own_of_blk hC hwg (neuL_length l lv sos eos).symm (by unfold maxLen; omega); exact h, hb⟩
end Go.Proofs.Ythlmbmopdjnjaaa
