/-
  The contract of the reference's 'Lay'. Conditions: at most 40 segments and 100 tabs, widths and tabs of at most 2 to the 40.
-/
import Derived.Test.YtehjeiojbdpmkaaLayA
import Derived.Deep.RegionHeld3
namespace Go.Proofs.Ytehjeiojbdpmkaa
open Go.RowKit

set_option maxHeartbeats 2000000 in
theorem refLay_calls (A : Option Addr) (c : Nat) (l : List (Int × Int)) (every : Int) (W : Option Addr) (cw : Nat) (wide : List Int) (Z : Option Addr) (cp : Nat) (point : List Int) (w : World)
    (hI : Tabs w w.heap.size A l) (hW : Ints w w.heap.size W wide) (hZ : Ints w w.heap.size Z point) (hn : l.length ≤ 100) (hw : wide.length ≤ 40) (hl : Hid (FarT l)) (he2 : every ≤ 1099511627776) (hfw : Hid (FarL wide)) (hfp : Hid (FarL point)) :
    Calls Try.prog 16 #[.slice A l.length c, .int .i64 every, .slice W wide.length cw, .slice Z point.length cp] w fun e w' => ∃ v, e = .returned v ∧ w'.ownsRow w.heap.size 3 1 v wide.length (ivs (layL l every wide point)) ∧ Below w.heap.size w w' := by
  obtain ⟨i3, hi, hz0, hz1, hz2⟩ := info_parts (show (Try.prog.info? 3).map (fun i => (i.zero, i.size, i.bytes)) = some (some (.int .i64 0), 1, 8) by kernel_rfl)
  go_enter Try.func16, Try.ntmps16
  go_wp2_with fail
  go_loopw [9, 10, 11] (fun v b a wr => ∃ (k : Nat) (e : Int), a = .int .i64 k ∧ b = .int .i64 e ∧ k ≤ wide.length ∧ -140737488355328 ≤ e ∧ e ≤ 140737488355328 ∧ Hid (e = endAt l every wide point k) ∧ wr.ownsRow w.heap.size 3 1 v k (ivs ((layL l every wide point).take k)) ∧ Below w.heap.size w wr) (fun _ _ a _ => wide.length - (intOf a).toNat)
  case atStart => exact ⟨0, 0, rfl, rfl, Nat.zero_le _, by omega, by omega, rfl, World.ownsRow_nil _ _ _ _, Below.refl _ _⟩
  case round =>
    obtain ⟨k, e, rfl, rfl, hk, hbe1, hbe2, HEND, hown, hb⟩ := hrel
    have hbs := hb.size
    by_cases hlt : k < wide.length
    · obtain ⟨b, off, x, rfl, hlb, hx, hc⟩ := (hW.below hb).at_ hlt
      have hlbr : b < wr.heap.size := by omega
      obtain ⟨hx1, hx2⟩ := far_of hfw.out hx
      have HX := Lib.hid hx
      clear hx
      rcases Nat.eq_zero_or_pos k with rfl | hk0
      · rw [Nat.add_zero] at hc
        have he0 : e = 0 := HEND.out
        subst he0
        go_wp2_with (at_builtin; refine wpList_append_own _ rfl _ _ 35 rfl w.heap.size 3 i3 (.int .i64 0) 1 8 Try.underlying35 hi hz0 hz1 hz2 rfl (by decide) _ _ _ rfl (hown.alloc _) ⟨wr.heap.size, 0, none⟩ 1 1 [.int .i64 0] rfl rfl (cell_one_new _ _ _) (by intro u hu; simp at hu; subst hu; rfl) (by unfold maxLen; omega) (by omega) (by simp; omega) ?_; intro v' w2 hown' hgrow _; have hb2 := push_below hb (Nat.le_refl _) hown hgrow; have hc2 := (hb2.cell (p := ⟨b, off, none⟩) hlb).trans ((hb.cell (p := ⟨b, off, none⟩) hlb).symm.trans hc))
        go_roundw
        case rel =>
          refine ⟨1, x, by go_num, rfl, by omega, by omega, by omega, ?_, ?_, hb2⟩
          · have h := end_succ (every := every) (l := l) (point := point) HX.out (st_zero _ _ _ _ _)
            rw [Int.zero_add] at h
            exact h.symm
          · have h := take_at (layL_get l every wide point 0 hlt)
            rw [st_zero] at h
            rw [h, ← ivs_snoc]
            exact hown'
        case measure => simp [intOf]; omega
      · obtain ⟨⟨a, kd⟩, hak⟩ : ∃ p, nextOf l every e = p := ⟨_, rfl⟩
        have hbd := next_bd l every e hl.out he2
        rw [hak] at hbd
        obtain ⟨ha1, ha2⟩ := hbd
        dsimp only at ha1 ha2
        have ha3 : a ≤ 142936511610880 := by omega
        clear ha2
        have HA := Lib.hid hak
        clear hak
        obtain ⟨pt, hpt⟩ : ∃ pt, pointOf wide point k = pt := ⟨_, rfl⟩
        have HP := Lib.hid hpt
        have hpf := far_point hfw.out hfp.out k
        rw [hpt] at hpf
        obtain ⟨hp1, hp2⟩ := hpf
        clear hpt
        obtain ⟨v, hv⟩ : ∃ v, v = placeOf a kd e x pt := ⟨_, rfl⟩
        have HV := Lib.hid hv
        have hvb := place_bd a kd e x pt ⟨hx1, hx2⟩ ⟨hp1, hp2⟩
        rw [← hv] at hvb
        obtain ⟨hv1, hv2⟩ := hvb
        have hv3 : v ≤ 146936511610880 := by omega
        clear hv hv2
        have HS : Hid (stO l every wide point k (endAt l every wide point k) = v) := by
          have h := st_pos hk0 HX.out HP.out HA.out
          rw [HEND.out] at h
          unfold Hid
          rw [h, HV.out, HEND.out]
        have HN : Hid (v + x = endAt l every wide point (k + 1)) := (end_succ HX.out HS.out).symm
        have hbn := end_bd2 (every := every) hl.out he2 hfw.out hfp.out (k := k + 1) (by omega)
        rw [← HN.out] at hbn
        obtain ⟨hbn1, hbn2⟩ := hbn
        have hk0i : (0 : Int) < (k : Int) := by omega
        have HT : Hid ((layL l every wide point).take (k + 1) = (layL l every wide point).take k ++ [v]) := take_at (by rw [layL_get _ _ _ _ _ hlt, HS.out])
        have hIr := (hI.below hb).more hb.size
        by_cases hpt : k < point.length
        · obtain ⟨b', off', y, rfl, hlb', hy, hc'⟩ := (hZ.below hb).at_ hpt
          have hyp : pt = y := by rw [← HP.out]; exact pointOf_in hy
          subst hyp
          clear hy
          go_wp2_with fail
          go_region_held3 (fun w' => w'.cell? ⟨b, off + k, none⟩ = some (.int .i64 x)) (go_keep) (first | (go_at_call 11; refine (refNext_calls A c l every e _ (by exact hIr) hn he2 (by omega) (by omega) a kd HA).mono ?_; rintro e0 w2 ⟨rfl, hb20⟩; have hb2 : Below wr.heap.size wr w2 := ⟨hb20.os, hb20.tape, hb20.output, hb20.size, hb20.block⟩; clear hb20; have hc2 := (hb2.cell (p := ⟨b, off + k, none⟩) hlbr).trans hc) | (go_at_call 13; refine (refPlace_calls a kd e x pt _ (by omega) (by omega) (by omega) (by omega) (by omega) (by omega) v HV).mono ?_; rintro e0 w3 ⟨rfl, hb3⟩; have hb4 := Below.then_ hb2 hb3; have hc3 := (hb4.cell (p := ⟨b, off + k, none⟩) hlbr).trans hc))
          have hown3 := own_on hown hb4
          have hb5 := hb.trans (hb4.mono hb.size)
          have hs5 := hb5.size
          clear hown
          go_wp2_with (at_builtin; refine wpList_append_own _ rfl _ _ 35 rfl w.heap.size 3 i3 (.int .i64 0) 1 8 Try.underlying35 hi hz0 hz1 hz2 rfl (by decide) _ _ _ rfl (hown3.alloc _) ⟨w3.heap.size, 0, none⟩ 1 1 [.int .i64 v] rfl rfl (cell_one_new _ _ _) (by intro u hu; simp at hu; subst hu; rfl) (by unfold maxLen; omega) (by omega) (by simp; omega) ?_; intro v' w4 hown' hgrow _; have hb6 := push_below hb5 (Nat.le_refl _) hown3 hgrow; have hc6 := (hb6.cell (p := ⟨b, off + k, none⟩) hlb).trans ((hb.cell (p := ⟨b, off + k, none⟩) hlb).symm.trans hc))
          go_roundw
          case rel =>
            refine ⟨k + 1, _, by go_num, rfl, by omega, by omega, by omega, HN.out, ?_, hb6⟩
            rw [HT.out, ← ivs_snoc]
            exact hown'
          case measure => simp [intOf]; omega
        · have hyp : pt = x := by rw [← HP.out]; exact pointOf_out hpt HX.out
          subst hyp
          go_wp2_with fail
          go_region_held3 (fun w' => w'.cell? ⟨b, off + k, none⟩ = some (.int .i64 pt)) (go_keep) (first | (go_at_call 11; refine (refNext_calls A c l every e _ (by exact hIr) hn he2 (by omega) (by omega) a kd HA).mono ?_; rintro e0 w2 ⟨rfl, hb20⟩; have hb2 : Below wr.heap.size wr w2 := ⟨hb20.os, hb20.tape, hb20.output, hb20.size, hb20.block⟩; clear hb20; have hc2 := (hb2.cell (p := ⟨b, off + k, none⟩) hlbr).trans hc) | (go_at_call 13; refine (refPlace_calls a kd e pt pt _ (by omega) (by omega) (by omega) (by omega) (by omega) (by omega) v HV).mono ?_; rintro e0 w3 ⟨rfl, hb3⟩; have hb4 := Below.then_ hb2 hb3; have hc3 := (hb4.cell (p := ⟨b, off + k, none⟩) hlbr).trans hc))
          have hown3 := own_on hown hb4
          have hb5 := hb.trans (hb4.mono hb.size)
          have hs5 := hb5.size
          clear hown
          go_wp2_with (at_builtin; refine wpList_append_own _ rfl _ _ 35 rfl w.heap.size 3 i3 (.int .i64 0) 1 8 Try.underlying35 hi hz0 hz1 hz2 rfl (by decide) _ _ _ rfl (hown3.alloc _) ⟨w3.heap.size, 0, none⟩ 1 1 [.int .i64 v] rfl rfl (cell_one_new _ _ _) (by intro u hu; simp at hu; subst hu; rfl) (by unfold maxLen; omega) (by omega) (by simp; omega) ?_; intro v' w4 hown' hgrow _; have hb6 := push_below hb5 (Nat.le_refl _) hown3 hgrow; have hc6 := (hb6.cell (p := ⟨b, off + k, none⟩) hlb).trans ((hb.cell (p := ⟨b, off + k, none⟩) hlb).symm.trans hc))
          go_roundw
          case rel =>
            refine ⟨k + 1, _, by go_num, rfl, by omega, by omega, by omega, HN.out, ?_, hb6⟩
            rw [HT.out, ← ivs_snoc]
            exact hown'
          case measure => simp [intOf]; omega
    · have hil2 : k = wide.length := by omega
      subst hil2
      rw [List.take_of_length_le (by rw [layL_length]; exact Nat.le_refl _)] at hown
      go_wp2_with fail
      go_ret
      exact ⟨_, rfl, hown, hb⟩
end Go.Proofs.Ytehjeiojbdpmkaa
