/-
  The contract of the program's 'Lay'. Conditions: at most 40 segments and 100 tabs, widths and tabs of at most 2 to the 40.
-/
import Derived.Test.YtehjeiojbdpmkaaLay
namespace Go.Proofs.Ytehjeiojbdpmkaa
open Go.RowKit

theorem getD_of {l : List Int} {i : Nat} {x : Int} (h : l[i]? = some x) : l.getD i 0 = x := by rw [List.getD_eq_getElem?_getD, h]; rfl
theorem pointOf_in {wide point : List Int} {i : Nat} {y : Int} (h : point[i]? = some y) : pointOf wide point i = y := by
  unfold pointOf
  rw [if_pos (List.getElem?_eq_some_iff.1 h).1, getD_of h]
theorem pointOf_out {wide point : List Int} {i : Nat} {x : Int} (h : ¬ i < point.length) (hx : wide[i]? = some x) : pointOf wide point i = x := by
  unfold pointOf
  rw [if_neg h, getD_of hx]
theorem st_zero (l : List (Int × Int)) (every : Int) (wide point : List Int) (x : Int) : stO l every wide point 0 x = 0 := rfl
theorem st_pos {l : List (Int × Int)} {every : Int} {wide point : List Int} {k : Nat} {e x pt a kd : Int} (hk : 0 < k) (hx : wide[k]? = some x) (hpt : pointOf wide point k = pt) (hn : nextOf l every e = (a, kd)) : stO l every wide point k e = placeOf a kd e x pt := by
  unfold stO
  rw [if_neg (by omega), hn, getD_of hx, hpt]
theorem end_succ {l : List (Int × Int)} {every : Int} {wide point : List Int} {k : Nat} {x s : Int} (hx : wide[k]? = some x) (hs : stO l every wide point k (endAt l every wide point k) = s) : endAt l every wide point (k + 1) = s + x := by
  rw [endAt, hs, getD_of hx]
theorem end_bd2 {l : List (Int × Int)} {every : Int} {wide point : List Int} (hl : FarT l) (he : every ≤ 1099511627776) (hw : FarL wide) (hp : FarL point) {k : Nat} (hk : k ≤ 40) : -140737488355328 ≤ endAt l every wide point k ∧ endAt l every wide point k ≤ 140737488355328 := by
  have := end_bd l every wide point hl he hw hp k
  omega
theorem far_of {l : List Int} (h : FarL l) {i : Nat} {x : Int} (hx : l[i]? = some x) : -1099511627776 ≤ x ∧ x ≤ 1099511627776 := h x (List.mem_of_getElem? hx)

set_option maxHeartbeats 2000000 in
theorem lay_calls (A : Option Addr) (c : Nat) (l : List (Int × Int)) (every : Int) (W : Option Addr) (cw : Nat) (wide : List Int) (Z : Option Addr) (cp : Nat) (point : List Int) (w : World)
    (hI : Tabs w w.heap.size A l) (hW : Ints w w.heap.size W wide) (hZ : Ints w w.heap.size Z point) (hn : l.length ≤ 100) (hw : wide.length ≤ 40) (hl : Hid (FarT l)) (he2 : every ≤ 1099511627776) (hfw : Hid (FarL wide)) (hfp : Hid (FarL point)) :
    Calls Try.prog 14 #[.slice A l.length c, .int .i64 every, .slice W wide.length cw, .slice Z point.length cp] w fun e w' => ∃ v, e = .returned v ∧ w'.ownsRow w.heap.size 3 1 v wide.length (ivs (layL l every wide point)) ∧ Below w.heap.size w w' := by
  obtain ⟨i3, hi, hz0, hz1, hz2⟩ := info_parts (show (Try.prog.info? 3).map (fun i => (i.zero, i.size, i.bytes)) = some (some (.int .i64 0), 1, 8) by kernel_rfl)
  obtain ⟨g, hg⟩ : ∃ g, g = w.heap.size := ⟨_, rfl⟩
  go_enter Try.func14, Try.ntmps14
  go_wp2_with (at_make; refine wpList_make_full _ rfl _ _ _ rfl w.heap.size 3 i3 (.int .i64 0) 1 Try.underlying35 hi hz0 hz1 .i64 .i64 wide.length wide.length wide.length rfl rfl rfl rfl (by rw [hz2]; omega) (by unfold maxLen; omega) (Nat.le_refl _) ?_; intro w1 hown hgrow)
  have hb1 : Below w.heap.size w w1 := (Below.refl _ _).grown hgrow (Nat.le_refl _) (by intro k hk; cases hk)
  have hblk := own_blk hown
  rw [zeros_int] at hblk
  rw [← hg] at hblk ⊢
  have hwg : w.heap.size ≤ g := by omega
  have HG := Lib.hid hg
  clear hown hgrow hi hz0 hz1 hz2 hg
  go_loopw [10, 19] (fun b a wr => ∃ (k : Nat) (e : Int) (C : List Int), a = .int .i64 k ∧ b = .int .i64 e ∧ k ≤ wide.length ∧ -140737488355328 ≤ e ∧ e ≤ 140737488355328 ∧ Hid (e = endAt l every wide point k) ∧ Blk wr g 3 (ivs C) ∧ Hid (Filled (layL l every wide point) C k) ∧ Hid (k = 0 → C = List.replicate wide.length 0) ∧ Below w.heap.size w wr) (fun _ a _ => wide.length - (intOf a).toNat)
  case atStart => exact ⟨0, 0, _, rfl, rfl, Nat.zero_le _, by omega, by omega, rfl, hblk, ⟨by rw [layL_length]; simp, by intro j hj; omega⟩, fun _ => rfl, hb1⟩
  case round =>
    obtain ⟨k, e, C, rfl, rfl, hk, hbe1, hbe2, HEND, hC, HF, H0, hb⟩ := hrel
    clear hblk hb1
    by_cases hlt : k < wide.length
    · obtain ⟨b, off, x, rfl, hlb, hx, hc⟩ := (hW.below hb).at_ hlt
      obtain ⟨hx1, hx2⟩ := far_of hfw.out hx
      have HX := Lib.hid hx
      clear hx
      rcases Nat.eq_zero_or_pos k with rfl | hk0
      · rw [Nat.add_zero] at hc
        have hcell : wr.cell? ⟨g, 0, none⟩ = some (.int .i64 0) := by
          rw [hC.cell, ivs_get, H0.out rfl, List.getElem?_replicate, if_pos hlt]; rfl
        by_cases hpt : 0 < point.length
        · obtain ⟨b', off', y, rfl, hlb', hy, hc'⟩ := (hZ.below hb).at_ hpt
          clear hy
          rw [Nat.add_zero] at hc'
          go_wp2_with fail
          go_roundw
          case rel =>
            refine ⟨1, _, C, by go_num, rfl, by omega, by omega, by omega, ?_, hC, ?_, ?_, hb⟩
            · have h := end_succ (every := every) (l := l) (point := point) HX.out (st_zero _ _ _ _ _)
              rw [Int.zero_add] at h
              exact h.symm
            · refine ⟨HF.out.1, fun j hj => ?_⟩
              have : j = 0 := by omega
              subst this
              rw [H0.out rfl, List.getElem?_replicate, if_pos hlt, layL_get _ _ _ _ _ hlt, st_zero]
            · intro h; omega
          case measure => simp [intOf]; omega
        · go_wp2_with fail
          go_roundw
          case rel =>
            refine ⟨1, _, C, by go_num, rfl, by omega, by omega, by omega, ?_, hC, ?_, ?_, hb⟩
            · have h := end_succ (every := every) (l := l) (point := point) HX.out (st_zero _ _ _ _ _)
              rw [Int.zero_add] at h
              exact h.symm
            · refine ⟨HF.out.1, fun j hj => ?_⟩
              have : j = 0 := by omega
              subst this
              rw [H0.out rfl, List.getElem?_replicate, if_pos hlt, layL_get _ _ _ _ _ hlt, st_zero]
            · intro h; omega
          case measure => simp [intOf]; omega
      · obtain ⟨⟨a, kd⟩, hak⟩ : ∃ p, nextOf l every e = p := ⟨_, rfl⟩
        have hbd := next_bd l every e hl.out he2
        rw [hak] at hbd
        obtain ⟨ha1, ha2⟩ := hbd
        dsimp only at ha1 ha2
        have ha3 : a ≤ 142936511610880 := by omega
        clear ha2
        have HA := Lib.hid hak
        clear hak
        obtain ⟨pt, hpt⟩ : ∃ pt, pointOf wide point k = pt := ⟨_, rfl⟩
        have HP := Lib.hid hpt
        have hpf := far_point hfw.out hfp.out k
        rw [hpt] at hpf
        obtain ⟨hp1, hp2⟩ := hpf
        clear hpt
        obtain ⟨v, hv⟩ : ∃ v, v = placeOf a kd e x pt := ⟨_, rfl⟩
        have HV := Lib.hid hv
        have hvb := place_bd a kd e x pt ⟨hx1, hx2⟩ ⟨hp1, hp2⟩
        rw [← hv] at hvb
        obtain ⟨hv1, hv2⟩ := hvb
        have hv3 : v ≤ 146936511610880 := by omega
        clear hv hv2
        have HS : Hid (stO l every wide point k (endAt l every wide point k) = v) := by
          have h := st_pos hk0 HX.out HP.out HA.out
          rw [HEND.out] at h
          unfold Hid
          rw [h, HV.out, HEND.out]
        have HN : Hid (v + x = endAt l every wide point (k + 1)) := (end_succ HX.out HS.out).symm
        have hbn := end_bd2 (every := every) hl.out he2 hfw.out hfp.out (k := k + 1) (by omega)
        rw [← HN.out] at hbn
        obtain ⟨hbn1, hbn2⟩ := hbn
        obtain ⟨old, hold⟩ : ∃ old, C[k]? = some old := ⟨_, List.getElem?_eq_getElem (by rw [HF.out.1, layL_length]; exact hlt)⟩
        have hk0i : (0 : Int) < (k : Int) := by omega
        have HOLD := Lib.hid hold
        clear hold
        have hend : ∀ w3 : World, Below wr.heap.size wr w3 → Blk (w3.setCell ⟨g, k, none⟩ (.int .i64 v)) g 3 (ivs (C.set k v)) ∧ Below w.heap.size w (w3.setCell ⟨g, k, none⟩ (.int .i64 v)) ∧ w3.cell? ⟨g, k, none⟩ = some (.int .i64 old) ∧ w3.frozen? ⟨g, k, none⟩ = false ∧ (w3.setCell ⟨g, k, none⟩ (.int .i64 v)).cell? ⟨g, k, none⟩ = some (.int .i64 v) := by
          intro w3 h3
          have hC3 := hC.on h3
          have hcell : w3.cell? ⟨g, k, none⟩ = some (.int .i64 old) := by rw [hC3.cell, ivs_get, HOLD.out]; rfl
          refine ⟨?_, (hb.trans (h3.mono hb.size)).setCell (p := ⟨g, k, none⟩) hwg _, hcell, hC3.frozen k, World.cell?_setCell_same _ _ _ hcell⟩
          have := hC3.set_ k (.int .i64 v)
          rwa [ivs_set] at this
        have HEN := Lib.hid hend
        clear hend
        have hIr := (hI.below hb).more hb.size
        by_cases hpt : k < point.length
        · obtain ⟨b', off', y, rfl, hlb', hy, hc'⟩ := (hZ.below hb).at_ hpt
          have hyp : pt = y := by rw [← HP.out]; exact pointOf_in hy
          subst hyp
          clear hy
          go_wp2_with fail
          refine (next_calls A c l every e _ hIr hn he2 (by omega) (by omega) a kd HA).mono ?_
          rintro e0 w2 ⟨rfl, hb2⟩
          go_wp2_with fail
          refine (place_calls a kd e x pt _ (by omega) (by omega) (by omega) (by omega) (by omega) (by omega) v HV).mono ?_
          rintro e0 w3 ⟨rfl, hb3⟩
          obtain ⟨h1, h2, h3, h4, h5⟩ := HEN.out w3 (Below.then_ hb2 hb3)
          go_wp2_with fail
          go_roundw
          case rel =>
            refine ⟨k + 1, _, _, by go_num, rfl, by omega, by omega, by omega, HN.out, h1, ?_, by intro h; omega, h2⟩
            exact filled_step HF.out (by rw [layL_get _ _ _ _ _ hlt, HS.out])
          case measure => simp [intOf]; omega
        · have hyp : pt = x := by rw [← HP.out]; exact pointOf_out hpt HX.out
          subst hyp
          go_wp2_with fail
          refine (next_calls A c l every e _ hIr hn he2 (by omega) (by omega) a kd HA).mono ?_
          rintro e0 w2 ⟨rfl, hb2⟩
          go_wp2_with fail
          refine (place_calls a kd e pt pt _ (by omega) (by omega) (by omega) (by omega) (by omega) (by omega) v HV).mono ?_
          rintro e0 w3 ⟨rfl, hb3⟩
          obtain ⟨h1, h2, h3, h4, h5⟩ := HEN.out w3 (Below.then_ hb2 hb3)
          have hcW := (Below.cell (Below.then_ hb2 hb3) (p := ⟨b, off + k, none⟩) (Nat.lt_of_lt_of_le hlb hb.size)).trans hc
          go_wp2_with fail
          go_roundw
          case rel =>
            refine ⟨k + 1, _, _, by go_num, rfl, by omega, by omega, by omega, HN.out, h1, ?_, by intro h; omega, h2⟩
            exact filled_step HF.out (by rw [layL_get _ _ _ _ _ hlt, HS.out])
          case measure => simp [intOf]; omega
    · have hil2 : k = wide.length := by omega
      have hF := HF.out
      rw [hil2, ← layL_length l every wide point] at hF
      rw [filled_end hF] at hC
      clear hF hil2
      go_wp2_with fail
      go_ret
      exact ⟨_, rfl, by have h := own_of_blk hC hwg (layL_length l every wide point).symm (by unfold maxLen; omega); exact h, hb⟩
end Go.Proofs.Ytehjeiojbdpmkaa
