/-
  The contracts of 'Implicit' of the program and of the reference. Condition: at most 200 classes, a level of at most 2 to the 40.
-/
import Derived.Test.YthlmbmopdjnjaaaRefNeutral
namespace Go.Proofs.Ythlmbmopdjnjaaa
open Go.RowKit

def implOf (lv x : Int) : Int := if lv.tmod 2 = 0 then (if x = 2 then lv + 1 else if x = 4 ∨ x = 7 then lv + 2 else lv) else (if x = 1 ∨ x = 4 ∨ x = 7 then lv + 1 else lv)
def implL (l : List Int) (lv : Int) : List Int := l.map (implOf lv)
theorem implL_length (l : List Int) (lv : Int) : (implL l lv).length = l.length := by simp [implL]
theorem filled_impl {l C : List Int} {lv x : Int} {i : Nat} {d : Int} (h : Filled (implL l lv) C i) (hi : i < l.length) (hx : l[i]? = some x) :
    implOf lv x = d → Filled (implL l lv) (C.set i d) (i + 1) ∧ Filled (implL l lv) ((C.set i lv).set i d) (i + 1) := by
  intro hd
  have hs : (C.set i lv).set i d = C.set i d := by
    apply List.ext_getElem?
    intro j
    by_cases e : i = j
    · subst e
      have hl := h.1
      rw [implL_length] at hl
      rw [List.getElem?_set_self (by simp; omega), List.getElem?_set_self (by omega)]
    · rw [List.getElem?_set_ne e, List.getElem?_set_ne e, List.getElem?_set_ne e]
  rw [hs]
  have : Filled (implL l lv) (C.set i d) (i + 1) := by
    obtain ⟨h1, h2⟩ := h
    refine ⟨by simpa using h1, fun j hj => ?_⟩
    by_cases e : j = i
    · subst e
      rw [implL_length] at h1
      rw [List.getElem?_set_self (by omega), implL, List.getElem?_map, hx, Option.map_some, hd]
    · rw [List.getElem?_set_ne (by omega)]
      exact h2 j (by omega)
  exact ⟨this, this⟩

set_option maxHeartbeats 1000000 in
theorem implicit_calls (A : Option Addr) (c : Nat) (l : List Int) (lv : Int) (w : World) (hI : Ints w w.heap.size A l) (hn : l.length ≤ 200) (hlo : -9223372036854775808 ≤ lv) (hhi : lv ≤ 1099511627776) :
    Calls Try.prog 14 #[.slice A l.length c, .int .i64 lv] w fun e w' => ∃ v, e = .returned v ∧ w'.ownsRow w.heap.size 3 1 v l.length (ivs (implL l lv)) ∧ Below w.heap.size w w' := by
  obtain ⟨i3, hi, hz0, hz1, hz2⟩ := info_parts (show (Try.prog.info? 3).map (fun i => (i.zero, i.size, i.bytes)) = some (some (.int .i64 0), 1, 8) by kernel_rfl)
  obtain ⟨g, hg⟩ : ∃ g, g = w.heap.size := ⟨_, rfl⟩
  obtain ⟨p, hp⟩ : ∃ p, lv.tmod 2 = p := ⟨_, rfl⟩
  have HP := Lib.hid hp
  obtain ⟨ev, hev⟩ : ∃ ev, decide (lv.tmod 2 = 0) = ev := ⟨_, rfl⟩
  have HE := Lib.hid hev
  have hd1 : (lv.tmod 2 == 0) = ev := by rw [← hev]; cases h : decide (lv.tmod 2 = 0) <;> simpa using h
  have hd2 : (lv.tmod 2 != 0) = !ev := by rw [← hev]; cases h : decide (lv.tmod 2 = 0) <;> simpa using h
  clear hp hev
  go_enter Try.func14, Try.ntmps14
  go_wp2_with (at_make; refine wpList_make_full _ rfl _ _ _ rfl w.heap.size 3 i3 (.int .i64 0) 1 Try.underlying22 hi hz0 hz1 .i64 .i64 l.length l.length l.length rfl rfl rfl rfl (by rw [hz2]; omega) (by unfold maxLen; omega) (Nat.le_refl _) ?_; intro w1 hown hgrow)
  have hb1 : Below w.heap.size w w1 := (Below.refl _ _).grown hgrow (Nat.le_refl _) (by intro k hk; cases hk)
  have hblk := own_blk hown
  rw [zeros_int] at hblk
  rw [← hg] at hblk ⊢
  have hwg : w.heap.size ≤ g := by omega
  have HG := Lib.hid hg
  clear hown hgrow hi hz0 hz1 hz2 hg
  go_loopw [14] (fun a wr => ∃ (i : Nat) (C : List Int), a = .int .i64 i ∧ i ≤ l.length ∧ Blk wr g 3 (ivs C) ∧ Hid (Filled (implL l lv) C i) ∧ Below w.heap.size w wr) (fun a _ => l.length - (intOf a).toNat)
  case atStart => exact ⟨0, _, rfl, Nat.zero_le _, hblk, ⟨by rw [implL_length]; simp, by intro j hj; omega⟩, hb1⟩
  case round =>
    obtain ⟨i, C, rfl, hil, hC, HF, hb⟩ := hrel
    clear hblk hb1
    by_cases hlt : i < l.length
    · obtain ⟨b, off, x, rfl, hlb, hx, hc⟩ := (hI.below hb).at_ hlt
      obtain ⟨old, hold⟩ : ∃ old, C[i]? = some old := ⟨_, List.getElem?_eq_getElem (by rw [HF.out.1, implL_length]; exact hlt)⟩
      have hcell : wr.cell? ⟨g, i, none⟩ = some (.int .i64 old) := by rw [hC.cell, ivs_get, hold]; rfl
      have hfz : wr.frozen? ⟨g, i, none⟩ = false := hC.frozen i
      have hC1 := hC.set_ i (.int .i64 lv)
      rw [ivs_set] at hC1
      have hb1 := hb.setCell (p := ⟨g, i, none⟩) hwg (.int .i64 lv)
      have hc1 : (wr.setCell ⟨g, i, none⟩ (.int .i64 lv)).cell? ⟨g, i, none⟩ = some (.int .i64 lv) := World.cell?_setCell_same _ _ _ hcell
      have hst := fun (d : Int) => filled_impl (d := d) HF.out hlt hx
      have HST := Lib.hid hst
      have hset : ∀ d : Int, Blk ((wr.setCell ⟨g, i, none⟩ (.int .i64 lv)).setCell ⟨g, i, none⟩ (.int .i64 d)) g 3 (ivs ((C.set i lv).set i d)) := by
        intro d
        have h := hC1.set_ i (.int .i64 d)
        rwa [ivs_set] at h
      have HSET := Lib.hid hset
      have hbel : ∀ d : Int, Below w.heap.size w ((wr.setCell ⟨g, i, none⟩ (.int .i64 lv)).setCell ⟨g, i, none⟩ (.int .i64 d)) := fun d => hb1.setCell (p := ⟨g, i, none⟩) hwg (.int .i64 d)
      have HBEL := Lib.hid hbel
      clear hx hold hst hset hbel
      cases ev with
      | true =>
        have hpar := HE.out
        rcases (show x = 1 ∨ x = 2 ∨ x = 4 ∨ x = 7 ∨ (x ≠ 1 ∧ x ≠ 2 ∧ x ≠ 4 ∧ x ≠ 7) by omega) with rfl | rfl | rfl | rfl | ⟨n1, n2, n4, n7⟩
        · have hv : implOf lv 1 = lv := by unfold implOf; rw [if_pos (of_decide_eq_true hpar)]; simp
          have HV := Lib.hid hv
          clear hv hpar
          go_wp2
          go_roundw
          case rel => exact ⟨i + 1, _, by go_num, by omega, hC1, (HST.out lv HV.out).1, hb1⟩
          case measure => simp [intOf]; omega
        · have hv : implOf lv 2 = (lv + 1) := by unfold implOf; rw [if_pos (of_decide_eq_true hpar)]; simp
          have HV := Lib.hid hv
          clear hv hpar
          go_wp2
          go_roundw
          case rel => exact ⟨i + 1, _, by go_num, by omega, HSET.out (lv + 1), (HST.out (lv + 1) HV.out).2, HBEL.out (lv + 1)⟩
          case measure => simp [intOf]; omega
        · have hv : implOf lv 4 = (lv + 2) := by unfold implOf; rw [if_pos (of_decide_eq_true hpar)]; simp
          have HV := Lib.hid hv
          clear hv hpar
          go_wp2
          go_roundw
          case rel => exact ⟨i + 1, _, by go_num, by omega, HSET.out (lv + 2), (HST.out (lv + 2) HV.out).2, HBEL.out (lv + 2)⟩
          case measure => simp [intOf]; omega
        · have hv : implOf lv 7 = (lv + 2) := by unfold implOf; rw [if_pos (of_decide_eq_true hpar)]; simp
          have HV := Lib.hid hv
          clear hv hpar
          go_wp2
          go_roundw
          case rel => exact ⟨i + 1, _, by go_num, by omega, HSET.out (lv + 2), (HST.out (lv + 2) HV.out).2, HBEL.out (lv + 2)⟩
          case measure => simp [intOf]; omega
        · have f1 : (x == 1) = false := by simpa using n1
          have f2 : (x == 2) = false := by simpa using n2
          have f4 : (x == 4) = false := by simpa using n4
          have f7 : (x == 7) = false := by simpa using n7
          have hv : implOf lv x = lv := by unfold implOf; rw [if_pos (of_decide_eq_true hpar)]; rw [if_neg (by omega), if_neg (by omega)]
          have HV := Lib.hid hv
          clear hv hpar n1 n2 n4 n7
          go_wp2
          go_roundw
          case rel => exact ⟨i + 1, _, by go_num, by omega, hC1, (HST.out lv HV.out).1, hb1⟩
          case measure => simp [intOf]; omega
      | false =>
        have hpar := HE.out
        rcases (show x = 1 ∨ x = 2 ∨ x = 4 ∨ x = 7 ∨ (x ≠ 1 ∧ x ≠ 2 ∧ x ≠ 4 ∧ x ≠ 7) by omega) with rfl | rfl | rfl | rfl | ⟨n1, n2, n4, n7⟩
        · have hv : implOf lv 1 = (lv + 1) := by unfold implOf; rw [if_neg (of_decide_eq_false hpar)]; simp
          have HV := Lib.hid hv
          clear hv hpar
          go_wp2
          go_roundw
          case rel => exact ⟨i + 1, _, by go_num, by omega, HSET.out (lv + 1), (HST.out (lv + 1) HV.out).2, HBEL.out (lv + 1)⟩
          case measure => simp [intOf]; omega
        · have hv : implOf lv 2 = lv := by unfold implOf; rw [if_neg (of_decide_eq_false hpar)]; simp
          have HV := Lib.hid hv
          clear hv hpar
          go_wp2
          go_roundw
          case rel => exact ⟨i + 1, _, by go_num, by omega, hC1, (HST.out lv HV.out).1, hb1⟩
          case measure => simp [intOf]; omega
        · have hv : implOf lv 4 = (lv + 1) := by unfold implOf; rw [if_neg (of_decide_eq_false hpar)]; simp
          have HV := Lib.hid hv
          clear hv hpar
          go_wp2
          go_roundw
          case rel => exact ⟨i + 1, _, by go_num, by omega, HSET.out (lv + 1), (HST.out (lv + 1) HV.out).2, HBEL.out (lv + 1)⟩
          case measure => simp [intOf]; omega
        · have hv : implOf lv 7 = (lv + 1) := by unfold implOf; rw [if_neg (of_decide_eq_false hpar)]; simp
          have HV := Lib.hid hv
          clear hv hpar
          go_wp2
          go_roundw
          case rel => exact ⟨i + 1, _, by go_num, by omega, HSET.out (lv + 1), (HST.out (lv + 1) HV.out).2, HBEL.out (lv + 1)⟩
          case measure => simp [intOf]; omega
        · have f1 : (x == 1) = false := by simpa using n1
          have f2 : (x == 2) = false := by simpa using n2
          have f4 : (x == 4) = false := by simpa using n4
          have f7 : (x == 7) = false := by simpa using n7
          have hv : implOf lv x = lv := by unfold implOf; rw [if_neg (of_decide_eq_false hpar)]; rw [if_neg (by omega)]
          have HV := Lib.hid hv
          clear hv hpar n1 n2 n4 n7
          go_wp2
          go_roundw
          case rel => exact ⟨i + 1, _, by go_num, by omega, hC1, (HST.out lv HV.out).1, hb1⟩
          case measure => simp [intOf]; omega
    · have hil2 : i = l.length := by omega
      have hF := HF.out
      rw [hil2, ← implL_length l lv] at hF
      rw [filled_end hF] at hC
      clear hF hil2
      go_wp2_with fail
      go_ret
      exact ⟨_, rfl, by have h := own_of_blk hC hwg (implL_length l lv).symm (by unfold maxLen; omega); exact h, hb⟩

set_option maxHeartbeats 1000000 in
theorem refImplicit_calls (A : Option Addr) (c : Nat) (l : List Int) (lv : Int) (w : World) (hI : Ints w w.heap.size A l) (hn : l.length ≤ 200) (hlo : -9223372036854775808 ≤ lv) (hhi : lv ≤ 1099511627776) :
    Calls Try.prog 15 #[.slice A l.length c, .int .i64 lv] w fun e w' => ∃ v, e = .returned v ∧ w'.ownsRow w.heap.size 3 1 v l.length (ivs (implL l lv)) ∧ Below w.heap.size w w' := by
  obtain ⟨i3, hi, hz0, hz1, hz2⟩ := info_parts (show (Try.prog.info? 3).map (fun i => (i.zero, i.size, i.bytes)) = some (some (.int .i64 0), 1, 8) by kernel_rfl)
  obtain ⟨g, hg⟩ : ∃ g, g = w.heap.size := ⟨_, rfl⟩
  obtain ⟨p, hp⟩ : ∃ p, lv.tmod 2 = p := ⟨_, rfl⟩
  have HP := Lib.hid hp
  obtain ⟨ev, hev⟩ : ∃ ev, decide (lv.tmod 2 = 0) = ev := ⟨_, rfl⟩
  have HE := Lib.hid hev
  have hd1 : (lv.tmod 2 == 0) = ev := by rw [← hev]; cases h : decide (lv.tmod 2 = 0) <;> simpa using h
  have hd2 : (lv.tmod 2 != 0) = !ev := by rw [← hev]; cases h : decide (lv.tmod 2 = 0) <;> simpa using h
  clear hp hev
  go_enter Try.func15, Try.ntmps15
  go_wp2_with (at_make; refine wpList_make_full _ rfl _ _ _ rfl w.heap.size 3 i3 (.int .i64 0) 1 Try.underlying22 hi hz0 hz1 .i64 .i64 l.length l.length l.length rfl rfl rfl rfl (by rw [hz2]; omega) (by unfold maxLen; omega) (Nat.le_refl _) ?_; intro w1 hown hgrow)
  have hb1 : Below w.heap.size w w1 := (Below.refl _ _).grown hgrow (Nat.le_refl _) (by intro k hk; cases hk)
  have hblk := own_blk hown
  rw [zeros_int] at hblk
  rw [← hg] at hblk ⊢
  have hwg : w.heap.size ≤ g := by omega
  have HG := Lib.hid hg
  clear hown hgrow hi hz0 hz1 hz2 hg
  go_loopw [6] (fun a wr => ∃ (i : Nat) (C : List Int), a = .int .i64 i ∧ i ≤ l.length ∧ Blk wr g 3 (ivs C) ∧ Hid (Filled (implL l lv) C i) ∧ Below w.heap.size w wr) (fun a _ => l.length - (intOf a).toNat)
  case atStart => exact ⟨0, _, rfl, Nat.zero_le _, hblk, ⟨by rw [implL_length]; simp, by intro j hj; omega⟩, hb1⟩
  case round =>
    obtain ⟨i, C, rfl, hil, hC, HF, hb⟩ := hrel
    clear hblk hb1
    by_cases hlt : i < l.length
    · obtain ⟨b, off, x, rfl, hlb, hx, hc⟩ := (hI.below hb).at_ hlt
      obtain ⟨old, hold⟩ : ∃ old, C[i]? = some old := ⟨_, List.getElem?_eq_getElem (by rw [HF.out.1, implL_length]; exact hlt)⟩
      have hcell : wr.cell? ⟨g, i, none⟩ = some (.int .i64 old) := by rw [hC.cell, ivs_get, hold]; rfl
      have hfz : wr.frozen? ⟨g, i, none⟩ = false := hC.frozen i
      have hC1 := hC.set_ i (.int .i64 lv)
      rw [ivs_set] at hC1
      have hb1 := hb.setCell (p := ⟨g, i, none⟩) hwg (.int .i64 lv)
      have hc1 : (wr.setCell ⟨g, i, none⟩ (.int .i64 lv)).cell? ⟨g, i, none⟩ = some (.int .i64 lv) := World.cell?_setCell_same _ _ _ hcell
      have hst := fun (d : Int) => filled_impl (d := d) HF.out hlt hx
      have HST := Lib.hid hst
      have hset : ∀ d : Int, Blk ((wr.setCell ⟨g, i, none⟩ (.int .i64 lv)).setCell ⟨g, i, none⟩ (.int .i64 d)) g 3 (ivs ((C.set i lv).set i d)) := by
        intro d
        have h := hC1.set_ i (.int .i64 d)
        rwa [ivs_set] at h
      have HSET := Lib.hid hset
      have hbel : ∀ d : Int, Below w.heap.size w ((wr.setCell ⟨g, i, none⟩ (.int .i64 lv)).setCell ⟨g, i, none⟩ (.int .i64 d)) := fun d => hb1.setCell (p := ⟨g, i, none⟩) hwg (.int .i64 d)
      have HBEL := Lib.hid hbel
      clear hx hold hst hset hbel
      cases ev with
      | true =>
        have hpar := HE.out
        rcases (show x = 1 ∨ x = 2 ∨ x = 4 ∨ x = 7 ∨ (x ≠ 1 ∧ x ≠ 2 ∧ x ≠ 4 ∧ x ≠ 7) by omega) with rfl | rfl | rfl | rfl | ⟨n1, n2, n4, n7⟩
        · have hv : implOf lv 1 = lv := by unfold implOf; rw [if_pos (of_decide_eq_true hpar)]; simp
          have HV := Lib.hid hv
          clear hv hpar
          go_wp2
          go_roundw
          case rel => exact ⟨i + 1, _, by go_num, by omega, hC1, (HST.out lv HV.out).1, hb1⟩
          case measure => simp [intOf]; omega
        · have hv : implOf lv 2 = (lv + 1) := by unfold implOf; rw [if_pos (of_decide_eq_true hpar)]; simp
          have HV := Lib.hid hv
          clear hv hpar
          go_wp2
          go_roundw
          case rel => exact ⟨i + 1, _, by go_num, by omega, HSET.out (lv + 1), (HST.out (lv + 1) HV.out).2, HBEL.out (lv + 1)⟩
          case measure => simp [intOf]; omega
        · have hv : implOf lv 4 = (lv + 2) := by unfold implOf; rw [if_pos (of_decide_eq_true hpar)]; simp
          have HV := Lib.hid hv
          clear hv hpar
          go_wp2
          go_roundw
          case rel => exact ⟨i + 1, _, by go_num, by omega, HSET.out (lv + 2), (HST.out (lv + 2) HV.out).2, HBEL.out (lv + 2)⟩
          case measure => simp [intOf]; omega
        · have hv : implOf lv 7 = (lv + 2) := by unfold implOf; rw [if_pos (of_decide_eq_true hpar)]; simp
          have HV := Lib.hid hv
          clear hv hpar
          go_wp2
          go_roundw
          case rel => exact ⟨i + 1, _, by go_num, by omega, HSET.out (lv + 2), (HST.out (lv + 2) HV.out).2, HBEL.out (lv + 2)⟩
          case measure => simp [intOf]; omega
        · have f1 : (x == 1) = false := by simpa using n1
          have f2 : (x == 2) = false := by simpa using n2
          have f4 : (x == 4) = false := by simpa using n4
          have f7 : (x == 7) = false := by simpa using n7
          have hv : implOf lv x = lv := by unfold implOf; rw [if_pos (of_decide_eq_true hpar)]; rw [if_neg (by omega), if_neg (by omega)]
          have HV := Lib.hid hv
          clear hv hpar n1 n2 n4 n7
          go_wp2
          go_roundw
          case rel => exact ⟨i + 1, _, by go_num, by omega, hC1, (HST.out lv HV.out).1, hb1⟩
          case measure => simp [intOf]; omega
      | false =>
        have hpar := HE.out
        rcases (show x = 1 ∨ x = 2 ∨ x = 4 ∨ x = 7 ∨ (x ≠ 1 ∧ x ≠ 2 ∧ x ≠ 4 ∧ x ≠ 7) by omega) with rfl | rfl | rfl | rfl | ⟨n1, n2, n4, n7⟩
        · have hv : implOf lv 1 = (lv + 1) := by unfold implOf; rw [if_neg (of_decide_eq_false hpar)]; simp
          have HV := Lib.hid hv
          clear hv hpar
          go_wp2
          go_roundw
          case rel => exact ⟨i + 1, _, by go_num, by omega, HSET.out (lv + 1), (HST.out (lv + 1) HV.out).2, HBEL.out (lv + 1)⟩
          case measure => simp [intOf]; omega
        · have hv : implOf lv 2 = lv := by unfold implOf; rw [if_neg (of_decide_eq_false hpar)]; simp
          have HV := Lib.hid hv
          clear hv hpar
          go_wp2
          go_roundw
          case rel => exact ⟨i + 1, _, by go_num, by omega, hC1, (HST.out lv HV.out).1, hb1⟩
          case measure => simp [intOf]; omega
        · have hv : implOf lv 4 = (lv + 1) := by unfold implOf; rw [if_neg (of_decide_eq_false hpar)]; simp
          have HV := Lib.hid hv
          clear hv hpar
          go_wp2
          go_roundw
          case rel => exact ⟨i + 1, _, by go_num, by omega, HSET.out (lv + 1), (HST.out (lv + 1) HV.out).2, HBEL.out (lv + 1)⟩
          case measure => simp [intOf]; omega
        · have hv : implOf lv 7 = (lv + 1) := by unfold implOf; rw [if_neg (of_decide_eq_false hpar)]; simp
          have HV := Lib.hid hv
          clear hv hpar
          go_wp2
          go_roundw
          case rel => exact ⟨i + 1, _, by go_num, by omega, HSET.out (lv + 1), (HST.out (lv + 1) HV.out).2, HBEL.out (lv + 1)⟩
          case measure => simp [intOf]; omega
        · have f1 : (x == 1) = false := by simpa using n1
          have f2 : (x == 2) = false := by simpa using n2
          have f4 : (x == 4) = false := by simpa using n4
          have f7 : (x == 7) = false := by simpa using n7
          have hv : implOf lv x = lv := by unfold implOf; rw [if_neg (of_decide_eq_false hpar)]; rw [if_neg (by omega)]
          have HV := Lib.hid hv
          clear hv hpar n1 n2 n4 n7
          go_wp2
          go_roundw
          case rel => exact ⟨i + 1, _, by go_num, by omega, hC1, (HST.out lv HV.out).1, hb1⟩
          case measure => simp [intOf]; omega
    · have hil2 : i = l.length := by omega
      have hF := HF.out
      rw [hil2, ← implL_length l lv] at hF
      rw [filled_end hF] at hC
      clear hF hil2
      go_wp2_with fail
      go_ret
      exact ⟨_, rfl, by have h := own_of_blk hC hwg (implL_length l lv).symm (by unfold maxLen; omega); exact h, hb⟩

end Go.Proofs.Ythlmbmopdjnjaaa
