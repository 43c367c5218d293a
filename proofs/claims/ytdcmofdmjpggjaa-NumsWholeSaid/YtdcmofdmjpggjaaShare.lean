/-
  Contracts of 'share', 'Share', 'Split' of the program. Conditions: the weights' sum is an int; at most 65536 of them.
-/
import Derived.Test.YtdcmofdmjpggjaaShareP
namespace Go.Proofs.Ytdcmofdmjpggjaa
open Go.RowKit

theorem ret_v {v v' : Value} (h : v = v') : Ending.returned v = Ending.returned v' := by rw [h]
theorem one_calls (i : Int) (w : World) : Calls Try.prog 27 #[.int .i64 i] w fun e w' => e = .returned (.int .i64 1) ∧ w = w' := by
  go_enter Try.func27, Try.ntmps27
  go_wp2
  go_ret
  exact ⟨rfl, rfl⟩
theorem weight_calls (g n c b off k : Nat) (x px : Int) (w : World) (hg : w.cell? ⟨g, 0, none⟩ = some (.slice (some ⟨b, off, none⟩) n c)) (hk : k < n) (hc : w.cell? ⟨b, off + k, none⟩ = some (.int .i64 x)) (H : Hid (px = posi x)) :
    Calls Try.prog 28 #[.int .i64 (k : Int), .pointer (some ⟨g, 0, none⟩)] w fun e w' => e = .returned (.int .i64 px) ∧ w = w' := by
  have hi : (k : Int) < (n : Int) := by omega
  have hp := H.out
  unfold posi at hp
  rcases Int.lt_or_le x 0 with h | h
  · have e : px = 0 := by omega
    subst e
    clear hp H
    go_enter Try.func28, Try.ntmps28
    go_wp2_with fail
    all_goals
      go_ret
      exact ⟨ret_i (by omega), rfl⟩
  · have e : px = x := by omega
    subst e
    clear hp H
    go_enter Try.func28, Try.ntmps28
    go_wp2_with fail
    all_goals
      go_ret
      exact ⟨ret_i (by omega), rfl⟩

set_option maxHeartbeats 2000000 in
theorem share1_calls (total : Int) (l : List Int) (w : World) (t1 : -9223372036854775808 ≤ total) (t2 : total ≤ 9223372036854775807) (hn : l.length ≤ 65536) (h0 : sm l ≠ 0) (all : Int) (HA : Hid (all = sm l)) (hs : all ≤ 9223372036854775807) (hl : Hid (∀ (k : Nat) (x : Int), l[k]? = some x → posi x = 1)) :
    Calls Try.prog 26 #[.int .i64 total, .int .i64 all, .int .i64 (l.length : Nat), .func (.func 27) #[] #[]] w fun e w' => ∃ v, e = .returned v ∧ w'.ownsRow w.heap.size 3 1 v l.length (ivs (shareL total l)) ∧ Below w.heap.size w w' := by
  obtain ⟨i3, hi, hz0, hz1, hz2⟩ := info_parts (show (Try.prog.info? 3).map (fun i => (i.zero, i.size, i.bytes)) = some (some (.int .i64 0), 1, 8) by kernel_rfl)
  have ha1 : 1 ≤ all := by
    have := sm_nonneg l
    have := HA.out
    omega
  have hd : (all == 0) = false := by simp; omega
  obtain ⟨g, hg⟩ : ∃ g, g = w.heap.size := ⟨_, rfl⟩
  have HT1 := Lib.hid t1
  have HT2 := Lib.hid t2
  have HS := Lib.hid hs
  have H0 := Lib.hid h0
  clear t1 t2 hs h0
  go_enter Try.func26, Try.ntmps26
  go_wp2_with (at_make; refine wpList_make_full _ rfl _ _ _ rfl w.heap.size 3 i3 (.int .i64 0) 1 Try.underlying28 hi hz0 hz1 .i64 .i64 l.length l.length l.length rfl rfl rfl rfl (by rw [hz2]; omega) (by unfold maxLen; omega) (Nat.le_refl _) ?_; intro w1 hown hgrow)
  have hb1 : Below w.heap.size w w1 := (Below.refl _ _).grown hgrow (Nat.le_refl _) (by intro k hk; cases hk)
  have hblk := own_blk hown
  rw [zeros_int] at hblk
  rw [← hg] at hblk ⊢
  have hwg : w.heap.size ≤ g := by omega
  have HG := Lib.hid hg
  clear hown hgrow hi hz0 hz1 hz2 hg
  go_loopw [10, 11, 20] (fun a b c wr => ∃ (k : Nat) (S P : Int) (C : List Int), a = .int .i64 S ∧ b = .int .i64 P ∧ c = .int .i64 (k : Int) ∧ k ≤ l.length ∧ Hid (S = sm (l.take k)) ∧ Hid (P = pt total l k) ∧ Blk wr g 3 (ivs C) ∧ Hid (Filled (shareL total l) C k) ∧ Below w.heap.size w wr) (fun _ _ c _ => l.length - (intOf c).toNat)
  case atStart => exact ⟨0, 0, 0, _, rfl, rfl, rfl, Nat.zero_le _, rfl, (pt_zero total l).symm, hblk, ⟨by rw [shareL_length H0.out]; simp, by intro j hj; omega⟩, hb1⟩
  case round =>
    obtain ⟨k, S, P, C, rfl, rfl, rfl, hk, HSk, HPk, hC, HF, hb⟩ := hrel
    clear hblk hb1
    by_cases hlt : k < l.length
    · have HX : Hid (l[k]? = some l[k]) := List.getElem?_eq_getElem hlt
      obtain ⟨px, hpx⟩ : ∃ px : Int, px = 1 := ⟨_, rfl⟩
      have HPX : Hid (px = posi l[k]) := by rw [hpx]; exact (hl.out k _ HX.out).symm
      have H1 := Lib.hid hpx
      clear hpx
      obtain ⟨S2, hS2⟩ : ∃ S2, S2 = S + px := ⟨_, rfl⟩
      have hS2' : S2 = sm (l.take (k + 1)) := by rw [sm_at HX.out, ← HSk.out, ← HPX.out]; exact hS2
      have hS0 : 0 ≤ S := by rw [HSk.out]; exact sm_nonneg _
      have hSl : S2 ≤ all := by rw [hS2', HA.out]; exact sm_take_le _ _
      have hS20 : 0 ≤ S2 := by rw [hS2']; exact sm_nonneg _
      have hal := HS.out
      obtain ⟨P2, hP2⟩ : ∃ P2, P2 = partOf total S2 all := ⟨_, rfl⟩
      have hP2' : P2 = pt total l (k + 1) := by rw [hP2, hS2', HA.out]; rfl
      obtain ⟨d, hdd⟩ : ∃ d, d = IntKind.i64.wrap (P2 - P) := ⟨_, rfl⟩
      have hd2 : d = dif total l k := by rw [hdd, hP2', HPk.out]; rfl
      have w1 : IntKind.i64.wrap (S + px) = S2 := by rw [hS2]; exact wrap_in _ (by omega) (by omega)
      have w2 : wrap64 (S + px) = S2 := (wrap64_is _).trans w1
      have w3 : IntKind.i64.wrap (P2 - P) = d := hdd.symm
      have w4 : wrap64 (P2 - P) = d := (wrap64_is _).trans w3
      have CP : Hid (∀ w : World, Calls Try.prog 34 #[.int .i64 total, .int .i64 S2, .int .i64 all] w fun e w' => e = .returned (.int .i64 P2) ∧ ∃ n, w' = w.drewN n) := fun w => part_calls total S2 all HT1.out HT2.out hS20 hSl ha1 hal w P2 hP2
      have hlg := hC.lt
      have hkC : k < (ivs C).length := by rw [ivs_length, HF.out.1, shareL_length H0.out]; exact hlt
      have hcell : wr.cell? ⟨g, k, none⟩ = some ((ivs C)[k]) := by rw [hC.cell, List.getElem?_eq_getElem hkC]
      have hfrz := hC.frozen k
      obtain ⟨old, hold⟩ : ∃ old, old = (ivs C)[k] := ⟨_, rfl⟩
      rw [← hold] at hcell
      have hki : (k : Int) < (l.length : Int) := by omega
      have HEND : Hid (∀ n : Nat, Blk ((wr.drewN n).setCell ⟨g, k, none⟩ (.int .i64 d)) g 3 (ivs (C.set k d)) ∧ Below w.heap.size w ((wr.drewN n).setCell ⟨g, k, none⟩ (.int .i64 d))) := by
        intro n
        refine ⟨?_, ?_⟩
        · have := (hC.drewN n).set_ k (.int .i64 d)
          rwa [ivs_set] at this
        · exact (below_drewN hb n).setCell (p := ⟨g, k, none⟩) hwg _
      have HF2 : Hid (Filled (shareL total l) (C.set k d) (k + 1)) := filled_step HF.out (by rw [hd2]; exact shareL_get H0.out hlt)
      have HS3 := Lib.hid hS2'
      have HP3 := Lib.hid hP2'
      clear hS2 hS2' hS0 hSl hS20 hal hP2 hP2' hdd hd2 hkC hold
      go_wp2_with fail
      refine (one_calls _ _).mono ?_
      rw [← H1.out]
      rintro e w' ⟨rfl, rfl⟩
      go_wp2_with fail
      refine (CP.out _).mono ?_
      rintro e w' ⟨rfl, n, rfl⟩
      obtain ⟨h1, h2⟩ := HEND.out n
      go_wp2_with fail
      go_roundw
      case rel => exact ⟨k + 1, _, _, _, rfl, rfl, by go_num, by omega, HS3, HP3, h1, HF2, h2⟩
      case measure => simp [intOf]; omega
    · have hil2 : k = l.length := by omega
      have hF := HF.out
      rw [hil2, ← shareL_length (total := total) H0.out] at hF
      rw [filled_end hF] at hC
      clear hF hil2
      go_wp2_with fail
      go_ret
      exact ⟨_, rfl, by have h := own_of_blk hC hwg (shareL_length H0.out).symm (by unfold maxLen; omega); exact h, hb⟩

set_option maxHeartbeats 2000000 in
theorem share2_calls (total : Int) (l : List Int) (w : World) (t1 : -9223372036854775808 ≤ total) (t2 : total ≤ 9223372036854775807) (hn : l.length ≤ 65536) (h0 : sm l ≠ 0) (all : Int) (HA : Hid (all = sm l)) (hs : all ≤ 9223372036854775807) (gc c : Nat) (A : Option Addr) (hgc : w.cell? ⟨gc, 0, none⟩ = some (.slice A l.length c)) (hgl : gc < w.heap.size) (hI : Ints w w.heap.size A l) :
    Calls Try.prog 26 #[.int .i64 total, .int .i64 all, .int .i64 (l.length : Nat), .func (.func 28) #[] #[.pointer (some ⟨gc, 0, none⟩)]] w fun e w' => ∃ v, e = .returned v ∧ w'.ownsRow w.heap.size 3 1 v l.length (ivs (shareL total l)) ∧ Below w.heap.size w w' := by
  obtain ⟨i3, hi, hz0, hz1, hz2⟩ := info_parts (show (Try.prog.info? 3).map (fun i => (i.zero, i.size, i.bytes)) = some (some (.int .i64 0), 1, 8) by kernel_rfl)
  have ha1 : 1 ≤ all := by
    have := sm_nonneg l
    have := HA.out
    omega
  have hd : (all == 0) = false := by simp; omega
  obtain ⟨g, hg⟩ : ∃ g, g = w.heap.size := ⟨_, rfl⟩
  have HT1 := Lib.hid t1
  have HT2 := Lib.hid t2
  have HS := Lib.hid hs
  have H0 := Lib.hid h0
  clear t1 t2 hs h0
  go_enter Try.func26, Try.ntmps26
  go_wp2_with (at_make; refine wpList_make_full _ rfl _ _ _ rfl w.heap.size 3 i3 (.int .i64 0) 1 Try.underlying28 hi hz0 hz1 .i64 .i64 l.length l.length l.length rfl rfl rfl rfl (by rw [hz2]; omega) (by unfold maxLen; omega) (Nat.le_refl _) ?_; intro w1 hown hgrow)
  have hb1 : Below w.heap.size w w1 := (Below.refl _ _).grown hgrow (Nat.le_refl _) (by intro k hk; cases hk)
  have hblk := own_blk hown
  rw [zeros_int] at hblk
  rw [← hg] at hblk ⊢
  have hwg : w.heap.size ≤ g := by omega
  have HG := Lib.hid hg
  clear hown hgrow hi hz0 hz1 hz2 hg
  go_loopw [10, 11, 20] (fun a b c wr => ∃ (k : Nat) (S P : Int) (C : List Int), a = .int .i64 S ∧ b = .int .i64 P ∧ c = .int .i64 (k : Int) ∧ k ≤ l.length ∧ Hid (S = sm (l.take k)) ∧ Hid (P = pt total l k) ∧ Blk wr g 3 (ivs C) ∧ Hid (Filled (shareL total l) C k) ∧ Below w.heap.size w wr) (fun _ _ c _ => l.length - (intOf c).toNat)
  case atStart => exact ⟨0, 0, 0, _, rfl, rfl, rfl, Nat.zero_le _, rfl, (pt_zero total l).symm, hblk, ⟨by rw [shareL_length H0.out]; simp, by intro j hj; omega⟩, hb1⟩
  case round =>
    obtain ⟨k, S, P, C, rfl, rfl, rfl, hk, HSk, HPk, hC, HF, hb⟩ := hrel
    clear hblk hb1
    by_cases hlt : k < l.length
    · obtain ⟨b, off, x, rfl, hlb, hx, hcx⟩ := (hI.below hb).at_ hlt
      have hgw := (hb.cell (p := ⟨gc, 0, none⟩) hgl).trans hgc
      obtain ⟨px, hpx⟩ : ∃ px, px = posi x := ⟨_, rfl⟩
      have hp0 : 0 ≤ px := by rw [hpx, posi]; omega
      have HX := Lib.hid hx
      have HPX := Lib.hid hpx
      clear hx hpx
      obtain ⟨S2, hS2⟩ : ∃ S2, S2 = S + px := ⟨_, rfl⟩
      have hS2' : S2 = sm (l.take (k + 1)) := by rw [sm_at HX.out, ← HSk.out, ← HPX.out]; exact hS2
      have hS0 : 0 ≤ S := by rw [HSk.out]; exact sm_nonneg _
      have hSl : S2 ≤ all := by rw [hS2', HA.out]; exact sm_take_le _ _
      have hS20 : 0 ≤ S2 := by rw [hS2']; exact sm_nonneg _
      have hal := HS.out
      obtain ⟨P2, hP2⟩ : ∃ P2, P2 = partOf total S2 all := ⟨_, rfl⟩
      have hP2' : P2 = pt total l (k + 1) := by rw [hP2, hS2', HA.out]; rfl
      obtain ⟨d, hdd⟩ : ∃ d, d = IntKind.i64.wrap (P2 - P) := ⟨_, rfl⟩
      have hd2 : d = dif total l k := by rw [hdd, hP2', HPk.out]; rfl
      have w1 : IntKind.i64.wrap (S + px) = S2 := by rw [hS2]; exact wrap_in _ (by omega) (by omega)
      have w2 : wrap64 (S + px) = S2 := (wrap64_is _).trans w1
      have w3 : IntKind.i64.wrap (P2 - P) = d := hdd.symm
      have w4 : wrap64 (P2 - P) = d := (wrap64_is _).trans w3
      have CP : Hid (∀ w : World, Calls Try.prog 34 #[.int .i64 total, .int .i64 S2, .int .i64 all] w fun e w' => e = .returned (.int .i64 P2) ∧ ∃ n, w' = w.drewN n) := fun w => part_calls total S2 all HT1.out HT2.out hS20 hSl ha1 hal w P2 hP2
      have hlg := hC.lt
      have hkC : k < (ivs C).length := by rw [ivs_length, HF.out.1, shareL_length H0.out]; exact hlt
      have hcell : wr.cell? ⟨g, k, none⟩ = some ((ivs C)[k]) := by rw [hC.cell, List.getElem?_eq_getElem hkC]
      have hfrz := hC.frozen k
      obtain ⟨old, hold⟩ : ∃ old, old = (ivs C)[k] := ⟨_, rfl⟩
      rw [← hold] at hcell
      have hki : (k : Int) < (l.length : Int) := by omega
      have HEND : Hid (∀ n : Nat, Blk ((wr.drewN n).setCell ⟨g, k, none⟩ (.int .i64 d)) g 3 (ivs (C.set k d)) ∧ Below w.heap.size w ((wr.drewN n).setCell ⟨g, k, none⟩ (.int .i64 d))) := by
        intro n
        refine ⟨?_, ?_⟩
        · have := (hC.drewN n).set_ k (.int .i64 d)
          rwa [ivs_set] at this
        · exact (below_drewN hb n).setCell (p := ⟨g, k, none⟩) hwg _
      have HF2 : Hid (Filled (shareL total l) (C.set k d) (k + 1)) := filled_step HF.out (by rw [hd2]; exact shareL_get H0.out hlt)
      have HS3 := Lib.hid hS2'
      have HP3 := Lib.hid hP2'
      clear hS2 hS2' hS0 hSl hS20 hal hP2 hP2' hdd hd2 hkC hold
      go_wp2_with fail
      refine (weight_calls gc l.length c b off k x px _ hgw hlt hcx HPX).mono ?_
      rintro e w' ⟨rfl, rfl⟩
      go_wp2_with fail
      refine (CP.out _).mono ?_
      rintro e w' ⟨rfl, n, rfl⟩
      obtain ⟨h1, h2⟩ := HEND.out n
      go_wp2_with fail
      go_roundw
      case rel => exact ⟨k + 1, _, _, _, rfl, rfl, by go_num, by omega, HS3, HP3, h1, HF2, h2⟩
      case measure => simp [intOf]; omega
    · have hil2 : k = l.length := by omega
      have hF := HF.out
      rw [hil2, ← shareL_length (total := total) H0.out] at hF
      rw [filled_end hF] at hC
      clear hF hil2
      go_wp2_with fail
      go_ret
      exact ⟨_, rfl, by have h := own_of_blk hC hwg (shareL_length H0.out).symm (by unfold maxLen; omega); exact h, hb⟩

/-- it hands back the list N, and leaves what was there -/
def Gives (N : List Int) (w : World) (e : Ending) (w' : World) : Prop := ∃ A' c', e = .returned (.slice A' N.length c') ∧ Ints w' w'.heap.size A' N ∧ Below w.heap.size w w'
theorem shareNil_calls (total n : Int) (f : Value) (w : World) : Calls Try.prog 26 #[.int .i64 total, .int .i64 0, .int .i64 n, f] w fun e w' => e = .returned (.slice none 0 0) ∧ w = w' := by
  go_enter Try.func26, Try.ntmps26
  go_wp2
  go_ret
  exact ⟨rfl, rfl⟩

set_option maxHeartbeats 2000000 in
theorem shareAll_calls (total : Int) (A : Option Addr) (c : Nat) (l : List Int) (w : World) (hI : Ints w w.heap.size A l) (t1 : -9223372036854775808 ≤ total) (t2 : total ≤ 9223372036854775807) (hn : l.length ≤ 65536) (hs : sm l ≤ 9223372036854775807) (N : List Int) (HN : Hid (N = shareL total l)) :
    Calls Try.prog 20 #[.int .i64 total, .slice A l.length c] w (Gives N w) := by
  have hmf : ∀ (fn : Fn) (first cap : Array Value) (w : World), (Instr.makeFunc fn first cap).run Try.prog w = .ok (.func fn first cap) w := fun _ _ _ _ => rfl
  have hbb : Below w.heap.size w (w.alloc (.cells #[.slice A l.length c] 28)) := (Below.refl _ _).alloc (Nat.le_refl _) _
  have hX : Blk (w.alloc (.cells #[.slice A l.length c] 28)) w.heap.size 28 [.slice A l.length c] := Blk.new w 28 _
  have e0 := hX.cell 0
  have g0 := hX.lt
  have HS := Lib.hid hs
  have HT1 := Lib.hid t1
  have HT2 := Lib.hid t2
  clear hX hs t1 t2
  go_enter Try.func20, Try.ntmps20
  go_wp2_with fail
  generalize w.alloc (.cells #[.slice A l.length c] 28) = wb at *
  go_loop [5, 10] (fun a b => ∃ (k : Nat) (S : Int), a = .int .i64 S ∧ b = .int .i64 (k : Int) ∧ k ≤ l.length ∧ Hid (S = sm (l.take k))) (fun _ b => l.length - (intOf b).toNat)
  case atStart => exact ⟨0, 0, rfl, rfl, Nat.zero_le _, rfl⟩
  case round =>
    obtain ⟨k, S, rfl, rfl, hk, HSk⟩ := hrel
    by_cases hlt : k < l.length
    · obtain ⟨b, off, x, rfl, hlb, hx, hc⟩ := (hI.below hbb).at_ hlt
      have hki : (k : Int) < (l.length : Int) := by omega
      obtain ⟨px, hpx⟩ : ∃ px, px = posi x := ⟨_, rfl⟩
      obtain ⟨S2, hS2⟩ : ∃ S2, S2 = S + px := ⟨_, rfl⟩
      have hS2' : S2 = sm (l.take (k + 1)) := by rw [sm_at hx, ← HSk.out, ← hpx]; exact hS2
      have hS0 : 0 ≤ S := by rw [HSk.out]; exact sm_nonneg _
      have hSl : S2 ≤ sm l := by rw [hS2']; exact sm_take_le _ _
      have hal := HS.out
      have hp0 : 0 ≤ px := by rw [hpx, posi]; omega
      have w1 : IntKind.i64.wrap (S + max x 0) = S2 := by
        unfold posi at hpx
        rw [← hpx, hS2]
        exact wrap_in _ (by omega) (by omega)
      have w2 : wrap64 (S + max x 0) = S2 := (wrap64_is _).trans w1
      have HS3 := Lib.hid hS2'
      clear hS2 hS2' hS0 hSl hal hp0 hpx hx
      go_wp2_with fail
      go_round
      case rel => exact ⟨k + 1, S2, rfl, by go_num, by omega, HS3⟩
      case measure => simp [intOf]; omega
    · have hkl : k = l.length := by omega
      subst hkl
      have hSk := HSk.out
      rw [List.take_of_length_le (Nat.le_refl _)] at hSk
      have HSk2 := Lib.hid hSk
      clear hSk HSk
      go_wp2_with fail
      by_cases h0 : S = 0
      · subst h0
        have hnil : N = [] := by rw [HN.out]; exact shareL_zero HSk2.out.symm
        subst hnil
        refine (shareNil_calls total _ _ _).mono ?_
        rintro e w' ⟨rfl, rfl⟩
        go_wp2_with fail
        go_ret
        exact ⟨none, 0, rfl, .inl rfl, hbb⟩
      · have hne : sm l ≠ 0 := by rw [← HSk2.out]; exact h0
        have hNl : N.length = l.length := by rw [HN.out]; exact shareL_length hne
        refine (share2_calls total l _ HT1.out HT2.out hn hne S HSk2 (by rw [HSk2.out]; exact HS.out) w.heap.size c A e0 g0 (hI.on hbb)).mono ?_
        rintro e w' ⟨v, rfl, hO, hb2⟩
        rw [← HN.out, ← hNl] at hO
        obtain ⟨A', c', rfl, hIN⟩ := own_ints hO
        go_wp2_with fail
        go_ret
        exact ⟨A', c', ret_v (by rw [hNl]; rfl), hIN, Below.then_ hbb hb2⟩

theorem sm_rep (n k : Nat) (h : k ≤ n) : sm ((List.replicate n 1).take k) = k := by rw [List.take_replicate, Nat.min_eq_left h, sm_ones]
set_option maxHeartbeats 2000000 in
theorem split_calls (total parts : Int) (w : World) (t1 : -9223372036854775808 ≤ total) (t2 : total ≤ 9223372036854775807) (N : List Int) (HN : Hid ((parts < 1 ∨ 65536 < parts) ∧ N = [] ∨ (1 ≤ parts ∧ parts ≤ 65536) ∧ N = shareL total (List.replicate parts.toNat 1))) :
    Calls Try.prog 17 #[.int .i64 total, .int .i64 parts] w (Gives N w) := by
  have HT1 := Lib.hid t1
  have HT2 := Lib.hid t2
  clear t1 t2
  rcases Int.lt_or_le parts 1 with h1 | h1
  · have hnil : N = [] := by rcases HN.out with ⟨_, h⟩ | ⟨h, _⟩ <;> (first | exact h | omega)
    subst hnil
    have hd : decide (parts < 1) = true := decide_eq_true h1
    go_enter Try.func17, Try.ntmps17
    go_wp2_with fail
    go_ret
    exact ⟨none, 0, rfl, .inl rfl, Below.refl _ _⟩
  · rcases Int.lt_or_le 65536 parts with h2 | h2
    · have hnil : N = [] := by rcases HN.out with ⟨_, h⟩ | ⟨h, _⟩ <;> (first | exact h | omega)
      subst hnil
      go_enter Try.func17, Try.ntmps17
      go_wp2_with fail
      go_ret
      exact ⟨none, 0, rfl, .inl rfl, Below.refl _ _⟩
    · obtain ⟨n, hn⟩ : ∃ n : Nat, (n : Int) = parts := ⟨parts.toNat, by omega⟩
      have hN : N = shareL total (List.replicate n 1) := by
        rcases HN.out with ⟨h, _⟩ | ⟨_, h⟩
        · omega
        · rw [h, ← hn, Int.toNat_natCast]
      have hsm : sm (List.replicate n 1) = parts := by rw [sm_ones, hn]
      have hl : (List.replicate n (1 : Int)).length = n := List.length_replicate
      have C : Hid (∀ w : World, Calls Try.prog 26 #[.int .i64 total, .int .i64 parts, .int .i64 parts, .func (.func 27) #[] #[]] w (Gives N w)) := by
        intro w
        have h := share1_calls total (List.replicate n 1) w HT1.out HT2.out (by omega) (by omega) parts hsm.symm (by omega) (by
          intro k x hx
          rw [List.getElem?_replicate] at hx
          split at hx
          · injection hx with hx
            rw [← hx]
            rfl
          · cases hx)
        rw [hl, hn, ← hN] at h
        refine h.mono ?_
        rintro e w' ⟨v, rfl, hO, hb⟩
        have hNl : n = N.length := by rw [hN, shareL_length (by omega), hl]
        rw [hNl] at hO
        obtain ⟨A', c', rfl, hI⟩ := own_ints hO
        exact ⟨A', c', rfl, hI, hb⟩
      have hd : decide (parts < 1) = false := decide_eq_false (by omega)
      clear hn hN hsm hl
      go_enter Try.func17, Try.ntmps17
      go_wp2_with fail
      refine (C.out _).mono ?_
      rintro e w' ⟨A', c', rfl, hI, hb⟩
      go_wp2_with fail
      go_ret
      exact ⟨A', c', rfl, hI, hb⟩
end Go.Proofs.Ytdcmofdmjpggjaa
