/-
  Contracts of 'Sums', 'Share', 'Split', 'Room' of the reference. Conditions: the weights' sum is an int; at most 65536 of them.
-/
import Derived.Test.YtdcmofdmjpggjaaShare
import Derived.Deep.RegionHeld3
import Derived.Deep.AppendLies
namespace Go.Proofs.Ytdcmofdmjpggjaa
open Go.RowKit

/-- the sums of the first weights -/
def sumsL (l : List Int) : List Int := (List.range (l.length + 1)).map fun i => sm (l.take i)
theorem sumsL_length (l : List Int) : (sumsL l).length = l.length + 1 := by simp [sumsL]
theorem sumsL_get {l : List Int} {i : Nat} (h : i ≤ l.length) : (sumsL l)[i]? = some (sm (l.take i)) := by
  rw [sumsL, List.getElem?_map, List.getElem?_range (by omega)]
  rfl
theorem sumsL_take {l : List Int} {i : Nat} (h : i ≤ l.length) : (sumsL l).take (i + 1) = (sumsL l).take i ++ [sm (l.take i)] := take_at (sumsL_get h)

set_option maxHeartbeats 2000000 in
theorem sums_calls (A : Option Addr) (c : Nat) (l : List Int) (w : World) (hI : Ints w w.heap.size A l) (hn : l.length ≤ 65536) (hs : sm l ≤ 9223372036854775807) :
    Calls Try.prog 29 #[.slice A l.length c] w fun e w' => ∃ v, e = .returned v ∧ w'.ownsRow w.heap.size 3 1 v (l.length + 1) (ivs (sumsL l)) ∧ Below w.heap.size w w' := by
  obtain ⟨i3, hi, hz0, hz1, hz2⟩ := info_parts (show (Try.prog.info? 3).map (fun i => (i.zero, i.size, i.bytes)) = some (some (.int .i64 0), 1, 8) by kernel_rfl)
  have hb1 : Below w.heap.size w (w.alloc (.cells #[.int .i64 0] 3)) := (Below.refl _ _).alloc (Nat.le_refl _) _
  have hblk : Blk (w.alloc (.cells #[.int .i64 0] 3)) w.heap.size 3 (ivs [0]) := Blk.new w 3 (ivs [0])
  have hown : (w.alloc (.cells #[.int .i64 0] 3)).ownsRow w.heap.size 3 1 (.slice (some ⟨w.heap.size, 0, none⟩) 1 1) (0 + 1) (ivs ((sumsL l).take (0 + 1))) := by
    have h := hblk.own (base := w.heap.size) (n := 1) (Nat.le_refl _) rfl (by decide)
    rw [sumsL_take (Nat.zero_le _)]
    exact h
  have HS := Lib.hid hs
  clear hblk hs
  go_enter Try.func29, Try.ntmps29
  go_wp2_with fail
  go_loopw [3, 4] (fun v i wr => ∃ k : Nat, i = .int .i64 (k : Int) ∧ k ≤ l.length ∧ wr.ownsRow w.heap.size 3 1 v (k + 1) (ivs ((sumsL l).take (k + 1))) ∧ Below w.heap.size w wr) (fun _ i _ => l.length - (intOf i).toNat)
  case atStart => exact ⟨0, rfl, Nat.zero_le _, hown, hb1⟩
  case round =>
    obtain ⟨k, rfl, hk, hA, hb⟩ := hrel
    clear hown hb1
    have hsz := hb.size
    by_cases hlt : k < l.length
    · obtain ⟨g, cap, rfl, hR⟩ := own_row hA (by omega)
      obtain ⟨b, off, x, rfl, hlb, hx, hc⟩ := (hI.below hb).at_ hlt
      obtain ⟨S, hS, hcS, _⟩ := hR.at_ (k := k) (by omega)
      rw [List.getElem?_take_of_lt (by omega), sumsL_get hk] at hS
      injection hS with hS
      obtain ⟨px, hpx⟩ : ∃ px, px = posi x := ⟨_, rfl⟩
      obtain ⟨S2, hS2⟩ : ∃ S2, S2 = S + px := ⟨_, rfl⟩
      have hS2' : S2 = sm (l.take (k + 1)) := by rw [sm_at hx, hS, ← hpx]; exact hS2
      have hS0 : 0 ≤ S := by rw [← hS]; exact sm_nonneg _
      have hSl : S2 ≤ sm l := by rw [hS2']; exact sm_take_le _ _
      have hal := HS.out
      have hki : (k : Int) < (l.length : Int) := by omega
      have hki2 : (k : Int) < ((k + 1 : Nat) : Int) := by omega
      have w1 : IntKind.i64.wrap (S + px) = S2 := by rw [hS2]; exact wrap_in _ (by unfold posi at hpx; omega) (by omega)
      have w2 : wrap64 (S + px) = S2 := (wrap64_is _).trans w1
      have HT : Hid (ivs ((sumsL l).take (k + 1)) ++ [.int .i64 S2] = ivs ((sumsL l).take (k + 1 + 1))) := Lib.hid (by rw [sumsL_take (i := k + 1) (by omega), ← hS2', ivs_snoc])
      unfold posi at hpx
      rcases Int.lt_or_le 0 x with h | h
      · have e : px = x := by omega
        subst e
        clear hS2 hS2' hS0 hSl hal hpx hx hS hR
        go_wp2_with (at_builtin; refine wpList_append_own_at _ rfl (.tmp 28) (.tmp 30) 28 rfl w.heap.size 3 i3 (.int .i64 0) 1 8 Try.underlying28 hi hz0 hz1 hz2 rfl (by decide) _ _ _ rfl (hA.alloc _) ⟨wr.heap.size, 0, none⟩ 1 1 [.int .i64 S2] rfl rfl (cell_one_new _ _ _) (one_cell _ rfl) (by unfold maxLen; omega) (by omega) (by simp; omega) ?_; intro vA' w3 hA1 hg1 _ ha1; have hb2 := push_below hb (Nat.le_refl _) hA hg1)
        go_roundw
        case rel => exact ⟨k + 1, by go_num, by omega, by rw [← HT.out]; exact hA1, hb2⟩
        case measure => simp [intOf]; omega
      · have e : px = 0 := by omega
        have hSS : S2 = S := by omega
        subst hSS
        clear hS2 hS2' hS0 hSl hal hpx hx hS hR w1 w2
        go_wp2_with (at_builtin; refine wpList_append_own_at _ rfl (.tmp 28) (.tmp 30) 28 rfl w.heap.size 3 i3 (.int .i64 0) 1 8 Try.underlying28 hi hz0 hz1 hz2 rfl (by decide) _ _ _ rfl (hA.alloc _) ⟨wr.heap.size, 0, none⟩ 1 1 [.int .i64 S2] rfl rfl (cell_one_new _ _ _) (one_cell _ rfl) (by unfold maxLen; omega) (by omega) (by simp; omega) ?_; intro vA' w3 hA1 hg1 _ ha1; have hb2 := push_below hb (Nat.le_refl _) hA hg1)
        go_roundw
        case rel => exact ⟨k + 1, by go_num, by omega, by rw [← HT.out]; exact hA1, hb2⟩
        case measure => simp [intOf]; omega
    · have hkl : k = l.length := by omega
      subst hkl
      rw [List.take_of_length_le (by rw [sumsL_length]; exact Nat.le_refl _)] at hA
      go_wp2_with fail
      go_ret
      exact ⟨_, rfl, hA, hb⟩

theorem cell_at {w : World} {B b off : Nat} {l : List Int} (h : Ints w B (some ⟨b, off, none⟩) l) {k : Nat} {x : Int} (hx : Hid (l[k]? = some x)) : w.cell? ⟨b, off + k, none⟩ = some (.int .i64 x) := by
  rcases h with rfl | ⟨b', off', hA, _, hc⟩
  · have := hx.out
    simp at this
  · injection hA with hA
    injection hA with h1 h2 _
    subst h1
    subst h2
    exact hc k x hx.out
set_option maxHeartbeats 4000000 in
theorem refShare_calls (total : Int) (A : Option Addr) (c : Nat) (l : List Int) (w : World) (hI : Ints w w.heap.size A l) (t1 : -9223372036854775808 ≤ total) (t2 : total ≤ 9223372036854775807) (hn : l.length ≤ 65535) (hs : sm l ≤ 9223372036854775807) (N : List Int) (HN : Hid (N = shareL total l)) :
    Calls Try.prog 21 #[.int .i64 total, .slice A l.length c] w (Gives N w) := by
  obtain ⟨i3, hi, hz0, hz1, hz2⟩ := info_parts (show (Try.prog.info? 3).map (fun i => (i.zero, i.size, i.bytes)) = some (some (.int .i64 0), 1, 8) by kernel_rfl)
  obtain ⟨all, hall⟩ : ∃ all, all = sm l := ⟨_, rfl⟩
  have ha0 : 0 ≤ all := by rw [hall]; exact sm_nonneg l
  have HT1 := Lib.hid t1
  have HT2 := Lib.hid t2
  have HS := Lib.hid hs
  have HA := Lib.hid hall
  clear t1 t2 hall hs
  go_enter Try.func21, Try.ntmps21
  go_wp2_with fail
  refine (sums_calls A c l _ hI (by omega) HS.out).mono ?_
  rintro e w1 ⟨v1, rfl, hO1, hb1⟩
  rw [← sumsL_length l] at hO1
  obtain ⟨AL, cL, rfl, hIL⟩ := own_ints hO1
  have hI1 := hI.on hb1
  obtain ⟨bL, offL, xL, rfl, hlL, hxL, hcL⟩ := hIL.at_ (k := l.length) (by rw [sumsL_length]; omega)
  rw [sumsL_get (Nat.le_refl _), List.take_of_length_le (Nat.le_refl _), ← HA.out] at hxL
  injection hxL with hxL
  subst hxL
  obtain ⟨m, hm⟩ : ∃ m, m = l.length + 1 := ⟨_, rfl⟩
  have hki : (l.length : Int) < (m : Int) := by omega
  rw [sumsL_length, ← hm]
  have HM := Lib.hid hm
  clear hO1 hm
  by_cases h0 : all = 0
  · subst h0
    have hnil : N = [] := by rw [HN.out]; exact shareL_zero HA.out.symm
    subst hnil
    go_wp2_with fail
    go_ret
    exact ⟨none, 0, rfl, .inl rfl, hb1⟩
  · have hne : sm l ≠ 0 := by rw [← HA.out]; exact h0
    have hd0 : (all == 0) = false := by simpa using h0
    have HNE := Lib.hid hne
    have ha1 : 1 ≤ all := by omega
    clear h0 hne ha0
    go_wp2_with fail
    go_loopw [7, 8] (fun v i wr => ∃ k : Nat, i = .int .i64 (k : Int) ∧ k ≤ l.length ∧ wr.ownsRow w1.heap.size 3 1 v k (ivs ((shareL total l).take k)) ∧ Below w1.heap.size w1 wr) (fun _ i _ => l.length - (intOf i).toNat)
    case atStart => exact ⟨0, rfl, Nat.zero_le _, World.ownsRow_nil _ _ _ _, Below.refl _ _⟩
    case round =>
      obtain ⟨k, rfl, hk, hA, hb⟩ := hrel
      have hsz := hb.size
      by_cases hlt : k < l.length
      · obtain ⟨S, hSdef⟩ : ∃ S, S = sm (l.take k) := ⟨_, rfl⟩
        obtain ⟨S2, hS2def⟩ : ∃ S2, S2 = sm (l.take (k + 1)) := ⟨_, rfl⟩
        have c0 : wr.cell? ⟨bL, offL + k, none⟩ = some (.int .i64 S) := cell_at (hIL.below hb) (by unfold Hid; rw [hSdef]; exact sumsL_get hk)
        have c1 : wr.cell? ⟨bL, offL + (k + 1), none⟩ = some (.int .i64 S2) := cell_at (hIL.below hb) (by unfold Hid; rw [hS2def]; exact sumsL_get (by omega))
        have hlw : bL < wr.heap.size := Nat.lt_of_lt_of_le hlL hsz
        obtain ⟨P, hP⟩ : ∃ P, P = partOf total S all := ⟨_, rfl⟩
        obtain ⟨P2, hP2⟩ : ∃ P2, P2 = partOf total S2 all := ⟨_, rfl⟩
        obtain ⟨d, hdd⟩ : ∃ d, d = IntKind.i64.wrap (P2 - P) := ⟨_, rfl⟩
        have hdif : d = dif total l k := by rw [hdd, hP2, hP, hS2def, hSdef, HA.out]; rfl
        have HT : Hid (ivs ((shareL total l).take k) ++ [.int .i64 d] = ivs ((shareL total l).take (k + 1))) := Lib.hid (by rw [shareL_take HNE.out hlt, ← hdif, ivs_snoc])
        have C0 : Hid (∀ w : World, Calls Try.prog 30 #[.int .i64 total, .int .i64 S, .int .i64 all] w fun e w' => e = .returned (.int .i64 P) ∧ w = w') :=
          fun w => refPart_calls total S all HT1.out HT2.out (by rw [hSdef]; exact sm_nonneg _) (by rw [hSdef, HA.out]; exact sm_take_le _ _) ha1 (by rw [HA.out]; exact HS.out) w P hP
        have C1 : Hid (∀ w : World, Calls Try.prog 30 #[.int .i64 total, .int .i64 S2, .int .i64 all] w fun e w' => e = .returned (.int .i64 P2) ∧ w = w') :=
          fun w => refPart_calls total S2 all HT1.out HT2.out (by rw [hS2def]; exact sm_nonneg _) (by rw [hS2def, HA.out]; exact sm_take_le _ _) ha1 (by rw [HA.out]; exact HS.out) w P2 hP2
        have q3 : IntKind.i64.wrap (P2 - P) = d := hdd.symm
        have q4 : wrap64 (P2 - P) = d := (wrap64_is _).trans q3
        obtain ⟨j, hj⟩ : ∃ j, j = k + 1 := ⟨_, rfl⟩
        have q5 : IntKind.i64.wrap ((k : Int) + 1) = (j : Int) := by rw [wrap_in _ (by omega) (by omega)]; omega
        have hk1 : (j : Int) < (m : Int) := by have := HM.out; omega
        have hk2 : (k : Int) < (m : Int) := by omega
        rw [← hj] at c1
        have HJ := Lib.hid hj
        obtain ⟨Av, cv, rfl⟩ := own_form hA
        have hgb : ∀ g, (Value.slice Av k cv).ownBlock = some g → w1.heap.size ≤ g := fun g hg => (hA.lt g hg).1
        have hav : (Value.slice Av k cv).ownBlock ≠ some bL := by
          intro e
          have := hgb bL e
          omega
        have hav2 := Ne.symm hav
        clear hSdef hS2def hP hP2 hdd hdif hgb hj
        go_wp2_with fail
        go_region_held3 (fun w' => w'.cell? ⟨bL, offL + k, none⟩ = some (.int .i64 S) ∧ w'.cell? ⟨bL, offL + j, none⟩ = some (.int .i64 S2))
          (first
            | go_keep
            | (go_split_ands
               refine ⟨?_, ?_⟩
               · (rw [hgrow.cell_far _ (by simp; omega) hav2]; assumption)
               · (rw [hgrow.cell_far _ (by simp; omega) hav2]; assumption)))
          (first
            | (go_at_call 30; (with_reducible refine (C0.out _).mono ?_); rintro e w' ⟨rfl, rfl⟩)
            | (go_at_call 30; (with_reducible refine (C1.out _).mono ?_); rintro e w' ⟨rfl, rfl⟩)
            | (refine step_append_lies _ (by rfl) _ _ _ (by rfl) w1.heap.size 3 i3 _ 1 8 Try.underlying28 hi hz0 hz1 hz2 rfl (by omega) (.slice Av k cv) k _ (by rfl) ((hA.alloc _).drew)
                ⟨wr.heap.size, 0, none⟩ 1 1 [.int .i64 d] (by rfl) (by rfl) (World.news_of_block (cs := #[.int .i64 d]) (t := 3) (fr := (0, 0)) (heap_alloc_new wr _)) (by simp [Value.oneCell'])
                (by omega) (by unfold maxLen; omega) (by omega) (by simp; omega) (wr.heap.size + 1) (by simp) ?_; intro gg cap w4 hown1 hgrow hat hlt))
        have hb2 := push_below hb (Nat.le_refl _) hA ⟨hgrow.os, hgrow.tape, hgrow.output, hgrow.size, hgrow.block⟩
        rw [HT.out] at hown1
        clear q3 q4 q5
        go_wp2_with fail
        go_roundw
        case rel => exact ⟨k + 1, by go_num, by omega, hown1, hb2⟩
        case measure => simp [intOf]; omega
      · have hkl : k = l.length := by omega
        subst hkl
        rw [List.take_of_length_le (by rw [shareL_length HNE.out]; exact Nat.le_refl _), ← HN.out] at hA
        have hNl : N.length = l.length := by rw [HN.out]; exact shareL_length HNE.out
        rw [← hNl] at hA
        obtain ⟨A', c', rfl, hIN⟩ := own_ints hA
        go_wp2_with fail
        go_ret
        exact ⟨A', c', ret_v (by rw [hNl]; rfl), hIN, Below.then_ hb1 hb⟩

set_option maxHeartbeats 2000000 in
theorem refSplit_calls (total parts : Int) (w : World) (t1 : -9223372036854775808 ≤ total) (t2 : total ≤ 9223372036854775807) (N : List Int) (HN : Hid ((parts < 1 ∨ 65536 < parts) ∧ N = [] ∨ (1 ≤ parts ∧ parts ≤ 65536) ∧ N = shareL total (List.replicate parts.toNat 1))) (h200 : parts ≤ 200 ∨ 65536 < parts) :
    Calls Try.prog 18 #[.int .i64 total, .int .i64 parts] w (Gives N w) := by
  have HT1 := Lib.hid t1
  have HT2 := Lib.hid t2
  clear t1 t2
  rcases Int.lt_or_le parts 1 with h1 | h1
  · have hnil : N = [] := by rcases HN.out with ⟨_, h⟩ | ⟨h, _⟩ <;> (first | exact h | omega)
    subst hnil
    have hd : decide (parts < 1) = true := decide_eq_true h1
    clear h200
    go_enter Try.func18, Try.ntmps18
    go_wp2_with fail
    go_ret
    exact ⟨none, 0, rfl, .inl rfl, Below.refl _ _⟩
  · rcases Int.lt_or_le 65536 parts with h2 | h2
    · have hnil : N = [] := by rcases HN.out with ⟨_, h⟩ | ⟨h, _⟩ <;> (first | exact h | omega)
      subst hnil
      clear h200
      go_enter Try.func18, Try.ntmps18
      go_wp2_with fail
      go_ret
      exact ⟨none, 0, rfl, .inl rfl, Below.refl _ _⟩
    · have h3 : parts ≤ 200 := by omega
      obtain ⟨n, hn⟩ : ∃ n : Nat, (n : Int) = parts := ⟨parts.toNat, by omega⟩
      have hN : N = shareL total (List.replicate n 1) := by
        rcases HN.out with ⟨h, _⟩ | ⟨_, h⟩
        · omega
        · rw [h, ← hn, Int.toNat_natCast]
      subst hn
      have HN2 := Lib.hid hN
      have hn200 : n ≤ 200 := by omega
      obtain ⟨i3, hi, hz0, hz1, hz2⟩ := info_parts (show (Try.prog.info? 3).map (fun i => (i.zero, i.size, i.bytes)) = some (some (.int .i64 0), 1, 8) by kernel_rfl)
      have hd : decide ((n : Int) < 1) = false := decide_eq_false (by omega)
      have hd2 : decide (65536 < (n : Int)) = false := decide_eq_false (by omega)
      clear hN h200 HN
      go_enter Try.func18, Try.ntmps18
      go_wp2_with fail
      go_loopw [5, 6] (fun v i wr => ∃ k : Nat, i = .int .i64 (k : Int) ∧ k ≤ n ∧ wr.ownsRow w.heap.size 3 1 v k (ivs (List.replicate k 1)) ∧ Below w.heap.size w wr) (fun _ i _ => n - (intOf i).toNat)
      case atStart => exact ⟨0, rfl, Nat.zero_le _, World.ownsRow_nil _ _ _ _, Below.refl _ _⟩
      case round =>
        obtain ⟨k, rfl, hk, hA, hb⟩ := hrel
        have hsz := hb.size
        by_cases hlt : k < n
        · obtain ⟨Av, cv, rfl⟩ := own_form hA
          have hki : (k : Int) < (n : Int) := by omega
          have HT : Hid (ivs (List.replicate k 1) ++ [.int .i64 1] = ivs (List.replicate (k + 1) 1)) := Lib.hid (by rw [ivs_snoc, ← List.replicate_succ'])
          go_wp2_with (at_builtin; refine wpList_append_own_at _ rfl (.tmp 18) (.tmp 19) 28 rfl w.heap.size 3 i3 (.int .i64 0) 1 8 Try.underlying28 hi hz0 hz1 hz2 rfl (by decide) _ _ _ rfl (hA.alloc _) ⟨wr.heap.size, 0, none⟩ 1 1 [.int .i64 1] rfl rfl (cell_one_new _ _ _) (one_cell _ rfl) (by unfold maxLen; omega) (by omega) (by simp; omega) ?_; intro vA' w3 hA1 hg1 _ ha1; have hb2 := push_below hb (Nat.le_refl _) hA hg1)
          go_roundw
          case rel => exact ⟨k + 1, by go_num, by omega, by rw [← HT.out]; exact hA1, hb2⟩
          case measure => simp [intOf]; omega
        · have hkl : k = n := by omega
          subst hkl
          have hki : ¬ (k : Int) < (k : Int) := by omega
          have hl : (List.replicate k (1 : Int)).length = k := List.length_replicate
          have hA' : wr.ownsRow w.heap.size 3 1 u5 (List.replicate k (1 : Int)).length (ivs (List.replicate k 1)) := by rw [hl]; exact hA
          obtain ⟨A, c, rfl, hI⟩ := own_ints hA'
          have C : Hid (Calls Try.prog 21 #[.int .i64 total, .slice A k c] wr (Gives N wr)) := by
            have h := refShare_calls total A c (List.replicate k 1) wr hI HT1.out HT2.out (by omega) (by rw [sm_ones]; omega) N HN2
            rw [hl] at h
            exact h
          rw [hl]
          clear hl hA hA'
          go_wp2_with fail
          refine C.out.mono ?_
          rintro e w' ⟨A', c', rfl, hIN, hb2⟩
          go_wp2_with fail
          go_ret
          exact ⟨A', c', rfl, hIN, Below.then_ hb hb2⟩

/-- the answer of 'Room' -/
def roomB (l : List Int) : Bool := decide (sm l ≤ 9223372036854775807)
theorem room_no {l : List Int} {k : Nat} {x : Int} (h : l[k]? = some x) (hx : 9223372036854775807 - sm (l.take k) < x) : roomB l = false := by
  have h1 := sm_at h
  have h2 := sm_take_le l (k + 1)
  have h3 : x ≤ posi x := by unfold posi; omega
  exact decide_eq_false (by omega)
set_option maxHeartbeats 2000000 in
theorem room_calls (A : Option Addr) (c : Nat) (l : List Int) (w : World) (hI : Ints w w.heap.size A l) (hn : l.length ≤ 65536) (hlb : ∀ x ∈ l, -9223372036854775808 ≤ x ∧ x ≤ 9223372036854775807) (b : Bool) (H : Hid (b = roomB l)) :
    Calls Try.prog 19 #[.slice A l.length c] w fun e w' => e = .returned (.bool b) ∧ w = w' := by
  have HB := Lib.hid hlb
  clear hlb
  go_enter Try.func19, Try.ntmps19
  go_wp2_with fail
  go_loop [3, 4] (fun a i => ∃ (k : Nat) (L : Int), a = .int .i64 L ∧ i = .int .i64 (k : Int) ∧ k ≤ l.length ∧ Hid (L = 9223372036854775807 - sm (l.take k)) ∧ Hid (0 ≤ L)) (fun _ i => l.length - (intOf i).toNat)
  case atStart => exact ⟨0, 9223372036854775807, rfl, rfl, Nat.zero_le _, Lib.hid (by simp [sm]), Lib.hid (by omega)⟩
  case round =>
    obtain ⟨k, L, rfl, rfl, hk, HL, HL0⟩ := hrel
    by_cases hlt : k < l.length
    · obtain ⟨b', off, x, rfl, hlb, hx, hc⟩ := hI.at_ hlt
      have hki : (k : Int) < (l.length : Int) := by omega
      have hsa := sm_at hx
      have hl := HL.out
      have hl0 := HL0.out
      have hxb := HB.out x (List.mem_of_getElem? hx)
      have hs0 := sm_nonneg (l.take k)
      rcases Int.lt_or_le L x with h | h
      · have hb : b = false := by rw [H.out]; exact room_no hx (by omega)
        subst hb
        clear hsa hl hl0 hxb hs0 hx
        go_wp2_with fail
        go_ret
        exact ⟨rfl, rfl⟩
      · rcases Int.lt_or_le 0 x with h0 | h0
        · obtain ⟨L2, hL2⟩ : ∃ L2, L2 = L - x := ⟨_, rfl⟩
          have w1 : IntKind.i64.wrap (L - x) = L2 := by rw [hL2]; exact wrap_in _ (by omega) (by omega)
          have w2 : wrap64 (L - x) = L2 := (wrap64_is _).trans w1
          have HL2 : Hid (L2 = 9223372036854775807 - sm (l.take (k + 1))) := Lib.hid (by rw [hsa, hL2, posi]; omega)
          have HL3 : Hid (0 ≤ L2) := Lib.hid (by omega)
          clear hsa hl hl0 hxb hs0 hx hL2
          go_wp2_with fail
          go_round
          case rel => exact ⟨k + 1, L2, rfl, by go_num, by omega, HL2, HL3⟩
          case measure => simp [intOf]; omega
        · have HL2 : Hid (L = 9223372036854775807 - sm (l.take (k + 1))) := Lib.hid (by rw [hsa, posi]; omega)
          clear hsa hl hl0 hxb hs0 hx
          go_wp2_with fail
          go_round
          case rel => exact ⟨k + 1, L, rfl, by go_num, by omega, HL2, HL0⟩
          case measure => simp [intOf]; omega
    · have hb : b = true := by
        rw [H.out]
        have hl := HL.out
        have hl0 := HL0.out
        rw [List.take_of_length_le (by omega)] at hl
        exact decide_eq_true (by omega)
      subst hb
      go_wp2_with fail
      go_ret
      exact ⟨rfl, rfl⟩
end Go.Proofs.Ytdcmofdmjpggjaa
