/-
  Contracts of 'held', of the closures that 'rounds' is handed, and of 'rounds' itself.
-/
import Derived.Test.YtlcijmllffablaaTurn
import Derived.Test.YtlcijmllffablaaRev
namespace Go.Proofs.Ytlcijmllffablaa
open Go.RowKit

theorem held_calls (n h : Int) (H : Hid (held n = h)) (w : World) : Calls Try.prog 27 #[.int .i64 n] w fun e w' => e = .returned (.int .i64 h) ∧ w = w' := by
  have HH := H.out
  go_enter Try.func27, Try.ntmps27
  go_wp2
  all_goals
    go_ret
    exact ⟨ret_int (by rw [← H.out]; simp [held]; omega), rfl⟩

theorem none_calls (v : Value) (w : World) : Calls Try.prog 24 #[v] w fun e w' => e = .returned (.tuple #[]) ∧ w = w' := by
  go_enter Try.func24, Try.ntmps24
  go_wp2
  go_end0
  exact ⟨rfl, rfl⟩

theorem count_calls (v : Value) (g : Nat) (n : Int) (w : World) (hc : w.cell? ⟨g, 0, none⟩ = some (.int .i64 n)) (hf : w.frozen? ⟨g, 0, none⟩ = false) (h0 : 0 ≤ n) (h1 : n ≤ 1000000) :
    Calls Try.prog 25 #[v, .pointer (some ⟨g, 0, none⟩)] w fun e w' => e = .returned (.tuple #[]) ∧ w.setCell ⟨g, 0, none⟩ (.int .i64 (n + 1)) = w' := by
  go_enter Try.func25, Try.ntmps25
  go_wp2
  go_end0
  exact ⟨rfl, rfl⟩

/-- the order's row as the first loop has filled it: k numbers -/
def Fill (n k : Nat) (C : List Int) : Prop := C.length = n ∧ ∀ t, t < k → C[t]? = some (t : Int)
theorem fill_step {n k : Nat} {C : List Int} (h : Fill n k C) (hk : k < n) : Fill n (k + 1) (C.set k k) := by
  obtain ⟨h1, h2⟩ := h
  refine ⟨by simpa using h1, fun t ht => ?_⟩
  by_cases e : t = k
  · subst e
    rw [List.getElem?_set_self (by omega)]
  · rw [List.getElem?_set_ne (by omega)]
    exact h2 t (by omega)
theorem fill_end {n : Nat} {C : List Int} (h : Fill n n C) : C = ints (List.range n) := by
  obtain ⟨h1, h2⟩ := h
  apply List.ext_getElem?
  intro t
  rw [ints_get]
  by_cases ht : t < n
  · rw [h2 t ht, List.getElem?_range ht]; rfl
  · rw [List.getElem?_eq_none (by omega), List.getElem?_eq_none (by simp; omega)]; rfl
theorem lvl_at {l : List Int} {i : Nat} {x h : Int} (hx : l[i]? = some x) (hh : held x = h) : lvl l i = h := by
  unfold lvl
  rw [List.getD_eq_getElem?_getD, hx]
  exact hh
theorem turned_ints (off m : Nat) (o : List Nat) : turned off m (ints o) = ints (turned off m o) := by
  simp [turned, ints, List.map_take, List.map_drop]
/-- all numbers of the order are places -/
def Places (n : Nat) (o : List Nat) : Prop := o.length = n ∧ ∀ x ∈ o, x < n
theorem places_at {n : Nat} {o : List Nat} (h : Places n o) {k : Nat} (hk : k < n) : ∃ x, o[k]? = some x ∧ x < n := by
  have hk' : k < o.length := by rw [h.1]; exact hk
  exact ⟨o[k], List.getElem?_eq_getElem hk', h.2 _ (List.getElem_mem hk')⟩
theorem places_rev {n : Nat} {o : List Nat} (p : Nat → Bool) (h : Places n o) : Places n (rev p [] o) :=
  ⟨by rw [rev_length]; simpa using h.1, fun x hx => h.2 x (by rw [rev_mem] at hx; simpa using hx)⟩
theorem places_turned {n : Nat} {o : List Nat} (off m : Nat) (h : Places n o) (hm : off + m ≤ n) : Places n (turned off m o) := by
  refine ⟨by rw [turned_length _ _ _ (by rw [h.1]; exact hm)]; exact h.1, fun x hx => h.2 x ?_⟩
  simp only [turned, List.mem_append, List.mem_reverse] at hx
  rcases hx with (hx | hx) | hx
  · exact List.mem_of_mem_take hx
  · exact List.mem_of_mem_drop (List.mem_of_mem_take hx)
  · exact List.mem_of_mem_drop hx
theorem places_range (n : Nat) : Places n (List.range n) := ⟨by simp, fun x hx => by simpa using hx⟩
theorem run_step {p : Nat → Bool} {o : List Nat} {f t x : Nat} (h : Run p o f t) (hx : o[t]? = some x) (hp : p x = true) : Run p o f (t + 1) := by
  intro j y h1 h2 hy
  by_cases e : j = t
  · subst e
    rw [hx] at hy
    injection hy with hy
    rw [← hy]
    exact hp
  · exact h j y h1 (by omega) hy
theorem cnt_le (p : Nat → Bool) : ∀ (o : List Nat) (b : Bool), cnt p b o ≤ o.length
  | [], b => by simp [cnt]
  | x :: r, b => by
    rw [cnt]
    have h1 := cnt_le p r true
    have h2 := cnt_le p r false
    simp only [List.length_cons]
    split
    · split <;> omega
    · omega

set_option maxHeartbeats 1000000 in
theorem roundsV_calls (A : Option Addr) (c : Nat) (l : List Int) (w : World) (hI : Ints w w.heap.size A l) (hn : l.length ≤ 100) :
    Calls Try.prog 23 #[.slice A l.length c, Value.func (Fn.func 24) #[] #[]] w fun e w' => e = .returned (.slice (some ⟨w.heap.size, 0, none⟩) l.length l.length) ∧ Blk w' w.heap.size 3 (ivs (ints (rounds l).1)) ∧ Below w.heap.size w w' := by
  obtain ⟨i3, hi, hz0, hz1, hz2⟩ := info_parts (show (Try.prog.info? 3).map (fun i => (i.zero, i.size, i.bytes)) = some (some (.int .i64 0), 1, 8) by kernel_rfl)
  obtain ⟨g, hg⟩ : ∃ g, g = w.heap.size := ⟨_, rfl⟩
  go_enter Try.func23, Try.ntmps23
  go_wp2_with (at_make; refine wpList_make_full _ rfl _ _ _ rfl w.heap.size 3 i3 (.int .i64 0) 1 Try.underlying22 hi hz0 hz1 .i64 .i64 l.length l.length l.length rfl rfl rfl rfl (by rw [hz2]; omega) (by unfold maxLen; omega) (Nat.le_refl _) ?_; intro w1 hown hgrow)
  have hb1 : Below w.heap.size w w1 := (Below.refl _ _).grown hgrow (Nat.le_refl _) (by intro k hk; cases hk)
  have hblk := own_blk hown
  rw [zeros_int] at hblk
  clear hown hgrow hi hz0 hz1 hz2
  rw [← hg] at hblk ⊢
  have hBg : w.heap.size ≤ g := by omega
  have HG := Lib.hid hg
  clear hg
  go_loopw [6, 7, 18] (fun a b i wr => ∃ (k : Nat) (ma le : Int) (C : List Int), i = .int .i64 k ∧ k ≤ l.length ∧ a = .int .i64 ma ∧ b = .int .i64 le ∧ Hid (ma = most (l.take k)) ∧ Hid (le = least (l.take k)) ∧ Blk wr g 3 (ivs C) ∧ Hid (Fill l.length k C) ∧ Below w.heap.size w wr) (fun _ _ i _ => l.length - (intOf i).toNat)
  case atStart => exact ⟨0, 0, 127, _, rfl, Nat.zero_le _, rfl, rfl, rfl, rfl, hblk, ⟨by simp, by intro t ht; omega⟩, hb1⟩
  case round =>
    obtain ⟨k, ma, le, C, rfl, hk, rfl, rfl, Hma, Hle, hC, HF, hb⟩ := hrel
    clear hblk hb1
    by_cases hlt : k < l.length
    · obtain ⟨b, off, x, rfl, hlb, hx, hc⟩ := (hI.below hb).at_ hlt
      have hcell : wr.cell? ⟨g, k, none⟩ = some (.int .i64 (C[k]'(by rw [HF.out.1]; exact hlt))) := by rw [hC.cell, ivs_get, List.getElem?_eq_getElem]; rfl
      have hfz : wr.frozen? ⟨g, k, none⟩ = false := hC.frozen k
      have hT := take_at hx
      have HT := Lib.hid hT
      obtain ⟨h, hh⟩ : ∃ h, held x = h := ⟨_, rfl⟩
      have h0 : 0 ≤ h := by rw [← hh]; exact held_ge x
      have h1 : h ≤ 126 := by rw [← hh]; exact held_le x
      have HH := Lib.hid hh
      have hC' := hC.set_ k (.int .i64 k)
      rw [ivs_set] at hC'
      have hm0 := (most_bd (l.take k)).1
      rw [← Hma.out] at hm0
      clear hx hT hh
      by_cases hodd : h % 2 = 1
      · have hd : (h % 2 == 1) = true := by simpa using hodd
        have HO := Lib.hid hodd
        clear hodd
        go_wp2_with (go_at_call 27; refine (held_calls _ _ HH _).mono ?_; rintro e w' ⟨rfl, rfl⟩)
        all_goals
          go_roundw
          case rel =>
            refine ⟨k + 1, _, _, _, by go_num, by omega, rfl, rfl, ?_, ?_, hC', fill_step HF.out hlt, hb.setCell hBg _⟩
            · unfold Hid; rw [HT.out, most_snoc, ← Hma.out, HH.out]; omega
            · unfold Hid; rw [HT.out, least_snoc, ← Hle.out, HH.out, if_pos HO.out]; omega
          case measure => simp [intOf]; omega
      · have hd : (h % 2 == 1) = false := by simpa using hodd
        have HO := Lib.hid hodd
        clear hodd
        go_wp2_with (go_at_call 27; refine (held_calls _ _ HH _).mono ?_; rintro e w' ⟨rfl, rfl⟩)
        all_goals
          go_roundw
          case rel =>
            refine ⟨k + 1, _, _, _, by go_num, by omega, rfl, rfl, ?_, ?_, hC', fill_step HF.out hlt, hb.setCell hBg _⟩
            · unfold Hid; rw [HT.out, most_snoc, ← Hma.out, HH.out]; omega
            · unfold Hid; rw [HT.out, least_snoc, ← Hle.out, HH.out, if_neg HO.out]
          case measure => simp [intOf]; omega
    · have hkl : k = l.length := by omega
      subst hkl
      rw [List.take_of_length_le (Nat.le_refl _)] at Hma Hle
      have hM := most_bd l
      have hL := least_bd l
      rw [← Hma.out] at hM
      rw [← Hle.out] at hL
      obtain ⟨hM0, hM1⟩ := hM
      obtain ⟨hL0, hL1⟩ := hL
      rw [fill_end HF.out] at hC
      have HRR : Hid (rounds l = loopR l le (ma + 1 - le).toNat (List.range l.length) 0) := by unfold Hid rounds; rw [← Hma.out, ← Hle.out]
      clear HF Hma Hle
      generalize hRR : rounds l = RN at HRR
      have HRN := Lib.hid hRR
      clear hRR
      obtain ⟨wo, rfl⟩ : ∃ wo : World, wo = wr := ⟨_, rfl⟩
      go_wp2
      go_loopw [10] (fun a wr => ∃ (k : Int) (o : List Nat) (n : Nat), a = .int .i64 k ∧ 0 ≤ k ∧ k ≤ 126 ∧ Hid (RN = loopR l le (k + 1 - le).toNat o n) ∧ Hid (Places l.length o) ∧ Blk wr g 3 (ivs (ints o)) ∧ (n : Int) + 100 * k ≤ 12600 ∧ Below w.heap.size w wr) (fun a _ => (intOf a).toNat)
      case atStart => exact ⟨ma, List.range l.length, 0, rfl, hM0, hM1, HRR, places_range _, hC, by omega, hb⟩
      case round =>
        obtain ⟨k, o, n, rfl, hk0, hk1, HL, HP, hO, hnk, hb2⟩ := hrel
        clear hC hb HRR
        obtain ⟨wp, rfl⟩ : ∃ wp : World, wp = wr := ⟨_, rfl⟩
        by_cases hkl : le ≤ k
        · have HL2 : Hid (RN = loopR l le (k - 1 + 1 - le).toNat (rev (ge l k) [] o) (n + cnt (ge l k) false o)) := by
            unfold Hid
            rw [HL.out, show (k + 1 - le).toNat = (k - 1 + 1 - le).toNat + 1 from by omega, loopR, show le + ((k - 1 + 1 - le).toNat : Int) = k from by omega]
          have hcl := cnt_le (ge l k) o false
          rw [HP.out.1] at hcl
          have HP2 := Lib.hid (places_rev (ge l k) HP.out)
          have HM := Lib.hid (mid_start (ge l k) o n)
          generalize rev (ge l k) [] o = R1 at HL2 HM HP2
          generalize cnt (ge l k) false o = N1 at HL2 HM hcl
          have hN1 : ((n + N1 : Nat) : Int) + 100 * (k - 1) ≤ 12600 := by omega
          clear HL
          go_wp2
          go_loopw [11] (fun a wr => ∃ (i : Nat) (o : List Nat) (n' : Nat), a = .int .i64 i ∧ i ≤ l.length ∧ Hid (Mid (ge l k) o n' R1 (n + N1) i) ∧ Hid (Places l.length o) ∧ Blk wr g 3 (ivs (ints o)) ∧ Below w.heap.size w wr) (fun a _ => l.length - (intOf a).toNat)
          case atStart => exact ⟨0, o, n, rfl, Nat.zero_le _, HM, HP, hO, hb2⟩
          case round =>
            obtain ⟨i, o1, n1, rfl, hi, HM1, HP1, hO1, hb3⟩ := hrel
            clear HM HP hO hb2
            obtain ⟨wq, rfl⟩ : ∃ wq : World, wq = wr := ⟨_, rfl⟩
            by_cases hil : i < l.length
            · go_wp2
              go_loop [11] (fun a => ∃ t : Nat, a = .int .i64 t ∧ i ≤ t ∧ t ≤ l.length ∧ Hid (Run (ge l k) o1 i t)) (fun a => l.length - (intOf a).toNat)
              case atStart => exact ⟨i, rfl, Nat.le_refl _, hi, by intro j x h1 h2; omega⟩
              case round =>
                obtain ⟨t, rfl, hit, htl, HR⟩ := hrel
                by_cases htn : t < l.length
                · obtain ⟨x, hx, hxn⟩ := places_at HP1.out htn
                  obtain ⟨b, off, v, rfl, hlb, hv, hc⟩ := (hI.below hb3).at_ hxn
                  have hcell : wq.cell? ⟨g, t, none⟩ = some (.int .i64 (x : Int)) := by rw [hO1.cell, ivs_get, ints_get, hx]; rfl
                  obtain ⟨h, hh⟩ : ∃ h, held v = h := ⟨_, rfl⟩
                  have hlv := Lib.hid (lvl_at hv hh)
                  have HH := Lib.hid hh
                  have HX := Lib.hid hx
                  have htl' : t < l.length := htn
                  clear hx hv hh
                  by_cases hkh : k ≤ h
                  · go_wp2_with (go_at_call 27; refine (held_calls _ _ HH _).mono ?_; rintro e w' ⟨rfl, rfl⟩)
                    go_round
                    case rel => exact ⟨t + 1, by go_num, by omega, by omega, run_step HR.out HX.out (by unfold ge; rw [hlv.out]; simpa using hkh)⟩
                    case measure => simp [intOf]; omega
                  · go_wp2_with (go_at_call 27; refine (held_calls _ _ HH _).mono ?_; rintro e w' ⟨rfl, rfl⟩)
                    · have hst : ∀ y, o1[t]? = some y → ge l k y = false := by
                        intro y hy
                        rw [HX.out] at hy
                        injection hy with hy
                        rw [← hy]
                        unfold ge
                        rw [hlv.out]
                        simpa using hkh
                      have hit2 : i < t := by assumption
                      have hsz : g < wq.heap.size := hO1.lt
                      have hpl := HP1.out.1
                      have hmr := mid_run HM1.out hit2 (by rw [hpl]; omega) HR.out hst
                      have HMR := Lib.hid hmr
                      clear hst hmr
                      refine (reverse_calls g i (t - i) (l.length - i) (ints o1) _ hO1 (by rw [ints_length, hpl]; omega) (by rw [ints_length, hpl]; omega)).mono ?_
                      rintro e w2 ⟨rfl, hO2, hgr⟩
                      rw [turned_ints] at hO2
                      have hb4 := hb3.trans ((only_below hgr (by omega)).mono hBg)
                      have hP2 := Lib.hid (places_turned i (t - i) HP1.out (by omega))
                      have htu : turned i (t - i) o1 = o1.take i ++ ((o1.drop i).take (t - i)).reverse ++ o1.drop t := by unfold turned; rw [show i + (t - i) = t from by omega]
                      rw [htu] at hO2 hP2
                      clear htu hpl
                      go_wp2_with fail
                      refine (none_calls _ _).mono ?_
                      rintro e w3 ⟨rfl, rfl⟩
                      go_wp2_with fail
                      go_roundw
                      case rel => exact ⟨t, _, n1 + 1, rfl, by omega, HMR, hP2, hO2, hb4⟩
                      case measure => simp [intOf]; omega
                    · have hit2 : i = t := by have : ¬ i < t := by assumption
                                              omega
                      go_roundw
                      case rel =>
                        refine ⟨t + 1, o1, n1, by go_num, by omega, ?_, HP1, hO1, hb3⟩
                        have hm := HM1.out
                        rw [hit2] at hm
                        exact mid_skip hm HX.out (by unfold ge; rw [hlv.out]; simpa using hkh)
                      case measure => simp [intOf]; omega
                · have htn2 : t = l.length := by omega
                  have hst : ∀ y, o1[t]? = some y → ge l k y = false := by
                    intro y hy
                    rw [List.getElem?_eq_none (by rw [HP1.out.1]; omega)] at hy
                    cases hy
                  have hit2 : i < t := by omega
                  have HST := Lib.hid hst
                  have HTN := Lib.hid htn2
                  clear hst htn2
                  go_wp2_with fail
                  have hst := HST.out
                  have hsz : g < wq.heap.size := hO1.lt
                  have hpl := HP1.out.1
                  have hmr := mid_run HM1.out hit2 (by rw [hpl]; omega) HR.out hst
                  have HMR := Lib.hid hmr
                  clear hst hmr
                  refine (reverse_calls g i (t - i) (l.length - i) (ints o1) _ hO1 (by rw [ints_length, hpl]; omega) (by rw [ints_length, hpl]; omega)).mono ?_
                  rintro e w2 ⟨rfl, hO2, hgr⟩
                  rw [turned_ints] at hO2
                  have hb4 := hb3.trans ((only_below hgr (by omega)).mono hBg)
                  have hP2 := Lib.hid (places_turned i (t - i) HP1.out (by omega))
                  have htu : turned i (t - i) o1 = o1.take i ++ ((o1.drop i).take (t - i)).reverse ++ o1.drop t := by unfold turned; rw [show i + (t - i) = t from by omega]
                  rw [htu] at hO2 hP2
                  clear htu hpl
                  go_wp2_with fail
                  refine (none_calls _ _).mono ?_
                  rintro e w3 ⟨rfl, rfl⟩
                  go_wp2_with fail
                  go_roundw
                  case rel => exact ⟨t, _, n1 + 1, rfl, by omega, HMR, hP2, hO2, hb4⟩
                  case measure => simp [intOf]; omega
            · have hil2 : i = l.length := by omega
              obtain ⟨he, hn⟩ := mid_end HM1.out (by rw [HP1.out.1]; omega)
              subst he
              have HN := Lib.hid hn
              clear hn
              go_wp2
              go_roundw
              case rel =>
                refine ⟨k - 1, o1, n1, by go_num, by omega, by omega, ?_, HP1, hO1, by have := HN.out; omega, hb3⟩
                unfold Hid; rw [HN.out]; exact HL2.out
              case measure => simp [intOf]; omega
        · have hlo : RN = (o, n) := by
            rw [HL.out, show (k + 1 - le).toNat = 0 from by omega]; rfl
          go_wp2
          go_ret
          rw [HRN.out, hlo]
          have hgg := HG.out
          rw [← hgg]
          exact ⟨rfl, hO, by first | exact hb2 | (rw [hgg]; exact hb2)⟩

set_option maxHeartbeats 1000000 in
theorem roundsT_calls (A : Option Addr) (c : Nat) (l : List Int) (w : World) (gc : Nat) (hgc : gc < w.heap.size) (hI : Ints w gc A l) (hc0 : w.cell? ⟨gc, 0, none⟩ = some (.int .i64 0)) (hf0 : w.frozen? ⟨gc, 0, none⟩ = false) (hn : l.length ≤ 100) :
    Calls Try.prog 23 #[.slice A l.length c, Value.func (Fn.func 25) #[] #[.pointer (some ⟨gc, 0, none⟩)]] w fun e w' => e = .returned (.slice (some ⟨w.heap.size, 0, none⟩) l.length l.length) ∧ Blk w' w.heap.size 3 (ivs (ints (rounds l).1)) ∧ Below gc w w' ∧ w'.cell? ⟨gc, 0, none⟩ = some (.int .i64 (rounds l).2) := by
  obtain ⟨i3, hi, hz0, hz1, hz2⟩ := info_parts (show (Try.prog.info? 3).map (fun i => (i.zero, i.size, i.bytes)) = some (some (.int .i64 0), 1, 8) by kernel_rfl)
  obtain ⟨g, hg⟩ : ∃ g, g = w.heap.size := ⟨_, rfl⟩
  go_enter Try.func23, Try.ntmps23
  go_wp2_with (at_make; refine wpList_make_full _ rfl _ _ _ rfl w.heap.size 3 i3 (.int .i64 0) 1 Try.underlying22 hi hz0 hz1 .i64 .i64 l.length l.length l.length rfl rfl rfl rfl (by rw [hz2]; omega) (by unfold maxLen; omega) (Nat.le_refl _) ?_; intro w1 hown hgrow)
  have hb1 : Below w.heap.size w w1 := (Below.refl _ _).grown hgrow (Nat.le_refl _) (by intro k hk; cases hk)
  have hblk := own_blk hown
  rw [zeros_int] at hblk
  have hcc := hb1.cell (p := ⟨gc, 0, none⟩) hgc
  have hcf := hb1.frozen (p := ⟨gc, 0, none⟩) hgc
  rw [hc0] at hcc
  rw [hf0] at hcf
  replace hb1 := hb1.mono (Nat.le_of_lt hgc)
  clear hc0 hf0
  clear hown hgrow hi hz0 hz1 hz2
  rw [← hg] at hblk ⊢
  have hBg : gc ≤ g := by omega
  have HG := Lib.hid hg
  clear hg
  go_loopw [6, 7, 18] (fun a b i wr => ∃ (k : Nat) (ma le : Int) (C : List Int), i = .int .i64 k ∧ k ≤ l.length ∧ a = .int .i64 ma ∧ b = .int .i64 le ∧ Hid (ma = most (l.take k)) ∧ Hid (le = least (l.take k)) ∧ Blk wr g 3 (ivs C) ∧ Hid (Fill l.length k C) ∧ Below gc w wr ∧ wr.cell? ⟨gc, 0, none⟩ = some (.int .i64 (0 : Nat)) ∧ wr.frozen? ⟨gc, 0, none⟩ = false) (fun _ _ i _ => l.length - (intOf i).toNat)
  case atStart => exact ⟨0, 0, 127, _, rfl, Nat.zero_le _, rfl, rfl, rfl, rfl, hblk, ⟨by simp, by intro t ht; omega⟩, hb1, hcc, hcf⟩
  case round =>
    obtain ⟨k, ma, le, C, rfl, hk, rfl, rfl, Hma, Hle, hC, HF, hb, hcc, hcf⟩ := hrel
    clear hblk hb1
    by_cases hlt : k < l.length
    · obtain ⟨b, off, x, rfl, hlb, hx, hc⟩ := (hI.below hb).at_ hlt
      have hcell : wr.cell? ⟨g, k, none⟩ = some (.int .i64 (C[k]'(by rw [HF.out.1]; exact hlt))) := by rw [hC.cell, ivs_get, List.getElem?_eq_getElem]; rfl
      have hfz : wr.frozen? ⟨g, k, none⟩ = false := hC.frozen k
      have hT := take_at hx
      have HT := Lib.hid hT
      obtain ⟨h, hh⟩ : ∃ h, held x = h := ⟨_, rfl⟩
      have h0 : 0 ≤ h := by rw [← hh]; exact held_ge x
      have h1 : h ≤ 126 := by rw [← hh]; exact held_le x
      have HH := Lib.hid hh
      have hC' := hC.set_ k (.int .i64 k)
      rw [ivs_set] at hC'
      have hm0 := (most_bd (l.take k)).1
      rw [← Hma.out] at hm0
      have hcc' : (wr.setCell ⟨g, k, none⟩ (.int .i64 k)).cell? ⟨gc, 0, none⟩ = some (.int .i64 (0 : Nat)) := by
        rw [World.cell?_setCell_other _ _ _ _ (by intro e; injection e with e _; have := HG.out; omega)]; exact hcc
      clear hx hT hh
      by_cases hodd : h % 2 = 1
      · have hd : (h % 2 == 1) = true := by simpa using hodd
        have HO := Lib.hid hodd
        clear hodd
        go_wp2_with (go_at_call 27; refine (held_calls _ _ HH _).mono ?_; rintro e w' ⟨rfl, rfl⟩)
        all_goals
          go_roundw
          case rel =>
            refine ⟨k + 1, _, _, _, by go_num, by omega, rfl, rfl, ?_, ?_, hC', fill_step HF.out hlt, hb.setCell hBg _, hcc', (World.frozen?_setCell _ _ _ _).trans hcf⟩
            · unfold Hid; rw [HT.out, most_snoc, ← Hma.out, HH.out]; omega
            · unfold Hid; rw [HT.out, least_snoc, ← Hle.out, HH.out, if_pos HO.out]; omega
          case measure => simp [intOf]; omega
      · have hd : (h % 2 == 1) = false := by simpa using hodd
        have HO := Lib.hid hodd
        clear hodd
        go_wp2_with (go_at_call 27; refine (held_calls _ _ HH _).mono ?_; rintro e w' ⟨rfl, rfl⟩)
        all_goals
          go_roundw
          case rel =>
            refine ⟨k + 1, _, _, _, by go_num, by omega, rfl, rfl, ?_, ?_, hC', fill_step HF.out hlt, hb.setCell hBg _, hcc', (World.frozen?_setCell _ _ _ _).trans hcf⟩
            · unfold Hid; rw [HT.out, most_snoc, ← Hma.out, HH.out]; omega
            · unfold Hid; rw [HT.out, least_snoc, ← Hle.out, HH.out, if_neg HO.out]
          case measure => simp [intOf]; omega
    · have hkl : k = l.length := by omega
      subst hkl
      rw [List.take_of_length_le (Nat.le_refl _)] at Hma Hle
      have hM := most_bd l
      have hL := least_bd l
      rw [← Hma.out] at hM
      rw [← Hle.out] at hL
      obtain ⟨hM0, hM1⟩ := hM
      obtain ⟨hL0, hL1⟩ := hL
      rw [fill_end HF.out] at hC
      have HRR : Hid (rounds l = loopR l le (ma + 1 - le).toNat (List.range l.length) 0) := by unfold Hid rounds; rw [← Hma.out, ← Hle.out]
      clear HF Hma Hle
      generalize hRR : rounds l = RN at HRR
      have HRN := Lib.hid hRR
      clear hRR
      obtain ⟨wo, rfl⟩ : ∃ wo : World, wo = wr := ⟨_, rfl⟩
      go_wp2
      go_loopw [10] (fun a wr => ∃ (k : Int) (o : List Nat) (n : Nat), a = .int .i64 k ∧ 0 ≤ k ∧ k ≤ 126 ∧ Hid (RN = loopR l le (k + 1 - le).toNat o n) ∧ Hid (Places l.length o) ∧ Blk wr g 3 (ivs (ints o)) ∧ (n : Int) + 100 * k ≤ 12600 ∧ Below gc w wr ∧ wr.cell? ⟨gc, 0, none⟩ = some (.int .i64 (n : Nat)) ∧ wr.frozen? ⟨gc, 0, none⟩ = false) (fun a _ => (intOf a).toNat)
      case atStart => exact ⟨ma, List.range l.length, 0, rfl, hM0, hM1, HRR, places_range _, hC, by omega, hb, hcc, hcf⟩
      case round =>
        obtain ⟨k, o, n, rfl, hk0, hk1, HL, HP, hO, hnk, hb2, hcc2, hcf2⟩ := hrel
        clear hC hb HRR hcc hcf
        obtain ⟨wp, rfl⟩ : ∃ wp : World, wp = wr := ⟨_, rfl⟩
        by_cases hkl : le ≤ k
        · have HL2 : Hid (RN = loopR l le (k - 1 + 1 - le).toNat (rev (ge l k) [] o) (n + cnt (ge l k) false o)) := by
            unfold Hid
            rw [HL.out, show (k + 1 - le).toNat = (k - 1 + 1 - le).toNat + 1 from by omega, loopR, show le + ((k - 1 + 1 - le).toNat : Int) = k from by omega]
          have hcl := cnt_le (ge l k) o false
          rw [HP.out.1] at hcl
          have HP2 := Lib.hid (places_rev (ge l k) HP.out)
          have HM := Lib.hid (mid_start (ge l k) o n)
          generalize rev (ge l k) [] o = R1 at HL2 HM HP2
          generalize cnt (ge l k) false o = N1 at HL2 HM hcl
          have hN1 : ((n + N1 : Nat) : Int) + 100 * (k - 1) ≤ 12600 := by omega
          clear HL
          go_wp2
          go_loopw [11] (fun a wr => ∃ (i : Nat) (o : List Nat) (n' : Nat), a = .int .i64 i ∧ i ≤ l.length ∧ Hid (Mid (ge l k) o n' R1 (n + N1) i) ∧ Hid (Places l.length o) ∧ Blk wr g 3 (ivs (ints o)) ∧ Below gc w wr ∧ wr.cell? ⟨gc, 0, none⟩ = some (.int .i64 (n' : Nat)) ∧ wr.frozen? ⟨gc, 0, none⟩ = false) (fun a _ => l.length - (intOf a).toNat)
          case atStart => exact ⟨0, o, n, rfl, Nat.zero_le _, HM, HP, hO, hb2, hcc2, hcf2⟩
          case round =>
            obtain ⟨i, o1, n1, rfl, hi, HM1, HP1, hO1, hb3, hcc3, hcf3⟩ := hrel
            clear HM HP hO hb2 hcc2 hcf2
            obtain ⟨wq, rfl⟩ : ∃ wq : World, wq = wr := ⟨_, rfl⟩
            by_cases hil : i < l.length
            · go_wp2
              go_loop [11] (fun a => ∃ t : Nat, a = .int .i64 t ∧ i ≤ t ∧ t ≤ l.length ∧ Hid (Run (ge l k) o1 i t)) (fun a => l.length - (intOf a).toNat)
              case atStart => exact ⟨i, rfl, Nat.le_refl _, hi, by intro j x h1 h2; omega⟩
              case round =>
                obtain ⟨t, rfl, hit, htl, HR⟩ := hrel
                by_cases htn : t < l.length
                · obtain ⟨x, hx, hxn⟩ := places_at HP1.out htn
                  obtain ⟨b, off, v, rfl, hlb, hv, hc⟩ := (hI.below hb3).at_ hxn
                  have hcell : wq.cell? ⟨g, t, none⟩ = some (.int .i64 (x : Int)) := by rw [hO1.cell, ivs_get, ints_get, hx]; rfl
                  obtain ⟨h, hh⟩ : ∃ h, held v = h := ⟨_, rfl⟩
                  have hlv := Lib.hid (lvl_at hv hh)
                  have HH := Lib.hid hh
                  have HX := Lib.hid hx
                  have htl' : t < l.length := htn
                  clear hx hv hh
                  by_cases hkh : k ≤ h
                  · go_wp2_with (go_at_call 27; refine (held_calls _ _ HH _).mono ?_; rintro e w' ⟨rfl, rfl⟩)
                    go_round
                    case rel => exact ⟨t + 1, by go_num, by omega, by omega, run_step HR.out HX.out (by unfold ge; rw [hlv.out]; simpa using hkh)⟩
                    case measure => simp [intOf]; omega
                  · go_wp2_with (go_at_call 27; refine (held_calls _ _ HH _).mono ?_; rintro e w' ⟨rfl, rfl⟩)
                    · have hst : ∀ y, o1[t]? = some y → ge l k y = false := by
                        intro y hy
                        rw [HX.out] at hy
                        injection hy with hy
                        rw [← hy]
                        unfold ge
                        rw [hlv.out]
                        simpa using hkh
                      have hit2 : i < t := by assumption
                      have hsz : g < wq.heap.size := hO1.lt
                      have hpl := HP1.out.1
                      have hmr := mid_run HM1.out hit2 (by rw [hpl]; omega) HR.out hst
                      have HMR := Lib.hid hmr
                      clear hst hmr
                      refine (reverse_calls g i (t - i) (l.length - i) (ints o1) _ hO1 (by rw [ints_length, hpl]; omega) (by rw [ints_length, hpl]; omega)).mono ?_
                      rintro e w2 ⟨rfl, hO2, hgr⟩
                      rw [turned_ints] at hO2
                      have hb4 := hb3.trans ((only_below hgr (by omega)).mono hBg)
                      have hP2 := Lib.hid (places_turned i (t - i) HP1.out (by omega))
                      have htu : turned i (t - i) o1 = o1.take i ++ ((o1.drop i).take (t - i)).reverse ++ o1.drop t := by unfold turned; rw [show i + (t - i) = t from by omega]
                      rw [htu] at hO2 hP2
                      clear htu hpl
                      have hgg := HG.out
                      have hcc4 := hgr.cell hcc3 (by intro e; injection e with e; have e2 : gc = g := e; omega)
                      have hcf4 : w2.frozen? ⟨gc, 0, none⟩ = false := (World.frozen?_of_block (w := wq) (hgr.block gc (by omega) (by intro e; injection e with e; omega))).trans hcf3
                      have hn1 : n1 ≤ 1000000 := by have := HM1.out.2; omega
                      have hO3 := hO2.far (p := ⟨gc, 0, none⟩) (by show g ≠ gc; omega) (.int .i64 ((n1 : Int) + 1))
                      have hb5 := hb4.setCell (p := ⟨gc, 0, none⟩) (Nat.le_refl gc) (.int .i64 ((n1 : Int) + 1))
                      clear hgg
                      go_wp2_with fail
                      refine (count_calls _ gc n1 _ hcc4 hcf4 (by omega) (by omega)).mono ?_
                      rintro e w3 ⟨rfl, rfl⟩
                      go_wp2_with fail
                      go_roundw
                      case rel =>
                        refine ⟨t, _, n1 + 1, rfl, by omega, HMR, hP2, hO3, hb5, ?_, (World.frozen?_setCell _ _ _ _).trans hcf4⟩
                        rw [World.cell?_setCell_same _ _ _ hcc4]
                        rfl
                      case measure => simp [intOf]; omega
                    · have hit2 : i = t := by have : ¬ i < t := by assumption
                                              omega
                      go_roundw
                      case rel =>
                        refine ⟨t + 1, o1, n1, by go_num, by omega, ?_, HP1, hO1, hb3, hcc3, hcf3⟩
                        have hm := HM1.out
                        rw [hit2] at hm
                        exact mid_skip hm HX.out (by unfold ge; rw [hlv.out]; simpa using hkh)
                      case measure => simp [intOf]; omega
                · have htn2 : t = l.length := by omega
                  have hst : ∀ y, o1[t]? = some y → ge l k y = false := by
                    intro y hy
                    rw [List.getElem?_eq_none (by rw [HP1.out.1]; omega)] at hy
                    cases hy
                  have hit2 : i < t := by omega
                  have HST := Lib.hid hst
                  have HTN := Lib.hid htn2
                  clear hst htn2
                  go_wp2_with fail
                  have hst := HST.out
                  have hsz : g < wq.heap.size := hO1.lt
                  have hpl := HP1.out.1
                  have hmr := mid_run HM1.out hit2 (by rw [hpl]; omega) HR.out hst
                  have HMR := Lib.hid hmr
                  clear hst hmr
                  refine (reverse_calls g i (t - i) (l.length - i) (ints o1) _ hO1 (by rw [ints_length, hpl]; omega) (by rw [ints_length, hpl]; omega)).mono ?_
                  rintro e w2 ⟨rfl, hO2, hgr⟩
                  rw [turned_ints] at hO2
                  have hb4 := hb3.trans ((only_below hgr (by omega)).mono hBg)
                  have hP2 := Lib.hid (places_turned i (t - i) HP1.out (by omega))
                  have htu : turned i (t - i) o1 = o1.take i ++ ((o1.drop i).take (t - i)).reverse ++ o1.drop t := by unfold turned; rw [show i + (t - i) = t from by omega]
                  rw [htu] at hO2 hP2
                  clear htu hpl
                  have hgg := HG.out
                  have hcc4 := hgr.cell hcc3 (by intro e; injection e with e; have e2 : gc = g := e; omega)
                  have hcf4 : w2.frozen? ⟨gc, 0, none⟩ = false := (World.frozen?_of_block (w := wq) (hgr.block gc (by omega) (by intro e; injection e with e; omega))).trans hcf3
                  have hn1 : n1 ≤ 1000000 := by have := HM1.out.2; omega
                  have hO3 := hO2.far (p := ⟨gc, 0, none⟩) (by show g ≠ gc; omega) (.int .i64 ((n1 : Int) + 1))
                  have hb5 := hb4.setCell (p := ⟨gc, 0, none⟩) (Nat.le_refl gc) (.int .i64 ((n1 : Int) + 1))
                  clear hgg
                  go_wp2_with fail
                  refine (count_calls _ gc n1 _ hcc4 hcf4 (by omega) (by omega)).mono ?_
                  rintro e w3 ⟨rfl, rfl⟩
                  go_wp2_with fail
                  go_roundw
                  case rel =>
                    refine ⟨t, _, n1 + 1, rfl, by omega, HMR, hP2, hO3, hb5, ?_, (World.frozen?_setCell _ _ _ _).trans hcf4⟩
                    rw [World.cell?_setCell_same _ _ _ hcc4]
                    rfl
                  case measure => simp [intOf]; omega
            · have hil2 : i = l.length := by omega
              obtain ⟨he, hn⟩ := mid_end HM1.out (by rw [HP1.out.1]; omega)
              subst he
              have HN := Lib.hid hn
              clear hn
              go_wp2
              go_roundw
              case rel =>
                refine ⟨k - 1, o1, n1, by go_num, by omega, by omega, ?_, HP1, hO1, by have := HN.out; omega, hb3, hcc3, hcf3⟩
                unfold Hid; rw [HN.out]; exact HL2.out
              case measure => simp [intOf]; omega
        · have hlo : RN = (o, n) := by
            rw [HL.out, show (k + 1 - le).toNat = 0 from by omega]; rfl
          go_wp2
          go_ret
          rw [HRN.out, hlo]
          have hgg := HG.out
          rw [← hgg]
          exact ⟨rfl, hO, by first | exact hb2 | (rw [hgg]; exact hb2), hcc2⟩

end Go.Proofs.Ytlcijmllffablaa
