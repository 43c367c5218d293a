/-
  The contract of the reference's 'rounds': it computes the same plain function as the program's. Condition: at most 100 levels.
-/
import Derived.Test.YtlcijmllffablaaRefA
import Derived.Deep.AppendLies
namespace Go.Proofs.Ytlcijmllffablaa
open Go.RowKit

/-- a row of the call's own, not nil, whose first n cells are the ints C -/
def Row (w : World) (B g n cap : Nat) (C : List Int) : Prop := w.ownsRow B 3 1 (.slice (some ⟨g, 0, none⟩) n cap) n (ivs C)
section
variable {w : World} {B g n cap : Nat} {C : List Int}
theorem Row.at_ (h : Row w B g n cap C) {k : Nat} (hl : C.length = n) (hk : k < n) : ∃ x, C[k]? = some x ∧ w.cell? ⟨g, k, none⟩ = some (.int .i64 x) ∧ w.frozen? ⟨g, k, none⟩ = false := by
  have hk' : k < C.length := by omega
  refine ⟨C[k], List.getElem?_eq_getElem hk', ?_, World.ownsRow.frozenAt h k⟩
  rw [World.ownsRow.cellAt h k (by omega), ivs_get, List.getElem?_eq_getElem hk']
  rfl
theorem Row.set_ (h : Row w B g n cap C) (k : Nat) (x : Int) : Row (w.setCell ⟨g, k, none⟩ (.int .i64 x)) B g n cap (C.set k x) := by
  have := (World.ownsRow.stored h k (.int .i64 x)).1
  rwa [ivs_set] at this
theorem Row.ge (h : Row w B g n cap C) : B ≤ g := (World.ownsRow.lt h g rfl).1
end
theorem own_mono {w : World} {B B' : Nat} {e : TypeId} {size n : Nat} {v : Value} {xs : List Value} (h : w.ownsRow B e size v n xs) (hB : B' ≤ B) : w.ownsRow B' e size v n xs := by
  refine ⟨h.1, ?_⟩
  rcases h.2 with h2 | ⟨g, cap, cur, hv, hb, r⟩
  · exact .inl h2
  · exact .inr ⟨g, cap, cur, hv, by omega, r⟩
theorem mid_over {p : Nat → Bool} {o R : List Nat} {n N i : Nat} (h : Mid p o n R N i) (hi : o.length ≤ i) : Mid p o n R N (i + 1) := by
  obtain ⟨h1, h2⟩ := h
  unfold Mid
  rw [List.drop_eq_nil_of_le (by omega), List.take_of_length_le (by omega)]
  rw [List.drop_eq_nil_of_le hi] at h1 h2
  rw [List.take_of_length_le hi] at h1
  exact ⟨h1, h2⟩
theorem turned_none {α : Type} (off : Nat) (L : List α) : turned off 0 L = L := by simp [turned]
theorem turned_run {p : Nat → Bool} {o R : List Nat} {n N f t : Nat} (h : Mid p o n R N f) (hft : f < t) (ht : t ≤ o.length) (hr : Run p o f t) (hs : ∀ x, o[t]? = some x → p x = false) :
    Mid p (turned f (t - f) o) (n + 1) R N t := by
  have := mid_run h hft ht hr hs
  unfold turned
  rwa [show f + (t - f) = t from by omega]
/-- one step further: what stands there is no p, or there is nothing -/
theorem mid_next {p : Nat → Bool} {o R : List Nat} {n N t : Nat} (h : Mid p o n R N t) (hs : ∀ x, o[t]? = some x → p x = false) : Mid p o n R N (t + 1) := by
  rcases Nat.lt_or_ge t o.length with ht | ht
  · exact mid_skip h (List.getElem?_eq_getElem ht) (hs _ (List.getElem?_eq_getElem ht))
  · exact mid_over h ht
theorem mid_pass {p : Nat → Bool} {o R : List Nat} {n N f t : Nat} (h : Mid p o n R N f) (hft : f < t) (ht : t ≤ o.length) (hr : Run p o f t) (hs : ∀ x, o[t]? = some x → p x = false) :
    Mid p (turned f (t - f) o) (n + 1) R N (t + 1) := by
  refine mid_next (turned_run h hft ht hr hs) fun x hx => ?_
  rw [turned_out f (t - f) o (by omega) t (by omega)] at hx
  exact hs x hx

set_option maxHeartbeats 1000000 in
theorem refRounds_calls (A : Option Addr) (c : Nat) (l : List Int) (w : World) (hI : Ints w w.heap.size A l) (hn : l.length ≤ 100) :
    Calls Try.prog 26 #[.slice A l.length c] w fun e w' => ∃ v, e = .returned (.tuple #[v, .int .i64 ((rounds l).2 : Nat)]) ∧ w'.ownsRow w.heap.size 3 1 v l.length (ivs (ints (rounds l).1)) ∧ Below w.heap.size w w' := by
  obtain ⟨i3, hi, hz0, hz1, hz2⟩ := info_parts (show (Try.prog.info? 3).map (fun i => (i.zero, i.size, i.bytes)) = some (some (.int .i64 0), 1, 8) by kernel_rfl)
  have HNL := Lib.hid hn
  clear hn
  go_enter Try.func26, Try.ntmps26
  go_wp2_with fail
  refine (counts_calls A c l _ hI HNL.out).mono ?_
  rintro e w1 ⟨v1, rfl, hown1, hb1⟩
  rw [show l.length = (l.map held).length from by simp] at hown1
  have HL4 : Hid (∀ i : Nat, lvl l i = (l.map held).getD i 0 ∨ l.length ≤ i) := by
    intro i
    rcases Nat.lt_or_ge i l.length with h | h
    · left
      unfold lvl
      rw [List.getD_eq_getElem?_getD, List.getD_eq_getElem?_getD, List.getElem?_map, List.getElem?_eq_getElem h]
      rfl
    · exact .inr h
  have HL5 : Hid (∀ x ∈ l.map held, held x = x) := by
    intro x hx
    obtain ⟨y, _, rfl⟩ := List.mem_map.1 hx
    exact held_held y
  have HM1 : Hid (most (l.map held) = most l) := most_held l
  have HE1 : Hid (least (l.map held) = least l) := least_held l
  have HLL : Hid (l.length = (l.map held).length) := by unfold Hid; simp
  generalize l.map held = L4 at *
  obtain ⟨A4, c4, hv1, hI4⟩ := own_ints hown1
  have hl4 : L4.length ≤ 100 := by rw [← HLL.out]; exact HNL.out
  rw [hv1]
  clear hv1 hown1
  obtain ⟨ma, hma⟩ : ∃ ma, ma = most L4 := ⟨_, rfl⟩
  obtain ⟨le, hle⟩ : ∃ le, le = least L4 := ⟨_, rfl⟩
  have hM := most_bd L4
  have hL := least_bd L4
  rw [← hma] at hM
  rw [← hle] at hL
  obtain ⟨hM0, hM1⟩ := hM
  obtain ⟨hL0, hL1⟩ := hL
  have Hma := Lib.hid hma
  have Hle := Lib.hid hle
  clear hma hle
  go_wp2_with fail
  refine (bounds_calls A4 c4 L4 _ hI4 hl4 HL5 ma le Hma Hle).mono ?_
  rintro e w2 ⟨rfl, rfl⟩
  have HRR : Hid (rounds l = loopR l le (ma + 1 - le).toNat (List.range L4.length) 0) := by
    unfold Hid rounds; rw [Hma.out, Hle.out, HM1.out, HE1.out, HLL.out]
  generalize hRR : rounds l = RN at HRR
  have HRN := Lib.hid hRR
  have Hm0 := Hma
  have Hl0 := Hle
  clear hRR HM1 HE1 Hma Hle
  go_wp2
  go_loopw [7, 8] (fun v i wr => ∃ k : Nat, i = .int .i64 k ∧ k ≤ L4.length ∧ wr.ownsRow w1.heap.size 3 1 v k (ivs (ints (List.range k))) ∧ Below w1.heap.size w1 wr) (fun _ i _ => L4.length - (intOf i).toNat)
  case atStart => exact ⟨0, rfl, Nat.zero_le _, World.ownsRow_nil _ _ _ _, Below.refl _ _⟩
  case round =>
    obtain ⟨k, rfl, hk, hown, hb⟩ := hrel
    by_cases hlt : k < L4.length
    · have hbs := hb.size
      go_wp2_with (at_builtin; refine wpList_append_own _ rfl _ _ 22 rfl w1.heap.size 3 i3 (.int .i64 0) 1 8 Try.underlying22 hi hz0 hz1 hz2 rfl (by decide) _ _ _ rfl (hown.alloc _) ⟨wr.heap.size, 0, none⟩ 1 1 [.int .i64 k] rfl rfl (cell_one_new _ _ _) (by intro u hu; simp at hu; subst hu; rfl) (by unfold maxLen; omega) (by omega) (by simp; omega) ?_; intro v' w2 hown' hgrow _)
      go_roundw
      case rel =>
        refine ⟨k + 1, by go_num, by omega, ?_, (hb.alloc hbs _).grown hgrow (by simp; omega) (fun k hk => (hown.lt k hk).1)⟩
        rw [List.range_succ]
        rw [ivs_snoc] at hown'
        simpa [ints] using hown'
      case measure => simp [intOf]; omega
    · have hkl : k = L4.length := by omega
      subst hkl
      obtain ⟨wo, rfl⟩ : ∃ wo : World, wo = wr := ⟨_, rfl⟩
      rcases Nat.eq_zero_or_pos L4.length with hz | hz
      · have hL40 : L4 = [] := List.eq_nil_of_length_eq_zero hz
        subst hL40
        have hm0 := Hm0.out
        have hl0 := Hl0.out
        simp only [most, least, List.foldl_nil] at hm0 hl0
        subst hm0
        subst hl0
        have hrn : RN = ([], 0) := HRR.out
        go_wp2
        go_loopw [9, 10] (fun b a wr => b = .int .i64 0 ∧ a = .int .i64 0 ∧ wr = wo) (fun _ _ _ => 0)
        case atStart => exact ⟨rfl, rfl, rfl⟩
        case round =>
          obtain ⟨rfl, rfl, rfl⟩ := hrel
          go_wp2
          go_ret2
          rw [HRN.out, hrn]
          have hs := hb1.size
          refine ⟨_, rfl, ?_, Below.then_ hb1 hb⟩
          rw [HLL.out]
          exact own_mono hown (by omega)
      · obtain ⟨g, cap, hv, hbg, hglt⟩ := hown.form hz
        subst hv
        have hown : Row wo w1.heap.size g L4.length cap (ints (List.range L4.length)) := hown
        go_wp2
        go_loopw [9, 10] (fun b a wr => ∃ (k : Int) (o : List Nat) (n : Nat), a = .int .i64 k ∧ b = .int .i64 n ∧ 0 ≤ k ∧ k ≤ 126 ∧ Hid (RN = loopR l le (k + 1 - le).toNat o n) ∧ Hid (Places L4.length o) ∧ Row wr w1.heap.size g L4.length cap (ints o) ∧ (n : Int) + 100 * k ≤ 12600 ∧ Below w1.heap.size w1 wr) (fun _ a _ => (intOf a).toNat)
        case atStart => exact ⟨ma, List.range L4.length, 0, rfl, rfl, hM0, hM1, HRR, places_range _, hown, by omega, hb⟩
        case round =>
          obtain ⟨k, o, n, rfl, rfl, hk0, hk1, HL, HP, hO, hnk, hb2⟩ := hrel
          clear hown hb HRR
          obtain ⟨wp, rfl⟩ : ∃ wp : World, wp = wr := ⟨_, rfl⟩
          by_cases hkl : le ≤ k
          · have HL2 : Hid (RN = loopR l le (k - 1 + 1 - le).toNat (rev (ge l k) [] o) (n + cnt (ge l k) false o)) := by
              unfold Hid
              rw [HL.out, show (k + 1 - le).toNat = (k - 1 + 1 - le).toNat + 1 from by omega, loopR, show le + ((k - 1 + 1 - le).toNat : Int) = k from by omega]
            have hcl := cnt_le (ge l k) o false
            rw [HP.out.1] at hcl
            have HP2 := Lib.hid (places_rev (ge l k) HP.out)
            have HM := Lib.hid (mid_start (ge l k) o n)
            generalize rev (ge l k) [] o = R1 at HL2 HM HP2
            generalize cnt (ge l k) false o = N1 at HL2 HM hcl
            have hN1 : ((n + N1 : Nat) : Int) + 100 * (k - 1) ≤ 12600 := by omega
            clear HL
            go_wp2
            go_loopw [9, 11] (fun b a wr => ∃ (i : Nat) (o : List Nat) (n' : Nat), a = .int .i64 i ∧ b = .int .i64 n' ∧ i ≤ L4.length + 1 ∧ Hid (Mid (ge l k) o n' R1 (n + N1) i) ∧ Hid (Places L4.length o) ∧ Row wr w1.heap.size g L4.length cap (ints o) ∧ Below w1.heap.size w1 wr) (fun _ a _ => L4.length + 1 - (intOf a).toNat)
            case atStart => exact ⟨0, o, n, rfl, rfl, Nat.zero_le _, HM, HP, hO, hb2⟩
            case round =>
              obtain ⟨i, o1, n1, rfl, rfl, hi, HM1, HP1, hO1, hb3⟩ := hrel
              clear HM HP hO hb2
              obtain ⟨wq, rfl⟩ : ∃ wq : World, wq = wr := ⟨_, rfl⟩
              have hn1 : n1 ≤ 1000000 := by have := HM1.out.2; omega
              by_cases hil : i < L4.length
              · have HPL : Hid (o1.length = L4.length) := HP1.out.1
                go_wp2
                go_loop [12] (fun a => ∃ t : Nat, a = .int .i64 t ∧ i ≤ t ∧ t ≤ L4.length ∧ Hid (Run (ge l k) o1 i t)) (fun a => L4.length - (intOf a).toNat)
                case atStart => exact ⟨i, rfl, Nat.le_refl _, by omega, by intro j x h1 h2; omega⟩
                case round =>
                  obtain ⟨t, rfl, hit, htl, HR⟩ := hrel
                  by_cases htn : t < L4.length
                  · obtain ⟨x, hx, hxn⟩ := places_at HP1.out htn
                    obtain ⟨b, off, h, rfl, hlb, hv, hc⟩ := (hI4.below hb3).at_ hxn
                    obtain ⟨y, hy, hcell, _⟩ := hO1.at_ (k := t) (by rw [ints_length, HPL.out]) htn
                    have hyx : y = (x : Int) := by
                      rw [ints_get, hx] at hy
                      injection hy with hy
                      exact hy.symm
                    subst hyx
                    have hlv : lvl l x = h := by
                      rcases HL4.out x with e | e
                      · rw [e, List.getD_eq_getElem?_getD, hv]; rfl
                      · rw [HLL.out] at e; omega
                    have Hlv := Lib.hid hlv
                    have HX := Lib.hid hx
                    clear hx hy hv hlv
                    by_cases hkh : k ≤ h
                    · go_wp2
                      go_round
                      case rel => exact ⟨t + 1, by go_num, by omega, by omega, run_step HR.out HX.out (by unfold ge; rw [Hlv.out]; simpa using hkh)⟩
                      case measure => simp [intOf]; omega
                    · have hst : ∀ y, o1[t]? = some y → ge l k y = false := by
                        intro y hy
                        rw [HX.out] at hy
                        injection hy with hy
                        rw [← hy]
                        unfold ge
                        rw [Hlv.out]
                        simpa using hkh
                      rcases Nat.lt_or_ge i t with hit2 | hit2
                      · have hmf := mid_pass HM1.out hit2 (by rw [HPL.out]; omega) HR.out hst
                        have HMF := Lib.hid hmf
                        have HPF := Lib.hid (places_turned i (t - i) HP1.out (by omega))
                        clear hst hmf
                        go_wp2
                        go_loopw [13, 14] (fun a b wr => ∃ (s : Nat) (jj : Int) (C : List Int), a = .int .i64 (i + s : Nat) ∧ b = .int .i64 jj ∧ Hid (jj = (t : Int) - 1 - s) ∧ 2 * s ≤ t - i + 1 ∧ Hid (Part i (t - i) (ints o1) C s) ∧ Row wr w1.heap.size g L4.length cap C ∧ Below w1.heap.size w1 wr) (fun a _ _ => i + t + 1 - (intOf a).toNat)
                        case atStart => exact ⟨0, (t : Int) - 1, ints o1, rfl, rfl, by unfold Hid; omega, by omega, part_start _ _ _ (by rw [ints_length, HPL.out]; omega), hO1, hb3⟩
                        case round =>
                          obtain ⟨s, jj, C, rfl, rfl, Hj, hs, HC, hR, hbs⟩ := hrel
                          clear hO1 hb3
                          by_cases hlt : 2 * s + 1 < t - i
                          · obtain ⟨j', hj'⟩ : ∃ j' : Nat, jj = j' := ⟨t - 1 - s, by have := Hj.out; omega⟩
                            subst hj'
                            have hjn : j' = i + (t - i - 1 - s) := by have := Hj.out; omega
                            have hij : i + s < j' := by omega
                            have hlC : C.length = L4.length := by rw [HC.out.1, ints_length, HPL.out]
                            obtain ⟨x, hx, c1, f1⟩ := hR.at_ (k := i + s) hlC (by omega)
                            obtain ⟨y, hy, c2, f2⟩ := hR.at_ (k := j') hlC (by omega)
                            have hR2 := (hR.set_ (i + s) y).set_ j' x
                            have c3 : (wr.setCell ⟨g, i + s, none⟩ (.int .i64 y)).cell? ⟨g, j', none⟩ = some (.int .i64 y) := by
                              rw [World.cell?_setCell_other _ _ _ _ (by intro e; injection e with _ e _; omega)]; exact c2
                            have hm' : j' < L4.length := by omega
                            have him : i + s < L4.length := by omega
                            have hps : Part i (t - i) (ints o1) ((C.set (i + s) y).set j' x) (s + 1) := by
                              rw [hjn] at hy ⊢
                              exact part_step i (t - i) (ints o1) C s x y (by rw [ints_length, HPL.out]; omega) hlt HC.out hx hy
                            have HPS := Lib.hid hps
                            have hgB := hR.ge
                            have HJ := Lib.hid hjn
                            clear hx hy hjn hlC hps
                            go_wp2
                            go_roundw
                            case rel => exact ⟨s + 1, (j' : Int) - 1, _, by go_num, by go_num, by unfold Hid; have := HJ.out; omega, by omega, HPS, hR2, (hbs.setCell hgB _).setCell hgB _⟩
                            case measure => simp [intOf]; omega
                          · have hnl : ¬ ((i + s : Nat) : Int) < jj := by have := Hj.out; omega
                            have hCe := part_end i (t - i) (ints o1) C s (by rw [ints_length, HPL.out]; omega) (by omega) HC.out
                            rw [turned_ints] at hCe
                            subst hCe
                            go_wp2
                            go_roundw
                            case rel => exact ⟨t + 1, _, n1 + 1, by go_num, rfl, by omega, HMF, HPF, hR, hbs⟩
                            case measure => simp [intOf]; omega
                      · have hit3 : i = t := by omega
                        have hmf : Mid (ge l k) (turned i (t - i) o1) n1 R1 (n + N1) (t + 1) := by
                          subst hit3
                          rw [Nat.sub_self, turned_none]
                          exact mid_next HM1.out hst
                        have HMF := Lib.hid hmf
                        have HPF := Lib.hid (places_turned i (t - i) HP1.out (by omega))
                        clear hst hmf hit3
                        go_wp2
                        go_loopw [13, 14] (fun a b wr => ∃ (s : Nat) (jj : Int) (C : List Int), a = .int .i64 (i + s : Nat) ∧ b = .int .i64 jj ∧ Hid (jj = (t : Int) - 1 - s) ∧ 2 * s ≤ t - i + 1 ∧ Hid (Part i (t - i) (ints o1) C s) ∧ Row wr w1.heap.size g L4.length cap C ∧ Below w1.heap.size w1 wr) (fun a _ _ => i + t + 1 - (intOf a).toNat)
                        case atStart => exact ⟨0, (t : Int) - 1, ints o1, rfl, rfl, by unfold Hid; omega, by omega, part_start _ _ _ (by rw [ints_length, HPL.out]; omega), hO1, hb3⟩
                        case round =>
                          obtain ⟨s, jj, C, rfl, rfl, Hj, hs, HC, hR, hbs⟩ := hrel
                          clear hO1 hb3
                          by_cases hlt : 2 * s + 1 < t - i
                          · exact absurd hlt (by omega)
                          · have hnl : ¬ ((i + s : Nat) : Int) < jj := by have := Hj.out; omega
                            have hCe := part_end i (t - i) (ints o1) C s (by rw [ints_length, HPL.out]; omega) (by omega) HC.out
                            rw [turned_ints] at hCe
                            subst hCe
                            go_wp2
                            go_roundw
                            case rel => exact ⟨t + 1, _, n1, by go_num, rfl, by omega, HMF, HPF, hR, hbs⟩
                            case measure => simp [intOf]; omega
                  · have htn2 : t = L4.length := by omega
                    have hst : ∀ y, o1[t]? = some y → ge l k y = false := by
                      intro y hy
                      rw [List.getElem?_eq_none (by rw [HPL.out]; omega)] at hy
                      cases hy
                    have hit2 : i < t := by omega
                    have hmf := mid_pass HM1.out hit2 (by rw [HPL.out]; omega) HR.out hst
                    have HMF := Lib.hid hmf
                    have HPF := Lib.hid (places_turned i (t - i) HP1.out (by omega))
                    clear hst hmf htn2
                    go_wp2
                    go_loopw [13, 14] (fun a b wr => ∃ (s : Nat) (jj : Int) (C : List Int), a = .int .i64 (i + s : Nat) ∧ b = .int .i64 jj ∧ Hid (jj = (t : Int) - 1 - s) ∧ 2 * s ≤ t - i + 1 ∧ Hid (Part i (t - i) (ints o1) C s) ∧ Row wr w1.heap.size g L4.length cap C ∧ Below w1.heap.size w1 wr) (fun a _ _ => i + t + 1 - (intOf a).toNat)
                    case atStart => exact ⟨0, (t : Int) - 1, ints o1, rfl, rfl, by unfold Hid; omega, by omega, part_start _ _ _ (by rw [ints_length, HPL.out]; omega), hO1, hb3⟩
                    case round =>
                      obtain ⟨s, jj, C, rfl, rfl, Hj, hs, HC, hR, hbs⟩ := hrel
                      clear hO1 hb3
                      by_cases hlt : 2 * s + 1 < t - i
                      · obtain ⟨j', hj'⟩ : ∃ j' : Nat, jj = j' := ⟨t - 1 - s, by have := Hj.out; omega⟩
                        subst hj'
                        have hjn : j' = i + (t - i - 1 - s) := by have := Hj.out; omega
                        have hij : i + s < j' := by omega
                        have hlC : C.length = L4.length := by rw [HC.out.1, ints_length, HPL.out]
                        obtain ⟨x, hx, c1, f1⟩ := hR.at_ (k := i + s) hlC (by omega)
                        obtain ⟨y, hy, c2, f2⟩ := hR.at_ (k := j') hlC (by omega)
                        have hR2 := (hR.set_ (i + s) y).set_ j' x
                        have c3 : (wr.setCell ⟨g, i + s, none⟩ (.int .i64 y)).cell? ⟨g, j', none⟩ = some (.int .i64 y) := by
                          rw [World.cell?_setCell_other _ _ _ _ (by intro e; injection e with _ e _; omega)]; exact c2
                        have hm' : j' < L4.length := by omega
                        have him : i + s < L4.length := by omega
                        have hps : Part i (t - i) (ints o1) ((C.set (i + s) y).set j' x) (s + 1) := by
                          rw [hjn] at hy ⊢
                          exact part_step i (t - i) (ints o1) C s x y (by rw [ints_length, HPL.out]; omega) hlt HC.out hx hy
                        have HPS := Lib.hid hps
                        have hgB := hR.ge
                        have HJ := Lib.hid hjn
                        clear hx hy hjn hlC hps
                        go_wp2
                        go_roundw
                        case rel => exact ⟨s + 1, (j' : Int) - 1, _, by go_num, by go_num, by unfold Hid; have := HJ.out; omega, by omega, HPS, hR2, (hbs.setCell hgB _).setCell hgB _⟩
                        case measure => simp [intOf]; omega
                      · have hnl : ¬ ((i + s : Nat) : Int) < jj := by have := Hj.out; omega
                        have hCe := part_end i (t - i) (ints o1) C s (by rw [ints_length, HPL.out]; omega) (by omega) HC.out
                        rw [turned_ints] at hCe
                        subst hCe
                        go_wp2
                        go_roundw
                        case rel => exact ⟨t + 1, _, n1 + 1, by go_num, rfl, by omega, HMF, HPF, hR, hbs⟩
                        case measure => simp [intOf]; omega
              · obtain ⟨he, hn⟩ := mid_end HM1.out (by rw [HP1.out.1]; omega)
                subst he
                have HN := Lib.hid hn
                clear hn
                go_wp2
                go_roundw
                case rel =>
                  refine ⟨k - 1, o1, n1, by go_num, rfl, by omega, by omega, ?_, HP1, hO1, by have := HN.out; omega, hb3⟩
                  unfold Hid; rw [HN.out]; exact HL2.out
                case measure => simp [intOf]; omega
          · have hlo : RN = (o, n) := by
              rw [HL.out, show (k + 1 - le).toNat = 0 from by omega]; rfl
            go_wp2
            go_ret2
            rw [HRN.out, hlo]
            have hs := hb1.size
            refine ⟨_, rfl, ?_, Below.then_ hb1 hb2⟩
            rw [HLL.out]
            exact own_mono hO (by omega)
end Go.Proofs.Ytlcijmllffablaa
