/-
  Contracts of the reference's 'Counts' and 'bounds'.
-/
import Derived.Test.YtlcijmllffablaaRound
import Derived.WalkSpells
namespace Go.Proofs.Ytlcijmllffablaa
open Go.RowKit

theorem counts_calls (A : Option Addr) (c : Nat) (l : List Int) (w : World) (hI : Ints w w.heap.size A l) (hn : l.length ≤ 100) :
    Calls Try.prog 28 #[.slice A l.length c] w fun e w' => ∃ v, e = .returned v ∧ w'.ownsRow w.heap.size 3 1 v l.length (ivs (l.map held)) ∧ Below w.heap.size w w' := by
  obtain ⟨i3, hi, hz0, hz1, hz2⟩ := info_parts (show (Try.prog.info? 3).map (fun i => (i.zero, i.size, i.bytes)) = some (some (.int .i64 0), 1, 8) by kernel_rfl)
  go_enter Try.func28, Try.ntmps28
  go_wp2
  go_loopw [3, 4] (fun v i wr => ∃ k : Nat, i = .int .i64 k ∧ k ≤ l.length ∧ wr.ownsRow w.heap.size 3 1 v k (ivs ((l.take k).map held)) ∧ Below w.heap.size w wr) (fun _ i _ => l.length - (intOf i).toNat)
  case atStart => exact ⟨0, rfl, Nat.zero_le _, World.ownsRow_nil _ _ _ _, Below.refl _ _⟩
  case round =>
    obtain ⟨k, rfl, hk, hown, hb⟩ := hrel
    by_cases hlt : k < l.length
    · obtain ⟨b, off, x, rfl, hlb, hx, hc⟩ := (hI.below hb).at_ hlt
      have hT := take_at hx
      have HT := Lib.hid hT
      clear hx hT
      have hbs := hb.size
      rcases (show x < 0 ∨ x = 0 ∨ (0 < x ∧ x < 126) ∨ x = 126 ∨ 126 < x by omega) with hx0 | rfl | ⟨hx0, hx1⟩ | rfl | hx0
      · have hh : held x = 0 := by unfold held; omega
        have HH := Lib.hid hh
        clear hh
        go_wp2_with (at_builtin; refine wpList_append_own _ rfl _ _ 22 rfl w.heap.size 3 i3 (.int .i64 0) 1 8 Try.underlying22 hi hz0 hz1 hz2 rfl (by decide) _ _ _ rfl (hown.alloc _) ⟨wr.heap.size, 0, none⟩ 1 1 [.int .i64 0] rfl rfl (cell_one_new _ _ _) (by intro u hu; simp at hu; subst hu; rfl) (by unfold maxLen; omega) (by omega) (by simp; omega) ?_; intro v' w2 hown' hgrow _)
        go_roundw
        case rel =>
          refine ⟨k + 1, by go_num, by omega, ?_, (hb.alloc hbs _).grown hgrow (by simp; omega) (fun k hk => (hown.lt k hk).1)⟩
          rw [HT.out, List.map_append, List.map_singleton, HH.out, ← ivs_snoc]
          exact hown'
        case measure => simp [intOf]; omega
      · have hh : held 0 = 0 := by decide
        have HH := Lib.hid hh
        clear hh
        go_wp2_with (at_builtin; refine wpList_append_own _ rfl _ _ 22 rfl w.heap.size 3 i3 (.int .i64 0) 1 8 Try.underlying22 hi hz0 hz1 hz2 rfl (by decide) _ _ _ rfl (hown.alloc _) ⟨wr.heap.size, 0, none⟩ 1 1 [.int .i64 0] rfl rfl (cell_one_new _ _ _) (by intro u hu; simp at hu; subst hu; rfl) (by unfold maxLen; omega) (by omega) (by simp; omega) ?_; intro v' w2 hown' hgrow _)
        go_roundw
        case rel =>
          refine ⟨k + 1, by go_num, by omega, ?_, (hb.alloc hbs _).grown hgrow (by simp; omega) (fun k hk => (hown.lt k hk).1)⟩
          rw [HT.out, List.map_append, List.map_singleton, HH.out, ← ivs_snoc]
          exact hown'
        case measure => simp [intOf]; omega
      · have hh : held x = x := by unfold held; omega
        have HH := Lib.hid hh
        clear hh
        go_wp2_with (at_builtin; refine wpList_append_own _ rfl _ _ 22 rfl w.heap.size 3 i3 (.int .i64 0) 1 8 Try.underlying22 hi hz0 hz1 hz2 rfl (by decide) _ _ _ rfl (hown.alloc _) ⟨wr.heap.size, 0, none⟩ 1 1 [.int .i64 x] rfl rfl (cell_one_new _ _ _) (by intro u hu; simp at hu; subst hu; rfl) (by unfold maxLen; omega) (by omega) (by simp; omega) ?_; intro v' w2 hown' hgrow _)
        go_roundw
        case rel =>
          refine ⟨k + 1, by go_num, by omega, ?_, (hb.alloc hbs _).grown hgrow (by simp; omega) (fun k hk => (hown.lt k hk).1)⟩
          rw [HT.out, List.map_append, List.map_singleton, HH.out, ← ivs_snoc]
          exact hown'
        case measure => simp [intOf]; omega
      · have hh : held 126 = 126 := by decide
        have HH := Lib.hid hh
        clear hh
        go_wp2_with (at_builtin; refine wpList_append_own _ rfl _ _ 22 rfl w.heap.size 3 i3 (.int .i64 0) 1 8 Try.underlying22 hi hz0 hz1 hz2 rfl (by decide) _ _ _ rfl (hown.alloc _) ⟨wr.heap.size, 0, none⟩ 1 1 [.int .i64 126] rfl rfl (cell_one_new _ _ _) (by intro u hu; simp at hu; subst hu; rfl) (by unfold maxLen; omega) (by omega) (by simp; omega) ?_; intro v' w2 hown' hgrow _)
        go_roundw
        case rel =>
          refine ⟨k + 1, by go_num, by omega, ?_, (hb.alloc hbs _).grown hgrow (by simp; omega) (fun k hk => (hown.lt k hk).1)⟩
          rw [HT.out, List.map_append, List.map_singleton, HH.out, ← ivs_snoc]
          exact hown'
        case measure => simp [intOf]; omega
      · have hh : held x = 126 := by unfold held; omega
        have HH := Lib.hid hh
        clear hh
        go_wp2_with (at_builtin; refine wpList_append_own _ rfl _ _ 22 rfl w.heap.size 3 i3 (.int .i64 0) 1 8 Try.underlying22 hi hz0 hz1 hz2 rfl (by decide) _ _ _ rfl (hown.alloc _) ⟨wr.heap.size, 0, none⟩ 1 1 [.int .i64 126] rfl rfl (cell_one_new _ _ _) (by intro u hu; simp at hu; subst hu; rfl) (by unfold maxLen; omega) (by omega) (by simp; omega) ?_; intro v' w2 hown' hgrow _)
        go_roundw
        case rel =>
          refine ⟨k + 1, by go_num, by omega, ?_, (hb.alloc hbs _).grown hgrow (by simp; omega) (fun k hk => (hown.lt k hk).1)⟩
          rw [HT.out, List.map_append, List.map_singleton, HH.out, ← ivs_snoc]
          exact hown'
        case measure => simp [intOf]; omega
    · have hkl : k = l.length := by omega
      subst hkl
      rw [List.take_of_length_le (Nat.le_refl _)] at hown
      go_wp2
      go_ret
      exact ⟨_, rfl, hown, hb⟩

theorem bounds_calls (A : Option Addr) (c : Nat) (l : List Int) (w : World) (hI : Ints w w.heap.size A l) (hn : l.length ≤ 100) (hl : Hid (∀ x ∈ l, held x = x)) (ma le : Int) (Hma : Hid (ma = most l)) (Hle : Hid (le = least l)) :
    Calls Try.prog 30 #[.slice A l.length c] w fun e w' => e = .returned (.tuple #[.int .i64 ma, .int .i64 le]) ∧ w = w' := by
  go_enter Try.func30, Try.ntmps30
  go_wp2
  go_loop [4, 5, 6] (fun a b i => ∃ (k : Nat) (m e : Int), i = .int .i64 k ∧ k ≤ l.length ∧ a = .int .i64 m ∧ b = .int .i64 e ∧ Hid (m = most (l.take k)) ∧ Hid (e = least (l.take k))) (fun _ _ i => l.length - (intOf i).toNat)
  case atStart => exact ⟨0, 0, 127, rfl, Nat.zero_le _, rfl, rfl, rfl, rfl⟩
  case round =>
    obtain ⟨k, m, e, rfl, hk, rfl, rfl, Hm, He⟩ := hrel
    by_cases hlt : k < l.length
    · obtain ⟨b, off, x, rfl, hlb, hx, hc⟩ := hI.at_ hlt
      have hT := take_at hx
      have hh := hl.out x (List.mem_of_getElem? hx)
      have h0 : 0 ≤ x := by rw [← hh]; exact held_ge x
      have HT := Lib.hid hT
      have HH := Lib.hid hh
      clear hx hT hh
      by_cases hodd : x % 2 = 1
      · have hd : (x % 2 == 1) = true := by simpa using hodd
        have HO := Lib.hid hodd
        clear hodd
        go_wp2
        all_goals
          go_round
          case rel =>
            refine ⟨k + 1, _, _, by go_num, by omega, rfl, rfl, ?_, ?_⟩
            · unfold Hid; rw [HT.out, most_snoc, ← Hm.out, HH.out]; omega
            · unfold Hid; rw [HT.out, least_snoc, ← He.out, HH.out, if_pos HO.out]; omega
          case measure => simp [intOf]; omega
      · have hd : (x % 2 == 1) = false := by simpa using hodd
        have HO := Lib.hid hodd
        clear hodd
        go_wp2
        all_goals
          go_round
          case rel =>
            refine ⟨k + 1, _, _, by go_num, by omega, rfl, rfl, ?_, ?_⟩
            · unfold Hid; rw [HT.out, most_snoc, ← Hm.out, HH.out]; omega
            · unfold Hid; rw [HT.out, least_snoc, ← He.out, HH.out, if_neg HO.out]
          case measure => simp [intOf]; omega
    · have hkl : k = l.length := by omega
      subst hkl
      rw [List.take_of_length_le (Nat.le_refl _)] at Hm He
      go_wp2
      go_ret2
      exact ⟨ret_int2 (by rw [Hm.out, Hma.out]) (by rw [He.out, Hle.out]), rfl⟩

theorem most_held (l : List Int) : most (l.map held) = most l := by
  have h : ∀ (l : List Int) (m : Int), (l.map held).foldl (fun m n => max m (held n)) m = l.foldl (fun m n => max m (held n)) m := by
    intro l
    induction l with
    | nil => intro m; rfl
    | cons x r ih => intro m; simp only [List.map_cons, List.foldl_cons, held_held]; exact ih _
  exact h l 0
theorem least_held (l : List Int) : least (l.map held) = least l := by
  have h : ∀ (l : List Int) (m : Int), (l.map held).foldl (fun m n => if held n % 2 = 1 then min m (held n) else m) m = l.foldl (fun m n => if held n % 2 = 1 then min m (held n) else m) m := by
    intro l
    induction l with
    | nil => intro m; rfl
    | cons x r ih => intro m; simp only [List.map_cons, List.foldl_cons, held_held]; exact ih _
  exact h l 127
end Go.Proofs.Ytlcijmllffablaa
