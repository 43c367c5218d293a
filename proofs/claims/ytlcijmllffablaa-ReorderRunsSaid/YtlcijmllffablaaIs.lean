/-
  Contracts of 'long', 'reorder.Is' and 'typecaseref17.Is': each computes its plain Lean function. Conditions: the slice reads as the list, at most 30 long.
-/
import Derived.Test.YtlcijmllffablaaBase
import Derived.Test.YtlcijmllffablaaRows
namespace Go.Proofs.Ytlcijmllffablaa
open Go.RowKit

theorem long_calls (A : Option Addr) (c : Nat) (l : List Int) (w : World) (b : Bool) (hb : decide (30 < l.length) = b) :
    Calls Try.prog 9 #[.slice A l.length c] w fun e w' => e = .returned (.bool b) ∧ w = w' := by
  subst hb
  go_enter Try.func9, Try.ntmps9
  go_wp2
  go_ret
  exact ⟨ret_bool (by simp; omega), rfl⟩

/-- the program's scan -/
def scanB : List Bool → List Int → Bool
  | _, [] => true
  | s, x :: r => if 0 ≤ x ∧ x < s.length ∧ s[x.toNat]? = some false then scanB (s.set x.toNat true) r else false

theorem is_calls (A : Option Addr) (c : Nat) (l : List Int) (w : World) (hI : Ints w w.heap.size A l) (hn : l.length ≤ 30) (tgt : Bool) (HT : Hid (tgt = scanB (List.replicate l.length false) l)) :
    Calls Try.prog 10 #[.slice A l.length c] w fun e w' => e = .returned (.bool tgt) ∧ Below w.heap.size w w' := by
  obtain ⟨i4, hi, hz0, hz1, hz2⟩ := info_parts (show (Try.prog.info? 4).map (fun i => (i.zero, i.size, i.bytes)) = some (some (.bool false), 1, 1) by kernel_rfl)
  go_enter Try.func10, Try.ntmps10
  go_wp2_with (at_make; refine wpList_make_full _ rfl _ _ _ rfl w.heap.size 4 i4 (.bool false) 1 Try.underlying32 hi hz0 hz1 .i64 .i64 l.length l.length l.length rfl rfl rfl rfl (by rw [hz2]; omega) (by unfold maxLen; omega) (Nat.le_refl _) ?_; intro w1 hown hgrow)
  have hb1 : Below w.heap.size w w1 := (Below.refl _ _).grown hgrow (Nat.le_refl _) (by intro k hk; cases hk)
  have hblk := own_blk hown
  rw [zeros_bool] at hblk
  clear hown hgrow hi hz0 hz1 hz2
  go_loopw [11] (fun i wr => ∃ (k : Nat) (s : List Bool), i = .int .i64 k ∧ k ≤ l.length ∧ Blk wr w.heap.size 4 (s.map Value.bool) ∧ Hid (s.length = l.length) ∧ Hid (tgt = scanB s (l.drop k)) ∧ Below w.heap.size w wr) (fun i _ => l.length - (intOf i).toNat)
  case atStart => exact ⟨0, _, rfl, Nat.zero_le _, hblk, by unfold Hid; simp, HT, hb1⟩
  case round =>
    obtain ⟨k, s, rfl, hk, hB, Hs, Ht, hb⟩ := hrel
    clear hblk hb1 HT
    by_cases hlt : k < l.length
    · obtain ⟨b, off, x, rfl, hlb, hx, hc⟩ := (hI.below hb).at_ hlt
      have Hx := Lib.hid hx
      clear hx
      rcases Int.lt_or_le x 0 with h0 | h0
      · go_wp2
        go_ret
        refine ⟨ret_bool ?_, hb⟩
        rw [Ht.out, drop_at Hx.out, scanB, if_neg (by omega)]
      · rcases Int.lt_or_le x l.length with h1 | h1
        · obtain ⟨m, rfl⟩ := Int.eq_ofNat_of_zero_le h0
          have hm : m < l.length := by omega
          obtain ⟨y, hy⟩ : ∃ y, s[m]? = some y := ⟨_, List.getElem?_eq_getElem (by rw [Hs.out]; exact hm)⟩
          have hcell : wr.cell? ⟨w.heap.size, m, none⟩ = some (.bool y) := by rw [hB.cell, List.getElem?_map, hy]; rfl
          have hfz : wr.frozen? ⟨w.heap.size, m, none⟩ = false := hB.frozen m
          have Hy := Lib.hid hy
          clear hy
          cases y with
          | true =>
            go_wp2
            go_ret
            refine ⟨ret_bool ?_, hb⟩
            rw [Ht.out, drop_at Hx.out, scanB, if_neg (by rw [Int.toNat_natCast, Hy.out]; simp)]
          | false =>
            go_wp2
            go_roundw
            case rel =>
              refine ⟨k + 1, s.set m true, by go_num, by omega, ?_, by unfold Hid; simpa using Hs.out, ?_, hb.setCell (Nat.le_refl _) _⟩
              · have := hB.set_ m (.bool true)
                rwa [← List.map_set] at this
              · unfold Hid
                rw [Ht.out, drop_at Hx.out, scanB, if_pos (by rw [Int.toNat_natCast, Hy.out, Hs.out]; exact ⟨by omega, by omega, rfl⟩), Int.toNat_natCast]
            case measure => simp [intOf]; omega
        · go_wp2
          go_ret
          refine ⟨ret_bool ?_, hb⟩
          rw [Ht.out, drop_at Hx.out, scanB, if_neg (by rw [Hs.out]; omega)]
    · go_wp2
      go_ret
      refine ⟨ret_bool ?_, hb⟩
      rw [Ht.out, List.drop_eq_nil_of_le (by omega), scanB]

/-- the reference: every number is somewhere -/
def allB (l : List Int) : Bool := (List.range l.length).all fun i => l.contains (i : Int)

theorem refIs_calls (A : Option Addr) (c : Nat) (l : List Int) (w : World) (hI : Ints w w.heap.size A l) (hn : l.length ≤ 30) :
    Calls Try.prog 11 #[.slice A l.length c] w fun e w' => e = .returned (.bool (allB l)) ∧ w = w' := by
  go_enter Try.func11, Try.ntmps11
  go_wp2
  go_loop [3] (fun i => ∃ k : Nat, i = .int .i64 k ∧ k ≤ l.length ∧ Hid (∀ j, j < k → l.contains (j : Int) = true)) (fun i => l.length - (intOf i).toNat)
  case atStart => exact ⟨0, rfl, Nat.zero_le _, by intro j hj; omega⟩
  case round =>
    obtain ⟨k, rfl, hk, Hall⟩ := hrel
    by_cases hlt : k < l.length
    · go_wp2
      go_loop [4, 5] (fun t i => ∃ (m : Nat) (y : Bool), i = .int .i64 m ∧ m ≤ l.length ∧ t = .bool y ∧ Hid (y = (l.take m).contains (k : Int))) (fun _ i => l.length - (intOf i).toNat)
      case atStart => exact ⟨0, false, rfl, Nat.zero_le _, rfl, by unfold Hid; simp⟩
      case round =>
        obtain ⟨m, y, rfl, hm, rfl, HY⟩ := hrel
        by_cases hmt : m < l.length
        · obtain ⟨b, off, x, rfl, hlb, hx, hc⟩ := hI.at_ hmt
          have ht := take_at hx
          have HX := Lib.hid ht
          clear ht hx
          by_cases hxk : x = k
          · have hd : (x == (k : Int)) = true := by simpa using hxk
            have HXK := Lib.hid hxk
            clear hxk
            go_wp2
            go_round
            case rel => exact ⟨m + 1, true, by go_num, by omega, rfl, by unfold Hid; rw [HX.out]; simp [HXK.out]⟩
            case measure => simp [intOf]; omega
          · have hd : (x == (k : Int)) = false := by simpa using hxk
            go_wp2
            go_round
            case rel => exact ⟨m + 1, y, by go_num, by omega, rfl, by unfold Hid; rw [HX.out, HY.out]; simp; exact fun e => absurd e.symm hxk⟩
            case measure => simp [intOf]; omega
        · have HY' : Hid (y = l.contains (k : Int)) := by
            have h := HY.out
            rwa [List.take_of_length_le (by omega)] at h
          clear HY
          cases y with
          | true =>
            go_wp2
            go_round
            case rel =>
              refine ⟨k + 1, by go_num, by omega, ?_⟩
              intro j hj
              by_cases hjk : j = k
              · rw [hjk]; exact HY'.out.symm
              · exact Hall j (by omega)
            case measure => simp [intOf]; omega
          | false =>
            go_wp2
            go_ret
            refine ⟨ret_bool ?_, rfl⟩
            symm
            unfold allB
            rw [List.all_eq_false]
            exact ⟨k, by rw [List.mem_range]; exact hlt, by rw [← HY'.out]; simp⟩
    · go_wp2
      go_ret
      refine ⟨ret_bool ?_, rfl⟩
      have h := Hall.out
      unfold allB
      symm
      rw [List.all_eq_true]
      intro i hi
      exact h i (by rw [List.mem_range] at hi; omega)
end Go.Proofs.Ytlcijmllffablaa
