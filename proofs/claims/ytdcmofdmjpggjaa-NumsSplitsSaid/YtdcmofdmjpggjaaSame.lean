/-
  The contract of the reference's comparison of two slices of ints: it answers whether they are the same list, and writes nothing. Condition: each reads as its list.
-/
import Derived.Test.YtdcmofdmjpggjaaBase
import Derived.Test.YtdcmofdmjpggjaaRows
import Derived.Deep.QuietTactic
import Derived.BigQuiet
namespace Go.Proofs.Ytdcmofdmjpggjaa
open Go.RowKit

theorem same_calls (A A' : Option Addr) (c c' : Nat) (l m : List Int) (w : World) (hI : Ints w w.heap.size A l) (hJ : Ints w w.heap.size A' m) (hl : l.length ≤ 100000) (tgt : Bool) (HT : Hid (tgt = decide (l = m))) :
    Calls Try.prog 16 #[.slice A l.length c, .slice A' m.length c'] w fun e w' => e = .returned (.bool tgt) ∧ ∃ n, w' = w.drewN n := by
  by_cases hlen : l.length = m.length
  · have hd : ((l.length : Int) != (m.length : Int)) = false := by simp [hlen]
    have HL := Lib.hid hlen
    clear hlen
    go_enter Try.func16, Try.ntmps16
    go_wp2
    go_loopw [5] (fun i wr => ∃ k : Nat, i = .int .i64 k ∧ k ≤ l.length ∧ Hid (∀ j, j < k → l[j]? = m[j]?) ∧ ∃ n, wr = w.drewN n) (fun i _ => l.length - (intOf i).toNat)
    case atStart => exact ⟨0, rfl, Nat.zero_le _, (by intro j hj; omega), 0, rfl⟩
    case round =>
      obtain ⟨k, rfl, hk, Hall, n, rfl⟩ := hrel
      by_cases hlt : k < l.length
      · obtain ⟨b, off, x, rfl, hlb, hx, hc⟩ := hI.at_ hlt
        obtain ⟨b', off', y, rfl, hlb', hy, hc'⟩ := hJ.at_ (k := k) (by rw [← HL.out]; exact hlt)
        have Hx := Lib.hid hx
        have Hy := Lib.hid hy
        clear hx hy
        have hlt' : k < m.length := by rw [← HL.out]; exact hlt
        have hi : (k : Int) < (l.length : Int) := by omega
        have hi' : (k : Int) < (m.length : Int) := by omega
        by_cases hxy : x = y
        · have hd : (x != y) = false := by simpa using hxy
          have HXY := Lib.hid hxy
          clear hxy
          go_wp2
          go_quiet (fail)
          go_wp2
          go_roundw
          case rel =>
            refine ⟨k + 1, by go_num, by omega, ?_, _, rfl⟩
            intro j hj
            by_cases hjk : j = k
            · rw [hjk, Hx.out, Hy.out, HXY.out]
            · exact Hall j (by omega)
          case measure => simp [intOf]; omega
        · have hd : (x != y) = true := by simpa using hxy
          have HXY := Lib.hid hxy
          clear hxy
          go_wp2
          go_quiet (fail)
          go_wp2
          go_ret
          refine ⟨ret_bool ?_, _, World.drewN_drewN _ _ _⟩
          rw [HT.out]
          symm
          rw [decide_eq_false_iff_not]
          intro e
          have h1 := Hx.out
          rw [e, Hy.out] at h1
          exact HXY.out (Option.some.inj h1).symm
      · go_wp2
        go_ret
        refine ⟨ret_bool ?_, _, rfl⟩
        rw [HT.out]
        symm
        rw [decide_eq_true_eq]
        have h := Hall.out
        apply List.ext_getElem?
        intro j
        by_cases hj : j < k
        · exact h j hj
        · rw [List.getElem?_eq_none (by omega), List.getElem?_eq_none (by rw [← HL.out]; omega)]
  · have hd : ((l.length : Int) != (m.length : Int)) = true := by simp; omega
    have HT' : Hid (tgt = false) := by
      have h := HT.out
      rw [h]
      show decide (l = m) = false
      rw [decide_eq_false_iff_not]
      intro e
      exact hlen (by rw [e])
    go_enter Try.func16, Try.ntmps16
    go_wp2
    go_ret
    exact ⟨ret_bool HT'.out.symm, 0, rfl⟩
theorem same_below (A A' : Option Addr) (c c' : Nat) (l m : List Int) (w : World) (hI : Ints w w.heap.size A l) (hJ : Ints w w.heap.size A' m) (hl : l.length ≤ 100000) (tgt : Bool) (HT : Hid (tgt = decide (l = m))) :
    Calls Try.prog 16 #[.slice A l.length c, .slice A' m.length c'] w fun e w' => e = .returned (.bool tgt) ∧ Below w.heap.size w w' :=
  (same_calls A A' c c' l m w hI hJ hl tgt HT).mono fun _ _ ⟨he, n, hw⟩ => ⟨he, by rw [hw]; exact below_drewN (Below.refl _ _) n⟩
end Go.Proofs.Ytdcmofdmjpggjaa
