/-
  The comparison of two slices of spans that read as the same list: it says yes.
-/
import Derived.Test.YtlcijmllffablaaRunsR
namespace Go.Proofs.Ytlcijmllffablaa
open Go.RowKit

theorem spans_calls (v v' : Value) (n : Nat) (T : List Run3) (B B' : Nat) (w : World) (hn : n = T.length) (hT : n ≤ 100) (h1 : w.ownsRow B 38 3 v n (sps T)) (h2 : w.ownsRow B' 38 3 v' n (sps T)) :
    Calls Try.prog 19 #[v, v'] w fun e w' => e = .returned (.bool true) ∧ Below w.heap.size w w' := by
  obtain ⟨A, c, rfl⟩ := own_form h1
  obtain ⟨A', c', rfl⟩ := own_form h2
  have HN := Lib.hid hn
  have hd : ((n : Int) != (n : Int)) = false := by simp
  clear hn
  go_enter Try.func19, Try.ntmps19
  go_wp2
  go_loopw [5] (fun i wr => ∃ k : Nat, i = .int .i64 k ∧ k ≤ n ∧ ∃ m, wr = w.drewN m) (fun i _ => n - (intOf i).toNat)
  case atStart => exact ⟨0, rfl, Nat.zero_le _, 0, rfl⟩
  case round =>
    obtain ⟨k, rfl, hk, m, rfl⟩ := hrel
    by_cases hlt : k < n
    · obtain ⟨q, hq⟩ : ∃ q, T[k]? = some q := ⟨_, List.getElem?_eq_getElem (by rw [← HN.out]; exact hlt)⟩
      obtain ⟨g, cap, hv, _, _⟩ := h1.form (by omega)
      injection hv with hA _ hc'
      subst hA
      obtain ⟨g', cap', hv', _, _⟩ := h2.form (by omega)
      injection hv' with hA' _ hc2'
      subst hA'
      have hki : (k : Int) < (n : Int) := by omega
      have c0 : w.cell? ⟨g, k * 3, none⟩ = some (.int .i64 (q.1 : Nat)) := by
        rw [(own_as h1).cellAt (k * 3) (by omega), show k * 3 = k * 3 + 0 from rfl, sps_get _ k q 0 hq (by omega)]; rfl
      have c1 : w.cell? ⟨g, k * 3 + 1, none⟩ = some (.int .i64 (q.2.1 : Nat)) := by
        rw [(own_as h1).cellAt (k * 3 + 1) (by omega), sps_get _ k q 1 hq (by omega)]; rfl
      have c2 : w.cell? ⟨g, k * 3 + 2, none⟩ = some (.int .i64 q.2.2) := by
        rw [(own_as h1).cellAt (k * 3 + 2) (by omega), sps_get _ k q 2 hq (by omega)]; rfl
      have d0 : w.cell? ⟨g', k * 3, none⟩ = some (.int .i64 (q.1 : Nat)) := by
        rw [(own_as h2).cellAt (k * 3) (by omega), show k * 3 = k * 3 + 0 from rfl, sps_get _ k q 0 hq (by omega)]; rfl
      have d1 : w.cell? ⟨g', k * 3 + 1, none⟩ = some (.int .i64 (q.2.1 : Nat)) := by
        rw [(own_as h2).cellAt (k * 3 + 1) (by omega), sps_get _ k q 1 hq (by omega)]; rfl
      have d2 : w.cell? ⟨g', k * 3 + 2, none⟩ = some (.int .i64 q.2.2) := by
        rw [(own_as h2).cellAt (k * 3 + 2) (by omega), sps_get _ k q 2 hq (by omega)]; rfl
      clear hq hc' hc2'
      go_wp2_with fail
      go_quiet (fail)
      go_wp2_with fail
      go_roundw
      case rel => exact ⟨k + 1, by go_num, by omega, _, rfl⟩
      case measure => simp [intOf]; omega
    · go_wp2_with fail
      go_ret
      exact ⟨rfl, below_drewN (Below.refl _ _) _⟩
end Go.Proofs.Ytlcijmllffablaa
