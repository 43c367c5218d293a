/-
  Words for memory, used by all proofs of this seat: a slice of ints that reads as a list ('Ints'), a block that is known whole ('Blk'), what a row of the call's own reads as. Plain lemmas; no condition.
-/
import Derived.WalkKit
import Derived.ProofKit
import Derived.OpenShut
import Derived.Lib.Hide
import Derived.Laws.OwnMore
import Derived.Laws.Rows
import Derived.Deep.Draws
import Derived.Handy
namespace Go.Proofs.Ytdcmofdmjpggjaa
open Go.RowKit

/-- A list of ints as values. -/
def ivs (l : List Int) : List Value := l.map (Value.int .i64)
@[simp] theorem ivs_length (l : List Int) : (ivs l).length = l.length := by simp [ivs]
theorem ivs_get (l : List Int) (k : Nat) : (ivs l)[k]? = (l[k]?).map (Value.int .i64) := by simp [ivs]
theorem ivs_snoc (l : List Int) (x : Int) : ivs l ++ [.int .i64 x] = ivs (l ++ [x]) := by simp [ivs]
theorem ivs_set (l : List Int) (k : Nat) (x : Int) : (ivs l).set k (.int .i64 x) = ivs (l.set k x) := by simp [ivs, List.map_set]
theorem ivs_one (l : List Int) : ∀ u ∈ ivs l, u.oneCell' = true := by
  intro u hu
  simp only [ivs, List.mem_map] at hu
  obtain ⟨x, _, rfl⟩ := hu
  rfl

/-- THE SLICE VALUE '.slice A l.length c' READS AS l, in blocks below B. -/
def Ints (w : World) (B : Nat) (A : Option Addr) (l : List Int) : Prop :=
  l = [] ∨ ∃ b off, A = some ⟨b, off, none⟩ ∧ b < B ∧ ∀ k x, l[k]? = some x → w.cell? ⟨b, off + k, none⟩ = some (.int .i64 x)

theorem Ints.nil (w : World) (B : Nat) (A : Option Addr) : Ints w B A [] := .inl rfl
theorem Ints.at_ {w : World} {B : Nat} {A : Option Addr} {l : List Int} (h : Ints w B A l) {k : Nat} (hk : k < l.length) :
    ∃ b off x, A = some ⟨b, off, none⟩ ∧ b < B ∧ l[k]? = some x ∧ w.cell? ⟨b, off + k, none⟩ = some (.int .i64 x) := by
  rcases h with rfl | ⟨b, off, hA, hb, hc⟩
  · simp at hk
  · exact ⟨b, off, l[k], hA, hb, List.getElem?_eq_getElem hk, hc k _ (List.getElem?_eq_getElem hk)⟩
theorem Ints.keep {w w' : World} {B : Nat} {A : Option Addr} {l : List Int} (h : Ints w B A l) (hk : ∀ p : Addr, p.block < B → w'.cell? p = w.cell? p) : Ints w' B A l := by
  rcases h with rfl | ⟨b, off, hA, hb, hc⟩
  · exact .inl rfl
  · exact .inr ⟨b, off, hA, hb, fun k x hx => (hk _ hb).trans (hc k x hx)⟩
theorem Ints.more {w : World} {B B' : Nat} {A : Option Addr} {l : List Int} (h : Ints w B A l) (hB : B ≤ B') : Ints w B' A l := by
  rcases h with rfl | ⟨b, off, hA, hb, hc⟩
  · exact .inl rfl
  · exact .inr ⟨b, off, hA, by omega, hc⟩
theorem Ints.below {w w' : World} {B : Nat} {A : Option Addr} {l : List Int} (h : Ints w B A l) (hb : Below B w w') : Ints w' B A l := h.keep fun _ hp => hb.cell hp
/-- to a later world and its own size -/
theorem Ints.on {w w' : World} {A : Option Addr} {l : List Int} (h : Ints w w.heap.size A l) (hb : Below w.heap.size w w') : Ints w' w'.heap.size A l := (h.below hb).more hb.size
theorem Ints.alloc {w : World} {B : Nat} {A : Option Addr} {l : List Int} (h : Ints w B A l) (hB : B ≤ w.heap.size) (o : Obj) : Ints (w.alloc o) B A l := h.keep fun p hp => World.cell?_alloc_lt w o p (by omega)

/-- BLOCK g IS JUST THE CELLS cs of element type t, none frozen. -/
def Blk (w : World) (g : Nat) (t : TypeId) (cs : List Value) : Prop := w.heap[g]? = some (.cells cs.toArray t (0, 0))

section
variable {w w' : World} {g : Nat} {t : TypeId} {cs : List Value}
theorem Blk.lt (h : Blk w g t cs) : g < w.heap.size := by
  rcases Nat.lt_or_ge g w.heap.size with hlt | hge
  · exact hlt
  · unfold Blk at h; rw [Array.getElem?_eq_none hge] at h; cases h
theorem Blk.cell (h : Blk w g t cs) (i : Nat) : w.cell? ⟨g, i, none⟩ = cs[i]? := by
  rw [cell_of_row w g i cs.toArray t (0, 0) h]; simp
theorem Blk.frozen (h : Blk w g t cs) (i : Nat) : w.frozen? ⟨g, i, none⟩ = false := by
  unfold Blk at h
  simp [World.frozen?, h]
theorem Blk.new (w : World) (t : TypeId) (cs : List Value) : Blk (w.alloc (.cells cs.toArray t)) w.heap.size t cs := heap_alloc_new w _
theorem Blk.alloc (h : Blk w g t cs) (o : Obj) : Blk (w.alloc o) g t cs := (Below.heap_alloc w o g h.lt).trans h
theorem Blk.drew (h : Blk w g t cs) : Blk w.drew g t cs := h
theorem Blk.drewN (h : Blk w g t cs) (n : Nat) : Blk (w.drewN n) g t cs := h
theorem Blk.set_ (h : Blk w g t cs) (i : Nat) (u : Value) : Blk (w.setCell ⟨g, i, none⟩ u) g t (cs.set i u) := by
  unfold Blk at h ⊢
  simp [World.setCell, Array.getElem?_modify, h]
theorem Blk.far (h : Blk w g t cs) {p : Addr} (hp : g ≠ p.block) (u : Value) : Blk (w.setCell p u) g t cs := (Below.heap_setCell w p u g hp).trans h
theorem Blk.below {B : Nat} (h : Blk w g t cs) (hb : Below B w w') (hg : g < B) : Blk w' g t cs := (hb.block g hg).trans h
theorem Blk.on (h : Blk w g t cs) (hb : Below w.heap.size w w') : Blk w' g t cs := h.below hb h.lt
theorem Blk.grown {row : Option Nat} (h : Blk w g t cs) (hb : w.grownBy w' row) (hg : some g ≠ row) : Blk w' g t cs := (hb.block g h.lt hg).trans h
theorem Blk.ne_ {g' : Nat} {t' : TypeId} {cs' : List Value} (h : Blk w g t cs) (h' : Blk w g' t' cs') (hne : t ≠ t') : g ≠ g' := by
  rintro rfl
  unfold Blk at h h'
  rw [h] at h'
  injection h' with h'
  injection h' with _ ht
  exact hne ht
/-- a block of ints reads as a slice -/
theorem Blk.ints {l : List Int} (h : Blk w g t (ivs l)) : Ints w w.heap.size (some ⟨g, 0, none⟩) l :=
  .inr ⟨g, 0, rfl, h.lt, fun k x hx => by rw [h.cell, Nat.zero_add, ivs_get, hx]; rfl⟩
/-- a part of it -/
theorem Blk.ints_at {l m : List Int} {off : Nat} (h : Blk w g t (ivs l)) (hm : ∀ k x, m[k]? = some x → l[off + k]? = some x) : Ints w w.heap.size (some ⟨g, off, none⟩) m :=
  .inr ⟨g, off, rfl, h.lt, fun k x hx => by rw [h.cell, ivs_get, hm k x hx]; rfl⟩
theorem Blk.own {base n : Nat} {l : List Int} (h : Blk w g t (ivs l)) (hb : base ≤ g) (hn : n = l.length) (hm : n ≤ maxLen) : w.ownsRow base t 1 (.slice (some ⟨g, 0, none⟩) n n) n (ivs l) := by
  subst hn
  exact ⟨by simp, .inr ⟨g, l.length, _, rfl, hb, h, Nat.le_refl _, hm, by simp, by simp [List.take_of_length_le]⟩⟩
end

/-- a row that the call owns reads as a slice -/
theorem own_ints {w : World} {base : Nat} {e : TypeId} {v : Value} {l : List Int} (h : w.ownsRow base e 1 v l.length (ivs l)) :
    ∃ A c, v = .slice A l.length c ∧ Ints w w.heap.size A l := by
  rcases h.2 with ⟨rfl, hn⟩ | ⟨g, cap, cur, rfl, hb, hh, hc, hm, hs, ht⟩
  · have : l = [] := List.eq_nil_of_length_eq_zero hn
    subst this
    exact ⟨none, 0, rfl, .inl rfl⟩
  · refine ⟨_, _, rfl, .inr ⟨g, 0, rfl, (Array.getElem?_eq_some_iff.1 hh).1, fun k x hx => ?_⟩⟩
    have := h.cells (g := g) rfl k (.int .i64 x) (by rw [ivs_get, hx]; rfl)
    rw [Nat.zero_add]
    unfold Addr.add at this
    split at this <;> simp_all
/-- a row that fills its own block is that block -/
theorem own_blk {w : World} {base : Nat} {e : TypeId} {g n : Nat} {xs : List Value} (h : w.ownsRow base e 1 (.slice (some ⟨g, 0, none⟩) n n) n xs) : Blk w g e xs := by
  rcases h.2 with ⟨h', _⟩ | ⟨g', cap, cur, h', hb, hh, hc, hm, hs, ht⟩
  · simp at h'
  · simp only [Value.slice.injEq, Option.some.injEq, Addr.mk.injEq, and_true, true_and] at h'
    obtain ⟨rfl, rfl⟩ := h'
    have : xs = cur.toList := by rw [← ht, List.take_of_length_le]; simp [hs]
    subst this
    unfold Blk
    simpa using hh

/-- AS 'Ints', AND THE ROW IS NEW: it lies in a block from lo on. -/
def IntsN (w : World) (lo : Nat) (A : Option Addr) (l : List Int) : Prop :=
  l = [] ∨ ∃ b off, A = some ⟨b, off, none⟩ ∧ lo ≤ b ∧ b < w.heap.size ∧ ∀ k x, l[k]? = some x → w.cell? ⟨b, off + k, none⟩ = some (.int .i64 x)
section
variable {w w' : World} {lo : Nat} {A : Option Addr} {l : List Int}
theorem IntsN.ints (h : IntsN w lo A l) : Ints w w.heap.size A l := by
  rcases h with h | ⟨b, off, hA, _, hb, hc⟩
  · exact .inl h
  · exact .inr ⟨b, off, hA, hb, hc⟩
theorem IntsN.set_ (h : IntsN w lo A l) {p : Addr} (hp : p.block < lo) (u : Value) : IntsN (w.setCell p u) lo A l := by
  rcases h with h | ⟨b, off, hA, hlo, hb, hc⟩
  · exact .inl h
  · exact .inr ⟨b, off, hA, hlo, by simpa [World.setCell] using hb, fun k x hx => (World.cell?_setCell_other w p _ u (by intro e; subst e; exact absurd hp (by show ¬ b < lo; omega))).trans (hc k x hx)⟩
theorem IntsN.on (h : IntsN w lo A l) (hb : Below w.heap.size w w') : IntsN w' lo A l := by
  rcases h with h | ⟨b, off, hA, hlo, hlt, hc⟩
  · exact .inl h
  · exact .inr ⟨b, off, hA, hlo, Nat.lt_of_lt_of_le hlt hb.size, fun k x hx => (hb.cell (p := ⟨b, off + k, none⟩) hlt).trans (hc k x hx)⟩
theorem IntsN.low {lo' : Nat} (h : IntsN w lo A l) (hl : lo' ≤ lo) : IntsN w lo' A l := by
  rcases h with h | ⟨b, off, hA, hlo, hlt, hc⟩
  · exact .inl h
  · exact .inr ⟨b, off, hA, by omega, hlt, hc⟩
theorem IntsN.at_ (h : IntsN w lo A l) {k : Nat} (hk : k < l.length) :
    ∃ b off x, A = some ⟨b, off, none⟩ ∧ lo ≤ b ∧ b < w.heap.size ∧ l[k]? = some x ∧ w.cell? ⟨b, off + k, none⟩ = some (.int .i64 x) := by
  rcases h with rfl | ⟨b, off, hA, hlo, hb, hc⟩
  · simp at hk
  · exact ⟨b, off, l[k], hA, hlo, hb, List.getElem?_eq_getElem hk, hc k _ (List.getElem?_eq_getElem hk)⟩
theorem Blk.intsN {g : Nat} {t : TypeId} (h : Blk w g t (ivs l)) (hg : lo ≤ g) : IntsN w lo (some ⟨g, 0, none⟩) l :=
  .inr ⟨g, 0, rfl, hg, h.lt, fun k x hx => by rw [h.cell, Nat.zero_add, ivs_get, hx]; rfl⟩
theorem own_intsN {e : TypeId} {v : Value} (h : w.ownsRow lo e 1 v l.length (ivs l)) : ∃ A c, v = .slice A l.length c ∧ IntsN w lo A l := by
  rcases h.2 with ⟨rfl, hn⟩ | ⟨g, cap, cur, rfl, hb, hh, hc, hm, hs, ht⟩
  · have : l = [] := List.eq_nil_of_length_eq_zero hn
    subst this
    exact ⟨none, 0, rfl, .inl rfl⟩
  · refine ⟨_, _, rfl, .inr ⟨g, 0, rfl, hb, (Array.getElem?_eq_some_iff.1 hh).1, fun k x hx => ?_⟩⟩
    have := h.cells (g := g) rfl k (.int .i64 x) (by rw [ivs_get, hx]; rfl)
    rw [Nat.zero_add]
    unfold Addr.add at this
    split at this <;> simp_all
end

theorem below_drewN {B : Nat} {a w : World} (h : Below B a w) (n : Nat) : Below B a (w.drewN n) := ⟨h.os, h.tape, h.output, h.size, h.block⟩
/-- two calls, one behind the other -/
theorem Below.then_ {w w1 w2 : World} (h : Below w.heap.size w w1) (h2 : Below w1.heap.size w1 w2) : Below w.heap.size w w2 := h.trans (h2.mono h.size)
theorem only_refl (w : World) (row : Option Nat) : w.grownBy w row := ⟨rfl, rfl, rfl, Nat.le_refl _, fun _ _ _ => rfl⟩
theorem only_drewN {a w : World} {row : Option Nat} (h : a.grownBy w row) (n : Nat) : a.grownBy (w.drewN n) row := ⟨h.os, h.tape, h.output, h.size, h.block⟩
theorem only_drew {a w : World} {row : Option Nat} (h : a.grownBy w row) : a.grownBy w.drew row := ⟨h.os, h.tape, h.output, h.size, h.block⟩
theorem only_alloc {a w : World} {row : Option Nat} (h : a.grownBy w row) (o : Obj) : a.grownBy (w.alloc o) row :=
  ⟨h.os, h.tape, h.output, Nat.le_trans h.size (by simp), fun i hi hne => (Below.heap_alloc w o i (Nat.lt_of_lt_of_le hi h.size)).trans (h.block i hi hne)⟩
theorem only_setCell {a w : World} {g : Nat} (h : a.grownBy w (some g)) {p : Addr} (hp : p.block = g ∨ a.heap.size ≤ p.block) (u : Value) : a.grownBy (w.setCell p u) (some g) :=
  ⟨h.os, h.tape, h.output, by simpa [World.setCell] using h.size, fun i hi hne => (Below.heap_setCell w p u i (by
    rintro rfl
    rcases hp with hp | hp
    · exact hne (by rw [hp])
    · omega)).trans (h.block i hi hne)⟩
theorem only_of_below {a w : World} (h : Below a.heap.size a w) (row : Option Nat) : a.grownBy w row := ⟨h.os, h.tape, h.output, h.size, fun i hi _ => h.block i hi⟩
theorem only_below {a w : World} {g : Nat} (h : a.grownBy w (some g)) (hg : g ≤ a.heap.size) : Below g a w := ⟨h.os, h.tape, h.output, h.size, fun i hi => h.block i (by omega) (by intro e; injection e with e; omega)⟩
theorem drop_at {α : Type} {l : List α} {k : Nat} {x : α} (h : l[k]? = some x) : l.drop k = x :: l.drop (k + 1) := by
  obtain ⟨hk, rfl⟩ := List.getElem?_eq_some_iff.1 h
  exact List.drop_eq_getElem_cons hk
theorem take_at {α : Type} {l : List α} {k : Nat} {x : α} (h : l[k]? = some x) : l.take (k + 1) = l.take k ++ [x] := by
  obtain ⟨hk, rfl⟩ := List.getElem?_eq_some_iff.1 h
  exact List.take_succ_eq_append_getElem hk
theorem zeros_int (n : Nat) : (madeCells (Value.int .i64 0).cells (n * 1)).toList = ivs (List.replicate n 0) := by
  simp only [madeCells, Value.cells, ivs, List.map_replicate, Nat.mul_one]
  apply List.ext_getElem
  · simp
  · intro i h1 h2
    simp [Nat.mod_one]
theorem zeros_bool (n : Nat) : (madeCells (Value.bool false).cells (n * 1)).toList = (List.replicate n false).map Value.bool := by
  simp only [madeCells, Value.cells, List.map_replicate, Nat.mul_one]
  apply List.ext_getElem
  · simp
  · intro i h1 h2
    simp [Nat.mod_one]
theorem ret_bool {a b : Bool} (h : a = b) : Ending.returned (.bool a) = Ending.returned (.bool b) := by rw [h]
theorem ret_int {k : IntKind} {a b : Int} (h : a = b) : Ending.returned (.int k a) = Ending.returned (.int k b) := by rw [h]
theorem ret_int2 {k k' : IntKind} {a a' b b' : Int} (h : a = a') (h' : b = b') : Ending.returned (.tuple #[.int k a, .int k' b]) = Ending.returned (.tuple #[.int k a', .int k' b']) := by rw [h, h']
end Go.Proofs.Ytdcmofdmjpggjaa
