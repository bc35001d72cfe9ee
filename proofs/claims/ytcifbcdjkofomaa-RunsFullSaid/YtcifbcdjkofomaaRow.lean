/-
  Rows of spans in memory, and the set of runs behind its pointer. Conditions: none.
-/
import Derived.Test.YtcifbcdjkofomaaSpan
namespace Go.Proofs.Ytcifbcdjkofomaa
open Go.RowKit
set_option linter.unusedVariables false
set_option linter.unusedSimpArgs false


def cellsOf (l : List Sp) : List Value := l.flatMap spc
theorem cellsOf_length (l : List Sp) : (cellsOf l).length = l.length * 2 := by
  induction l with
  | nil => rfl
  | cons a l ih => simp [cellsOf, spc] at *; omega
theorem cellsOf_append (l m : List Sp) : cellsOf (l ++ m) = cellsOf l ++ cellsOf m := by simp [cellsOf]
theorem cellsOf_cons (s : Sp) (l : List Sp) : cellsOf (s :: l) = .int .i64 s.1 :: .int .i64 s.2 :: cellsOf l := by simp [cellsOf, spc]
theorem cellsOf_get (l : List Sp) : ∀ (i : Nat) (h : i < l.length), (cellsOf l)[i * 2]? = some (.int .i64 l[i].1) ∧ (cellsOf l)[i * 2 + 1]? = some (.int .i64 l[i].2) := by
  induction l with
  | nil => intro i h; simp at h
  | cons a l ih =>
    intro i h
    rw [cellsOf_cons]
    cases i with
    | zero => simp
    | succ i =>
      have h' : i < l.length := by simpa using h
      have := ih i h'
      rw [show (i + 1) * 2 = i * 2 + 1 + 1 by omega, show i * 2 + 1 + 1 + 1 = (i * 2 + 1) + 1 + 1 by omega]
      simpa using this
theorem cellsOf_take (l : List Sp) (i : Nat) : cellsOf (l.take i) = (cellsOf l).take (i * 2) := by
  induction l generalizing i with
  | nil => simp [cellsOf]
  | cons a l ih =>
    cases i with
    | zero => simp [cellsOf]
    | succ i => rw [List.take_succ_cons, cellsOf_cons, cellsOf_cons, ih, show (i + 1) * 2 = i * 2 + 1 + 1 by omega]; simp
theorem cellsOf_drop (l : List Sp) (i : Nat) : cellsOf (l.drop i) = (cellsOf l).drop (i * 2) := by
  induction l generalizing i with
  | nil => simp [cellsOf]
  | cons a l ih =>
    cases i with
    | zero => simp [cellsOf]
    | succ i => rw [List.drop_succ_cons, cellsOf_cons, ih, show (i + 1) * 2 = i * 2 + 1 + 1 by omega]; simp

/-- The slice v reads as l, and is a row of its own from the head of a block on. -/
def SpRow (w : World) (v : Value) (l : List Sp) : Prop := w.ownsRow 0 24 2 v l.length (cellsOf l)
theorem SpRow.shape {w : World} {v : Value} {l : List Sp} (h : SpRow w v l) :
    (v = .slice none 0 0 ∧ l = []) ∨ ∃ g cap cur, v = .slice (some ⟨g, 0, none⟩) l.length cap ∧ w.heap[g]? = some (.cells cur 24 (0, 0)) ∧ l.length ≤ cap ∧ cap ≤ maxLen ∧ cur.size = cap * 2 ∧ cur.toList.take (l.length * 2) = cellsOf l := by
  rcases h.2 with ⟨hv, hn⟩ | ⟨g, cap, cur, hv, _, hh, h1, h2, h3, h4⟩
  · exact .inl ⟨hv, List.eq_nil_of_length_eq_zero hn⟩
  · exact .inr ⟨g, cap, cur, hv, hh, h1, h2, h3, h4⟩
theorem SpRow.form {w : World} {v : Value} {l : List Sp} (h : SpRow w v l) : ∃ A c, v = .slice A l.length c ∧ l.length ≤ c ∧ c ≤ 9223372036854775807 := by
  rcases h.shape with ⟨rfl, rfl⟩ | ⟨g, cap, cur, rfl, _, h1, h2, _⟩
  · exact ⟨none, 0, rfl, by simp, by simp⟩
  · exact ⟨_, cap, rfl, h1, by unfold maxLen at h2; omega⟩
/-- What a slice leads to, element by element. -/
def RdSp (w : World) (A : Option Addr) (l : List Sp) : Prop :=
  l = [] ∨ ∃ g o, A = some ⟨g, o, none⟩ ∧ ∀ (i : Nat) (h : i < l.length), w.cell? ⟨g, o + i * 2, none⟩ = some (.int .i64 l[i].1) ∧ w.cell? ⟨g, o + (i * 2 + 1), none⟩ = some (.int .i64 l[i].2)
theorem RdSp.below {w w' : World} {A : Option Addr} {l : List Sp} (h : RdSp w A l) (hb : Below w.heap.size w w') : RdSp w' A l := by
  rcases h with h | ⟨g, o, hA, hc⟩
  · exact .inl h
  · exact .inr ⟨g, o, hA, fun i hi => ⟨Below.cell' hb (hc i hi).1, Below.cell' hb (hc i hi).2⟩⟩
theorem SpRow.reads {w : World} {A : Option Addr} {n c : Nat} {l : List Sp} (h : SpRow w (.slice A n c) l) : RdSp w A l := by
  rcases h.shape with ⟨_, rfl⟩ | ⟨g, cap, cur, hv, hh, h1, h2, h3, h4⟩
  · exact .inl rfl
  · injection hv with hA _ _
    refine .inr ⟨g, 0, hA, fun i hi => ?_⟩
    have hg := cellsOf_get l i hi
    have e : ∀ j u, j < l.length * 2 → (cellsOf l)[j]? = some u → w.cell? ⟨g, j, none⟩ = some u := by
      intro j u hj hu
      rw [cell_of_at hh, ← Array.getElem?_toList]
      rw [← h4, List.getElem?_take] at hu
      simpa [hj] using hu
    exact ⟨by simpa using e _ _ (by omega) hg.1, by simpa using e _ _ (by omega) hg.2⟩
theorem SpRow.len {w : World} {A : Option Addr} {n c : Nat} {l : List Sp} (h : SpRow w (.slice A n c) l) : n = l.length ∧ l.length ≤ c ∧ c ≤ 9223372036854775807 := by
  obtain ⟨A', c', hv, h1, h2⟩ := h.form
  injection hv with _ e2 e3
  subst e2; subst e3
  exact ⟨rfl, h1, h2⟩
theorem SpRow.chg {w w' : World} {M : Nat → Prop} {v : Value} {l : List Sp} (h : SpRow w v l) (hc : Chg M w w') (hn : ∀ k, v.ownBlock = some k → ¬ M k) : SpRow w' v l := by
  obtain ⟨h1, h2⟩ := h
  refine ⟨h1, ?_⟩
  rcases h2 with h2 | ⟨g, cap, cur, rfl, hg, hh, r⟩
  · exact .inl h2
  · exact .inr ⟨g, cap, cur, rfl, hg, hc.at_ hh (hn g (by simp [Value.ownBlock])), r⟩
theorem SpRow.below {w w' : World} {v : Value} {l : List Sp} (h : SpRow w v l) (hb : Below w.heap.size w w') : SpRow w' v l :=
  h.chg (Chg.of_below (M := fun _ => False) hb) (fun _ _ h => h)
theorem SpRow.lt {w : World} {v : Value} {l : List Sp} (h : SpRow w v l) {k : Nat} (hk : v.ownBlock = some k) : k < w.heap.size := by
  rcases h.shape with ⟨rfl, rfl⟩ | ⟨g, cap, cur, rfl, hh, _⟩
  · simp [Value.ownBlock] at hk
  · have : g = k := by simpa [Value.ownBlock] using hk
    subst this; exact lt_of_at hh
theorem SpRow.nil (w : World) : SpRow w (.slice none 0 0) [] := World.ownsRow_nil w 0 24 2

/-- A set of runs: its one cell holds a row. -/
structure IsRuns (w : World) (b : Nat) (v : Value) (l : List Sp) : Prop where
  box : w.heap[b]? = some (.cells #[v] 92 (0, 0))
  row : SpRow w v l
theorem IsRuns.ne {w : World} {b : Nat} {v : Value} {l : List Sp} (h : IsRuns w b v l) : v.ownBlock ≠ some b := by
  rcases h.row.shape with ⟨rfl, rfl⟩ | ⟨g, cap, cur, rfl, hh, _⟩
  · simp [Value.ownBlock]
  · intro e
    have : g = b := by simpa [Value.ownBlock] using e
    subst this
    rw [h.box] at hh
    injection hh with hh; injection hh with _ hh _; exact absurd hh (by decide)
theorem IsRuns.lt {w : World} {b : Nat} {v : Value} {l : List Sp} (h : IsRuns w b v l) : b < w.heap.size := lt_of_at h.box
theorem IsRuns.chg {w w' : World} {M : Nat → Prop} {b : Nat} {v : Value} {l : List Sp} (h : IsRuns w b v l) (hc : Chg M w w') (hb : ¬ M b) (hn : ∀ k, v.ownBlock = some k → ¬ M k) : IsRuns w' b v l :=
  ⟨hc.at_ h.box hb, h.row.chg hc hn⟩
theorem IsRuns.below {w w' : World} {b : Nat} {v : Value} {l : List Sp} (h : IsRuns w b v l) (hb : Below w.heap.size w w') : IsRuns w' b v l := ⟨Below.at' hb h.box, h.row.below hb⟩
theorem IsRuns.cell {w : World} {b : Nat} {v : Value} {l : List Sp} (h : IsRuns w b v l) : w.cell? ⟨b, 0, none⟩ = some v := by rw [cell_of_at h.box]; rfl

end Go.Proofs.Ytcifbcdjkofomaa
