/-
  Plain facts on lists of spans that rise and do not touch. Conditions: none.
-/
import Derived.Test.YtcifbcdjkofomaaMeets
namespace Go.Proofs.Ytcifbcdjkofomaa
open Go.RowKit
set_option linter.unusedVariables false
set_option linter.unusedSimpArgs false

/-- Spans that rise, have offsets, and do not touch. -/
structure WF (l : List Sp) : Prop where
  may : ∀ x ∈ l, 0 ≤ x.1 ∧ x.1 < x.2 ∧ x.2 ≤ 4611686018427387904
  apart : l.Pairwise (fun x y => x.2 < y.1)
theorem WF.nil : WF [] := ⟨fun _ h => by simp at h, List.Pairwise.nil⟩
theorem WF.tail {x : Sp} {l : List Sp} (h : WF (x :: l)) : WF l := ⟨fun y hy => h.may y (List.mem_cons_of_mem _ hy), (List.pairwise_cons.1 h.apart).2⟩
theorem WF.head {x : Sp} {l : List Sp} (h : WF (x :: l)) : 0 ≤ x.1 ∧ x.1 < x.2 ∧ x.2 ≤ 4611686018427387904 := h.may x List.mem_cons_self
theorem WF.lt {x : Sp} {l : List Sp} (h : WF (x :: l)) : ∀ y ∈ l, x.2 < y.1 := (List.pairwise_cons.1 h.apart).1
theorem WF.drop {l : List Sp} (h : WF l) (k : Nat) : WF (l.drop k) := ⟨fun y hy => h.may y (List.mem_of_mem_drop hy), h.apart.sublist (List.drop_sublist k l)⟩
theorem WF.take {l : List Sp} (h : WF l) (k : Nat) : WF (l.take k) := ⟨fun y hy => h.may y (List.mem_of_mem_take hy), h.apart.sublist (List.take_sublist k l)⟩
theorem WF.at_ {l : List Sp} (h : WF l) (i : Nat) (hi : i < l.length) : 0 ≤ (atS l i).1 ∧ (atS l i).1 < (atS l i).2 ∧ (atS l i).2 ≤ 4611686018427387904 := by
  rw [atS_get l i hi]; exact h.may _ (List.getElem_mem hi)
theorem WF.lt_at {l : List Sp} (h : WF l) (i j : Nat) (hij : i < j) (hj : j < l.length) : (atS l i).2 < (atS l j).1 := by
  rw [atS_get l i (by omega), atS_get l j hj]
  exact List.pairwise_iff_getElem.1 h.apart i j (by omega) hj hij
theorem WF.rises_to {l : List Sp} (h : WF l) (p : Int → Bool) (hp : ∀ a b, a ≤ b → p a = true → p b = true) : Rises l (fun y => p y.2) := by
  intro i j hij hj hi
  rcases Nat.eq_or_lt_of_le hij with rfl | hlt
  · exact hi
  · have h1 := h.lt_at i j hlt hj
    have h2 := h.at_ j hj
    exact hp _ _ (by omega) hi
theorem WF.rises_from {l : List Sp} (h : WF l) (p : Int → Bool) (hp : ∀ a b, a ≤ b → p a = true → p b = true) : Rises l (fun y => p y.1) := by
  intro i j hij hj hi
  rcases Nat.eq_or_lt_of_le hij with rfl | hlt
  · exact hi
  · have h1 := h.lt_at i j hlt hj
    have h2 := h.at_ i (by omega)
    exact hp _ _ (by omega) hi
/-- The first place of which q holds. -/
def firstIdx (q : Sp → Bool) (l : List Sp) : Nat := l.findIdx q
theorem firstOf_idx (q : Sp → Bool) (l : List Sp) (h : Rises l q) : FirstOf l.length (fun i => q (atS l i)) (firstIdx q l) := by
  have hle : firstIdx q l ≤ l.length := List.findIdx_le_length
  refine ⟨hle, fun i hi => ?_, fun i h1 h2 => ?_⟩
  · have := List.not_of_lt_findIdx hi
    show q (atS l i) = false
    rw [atS_get l i (Nat.lt_of_lt_of_le hi hle)]
    simpa using this
  · have hlt : firstIdx q l < l.length := by omega
    have := List.findIdx_getElem (w := hlt)
    exact h (firstIdx q l) i h1 h2 (by rw [atS_get l _ hlt]; exact this)
theorem found_idx {w : World} {q : Sp → Bool} {l : List Sp} (h : Rises l q) {e : Ending} {w' : World} (hf : Found w l.length (fun i => q (atS l i)) e w') : e = .returned (.int .i64 (firstIdx q l)) ∧ Below w.heap.size w w' := by
  obtain ⟨k, hk, rfl, hb⟩ := hf
  rw [firstOf_unique hk (firstOf_idx q l h)]
  exact ⟨rfl, hb⟩

/-! ### what of runs lies in a span -/
def lenOf (x : Sp) : Int := spLen x.1 x.2
def sumLen (l : List Sp) : Int := (l.map lenOf).sum
theorem sumLen_nil : sumLen [] = 0 := rfl
theorem sumLen_cons (x : Sp) (l : List Sp) : sumLen (x :: l) = lenOf x + sumLen l := by simp [sumLen]
theorem sumLen_append (l m : List Sp) : sumLen (l ++ m) = sumLen l + sumLen m := by simp [sumLen]
theorem lenOf_nonneg (x : Sp) : 0 ≤ lenOf x := by unfold lenOf spLen; have := pln_le x.1 x.2; omega
theorem sumLen_nonneg (l : List Sp) : 0 ≤ sumLen l := by
  induction l with
  | nil => simp [sumLen]
  | cons x l ih => rw [sumLen_cons]; have := lenOf_nonneg x; omega
theorem lenOf_may {x : Sp} (h : 0 ≤ x.1 ∧ x.1 < x.2 ∧ x.2 ≤ 4611686018427387904) : lenOf x = x.2 - x.1 := by
  unfold lenOf spLen
  rw [pln_pos (by simp [mayB]; omega) (by omega)]
theorem lenOf_meet (s x : Sp) : lenOf (meetOf s x) ≤ lenOf x := by
  unfold lenOf spLen meetOf spMeet
  have h1 := pln_le x.1 x.2
  have h2 := pln_le s.1 s.2
  generalize pln x.1 x.2 = a at *
  generalize pln s.1 s.2 = b at *
  rcases pln_cases (max a.1 b.1) (min a.2 b.2) with ⟨h, _⟩ | ⟨h, h3, h4, h5⟩
  · rw [h]; simp only; rcases pln_cases 0 0 with ⟨h', _⟩ | ⟨h', _⟩ <;> rw [h'] <;> simp <;> omega
  · rw [h]; simp only; rw [pln_pos (by simp [mayB]; omega) (by omega)]; simp only; omega
/-- All spans' lengths, one behind the other, are no more than what lies between the first one's begin and the bound. -/
theorem sumLen_le {l : List Sp} (h : WF l) (a : Int) (ha : ∀ x ∈ l, a ≤ x.1) (ha0 : a ≤ 4611686018427387904) : sumLen l ≤ 4611686018427387904 - a := by
  induction l generalizing a with
  | nil => simp [sumLen]; omega
  | cons x l ih =>
    rw [sumLen_cons, lenOf_may h.head]
    have h1 := ha x List.mem_cons_self
    have h2 := h.head
    have := ih h.tail x.2 (fun y hy => by have := h.lt y hy; omega) h2.2.2
    omega
theorem sumLen_total {l : List Sp} (h : WF l) : sumLen l ≤ 4611686018427387904 := by
  have := sumLen_le h 0 (fun x hx => (h.may x hx).1) (by omega)
  omega
theorem sumLen_prefix {p l : List Sp} (h : p <+: l) : sumLen p ≤ sumLen l := by
  obtain ⟨r, rfl⟩ := h
  rw [sumLen_append]; have := sumLen_nonneg r; omega
theorem sumLen_meetsL (s : Sp) (l : List Sp) : sumLen (meetsL s l) ≤ sumLen l := by
  induction l with
  | nil => simp [meetsL]
  | cons x l ih =>
    rw [meetsL]
    split
    · rw [sumLen_cons, sumLen_cons]; have := lenOf_meet s x; omega
    · rw [sumLen_nil]; exact sumLen_nonneg _
/-- How many of a span's offsets are in. -/
def within (l : List Sp) (s : Sp) : Int := if lenOf s = 0 then 0 else sumLen (meetsL s (l.drop (firstIdx (fun y => decide (s.1 < y.2)) l)))
end Go.Proofs.Ytcifbcdjkofomaa
