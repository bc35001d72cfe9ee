/-
  A set to which a list was added, one by one; whether an offset is in. Conditions: none.
-/
import Derived.Test.YtcifbcdjkofomaaRem2
import Derived.Test.YtcifbcdjkofomaaRunNext
namespace Go.Proofs.Ytcifbcdjkofomaa
open Go.RowKit Go.Shelf
set_option linter.unusedVariables false
set_option linter.unusedSimpArgs false


def addMany (l : List Sp) (k : Nat) : List Sp := (l.take k).foldl addS []
theorem addMany_succ (l : List Sp) (k : Nat) (h : k < l.length) : addMany l (k + 1) = addS (addMany l k) (atS l k) := by
  unfold addMany; rw [List.take_succ_eq_append_getElem h, List.foldl_append, atS_get l k h]; rfl
theorem addFold_wf : ∀ (m : List Sp) (a : List Sp), WF a → WF (m.foldl addS a) ∧ (m.foldl addS a).length ≤ a.length + m.length ∧ ∀ o, inL (m.foldl addS a) o ↔ inL a o ∨ ∃ x ∈ m, Okay x ∧ inS x o
  | [], a, h => ⟨h, by simp, fun o => by simp⟩
  | x :: m, a, h => by
    obtain ⟨h1, h2, h3⟩ := addS_wf h x
    obtain ⟨i1, i2, i3⟩ := addFold_wf m _ h1
    refine ⟨i1, by rw [List.foldl_cons, List.length_cons]; omega, fun o => ?_⟩
    rw [List.foldl_cons, i3, h2]
    constructor
    · rintro ((h | h) | ⟨y, hy, h⟩)
      · exact .inl h
      · exact .inr ⟨x, List.mem_cons_self, h⟩
      · exact .inr ⟨y, List.mem_cons_of_mem _ hy, h⟩
    · rintro (h | ⟨y, hy, h⟩)
      · exact .inl (.inl h)
      · rcases List.mem_cons.1 hy with rfl | hy
        · exact .inl (.inr h)
        · exact .inr ⟨y, hy, h⟩
theorem addMany_wf (l : List Sp) (k : Nat) : WF (addMany l k) ∧ (addMany l k).length ≤ k ∧ ∀ o, inL (addMany l k) o ↔ ∃ x ∈ l.take k, Okay x ∧ inS x o := by
  obtain ⟨h1, h2, h3⟩ := addFold_wf (l.take k) [] WF.nil
  refine ⟨h1, by rw [List.length_take] at h2; simp at h2; unfold addMany; omega, fun o => ?_⟩
  unfold addMany
  rw [h3]
  exact ⟨fun h => h.resolve_left (inL_nil o), .inr⟩

/-- A set made since W0, whose row was made since. -/
def OneS (W0 W : World) (b : Nat) (l : List Sp) : Prop := ∃ r, SetAt W b r l ∧ (∀ k, r = some k → W0.heap.size ≤ k) ∧ Chg (fun j => j = b ∨ W0.heap.size ≤ j) W0 W
theorem OneS.below {W0 W W' : World} {b : Nat} {l : List Sp} (h : OneS W0 W b l) (hb : Below W.heap.size W W') : OneS W0 W' b l := by
  obtain ⟨r, h1, h2, h3⟩ := h
  exact ⟨r, h1.below hb, h2, h3.trans (Chg.of_below (M := fun j => j = b ∨ W0.heap.size ≤ j) hb) (fun _ _ h => h)⟩
theorem OneS.runs {W0 W : World} {b : Nat} {l : List Sp} (h : OneS W0 W b l) : ∃ v, IsRuns W b v l := by obtain ⟨r, ⟨v, h1, _⟩, _⟩ := h; exact ⟨v, h1⟩
theorem OneS.adds {W0 W W' : World} {b : Nat} {l l' : List Sp} {n k : Int} {e : Ending} (h : OneS W0 W b l) (hA : ∀ r, SetAt W b r l → AddsTo W b r l' n k e W' ) : e = .returned (.tuple #[.int .i64 n, .int .i64 k]) ∧ OneS W0 W' b l' := by
  obtain ⟨r, h1, h2, h3⟩ := h
  obtain ⟨rfl, r', a1, a2, a3⟩ := hA r h1
  refine ⟨rfl, r', a1, fun j e => ?_, h3.trans a2 (fun i hi e => ?_)⟩
  · rcases a3 with e' | ⟨g, e', hg⟩
    · exact h2 j (e' ▸ e)
    · rw [e'] at e; injection e with e; have := h3.size; omega
  · rcases e with e | e
    · exact .inl e
    · exact .inr (h2 i e.symm)
theorem add_one {W0 W : World} {b : Nat} {l : List Sp} (h : OneS W0 W b l) (hw : WF l) (hl : l.length ≤ 4095) (s : Sp) :
    Calls Try.prog 15 #[.pointer (some ⟨b, 0, none⟩), .agg #[.int .i64 s.1, .int .i64 s.2]] W fun e W' => e = .returned (.tuple #[.int .i64 (addN l s), .int .i64 (errM s)]) ∧ OneS W0 W' b (addS l s) := by
  have h0 := h
  obtain ⟨r, h1, h2, h3⟩ := h
  refine (add_set h1 hw hl s).mono fun e W' hA => ?_
  obtain ⟨rfl, r', a1, a2, a3⟩ := hA
  refine ⟨rfl, r', a1, fun j e => ?_, h3.trans a2 (fun i hi e => ?_)⟩
  · rcases a3 with e' | ⟨g, e', hg⟩
    · exact h2 j (e' ▸ e)
    · rw [e'] at e; injection e with e; have := h3.size; omega
  · rcases e with e | e
    · exact .inl e
    · exact .inr (h2 i e.symm)
theorem remove_one {W0 W : World} {b : Nat} {l : List Sp} (h : OneS W0 W b l) (hw : WF l) (hl : l.length ≤ 4095) (s : Sp) :
    Calls Try.prog 24 #[.pointer (some ⟨b, 0, none⟩), .agg #[.int .i64 s.1, .int .i64 s.2]] W fun e W' => e = .returned (.tuple #[.int .i64 (remN l s), .int .i64 (errM s)]) ∧ OneS W0 W' b (remS l s) := by
  obtain ⟨r, h1, h2, h3⟩ := h
  refine (remove_set h1 hw hl s).mono fun e W' hA => ?_
  obtain ⟨rfl, r', a1, a2, a3⟩ := hA
  refine ⟨rfl, r', a1, fun j e => ?_, h3.trans a2 (fun i hi e => ?_)⟩
  · rcases a3 with e' | ⟨g, e', hg⟩
    · exact h2 j (e' ▸ e)
    · rw [e'] at e; injection e with e; have := h3.size; omega
  · rcases e with e | e
    · exact .inl e
    · exact .inr (h2 i e.symm)

/-! ### whether an offset is in -/
theorem runAt_in {l : List Sp} (hw : WF l) (o : Int) : (runAt l o).isSome = true ↔ inL l o := by
  have hri : Rises l (fun y => decide (o < y.2)) := hw.rises_to (fun a => decide (o < a)) (fun a b h1 h2 => by simp at *; omega)
  obtain ⟨hk, hlo, hhi⟩ := firstOf_idx _ l hri
  unfold runAt runIdx
  by_cases hlt : firstIdx (fun y => decide (o < y.2)) l < l.length
  · rw [List.getElem?_eq_getElem hlt]
    have h1 := hhi _ (Nat.le_refl _) hlt
    simp only [decide_eq_true_eq] at h1
    rw [atS_get l _ hlt] at h1
    by_cases hc : (l[firstIdx (fun y => decide (o < y.2)) l]).1 ≤ o
    · simp only [if_pos hc, Option.isSome_some, true_iff]
      exact ⟨_, List.getElem_mem hlt, hc, h1⟩
    · simp only [if_neg hc, Option.isSome_none, Bool.false_eq_true, false_iff]
      rintro ⟨x, hx, h2, h3⟩
      obtain ⟨i, hi, rfl⟩ := List.getElem_of_mem hx
      rcases Nat.lt_trichotomy i (firstIdx (fun y => decide (o < y.2)) l) with h | h | h
      · have := hlo i h
        simp only [decide_eq_false_iff_not] at this
        rw [atS_get l i hi] at this; exact this h3
      · subst h; exact hc h2
      · have := hw.lt_at _ i h hi
        rw [atS_get l _ hlt, atS_get l i hi] at this; omega
  · rw [List.getElem?_eq_none (by omega)]
    simp only [Option.isSome_none, Bool.false_eq_true, false_iff]
    rintro ⟨x, hx, h2, h3⟩
    obtain ⟨i, hi, rfl⟩ := List.getElem_of_mem hx
    have := hlo i (by omega)
    simp only [decide_eq_false_iff_not] at this
    rw [atS_get l i hi] at this; exact this h3
theorem hasB_in (s : Sp) (o : Int) : hasB s.1 s.2 o = true ↔ (Okay s ∧ inS s o) := by
  unfold hasB
  rcases pln_cases s.1 s.2 with ⟨h1, _⟩ | ⟨h1, h2⟩
  · rw [h1]
    simp only [decide_eq_true_eq]
    constructor
    · intro h; omega
    · rintro ⟨h, _⟩
      rw [pln_okay h] at h1
      unfold Okay at h
      have e1 := congrArg Prod.fst h1; have e2 := congrArg Prod.snd h1
      simp only at e1 e2; omega
  · rw [h1]
    simp only [decide_eq_true_eq]
    exact ⟨fun h => ⟨⟨h2.1, h2.2.1, h2.2.2⟩, h⟩, fun h => h.2⟩
theorem bool_eq {a b : Bool} (h : a = true ↔ b = true) : a = b := by cases a <;> cases b <;> simp_all
end Go.Proofs.Ytcifbcdjkofomaa
