/-
  Plain laws: what is left of runs without a span. Conditions: none.
-/
import Derived.Test.YtcifbcdjkofomaaPlain2
namespace Go.Proofs.Ytcifbcdjkofomaa
open Go.RowKit
set_option linter.unusedVariables false
set_option linter.unusedSimpArgs false

def belowP (x : Sp) (o : Int) : Sp := pln (pln x.1 x.2).1 (min (pln x.1 x.2).2 o)
def fromP (x : Sp) (o : Int) : Sp := pln (max (pln x.1 x.2).1 o) (pln x.1 x.2).2
def keepS (y : Sp) : List Sp := if 0 < lenOf y then [y] else []
def piecesS (s x : Sp) : List Sp := keepS (belowP x s.1) ++ keepS (fromP x s.2)
/-- What is left of each. -/
def leftL (l : List Sp) (s : Sp) : List Sp := l.flatMap (piecesS s)
theorem keepS_pln (a b : Int) (h0 : 0 ≤ a) (hb : b ≤ 4611686018427387904) : keepS (pln a b) = if a < b then [(a, b)] else [] := by
  unfold keepS
  by_cases h : a < b
  · rw [if_pos h, pln_pos (by simp [mayB]; omega) (by omega), lenOf_may (by simp only; omega)]
    simp only; rw [if_pos (by omega)]
  · rw [if_neg h]
    have : pln a b = (0, 0) := by
      rcases pln_cases a b with ⟨h1, _⟩ | ⟨_, h1⟩
      · exact h1
      · omega
    rw [this]
    have : lenOf (0, 0) = 0 := by decide
    rw [this, if_neg (by omega)]
theorem piecesS_eq {s x : Sp} (hs : Okay s) (hx : Okay x) : piecesS s x = (if x.1 < s.1 then [(x.1, min x.2 s.1)] else []) ++ (if s.2 < x.2 then [(max x.1 s.2, x.2)] else []) := by
  unfold piecesS belowP fromP
  rw [pln_okay hx]
  unfold Okay at hs hx
  rw [keepS_pln _ _ (by omega) (by omega), keepS_pln _ _ (by omega) (by omega)]
  congr 1
  · by_cases h : x.1 < s.1
    · rw [if_pos h, if_pos (by omega)]
    · rw [if_neg h, if_neg (by omega)]
  · by_cases h : s.2 < x.2
    · rw [if_pos h, if_pos (by omega)]
    · rw [if_neg h, if_neg (by omega)]
theorem piecesS_in {s x : Sp} (hs : Okay s) (hx : Okay x) : WF (piecesS s x) ∧ (∀ o, inL (piecesS s x) o ↔ inS x o ∧ ¬ inS s o) ∧ (∀ y ∈ piecesS s x, x.1 ≤ y.1 ∧ y.2 ≤ x.2) := by
  rw [piecesS_eq hs hx]
  unfold Okay at hs hx
  refine ⟨⟨fun y hy => ?_, ?_⟩, fun o => ?_, fun y hy => ?_⟩
  · rcases List.mem_append.1 hy with hy | hy
    · split at hy
      · rw [List.mem_singleton.1 hy]; simp only; omega
      · simp at hy
    · split at hy
      · rw [List.mem_singleton.1 hy]; simp only; omega
      · simp at hy
  · refine List.pairwise_append.2 ⟨?_, ?_, fun y hy z hz => ?_⟩
    · split <;> simp
    · split <;> simp
    · split at hy
      · split at hz
        · rw [List.mem_singleton.1 hy, List.mem_singleton.1 hz]; simp only; omega
        · simp at hz
      · simp at hy
  · rw [inL_append]
    have e1 : inL (if x.1 < s.1 then [(x.1, min x.2 s.1)] else []) o ↔ (x.1 ≤ o ∧ o < min x.2 s.1) := by
      split
      · rw [inL_one]; rfl
      · simp only [inL_nil, false_iff]; omega
    have e2 : inL (if s.2 < x.2 then [(max x.1 s.2, x.2)] else []) o ↔ (max x.1 s.2 ≤ o ∧ o < x.2) := by
      split
      · rw [inL_one]; rfl
      · simp only [inL_nil, false_iff]; omega
    rw [e1, e2]
    unfold inS
    omega
  · rcases List.mem_append.1 hy with hy | hy
    · split at hy
      · rw [List.mem_singleton.1 hy]; simp only; omega
      · simp at hy
    · split at hy
      · rw [List.mem_singleton.1 hy]; simp only; omega
      · simp at hy
theorem piecesS_far {s x : Sp} (hs : Okay s) (hx : Okay x) (h : x.2 ≤ s.1 ∨ s.2 ≤ x.1) : piecesS s x = [x] := by
  rw [piecesS_eq hs hx]
  unfold Okay at hs hx
  rcases h with h | h
  · rw [if_pos (by omega), if_neg (by omega), List.append_nil, Int.min_eq_left h]
  · rw [if_neg (by omega), if_pos (by omega), List.nil_append, Int.max_eq_left h]
theorem leftL_far {s : Sp} (hs : Okay s) : ∀ {l : List Sp}, WF l → (∀ x ∈ l, x.2 ≤ s.1 ∨ s.2 ≤ x.1) → leftL l s = l
  | [], _, _ => rfl
  | x :: l, h, hf => by
    show piecesS s x ++ leftL l s = _
    rw [piecesS_far hs h.head (hf x List.mem_cons_self), leftL_far hs h.tail (fun y hy => hf y (List.mem_cons_of_mem _ hy))]; rfl
theorem leftL_in {s : Sp} (hs : Okay s) : ∀ {l : List Sp}, WF l → WF (leftL l s) ∧ (∀ o, inL (leftL l s) o ↔ inL l o ∧ ¬ inS s o) ∧ (leftL l s).length ≤ l.length + 1
  | [], _ => ⟨WF.nil, fun o => by show inL [] o ↔ _; simp [inL_nil], by simp [leftL]⟩
  | x :: l, h => by
    obtain ⟨i1, i2, i3⟩ := leftL_in hs h.tail
    have hx : Okay x := h.head
    obtain ⟨p1, p2, p3⟩ := piecesS_in hs hx
    show WF (piecesS s x ++ leftL l s) ∧ (∀ o, inL (piecesS s x ++ leftL l s) o ↔ _) ∧ (piecesS s x ++ leftL l s).length ≤ _
    have low : ∀ y ∈ leftL l s, x.2 < y.1 := by
      intro y hy
      have := i1.may y hy
      obtain ⟨⟨z, hz, hz1⟩, _⟩ := (i2 y.1).1 ⟨y, hy, by unfold inS; omega⟩
      have := h.lt z hz; have := hz1.1; omega
    refine ⟨⟨fun y hy => ?_, ?_⟩, fun o => ?_, ?_⟩
    · rcases List.mem_append.1 hy with hy | hy
      · exact p1.may y hy
      · exact i1.may y hy
    · refine List.pairwise_append.2 ⟨p1.apart, i1.apart, fun y hy z hz => ?_⟩
      have := (p3 y hy).2; have := low z hz; omega
    · rw [inL_append, p2, i2, inL_cons]
      constructor
      · rintro (h | h)
        · exact ⟨.inl h.1, h.2⟩
        · exact ⟨.inr h.1, h.2⟩
      · rintro ⟨h | h, h'⟩
        · exact .inl ⟨h, h'⟩
        · exact .inr ⟨h, h'⟩
    · rw [List.length_append, List.length_cons]
      by_cases hb : x.1 < s.1 ∧ s.2 < x.2
      · have : leftL l s = l := leftL_far hs h.tail (fun y hy => .inr (by have := h.lt y hy; omega))
        rw [this, piecesS_eq hs hx, if_pos hb.1, if_pos hb.2]
        simp; omega
      · have : (piecesS s x).length ≤ 1 := by
          rw [piecesS_eq hs hx]
          by_cases h1 : x.1 < s.1
          · rw [if_pos h1, if_neg (by omega)]; simp
          · rw [if_neg h1]; split <;> simp
        omega
theorem leftL_append (l m : List Sp) (s : Sp) : leftL (l ++ m) s = leftL l s ++ leftL m s := by simp [leftL]
/-! ### a removal, as the code does it -/
def loR (l : List Sp) (s : Sp) : Nat := firstIdx (fun y => decide (s.1 < y.2)) l
def hiR (l : List Sp) (s : Sp) : Nat := firstIdx (fun y => decide (s.2 ≤ y.1)) l
theorem rem_rises1 {l : List Sp} (hw : WF l) (s : Sp) : Rises l (fun y => decide (s.1 < y.2)) := cut_rises hw s
theorem rem_rises2 {l : List Sp} (hw : WF l) (s : Sp) : Rises l (fun y => decide (s.2 ≤ y.1)) := hw.rises_from (fun a => decide (s.2 ≤ a)) (fun a b h1 h2 => by simp at *; omega)
theorem lohiR {l : List Sp} (hw : WF l) (s : Sp) (hs : Okay s) : loR l s ≤ hiR l s ∧ hiR l s ≤ l.length := by
  have h1 := firstOf_idx _ l (rem_rises1 hw s)
  have h2 := firstOf_idx _ l (rem_rises2 hw s)
  have aux : ∀ i j, FirstOf l.length (fun k => decide (s.1 < (atS l k).2)) i → FirstOf l.length (fun k => decide (s.2 ≤ (atS l k).1)) j → i ≤ j := by
    intro i j h1 h2
    refine Nat.le_of_not_lt fun hc => ?_
    have h0 := h1.1
    have e1 := h1.2.1 j hc
    have e2 := h2.2.2 j (Nat.le_refl _) (by omega)
    have e3 := hw.at_ j (by omega)
    unfold Okay at hs
    simp only [decide_eq_false_iff_not, decide_eq_true_eq] at e1 e2
    omega
  exact ⟨aux _ _ h1 h2, List.findIdx_le_length⟩
theorem rem_whole {l : List Sp} (hw : WF l) {s : Sp} (hs : Okay s) : l.take (loR l s) ++ leftL ((l.drop (loR l s)).take (hiR l s - loR l s)) s ++ l.drop (hiR l s) = leftL l s := by
  obtain ⟨hij, hj⟩ := lohiR hw s hs
  obtain ⟨_, l1, _⟩ := firstOf_idx _ l (rem_rises1 hw s)
  obtain ⟨_, _, h2⟩ := firstOf_idx _ l (rem_rises2 hw s)
  have e1 : leftL (l.take (loR l s)) s = l.take (loR l s) := leftL_far hs (hw.take _) (fun x hx => by
    obtain ⟨i, hi, rfl⟩ := List.getElem_of_mem hx
    rw [List.length_take] at hi
    have := l1 i (show i < loR l s by omega)
    simp only [decide_eq_false_iff_not] at this
    rw [atS_get l _ (by omega)] at this
    rw [List.getElem_take]; left; omega)
  have e2 : leftL (l.drop (hiR l s)) s = l.drop (hiR l s) := leftL_far hs (hw.drop _) (fun x hx => by
    obtain ⟨i, hi, rfl⟩ := List.getElem_of_mem hx
    rw [List.length_drop] at hi
    have := h2 (hiR l s + i) (Nat.le_add_right _ _) (by omega)
    simp only [decide_eq_true_eq] at this
    rw [atS_get l _ (by omega)] at this
    rw [List.getElem_drop]; right; exact this)
  have e : (l.drop (loR l s)).take (hiR l s - loR l s) ++ l.drop (hiR l s) = l.drop (loR l s) := by
    have := List.take_append_drop (hiR l s - loR l s) (l.drop (loR l s))
    rw [List.drop_drop, show loR l s + (hiR l s - loR l s) = hiR l s by omega] at this
    exact this
  have key : l = l.take (loR l s) ++ ((l.drop (loR l s)).take (hiR l s - loR l s) ++ l.drop (hiR l s)) := by rw [e, List.take_append_drop]
  have h3 := congrArg (leftL · s) key
  simp only [leftL_append] at h3
  rw [e1, e2] at h3
  rw [List.append_assoc]
  exact h3.symm
def remS (l : List Sp) (s : Sp) : List Sp := if Okay s then leftL l s else l
def remN (l : List Sp) (s : Sp) : Int := if Okay s then within l s else 0
theorem remS_wf {l : List Sp} (hw : WF l) (s : Sp) : WF (remS l s) ∧ (∀ o, inL (remS l s) o ↔ inL l o ∧ ¬ (Okay s ∧ inS s o)) ∧ (remS l s).length ≤ l.length + 1 := by
  unfold remS
  by_cases h : Okay s
  · rw [if_pos h]
    obtain ⟨h1, h2, h3⟩ := leftL_in h hw
    exact ⟨h1, fun o => (h2 o).trans ⟨fun h' => ⟨h'.1, fun h'' => h'.2 h''.2⟩, fun h' => ⟨h'.1, fun h'' => h'.2 ⟨h, h''⟩⟩⟩, h3⟩
  · rw [if_neg h]
    exact ⟨hw, fun o => ⟨fun h' => ⟨h', fun h'' => h h''.1⟩, fun h' => h'.1⟩, by omega⟩
theorem rem_sum {l : List Sp} (hw : WF l) {s : Sp} (hs : Okay s) : sumLen l = sumLen (leftL l s) + within l s := by
  obtain ⟨c1, c2⟩ := cut_in hw hs
  obtain ⟨g1, g2, _⟩ := leftL_in hs hw
  rw [within_cut l s hs]
  exact sum_parts g1 c1 hw (fun o => by
    rw [g2, c2]
    constructor
    · intro h
      by_cases hc : inS s o
      · exact .inr ⟨h, hc⟩
      · exact .inl ⟨h, hc⟩
    · rintro (h | h)
      · exact h.1
      · exact h.1) (fun o h1 h2 => ((g2 o).1 h1).2 ((c2 o).1 h2).2)
end Go.Proofs.Ytcifbcdjkofomaa
