/-
  Sets of runs side by side: what an addition, whatever is added, leaves. Conditions: room for one run more.
-/
import Derived.Test.YtcifbcdjkofomaaPlain
import Derived.Test.YtcifbcdjkofomaaKnown
namespace Go.Proofs.Ytcifbcdjkofomaa
open Go.RowKit Go.Shelf
set_option linter.unusedVariables false
set_option linter.unusedSimpArgs false


instance (x : Sp) : Decidable (Okay x) := by unfold Okay; infer_instance
/-- Whatever is added. -/
def addS (l : List Sp) (s : Sp) : List Sp := if Okay s then addL l s else l
def addN (l : List Sp) (s : Sp) : Int := if Okay s then lenOf s - within l s else 0
def errM (s : Sp) : Int := if mayB s.1 s.2 then 0 else 3
theorem addS_wf {l : List Sp} (hw : WF l) (s : Sp) : WF (addS l s) ∧ (∀ o, inL (addS l s) o ↔ inL l o ∨ (Okay s ∧ inS s o)) ∧ (addS l s).length ≤ l.length + 1 := by
  unfold addS
  by_cases h : Okay s
  · rw [if_pos h]
    obtain ⟨h1, h2, h3⟩ := addL_wf hw h
    exact ⟨h1, fun o => (h2 o).trans ⟨fun h' => h'.imp_right fun h'' => ⟨h, h''⟩, fun h' => h'.imp_right fun h'' => h''.2⟩, h3⟩
  · rw [if_neg h]
    exact ⟨hw, fun o => ⟨.inl, fun h' => h'.resolve_right fun h'' => h h''.1⟩, by omega⟩

/-- A set of runs whose row lies in block r (or nowhere). -/
def SetAt (W : World) (b : Nat) (r : Option Nat) (l : List Sp) : Prop := ∃ v, IsRuns W b v l ∧ v.ownBlock = r
theorem SetAt.chg {W W' : World} {M : Nat → Prop} {b : Nat} {r : Option Nat} {l : List Sp} (h : SetAt W b r l) (hc : Chg M W W') (hb : ¬ M b) (hn : ∀ k, r = some k → ¬ M k) : SetAt W' b r l := by
  obtain ⟨v, h1, rfl⟩ := h
  exact ⟨v, h1.chg hc hb hn, rfl⟩
theorem SetAt.below {W W' : World} {b : Nat} {r : Option Nat} {l : List Sp} (h : SetAt W b r l) (hb : Below W.heap.size W W') : SetAt W' b r l := by
  obtain ⟨v, h1, rfl⟩ := h
  exact ⟨v, h1.below hb, rfl⟩
theorem SetAt.lt {W : World} {b : Nat} {r : Option Nat} {l : List Sp} (h : SetAt W b r l) : b < W.heap.size := by obtain ⟨v, h1, _⟩ := h; exact h1.lt
theorem SetAt.ltR {W : World} {b k : Nat} {l : List Sp} (h : SetAt W b (some k) l) : k < W.heap.size := by obtain ⟨v, h1, h2⟩ := h; exact h1.row.lt h2
theorem SetAt.ne {W : World} {b k : Nat} {l : List Sp} (h : SetAt W b (some k) l) {c : Nat} {r : Option Nat} {m : List Sp} (h' : SetAt W c r m) : k ≠ c := by
  rintro rfl
  obtain ⟨v, h1, h2⟩ := h
  obtain ⟨u, h3, _⟩ := h'
  rcases h1.row.shape with ⟨rfl, rfl⟩ | ⟨g, cap, cur, rfl, hh, _⟩
  · simp [Value.ownBlock] at h2
  · have : g = k := by simpa [Value.ownBlock] using h2
    subst this
    rw [h3.box] at hh
    injection hh with hh; injection hh with _ hh _; exact absurd hh (by decide)
theorem SetAt.new (W : World) : SetAt (W.alloc (.cells #[.slice none 0 0] 92)) W.heap.size none [] := ⟨_, new_runs W, by simp [Value.ownBlock]⟩
/-- What an addition leaves. -/
def AddsTo (W : World) (b : Nat) (r : Option Nat) (l' : List Sp) (n k : Int) (e : Ending) (W' : World) : Prop :=
  e = .returned (.tuple #[.int .i64 n, .int .i64 k]) ∧ ∃ r', SetAt W' b r' l' ∧ Chg (fun j => j = b ∨ some j = r) W W' ∧ (r' = r ∨ ∃ g, r' = some g ∧ W.heap.size ≤ g)
theorem may_cases (s : Sp) : Okay s ∨ (¬ Okay s ∧ s.1 = s.2 ∧ mayB s.1 s.2 = true) ∨ (¬ Okay s ∧ mayB s.1 s.2 = false) := by
  by_cases h : Okay s
  · exact .inl h
  · by_cases hm : mayB s.1 s.2 = true
    · refine .inr (.inl ⟨h, ?_, hm⟩)
      unfold Okay at h; simp [mayB] at hm; omega
    · exact .inr (.inr ⟨h, by simpa using hm⟩)
theorem may_ok {s : Sp} (h : Okay s) : mayB s.1 s.2 = true := by unfold Okay at h; simp [mayB]; omega
theorem add_set {W : World} {b : Nat} {r : Option Nat} {l : List Sp} (h : SetAt W b r l) (hw : WF l) (hl : l.length ≤ 4095) (s : Sp) :
    Calls Try.prog 15 #[.pointer (some ⟨b, 0, none⟩), .agg #[.int .i64 s.1, .int .i64 s.2]] W (AddsTo W b r (addS l s) (addN l s) (errM s)) := by
  obtain ⟨v, h1, rfl⟩ := h
  rcases may_cases s with hs | ⟨hs, he, hm⟩ | ⟨hs, hm⟩
  · refine (add_any h1 hw (by omega) s hs (may_ok hs)).mono ?_
    intro e W' h
    unfold AddPost at h
    rw [if_pos (by have := (addL_wf hw hs).2.2; omega)] at h
    obtain ⟨rfl, v', hI, hch, hown⟩ := h
    unfold addS addN errM
    rw [if_pos hs, if_pos hs, if_pos (may_ok hs)]
    exact ⟨rfl, _, ⟨v', hI, rfl⟩, hch, hown⟩
  · unfold addS addN errM
    rw [if_neg hs, if_neg hs, if_pos hm]
    have key := add_empty b s.1 (by rw [← he] at hm; exact hm) W
    rw [show (Value.agg #[.int .i64 s.1, .int .i64 s.2]) = .agg #[.int .i64 s.1, .int .i64 s.1] by rw [← he]]
    refine key.mono ?_
    rintro e W' ⟨rfl, hb⟩
    exact ⟨rfl, _, ⟨v, h1.below hb, rfl⟩, Chg.of_below hb, .inl rfl⟩
  · unfold addS addN errM
    rw [if_neg hs, if_neg hs, if_neg (by simp [hm])]
    refine (add_bad b s hm W).mono ?_
    rintro e W' ⟨rfl, hb⟩
    exact ⟨rfl, _, ⟨v, h1.below hb, rfl⟩, Chg.of_below hb, .inl rfl⟩

/-- Two sets, of which all that they hold beside their own cells was made from B on. -/
def Two (B : Nat) (W : World) (b c : Nat) (l m : List Sp) : Prop :=
  ∃ r t, SetAt W b r l ∧ SetAt W c t m ∧ (∀ k, r = some k → B ≤ k) ∧ (∀ k, t = some k → B ≤ k) ∧ (∀ k, r = some k → t ≠ some k)
theorem Two.swap {B : Nat} {W : World} {b c : Nat} {l m : List Sp} (h : Two B W b c l m) : Two B W c b m l := by
  obtain ⟨r, t, h1, h2, h3, h4, h5⟩ := h
  exact ⟨t, r, h2, h1, h4, h3, fun k e e' => h5 k e' e⟩
theorem Two.below {B : Nat} {W W' : World} {b c : Nat} {l m : List Sp} (h : Two B W b c l m) (hb : Below W.heap.size W W') : Two B W' b c l m := by
  obtain ⟨r, t, h1, h2, h⟩ := h
  exact ⟨r, t, h1.below hb, h2.below hb, h⟩
theorem Two.left {B : Nat} {W : World} {b c : Nat} {l m : List Sp} (h : Two B W b c l m) : ∃ v, IsRuns W b v l := by obtain ⟨r, t, ⟨v, h1, _⟩, _⟩ := h; exact ⟨v, h1⟩
theorem Two.right {B : Nat} {W : World} {b c : Nat} {l m : List Sp} (h : Two B W b c l m) : ∃ v, IsRuns W c v m := h.swap.left
theorem Two.chg {B : Nat} {M : Nat → Prop} {W W' : World} {b c : Nat} {l m : List Sp} (h : Two B W b c l m) (hc : Chg M W W') (hM : ∀ k, M k → k < B ∧ k ≠ b ∧ k ≠ c) : Two B W' b c l m := by
  obtain ⟨r, t, h1, h2, h3, h4, h5⟩ := h
  exact ⟨r, t, h1.chg hc (fun hm => (hM _ hm).2.1 rfl) (fun k e hm => by have := h3 k e; have := (hM _ hm).1; omega), h2.chg hc (fun hm => (hM _ hm).2.2 rfl) (fun k e hm => by have := h4 k e; have := (hM _ hm).1; omega), h3, h4, h5⟩
theorem add_two {B : Nat} {W : World} {b c : Nat} {l m : List Sp} (h : Two B W b c l m) (hB : B ≤ W.heap.size) (hbB : b < B) (hcB : c < B) (hbc : b ≠ c) (hw : WF l) (hl : l.length ≤ 4095) (s : Sp) :
    Calls Try.prog 15 #[.pointer (some ⟨b, 0, none⟩), .agg #[.int .i64 s.1, .int .i64 s.2]] W fun e W' => e = .returned (.tuple #[.int .i64 (addN l s), .int .i64 (errM s)]) ∧ Two B W' b c (addS l s) m ∧ Chg (fun k => k = b ∨ B ≤ k) W W' := by
  obtain ⟨r, t, h1, h2, h3, h4, h5⟩ := h
  refine (add_set h1 hw hl s).mono ?_
  rintro e W' ⟨rfl, r', hs, hch, hr⟩
  refine ⟨rfl, ⟨r', t, hs, h2.chg hch ?_ ?_, ?_, h4, ?_⟩, hch.mono ?_⟩
  · rintro (e | e)
    · exact hbc e.symm
    · have := h3 c e.symm; omega
  · rintro k e (e' | e')
    · have := h4 k e; omega
    · exact h5 k e'.symm e
  · intro k e
    rcases hr with hr | ⟨g, hr, hg⟩
    · exact h3 k (hr ▸ e)
    · rw [hr] at e; injection e with e; omega
  · intro k e e'
    rcases hr with hr | ⟨g, hr, hg⟩
    · exact h5 k (hr ▸ e) e'
    · rw [hr] at e; injection e with e; subst e
      have := (show SetAt W c (some g) m from e' ▸ h2).ltR; omega
  · rintro k (e | e)
    · exact .inl e
    · exact .inr (h3 k e.symm)
end Go.Proofs.Ytcifbcdjkofomaa
