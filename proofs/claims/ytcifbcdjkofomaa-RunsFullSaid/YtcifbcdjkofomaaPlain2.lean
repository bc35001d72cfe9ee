/-
  Plain laws: gaps, one by one; what of runs lies in a span, one by one. Conditions: none.
-/
import Derived.Test.YtcifbcdjkofomaaSets
namespace Go.Proofs.Ytcifbcdjkofomaa
open Go.RowKit
set_option linter.unusedVariables false
set_option linter.unusedSimpArgs false

theorem lenOf_bad {s : Sp} (h : ¬ Okay s) : lenOf s = 0 := by
  unfold lenOf spLen
  rcases pln_cases s.1 s.2 with ⟨h1, _⟩ | ⟨_, h2⟩
  · rw [h1]; rfl
  · exact absurd ⟨h2.1, h2.2.1, h2.2.2⟩ h
theorem within_bad {s : Sp} (h : ¬ Okay s) (l : List Sp) : within l s = 0 := by unfold within; rw [if_pos (lenOf_bad h)]
theorem gaps_mem {l : List Sp} (hw : WF l) {s x : Sp} (hx : x ∈ gapsOf s (cutL l s)) : Okay s ∧ WF (gapsOf s (cutL l s)) ∧ within l x = 0 := by
  by_cases hs : Okay s
  · obtain ⟨g1, g2⟩ := gaps_in_ hw hs
    have hox : Okay x := g1.may x hx
    refine ⟨hs, g1, ?_⟩
    rw [within_cut l x hox]
    obtain ⟨c1, c2⟩ := cut_in hw hox
    rw [sumLen_zero (l := cutL l x) ?_ c1, sumLen_nil]
    intro o ho
    obtain ⟨h1, h2⟩ := (c2 o).1 ho
    exact ((g2 o).1 ⟨x, hx, h2⟩).2 h1
  · rw [gaps_bad (lenOf_bad hs)] at hx; simp at hx
/-- An addition behind all. -/
theorem snoc_add {pre : List Sp} {x : Sp} (h : WF (pre ++ [x])) : Okay x ∧ addS pre x = pre ++ [x] ∧ addN pre x = lenOf x ∧ errM x = 0 := by
  have hx : Okay x := h.may x (by simp)
  have hp := h.left
  have hap : ∀ o, inL pre o → ¬ inS x o := by
    rintro o ⟨y, hy, h1⟩ h2
    have := (List.pairwise_append.1 h.apart).2.2 y hy x (by simp)
    have := h1.2; have := h2.1; omega
  obtain ⟨a1, a2, _⟩ := addS_wf hp x
  refine ⟨hx, ?_, ?_, by unfold errM; rw [if_pos (may_ok hx)]⟩
  · refine wf_ext a1 h fun o => ?_
    rw [a2, inL_append, inL_one]
    exact ⟨fun h => h.imp_right fun h => h.2, fun h => h.imp_right fun h => ⟨hx, h⟩⟩
  · unfold addN
    rw [if_pos hx, within_cut pre x hx]
    obtain ⟨c1, c2⟩ := cut_in hp hx
    rw [sumLen_zero (l := cutL pre x) (fun o ho => hap o ((c2 o).1 ho).1 ((c2 o).1 ho).2) c1, sumLen_nil]
    omega
theorem meet_sem {s x : Sp} (hx : Okay x) (o : Int) : (Okay (meetOf s x) ∧ inS (meetOf s x) o) ↔ (inS x o ∧ Okay s ∧ inS s o) := by
  by_cases hs : Okay s
  · by_cases h1 : x.1 < s.2 ∧ s.1 < x.2
    · rw [meetOf_okay hs hx h1.1 h1.2]
      unfold Okay inS at *
      simp only
      omega
    · have : meetOf s x = (0, 0) := by
        unfold meetOf spMeet
        rw [pln_okay hs, pln_okay hx]
        rcases pln_cases (max x.1 s.1) (min x.2 s.2) with ⟨h, _⟩ | ⟨_, h2⟩
        · exact h
        · unfold Okay at hs hx; omega
      rw [this]
      unfold Okay inS at *
      simp only
      omega
  · have : ¬ Okay (meetOf s x) := by
      have hz : pln s.1 s.2 = (0, 0) := by
        rcases pln_cases s.1 s.2 with ⟨h1, _⟩ | ⟨_, h2⟩
        · exact h1
        · exact absurd ⟨h2.1, h2.2.1, h2.2.2⟩ hs
      unfold meetOf spMeet
      rw [hz, pln_okay hx]
      rcases pln_cases (max x.1 0) (min x.2 0) with ⟨h, _⟩ | ⟨_, h2⟩
      · simp only; rw [h]; unfold Okay; simp
      · unfold Okay at hx; omega
    exact ⟨fun h => absurd h.1 this, fun h => absurd h.2.1 hs⟩
/-- What the second loop has come to. -/
structure Fills (G : List Sp) (s : Sp) (pre a : List Sp) : Prop where
  wf : WF a
  len : a.length ≤ G.length + pre.length
  mem : ∀ o, inL a o ↔ inL G o ∨ (inL pre o ∧ Okay s ∧ inS s o)
theorem Fills.start {G : List Sp} (h : WF G) (s : Sp) : Fills G s [] G := ⟨h, by simp, fun o => ⟨.inl, fun h => h.resolve_right fun h => inL_nil o h.1⟩⟩
theorem Fills.step {G : List Sp} {s : Sp} {pre a : List Sp} (h : Fills G s pre a) {x : Sp} (hx : Okay x) : Fills G s (pre ++ [x]) (addS a (meetOf s x)) := by
  obtain ⟨a1, a2, a3⟩ := addS_wf h.wf (meetOf s x)
  refine ⟨a1, by have := h.len; simp; omega, fun o => ?_⟩
  rw [a2, h.mem, meet_sem hx, inL_append, inL_one]
  constructor
  · rintro ((h | h) | h)
    · exact .inl h
    · exact .inr ⟨.inl h.1, h.2⟩
    · exact .inr ⟨.inr h.1, h.2⟩
  · rintro (h | ⟨h | h, h'⟩)
    · exact .inl (.inl h)
    · exact .inl (.inr ⟨h, h'⟩)
    · exact .inr ⟨h, h'⟩
theorem Fills.done {R : List Sp} (hR : WF R) {s : Sp} {a : List Sp} (h : Fills (gapsOf s (cutL R s)) s R a) : a = (if Okay s then [s] else []) := by
  by_cases hs : Okay s
  · rw [if_pos hs]
    refine wf_ext h.wf (WF.one hs) fun o => ?_
    rw [h.mem, (gaps_in_ hR hs).2, inL_one]
    constructor
    · rintro (h | h)
      · exact h.1
      · exact h.2.2
    · intro h
      by_cases hc : inL R o
      · exact .inr ⟨hc, hs, h⟩
      · exact .inl ⟨h, hc⟩
  · rw [if_neg hs]
    refine wf_ext h.wf WF.nil fun o => ?_
    rw [h.mem, gaps_bad (lenOf_bad hs)]
    exact ⟨fun h => h.elim id fun h => absurd h.2.1 hs, .inl⟩
theorem whole_sum {R : List Sp} (hR : WF R) (s : Sp) : sumLen (gapsOf s (cutL R s)) + within R s = lenOf s := by
  by_cases hs : Okay s
  · exact (add_sum hR hs).1
  · rw [gaps_bad (lenOf_bad hs), within_bad hs, lenOf_bad hs]; rfl
theorem gaps_wf {R : List Sp} (hR : WF R) (s : Sp) : WF (gapsOf s (cutL R s)) := by
  by_cases hs : Okay s
  · exact (gaps_in_ hR hs).1
  · rw [gaps_bad (lenOf_bad hs)]; exact WF.nil
end Go.Proofs.Ytcifbcdjkofomaa
