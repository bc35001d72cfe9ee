/-
  What must come of fixed calls: known of layer 7. Conditions: none.
-/
import Derived.Test.YtcifbcdjkofomaaRunNext
import Derived.Test.YtcifbcdjkofomaaAdd
namespace Go.Proofs.Ytcifbcdjkofomaa
open Go.RowKit Go.Shelf
set_option linter.unusedVariables false
set_option linter.unusedSimpArgs false


/-- A set that was made since w, and whose row was made since w. -/
def Mine (w W : World) (b : Nat) (l : List Sp) : Prop :=
  ∃ v, IsRuns W b v l ∧ Below w.heap.size w W ∧ w.heap.size ≤ b ∧ (∀ k, v.ownBlock = some k → w.heap.size ≤ k)
theorem Mine.runs {w W : World} {b : Nat} {l : List Sp} (h : Mine w W b l) : ∃ v, IsRuns W b v l := h.imp fun _ h => h.1
theorem Mine.bel {w W : World} {b : Nat} {l : List Sp} (h : Mine w W b l) : Below w.heap.size w W := by obtain ⟨v, _, h, _⟩ := h; exact h
theorem Mine.below {w W W' : World} {b : Nat} {l : List Sp} (h : Mine w W b l) (hb : Below W.heap.size W W') : Mine w W' b l := by
  obtain ⟨v, h1, h2, h3, h4⟩ := h
  exact ⟨v, h1.below hb, Below.then_ h2 hb, h3, h4⟩
theorem Mine.new (w W : World) (h : Below w.heap.size w W) : Mine w (W.alloc (.cells #[.slice none 0 0] 92)) W.heap.size [] :=
  ⟨_, new_runs W, Below.then_ h (Below.one _ _), h.size, fun k e => by simp [Value.ownBlock] at e⟩
theorem Mine.post {w W W' : World} {b : Nat} {l l' : List Sp} {v : Value} (h1 : IsRuns W b v l) (h2 : Below w.heap.size w W) (h3 : w.heap.size ≤ b) (h4 : ∀ k, v.ownBlock = some k → w.heap.size ≤ k) (h : RunsPost W b v l' W') : Mine w W' b l' := by
  obtain ⟨v', hI, hch, hown⟩ := h
  refine ⟨v', hI, ?_, h3, ?_⟩
  · refine h2.trans (hch.belowAt h2.size fun k hk e => ?_)
    rcases e with e | e
    · omega
    · have := h4 k e.symm; omega
  · rcases hown with e | ⟨g, e, hg⟩
    · rw [e]; exact h4
    · intro k hk; rw [hk] at e; injection e with e; have := h2.size; omega

/-- An addition of what is a span, where there is room. -/
theorem add_mine {w W : World} {b : Nat} {l : List Sp} (h : Mine w W b l) (hw : WF l) (hl : l.length ≤ 4096) (s : Sp) (hs : Okay s) (hfit : (addL l s).length ≤ 4096) :
    Calls Try.prog 15 #[.pointer (some ⟨b, 0, none⟩), .agg #[.int .i64 s.1, .int .i64 s.2]] W fun e W' => e = .returned (.tuple #[.int .i64 (lenOf s - within l s), .int .i64 0]) ∧ Mine w W' b (addL l s) := by
  obtain ⟨v, h1, h2, h3, h4⟩ := h
  refine (add_any h1 hw hl s hs (by unfold Okay at hs; simp [mayB]; omega)).mono ?_
  intro e W' h
  unfold AddPost at h
  rw [if_pos hfit] at h
  exact ⟨h.1, Mine.post h1 h2 h3 h4 h.2⟩

theorem wf_one : WF [((2 : Int), (5 : Int))] := ⟨by simp, by simp⟩
theorem wf_two : WF [((2 : Int), (5 : Int)), (7, 9)] := ⟨by simp, by simp⟩
theorem wf_three : WF [((2 : Int), (9 : Int))] := ⟨by simp, by simp⟩
theorem known_1 : addL [] (2, 5) = [(2, 5)] := by decide
theorem known_2 : addL [(2, 5)] (7, 9) = [(2, 5), (7, 9)] := by decide
theorem known_3 : addL [(2, 5), (7, 9)] (5, 7) = [(2, 9)] := by decide
theorem known_4 : lenOf (5, 7) - within [(2, 5), (7, 9)] (5, 7) = 2 := by decide
theorem known_5 : sumW [(2, 9)] = 7 := by rw [sumW_eq _ (by decide)]; decide
theorem known_6 : gapAt [(2, 9)] 4 = 9 := by decide

set_option maxRecDepth 100000 in
set_option maxHeartbeats 4000000 in
theorem known_any (w : World) : Calls Try.prog 13 #[] w fun e w' => e = .returned (.bool true) ∧ Below w.heap.size w w' := by
  go_enter Try.func13, Try.ntmps13
  go_wp2_with fail
  go_at_call 14
  refine (new_any _).mono ?_
  rintro e w1 ⟨rfl, hw1⟩
  have M1 : Mine w w1 w.heap.size [] := by rw [hw1]; exact Mine.new w w (Below.refl _ _)
  have HM1 := Lib.hid M1; clear M1 hw1
  obtain ⟨b, hb⟩ : ∃ b, b = w.heap.size := ⟨_, rfl⟩
  rw [← hb] at HM1 ⊢
  clear hb
  go_wp2_with fail
  go_at_call 15
  refine (add_mine HM1.out WF.nil (by simp) (2, 5) (by unfold Okay; simp) (by rw [known_1]; simp)).mono ?_
  rintro e w2 ⟨rfl, M2⟩
  rw [known_1] at M2
  have HM2 := Lib.hid M2; clear M2 HM1
  go_wp2_with fail
  go_at_call 15
  refine (add_mine HM2.out wf_one (by simp) (7, 9) (by unfold Okay; simp) (by rw [known_2]; simp)).mono ?_
  rintro e w3 ⟨rfl, M3⟩
  rw [known_2] at M3
  have HM3 := Lib.hid M3; clear M3 HM2
  go_wp2_with fail
  go_at_call 15
  refine (add_mine HM3.out wf_two (by simp) (5, 7) (by unfold Okay; simp) (by rw [known_3]; simp)).mono ?_
  rintro e w4 ⟨rfl, M4⟩
  rw [known_3] at M4
  rw [known_4]
  have HM4 := Lib.hid M4; clear M4 HM3
  obtain ⟨v, hI⟩ := HM4.out.runs
  have HI := Lib.hid hI; clear hI
  go_wp2_with fail
  go_at_call 22
  refine (runsLen_any HI.out).mono ?_
  rintro e w5 ⟨rfl, rfl⟩
  go_wp2_with fail
  go_at_call 21
  refine (bytes_any HI.out (by simp)).mono ?_
  rw [known_5]
  rintro e w6 ⟨rfl, hb6⟩
  have HI6 := Lib.hid (HI.out.below hb6)
  have HB6 := Lib.hid hb6; clear hb6 HI
  go_wp2_with fail
  go_at_call 35
  refine (gap_any HI6.out wf_three (by simp) 4).mono ?_
  rw [known_6]
  rintro e w7 ⟨rfl, hb7⟩
  have HB7 := Lib.hid hb7; clear hb7 HI6
  go_wp2_with fail
  go_ret
  exact ⟨rfl, Below.then_ HM4.out.bel (Below.then_ HB6.out HB7.out)⟩
end Go.Proofs.Ytcifbcdjkofomaa
