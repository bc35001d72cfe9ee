/-
  The functions on spans (program and reference) do what plain functions on two numbers say. Conditions: numbers of 64 bits.
-/
import Derived.Test.YtcifbcdjkofomaaBase
namespace Go.Proofs.Ytcifbcdjkofomaa
open Go.RowKit
set_option linter.unusedVariables false
set_option linter.unusedSimpArgs false

attribute [local go_sem] run_min run_max run_field24_0 run_field24_1

theorem may_yes {a b : Int} (h : mayB a b = true) : 0 ≤ a ∧ a ≤ b ∧ b ≤ 4611686018427387904 := of_decide_eq_true h
theorem pln_pos {a b : Int} (h : mayB a b = true) (hne : a ≠ b) : pln a b = (a, b) := by simp [pln, hne, h]
theorem pln_eq {a b : Int} (h : a = b) : pln a b = (0, 0) := by simp [pln, h]
theorem pln_no {a b : Int} (h : mayB a b = false) : pln a b = (0, 0) := by simp [pln, h]
theorem pln_le (a b : Int) : 0 ≤ (pln a b).1 ∧ (pln a b).1 ≤ (pln a b).2 ∧ (pln a b).2 ≤ 4611686018427387904 := by
  unfold pln
  split
  · rename_i h; exact may_yes h.1
  · simp
theorem pln_cases (a b : Int) : (pln a b = (0, 0) ∧ (mayB a b = false ∨ a = b)) ∨ (pln a b = (a, b) ∧ 0 ≤ a ∧ a < b ∧ b ≤ 4611686018427387904) := by
  by_cases h : mayB a b = true
  · by_cases hne : a = b
    · exact .inl ⟨pln_eq hne, .inr hne⟩
    · have := may_yes h; exact .inr ⟨pln_pos h hne, by omega, by omega, by omega⟩
  · exact .inl ⟨pln_no (by simpa using h), .inl (by simpa using h)⟩

theorem may_any (a b : Int) (w : World) : Calls Try.prog 84 #[.agg #[.int .i64 a, .int .i64 b]] w fun e w' => e = .returned (.bool (mayB a b)) ∧ Below w.heap.size w w' := by
  by_cases h1 : 0 ≤ a
  · by_cases h2 : a ≤ b
    · have hr : mayB a b = decide (b ≤ 4611686018427387904) := by simp [mayB, h1, h2]
      rw [hr]; clear hr
      go_enter Try.func84, Try.ntmps84
      go_wp2
      go_ret
      exact ⟨rfl, by (repeat (with_reducible first | exact Below.refl _ _ | assumption | (refine Below.setCell ?_ (by first | (simp; done) | (simp; omega) | omega) _) | (refine Below.alloc ?_ (by first | (simp; done) | (simp; omega) | omega) _) | refine Below.drew ?_ | refine Below.drewN_ ?_ _ | (refine Below.then_ ?_ (by with_reducible assumption))))⟩
    · have hr : mayB a b = false := by simp [mayB]; omega
      rw [hr]; clear hr
      go_enter Try.func84, Try.ntmps84
      go_wp2
      go_ret
      exact ⟨rfl, by (repeat (with_reducible first | exact Below.refl _ _ | assumption | (refine Below.setCell ?_ (by first | (simp; done) | (simp; omega) | omega) _) | (refine Below.alloc ?_ (by first | (simp; done) | (simp; omega) | omega) _) | refine Below.drew ?_ | refine Below.drewN_ ?_ _ | (refine Below.then_ ?_ (by with_reducible assumption))))⟩
  · have hr : mayB a b = false := by simp [mayB]; omega
    rw [hr]; clear hr
    go_enter Try.func84, Try.ntmps84
    go_wp2
    go_ret
    exact ⟨rfl, by (repeat (with_reducible first | exact Below.refl _ _ | assumption | (refine Below.setCell ?_ (by first | (simp; done) | (simp; omega) | omega) _) | (refine Below.alloc ?_ (by first | (simp; done) | (simp; omega) | omega) _) | refine Below.drew ?_ | refine Below.drewN_ ?_ _ | (refine Below.then_ ?_ (by with_reducible assumption))))⟩
theorem rmay_any (a b : Int) (w : World) : Calls Try.prog 68 #[.agg #[.int .i64 a, .int .i64 b]] w fun e w' => e = .returned (.bool (mayB a b)) ∧ Below w.heap.size w w' := by
  by_cases h1 : 0 ≤ a
  · by_cases h2 : a ≤ b
    · have hr : mayB a b = decide (b ≤ 4611686018427387904) := by simp [mayB, h1, h2]
      rw [hr]; clear hr
      go_enter Try.func68, Try.ntmps68
      go_wp2
      go_ret
      exact ⟨rfl, by (repeat (with_reducible first | exact Below.refl _ _ | assumption | (refine Below.setCell ?_ (by first | (simp; done) | (simp; omega) | omega) _) | (refine Below.alloc ?_ (by first | (simp; done) | (simp; omega) | omega) _) | refine Below.drew ?_ | refine Below.drewN_ ?_ _ | (refine Below.then_ ?_ (by with_reducible assumption))))⟩
    · have hr : mayB a b = false := by simp [mayB]; omega
      rw [hr]; clear hr
      go_enter Try.func68, Try.ntmps68
      go_wp2
      go_ret
      exact ⟨rfl, by (repeat (with_reducible first | exact Below.refl _ _ | assumption | (refine Below.setCell ?_ (by first | (simp; done) | (simp; omega) | omega) _) | (refine Below.alloc ?_ (by first | (simp; done) | (simp; omega) | omega) _) | refine Below.drew ?_ | refine Below.drewN_ ?_ _ | (refine Below.then_ ?_ (by with_reducible assumption))))⟩
  · have hr : mayB a b = false := by simp [mayB]; omega
    rw [hr]; clear hr
    go_enter Try.func68, Try.ntmps68
    go_wp2
    go_ret
    exact ⟨rfl, by (repeat (with_reducible first | exact Below.refl _ _ | assumption | (refine Below.setCell ?_ (by first | (simp; done) | (simp; omega) | omega) _) | (refine Below.alloc ?_ (by first | (simp; done) | (simp; omega) | omega) _) | refine Below.drew ?_ | refine Below.drewN_ ?_ _ | (refine Below.then_ ?_ (by with_reducible assumption))))⟩
theorem plain_any (a b : Int) (w : World) : Calls Try.prog 89 #[.agg #[.int .i64 a, .int .i64 b]] w fun e w' => e = .returned (.agg #[.int .i64 (pln a b).1, .int .i64 (pln a b).2]) ∧ Below w.heap.size w w' := by
  cases h : mayB a b with
  | true =>
    by_cases hne : a = b
    · rw [pln_eq hne]
      subst hne
      go_enter Try.func89, Try.ntmps89; go_wp2_with (go_at_call 84; refine (may_any _ _ _).mono ?_; rw [h]; rintro e w1 ⟨rfl, hb⟩; obtain ⟨hc, hf⟩ := bcell hb; have hz := hb.size; simp only [World.size_alloc] at hz); refine bodyPost_ret (v := .agg #[.int .i64 0, .int .i64 0]) (by simp [results, Try.results89, go_sem, hc, hz]) rfl ⟨rfl, ?_⟩; (repeat (with_reducible first | exact Below.refl _ _ | assumption | (refine Below.setCell ?_ (by first | (simp; done) | (simp; omega) | omega) _) | (refine Below.alloc ?_ (by first | (simp; done) | (simp; omega) | omega) _) | refine Below.drew ?_ | refine Below.drewN_ ?_ _ | (refine Below.then_ ?_ (by with_reducible assumption))))
    · rw [pln_pos h hne]
      have hne' : (a == b) = false := by simp [hne]
      go_enter Try.func89, Try.ntmps89; go_wp2_with (go_at_call 84; refine (may_any _ _ _).mono ?_; rw [h]; rintro e w1 ⟨rfl, hb⟩; obtain ⟨hc, hf⟩ := bcell hb; have hz := hb.size; simp only [World.size_alloc] at hz); refine bodyPost_ret (v := .agg #[.int .i64 a, .int .i64 b]) (by simp [results, Try.results89, go_sem, hc, hz]) rfl ⟨rfl, ?_⟩; (repeat (with_reducible first | exact Below.refl _ _ | assumption | (refine Below.setCell ?_ (by first | (simp; done) | (simp; omega) | omega) _) | (refine Below.alloc ?_ (by first | (simp; done) | (simp; omega) | omega) _) | refine Below.drew ?_ | refine Below.drewN_ ?_ _ | (refine Below.then_ ?_ (by with_reducible assumption))))
  | false =>
    rw [pln_no h]
    go_enter Try.func89, Try.ntmps89; go_wp2_with (go_at_call 84; refine (may_any _ _ _).mono ?_; rw [h]; rintro e w1 ⟨rfl, hb⟩; obtain ⟨hc, hf⟩ := bcell hb; have hz := hb.size; simp only [World.size_alloc] at hz); refine bodyPost_ret (v := .agg #[.int .i64 0, .int .i64 0]) (by simp [results, Try.results89, go_sem, hc, hz]) rfl ⟨rfl, ?_⟩; (repeat (with_reducible first | exact Below.refl _ _ | assumption | (refine Below.setCell ?_ (by first | (simp; done) | (simp; omega) | omega) _) | (refine Below.alloc ?_ (by first | (simp; done) | (simp; omega) | omega) _) | refine Below.drew ?_ | refine Below.drewN_ ?_ _ | (refine Below.then_ ?_ (by with_reducible assumption))))
theorem rof_any (a b : Int) (w : World) : Calls Try.prog 60 #[.agg #[.int .i64 a, .int .i64 b]] w fun e w' => e = .returned (.agg #[.int .i64 (pln a b).1, .int .i64 (pln a b).2]) ∧ Below w.heap.size w w' := by
  cases h : mayB a b with
  | true =>
    by_cases hne : a = b
    · rw [pln_eq hne]
      subst hne
      go_enter Try.func60, Try.ntmps60; go_wp2_with (go_at_call 68; refine (rmay_any _ _ _).mono ?_; rw [h]; rintro e w1 ⟨rfl, hb⟩; obtain ⟨hc, hf⟩ := bcell hb; have hz := hb.size; simp only [World.size_alloc] at hz); refine bodyPost_ret (v := .agg #[.int .i64 0, .int .i64 0]) (by simp [results, Try.results60, go_sem, hc, hz]) rfl ⟨rfl, ?_⟩; (repeat (with_reducible first | exact Below.refl _ _ | assumption | (refine Below.setCell ?_ (by first | (simp; done) | (simp; omega) | omega) _) | (refine Below.alloc ?_ (by first | (simp; done) | (simp; omega) | omega) _) | refine Below.drew ?_ | refine Below.drewN_ ?_ _ | (refine Below.then_ ?_ (by with_reducible assumption))))
    · rw [pln_pos h hne]
      have hne' : (a == b) = false := by simp [hne]
      go_enter Try.func60, Try.ntmps60; go_wp2_with (go_at_call 68; refine (rmay_any _ _ _).mono ?_; rw [h]; rintro e w1 ⟨rfl, hb⟩; obtain ⟨hc, hf⟩ := bcell hb; have hz := hb.size; simp only [World.size_alloc] at hz); refine bodyPost_ret (v := .agg #[.int .i64 a, .int .i64 b]) (by simp [results, Try.results60, go_sem, hc, hz]) rfl ⟨rfl, ?_⟩; (repeat (with_reducible first | exact Below.refl _ _ | assumption | (refine Below.setCell ?_ (by first | (simp; done) | (simp; omega) | omega) _) | (refine Below.alloc ?_ (by first | (simp; done) | (simp; omega) | omega) _) | refine Below.drew ?_ | refine Below.drewN_ ?_ _ | (refine Below.then_ ?_ (by with_reducible assumption))))
  | false =>
    rw [pln_no h]
    go_enter Try.func60, Try.ntmps60; go_wp2_with (go_at_call 68; refine (rmay_any _ _ _).mono ?_; rw [h]; rintro e w1 ⟨rfl, hb⟩; obtain ⟨hc, hf⟩ := bcell hb; have hz := hb.size; simp only [World.size_alloc] at hz); refine bodyPost_ret (v := .agg #[.int .i64 0, .int .i64 0]) (by simp [results, Try.results60, go_sem, hc, hz]) rfl ⟨rfl, ?_⟩; (repeat (with_reducible first | exact Below.refl _ _ | assumption | (refine Below.setCell ?_ (by first | (simp; done) | (simp; omega) | omega) _) | (refine Below.alloc ?_ (by first | (simp; done) | (simp; omega) | omega) _) | refine Below.drew ?_ | refine Below.drewN_ ?_ _ | (refine Below.then_ ?_ (by with_reducible assumption))))

theorem len_any (a b : Int) (w : World) : Calls Try.prog 57 #[.agg #[.int .i64 a, .int .i64 b]] w fun e w' => e = .returned (.int .i64 (spLen a b)) ∧ Below w.heap.size w w' := by
  have hl := pln_le a b
  have hL : Hid (spLen a b = (pln a b).2 - (pln a b).1) := rfl
  go_enter Try.func57, Try.ntmps57
  go_wp2_with (go_at_call 89; refine (plain_any _ _ _).mono ?_; rintro e w1 ⟨rfl, hb⟩; obtain ⟨hc, hf⟩ := bcell hb; have hz := hb.size; (try simp only [World.size_alloc] at hz))
  go_ret
  refine ⟨?_, ?_⟩
  · rw [hL.out]; rfl
  · (repeat (with_reducible first | exact Below.refl _ _ | assumption | (refine Below.setCell ?_ (by first | (simp; done) | (simp; omega) | omega) _) | (refine Below.alloc ?_ (by first | (simp; done) | (simp; omega) | omega) _) | refine Below.drew ?_ | refine Below.drewN_ ?_ _ | (refine Below.then_ ?_ (by with_reducible assumption))))
theorem none_any (a b : Int) (w : World) : Calls Try.prog 87 #[.agg #[.int .i64 a, .int .i64 b]] w fun e w' => e = .returned (.bool (decide ((pln a b).1 = 0 ∧ (pln a b).2 = 0))) ∧ Below w.heap.size w w' := by
  go_enter Try.func87, Try.ntmps87
  go_wp2_with (go_at_call 89; refine (plain_any _ _ _).mono ?_; rintro e w1 ⟨rfl, hb⟩; obtain ⟨hc, hf⟩ := bcell hb; have hz := hb.size; (try simp only [World.size_alloc] at hz))
  all_goals (go_ret; refine ⟨by simp [*], ?_⟩; (repeat (with_reducible first | exact Below.refl _ _ | assumption | (refine Below.setCell ?_ (by first | (simp; done) | (simp; omega) | omega) _) | (refine Below.alloc ?_ (by first | (simp; done) | (simp; omega) | omega) _) | refine Below.drew ?_ | refine Below.drewN_ ?_ _ | (refine Below.then_ ?_ (by with_reducible assumption)))))

theorem below_any (a b c : Int) (w : World) : Calls Try.prog 64 #[.agg #[.int .i64 a, .int .i64 b], .int .i64 c] w fun e w' => e = .returned (.agg #[.int .i64 (pln (pln a b).1 (min (pln a b).2 c)).1, .int .i64 (pln (pln a b).1 (min (pln a b).2 c)).2]) ∧ Below w.heap.size w w' := by
  go_enter Try.func64, Try.ntmps64
  go_wp2_with fail
  refine (plain_any _ _ _).mono ?_
  rintro e w1 ⟨rfl, hb⟩
  have x0 := Below.cell' hb (p := ⟨w.heap.size, 0, none⟩) (v := .int .i64 a) (by go_simp); have x1 := Below.cell' hb (p := ⟨w.heap.size, 1, none⟩) (v := .int .i64 b) (by go_simp); have xf := Below.frozen' hb (p := ⟨w.heap.size, 0, none⟩) (v := .int .i64 a) (by go_simp) (by go_simp); have xg := Below.frozen' hb (p := ⟨w.heap.size, 1, none⟩) (v := .int .i64 b) (by go_simp) (by go_simp); have y0 := Below.cell' hb (p := ⟨(w.heap.size + 1), 0, none⟩) (v := .int .i64 0) (by go_simp); have y1 := Below.cell' hb (p := ⟨(w.heap.size + 1), 1, none⟩) (v := .int .i64 0) (by go_simp); have yf := Below.frozen' hb (p := ⟨(w.heap.size + 1), 0, none⟩) (v := .int .i64 0) (by go_simp) (by go_simp); have yg := Below.frozen' hb (p := ⟨(w.heap.size + 1), 1, none⟩) (v := .int .i64 0) (by go_simp) (by go_simp); have hz := hb.size; (try simp only [World.size_alloc, World.size_setCell] at hz)
  go_wp2_with fail
  refine (plain_any _ _ _).mono ?_
  rintro e w2 ⟨rfl, hb2⟩
  have u0 := Below.cell' hb2 (p := ⟨w.heap.size, 0, none⟩) (v := .int .i64 (pln a b).1) (by go_simp); have u1 := Below.cell' hb2 (p := ⟨w.heap.size, 1, none⟩) (v := .int .i64 (pln a b).2) (by go_simp); have uf := Below.frozen' hb2 (p := ⟨w.heap.size, 0, none⟩) (v := .int .i64 (pln a b).1) (by go_simp) (by go_simp); have ug := Below.frozen' hb2 (p := ⟨w.heap.size, 1, none⟩) (v := .int .i64 (pln a b).2) (by go_simp) (by go_simp); have v0 := Below.cell' hb2 (p := ⟨(w.heap.size + 1), 0, none⟩) (v := .int .i64 0) (by go_simp); have v1 := Below.cell' hb2 (p := ⟨(w.heap.size + 1), 1, none⟩) (v := .int .i64 0) (by go_simp); have vf := Below.frozen' hb2 (p := ⟨(w.heap.size + 1), 0, none⟩) (v := .int .i64 0) (by go_simp) (by go_simp); have vg := Below.frozen' hb2 (p := ⟨(w.heap.size + 1), 1, none⟩) (v := .int .i64 0) (by go_simp) (by go_simp); have hz2 := hb2.size; (try simp only [World.size_alloc, World.size_setCell] at hz2)
  go_wp2_with fail
  refine bodyPost_ret (v := .agg #[.int .i64 (pln (pln a b).1 (min (pln a b).2 c)).1, .int .i64 (pln (pln a b).1 (min (pln a b).2 c)).2]) (by simp [results, Try.results64, go_sem, v0, v1, vf, vg]) rfl ⟨rfl, ?_⟩
  (repeat (with_reducible first | exact Below.refl _ _ | assumption | (refine Below.setCell ?_ (by first | (simp; done) | (simp; omega) | omega) _) | (refine Below.alloc ?_ (by first | (simp; done) | (simp; omega) | omega) _) | refine Below.drew ?_ | refine Below.drewN_ ?_ _ | (refine Below.then_ ?_ (by with_reducible assumption))))
theorem from_any (a b c : Int) (w : World) : Calls Try.prog 65 #[.agg #[.int .i64 a, .int .i64 b], .int .i64 c] w fun e w' => e = .returned (.agg #[.int .i64 (pln (max (pln a b).1 c) (pln a b).2).1, .int .i64 (pln (max (pln a b).1 c) (pln a b).2).2]) ∧ Below w.heap.size w w' := by
  go_enter Try.func65, Try.ntmps65
  go_wp2_with fail
  refine (plain_any _ _ _).mono ?_
  rintro e w1 ⟨rfl, hb⟩
  have x0 := Below.cell' hb (p := ⟨w.heap.size, 0, none⟩) (v := .int .i64 a) (by go_simp); have x1 := Below.cell' hb (p := ⟨w.heap.size, 1, none⟩) (v := .int .i64 b) (by go_simp); have xf := Below.frozen' hb (p := ⟨w.heap.size, 0, none⟩) (v := .int .i64 a) (by go_simp) (by go_simp); have xg := Below.frozen' hb (p := ⟨w.heap.size, 1, none⟩) (v := .int .i64 b) (by go_simp) (by go_simp); have y0 := Below.cell' hb (p := ⟨(w.heap.size + 1), 0, none⟩) (v := .int .i64 0) (by go_simp); have y1 := Below.cell' hb (p := ⟨(w.heap.size + 1), 1, none⟩) (v := .int .i64 0) (by go_simp); have yf := Below.frozen' hb (p := ⟨(w.heap.size + 1), 0, none⟩) (v := .int .i64 0) (by go_simp) (by go_simp); have yg := Below.frozen' hb (p := ⟨(w.heap.size + 1), 1, none⟩) (v := .int .i64 0) (by go_simp) (by go_simp); have hz := hb.size; (try simp only [World.size_alloc, World.size_setCell] at hz)
  go_wp2_with fail
  refine (plain_any _ _ _).mono ?_
  rintro e w2 ⟨rfl, hb2⟩
  have u0 := Below.cell' hb2 (p := ⟨w.heap.size, 0, none⟩) (v := .int .i64 (pln a b).1) (by go_simp); have u1 := Below.cell' hb2 (p := ⟨w.heap.size, 1, none⟩) (v := .int .i64 (pln a b).2) (by go_simp); have uf := Below.frozen' hb2 (p := ⟨w.heap.size, 0, none⟩) (v := .int .i64 (pln a b).1) (by go_simp) (by go_simp); have ug := Below.frozen' hb2 (p := ⟨w.heap.size, 1, none⟩) (v := .int .i64 (pln a b).2) (by go_simp) (by go_simp); have v0 := Below.cell' hb2 (p := ⟨(w.heap.size + 1), 0, none⟩) (v := .int .i64 0) (by go_simp); have v1 := Below.cell' hb2 (p := ⟨(w.heap.size + 1), 1, none⟩) (v := .int .i64 0) (by go_simp); have vf := Below.frozen' hb2 (p := ⟨(w.heap.size + 1), 0, none⟩) (v := .int .i64 0) (by go_simp) (by go_simp); have vg := Below.frozen' hb2 (p := ⟨(w.heap.size + 1), 1, none⟩) (v := .int .i64 0) (by go_simp) (by go_simp); have hz2 := hb2.size; (try simp only [World.size_alloc, World.size_setCell] at hz2)
  go_wp2_with fail
  refine bodyPost_ret (v := .agg #[.int .i64 (pln (max (pln a b).1 c) (pln a b).2).1, .int .i64 (pln (max (pln a b).1 c) (pln a b).2).2]) (by simp [results, Try.results65, go_sem, v0, v1, vf, vg]) rfl ⟨rfl, ?_⟩
  (repeat (with_reducible first | exact Below.refl _ _ | assumption | (refine Below.setCell ?_ (by first | (simp; done) | (simp; omega) | omega) _) | (refine Below.alloc ?_ (by first | (simp; done) | (simp; omega) | omega) _) | refine Below.drew ?_ | refine Below.drewN_ ?_ _ | (refine Below.then_ ?_ (by with_reducible assumption))))

def spMeet (a b c d : Int) : Sp := pln (max (pln a b).1 (pln c d).1) (min (pln a b).2 (pln c d).2)
set_option maxRecDepth 100000 in
set_option maxHeartbeats 1000000 in
theorem meet_any (a b c d : Int) (w : World) : Calls Try.prog 92 #[.agg #[.int .i64 a, .int .i64 b], .agg #[.int .i64 c, .int .i64 d]] w fun e w' => e = .returned (.agg #[.int .i64 (spMeet a b c d).1, .int .i64 (spMeet a b c d).2]) ∧ Below w.heap.size w w' := by
  unfold spMeet
  go_enter Try.func92, Try.ntmps92
  go_wp2_with fail
  go_region_with (first | ((with_reducible refine (plain_any a b _).mono ?_); rintro e w1 ⟨rfl, hb⟩; have x0 := Below.cell' hb (p := ⟨w.heap.size, 0, none⟩) (v := .int .i64 a) (by go_simp); have x1 := Below.cell' hb (p := ⟨w.heap.size, 1, none⟩) (v := .int .i64 b) (by go_simp); have xf := Below.frozen' hb (p := ⟨w.heap.size, 0, none⟩) (v := .int .i64 a) (by go_simp) (by go_simp); have xg := Below.frozen' hb (p := ⟨w.heap.size, 1, none⟩) (v := .int .i64 b) (by go_simp) (by go_simp); have y0 := Below.cell' hb (p := ⟨(w.heap.size + 1), 0, none⟩) (v := .int .i64 c) (by go_simp); have y1 := Below.cell' hb (p := ⟨(w.heap.size + 1), 1, none⟩) (v := .int .i64 d) (by go_simp); have yf := Below.frozen' hb (p := ⟨(w.heap.size + 1), 0, none⟩) (v := .int .i64 c) (by go_simp) (by go_simp); have yg := Below.frozen' hb (p := ⟨(w.heap.size + 1), 1, none⟩) (v := .int .i64 d) (by go_simp) (by go_simp); have z0 := Below.cell' hb (p := ⟨(w.heap.size + 1 + 1), 0, none⟩) (v := .int .i64 0) (by go_simp); have z1 := Below.cell' hb (p := ⟨(w.heap.size + 1 + 1), 1, none⟩) (v := .int .i64 0) (by go_simp); have zf := Below.frozen' hb (p := ⟨(w.heap.size + 1 + 1), 0, none⟩) (v := .int .i64 0) (by go_simp) (by go_simp); have zg := Below.frozen' hb (p := ⟨(w.heap.size + 1 + 1), 1, none⟩) (v := .int .i64 0) (by go_simp) (by go_simp); have hz := hb.size; (try simp only [World.size_alloc, World.size_setCell] at hz)) | ((with_reducible refine (plain_any c d _).mono ?_); rintro e w2 ⟨rfl, hb2⟩; have x0 := Below.cell' hb2 (p := ⟨w.heap.size, 0, none⟩) (v := .int .i64 a) (by go_simp); have x1 := Below.cell' hb2 (p := ⟨w.heap.size, 1, none⟩) (v := .int .i64 b) (by go_simp); have xf := Below.frozen' hb2 (p := ⟨w.heap.size, 0, none⟩) (v := .int .i64 a) (by go_simp) (by go_simp); have xg := Below.frozen' hb2 (p := ⟨w.heap.size, 1, none⟩) (v := .int .i64 b) (by go_simp) (by go_simp); have y0 := Below.cell' hb2 (p := ⟨(w.heap.size + 1), 0, none⟩) (v := .int .i64 c) (by go_simp); have y1 := Below.cell' hb2 (p := ⟨(w.heap.size + 1), 1, none⟩) (v := .int .i64 d) (by go_simp); have yf := Below.frozen' hb2 (p := ⟨(w.heap.size + 1), 0, none⟩) (v := .int .i64 c) (by go_simp) (by go_simp); have yg := Below.frozen' hb2 (p := ⟨(w.heap.size + 1), 1, none⟩) (v := .int .i64 d) (by go_simp) (by go_simp); have z0 := Below.cell' hb2 (p := ⟨(w.heap.size + 1 + 1), 0, none⟩) (v := .int .i64 0) (by go_simp); have z1 := Below.cell' hb2 (p := ⟨(w.heap.size + 1 + 1), 1, none⟩) (v := .int .i64 0) (by go_simp); have zf := Below.frozen' hb2 (p := ⟨(w.heap.size + 1 + 1), 0, none⟩) (v := .int .i64 0) (by go_simp) (by go_simp); have zg := Below.frozen' hb2 (p := ⟨(w.heap.size + 1 + 1), 1, none⟩) (v := .int .i64 0) (by go_simp) (by go_simp); have hz2 := hb2.size; (try simp only [World.size_alloc, World.size_setCell] at hz2)))
  all_goals
    go_wp2_with fail
    refine (plain_any _ _ _).mono ?_
    rintro e w3 ⟨rfl, hb3⟩
    have u0 := Below.cell' hb3 (p := ⟨(w.heap.size + 1 + 1), 0, none⟩) (v := .int .i64 0) (by go_simp); have u1 := Below.cell' hb3 (p := ⟨(w.heap.size + 1 + 1), 1, none⟩) (v := .int .i64 0) (by go_simp); have uf := Below.frozen' hb3 (p := ⟨(w.heap.size + 1 + 1), 0, none⟩) (v := .int .i64 0) (by go_simp) (by go_simp); have ug := Below.frozen' hb3 (p := ⟨(w.heap.size + 1 + 1), 1, none⟩) (v := .int .i64 0) (by go_simp) (by go_simp); have hz3 := hb3.size; (try simp only [World.size_alloc, World.size_setCell] at hz3)
    go_wp2_with fail
    refine bodyPost_ret (v := .agg #[.int .i64 (pln (max (pln a b).1 (pln c d).1) (min (pln a b).2 (pln c d).2)).1, .int .i64 (pln (max (pln a b).1 (pln c d).1) (min (pln a b).2 (pln c d).2)).2]) (by simp [results, Try.results92, go_sem, u0, u1, uf, ug]) rfl ⟨rfl, ?_⟩
    (repeat (with_reducible first | exact Below.refl _ _ | assumption | (refine Below.setCell ?_ (by first | (simp; done) | (simp; omega) | omega) _) | (refine Below.alloc ?_ (by first | (simp; done) | (simp; omega) | omega) _) | refine Below.drew ?_ | refine Below.drewN_ ?_ _ | (refine Below.then_ ?_ (by with_reducible assumption))))
set_option maxRecDepth 100000 in
theorem rlen_any (a b : Int) (w : World) : Calls Try.prog 17 #[.agg #[.int .i64 a, .int .i64 b]] w fun e w' => e = .returned (.int .i64 (spLen a b)) ∧ Below w.heap.size w w' := by
  have hl := pln_le a b
  have hL : Hid (spLen a b = (pln a b).2 - (pln a b).1) := rfl
  have hw : IntKind.i64.wrap ((pln a b).2 - (pln a b).1) = (pln a b).2 - (pln a b).1 := IntWalk.i64_in _ (by omega)
  have hu24 := Try.underlying24
  go_enter Try.func17, Try.ntmps17
  go_wp2_with fail
  go_region_with ((with_reducible refine (rof_any a b _).mono ?_); rintro e w1 ⟨rfl, hb⟩; have x0 := Below.cell' hb (p := ⟨w.heap.size, 0, none⟩) (v := .int .i64 a) (by go_simp); have x1 := Below.cell' hb (p := ⟨w.heap.size, 1, none⟩) (v := .int .i64 b) (by go_simp); have xf := Below.frozen' hb (p := ⟨w.heap.size, 0, none⟩) (v := .int .i64 a) (by go_simp) (by go_simp); have xg := Below.frozen' hb (p := ⟨w.heap.size, 1, none⟩) (v := .int .i64 b) (by go_simp) (by go_simp); have hz := hb.size; (try simp only [World.size_alloc, World.size_setCell] at hz))
  all_goals
    go_wp2
    go_ret
    refine ⟨?_, ?_⟩
    · rw [hL.out]; rfl
    · (repeat (with_reducible first | exact Below.refl _ _ | assumption | (refine Below.setCell ?_ (by first | (simp; done) | (simp; omega) | omega) _) | (refine Below.alloc ?_ (by first | (simp; done) | (simp; omega) | omega) _) | refine Below.drew ?_ | refine Below.drewN_ ?_ _ | (refine Below.then_ ?_ (by with_reducible assumption))))
def hasB (a b c : Int) : Bool := decide ((pln a b).1 ≤ c ∧ c < (pln a b).2)
set_option maxRecDepth 100000 in
theorem rhas_any (a b c : Int) (w : World) : Calls Try.prog 25 #[.agg #[.int .i64 a, .int .i64 b], .int .i64 c] w fun e w' => e = .returned (.bool (hasB a b c)) ∧ Below w.heap.size w w' := by
  by_cases h : (pln a b).1 ≤ c
  · have hr : hasB a b c = decide (c < (pln a b).2) := by simp [hasB, h]
    rw [hr]; clear hr
    have hu24 := Try.underlying24
    go_enter Try.func25, Try.ntmps25
    go_wp2_with fail
    refine (rof_any a b _).mono ?_
    rintro e w1 ⟨rfl, hb⟩
    have x0 := Below.cell' hb (p := ⟨w.heap.size, 0, none⟩) (v := .int .i64 a) (by go_simp); have x1 := Below.cell' hb (p := ⟨w.heap.size, 1, none⟩) (v := .int .i64 b) (by go_simp); have xf := Below.frozen' hb (p := ⟨w.heap.size, 0, none⟩) (v := .int .i64 a) (by go_simp) (by go_simp); have xg := Below.frozen' hb (p := ⟨w.heap.size, 1, none⟩) (v := .int .i64 b) (by go_simp) (by go_simp); have hz := hb.size; (try simp only [World.size_alloc, World.size_setCell] at hz)
    go_wp2_with fail
    refine (rof_any a b _).mono ?_
    rintro e w2 ⟨rfl, hb2⟩
    go_wp2_with fail
    go_ret
    exact ⟨rfl, by (repeat (with_reducible first | exact Below.refl _ _ | assumption | (refine Below.setCell ?_ (by first | (simp; done) | (simp; omega) | omega) _) | (refine Below.alloc ?_ (by first | (simp; done) | (simp; omega) | omega) _) | refine Below.drew ?_ | refine Below.drewN_ ?_ _ | (refine Below.then_ ?_ (by with_reducible assumption))))⟩
  · have hr : hasB a b c = false := by simp [hasB]; omega
    rw [hr]; clear hr
    have hu24 := Try.underlying24
    go_enter Try.func25, Try.ntmps25
    go_wp2_with fail
    refine (rof_any a b _).mono ?_
    rintro e w1 ⟨rfl, hb⟩
    have x0 := Below.cell' hb (p := ⟨w.heap.size, 0, none⟩) (v := .int .i64 a) (by go_simp); have x1 := Below.cell' hb (p := ⟨w.heap.size, 1, none⟩) (v := .int .i64 b) (by go_simp); have xf := Below.frozen' hb (p := ⟨w.heap.size, 0, none⟩) (v := .int .i64 a) (by go_simp) (by go_simp); have xg := Below.frozen' hb (p := ⟨w.heap.size, 1, none⟩) (v := .int .i64 b) (by go_simp) (by go_simp); have hz := hb.size; (try simp only [World.size_alloc, World.size_setCell] at hz)
    go_wp2_with fail
    go_ret
    exact ⟨rfl, by (repeat (with_reducible first | exact Below.refl _ _ | assumption | (refine Below.setCell ?_ (by first | (simp; done) | (simp; omega) | omega) _) | (refine Below.alloc ?_ (by first | (simp; done) | (simp; omega) | omega) _) | refine Below.drew ?_ | refine Below.drewN_ ?_ _ | (refine Below.then_ ?_ (by with_reducible assumption))))⟩
end Go.Proofs.Ytcifbcdjkofomaa
