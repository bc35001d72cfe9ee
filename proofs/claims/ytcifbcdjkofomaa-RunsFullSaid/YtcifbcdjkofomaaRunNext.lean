/-
  Run, Next, Has, Gap of a set of runs. Conditions: the set's row rises and does not touch.
-/
import Derived.Test.YtcifbcdjkofomaaBytes
namespace Go.Proofs.Ytcifbcdjkofomaa
open Go.RowKit Go.Shelf
set_option linter.unusedVariables false
set_option linter.unusedSimpArgs false

attribute [local go_sem] run_min run_max run_field24_0 run_field24_1

def runIdx (l : List Sp) (off : Int) : Nat := firstIdx (fun y => decide (off < y.2)) l
def runAt (l : List Sp) (off : Int) : Option Sp := match l[runIdx l off]? with | some y => if y.1 ≤ off then some y else none | none => none
def runTup (o : Option Sp) : Value := .tuple #[.agg #[.int .i64 (o.getD (0, 0)).1, .int .i64 (o.getD (0, 0)).2], .bool o.isSome]
theorem tests69 {w : World} {g : Nat} {off : Int} (h0 : w.cell? ⟨g, 0, none⟩ = some (.int .i64 off)) : Tests w 69 (.pointer (some ⟨g, 0, none⟩)) (fun y => decide (off < y.2)) :=
  fun x W hb => run1_any x.1 x.2 off g W (Below.cell' hb h0)
theorem tests70 {w : World} {g : Nat} {off : Int} (h0 : w.cell? ⟨g, 0, none⟩ = some (.int .i64 off)) : Tests w 70 (.pointer (some ⟨g, 0, none⟩)) (fun y => decide (off < y.2)) :=
  fun x W hb => next1_any x.1 x.2 off g W (Below.cell' hb h0)

set_option maxRecDepth 100000 in
set_option maxHeartbeats 4000000 in
theorem run_any {w : World} {b : Nat} {v : Value} {l : List Sp} (h : IsRuns w b v l) (hw : WF l) (hl : l.length ≤ 4611686018427387904) (off : Int) :
    Calls Try.prog 30 #[.pointer (some ⟨b, 0, none⟩), .int .i64 off] w fun e w' => e = .returned (runTup (runAt l off)) ∧ Below w.heap.size w w' := by
  have hri : Rises l (fun y => decide (off < y.2)) := hw.rises_to (fun a => decide (off < a)) (fun a b h1 h2 => by simp at *; omega)
  have hkl : runIdx l off ≤ l.length := List.findIdx_le_length
  obtain ⟨k, hK⟩ : ∃ k, Hid (runIdx l off = k) := ⟨_, rfl⟩
  rw [hK.out] at hkl
  have hu24 := Try.underlying24
  have H := Lib.hid (And.intro h hri); clear h hri
  go_enter Try.func30, Try.ntmps30
  go_wp2_with fail
  go_at_call 52
  refine (first_any 69 (fun a w => by kernel_rfl) (.pointer (some ⟨w.heap.size, 0, none⟩)) _ _ (H.out.1.below (by (repeat (with_reducible first | exact Below.refl _ _ | assumption | (refine Below.setCell ?_ (by first | (simp; done) | (simp; omega) | omega) _) | (refine Below.alloc ?_ (by first | (simp; done) | (simp; omega) | omega) _) | refine Below.drew ?_ | refine Below.drewN_ ?_ _ | (refine Below.then_ ?_ (by with_reducible assumption)))))) hl (tests69 (off := off) (by go_simp)) H.out.2).mono ?_
  intro e w1 hf
  obtain ⟨rfl, hb⟩ := found_idx H.out.2 hf
  rw [show firstIdx (fun y => decide (off < y.2)) l = k from hK.out]
  clear hf
  have x0 := Below.cell' hb (p := ⟨w.heap.size, 0, none⟩) (v := (.int .i64 off)) (by go_simp); have xf := Below.frozen' hb (p := ⟨w.heap.size, 0, none⟩) (v := (.int .i64 off)) (by go_simp) (by go_simp); have y0 := Below.cell' hb (p := ⟨(w.heap.size + 1), 0, none⟩) (v := .int .i64 0) (by go_simp); have y1 := Below.cell' hb (p := ⟨(w.heap.size + 1), 1, none⟩) (v := .int .i64 0) (by go_simp); have yf := Below.frozen' hb (p := ⟨(w.heap.size + 1), 0, none⟩) (v := .int .i64 0) (by go_simp) (by go_simp); have yg := Below.frozen' hb (p := ⟨(w.heap.size + 1), 1, none⟩) (v := .int .i64 0) (by go_simp) (by go_simp); have hz := hb.size; (try simp only [World.size_alloc, World.size_setCell] at hz)
  have HB1 : Hid (Below w.heap.size w w1) := Below.then_ (by (repeat (with_reducible first | exact Below.refl _ _ | assumption | (refine Below.setCell ?_ (by first | (simp; done) | (simp; omega) | omega) _) | (refine Below.alloc ?_ (by first | (simp; done) | (simp; omega) | omega) _) | refine Below.drew ?_ | refine Below.drewN_ ?_ _ | (refine Below.then_ ?_ (by with_reducible assumption))))) hb
  clear hb
  have HR := Lib.hid (H.out.1.below HB1.out)
  obtain ⟨A, c, rfl, hlc, hcm⟩ := H.out.1.row.form
  have hcell := HR.out.cell
  by_cases hlt : k < l.length
  · have hrd := HR.out.row.reads
    rcases hrd with hnil | ⟨g, o, rfl, hc⟩
    · rw [hnil] at hlt; simp at hlt
    · have d5 := (hc k hlt).1
      have d6 := (hc k hlt).2
      rw [← Nat.add_assoc] at d6
      have hat : l[runIdx l off]? = some l[k] := by rw [hK.out]; exact List.getElem?_eq_getElem hlt
      have HAT := Lib.hid hat; clear hat hc
      obtain ⟨s, hs⟩ : ∃ s, s = l[k] := ⟨_, rfl⟩
      rw [← hs] at d5 d6 HAT
      clear hs
      have hki : ((k : Int) == l.length) = false := by rw [beq_eq_false_iff_ne]; omega
      by_cases hin : s.1 ≤ off
      · have hin' : ¬ off < s.1 := by omega
        have hR : runAt l off = some s := by unfold runAt; rw [HAT.out]; simp only; rw [if_pos hin]
        have HRR := Lib.hid hR; clear hR hin
        go_wp2_with fail
        go_quiet (fail)
        go_wp2_with fail
        refine bodyPost_ret (v := .tuple #[.agg #[.int .i64 s.1, .int .i64 s.2], .bool true]) (by simp [results, Try.results30, go_sem, y0, y1, yf, yg]) rfl ?_
        rw [HRR.out]
        exact ⟨rfl, Below.setCell (Below.setCell (Below.drewN_ HB1.out _) (by simp) _) (by simp) _⟩
      · have hin' : off < s.1 := by omega
        have hR : runAt l off = none := by unfold runAt; rw [HAT.out]; simp only; rw [if_neg hin]
        have HRR := Lib.hid hR; clear hR hin
        go_wp2_with fail
        go_quiet (fail)
        go_wp2_with fail
        refine bodyPost_ret (v := .tuple #[.agg #[.int .i64 0, .int .i64 0], .bool false]) (by simp [results, Try.results30, go_sem, y0, y1, yf, yg]) rfl ?_
        rw [HRR.out]
        exact ⟨rfl, Below.setCell (Below.setCell (Below.drewN_ HB1.out _) (by simp) _) (by simp) _⟩
  · obtain rfl : k = l.length := by omega
    have hR : runAt l off = none := by unfold runAt; rw [hK.out, List.getElem?_eq_none (Nat.le_refl _)]
    have HRR := Lib.hid hR; clear hR
    go_wp2_with fail
    go_quiet (fail)
    go_wp2_with fail
    refine bodyPost_ret (v := .tuple #[.agg #[.int .i64 0, .int .i64 0], .bool false]) (by simp [results, Try.results30, go_sem, y0, y1, yf, yg]) rfl ?_
    rw [HRR.out]
    exact ⟨rfl, Below.setCell (Below.setCell (Below.drewN_ HB1.out _) (by simp) _) (by simp) _⟩
set_option maxRecDepth 100000 in
set_option maxHeartbeats 4000000 in
theorem run_nil (off : Int) (w : World) : Calls Try.prog 30 #[.pointer none, .int .i64 off] w fun e w' => e = .returned (runTup none) ∧ Below w.heap.size w w' := by
  have hu24 := Try.underlying24
  go_enter Try.func30, Try.ntmps30
  go_wp2_with fail
  go_at_call 52
  refine (first_nil 69 _ _).mono ?_
  rintro e w1 ⟨rfl, hb⟩
  have x0 := Below.cell' hb (p := ⟨w.heap.size, 0, none⟩) (v := (.int .i64 off)) (by go_simp); have xf := Below.frozen' hb (p := ⟨w.heap.size, 0, none⟩) (v := (.int .i64 off)) (by go_simp) (by go_simp); have y0 := Below.cell' hb (p := ⟨(w.heap.size + 1), 0, none⟩) (v := .int .i64 0) (by go_simp); have y1 := Below.cell' hb (p := ⟨(w.heap.size + 1), 1, none⟩) (v := .int .i64 0) (by go_simp); have yf := Below.frozen' hb (p := ⟨(w.heap.size + 1), 0, none⟩) (v := .int .i64 0) (by go_simp) (by go_simp); have yg := Below.frozen' hb (p := ⟨(w.heap.size + 1), 1, none⟩) (v := .int .i64 0) (by go_simp) (by go_simp); have hz := hb.size; (try simp only [World.size_alloc, World.size_setCell] at hz)
  have HB1 : Hid (Below w.heap.size w w1) := Below.then_ (by (repeat (with_reducible first | exact Below.refl _ _ | assumption | (refine Below.setCell ?_ (by first | (simp; done) | (simp; omega) | omega) _) | (refine Below.alloc ?_ (by first | (simp; done) | (simp; omega) | omega) _) | refine Below.drew ?_ | refine Below.drewN_ ?_ _ | (refine Below.then_ ?_ (by with_reducible assumption))))) hb
  clear hb
  go_wp2_with fail
  go_quiet (fail)
  go_wp2_with fail
  refine bodyPost_ret (v := .tuple #[.agg #[.int .i64 0, .int .i64 0], .bool false]) (by simp [results, Try.results30, go_sem, y0, y1, yf, yg]) rfl ?_
  exact ⟨rfl, Below.setCell (Below.setCell (Below.drewN_ HB1.out _) (by simp) _) (by simp) _⟩
theorem has_any {w : World} {b : Nat} {v : Value} {l : List Sp} (h : IsRuns w b v l) (hw : WF l) (hl : l.length ≤ 4611686018427387904) (off : Int) :
    Calls Try.prog 23 #[.pointer (some ⟨b, 0, none⟩), .int .i64 off] w fun e w' => e = .returned (.bool (runAt l off).isSome) ∧ Below w.heap.size w w' := by
  have H := Lib.hid h; clear h
  go_enter Try.func23, Try.ntmps23
  go_wp2_with fail
  go_at_call 30
  refine (run_any H.out hw hl off).mono ?_
  rintro e w1 ⟨rfl, hb⟩
  unfold runTup
  have HB := Lib.hid hb
  clear hb
  go_wp2_with fail
  go_ret
  exact ⟨rfl, Below.then_ HB.out (Below.one _ _)⟩
theorem has_nil (off : Int) (w : World) : Calls Try.prog 23 #[.pointer none, .int .i64 off] w fun e w' => e = .returned (.bool false) ∧ Below w.heap.size w w' := by
  go_enter Try.func23, Try.ntmps23
  go_wp2_with fail
  go_at_call 30
  refine (run_nil off _).mono ?_
  rintro e w1 ⟨rfl, hb⟩
  unfold runTup
  have HB := Lib.hid hb
  clear hb
  go_wp2_with fail
  go_ret
  exact ⟨rfl, Below.then_ HB.out (Below.one _ _)⟩
def clampOff (off : Int) : Int := min (max off 0) 4611686018427387904
def gapAt (l : List Sp) (off : Int) : Int := match runAt l (clampOff off) with | some y => y.2 | none => clampOff off
theorem gap_any {w : World} {b : Nat} {v : Value} {l : List Sp} (h : IsRuns w b v l) (hw : WF l) (hl : l.length ≤ 4611686018427387904) (off : Int) :
    Calls Try.prog 35 #[.pointer (some ⟨b, 0, none⟩), .int .i64 off] w fun e w' => e = .returned (.int .i64 (gapAt l off)) ∧ Below w.heap.size w w' := by
  have H := Lib.hid h; clear h
  have hu24 := Try.underlying24
  go_enter Try.func35, Try.ntmps35
  go_wp2_with fail
  go_at_call 30
  with_reducible refine (run_any H.out hw hl (min (max off 0) 4611686018427387904)).mono ?_
  rintro e w1 ⟨rfl, hb⟩
  have HB := Lib.hid hb
  clear hb
  rcases hr : runAt l (min (max off 0) 4611686018427387904) with _ | y
  · have hg : gapAt l off = clampOff off := by unfold gapAt clampOff; rw [hr]
    have HG := Lib.hid hg; clear hg hr
    simp only [runTup, Option.getD_none, Option.isSome_none]
    go_wp2_with fail
    go_ret
    rw [HG.out]
    exact ⟨rfl, Below.then_ HB.out (Below.one _ _)⟩
  · have hg : gapAt l off = y.2 := by unfold gapAt clampOff; rw [hr]
    have HG := Lib.hid hg; clear hg hr
    simp only [runTup, Option.getD_some, Option.isSome_some]
    go_wp2_with fail
    go_ret
    rw [HG.out]
    exact ⟨rfl, Below.then_ HB.out (Below.one _ _)⟩
theorem gap_nil (off : Int) (w : World) : Calls Try.prog 35 #[.pointer none, .int .i64 off] w fun e w' => e = .returned (.int .i64 (clampOff off)) ∧ Below w.heap.size w w' := by
  have hu24 := Try.underlying24
  go_enter Try.func35, Try.ntmps35
  go_wp2_with fail
  go_at_call 30
  with_reducible refine (run_nil (min (max off 0) 4611686018427387904) _).mono ?_
  rintro e w1 ⟨rfl, hb⟩
  have HB := Lib.hid hb
  clear hb
  simp only [runTup, Option.getD_none, Option.isSome_none]
  go_wp2_with fail
  go_ret
  exact ⟨rfl, Below.then_ HB.out (Below.one _ _)⟩
end Go.Proofs.Ytcifbcdjkofomaa
