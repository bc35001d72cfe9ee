/-
  A set that is none. Conditions: none.
-/
import Derived.Test.YtcifbcdjkofomaaKnown
namespace Go.Proofs.Ytcifbcdjkofomaa
open Go.RowKit Go.Shelf
set_option linter.unusedVariables false
set_option linter.unusedSimpArgs false

attribute [local go_sem] Oper.semAt_some run_min run_max run_field24_0 run_field24_1

set_option maxRecDepth 100000 in
theorem remove_nil (s : Sp) (w : World) : Calls Try.prog 24 #[.pointer none, .agg #[.int .i64 s.1, .int .i64 s.2]] w fun e w' => e = .returned (.tuple #[.int .i64 0, .int .i64 1]) ∧ Below w.heap.size w w' := by
  go_enter Try.func24, Try.ntmps24
  go_wp2_with fail
  go_at_call 51
  refine (ask_nil s.1 s.2 _).mono ?_
  rintro e w1 ⟨rfl, hb⟩
  have x0 := Below.cell' hb (p := ⟨w.heap.size, 0, none⟩) (v := .int .i64 s.1) (by go_simp); have x1 := Below.cell' hb (p := ⟨w.heap.size, 1, none⟩) (v := .int .i64 s.2) (by go_simp); have xf := Below.frozen' hb (p := ⟨w.heap.size, 0, none⟩) (v := .int .i64 s.1) (by go_simp) (by go_simp); have xg := Below.frozen' hb (p := ⟨w.heap.size, 1, none⟩) (v := .int .i64 s.2) (by go_simp) (by go_simp); have hz := hb.size; (try simp only [World.size_alloc, World.size_setCell] at hz)
  have HB := Lib.hid hb; clear hb
  go_wp2_with fail
  refine bodyPost_ret (v := .tuple #[.int .i64 0, .int .i64 1]) (by simp [results, Try.results24, go_sem]) rfl ?_
  exact ⟨rfl, Below.then_ (Below.one _ _) HB.out⟩
set_option maxRecDepth 100000 in
set_option maxHeartbeats 4000000 in
theorem next_nil (off : Int) (w : World) : Calls Try.prog 31 #[.pointer none, .int .i64 off] w fun e w' => e = .returned (runTup none) ∧ Below w.heap.size w w' := by
  have hu24 := Try.underlying24
  go_enter Try.func31, Try.ntmps31
  go_wp2_with fail
  go_at_call 52
  refine (first_nil 70 _ _).mono ?_
  rintro e w1 ⟨rfl, hb⟩
  have x0 := Below.cell' hb (p := ⟨w.heap.size, 0, none⟩) (v := (.int .i64 off)) (by go_simp); have xf := Below.frozen' hb (p := ⟨w.heap.size, 0, none⟩) (v := (.int .i64 off)) (by go_simp) (by go_simp); have y0 := Below.cell' hb (p := ⟨(w.heap.size + 1), 0, none⟩) (v := .int .i64 0) (by go_simp); have y1 := Below.cell' hb (p := ⟨(w.heap.size + 1), 1, none⟩) (v := .int .i64 0) (by go_simp); have yf := Below.frozen' hb (p := ⟨(w.heap.size + 1), 0, none⟩) (v := .int .i64 0) (by go_simp) (by go_simp); have yg := Below.frozen' hb (p := ⟨(w.heap.size + 1), 1, none⟩) (v := .int .i64 0) (by go_simp) (by go_simp); have hz := hb.size; (try simp only [World.size_alloc, World.size_setCell] at hz)
  have HB1 : Hid (Below w.heap.size w w1) := Below.then_ (by (repeat (with_reducible first | exact Below.refl _ _ | assumption | (refine Below.setCell ?_ (by first | (simp; done) | (simp; omega) | omega) _) | (refine Below.alloc ?_ (by first | (simp; done) | (simp; omega) | omega) _) | refine Below.drew ?_ | refine Below.drewN_ ?_ _ | (refine Below.then_ ?_ (by with_reducible assumption))))) hb
  clear hb
  go_wp2_with fail
  refine bodyPost_ret (v := .tuple #[.agg #[.int .i64 0, .int .i64 0], .bool false]) (by simp [results, Try.results31, go_sem, y0, y1, yf, yg]) rfl ?_
  exact ⟨rfl, Below.setCell (Below.setCell HB1.out (by simp) _) (by simp) _⟩
theorem clone_nil (w : World) : Calls Try.prog 39 #[.pointer none] w fun e w' => e = .returned (.pointer none) ∧ w' = w := by
  go_enter Try.func39, Try.ntmps39
  go_wp2
  go_ret
  exact ⟨rfl, rfl⟩

set_option maxRecDepth 100000 in
set_option maxHeartbeats 4000000 in
theorem within_nil (s : Sp) (w : World) :
    Calls Try.prog 18 #[.pointer none, .agg #[.int .i64 s.1, .int .i64 s.2]] w fun e w' => e = .returned (.int .i64 0) ∧ Below w.heap.size w w' := by
  obtain ⟨n, hn⟩ : ∃ n : Nat, Hid (20 ≤ n) := ⟨20, Nat.le_refl _⟩
  refine (callsIn_wide (n := n)).1 ?_
  refine callsIn_of_wp_marks Try.func18 rfl trivial ?_ rfl
  simp only [Try.ntmps18, List.size_toArray, List.length_cons, List.length_nil, Nat.reduceAdd, Nat.reduceSub, Array.replicate_succ, Array.replicate_zero, List.push_toArray, List.append_toArray, List.nil_append, List.cons_append]
  gi_wp2_with fail
  refine ⟨trivial, (fun h => by cases h), ?_⟩; refine callsIn_wide.2 ((len_any _ _ _).mono ?_)
  rintro e w1 ⟨rfl, hb1⟩
  have x0 := Below.cell' hb1 (p := ⟨w.heap.size, 0, none⟩) (v := .int .i64 s.1) (by go_simp); have x1 := Below.cell' hb1 (p := ⟨w.heap.size, 1, none⟩) (v := .int .i64 s.2) (by go_simp); have xf := Below.frozen' hb1 (p := ⟨w.heap.size, 0, none⟩) (v := .int .i64 s.1) (by go_simp) (by go_simp); have xg := Below.frozen' hb1 (p := ⟨w.heap.size, 1, none⟩) (v := .int .i64 s.2) (by go_simp) (by go_simp); have y0 := Below.cell' hb1 (p := ⟨(w.heap.size + 1), 0, none⟩) (v := (.int .i64 0)) (by go_simp); have yf := Below.frozen' hb1 (p := ⟨(w.heap.size + 1), 0, none⟩) (v := (.int .i64 0)) (by go_simp) (by go_simp); have hz1 := hb1.size; (try simp only [World.size_alloc, World.size_setCell] at hz1)
  have HB1 : Hid (Below w.heap.size w w1) := Below.then_ (by (repeat (with_reducible first | exact Below.refl _ _ | assumption | (refine Below.setCell ?_ (by first | (simp; done) | (simp; omega) | omega) _) | (refine Below.alloc ?_ (by first | (simp; done) | (simp; omega) | omega) _) | refine Below.drew ?_ | refine Below.drewN_ ?_ _ | (refine Below.then_ ?_ (by with_reducible assumption))))) hb1
  by_cases h0 : spLen s.1 s.2 = 0
  · gi_wp2_with fail
    exact ⟨_, results_tmp rfl _ _ _, rfl, HB1.out⟩
  · gi_wp2_with fail
    refine ⟨trivial, (fun h => by cases h), ?_⟩; refine callsIn_wide.2 ((meets_any none s w1).mono ?_)
    rintro e w2 ⟨rfl, hw2⟩
    have hS : w2.heap[w1.heap.size]? = some (.cells #[.pointer none] 26 (0, 0)) := by
      rw [hw2]
      exact (Below.heap_alloc _ _ _ (by simp)).trans (World.alloc_heap_new w1 _)
    have hB2 : Below w1.heap.size w1 w2 := by rw [hw2]; (repeat (with_reducible first | exact Below.refl _ _ | assumption | (refine Below.setCell ?_ (by first | (simp; done) | (simp; omega) | omega) _) | (refine Below.alloc ?_ (by first | (simp; done) | (simp; omega) | omega) _) | refine Below.drew ?_ | refine Below.drewN_ ?_ _ | (refine Below.then_ ?_ (by with_reducible assumption))))
    have hz2 : w2.heap.size = w1.heap.size + 2 := by rw [hw2]; simp
    clear hw2
    have hbx : w2.cell? ⟨w.heap.size + 1, 0, none⟩ = some (.int .i64 0) ∧ w2.frozen? ⟨w.heap.size + 1, 0, none⟩ = false := ⟨Below.cell' hB2 y0, Below.frozen' hB2 y0 yf⟩
    have HX := Lib.hid (And.intro hS (And.intro hB2 (And.intro hz2 hbx)))
    clear hS hB2 hz2 hbx x0 x1 xf xg y0 yf hb1
    gi_wp2_with fail
    obtain ⟨hS, hB2, hz2, hbx⟩ := HX.out
    refine wpIn_rangeFunc_ownH rfl (by have := hn.out; omega) (gf := 90) (lb := #[.pointer (some ⟨w1.heap.size, 0, none⟩), .pointer (some ⟨w1.heap.size + 1, 0, none⟩)]) rfl trivial (enters_of Try.func90 (by kernel_rfl) rfl)
      (meetsNil_stops (n - 1) w1.heap.size (w1.heap.size + 1) w2 hS) (fun h k => KeepB.trans h k) (KeepB.put (fun k hk => by subst hk; omega)) (Below.refl _ _) (fun _ => rfl)
      (fun pre W => (W.cell? ⟨w.heap.size + 1, 0, none⟩ = some (.int .i64 0) ∧ W.frozen? ⟨w.heap.size + 1, 0, none⟩ = false) ∧ Chg (fun k => k = w.heap.size + 1) w2 W)
      (fun _ _ _ => False)
      (OwnFrom.and (Own.from (fun s A B row hs hg hr => ⟨cell_kept hs.1 hg hr, (frozen_kept hs.1 hg hr).trans hs.2⟩) _) (ownFrom_chg (Nat.le_refl _)))
      (fun _ _ _ _ _ hs _ _ => hs)
      ⟨hbx, Chg.refl _ _⟩
      (fun x a' W => True)
      ?hAx ?assign ?body ?done ?stop
    case hAx => exact fun _ _ _ _ _ _ _ _ _ => trivial
    case assign =>
      rintro lp pre x W K ⟨⟨hc, hf⟩, hch⟩ hK
      have HK := Lib.hid hK; clear hK
      simp only [spEnc]
      gi_wp2
      have hb : Below W.heap.size W (W.alloc (.cells #[.int .i64 x.1, .int .i64 x.2] 24)) := Below.one _ _
      exact HK.out _ _ (keepsFrom_below hb _) (KeepB.of_below hb (fun k hk => by have := hch.size; subst hk; omega)) ⟨⟨Below.cell' hb hc, Below.frozen' hb hc hf⟩, hch.trans (Chg.of_below (M := fun k => k = w.heap.size + 1) hb) (fun _ _ h => h)⟩ trivial
    case body =>
      rintro lp pre x a' W hlp hr hJ hA hlt
      exact absurd hlt (by simp)
    case done =>
      rintro D ys W hD rfl ⟨⟨hc, hf⟩, hch⟩ hK
      gi_wp2
      refine ⟨by simp, .inl ⟨_, _, rfl, run_takeDeferred hK, ?_⟩⟩
      refine ⟨_, results_tmp rfl _ _ _, rfl, ?_⟩
      have h1 : Below w.heap.size w W := Chg.belowAt (w := w) (w' := W) ((Chg.of_belowAt (M := fun k => w.heap.size ≤ k) (HB1.out) (fun k _ h => h)).trans ((Chg.of_below (M := fun k => w.heap.size ≤ k) hB2).trans hch (fun k _ h => by omega)) (fun k _ h => h)) (Nat.le_refl _) (fun k hk h => by omega)
      exact h1.trans (belowK_b (w := w) (Nat.le_refl _) W D _ _ (by have := HB1.out.size; omega) hK rfl rfl)
    case stop =>
      rintro D c pre W _ _ h _
      exact h.elim

end Go.Proofs.Ytcifbcdjkofomaa
