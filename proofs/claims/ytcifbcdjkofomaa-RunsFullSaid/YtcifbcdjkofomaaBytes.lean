/-
  How many offsets a set of runs has. Conditions: the set is a row of spans of its own.
-/
import Derived.Test.YtcifbcdjkofomaaAll
namespace Go.Proofs.Ytcifbcdjkofomaa
open Go.RowKit Go.Shelf
set_option linter.unusedVariables false
set_option linter.unusedSimpArgs false

attribute [local go_sem] Oper.semAt_some run_min run_max run_field24_0 run_field24_1

set_option maxRecDepth 100000 in
set_option maxHeartbeats 4000000 in
theorem bytes_any {b : Nat} {v : Value} {l : List Sp} {w : World} (h : IsRuns w b v l) (hl : l.length ≤ 4611686018427387904) :
    Calls Try.prog 21 #[.pointer (some ⟨b, 0, none⟩)] w fun e w' => e = .returned (.int .i64 (sumW l)) ∧ Below w.heap.size w w' := by
  obtain ⟨n, hn⟩ : ∃ n : Nat, Hid (20 ≤ n) := ⟨20, Nat.le_refl _⟩
  refine (callsIn_wide (n := n)).1 ?_
  refine callsIn_of_wp_marks Try.func21 rfl trivial ?_ rfl
  simp only [Try.ntmps21, List.size_toArray, List.length_cons, List.length_nil, Nat.reduceAdd, Nat.reduceSub, Array.replicate_succ, Array.replicate_zero, List.push_toArray, List.append_toArray, List.nil_append, List.cons_append]
  gi_wp2_with fail
  refine ⟨trivial, (fun h => by cases h), ?_⟩; refine callsIn_wide.2 ((all_any (some ⟨b, 0, none⟩) _).mono ?_)
  rintro e w2 ⟨rfl, hw2⟩
  have hB1 : Below w.heap.size w (w.alloc (.cells #[.int .i64 0] 3)) := Below.one _ _
  have hS : AllOf w2 (w.heap.size + 1) b v l := by
    rw [hw2]
    refine ⟨(h.below hB1).below (Below.one _ _), ?_⟩
    have := World.alloc_heap_new (w.alloc (.cells #[.int .i64 0] 3)) (.cells #[.pointer (some ⟨b, 0, none⟩)] 26)
    rwa [World.size_alloc] at this
  have hB2 : Below w.heap.size w w2 := by rw [hw2]; (repeat (with_reducible first | exact Below.refl _ _ | assumption | (refine Below.setCell ?_ (by first | (simp; done) | (simp; omega) | omega) _) | (refine Below.alloc ?_ (by first | (simp; done) | (simp; omega) | omega) _) | refine Below.drew ?_ | refine Below.drewN_ ?_ _ | (refine Below.then_ ?_ (by with_reducible assumption))))
  have hz2 : w2.heap.size = w.heap.size + 2 := by rw [hw2]; simp
  have hbx : w2.cell? ⟨w.heap.size, 0, none⟩ = some (.int .i64 (sumW [])) ∧ w2.frozen? ⟨w.heap.size, 0, none⟩ = false := by rw [hw2]; exact ⟨by go_simp; rfl, by go_simp⟩
  clear hw2 hB1
  have hbl := h.lt
  have hvl : ∀ k, v.ownBlock = some k → k < w.heap.size := fun k e => h.row.lt e
  have HX := Lib.hid (And.intro hS (And.intro hB2 (And.intro hz2 (And.intro hbx (And.intro hbl hvl)))))
  clear hS hB2 hz2 hbx h hbl hvl
  gi_wp2_with fail
  obtain ⟨hS, hB2, hz2, hbx, hbl, hvl⟩ := HX.out
  refine wpIn_rangeFunc_ownH rfl (by have := hn.out; omega) (gf := 61) (lb := #[.pointer (some ⟨w.heap.size + 1, 0, none⟩)]) rfl trivial (enters_of Try.func61 (by kernel_rfl) rfl)
    (all1_stops (n - 1) (w.heap.size + 1) b v l hl w2 hS) (fun h k => KeepB.trans h k) (KeepB.put hS.lt) (Below.refl _ _) (fun _ => rfl)
    (fun pre W => (W.cell? ⟨w.heap.size, 0, none⟩ = some (.int .i64 (sumW pre)) ∧ W.frozen? ⟨w.heap.size, 0, none⟩ = false) ∧ Chg (fun k => k = w.heap.size) w2 W)
    (fun _ _ _ => False)
    (OwnFrom.and (Own.from (fun s A B row hs hg hr => ⟨cell_kept hs.1 hg hr, (frozen_kept hs.1 hg hr).trans hs.2⟩) _) (ownFrom_chg (Nat.le_refl _)))
    (fun _ _ _ _ _ hs _ _ => hs)
    ⟨hbx, Chg.refl _ _⟩
    (fun x a' W => ∃ Bx, w2.heap.size ≤ Bx ∧ W.heap[Bx]? = some (.cells #[.int .i64 x.1, .int .i64 x.2] 24 (0, 0)) ∧ a' = { tmps := #[.pointer (some ⟨b, 0, none⟩), undef, .int .i64 0, .pointer (some ⟨w.heap.size, 0, none⟩), .pointer (some ⟨Bx, 0, none⟩), .pointer (some ⟨b, 0, none⟩), .func (.func 61) #[] #[.pointer (some ⟨w.heap.size + 1, 0, none⟩)], .agg #[.int .i64 x.1, .int .i64 x.2], undef, undef, undef, undef, undef], defers := [] })
    ?hAx ?assign ?body ?done ?stop
  case hAx =>
    rintro x a' u A B row ⟨Bx, h1, h2, h3⟩ hg hr
    exact ⟨Bx, h1, own_at (β := Unit) Bx (fun _ => .cells #[.int .i64 x.1, .int .i64 x.2] 24 (0, 0)) (fun _ => rfl) () A B row h2 hg (fun r e => (hr r e).2), h3⟩
  case assign =>
    rintro lp pre x W K ⟨⟨hc, hf⟩, hch⟩ hK
    have HK := Lib.hid hK; clear hK
    simp only [spEnc]
    gi_wp2
    have hb : Below W.heap.size W (W.alloc (.cells #[.int .i64 x.1, .int .i64 x.2] 24)) := Below.one _ _
    exact HK.out _ _ (keepsFrom_below hb _) (KeepB.of_below hb (fun k hk => Nat.lt_of_lt_of_le (hS.lt k hk) hch.size)) ⟨⟨Below.cell' hb hc, Below.frozen' hb hc hf⟩, hch.trans (Chg.of_below (M := fun k => k = w.heap.size) hb) (fun _ _ h => h)⟩ ⟨W.heap.size, hch.size, World.alloc_heap_new W _, rfl⟩
  case body =>
    rintro lp pre x a' W hlp ⟨r, hr⟩ ⟨⟨hc, hf⟩, hch⟩ ⟨Bx, hBx, hX, rfl⟩ hlt
    have hx0 : W.cell? ⟨Bx, 0, none⟩ = some (.int .i64 x.1) := by rw [cell_of_at hX]; rfl
    have hx1 : W.cell? ⟨Bx, 1, none⟩ = some (.int .i64 x.2) := by rw [cell_of_at hX]; rfl
    have HC := Lib.hid (And.intro hch (And.intro hX hr))
    clear hch hX hr hbx
    gi_wp2_with fail
    gi_region_with (refine ⟨trivial, (fun h => by cases h), ?_⟩; refine CallsIn.inRound lp (callsIn_wide.2 ((len_any _ _ _).mono ?_)); rintro e w3 ⟨rfl, hb3⟩; have k0 := Below.cell' hb3 (p := ⟨w.heap.size, 0, none⟩) (v := (.int .i64 (sumW pre))) (by go_simp); have kf := Below.frozen' hb3 (p := ⟨w.heap.size, 0, none⟩) (v := (.int .i64 (sumW pre))) (by go_simp) (by go_simp))
    all_goals
      have hbW : Below W.heap.size W w3 := Below.then_ (by (repeat (with_reducible first | exact Below.refl _ _ | assumption | (refine Below.setCell ?_ (by first | (simp; done) | (simp; omega) | omega) _) | (refine Below.alloc ?_ (by first | (simp; done) | (simp; omega) | omega) _) | refine Below.drew ?_ | refine Below.drewN_ ?_ _ | (refine Below.then_ ?_ (by with_reducible assumption))))) hb3
      obtain ⟨hch, hX, hr⟩ := HC.out
      have hne : ∀ k, allK (w.heap.size + 1) b v k → k < W.heap.size ∧ k ≠ w.heap.size := by
        intro k hk
        refine ⟨Nat.lt_of_lt_of_le (hS.lt k hk) hch.size, ?_⟩
        rcases hk with rfl | rfl | e
        · omega
        · omega
        · have := hvl k e.symm; omega
      show KeepsFrom _ _ _ ∧ KeepB _ _ _ ∧ _
      rw [wrapEq, show spLen x.1 x.2 = lenOf x from rfl, ← sumW_snoc]
      refine ⟨(keepsFrom_below hbW _).trans (keepsFrom_setCell _ _ _ _), (KeepB.of_below hbW (fun k hk => (hne k hk).1)).trans (KeepB.of_chg (Chg.setCell (fun k => k = w.heap.size) _ rfl _) (fun k hk => ⟨Nat.lt_of_lt_of_le (hne k hk).1 hbW.size, (hne k hk).2⟩)), ⟨World.cell?_setCell_same' _ _ _ (by rw [k0]; rfl), by rw [World.frozen?_setCell]; exact kf⟩, ?_⟩
      exact (hch.trans (Chg.of_below (M := fun k => k = w.heap.size) hbW) (fun _ _ h => h)).trans (Chg.setCell (fun k => k = w.heap.size) _ rfl _) (fun _ _ h => h)
  case done =>
    rintro D ys W hD rfl ⟨⟨hc, hf⟩, hch⟩ hK
    gi_wp2
    refine ⟨by simp, .inl ⟨_, _, rfl, run_takeDeferred hK, ?_⟩⟩
    refine ⟨_, results_tmp rfl _ _ _, rfl, ?_⟩
    have h1 : Below w.heap.size w W := Chg.belowAt (w := w) (w' := W) ((Chg.of_below (M := fun k => w.heap.size ≤ k) hB2).trans hch (fun k _ h => by omega)) (Nat.le_refl _) (fun k hk h => by omega)
    exact h1.trans (belowK_b (w := w) (Nat.le_refl _) W D _ _ (by omega) hK rfl rfl)
  case stop =>
    rintro D c pre W _ _ h _
    exact h.elim

set_option maxRecDepth 100000 in
set_option maxHeartbeats 4000000 in
theorem bytes_nil (w : World) : Calls Try.prog 21 #[.pointer none] w fun e w' => e = .returned (.int .i64 0) ∧ Below w.heap.size w w' := by
  obtain ⟨n, hn⟩ : ∃ n : Nat, Hid (20 ≤ n) := ⟨20, Nat.le_refl _⟩
  refine (callsIn_wide (n := n)).1 ?_
  refine callsIn_of_wp_marks Try.func21 rfl trivial ?_ rfl
  simp only [Try.ntmps21, List.size_toArray, List.length_cons, List.length_nil, Nat.reduceAdd, Nat.reduceSub, Array.replicate_succ, Array.replicate_zero, List.push_toArray, List.append_toArray, List.nil_append, List.cons_append]
  gi_wp2_with fail
  refine ⟨trivial, (fun h => by cases h), ?_⟩; refine callsIn_wide.2 ((all_any none _).mono ?_)
  rintro e w2 ⟨rfl, hw2⟩
  have hS : w2.heap[w.heap.size + 1]? = some (.cells #[.pointer none] 26 (0, 0)) := by
    rw [hw2]
    have := World.alloc_heap_new (w.alloc (.cells #[.int .i64 0] 3)) (.cells #[.pointer none] 26)
    rwa [World.size_alloc] at this
  have hB2 : Below w.heap.size w w2 := by rw [hw2]; (repeat (with_reducible first | exact Below.refl _ _ | assumption | (refine Below.setCell ?_ (by first | (simp; done) | (simp; omega) | omega) _) | (refine Below.alloc ?_ (by first | (simp; done) | (simp; omega) | omega) _) | refine Below.drew ?_ | refine Below.drewN_ ?_ _ | (refine Below.then_ ?_ (by with_reducible assumption))))
  have hz2 : w2.heap.size = w.heap.size + 2 := by rw [hw2]; simp
  have hbx : w2.cell? ⟨w.heap.size, 0, none⟩ = some (.int .i64 0) ∧ w2.frozen? ⟨w.heap.size, 0, none⟩ = false := by rw [hw2]; exact ⟨by go_simp, by go_simp⟩
  clear hw2
  have HX := Lib.hid (And.intro hS (And.intro hB2 (And.intro hz2 hbx)))
  clear hS hB2 hz2 hbx
  gi_wp2_with fail
  obtain ⟨hS, hB2, hz2, hbx⟩ := HX.out
  refine wpIn_rangeFunc_ownH rfl (by have := hn.out; omega) (gf := 61) (lb := #[.pointer (some ⟨w.heap.size + 1, 0, none⟩)]) rfl trivial (enters_of Try.func61 (by kernel_rfl) rfl)
    (allNil_stops (n - 1) (w.heap.size + 1) w2 hS) (fun h k => KeepB.trans h k) (KeepB.put (fun k hk => by subst hk; omega)) (Below.refl _ _) (fun _ => rfl)
    (fun pre W => (W.cell? ⟨w.heap.size, 0, none⟩ = some (.int .i64 0) ∧ W.frozen? ⟨w.heap.size, 0, none⟩ = false) ∧ Chg (fun k => k = w.heap.size) w2 W)
    (fun _ _ _ => False)
    (OwnFrom.and (Own.from (fun s A B row hs hg hr => ⟨cell_kept hs.1 hg hr, (frozen_kept hs.1 hg hr).trans hs.2⟩) _) (ownFrom_chg (Nat.le_refl _)))
    (fun _ _ _ _ _ hs _ _ => hs)
    ⟨hbx, Chg.refl _ _⟩
    (fun x a' W => True)
    ?hAx ?assign ?body ?done ?stop
  case hAx => exact fun _ _ _ _ _ _ _ _ _ => trivial
  case assign =>
    rintro lp pre x W K ⟨⟨hc, hf⟩, hch⟩ hK
    have HK := Lib.hid hK; clear hK
    simp only [spEnc]
    gi_wp2
    have hb : Below W.heap.size W (W.alloc (.cells #[.int .i64 x.1, .int .i64 x.2] 24)) := Below.one _ _
    exact HK.out _ _ (keepsFrom_below hb _) (KeepB.of_below hb (fun k hk => by have := hch.size; subst hk; omega)) ⟨⟨Below.cell' hb hc, Below.frozen' hb hc hf⟩, hch.trans (Chg.of_below (M := fun k => k = w.heap.size) hb) (fun _ _ h => h)⟩ trivial
  case body =>
    rintro lp pre x a' W hlp hr hJ hA hlt
    exact absurd hlt (by simp)
  case done =>
    rintro D ys W hD rfl ⟨⟨hc, hf⟩, hch⟩ hK
    gi_wp2
    refine ⟨by simp, .inl ⟨_, _, rfl, run_takeDeferred hK, ?_⟩⟩
    refine ⟨_, results_tmp rfl _ _ _, rfl, ?_⟩
    have h1 : Below w.heap.size w W := Chg.belowAt (w := w) (w' := W) ((Chg.of_below (M := fun k => w.heap.size ≤ k) hB2).trans hch (fun k _ h => by omega)) (Nat.le_refl _) (fun k hk h => by omega)
    exact h1.trans (belowK_b (w := w) (Nat.le_refl _) W D _ _ (by omega) hK rfl rfl)
  case stop =>
    rintro D c pre W _ _ h _
    exact h.elim
end Go.Proofs.Ytcifbcdjkofomaa
