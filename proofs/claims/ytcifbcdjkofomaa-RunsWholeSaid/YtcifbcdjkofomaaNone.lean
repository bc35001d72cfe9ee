/-
  RunsNone: a set that is none. Conditions: none.
-/
import Derived.Test.YtcifbcdjkofomaaSame
import Derived.Test.YtcifbcdjkofomaaNil
namespace Go.Proofs.Ytcifbcdjkofomaa
open Go.RowKit Go.Shelf
set_option linter.unusedVariables false
set_option linter.unusedSimpArgs false

attribute [local go_sem] Oper.semAt_some run_min run_max run_field24_0 run_field24_1

set_option maxRecDepth 100000 in
theorem refrun_nil (off : Int) (w : World) : Calls Try.prog 32 #[.slice none 0 0, .int .i64 off] w fun e w' => e = .returned (.agg #[.int .i64 0, .int .i64 0]) ∧ Below w.heap.size w w' := by
  have hu24 := Try.underlying24
  go_enter Try.func32, Try.ntmps32
  go_wp2_with fail
  go_loopw [5] (fun i wr => i = .int .i64 0 ∧ wr = w.alloc (.cells #[.int .i64 0, .int .i64 0] 24)) (fun i _ => 0)
  case atStart => exact ⟨rfl, rfl⟩
  case round =>
    obtain ⟨rfl, rfl⟩ := hrel
    go_wp2_with fail
    have r0 : (w.alloc (.cells #[.int .i64 0, .int .i64 0] 24)).cell? ⟨w.heap.size, 0, none⟩ = some (.int .i64 0) := by go_simp
    refine bodyPost_ret (v := .agg #[.int .i64 0, .int .i64 0]) (by simp [results, Try.results32, go_sem]) rfl ⟨rfl, ?_⟩
    (repeat (with_reducible first | exact Below.refl _ _ | assumption | (refine Below.setCell ?_ (by first | (simp; done) | (simp; omega) | omega) _) | (refine Below.alloc ?_ (by first | (simp; done) | (simp; omega) | omega) _) | refine Below.drew ?_ | refine Below.drewN_ ?_ _ | (refine Below.then_ ?_ (by with_reducible assumption))))
set_option maxRecDepth 100000 in
theorem refgap_nil (off : Int) (w : World) : Calls Try.prog 36 #[.slice none 0 0, .int .i64 off] w fun e w' => e = .returned (.int .i64 (clampOff off)) ∧ Below w.heap.size w w' := by
  have hu24 := Try.underlying24
  go_enter Try.func36, Try.ntmps36
  go_wp2_with fail
  go_at_call 32
  with_reducible refine (refrun_nil (min (max off 0) 4611686018427387904) _).mono ?_
  rintro e w1 ⟨rfl, hb⟩
  have HB := Lib.hid hb; clear hb
  go_wp2_with fail
  go_at_call 17
  refine (rlen_any 0 0 _).mono ?_
  rw [show spLen 0 0 = 0 by decide]
  rintro e w2 ⟨rfl, hb2⟩
  have HB2 := Lib.hid hb2; clear hb2
  go_wp2_with fail
  go_ret
  exact ⟨rfl, Below.then_ (Below.then_ HB.out (Below.one _ _)) HB2.out⟩

theorem SetP.none_ (w : World) : SetP w none [] := Or.inl ⟨rfl, rfl⟩
theorem SetP.of_ {w : World} {b : Nat} {v : Value} {l : List Sp} (h : IsRuns w b v l) : SetP w (some ⟨b, 0, none⟩) l := Or.inr ⟨b, v, rfl, h⟩
theorem lenOf_le (x : Sp) : lenOf x ≤ 4611686018427387904 := by
  unfold lenOf spLen pln
  split
  · rename_i h; simp [mayB] at h; simp only; omega
  · simp
theorem gaps_sum (s : Sp) : sumW (gapsOf s []) = spLen s.1 s.2 := by
  unfold gapsOf
  by_cases h : spLen s.1 s.2 = 0
  · rw [if_pos h, h]; rfl
  · have hlt : s.1 < s.2 := by
      unfold spLen pln at h
      by_cases hc : s.1 < s.2
      · exact hc
      · exfalso; apply h; split
        · rename_i hh; simp only; simp [mayB] at hh; omega
        · rfl
    rw [if_neg h]
    show sumW ([] ++ (if s.1 < s.2 then [(s.1, s.2)] else [])) = _
    rw [if_pos hlt, List.nil_append, sumW_eq _ (by have := lenOf_le s; rw [sumLen_cons]; simp [sumLen]; exact this), sumLen_cons]
    simp [sumLen, lenOf]
/-- The sum of a loop over spans. -/
def SumI (bx : Nat) (s : Sp) (w : World) : Inv := fun pre O A => A.heap[bx]? = some (.cells #[.int .i64 (sumW pre)] 3 (0, 0)) ∧ (∀ k, ¬ O k) ∧ Below w.heap.size w A ∧
  A.cell? ⟨w.heap.size, 0, none⟩ = some (.int .i64 s.1) ∧ A.cell? ⟨w.heap.size, 1, none⟩ = some (.int .i64 s.2)

/-- The frame of a round: the loop's variable boxed into a slot. -/
def frAt (a : Act) (ps : Array Tmp) (slot : Nat) (x : Sp) (Bx : Nat) : Act :=
  { tmps := ((ps.zip (spEnc x)).foldl (fun t (p, v) => t.setIfInBounds p v) a.tmps).setIfInBounds slot (.pointer (some ⟨Bx, 0, none⟩)), defers := [] }
theorem range_at (slot : Nat) {g : Operand} {ps : Array Tmp} {assign body : Code} {Q : Exit → Act → World → Prop} {a : Act} {w : World} {n : Nat}
    (hn : 1 ≤ n) {gf : Nat} {lb : Array Value} (hg : a.eval g = .func (.func gf) #[] lb) (eg : ∀ args w, (callFunc gf args).run Try.prog w = .ok (.enter gf args) w)
    {K : Nat → Prop} {L : List Sp} {w0 : World} (hseq : Gives (n - 1) gf lb K L w0) (hb0 : Below w0.heap.size w0 w) (hps : ps.size = 1) (hK : ∀ k, K k → k < w.heap.size)
    (I : Inv) (Ix : Code → Inv) (hI : Calm w.heap.size I) (hIx : ∀ c, Calm w.heap.size (Ix c)) (hO : ∀ pre O A, I pre O A → ∀ k, O k → k < A.heap.size) (O0 : Nat → Prop) (hO0 : ∀ k, O0 k → k < w.heap.size) (h0 : I [] O0 w)
    (hassign : ∀ (l : Nat) (x : Sp) (W : World) (P : Act → World → Prop), P (frAt a ps slot x W.heap.size) (W.alloc (.cells #[.int .i64 x.1, .int .i64 x.2] 24)) →
      assign.wpIn (Fence.wide.inRound l) (n - 1 - 1) Try.prog (Exit.then P (fun _ _ _ => False)) { tmps := (ps.zip (spEnc x)).foldl (fun t (p, v) => t.setIfInBounds p v) a.tmps, defers := [] } W)
    (hbody : ∀ (l : Nat) (pre : List Sp) (O : Nat → Prop) (x : Sp) (Bx : Nat) (W : World), w.heap.size ≤ l → (∃ r, W.heap[l]? = some (.loop r)) → I pre O W → w.heap.size ≤ Bx → ¬ O Bx → W.heap[Bx]? = some (.cells #[.int .i64 x.1, .int .i64 x.2] 24 (0, 0)) →
      (∀ k, O k → k < w.heap.size ∨ w.heap.size + 2 ≤ k) → (pre ++ [x]) <+: L →
      body.wpIn (Fence.wide.inRound l) (n - 1 - 1) Try.prog (BodyEnds K w.heap.size I Ix (pre ++ [x]) O W) (frAt a ps slot x Bx) W)
    (hdone : ∀ (D : Nat) (O : Nat → Prop) (W : World), w.heap.size ≤ D → I L O W → ¬ O D → W.heap[D]? = some (.deferred (some [])) → Q .normal { a with defers := { target := .collected D, args := #[] } :: a.defers } W)
    (hstop : ∀ (D : Nat) (c : Code) (pre : List Sp) (O : Nat → Prop) (W : World), w.heap.size ≤ D → pre <+: L → Ix c pre O W → ¬ O D → W.heap[D]? = some (.deferred (some [])) → c.wpIn Fence.wide n Try.prog Q { a with defers := { target := .collected D, args := #[] } :: a.defers } W) :
    (Code.rangeFunc g ps assign body).wpIn Fence.wide n Try.prog Q a w :=
  range_gives hn hg eg hseq hb0 hps hK I Ix hI hIx hO O0 hO0 h0 (frAt a ps slot) hassign hbody hdone hstop
theorem SumI.calm {w : World} {s : Sp} {bx B : Nat} (hb : bx < B) (hw : w.heap.size < B) : Calm B (SumI bx s w) := by
  rintro pre O A A' M ⟨h1, h2, h3, h4, h5⟩ hc hM
  have hn : ¬ M w.heap.size := fun hm => by have := (hM w.heap.size (show w.heap.size < A.heap.size from World.block_lt_of_cell? A _ h4) hm).1; omega
  exact ⟨hc.at_ h1 (fun hm => by have := (hM _ (lt_of_at' h1) hm).1; omega), h2, h3.trans (hc.belowAt h3.size (fun k hk hm => by have := (hM k (by have := h3.size; omega) hm).1; omega)), hc.cell h4 hn, hc.cell h5 hn⟩

set_option maxRecDepth 100000 in
set_option maxHeartbeats 8000000 in
theorem runsNone_walk (s : Sp) (off : Int) (w : World) : Calls Try.prog 8 #[.agg #[.int .i64 s.1, .int .i64 s.2], .int .i64 off] w fun e w' => e = .returned (.bool true) ∧ Below w.heap.size w w' := by
  obtain ⟨n, hn⟩ : ∃ n : Nat, Hid (20 ≤ n) := ⟨20, Nat.le_refl _⟩
  refine (callsIn_wide (n := n)).1 ?_
  refine callsIn_of_wp_marks Try.func8 rfl trivial ?_ rfl
  simp only [Try.ntmps8, List.size_toArray, List.length_cons, List.length_nil, Nat.reduceAdd, Nat.reduceSub, Array.replicate_succ, Array.replicate_zero, List.push_toArray, List.append_toArray, List.nil_append, List.cons_append]
  gi_wp2_with fail
  refine ⟨trivial, (fun h => by cases h), ?_⟩; refine callsIn_wide.2 ((known_any _).mono ?_)
  rintro e w1 ⟨rfl, hb⟩
  have a0 := Below.cell' hb (p := ⟨w.heap.size, 0, none⟩) (v := .int .i64 s.1) (by go_simp); have a1 := Below.cell' hb (p := ⟨w.heap.size, 1, none⟩) (v := .int .i64 s.2) (by go_simp); have af := Below.frozen' hb (p := ⟨w.heap.size, 0, none⟩) (v := .int .i64 s.1) (by go_simp) (by go_simp); have ag := Below.frozen' hb (p := ⟨w.heap.size, 1, none⟩) (v := .int .i64 s.2) (by go_simp) (by go_simp); have hz := hb.size; (try simp only [World.size_alloc, World.size_setCell] at hz)
  have H1 : Hid (Below w.heap.size w w1) := Below.then_ (by (repeat (with_reducible first | exact Below.refl _ _ | assumption | (refine Below.setCell ?_ (by first | (simp; done) | (simp; omega) | omega) _) | (refine Below.alloc ?_ (by first | (simp; done) | (simp; omega) | omega) _) | refine Below.drew ?_ | refine Below.drewN_ ?_ _ | (refine Below.then_ ?_ (by with_reducible assumption))))) hb
  clear hb
  gi_wp2_with fail
  refine ⟨trivial, (fun h => by cases h), ?_⟩; refine callsIn_wide.2 ((add_nil s _).mono ?_)
  rintro e w2 ⟨rfl, hb⟩
  have b0 := Below.cell' hb (p := ⟨w.heap.size, 0, none⟩) (v := .int .i64 s.1) (by go_simp); have b1 := Below.cell' hb (p := ⟨w.heap.size, 1, none⟩) (v := .int .i64 s.2) (by go_simp); have bf := Below.frozen' hb (p := ⟨w.heap.size, 0, none⟩) (v := .int .i64 s.1) (by go_simp) (by go_simp); have bg := Below.frozen' hb (p := ⟨w.heap.size, 1, none⟩) (v := .int .i64 s.2) (by go_simp) (by go_simp); have hz2 := hb.size; (try simp only [World.size_alloc, World.size_setCell] at hz2)
  have H2 : Hid (Below w.heap.size w w2) := Below.then_ H1.out hb
  clear hb a0 a1 af ag
  gi_wp2_with fail
  refine ⟨trivial, (fun h => by cases h), ?_⟩; refine callsIn_wide.2 ((remove_nil s _).mono ?_)
  rintro e w3 ⟨rfl, hb⟩
  have a0 := Below.cell' hb (p := ⟨w.heap.size, 0, none⟩) (v := .int .i64 s.1) (by go_simp); have a1 := Below.cell' hb (p := ⟨w.heap.size, 1, none⟩) (v := .int .i64 s.2) (by go_simp); have af := Below.frozen' hb (p := ⟨w.heap.size, 0, none⟩) (v := .int .i64 s.1) (by go_simp) (by go_simp); have ag := Below.frozen' hb (p := ⟨w.heap.size, 1, none⟩) (v := .int .i64 s.2) (by go_simp) (by go_simp); have hz3 := hb.size; (try simp only [World.size_alloc, World.size_setCell] at hz3)
  have H3 : Hid (Below w.heap.size w w3) := Below.then_ H2.out hb
  clear hb b0 b1 bf bg
  gi_wp2_with fail
  refine ⟨trivial, (fun h => by cases h), ?_⟩; refine callsIn_wide.2 ((run_nil off _).mono ?_)
  rintro e w4 ⟨rfl, hb⟩
  simp only [runTup, Option.getD_none, Option.isSome_none]
  have b0 := Below.cell' hb (p := ⟨w.heap.size, 0, none⟩) (v := .int .i64 s.1) (by go_simp); have b1 := Below.cell' hb (p := ⟨w.heap.size, 1, none⟩) (v := .int .i64 s.2) (by go_simp); have bf := Below.frozen' hb (p := ⟨w.heap.size, 0, none⟩) (v := .int .i64 s.1) (by go_simp) (by go_simp); have bg := Below.frozen' hb (p := ⟨w.heap.size, 1, none⟩) (v := .int .i64 s.2) (by go_simp) (by go_simp); have hz4 := hb.size; (try simp only [World.size_alloc, World.size_setCell] at hz4)
  have H4 : Hid (Below w.heap.size w w4) := Below.then_ H3.out hb
  clear hb a0 a1 af ag
  have hq4 : w.heap.size < w4.heap.size := World.block_lt_of_cell? w4 _ b0
  gi_wp2_with fail
  refine ⟨trivial, (fun h => by cases h), ?_⟩; refine callsIn_wide.2 ((next_nil off _).mono ?_)
  rintro e w5 ⟨rfl, hb⟩
  simp only [runTup, Option.getD_none, Option.isSome_none]
  have a0 := Below.cell' hb (p := ⟨w.heap.size, 0, none⟩) (v := .int .i64 s.1) (by go_simp); have a1 := Below.cell' hb (p := ⟨w.heap.size, 1, none⟩) (v := .int .i64 s.2) (by go_simp); have af := Below.frozen' hb (p := ⟨w.heap.size, 0, none⟩) (v := .int .i64 s.1) (by go_simp) (by go_simp); have ag := Below.frozen' hb (p := ⟨w.heap.size, 1, none⟩) (v := .int .i64 s.2) (by go_simp) (by go_simp); have hz5 := hb.size; (try simp only [World.size_alloc, World.size_setCell] at hz5)
  have H5 : Hid (Below w.heap.size w w5) := Below.then_ H4.out (Below.then_ (by (repeat (with_reducible first | exact Below.refl _ _ | assumption | (refine Below.setCell ?_ (by first | (simp; done) | (simp; omega) | omega) _) | (refine Below.alloc ?_ (by first | (simp; done) | (simp; omega) | omega) _) | refine Below.drew ?_ | refine Below.drewN_ ?_ _ | (refine Below.then_ ?_ (by with_reducible assumption))))) hb)
  clear hb b0 b1 bf bg
  have hq5 : w.heap.size < w5.heap.size := World.block_lt_of_cell? w5 _ a0
  gi_wp2_with fail
  refine ⟨trivial, (fun h => by cases h), ?_⟩; refine callsIn_wide.2 ((gaps_any none s _).mono ?_)
  rintro e w6 ⟨rfl, hw6⟩
  have hS : w6.heap[w5.heap.size + 2]? = some (.cells #[.pointer none] 26 (0, 0)) := by
    rw [hw6]
    have := World.alloc_heap_new ((w5.alloc (.cells #[.int .i64 0, .int .i64 0] 24)).alloc (.cells #[.int .i64 0] 3)) (.cells #[.pointer none] 26)
    rw [World.size_alloc, World.size_alloc] at this
    exact (Below.heap_alloc _ _ _ (by simp)).trans this
  have hT : w6.heap[w5.heap.size + 3]? = some (.cells #[.int .i64 s.1, .int .i64 s.2] 24 (0, 0)) := by
    rw [hw6]
    have := World.alloc_heap_new (((w5.alloc (.cells #[.int .i64 0, .int .i64 0] 24)).alloc (.cells #[.int .i64 0] 3)).alloc (.cells #[.pointer none] 26)) (.cells #[.int .i64 s.1, .int .i64 s.2] 24)
    rwa [World.size_alloc, World.size_alloc, World.size_alloc] at this
  have hq : w6.heap[w5.heap.size + 1]? = some (.cells #[.int .i64 (sumW [])] 3 (0, 0)) := by
    rw [hw6]
    have := World.alloc_heap_new (w5.alloc (.cells #[.int .i64 0, .int .i64 0] 24)) (.cells #[.int .i64 0] 3)
    rw [World.size_alloc] at this
    exact (Below.heap_alloc _ _ _ (by simp)).trans ((Below.heap_alloc _ _ _ (by simp)).trans this)
  have hB6 : Below w5.heap.size w5 w6 := by rw [hw6]; (repeat (with_reducible first | exact Below.refl _ _ | assumption | (refine Below.setCell ?_ (by first | (simp; done) | (simp; omega) | omega) _) | (refine Below.alloc ?_ (by first | (simp; done) | (simp; omega) | omega) _) | refine Below.drew ?_ | refine Below.drewN_ ?_ _ | (refine Below.then_ ?_ (by with_reducible assumption))))
  have hz6 : w6.heap.size = w5.heap.size + 4 := by rw [hw6]; simp
  clear hw6
  simp only [World.size_alloc]
  have b0 := Below.cell' hB6 (p := ⟨w.heap.size, 0, none⟩) (v := .int .i64 s.1) (by go_simp); have b1 := Below.cell' hB6 (p := ⟨w.heap.size, 1, none⟩) (v := .int .i64 s.2) (by go_simp); have bf := Below.frozen' hB6 (p := ⟨w.heap.size, 0, none⟩) (v := .int .i64 s.1) (by go_simp) (by go_simp); have bg := Below.frozen' hB6 (p := ⟨w.heap.size, 1, none⟩) (v := .int .i64 s.2) (by go_simp) (by go_simp)
  have HX := Lib.hid (And.intro hS (And.intro hT (And.intro hq (And.intro hB6 (And.intro hz6 (And.intro b0 b1))))))
  clear hS hT hq hB6 hz6 a0 a1 af ag b0 b1 bf bg
  gi_wp2_with fail
  obtain ⟨hS, hT, hq, hB6, hz6, b0, b1⟩ := HX.out
  have hBw : Below w.heap.size w w6 := Below.then_ H5.out hB6
  refine range_at 15 (by have := hn.out; omega) (gf := 58) (lb := #[.pointer (some ⟨w5.heap.size + 3, 0, none⟩), .pointer (some ⟨w5.heap.size + 2, 0, none⟩)]) rfl (enters_of Try.func58 (by kernel_rfl) rfl)
    (gapsNil_gives (n - 1) _ _ (show 5 ≤ n - 1 by have := hn.out; omega) s (fun k => k = w5.heap.size + 3) rfl w6 (fun k h => by omega) hS hT) (Below.refl _ _) rfl (fun k h => by omega)
    (SumI (w5.heap.size + 1) s w) (fun c pre O A => False) (SumI.calm (by omega) (by omega)) (fun c pre O A A' M h _ _ => h.elim) (fun pre O A h k hk => absurd hk (h.2.1 k)) (fun _ => False) (fun k h => h.elim) ⟨hq, fun k h => h, hBw, b0, b1⟩
    ?assign ?body ?done ?stop
  case assign =>
    rintro l x V P hP
    simp only [frAt, spEnc, List.zip_toArray, List.zip_cons_cons, List.zip_nil_right, List.zip_nil_left, List.foldl_toArray', List.foldl_toArray, List.foldl_cons, List.foldl_nil, List.setIfInBounds_toArray, List.set_cons_succ, List.set_cons_zero] at hP
    have HP := Lib.hid hP; clear hP
    simp only [spEnc]
    gi_wp2
    exact HP.out
  case body =>
    rintro l pre O x Bx V hlp hr ⟨h1, h2, h3, h4, h5⟩ hBx hOB hX hbo hpre
    simp only [frAt, spEnc, List.zip_toArray, List.zip_cons_cons, List.zip_nil_right, List.zip_nil_left, List.foldl_toArray', List.foldl_toArray, List.foldl_cons, List.foldl_nil, List.setIfInBounds_toArray, List.set_cons_succ, List.set_cons_zero]
    have d0 : V.cell? ⟨w5.heap.size + 1, 0, none⟩ = some (.int .i64 (sumW pre)) := by rw [cell_of_at h1]; rfl
    have df : V.frozen? ⟨w5.heap.size + 1, 0, none⟩ = false := frozen_of_at h1 0
    have d2 : V.cell? ⟨Bx, 0, none⟩ = some (.int .i64 x.1) := by rw [cell_of_at hX]; rfl
    have d3 : V.cell? ⟨Bx, 1, none⟩ = some (.int .i64 x.2) := by rw [cell_of_at hX]; rfl
    have HV := Lib.hid (And.intro h1 (And.intro h2 (And.intro h3 (And.intro h4 h5))))
    clear h1 h2 h3 h4 h5 hX hr hbo hpre hS hT hq hB6 b0 b1 hBw
    gi_wp2_with fail
    gi_region_with (refine ⟨trivial, (fun h => by cases h), ?_⟩; refine CallsIn.inRound l (callsIn_wide.2 ((rlen_any _ _ _).mono ?_)); rintro e V3 ⟨rfl, hb3⟩; have k0 := Below.cell' hb3 (p := ⟨(w5.heap.size + 1), 0, none⟩) (v := (.int .i64 (sumW pre))) (by go_simp); have kf := Below.frozen' hb3 (p := ⟨(w5.heap.size + 1), 0, none⟩) (v := (.int .i64 (sumW pre))) (by go_simp) (by go_simp))
    all_goals
      have hbV : Below V.heap.size V V3 := Below.then_ (by (repeat (with_reducible first | exact Below.refl _ _ | assumption | (refine Below.setCell ?_ (by first | (simp; done) | (simp; omega) | omega) _) | (refine Below.alloc ?_ (by first | (simp; done) | (simp; omega) | omega) _) | refine Below.drew ?_ | refine Below.drewN_ ?_ _ | (refine Below.then_ ?_ (by with_reducible assumption))))) hb3
      obtain ⟨h1, h2, h3, h4, h5⟩ := HV.out
      have e1 := Below.at' hbV h1
      have hz5w := H5.out.size
      refine ⟨O, fun k h => .inl h, ⟨by simp; exact hbV.size, fun b o hb ho => ?_⟩, ?_, h2, ?_, ?_, ?_⟩
      · have hbn : b ≠ w5.heap.size + 1 := by
          rcases hb with h | h
          · have h : b = w5.heap.size + 3 := h
            omega
          · have := h.1; omega
        rw [heap_setCell_other _ _ _ _ hbn]
        exact Below.at' hbV ho
      · rw [wrapEq, show spLen x.1 x.2 = lenOf x from rfl, ← sumW_snoc]
        exact (heap_setCell_same V3 (w5.heap.size + 1) 0 _ _ _ e1).trans rfl
      · exact (h3.trans (hbV.mono h3.size)).trans (Chg.belowAt (Chg.setCell (fun k => k = w5.heap.size + 1) V3 (p := ⟨w5.heap.size + 1, 0, none⟩) rfl _) (Nat.le_trans h3.size hbV.size) (fun k hk e => by omega))
      · exact Chg.cell (Chg.setCell (fun k => k = w5.heap.size + 1) V3 (p := ⟨w5.heap.size + 1, 0, none⟩) rfl _) (Below.cell' hbV h4) (fun e => by have e : w.heap.size = w5.heap.size + 1 := e; omega)
      · exact Chg.cell (Chg.setCell (fun k => k = w5.heap.size + 1) V3 (p := ⟨w5.heap.size + 1, 0, none⟩) rfl _) (Below.cell' hbV h5) (fun e => by have e : w.heap.size = w5.heap.size + 1 := e; omega)
  case done =>
    rintro D O V hD ⟨h1, h2, h3, h4, h5⟩ hOD hDV
    rw [gaps_sum] at h1
    have d0 : V.cell? ⟨w5.heap.size + 1, 0, none⟩ = some (.int .i64 (spLen s.1 s.2)) := by rw [cell_of_at h1]; rfl
    have HV := Lib.hid (And.intro h3 (And.intro hDV hD)); clear h1 h2 h3 hOD hDV hD hS hT hq hB6 b0 b1 hBw
    gi_wp2_with fail
    simp only [List.append_eq, List.cons_append, List.nil_append]
    refine wpIn_wide.2 ?_
    go_region_held3 (fun w' => w'.cell? ⟨w.heap.size, 0, none⟩ = some (.int .i64 s.1) ∧ w'.cell? ⟨w.heap.size, 1, none⟩ = some (.int .i64 s.2) ∧ w'.cell? ⟨w5.heap.size + 1, 0, none⟩ = some (.int .i64 (spLen s.1 s.2))) (go_keep) (first
      | (go_at_call 23; with_reducible refine (has_nil off _).mono ?_; rintro e V1 ⟨rfl, hv1⟩; dsimp only; have u0 := Below.cell' hv1 (p := ⟨w.heap.size, 0, none⟩) (v := .int .i64 s.1) (by first | (go_simp; done) | fail "no"); have u1 := Below.cell' hv1 (p := ⟨w.heap.size, 1, none⟩) (v := .int .i64 s.2) (by first | (go_simp; done) | fail "no"); have u2 := Below.cell' hv1 (p := ⟨w5.heap.size + 1, 0, none⟩) (v := .int .i64 (spLen s.1 s.2)) (by first | (go_simp; done) | fail "no"))
      | (go_at_call 22; with_reducible refine (rlen_nil _).mono ?_; rintro e V1 ⟨rfl, rfl⟩; dsimp only)
      | (go_at_call 21; with_reducible refine (bytes_nil _).mono ?_; rintro e V1 ⟨rfl, hv1⟩; dsimp only; have u0 := Below.cell' hv1 (p := ⟨w.heap.size, 0, none⟩) (v := .int .i64 s.1) (by first | (go_simp; done) | fail "no"); have u1 := Below.cell' hv1 (p := ⟨w.heap.size, 1, none⟩) (v := .int .i64 s.2) (by first | (go_simp; done) | fail "no"); have u2 := Below.cell' hv1 (p := ⟨w5.heap.size + 1, 0, none⟩) (v := .int .i64 (spLen s.1 s.2)) (by first | (go_simp; done) | fail "no"))
      | (go_at_call 18; with_reducible refine (within_nil s _).mono ?_; rintro e V1 ⟨rfl, hv1⟩; dsimp only; have u0 := Below.cell' hv1 (p := ⟨w.heap.size, 0, none⟩) (v := .int .i64 s.1) (by first | (go_simp; done) | fail "no"); have u1 := Below.cell' hv1 (p := ⟨w.heap.size, 1, none⟩) (v := .int .i64 s.2) (by first | (go_simp; done) | fail "no"); have u2 := Below.cell' hv1 (p := ⟨w5.heap.size + 1, 0, none⟩) (v := .int .i64 (spLen s.1 s.2)) (by first | (go_simp; done) | fail "no"))
      | (go_at_call 35; with_reducible refine (gap_nil off _).mono ?_; rintro e V1 ⟨rfl, hv1⟩; dsimp only; have u0 := Below.cell' hv1 (p := ⟨w.heap.size, 0, none⟩) (v := .int .i64 s.1) (by first | (go_simp; done) | fail "no"); have u1 := Below.cell' hv1 (p := ⟨w.heap.size, 1, none⟩) (v := .int .i64 s.2) (by first | (go_simp; done) | fail "no"); have u2 := Below.cell' hv1 (p := ⟨w5.heap.size + 1, 0, none⟩) (v := .int .i64 (spLen s.1 s.2)) (by first | (go_simp; done) | fail "no"))
      | (go_at_call 36; with_reducible refine (refgap_nil off _).mono ?_; rintro e V1 ⟨rfl, hv1⟩; dsimp only; have u0 := Below.cell' hv1 (p := ⟨w.heap.size, 0, none⟩) (v := .int .i64 s.1) (by first | (go_simp; done) | fail "no"); have u1 := Below.cell' hv1 (p := ⟨w.heap.size, 1, none⟩) (v := .int .i64 s.2) (by first | (go_simp; done) | fail "no"); have u2 := Below.cell' hv1 (p := ⟨w5.heap.size + 1, 0, none⟩) (v := .int .i64 (spLen s.1 s.2)) (by first | (go_simp; done) | fail "no"))
      | (go_at_call 17; with_reducible refine (rlen_any s.1 s.2 _).mono ?_; rintro e V1 ⟨rfl, hv1⟩; dsimp only; have u0 := Below.cell' hv1 (p := ⟨w.heap.size, 0, none⟩) (v := .int .i64 s.1) (by first | (go_simp; done) | fail "no"); have u1 := Below.cell' hv1 (p := ⟨w.heap.size, 1, none⟩) (v := .int .i64 s.2) (by first | (go_simp; done) | fail "no"); have u2 := Below.cell' hv1 (p := ⟨w5.heap.size + 1, 0, none⟩) (v := .int .i64 (spLen s.1 s.2)) (by first | (go_simp; done) | fail "no"))
      | (go_at_call 39; with_reducible refine (clone_nil _).mono ?_; rintro e V1 ⟨rfl, rfl⟩; dsimp only)
      | (go_at_call 13; with_reducible refine (known_any _).mono ?_; rintro e V1 ⟨rfl, hv1⟩; dsimp only; have u0 := Below.cell' hv1 (p := ⟨w.heap.size, 0, none⟩) (v := .int .i64 s.1) (by first | (go_simp; done) | fail "no"); have u1 := Below.cell' hv1 (p := ⟨w.heap.size, 1, none⟩) (v := .int .i64 s.2) (by first | (go_simp; done) | fail "no"); have u2 := Below.cell' hv1 (p := ⟨w5.heap.size + 1, 0, none⟩) (v := .int .i64 (spLen s.1 s.2)) (by first | (go_simp; done) | fail "no"))
      | (go_at_call 14; with_reducible refine (new_any _).mono ?_; rintro e V1 ⟨rfl, hv0⟩; have hv1 := hv0 ▸ (Below.one _ (.cells #[.slice none 0 0] 92)); have hnew := hv0 ▸ (new_runs _); have hnewH := Lib.hid hnew; clear hv0 hnew; dsimp only; have u0 := Below.cell' hv1 (p := ⟨w.heap.size, 0, none⟩) (v := .int .i64 s.1) (by first | (go_simp; done) | fail "no"); have u1 := Below.cell' hv1 (p := ⟨w.heap.size, 1, none⟩) (v := .int .i64 s.2) (by first | (go_simp; done) | fail "no"); have u2 := Below.cell' hv1 (p := ⟨w5.heap.size + 1, 0, none⟩) (v := .int .i64 (spLen s.1 s.2)) (by first | (go_simp; done) | fail "no"))
      | (go_at_call 38; with_reducible refine (same_any (SetP.none_ _) (SetP.of_ hnewH.out) (by simp) (by simp)).mono ?_; rintro e V1 ⟨rfl, hv1⟩; dsimp only; have u0 := Below.cell' hv1 (p := ⟨w.heap.size, 0, none⟩) (v := .int .i64 s.1) (by first | (go_simp; done) | fail "no"); have u1 := Below.cell' hv1 (p := ⟨w.heap.size, 1, none⟩) (v := .int .i64 s.2) (by first | (go_simp; done) | fail "no"); have u2 := Below.cell' hv1 (p := ⟨w5.heap.size + 1, 0, none⟩) (v := .int .i64 (spLen s.1 s.2)) (by first | (go_simp; done) | fail "no"))
      )
    all_goals
      dsimp only [Exit.then]
      apply_assumption
      gi_wp2_with fail
      obtain ⟨h3, hDV, hD⟩ := HV.out
      have hvb : Below V.heap.size V V1 := by (repeat (with_reducible first | exact Below.refl _ _ | assumption | (refine Below.setCell ?_ (by first | (simp; done) | (simp; omega) | omega) _) | (refine Below.alloc ?_ (by first | (simp; done) | (simp; omega) | omega) _) | refine Below.drew ?_ | refine Below.drewN_ ?_ _ | (refine Below.then_ ?_ (by with_reducible assumption))))
      have hDV1 := Below.at' hvb hDV
      have h1 : Below w.heap.size w V1 := Below.then_ h3 hvb
      refine ⟨by simp, .inl ⟨_, _, rfl, run_takeDeferred hDV1, ?_⟩⟩
      refine ⟨_, results_tmp rfl _ _ _, rfl, ?_⟩
      exact h1.trans ((chg_putObj V1 D _).belowAt h1.size (fun k hk e => by omega))
  case stop =>
    rintro D c pre O V hD hpre h1 hOD hDV
    exact h1.elim
end Go.Proofs.Ytcifbcdjkofomaa
