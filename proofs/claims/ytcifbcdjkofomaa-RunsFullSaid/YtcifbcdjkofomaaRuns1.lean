/-
  The small functions of a set of runs, and its search for a place. Conditions: the set is a row of spans of its own.
-/
import Derived.Test.YtcifbcdjkofomaaRow
namespace Go.Proofs.Ytcifbcdjkofomaa
open Go.RowKit
set_option linter.unusedVariables false
set_option linter.unusedSimpArgs false

attribute [local go_sem] run_min run_max run_field24_0 run_field24_1

theorem rlen_nil (w : World) : Calls Try.prog 22 #[.pointer none] w fun e w' => e = .returned (.int .i64 0) ∧ w' = w := by
  go_enter Try.func22, Try.ntmps22
  go_wp2
  go_ret
  exact ⟨rfl, rfl⟩
theorem runsLen_any {w : World} {b : Nat} {v : Value} {l : List Sp} (h : IsRuns w b v l) : Calls Try.prog 22 #[.pointer (some ⟨b, 0, none⟩)] w fun e w' => e = .returned (.int .i64 l.length) ∧ w' = w := by
  have hc := h.cell
  obtain ⟨A, c, rfl, _, _⟩ := h.row.form
  go_enter Try.func22, Try.ntmps22
  go_wp2
  go_ret
  exact ⟨rfl, rfl⟩

theorem ask_nil (a b : Int) (w : World) : Calls Try.prog 51 #[.pointer none, .agg #[.int .i64 a, .int .i64 b]] w fun e w' => e = .returned (.int .i64 1) ∧ Below w.heap.size w w' := by
  go_enter Try.func51, Try.ntmps51
  go_wp2
  go_ret
  exact ⟨rfl, by (repeat (with_reducible first | exact Below.refl _ _ | assumption | (refine Below.setCell ?_ (by first | (simp; done) | (simp; omega) | omega) _) | (refine Below.alloc ?_ (by first | (simp; done) | (simp; omega) | omega) _) | refine Below.drew ?_ | refine Below.drewN_ ?_ _ | (refine Below.then_ ?_ (by with_reducible assumption))))⟩
theorem ask_any (g : Nat) (a b : Int) (w : World) : Calls Try.prog 51 #[.pointer (some ⟨g, 0, none⟩), .agg #[.int .i64 a, .int .i64 b]] w fun e w' => e = .returned (.int .i64 (if mayB a b then 0 else 3)) ∧ Below w.heap.size w w' := by
  cases h : mayB a b
  all_goals
    go_enter Try.func51, Try.ntmps51
    go_wp2_with ((with_reducible refine (may_any a b _).mono ?_); rw [h]; rintro e w1 ⟨rfl, hb⟩)
    go_ret
    exact ⟨rfl, by (repeat (with_reducible first | exact Below.refl _ _ | assumption | (refine Below.setCell ?_ (by first | (simp; done) | (simp; omega) | omega) _) | (refine Below.alloc ?_ (by first | (simp; done) | (simp; omega) | omega) _) | refine Below.drew ?_ | refine Below.drewN_ ?_ _ | (refine Below.then_ ?_ (by with_reducible assumption))))⟩

theorem add1_any (x y a b : Int) (g : Nat) (w : World) (h0 : w.cell? ⟨g, 0, none⟩ = some (.int .i64 a)) (h1 : w.cell? ⟨g, 1, none⟩ = some (.int .i64 b)) :
    Calls Try.prog 53 #[.agg #[.int .i64 x, .int .i64 y], .pointer (some ⟨g, 0, none⟩)] w fun e w' => e = .returned (.bool (decide (a ≤ y))) ∧ Below w.heap.size w w' := by
  have hg := World.block_lt_of_cell? w _ h0
  go_enter Try.func53, Try.ntmps53
  go_wp2
  go_ret
  exact ⟨rfl, by (repeat (with_reducible first | exact Below.refl _ _ | assumption | (refine Below.setCell ?_ (by first | (simp; done) | (simp; omega) | omega) _) | (refine Below.alloc ?_ (by first | (simp; done) | (simp; omega) | omega) _) | refine Below.drew ?_ | refine Below.drewN_ ?_ _ | (refine Below.then_ ?_ (by with_reducible assumption))))⟩
theorem add2_any (x y a b : Int) (g : Nat) (w : World) (h0 : w.cell? ⟨g, 0, none⟩ = some (.int .i64 a)) (h1 : w.cell? ⟨g, 1, none⟩ = some (.int .i64 b)) :
    Calls Try.prog 54 #[.agg #[.int .i64 x, .int .i64 y], .pointer (some ⟨g, 0, none⟩)] w fun e w' => e = .returned (.bool (decide (b < x))) ∧ Below w.heap.size w w' := by
  have hg := World.block_lt_of_cell? w _ h0
  go_enter Try.func54, Try.ntmps54
  go_wp2
  go_ret
  exact ⟨rfl, by (repeat (with_reducible first | exact Below.refl _ _ | assumption | (refine Below.setCell ?_ (by first | (simp; done) | (simp; omega) | omega) _) | (refine Below.alloc ?_ (by first | (simp; done) | (simp; omega) | omega) _) | refine Below.drew ?_ | refine Below.drewN_ ?_ _ | (refine Below.then_ ?_ (by with_reducible assumption))))⟩
theorem rem1_any (x y a b : Int) (g : Nat) (w : World) (h0 : w.cell? ⟨g, 0, none⟩ = some (.int .i64 a)) (h1 : w.cell? ⟨g, 1, none⟩ = some (.int .i64 b)) :
    Calls Try.prog 62 #[.agg #[.int .i64 x, .int .i64 y], .pointer (some ⟨g, 0, none⟩)] w fun e w' => e = .returned (.bool (decide (a < y))) ∧ Below w.heap.size w w' := by
  have hg := World.block_lt_of_cell? w _ h0
  go_enter Try.func62, Try.ntmps62
  go_wp2
  go_ret
  exact ⟨rfl, by (repeat (with_reducible first | exact Below.refl _ _ | assumption | (refine Below.setCell ?_ (by first | (simp; done) | (simp; omega) | omega) _) | (refine Below.alloc ?_ (by first | (simp; done) | (simp; omega) | omega) _) | refine Below.drew ?_ | refine Below.drewN_ ?_ _ | (refine Below.then_ ?_ (by with_reducible assumption))))⟩
theorem rem2_any (x y a b : Int) (g : Nat) (w : World) (h0 : w.cell? ⟨g, 0, none⟩ = some (.int .i64 a)) (h1 : w.cell? ⟨g, 1, none⟩ = some (.int .i64 b)) :
    Calls Try.prog 63 #[.agg #[.int .i64 x, .int .i64 y], .pointer (some ⟨g, 0, none⟩)] w fun e w' => e = .returned (.bool (decide (b ≤ x))) ∧ Below w.heap.size w w' := by
  have hg := World.block_lt_of_cell? w _ h0
  go_enter Try.func63, Try.ntmps63
  go_wp2
  go_ret
  exact ⟨rfl, by (repeat (with_reducible first | exact Below.refl _ _ | assumption | (refine Below.setCell ?_ (by first | (simp; done) | (simp; omega) | omega) _) | (refine Below.alloc ?_ (by first | (simp; done) | (simp; omega) | omega) _) | refine Below.drew ?_ | refine Below.drewN_ ?_ _ | (refine Below.then_ ?_ (by with_reducible assumption))))⟩
theorem meets1_any (x y a b : Int) (g : Nat) (w : World) (h0 : w.cell? ⟨g, 0, none⟩ = some (.int .i64 a)) (h1 : w.cell? ⟨g, 1, none⟩ = some (.int .i64 b)) :
    Calls Try.prog 91 #[.agg #[.int .i64 x, .int .i64 y], .pointer (some ⟨g, 0, none⟩)] w fun e w' => e = .returned (.bool (decide (a < y))) ∧ Below w.heap.size w w' := by
  have hg := World.block_lt_of_cell? w _ h0
  go_enter Try.func91, Try.ntmps91
  go_wp2
  go_ret
  exact ⟨rfl, by (repeat (with_reducible first | exact Below.refl _ _ | assumption | (refine Below.setCell ?_ (by first | (simp; done) | (simp; omega) | omega) _) | (refine Below.alloc ?_ (by first | (simp; done) | (simp; omega) | omega) _) | refine Below.drew ?_ | refine Below.drewN_ ?_ _ | (refine Below.then_ ?_ (by with_reducible assumption))))⟩
theorem run1_any (x y a : Int) (g : Nat) (w : World) (h0 : w.cell? ⟨g, 0, none⟩ = some (.int .i64 a)) :
    Calls Try.prog 69 #[.agg #[.int .i64 x, .int .i64 y], .pointer (some ⟨g, 0, none⟩)] w fun e w' => e = .returned (.bool (decide (a < y))) ∧ Below w.heap.size w w' := by
  have hg := World.block_lt_of_cell? w _ h0
  go_enter Try.func69, Try.ntmps69
  go_wp2
  go_ret
  exact ⟨rfl, by (repeat (with_reducible first | exact Below.refl _ _ | assumption | (refine Below.setCell ?_ (by first | (simp; done) | (simp; omega) | omega) _) | (refine Below.alloc ?_ (by first | (simp; done) | (simp; omega) | omega) _) | refine Below.drew ?_ | refine Below.drewN_ ?_ _ | (refine Below.then_ ?_ (by with_reducible assumption))))⟩
theorem next1_any (x y a : Int) (g : Nat) (w : World) (h0 : w.cell? ⟨g, 0, none⟩ = some (.int .i64 a)) :
    Calls Try.prog 70 #[.agg #[.int .i64 x, .int .i64 y], .pointer (some ⟨g, 0, none⟩)] w fun e w' => e = .returned (.bool (decide (a < y))) ∧ Below w.heap.size w w' := by
  have hg := World.block_lt_of_cell? w _ h0
  go_enter Try.func70, Try.ntmps70
  go_wp2
  go_ret
  exact ⟨rfl, by (repeat (with_reducible first | exact Below.refl _ _ | assumption | (refine Below.setCell ?_ (by first | (simp; done) | (simp; omega) | omega) _) | (refine Below.alloc ?_ (by first | (simp; done) | (simp; omega) | omega) _) | refine Below.drew ?_ | refine Below.drewN_ ?_ _ | (refine Below.then_ ?_ (by with_reducible assumption))))⟩

/-- A function value that answers q of a place, and makes memory alone. -/
def Tells (w : World) (f : Nat) (caps : Array Value) (n : Nat) (q : Nat → Bool) : Prop :=
  ∀ (i : Nat), i < n → ∀ W, Below w.heap.size w W → Calls Try.prog f (#[.int .i64 i] ++ caps) W fun e W' => e = .returned (.bool (q i)) ∧ Below W.heap.size W W'
/-- The place k is the first from which on q holds. -/
def FirstOf (n : Nat) (q : Nat → Bool) (k : Nat) : Prop := k ≤ n ∧ (∀ i, i < k → q i = false) ∧ (∀ i, k ≤ i → i < n → q i = true)
def Found (w : World) (n : Nat) (q : Nat → Bool) (e : Ending) (w' : World) : Prop := ∃ k : Nat, FirstOf n q k ∧ e = .returned (.int .i64 k) ∧ Below w.heap.size w w'

set_option maxRecDepth 100000 in
set_option maxHeartbeats 1000000 in
theorem search_any (p0 p1 : Value) (n : Nat) (q : Nat → Bool) (w : World) (hn : n ≤ 4611686018427387904)
    (hm : ∀ i j, i ≤ j → j < n → q i = true → q j = true) (hq : Tells w 86 #[p0, p1] n q) :
    Calls Try.prog 85 #[.int .i64 n, .func (.func 86) #[] #[p0, p1]] w (Found w n q) := by
  have HM := Lib.hid hm; clear hm
  have HQ := Lib.hid hq; clear hq
  go_enter Try.func85, Try.ntmps85
  go_wp2
  go_loopw [5, 6] (fun i j wr => ∃ (x y : Nat), i = .int .i64 x ∧ j = .int .i64 y ∧ x ≤ y ∧ y ≤ n ∧ Hid ((∀ t, t < x → q t = false) ∧ (∀ t, y ≤ t → t < n → q t = true)) ∧ Below w.heap.size w wr) (fun i j _ => (intOf j - intOf i).toNat)
  case atStart => exact ⟨0, n, rfl, rfl, by omega, by omega, ⟨fun t ht => absurd ht (by omega), fun t h1 h2 => absurd h1 (by omega)⟩, Below.refl _ _⟩
  case round =>
    obtain ⟨x, y, rfl, rfl, hxy, hyn, HF, hB⟩ := hrel
    by_cases hlt : x < y
    · obtain ⟨m, hm1, hm2, hm3⟩ : ∃ m : Nat, x ≤ m ∧ m < y ∧ ((x : Int) + y) / 2 = (m : Int) := ⟨(x + y) / 2, by omega, by omega, by omega⟩
      go_wp2_with fail
      refine (HQ.out m (by omega) wr hB).mono ?_
      clear hm3
      cases hqm : q m
      · rintro e w1 ⟨rfl, hb⟩
        have HM' := Lib.hid hqm; clear hqm
        go_wp2
        go_roundw
        case rel =>
          refine ⟨m + 1, y, by go_num, rfl, by omega, by omega, ⟨fun t ht => ?_, HF.out.2⟩, Below.then_ hB hb⟩
          rcases Nat.lt_or_ge t x with h | h
          · exact HF.out.1 t h
          · cases hc : q t with
            | false => rfl
            | true => have := HM.out t m (by omega) (by omega) hc; rw [HM'.out] at this; cases this
        case measure => simp [intOf]; omega
      · rintro e w1 ⟨rfl, hb⟩
        have HM' := Lib.hid hqm; clear hqm
        go_wp2
        go_roundw
        case rel =>
          refine ⟨x, m, rfl, rfl, by omega, by omega, ⟨HF.out.1, fun t h1 h2 => ?_⟩, Below.then_ hB hb⟩
          exact HM.out m t h1 h2 HM'.out
        case measure => simp [intOf]; omega
    · have hxe : x = y := by omega
      go_wp2_with fail
      go_ret
      exact ⟨x, ⟨by omega, HF.out.1, by rw [hxe]; exact HF.out.2⟩, rfl, hB⟩
end Go.Proofs.Ytcifbcdjkofomaa
