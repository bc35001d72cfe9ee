/-
  The search of a set of runs for a place, by any of its tests. Conditions: the set is a row of spans of its own.
-/
import Derived.Test.YtcifbcdjkofomaaRuns1
namespace Go.Proofs.Ytcifbcdjkofomaa
open Go.RowKit
set_option linter.unusedVariables false
set_option linter.unusedSimpArgs false

attribute [local go_sem] run_min run_max run_field24_0 run_field24_1

/-- A test of spans: function f with what it has captured answers p. -/
def Tests (w : World) (f : Nat) (c0 : Value) (p : Sp → Bool) : Prop :=
  ∀ (s : Sp) (W : World), Below w.heap.size w W → Calls Try.prog f #[.agg #[.int .i64 s.1, .int .i64 s.2], c0] W fun e W' => e = .returned (.bool (p s)) ∧ Below W.heap.size W W'

set_option maxRecDepth 100000 in
set_option maxHeartbeats 1000000 in
theorem first1_any (f : Nat) (hf : ∀ args w, (callFunc f args).run Try.prog w = .ok (.enter f args) w) (c0 : Value) (p : Sp → Bool) (g o c bh br b : Nat) (s : Sp) (i n : Nat) (hi : i < n) (hn : n ≤ 4611686018427387904) (w : World)
    (ht : Tests w f c0 p)
    (h1 : w.cell? ⟨bh, 0, none⟩ = some (.func (.func f) #[] #[c0])) (h2 : w.cell? ⟨br, 0, none⟩ = some (.pointer (some ⟨b, 0, none⟩)))
    (h3 : w.cell? ⟨b, 0, none⟩ = some (.slice (some ⟨g, o, none⟩) n c)) (h4 : w.cell? ⟨g, o + i * 2, none⟩ = some (.int .i64 s.1)) (h5 : w.cell? ⟨g, o + i * 2 + 1, none⟩ = some (.int .i64 s.2)) :
    Calls Try.prog 86 #[.int .i64 i, .pointer (some ⟨bh, 0, none⟩), .pointer (some ⟨br, 0, none⟩)] w fun e w' => e = .returned (.bool (p s)) ∧ Below w.heap.size w w' := by
  have HT := Lib.hid ht; clear ht
  go_enter Try.func86, Try.ntmps86
  go_wp2
  go_region_with (refine (HT.out s _ (by (repeat (with_reducible first | exact Below.refl _ _ | assumption | (refine Below.setCell ?_ (by first | (simp; done) | (simp; omega) | omega) _) | (refine Below.alloc ?_ (by first | (simp; done) | (simp; omega) | omega) _) | refine Below.drew ?_ | refine Below.drewN_ ?_ _ | (refine Below.then_ ?_ (by with_reducible assumption)))))).mono ?_; rintro e w1 ⟨rfl, hb⟩)
  all_goals
    go_wp2
    go_ret
    exact ⟨rfl, by (repeat (with_reducible first | exact Below.refl _ _ | assumption | (refine Below.setCell ?_ (by first | (simp; done) | (simp; omega) | omega) _) | (refine Below.alloc ?_ (by first | (simp; done) | (simp; omega) | omega) _) | refine Below.drew ?_ | refine Below.drewN_ ?_ _ | (refine Below.then_ ?_ (by with_reducible assumption))))⟩

theorem Tests.below {w w' : World} {f : Nat} {c0 : Value} {p : Sp → Bool} (h : Tests w f c0 p) (hb : Below w.heap.size w w') : Tests w' f c0 p := fun s W hW => h s W (Below.then_ hb hW)
def atS (l : List Sp) (i : Nat) : Sp := l.getD i (0, 0)
theorem atS_get (l : List Sp) (i : Nat) (h : i < l.length) : atS l i = l[i] := by simp [atS, List.getD_eq_getElem?_getD, h]
/-- From one place on p holds. -/
def Rises (l : List Sp) (p : Sp → Bool) : Prop := ∀ i j, i ≤ j → j < l.length → p (atS l i) = true → p (atS l j) = true
theorem tells_first (f : Nat) (hf : ∀ args w, (callFunc f args).run Try.prog w = .ok (.enter f args) w) (c0 : Value) (p : Sp → Bool) (w : World) {b : Nat} {v : Value} {l : List Sp} (h : IsRuns w b v l) (hn : l.length ≤ 4611686018427387904)
    (ht : Tests w f c0 p) {bh br : Nat} (h1 : w.cell? ⟨bh, 0, none⟩ = some (.func (.func f) #[] #[c0])) (h2 : w.cell? ⟨br, 0, none⟩ = some (.pointer (some ⟨b, 0, none⟩))) :
    Tells w 86 #[.pointer (some ⟨bh, 0, none⟩), .pointer (some ⟨br, 0, none⟩)] l.length (fun i => p (atS l i)) := by
  intro i hi W hb
  have hI := h.below hb
  obtain ⟨A, c, rfl, _, _⟩ := hI.row.form
  rcases hI.row.reads with rfl | ⟨g, o, rfl, hc⟩
  · simp at hi
  · have := hc i hi
    have e := first1_any f hf c0 p g o c bh br b (atS l i) i l.length hi hn W (ht.below hb) (Below.cell' hb h1) (Below.cell' hb h2) hI.cell (by rw [atS_get l i hi]; exact this.1) (by rw [atS_get l i hi]; exact this.2)
    exact e

theorem first_nil (f : Nat) (c0 : Value) (w : World) : Calls Try.prog 52 #[.pointer none, .func (.func f) #[] #[c0]] w fun e w' => e = .returned (.int .i64 0) ∧ Below w.heap.size w w' := by
  go_enter Try.func52, Try.ntmps52
  go_wp2
  go_ret
  exact ⟨rfl, by (repeat (with_reducible first | exact Below.refl _ _ | assumption | (refine Below.setCell ?_ (by first | (simp; done) | (simp; omega) | omega) _) | (refine Below.alloc ?_ (by first | (simp; done) | (simp; omega) | omega) _) | refine Below.drew ?_ | refine Below.drewN_ ?_ _ | (refine Below.then_ ?_ (by with_reducible assumption))))⟩
theorem found_below {w a b : World} {n : Nat} {q : Nat → Bool} {e : Ending} (h : Below w.heap.size w a) (k : Found a n q e b) : Found w n q e b := by
  obtain ⟨k, hk, he, hb⟩ := k
  exact ⟨k, hk, he, Below.then_ h hb⟩

set_option maxRecDepth 100000 in
set_option maxHeartbeats 1000000 in
theorem first_any (f : Nat) (hf : ∀ args w, (callFunc f args).run Try.prog w = .ok (.enter f args) w) (c0 : Value) (p : Sp → Bool) (w : World) {b : Nat} {v : Value} {l : List Sp} (h : IsRuns w b v l) (hn : l.length ≤ 4611686018427387904)
    (ht : Tests w f c0 p) (hr : Rises l p) :
    Calls Try.prog 52 #[.pointer (some ⟨b, 0, none⟩), .func (.func f) #[] #[c0]] w (Found w l.length (fun i => p (atS l i))) := by
  obtain ⟨A, c, rfl, _, _⟩ := h.row.form
  have HR := Lib.hid hr; clear hr
  have HT := Lib.hid ht; clear ht
  have hc := h.cell
  have hlt := h.lt
  have hB : Below w.heap.size w ((w.alloc (.cells #[.pointer (some ⟨b, 0, none⟩)] 26)).alloc (.cells #[.func (.func f) #[] #[c0]] 95)) := by (repeat (with_reducible first | exact Below.refl _ _ | assumption | (refine Below.setCell ?_ (by first | (simp; done) | (simp; omega) | omega) _) | (refine Below.alloc ?_ (by first | (simp; done) | (simp; omega) | omega) _) | refine Below.drew ?_ | refine Below.drewN_ ?_ _ | (refine Below.then_ ?_ (by with_reducible assumption))))
  have HI := Lib.hid (tells_first f hf c0 p _ (h.below hB) hn (HT.out.below hB) (bh := w.heap.size + 1) (br := w.heap.size) (by go_simp) (by go_simp)); clear h
  have HB := Lib.hid hB; clear hB
  go_enter Try.func52, Try.ntmps52
  go_wp2_with fail
  refine (search_any _ _ l.length (fun i => p (atS l i)) _ hn HR.out HI.out).mono ?_
  rintro e w1 ⟨k, hk, rfl, hb⟩
  have HK := Lib.hid hk; clear hk
  go_wp2_with fail
  go_ret
  exact ⟨k, HK.out, rfl, Below.then_ HB.out hb⟩
end Go.Proofs.Ytcifbcdjkofomaa
