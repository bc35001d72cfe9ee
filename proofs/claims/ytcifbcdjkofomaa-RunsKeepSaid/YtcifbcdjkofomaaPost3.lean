/-
  An operation by value, opened; a list of operations, opened. Conditions: none.
-/
import Derived.Test.YtcifbcdjkofomaaPost2
namespace Go.Proofs.Ytcifbcdjkofomaa
open Go.ChangeShapes Go.WideShapes Go.ChangeAt Go.RowKit Go.Joins
set_option linter.unusedVariables false
set_option linter.unusedSimpArgs false
theorem reads40 : Reads 40 := ⟨by kernel_rfl, of_decide_eq_true (by kernel_rfl)⟩
theorem reads45 : Reads 45 := ⟨by kernel_rfl, of_decide_eq_true (by kernel_rfl)⟩
theorem Try.cells40 : Try.prog.cellsOf 40 = 3 := by kernel_rfl
theorem Try.cells4 : Try.prog.cellsOf 4 = 1 := by kernel_rfl
set_option maxRecDepth 100000 in
theorem opCells {H : Type} {enc : TypeId × Value → H} {W : World} {base fuel : Nat} {sp : Nat → Bool} {held : Bool} {c0 c1 c2 : Value} {x : DataW H × List MemPlace} (h : DataW.trod enc Try.prog W base sp held fuel 40 [c0, c1, c2] = some x) :
    ∃ (o : Bool) (s : Sp), c0 = .bool o ∧ c1 = .int .i64 s.1 ∧ c2 = .int .i64 s.2 := by
  obtain ⟨y0, y1, n, _, _, h0, h1⟩ := trod_struct2 Try.underlying40 h
  simp only [List.drop_zero, List.drop_succ_cons, Try.cells4, Try.cells24, List.take_succ_cons, List.take_zero] at h0 h1
  obtain ⟨z0, z1, m, _, _, g0, g1⟩ := trod_struct2 Try.underlying24 h1
  simp only [List.drop_zero, List.drop_succ_cons, Try.cells3, List.take_succ_cons, List.take_zero] at g0 g1
  obtain ⟨a, e1, _⟩ := DataW.trod_int Try.underlying3 g0
  obtain ⟨b, e2, _⟩ := DataW.trod_int Try.underlying3 g1
  obtain ⟨o, e0, _⟩ := DataW.trod_bool Try.bool4 h0
  simp at e0 e1 e2
  exact ⟨o, (a, b), e0, e1, e2⟩
set_option maxRecDepth 100000 in
theorem opOpen {H : Type} {enc : TypeId × Value → H} {W : World} {base b0 : Nat} {sp : Nat → Bool} {held : Bool} {r : Reach} {v : Value} {d : DataW H} {p : List MemPlace}
    (hv : Value.okWide Try.prog W r b0 40 v) (h : DataW.Trod enc Try.prog W base sp held 40 v d p) : ∃ (o : Bool) (s : Sp), v = .agg #[.bool o, .int .i64 s.1, .int .i64 s.2] := by
  obtain ⟨cs, rfl, hsz⟩ := okWide_struct Try.underlying40 hv
  obtain ⟨c0, c1, c2, rfl⟩ := array3 (hsz.trans Try.cells40)
  obtain ⟨fuel, hf⟩ := h
  obtain ⟨o, s, rfl, rfl, rfl⟩ := opCells hf
  exact ⟨o, s, rfl⟩
end Go.Proofs.Ytcifbcdjkofomaa
