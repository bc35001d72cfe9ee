/-
  RunsKeep: for any list of spans, any operation and any offset the law answers true, and its arguments read as before. Conditions: none.
-/
import Derived.Test.YtcifbcdjkofomaaPost3
import Derived.Test.YtcifbcdjkofomaaKeep
namespace Go.Proofs.Ytcifbcdjkofomaa
open Go.ChangeShapes Go.WideShapes Go.ChangeAt Go.RowKit Go.Joins
set_option linter.unusedVariables false
set_option linter.unusedSimpArgs false

set_option maxRecDepth 100000 in
theorem runsKeep_lifted (os : Os) (started : os.Started) (H : Type) (enc : TypeId × Value → H) :
    ReturnsInHanded {} Try.checked os 4 .any (Rows.runsKeepSpec.pre6 enc Try.prog Try.f4 Rows.runsKeepRow.domain false) (Rows.runsKeepSpec.post enc Try.prog Try.f4 false true false false) := by
  refine returnsInHanded_of_change (C := Try.checked) Try.own started (by kernel_rfl) Try.func4
    (ChangeSpec.witness6 (enc := enc) (C := Try.checked) false ⟨#[], #[.slice none 0 0, .agg #[.bool false, .int .i64 0, .int .i64 0], .int .i64 0], []⟩ 8 (by kernel_rfl) (by kernel_rfl) (by kernel_rfl) (by kernel_rfl)) ?_
  intro W base args ds gs before hval0 hW _ _
  have hval : ∀ (j : Nat) t v, Try.f4.params[j]? = some t → args[j]? = some v → Value.okWide Try.prog W .any base t v := hval0
  have hW' := hW
  obtain ⟨p, q, hA0, hV, rfl, _, _⟩ := hW
  have hA : DataW.TrodAll enc Try.prog W 0 (fun _ => true) true Try.f4.params.toList args.toList ds p := hA0
  obtain ⟨rfl, rfl⟩ := trodVars_none hV
  have hps : Try.f4.params.toList = [22, 40, 3] := by rw [Try.params4]
  rw [hps] at hA
  rw [Try.params4] at hval
  have hA2 := hA
  obtain ⟨v0, v1, v2, d0, d1, d2, p0, p1, p2, rfl, rfl, rfl, h0, h1, h2⟩ := trodAll_three hA
  obtain ⟨A, n, c, l, rfl, hl, hn, hnc, hc⟩ := sliceOpen (hval 0 22 v0 rfl rfl) h0
  obtain ⟨o, s, rfl⟩ := opOpen (hval 1 40 v1 rfl rfl) h1
  obtain ⟨off, rfl, rfl, rfl, wo⟩ := open_int Try.underlying3 (hval 2 3 v2 rfl rfl) h2
  refine (runsKeep_walk A n c l o s off W hl hn hnc hc).mono fun e W' ⟨he, hw⟩ => ?_
  subst he
  exact ⟨_, rfl, law_post hW' hA2 hps rfl (by simp [reads22, reads40, reads3]) (by kernel_rfl) rfl hw⟩

theorem runsKeep_holds : Rows.RunsKeepSaid :=
  OpenClaim.holds_of_wide 4 Try.f4 rfl rfl rfl rfl rfl rfl rfl ⟨rfl, rfl, rfl, rfl, rfl⟩ rfl rfl rfl rfl rfl (by kernel_rfl) Try.func4 (by kernel_rfl)
    (of_decide_eq_true (by kernel_rfl)) (by unfold Func.isWrapper; first | (rw [if_pos (by decide +kernel)]; kernel_rfl) | (rw [if_neg (by decide +kernel)]; exact ⟨rfl, rfl⟩))
    (fun os started H enc _ => runsKeep_lifted os started H enc)
#print axioms runsKeep_holds
end Go.Proofs.Ytcifbcdjkofomaa
