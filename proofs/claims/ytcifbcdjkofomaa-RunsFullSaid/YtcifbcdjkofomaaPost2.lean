/-
  Arguments of the laws: slices of spans opened; every argument read again behind a walk that leaves all as it was. Conditions: none.
-/
import Derived.Test.YtcifbcdjkofomaaPost
import Derived.Carry
import Derived.Deep.SlicePairs
namespace Go.Proofs.Ytcifbcdjkofomaa
open Go.ChangeShapes Go.WideShapes Go.ChangeAt Go.RowKit Go.Joins
set_option linter.unusedVariables false
set_option linter.unusedSimpArgs false

theorem Try.laidOut' : laidOutB Try.prog = true := by kernel_rfl
/-- An argument's type that can be read. -/
def Reads (t : TypeId) : Prop := Try.prog.readableRec t = true ∧ t < Try.prog.types.size
theorem reads3 : Reads 3 := ⟨by kernel_rfl, of_decide_eq_true (by kernel_rfl)⟩
theorem reads22 : Reads 22 := ⟨by kernel_rfl, of_decide_eq_true (by kernel_rfl)⟩
theorem reads24 : Reads 24 := ⟨by kernel_rfl, of_decide_eq_true (by kernel_rfl)⟩
section
variable {H : Type} {enc : TypeId × Value → H}
theorem Below.trodAll {W W' : World} (hb : Below W.heap.size W W') : ∀ {ts : List TypeId} {vs : List Value} {ds : List (DataW H)} {ps : List MemPlace}, (∀ t ∈ ts, Reads t) →
    DataW.TrodAll enc Try.prog W 0 (fun _ => true) true ts vs ds ps → (∀ x ∈ ps, x.block < W.heap.size) → DataW.TrodAll enc Try.prog W' 0 (fun b => decide (b < W.heap.size)) true ts vs ds ps
  | [], vs, ds, ps, _, h, _ => by
    obtain ⟨rfl, rfl, rfl⟩ := trodAll_nil h
    exact trodAll_mk0
  | t :: ts, vs, ds, ps, ht, h, hl => by
    obtain ⟨v, vs1, d, ds1, a, b, rfl, rfl, rfl, h1, h2⟩ := trodAll_cons h
    refine ⟨a, b, Below.trod Try.laidOut' (ht t List.mem_cons_self).1 (ht t List.mem_cons_self).2 h1 hb (fun x hx => hl x (List.mem_append_left _ hx)), ?_, rfl⟩
    exact Below.trodAll hb (fun t' h' => ht t' (List.mem_cons_of_mem _ h')) h2 (fun x hx => hl x (List.mem_append_right _ hx))
/-- What a law's row asks of a call that answered true and left all that was there as it was. -/
theorem law_post {f : Func} {s : ChangeSpec} {W W' : World} {args : Array Value} {ds : List (DataW H)} {p : List MemPlace} {ps : List TypeId}
    (hW : DataW.Whole enc Try.prog f.params.toList s.vars false W args.toList ds [] (p ++ [])) (hA : DataW.TrodAll enc Try.prog W 0 (fun _ => true) true ps args.toList ds p) (hps : f.params.toList = ps) (hv : s.vars = [])
    (ht : ∀ t ∈ ps, Reads t) (hr : f.resultTypes = #[4]) (hfn : s.fn H (ds ++ []) = { results := [.lit (.bool true)], args := ds }) (hb : Below W.heap.size W W') :
    s.post enc Try.prog f false true false false W args (.bool true) W' := by
  have hlt : ∀ x ∈ p, x.block < W.heap.size := fun x hx => by simpa using hW.lt x (List.mem_append_left _ hx)
  refine ⟨ds, [], p ++ [], [], p, [], hW, ?_, ?_, ?_, hb.frame _, fun h => by cases h⟩
  · rw [hr, hfn]; exact trodAll_mk1 (shut_bool Try.bool4 true)
  · rw [hps, hfn]; exact Below.trodAll hb ht hA hlt
  · rw [hv, hfn]; rfl
end
set_option maxRecDepth 100000 in
theorem sliceOpen {H : Type} {enc : TypeId × Value → H} {W : World} {base b0 : Nat} {sp : Nat → Bool} {held : Bool} {r : Reach} {v : Value} {d : DataW H} {p : List MemPlace}
    (hv : Value.okWide Try.prog W r b0 22 v) (h : DataW.Trod enc Try.prog W base sp held 22 v d p) :
    ∃ (A : Option Addr) (n c : Nat) (l : List Sp), v = .slice A n c ∧ RdSp W A l ∧ n = l.length ∧ n ≤ c ∧ c ≤ 9223372036854775807 := by
  obtain ⟨A, n, c, rfl⟩ := okWide_slice Try.underlying22 hv
  obtain ⟨fuel, hf⟩ := h
  rcases Go.Deep.open_slice_pairs Try.underlying22 Try.underlying24 Try.cells24 rfl rfl Try.cells3 Try.cells3 hf with ⟨h1, _⟩ | ⟨a, len, cap, m, k, V0, V1, D0, D1, P0, P1, h1, hb, hl, hc, hm, _, hi⟩
  · simp [Value.cells] at h1
    obtain ⟨rfl, rfl, rfl⟩ := h1
    exact ⟨none, 0, 0, [], rfl, .inl rfl, rfl, Nat.le_refl _, by omega⟩
  · simp [Value.cells] at h1
    obtain ⟨rfl, rfl, rfl⟩ := h1
    have hlm : n ≤ m := by rw [hm]; split <;> omega
    have hz : ∀ i, i < m → ∃ x : Sp, V0 i = .int .i64 x.1 ∧ V1 i = .int .i64 x.2 := by
      intro i h
      obtain ⟨_, _, t0, t1⟩ := hi i h
      obtain ⟨x, e0, _⟩ := DataW.trod_int Try.underlying3 t0
      obtain ⟨y, e1, _⟩ := DataW.trod_int Try.underlying3 t1
      simp at e0 e1
      exact ⟨(x, y), e0, e1⟩
    obtain ⟨q, hq⟩ := Go.Deep.choose_lt hz
    refine ⟨some a, n, c, (List.range n).map q, rfl, ?_, by simp, hl, by unfold maxLen at hc; omega⟩
    by_cases h0 : n = 0
    · subst h0; exact .inl rfl
    obtain ⟨g, o, sub⟩ := a
    have hs : sub = none := by
      have := (hi 0 (by omega)).1
      rw [show (0 : Nat) * 2 = 0 from rfl, show Addr.add ⟨g, o, sub⟩ 0 = ⟨g, o, sub⟩ from rfl] at this
      cases sub with
      | none => rfl
      | some u => unfold World.cell? at this; simp at this; split at this <;> cases this
    subst hs
    have had : ∀ k, Addr.add ⟨g, o, none⟩ k = ⟨g, o + k, none⟩ := by
      intro k; unfold Addr.add; split
      · rename_i h; subst h; rfl
      · rfl
    refine .inr ⟨g, o, rfl, fun i h => ?_⟩
    have hin : i < n := by simpa using h
    obtain ⟨c0, c1, _, _⟩ := hi i (by omega)
    rw [had] at c0 c1
    rw [(hq i (by omega)).1] at c0
    rw [(hq i (by omega)).2] at c1
    simp only [List.getElem_map, List.getElem_range]
    exact ⟨c0, c1⟩
end Go.Proofs.Ytcifbcdjkofomaa
