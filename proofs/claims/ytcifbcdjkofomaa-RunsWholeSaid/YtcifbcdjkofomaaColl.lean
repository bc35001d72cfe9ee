/-
  slices.AppendSeq over nil, slices.Collect, told: a row of what an iterator gives. Conditions: the iterator keeps its contract (Gives).
-/
import Derived.Test.YtcifbcdjkofomaaGaps2
import Derived.Test.YtcifbcdjkofomaaIns
namespace Go.Proofs.Ytcifbcdjkofomaa
open Go.RowKit Go.Shelf
set_option linter.unusedVariables false
set_option linter.unusedSimpArgs false

attribute [local go_sem] Oper.semAt_some run_min run_max run_field24_0 run_field24_1

theorem evi_append {F : Fence} {n : Nat} {ops : Array Oper} {rest : List Oper} {o : Oper} {a : Act} {Q : Exit → Act → World → Prop} {w w' : World} {v v1 v2 : Value} {s x : Operand} (hgd : o.guard = none)
    (ho : o.op = .call { callee := .builtin .append, args := #[s, x], argTypes := #[22, 22] }) (hty : o.type = 22) (hs : a.eval s = v1) (hx : a.eval x = v2)
    (hr : (Builtin.append_ #[22, 22] 22 #[v1, v2]).run Try.prog w = .ok v w') (h : wpListIn F n Try.prog ops Q rest (a.put o.dst v) w') : wpListIn F n Try.prog ops Q (o :: rest) a w := by
  refine wpListIn_plain hgd fun K hK => ?_
  unfold Oper.wpIn
  constructor
  · simp [Oper.about, ho, resolve, Target.leads, Sem.run_pure]
  · rw [Oper.semAt_plain F _ _ (by rw [ho]; intro c hc; cases hc), exec_append ho hs hx (by rw [hty]; exact hr)]
    exact hK _ _ h
/-- A caller's row that grows: the box B holds it, and it is its own from n0 on. -/
def RowI (w : World) (bo : Nat) : Inv := fun pre O A =>
  ∃ v, A.heap[bo]? = some (.cells #[v] 22 (0, 0)) ∧ SpRow A v pre ∧ (∀ k, O k ↔ v.ownBlock = some k) ∧ (∀ k, O k → w.heap.size ≤ k ∧ k ≠ bo) ∧ Below w.heap.size w A
theorem RowI.calm {w : World} {bo B : Nat} (hb : bo < B) (hw : w.heap.size ≤ B) : Calm B (RowI w bo) := by
  rintro pre O A A' M ⟨v, h1, h2, h3, h4, h5⟩ hc hM
  refine ⟨v, hc.at_ h1 (fun hm => by have := (hM _ (lt_of_at' h1) hm).1; omega), h2.chg hc (fun k hk hm => ?_), h3, h4, ?_⟩
  · have hlt := h2.lt hk
    exact (hM k hlt hm).2 ((h3 k).2 hk)
  · exact h5.trans (hc.belowAt h5.size (fun k hk hm => by have := (hM k (by have := h5.size; omega) hm).1; omega))
theorem RowI.lt {w : World} {bo : Nat} : ∀ pre O A, RowI w bo pre O A → ∀ k, O k → k < A.heap.size := by
  rintro pre O A ⟨v, h1, h2, h3, h4, h5⟩ k hk
  exact h2.lt ((h3 k).1 hk)

set_option maxRecDepth 100000 in
set_option maxHeartbeats 4000000 in
theorem appendSeq_nil (gf : Nat) (lb : Array Value) (L : List Sp) (K : Nat → Prop) (w : World) (hL : L.length ≤ 1000000) (hK : ∀ k, K k → k < w.heap.size)
    (eg : ∀ args w, (callFunc gf args).run Try.prog w = .ok (.enter gf args) w) (hG : ∀ m, Hid (5 ≤ m) → Gives m gf lb K L w) :
    Calls Try.prog 96 #[.slice none 0 0, .func (.func gf) #[] lb] w fun e w' => ∃ v, e = .returned v ∧ SpRow w' v L ∧ (∀ k, v.ownBlock = some k → w.heap.size ≤ k) ∧ Below w.heap.size w w' := by
  obtain ⟨n, hn⟩ : ∃ n : Nat, Hid (20 ≤ n) := ⟨20, Nat.le_refl _⟩
  have HG := Lib.hid (And.intro hG (And.intro eg (And.intro hK hL))); clear hG eg hK hL
  refine (callsIn_wide (n := n)).1 ?_
  refine callsIn_of_wp_marks Try.func96 rfl trivial ?_ rfl
  simp only [Try.ntmps96, List.size_toArray, List.length_cons, List.length_nil, Nat.reduceAdd, Nat.reduceSub, Array.replicate_succ, Array.replicate_zero, List.push_toArray, List.append_toArray, List.nil_append, List.cons_append]
  gi_wp2_with fail
  obtain ⟨hG, eg, hK, hL⟩ := HG.out
  have hB1 : Below w.heap.size w (w.alloc (.cells #[.slice none 0 0] 22)) := Below.one _ _
  refine range_gives (by have := hn.out; omega) (gf := gf) (lb := lb) rfl eg (hG (n - 1) (show 5 ≤ n - 1 by have := hn.out; omega)) hB1 rfl (fun k h => by have := hK k h; simp; omega)
    (RowI w w.heap.size) (fun c pre O A => False) ?hI (fun c pre O A A' M h _ _ => h.elim) RowI.lt (fun k => False) (fun k h => h.elim) ?h0
    (fun x Bx => { tmps := #[.slice none 0 0, .func (.func gf) #[] lb, .pointer (some ⟨w.heap.size, 0, none⟩), undef, .slice none 0 0, .pointer (some ⟨Bx, 0, none⟩), .func (.func gf) #[] lb, .agg #[.int .i64 x.1, .int .i64 x.2], undef, undef, undef, undef, undef], defers := [] })
    ?assign ?body ?done ?stop
  case hI => exact RowI.calm (by simp) (by simp)
  case h0 => exact ⟨_, World.alloc_heap_new w _, SpRow.nil _, fun k => by simp [Value.ownBlock], fun k h => h.elim, hB1⟩
  case assign =>
    rintro l x V P hP
    have HP := Lib.hid hP; clear hP
    simp only [spEnc]
    gi_wp2
    exact HP.out
  case body =>
    rintro l pre O x Bx V hlp hr ⟨v, h1, h2, h3, h4, h5⟩ hBx hOB hX hbo hpre
    have d0 : V.cell? ⟨w.heap.size, 0, none⟩ = some v := by rw [cell_of_at h1]; rfl
    have df : V.frozen? ⟨w.heap.size, 0, none⟩ = false := frozen_of_at h1 0
    have d2 : V.cell? ⟨Bx, 0, none⟩ = some (.int .i64 x.1) := by rw [cell_of_at hX]; rfl
    have d3 : V.cell? ⟨Bx, 1, none⟩ = some (.int .i64 x.2) := by rw [cell_of_at hX]; rfl
    have hbV := lt_of_at' h1
    have hpl : pre.length ≤ 1000000 := by have := hpre.length_le; rw [List.length_append] at this; omega
    obtain ⟨A, c, rfl, hlc, hcm⟩ := h2.form
    have hV2 : Below V.heap.size V (V.alloc (.cells #[.int .i64 x.1, .int .i64 x.2] 24)) := Below.one _ _
    obtain ⟨v', V3, hrun, hrow, hch, hown⟩ := append_row_sp (h2.below hV2) 1 1 (some ⟨V.heap.size, 0, none⟩) [x] rfl (by decide) (.inr ⟨V.heap.size, 0, rfl, fun i hi => by
      obtain rfl : i = 0 := by simpa using hi
      exact ⟨by rw [cell_of_at (World.alloc_heap_new V _)]; rfl, by rw [cell_of_at (World.alloc_heap_new V _)]; rfl⟩⟩) (by omega)
    obtain ⟨N, A', c', rfl⟩ : ∃ N A' c', v' = .slice A' N c' := by
      obtain ⟨A', c', e, _, _⟩ := hrow.form
      exact ⟨_, A', c', e⟩
    have hbo2 : ¬ O w.heap.size := fun h => (h4 _ h).2 rfl
    have hb3 : V3.heap[w.heap.size]? = some (.cells #[.slice A pre.length c] 22 (0, 0)) := hch.at_ (Below.at' hV2 h1) (fun e => hbo2 ((h3 _).2 e.symm))
    have e0 : V3.cell? ⟨w.heap.size, 0, none⟩ = some (.slice A pre.length c) := by rw [cell_of_at hb3]; rfl
    have ef : V3.frozen? ⟨w.heap.size, 0, none⟩ = false := frozen_of_at hb3 0
    have HR := Lib.hid hrun
    have fin : ∀ a' : Act, BodyEnds K (w.alloc (.cells #[.slice none 0 0] 22)).heap.size (RowI w w.heap.size) (fun c pre O A => False) (pre ++ [x]) O V Exit.normal a' (V3.setCell ⟨w.heap.size, 0, none⟩ (.slice A' N c')) := by
      intro a'
      have hc4 := (Chg.of_below (M := fun k => some k = (Value.slice A pre.length c).ownBlock) hV2).trans hch (fun _ _ h => h)
      have hne : (Value.slice A' N c').ownBlock ≠ some w.heap.size := fun e => by
        rcases hown with h | ⟨g, h, hg⟩
        · exact hbo2 ((h3 _).2 (h ▸ e))
        · rw [e] at h; injection h with h; rw [World.size_alloc] at hg; omega
      refine ⟨fun k => (Value.slice A' N c').ownBlock = some k, fun k hk => ?_, ⟨by simp; exact hc4.size, fun b o hb ho => ?_⟩, .slice A' N c', (heap_setCell_same V3 w.heap.size 0 _ _ _ hb3).trans rfl, hrow.chg (M := fun k => k = w.heap.size) (Chg.setCell (fun k => k = w.heap.size) V3 (p := ⟨w.heap.size, 0, none⟩) rfl _) (fun k hk e => hne (e ▸ hk)), fun k => Iff.rfl, fun k hk => ?_, ?_⟩
      · rcases hown with h | ⟨g, h, hg⟩
        · exact .inl ((h3 k).2 (h ▸ hk))
        · rw [hk] at h; injection h with h; rw [World.size_alloc] at hg; exact .inr (by omega)
      · have hbn : b ≠ w.heap.size := by
          rcases hb with h | h
          · have := hK b h; omega
          · have := h.1; simp at this; omega
        rw [heap_setCell_other _ _ _ _ hbn]
        refine hc4.at_ ho (fun e => ?_)
        rcases hb with h | h
        · have := hK b h; have := (h4 b ((h3 b).2 e.symm)).1; omega
        · exact h.2 ((h3 b).2 e.symm)
      · refine ⟨?_, fun e => hne (e ▸ hk)⟩
        rcases hown with h | ⟨g, h, hg⟩
        · exact (h4 k ((h3 k).2 (h ▸ hk))).1
        · rw [hk] at h; injection h with h; rw [World.size_alloc] at hg; omega
      · refine h5.trans ((hc4.belowAt h5.size (fun k hk e => ?_)).trans (Chg.belowAt (Chg.setCell (fun k => k = w.heap.size) V3 (p := ⟨w.heap.size, 0, none⟩) rfl _) (Nat.le_trans h5.size hc4.size) (fun k hk e => by omega)))
        have := (h4 k ((h3 k).2 e.symm)).1; omega
    have HF := Lib.hid fin
    clear hrun fin hrow hch hown h1 h2 h3 h4 h5 hX hr hbo hpre hb3 hV2
    gi_wp2_with (refine evi_append (o := ⟨some 11, _, _, _, _, _⟩) rfl rfl rfl rfl rfl HR.out ?_)
    exact HF.out _
  case done =>
    rintro D O V hD ⟨v, h1, h2, h3, h4, h5⟩ hOD hDV
    have d0 : V.cell? ⟨w.heap.size, 0, none⟩ = some v := by rw [cell_of_at h1]; rfl
    have HV := Lib.hid (And.intro h2 (And.intro h3 (And.intro h4 (And.intro h5 (And.intro hOD (And.intro hDV (And.intro h1 hD))))))); clear h1 h2 h3 h4 h5 hOD hDV hD
    gi_wp2_with fail
    obtain ⟨h2, h3, h4, h5, hOD, hDV, h1, hD⟩ := HV.out
    refine ⟨by simp, .inl ⟨_, _, rfl, run_takeDeferred hDV, ?_⟩⟩
    refine ⟨_, results_tmp rfl _ _ _, v, rfl, h2.chg (chg_putObj V D _) (fun k hk e => ?_), fun k hk => (h4 k ((h3 k).2 hk)).1, ?_⟩
    · subst e; exact hOD ((h3 _).2 hk)
    · exact h5.trans ((chg_putObj V D (.deferred none)).belowAt h5.size (fun k hk e => by subst e; simp at hD; omega))
  case stop =>
    rintro D c pre O V hD hpre h1 hOD hDV
    exact h1.elim
end Go.Proofs.Ytcifbcdjkofomaa
