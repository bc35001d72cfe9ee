/-
  slices.Insert and slices.Replace over a row of spans of its own. Conditions: what is put in lies in another block.
-/
import Derived.Test.YtcifbcdjkofomaaSlc
namespace Go.Proofs.Ytcifbcdjkofomaa
open Go.RowKit
set_option linter.unusedVariables false
set_option linter.unusedSimpArgs false


theorem cellsOf_one (l : List Sp) : ∀ v ∈ cellsOf l, v.oneCell' = true := by
  intro v hv
  simp only [cellsOf, List.mem_flatMap, spc] at hv
  obtain ⟨s, _, hv⟩ := hv
  simp at hv
  rcases hv with rfl | rfl <;> rfl
theorem cellsOf_at (l : List Sp) (j : Nat) (v : Value) (h : (cellsOf l)[j]? = some v) : ∃ i, ∃ hi : i < l.length, (j = i * 2 ∧ v = .int .i64 l[i].1) ∨ (j = i * 2 + 1 ∧ v = .int .i64 l[i].2) := by
  have hj : j < l.length * 2 := by rw [← cellsOf_length]; exact (List.getElem?_eq_some_iff.1 h).1
  refine ⟨j / 2, by omega, ?_⟩
  have hg := cellsOf_get l (j / 2) (by omega)
  rcases (by omega : j = j / 2 * 2 ∨ j = j / 2 * 2 + 1) with e | e
  · refine .inl ⟨e, ?_⟩
    rw [e, hg.1] at h
    exact (Option.some.inj h).symm
  · refine .inr ⟨e, ?_⟩
    rw [e, hg.2] at h
    exact (Option.some.inj h).symm
theorem RdSp.src {w : World} {A : Option Addr} {l : List Sp} (h : RdSp w A l) (hp : 0 < l.length) : ∃ ad : Addr, A = some ad ∧ ∀ j v, (cellsOf l)[j]? = some v → w.cell? (ad.add j) = some v := by
  rcases h with rfl | ⟨g, o, rfl, hc⟩
  · simp at hp
  · refine ⟨_, rfl, fun j v hj => ?_⟩
    have ha : (⟨g, o, none⟩ : Addr).add j = ⟨g, o + j, none⟩ := by unfold Addr.add; split <;> simp_all
    rw [ha]
    obtain ⟨i, hi, (⟨rfl, rfl⟩ | ⟨rfl, rfl⟩)⟩ := cellsOf_at l j v hj
    · exact (hc i hi).1
    · exact (hc i hi).2
theorem RdSp.chg {w w' : World} {M : Nat → Prop} {A : Option Addr} {l : List Sp} (h : RdSp w A l) (hc : Chg M w w') (hn : ∀ ad, A = some ad → ¬ M ad.block) : RdSp w' A l := by
  rcases h with h | ⟨g, o, hA, hr⟩
  · exact .inl h
  · exact .inr ⟨g, o, hA, fun i hi => ⟨hc.cell (hr i hi).1 (hn ⟨g, o, none⟩ hA), hc.cell (hr i hi).2 (hn ⟨g, o, none⟩ hA)⟩⟩

/-- What becomes of a row: v' reads as l'; the world has turned in s's block alone; v' lies there, or in new memory. -/
def RowPost (w : World) (s : Value) (l' : List Sp) (w' : World) (v' : Value) : Prop :=
  SpRow w' v' l' ∧ Chg (fun k => some k = s.ownBlock) w w' ∧ (v'.ownBlock = s.ownBlock ∨ ∃ g, v'.ownBlock = some g ∧ w.heap.size ≤ g)
def Becomes (w : World) (s : Value) (l' : List Sp) (e : Ending) (w' : World) : Prop := ∃ v', e = .returned v' ∧ RowPost w s l' w' v'

theorem append_row_sp {w : World} {v : Value} {l : List Sp} (h : SpRow w v l) (m c : Nat) (A : Option Addr) (ms : List Sp) (hm : m = ms.length) (hp : 0 < m) (hr : RdSp w A ms) (hbig : (l.length + m) * 16 ≤ 140737488355328) :
    ∃ v' w', (Builtin.append_ #[22, 22] 22 #[v, .slice A m c]).run Try.prog w = .ok v' w' ∧ RowPost w v (l ++ ms) w' v' := by
  obtain ⟨i0, hi, hzz⟩ := Option.map_eq_some_iff.1 info24
  simp only [Prod.mk.injEq] at hzz
  subst hm
  obtain ⟨ad, rfl, hsrc⟩ := hr.src hp
  obtain ⟨v', w', hrun, hown, hg, hnil, hat⟩ := run_append_own_at (P := Try.prog) w 0 22 22 24 i0 (.agg #[.int .i64 0, .int .i64 0]) 2 16 Try.underlying22 hi hzz.1 hzz.2.1 hzz.2.2 rfl (by decide) v l.length (cellsOf l) h ad ms.length c (cellsOf ms)
    (cellsOf_length ms) hsrc (cellsOf_one ms) (by unfold maxLen; omega) hbig (Nat.zero_le _)
  refine ⟨v', w', hrun, ?_, Chg.of_grown hg, ?_⟩
  · unfold SpRow
    rw [List.length_append, cellsOf_append]
    exact hown
  · rcases hat with hat | hat
    · exact .inl hat
    · exact .inr ⟨_, hat, Nat.le_refl _⟩

theorem insert_none (A Av : Option Addr) (n c cv : Nat) (l : List Sp) (i : Nat) (w : World) (h : SpRow w (.slice A n c) l) (hi : i ≤ n) :
    Calls Try.prog 100 #[.slice A n c, .int .i64 i, .slice Av 0 cv] w (Becomes w (.slice A n c) l) := by
  have hl := h.len
  have hc : c ≤ 9223372036854775807 := hl.2.2
  have hn : n ≤ c := by omega
  by_cases hci : c = i
  · subst hci
    have H := Lib.hid h; clear h hl
    go_enter Try.func100, Try.ntmps100
    go_wp2
    go_ret
    exact ⟨_, rfl, H.out, Chg.refl _ _, .inl rfl⟩
  · have H := Lib.hid h; clear h hl
    go_enter Try.func100, Try.ntmps100
    go_wp2
    go_ret
    exact ⟨_, rfl, H.out, Chg.refl _ _, .inl rfl⟩

set_option maxRecDepth 100000 in
theorem insert_end (A Av : Option Addr) (n c m cv : Nat) (l ms : List Sp) (w : World) (h : SpRow w (.slice A n c) l) (hm : m = ms.length) (hp : 0 < m) (hr : RdSp w Av ms) (hbig : (l.length + m) * 16 ≤ 140737488355328) :
    Calls Try.prog 100 #[.slice A n c, .int .i64 n, .slice Av m cv] w (Becomes w (.slice A n c) (l ++ ms)) := by
  have hl := h.len
  have hc : c ≤ 9223372036854775807 := hl.2.2
  have hn : n ≤ c := by omega
  have hm0 : ((m : Int) == 0) = false := by rw [beq_eq_false_iff_ne]; omega
  have hm9 : m ≤ 9223372036854775807 := by omega
  obtain ⟨v', w', hrun, hpost⟩ := append_row_sp h m cv Av ms hm hp hr hbig
  clear hr hbig
  have HM := Lib.hid hm; clear hm
  by_cases hci : c = n
  all_goals
    (try subst hci)
    have HR := Lib.hid hrun; clear hrun
    have HP := Lib.hid hpost; clear hpost
    clear h hl
    go_enter Try.func100, Try.ntmps100
    go_wp2_with (at_builtin; refine ev_list rfl (exec_append rfl rfl rfl HR.out) ?_)
    go_ret
    exact ⟨_, rfl, HP.out⟩
end Go.Proofs.Ytcifbcdjkofomaa
