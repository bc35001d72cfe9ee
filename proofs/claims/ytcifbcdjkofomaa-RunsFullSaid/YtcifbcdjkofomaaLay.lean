/-
  (*runs.Runs).lay: the runs from one place to another go, some come. Conditions: the row keeps its rules.
-/
import Derived.Test.YtcifbcdjkofomaaHull
import Derived.Test.YtcifbcdjkofomaaRep
namespace Go.Proofs.Ytcifbcdjkofomaa
open Go.RowKit Go.Shelf
set_option linter.unusedVariables false
set_option linter.unusedSimpArgs false


set_option maxRecDepth 100000 in
set_option maxHeartbeats 2000000 in
/-- slices.Replace by at most as many as go, or where none go. -/
theorem replace_le (A : Option Addr) (n c m cv i j : Nat) (Av : Option Addr) (l ms : List Sp) (w : World) (h : SpRow w (.slice A n c) l) (hi : i ≤ j) (hj : j ≤ n) (hm : m = ms.length) (hle : i < j → i + m ≤ j) (hr : RdSp w Av ms)
    (hap : ∀ ad, Av = some ad → Plain w ad.block ∧ some ad.block ≠ (Value.slice A n c).ownBlock) (hbig : (n + m) * 16 ≤ 140737488355328) :
    Calls Try.prog 88 #[.slice A n c, .int .i64 i, .int .i64 j, .slice Av m cv] w (Becomes w (.slice A n c) (l.take i ++ ms ++ l.drop j)) := by
  have hl := h.len
  rcases Nat.eq_or_lt_of_le hi with rfl | hlt
  · have HI := insert_any A n c m cv i Av l ms w h hj hm hr hap hbig
    have hA : (∃ g, A = some ⟨g, 0, none⟩) ∨ (A = none ∧ n = 0 ∧ c = 0) := by
      rcases h.shape with ⟨hv, _⟩ | ⟨g, cap, cur, hv, _⟩
      · injection hv with h1 h2 h3; exact .inr ⟨h1, h2, h3⟩
      · injection hv with h1 h2 h3; exact .inl ⟨g, h1⟩
    have hcc : ((i : Int) == i) = true := by simp
    have hnc : n ≤ c := by omega
    have hcm : c ≤ 9223372036854775807 := hl.2.2
    clear h hl hm hle hr hap hbig
    rcases hA with ⟨g, rfl⟩ | ⟨rfl, rfl, rfl⟩
    · rcases Decidable.em (c = i) with rfl | hci
      all_goals
        go_enter Try.func88, Try.ntmps88
        go_wp2_with fail
        go_at_call 100
        with_reducible refine HI.mono ?_
        rintro e w1 ⟨v', rfl, hp⟩
        have HP := Lib.hid hp; clear hp
        go_wp2_with fail
        go_ret
        exact ⟨_, rfl, HP.out⟩
    · obtain rfl : i = 0 := by omega
      rw [show ((0 : Nat) : Int) = 0 from rfl] at HI ⊢
      generalize List.take 0 l ++ ms ++ List.drop 0 l = L at HI ⊢
      go_enter Try.func88, Try.ntmps88
      go_wp2_with fail
      go_at_call 100
      with_reducible refine HI.mono ?_
      rintro e w1 ⟨v', rfl, hp⟩
      have HP := Lib.hid hp; clear hp
      go_wp2_with fail
      go_ret
      exact ⟨_, rfl, HP.out⟩
  · have hle := hle hlt
    rcases h.shape with ⟨hv, rfl⟩ | ⟨g, cap, cur, hv, _⟩
    · simp at hl; omega
    · injection hv with hA _ _
      subst hA
      by_cases hjn : j = n
      · have := replace_end_room g n c m cv i j Av l ms w h hlt hjn hm hr (by omega)
        rw [List.drop_of_length_le (by omega), List.append_nil]
        exact this
      · exact replace_shrink g n c m cv i j Av l ms w h hlt (by omega) hm hr (fun ad e => fun h2 => (hap ad e).2 (by simp [Value.ownBlock, h2])) hle

/-- What a set has come to: its row another one, or the same. -/
def RunsPost (w : World) (b : Nat) (v : Value) (l' : List Sp) (w' : World) : Prop :=
  ∃ v', IsRuns w' b v' l' ∧ Chg (fun k => k = b ∨ some k = v.ownBlock) w w' ∧ (v'.ownBlock = v.ownBlock ∨ ∃ g, v'.ownBlock = some g ∧ w.heap.size ≤ g)

theorem lay_full {w : World} {b : Nat} {v : Value} {l : List Sp} (h : IsRuns w b v l) (lo hi m cv : Nat) (Av : Option Addr) (hl : l.length ≤ 4096) (hij : lo ≤ hi) (hj : hi ≤ l.length) (hm : m ≤ 4096) (hf : 4096 < l.length - (hi - lo) + m) :
    Calls Try.prog 56 #[.pointer (some ⟨b, 0, none⟩), .int .i64 lo, .int .i64 hi, .slice Av m cv] w fun e w' => e = .returned (.int .i64 4) ∧ w' = w := by
  have hc := h.cell
  obtain ⟨A, c, rfl, _, _⟩ := h.row.form
  have h1 : IntKind.i64.wrap ((hi : Int) - lo) = hi - lo := by rw [IntKind.wrap_i64]; omega
  have h2 : IntKind.i64.wrap ((l.length : Int) - (hi - lo)) = l.length - (hi - lo) := by rw [IntKind.wrap_i64]; omega
  have h3 : IntKind.i64.wrap ((l.length : Int) - (hi - lo) + m) = l.length - (hi - lo) + m := by rw [IntKind.wrap_i64]; omega
  have h4 : (4096 : Int) < (l.length : Int) - (hi - lo) + m := by omega
  go_enter Try.func56, Try.ntmps56
  go_wp2_with fail
  go_ret
  exact ⟨rfl, rfl⟩

theorem lay_ok {w : World} {b : Nat} {v : Value} {l : List Sp} (h : IsRuns w b v l) (lo hi m cv : Nat) (Av : Option Addr) (ms : List Sp) (hl : l.length ≤ 4096) (hij : lo ≤ hi) (hj : hi ≤ l.length) (hm : m ≤ 4096) (hf : l.length - (hi - lo) + m ≤ 4096)
    (hrep : Calls Try.prog 88 #[v, .int .i64 lo, .int .i64 hi, .slice Av m cv] w (Becomes w v (l.take lo ++ ms ++ l.drop hi))) :
    Calls Try.prog 56 #[.pointer (some ⟨b, 0, none⟩), .int .i64 lo, .int .i64 hi, .slice Av m cv] w fun e w' => e = .returned (.int .i64 0) ∧ RunsPost w b v (l.take lo ++ ms ++ l.drop hi) w' := by
  have hc := h.cell
  have hne := h.ne
  have hbx := h.box
  obtain ⟨A, c, rfl, _, _⟩ := h.row.form
  have h1 : IntKind.i64.wrap ((hi : Int) - lo) = hi - lo := by rw [IntKind.wrap_i64]; omega
  have h2 : IntKind.i64.wrap ((l.length : Int) - (hi - lo)) = l.length - (hi - lo) := by rw [IntKind.wrap_i64]; omega
  have h3 : IntKind.i64.wrap ((l.length : Int) - (hi - lo) + m) = l.length - (hi - lo) + m := by rw [IntKind.wrap_i64]; omega
  have h4 : ¬ (4096 : Int) < (l.length : Int) - (hi - lo) + m := by omega
  go_enter Try.func56, Try.ntmps56
  go_wp2_with fail
  go_at_call 88
  refine hrep.mono ?_
  rintro e w1 ⟨v', rfl, hrow, hch, hown⟩
  have hb1 : w1.heap[b]? = some (.cells #[.slice A l.length c] 92 (0, 0)) := hch.at_ hbx (fun e => hne e.symm)
  have hb2 : w1.cell? ⟨b, 0, none⟩ = some (.slice A l.length c) := by rw [cell_of_at hb1]; rfl
  have hb3 : w1.frozen? ⟨b, 0, none⟩ = false := by simp [World.frozen?, hb1]
  obtain ⟨N, A', c', rfl⟩ : ∃ N A' c', v' = .slice A' N c' := by
    obtain ⟨A', c', e, _, _⟩ := hrow.form
    exact ⟨_, A', c', e⟩
  have HX := Lib.hid (And.intro hrow (And.intro hch (And.intro hown (And.intro hb1 hne))))
  clear hrow hch hown hne hb1
  go_wp2_with fail
  go_ret
  obtain ⟨hrow, hch, hown, hb1, hne⟩ := HX.out
  have hbw : b < w.heap.size := lt_of_at hbx
  refine ⟨rfl, _, ⟨(heap_setCell_same w1 b 0 _ _ _ hb1).trans rfl, hrow.chg (M := fun k => k = b) (Chg.setCell (fun k => k = b) w1 (p := ⟨b, 0, none⟩) rfl _) ?_⟩,
    (hch.mono (fun k h => .inr h)).trans (Chg.setCell (fun k => k = b) w1 (p := ⟨b, 0, none⟩) rfl _) (fun k _ h => .inl h), hown⟩
  intro k hk e
  subst e
  rcases hown with h | ⟨g, h, hg⟩
  · exact hne (h ▸ hk)
  · rw [hk] at h; injection h with h; omega
end Go.Proofs.Ytcifbcdjkofomaa
