/-
  (*runs.Runs).Remove. Conditions: the set's row rises and does not touch.
-/
import Derived.Test.YtcifbcdjkofomaaPlain3
import Derived.Test.YtcifbcdjkofomaaRep2
namespace Go.Proofs.Ytcifbcdjkofomaa
open Go.RowKit Go.Shelf
set_option linter.unusedVariables false
set_option linter.unusedSimpArgs false


/-- slices.Replace: every place, every row, what is put in lying elsewhere. -/
theorem replace_all (A : Option Addr) (n c m cv i j : Nat) (Av : Option Addr) (l ms : List Sp) (w : World) (h : SpRow w (.slice A n c) l) (hi : i ≤ j) (hj : j ≤ n) (hm : m = ms.length) (hr : RdSp w Av ms)
    (hap : ∀ ad, Av = some ad → Plain w ad.block ∧ some ad.block ≠ (Value.slice A n c).ownBlock) (hbig : (n + m) * 16 ≤ 140737488355328) :
    Calls Try.prog 88 #[.slice A n c, .int .i64 i, .int .i64 j, .slice Av m cv] w (Becomes w (.slice A n c) (l.take i ++ ms ++ l.drop j)) := by
  by_cases hle : i < j → i + m ≤ j
  · exact replace_le A n c m cv i j Av l ms w h hi hj hm hle hr hap hbig
  · have hlt : i < j := Classical.byContradiction fun hn => hle (fun h => absurd h hn)
    have hgt : j < i + m := Nat.lt_of_not_le fun hn => hle (fun _ => hn)
    have hl := h.len
    rcases h.shape with ⟨hv, rfl⟩ | ⟨g, cap, cur, hv, _⟩
    · simp at hl; omega
    · injection hv with hA _ _
      subst hA
      obtain ⟨ad, rfl, _⟩ := hr.src (by omega)
      obtain ⟨hpl, hne⟩ := hap ad rfl
      have hne' : ad.block ≠ g := fun e => hne (by simp [Value.ownBlock, e])
      by_cases hjn : j = n
      · have e : l.drop j = [] := List.drop_of_length_le (by omega)
        rw [e, List.append_nil]
        by_cases hroom : i + m ≤ c
        · exact replace_end_room g n c m cv i j (some ad) l ms w h hlt hjn hm hr hroom
        · exact replace_end_grow g n c m cv i j (some ad) l ms w h hlt hjn hm hr (by omega) hbig
      · by_cases htc : i + m + (n - j) ≤ c
        · exact replace_expand g n c m cv i j ad l ms w h hlt (by omega) hm hr hne' hpl hgt htc
        · exact replace_expandg g n c m cv i j ad l ms w h hlt (by omega) hm hr hgt (by omega) hbig

theorem tests62 {w : World} {g : Nat} {s : Sp} (h0 : w.cell? ⟨g, 0, none⟩ = some (.int .i64 s.1)) (h1 : w.cell? ⟨g, 1, none⟩ = some (.int .i64 s.2)) : Tests w 62 (.pointer (some ⟨g, 0, none⟩)) (fun y => decide (s.1 < y.2)) :=
  fun x W hb => rem1_any x.1 x.2 s.1 s.2 g W (Below.cell' hb h0) (Below.cell' hb h1)
theorem tests63 {w : World} {g : Nat} {s : Sp} (h0 : w.cell? ⟨g, 0, none⟩ = some (.int .i64 s.1)) (h1 : w.cell? ⟨g, 1, none⟩ = some (.int .i64 s.2)) : Tests w 63 (.pointer (some ⟨g, 0, none⟩)) (fun y => decide (s.2 ≤ y.1)) :=
  fun x W hb => rem2_any x.1 x.2 s.1 s.2 g W (Below.cell' hb h0) (Below.cell' hb h1)

set_option maxRecDepth 100000 in
set_option maxHeartbeats 1000000 in
theorem remove_bad (b : Nat) (s : Sp) (hs : mayB s.1 s.2 = false) (w : World) : Calls Try.prog 24 #[.pointer (some ⟨b, 0, none⟩), .agg #[.int .i64 s.1, .int .i64 s.2]] w fun e w' => e = .returned (.tuple #[.int .i64 0, .int .i64 3]) ∧ Below w.heap.size w w' := by
  go_enter Try.func24, Try.ntmps24
  go_wp2_with fail
  go_at_call 51
  refine (ask_any b s.1 s.2 _).mono ?_
  rw [hs, if_neg (by decide)]
  rintro e w1 ⟨rfl, hb⟩
  have x0 := Below.cell' hb (p := ⟨w.heap.size, 0, none⟩) (v := .int .i64 s.1) (by go_simp); have x1 := Below.cell' hb (p := ⟨w.heap.size, 1, none⟩) (v := .int .i64 s.2) (by go_simp); have xf := Below.frozen' hb (p := ⟨w.heap.size, 0, none⟩) (v := .int .i64 s.1) (by go_simp) (by go_simp); have xg := Below.frozen' hb (p := ⟨w.heap.size, 1, none⟩) (v := .int .i64 s.2) (by go_simp) (by go_simp); have hz := hb.size; (try simp only [World.size_alloc, World.size_setCell] at hz)
  have HB := Lib.hid hb; clear hb
  go_wp2_with fail
  refine bodyPost_ret (v := .tuple #[.int .i64 0, .int .i64 3]) (by simp [results, Try.results24, go_sem]) rfl ?_
  exact ⟨rfl, Below.then_ (Below.one _ _) HB.out⟩
set_option maxHeartbeats 1000000 in
set_option maxRecDepth 100000 in
theorem remove_empty (b : Nat) (a : Int) (hs : mayB a a = true) (w : World) : Calls Try.prog 24 #[.pointer (some ⟨b, 0, none⟩), .agg #[.int .i64 a, .int .i64 a]] w fun e w' => e = .returned (.tuple #[.int .i64 0, .int .i64 0]) ∧ Below w.heap.size w w' := by
  go_enter Try.func24, Try.ntmps24
  go_wp2_with fail
  go_at_call 51
  refine (ask_any b a a _).mono ?_
  rw [hs, if_pos rfl]
  rintro e w1 ⟨rfl, hb⟩
  have x0 := Below.cell' hb (p := ⟨w.heap.size, 0, none⟩) (v := .int .i64 a) (by go_simp); have x1 := Below.cell' hb (p := ⟨w.heap.size, 1, none⟩) (v := .int .i64 a) (by go_simp); have xf := Below.frozen' hb (p := ⟨w.heap.size, 0, none⟩) (v := .int .i64 a) (by go_simp) (by go_simp); have xg := Below.frozen' hb (p := ⟨w.heap.size, 1, none⟩) (v := .int .i64 a) (by go_simp) (by go_simp); have hz := hb.size; (try simp only [World.size_alloc, World.size_setCell] at hz)
  have HB := Lib.hid hb; clear hb hs
  go_wp2_with fail
  refine bodyPost_ret (v := .tuple #[.int .i64 0, .int .i64 0]) (by simp [results, Try.results24, go_sem]) rfl ?_
  exact ⟨rfl, Below.then_ (Below.one _ _) HB.out⟩

/-- A row that grows behind a world: it was the row of v0, or was made since. -/
def Grows (W : World) (v0 v : Value) (L : List Sp) (A : World) : Prop :=
  SpRow A v L ∧ (∀ k, v.ownBlock = some k → v0.ownBlock = some k ∨ W.heap.size ≤ k) ∧ Chg (fun k => v0.ownBlock = some k ∨ W.heap.size ≤ k) W A
theorem Grows.below {W : World} {v0 v : Value} {L : List Sp} {A A' : World} (h : Grows W v0 v L A) (hb : Below A.heap.size A A') : Grows W v0 v L A' :=
  ⟨h.1.below hb, h.2.1, h.2.2.trans (Chg.of_below (M := fun k => v0.ownBlock = some k ∨ W.heap.size ≤ k) hb) (fun _ _ h => h)⟩
theorem Grows.trans {W W2 : World} {v0 v v' : Value} {L L' : List Sp} {A A' : World} (h : Grows W v0 v L A) (hb : Below A.heap.size A W2) (k : Grows W2 v v' L' A') : Grows W v0 v' L' A' := by
  have hz : W.heap.size ≤ W2.heap.size := Nat.le_trans h.2.2.size hb.size
  refine ⟨k.1, fun j e => ?_, (h.below hb).2.2.trans k.2.2 (fun i hi e => ?_)⟩
  · rcases k.2.1 j e with e | e
    · exact h.2.1 j e
    · exact .inr (by omega)
  · rcases e with e | e
    · exact h.2.1 i e
    · exact .inr (by omega)
theorem Grows.step {W : World} {v0 v v' : Value} {L : List Sp} {x : Sp} {A A1 A' : World} (h : Grows W v0 v L A) (hb : Below A.heap.size A A1) (hrow : SpRow A' v' (L ++ [x])) (hc : Chg (fun k => some k = v.ownBlock) A1 A') (hown : v'.ownBlock = v.ownBlock ∨ ∃ g, v'.ownBlock = some g ∧ A1.heap.size ≤ g) : Grows W v0 v' (L ++ [x]) A' := by
  refine h.trans hb ⟨hrow, fun j e => ?_, hc.mono (fun k e => .inl e.symm)⟩
  rcases hown with e' | ⟨g, e', hg⟩
  · exact .inl (e' ▸ e)
  · rw [e'] at e; injection e with e; exact .inr (by omega)
theorem Grows.start (W : World) : Grows W (.slice none 0 0) (.slice none 0 0) [] W := ⟨SpRow.nil _, fun k e => .inl e, Chg.refl _ _⟩
end Go.Proofs.Ytcifbcdjkofomaa
