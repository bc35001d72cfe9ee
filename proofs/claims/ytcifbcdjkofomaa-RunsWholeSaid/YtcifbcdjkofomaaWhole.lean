/-
  RunsWhole: the walk. Conditions: the list reads as it stands.
-/
import Derived.Test.YtcifbcdjkofomaaNone
import Derived.Test.YtcifbcdjkofomaaPlain2
import Derived.Test.YtcifbcdjkofomaaRefs
namespace Go.Proofs.Ytcifbcdjkofomaa
open Go.RowKit Go.Shelf
set_option linter.unusedVariables false
set_option linter.unusedSimpArgs false

attribute [local go_sem] Oper.semAt_some run_min run_max run_field24_0 run_field24_1

/-- All that is added of a list. -/
def addAll (l : List Sp) (k : Nat) : List Sp := (l.take k).foldl addS []
theorem addAll_succ (l : List Sp) (k : Nat) (h : k < l.length) : addAll l (k + 1) = addS (addAll l k) (atS l k) := by
  unfold addAll; rw [List.take_succ_eq_append_getElem h, List.foldl_append, atS_get l k h]; rfl
theorem addAll_wf (l : List Sp) (k : Nat) : WF (addAll l k) ∧ (addAll l k).length ≤ k := by
  have : ∀ (m : List Sp) (a : List Sp), WF a → WF (m.foldl addS a) ∧ (m.foldl addS a).length ≤ a.length + m.length := by
    intro m
    induction m with
    | nil => intro a h; exact ⟨h, by simp⟩
    | cons x m ih =>
      intro a h
      obtain ⟨h1, _, h3⟩ := addS_wf h x
      obtain ⟨i1, i2⟩ := ih _ h1
      exact ⟨i1, by rw [List.foldl_cons, List.length_cons]; omega⟩
  obtain ⟨h1, h2⟩ := this (l.take k) [] WF.nil
  exact ⟨h1, by rw [List.length_take] at h2; simp at h2; unfold addAll; omega⟩

theorem results_cell4 {fn : Func} (h : fn.results = #[.cell 4 4]) (tmps : Array Value) (w : World) (g : Nat) (b : Bool) (hp : tmps.getD 4 undef = .pointer (some ⟨g, 0, none⟩)) (hc : w.cell? ⟨g, 0, none⟩ = some (.bool b)) :
    (results fn tmps).run Try.prog w = .ok (.bool b) w := by
  have hp' : tmps[4]?.getD undef = .pointer (some ⟨g, 0, none⟩) := by simpa using hp
  simp [results, h, go_sem, hp', hc]
theorem whole_end {w V1 : World} {N D1 D2 rb : Nat} (tmps : Array Value) (h4 : tmps.getD 4 undef = .pointer (some ⟨rb, 0, none⟩)) (hB : Below w.heap.size w V1) (h1 : V1.heap[D1]? = some (.deferred (some []))) (h2 : V1.heap[D2]? = some (.deferred (some [])))
    (hr : V1.heap[rb]? = some (.cells #[.bool false] 4 (0, 0))) (hrb : w.heap.size ≤ rb) (hD1 : w.heap.size ≤ D1) (hD2 : w.heap.size ≤ D2) (hne : D1 ≠ D2) :
    bodyPostM Fence.wide N Try.prog Try.f3 (fun e w' => e = .returned (.bool true) ∧ Below w.heap.size w w') Exit.ret { tmps := tmps, defers := [{ target := .collected D2, args := #[] }, { target := .collected D1, args := #[] }] } (V1.setCell ⟨rb, 0, none⟩ (.bool true)) := by
  have n1 : D1 ≠ rb := by rintro rfl; rw [hr] at h1; cases h1
  have n2 : D2 ≠ rb := by rintro rfl; rw [hr] at h2; cases h2
  have k2 : (V1.setCell ⟨rb, 0, none⟩ (.bool true)).heap[D2]? = some (.deferred (some [])) := by rw [heap_setCell_other _ _ _ _ n2]; exact h2
  have k1 : ((V1.setCell ⟨rb, 0, none⟩ (.bool true)).putObj D2 (.deferred none)).heap[D1]? = some (.deferred (some [])) := by
    rw [World.putObj_heap_other hne, heap_setCell_other _ _ _ _ n1]; exact h1
  have kr : (V1.setCell ⟨rb, 0, none⟩ (.bool true)).heap[rb]? = some (.cells #[.bool true] 4 (0, 0)) := (heap_setCell_same V1 rb 0 _ _ _ hr).trans rfl
  refine ⟨by simp, .inl ⟨_, _, rfl, run_takeDeferred k2, ?_⟩⟩
  refine ⟨by simp, .inl ⟨_, _, rfl, run_takeDeferred k1, ?_⟩⟩
  refine ⟨_, results_cell4 rfl tmps _ rb true h4 ?_, rfl, ?_⟩
  · rw [cell_of_at (t := 4) (cs := #[.bool true])]
    · rfl
    · rw [World.putObj_heap_other (by omega), World.putObj_heap_other (by omega)]; exact kr
  · have c1 := Chg.setCell (fun k => k = rb) V1 (p := ⟨rb, 0, none⟩) rfl (.bool true)
    refine hB.trans ((c1.belowAt hB.size (fun k hk e => by omega)).trans ?_)
    refine ((chg_putObj _ D2 (.deferred none)).belowAt ?_ (fun k hk e => by omega)).trans ((chg_putObj _ D1 (.deferred none)).belowAt ?_ (fun k hk e => by omega))
    · exact Nat.le_trans hB.size c1.size
    · exact Nat.le_trans hB.size (Nat.le_trans c1.size (chg_putObj _ D2 (.deferred none)).size)
/-- What the first range knows: a set that grows, and a sum. -/
def GI (w5 : World) (c nb : Nat) (t0 : Option Nat) : Inv := fun pre O A =>
  ∃ t, SetAt A c t pre ∧ (∀ k, O k ↔ t = some k) ∧ (∀ k, t = some k → t0 = some k ∨ w5.heap.size ≤ k) ∧ A.heap[nb]? = some (.cells #[.int .i64 (sumLen pre)] 3 (0, 0)) ∧ Chg (fun k => k = c ∨ k = nb ∨ t0 = some k ∨ w5.heap.size ≤ k) w5 A
theorem GI.calm {w5 : World} {c nb : Nat} {t0 : Option Nat} (hc : c < w5.heap.size) (hn : nb < w5.heap.size) : Calm w5.heap.size (GI w5 c nb t0) := by
  rintro pre O A A' M ⟨t, h1, h2, h3, h4, h5⟩ hc' hM
  refine ⟨t, h1.chg hc' (fun hm => ?_) (fun k e hm => ?_), h2, h3, hc'.at_ h4 (fun hm => ?_), h5.trans hc' (fun i hi hm => ?_)⟩
  · have := (hM _ h1.lt hm).1; omega
  · subst e; exact (hM k h1.ltR hm).2 ((h2 k).2 rfl)
  · have := (hM _ (lt_of_at' h4) hm).1; omega
  · have := (hM i (by have := h5.size; omega) hm).1; exact absurd this (by omega)
theorem GI.lt {w5 : World} {c nb : Nat} {t0 : Option Nat} : ∀ pre O A, GI w5 c nb t0 pre O A → ∀ k, O k → k < A.heap.size := by
  rintro pre O A ⟨t, h1, h2, h3, h4, h5⟩ k hk
  have := (h2 k).1 hk; subst this; exact h1.ltR
theorem GI.step {w5 V V1 V4 : World} {c nb : Nat} {t0 t t' : Option Nat} {K O : Nat → Prop} {pre : List Sp} {x : Sp} {n : Int} (hK : ∀ k, K k → k < w5.heap.size ∧ k ≠ c ∧ k ≠ nb ∧ t0 ≠ some k)
    (hc : c < w5.heap.size) (hn : nb < w5.heap.size) (hcn : c ≠ nb) (htn : t0 ≠ some nb) (hV : w5.heap.size ≤ V.heap.size)
    (h2 : ∀ k, O k ↔ t = some k) (h3 : ∀ k, t = some k → t0 = some k ∨ w5.heap.size ≤ k) (h4 : V.heap[nb]? = some (.cells #[.int .i64 (sumLen pre)] 3 (0, 0))) (h5 : Chg (fun k => k = c ∨ k = nb ∨ t0 = some k ∨ w5.heap.size ≤ k) w5 V)
    (a1 : SetAt V1 c t' (pre ++ [x])) (a2 : Chg (fun j => j = c ∨ some j = t) V V1) (a3 : t' = t ∨ ∃ g, t' = some g ∧ V.heap.size ≤ g) (hb : Below (V1.setCell ⟨nb, 0, none⟩ (.int .i64 n)).heap.size (V1.setCell ⟨nb, 0, none⟩ (.int .i64 n)) V4)
    (hsum : n = sumLen (pre ++ [x])) (a' : Act) (Ix : Code → Inv) :
    BodyEnds K w5.heap.size (GI w5 c nb t0) Ix (pre ++ [x]) O V Exit.normal a' V4 := by
  subst hsum
  have hne : ∀ k, t = some k → k ≠ nb := by
    rintro k e rfl
    rcases h3 _ e with h | h
    · exact htn h
    · omega
  have e1 : V1.heap[nb]? = some (.cells #[.int .i64 (sumLen pre)] 3 (0, 0)) := a2.at_ h4 (fun h => by
    rcases h with h | h
    · exact hcn h.symm
    · exact hne _ h.symm rfl)
  have hsc := Chg.setCell (fun k => k = nb) V1 (p := ⟨nb, 0, none⟩) rfl (.int .i64 (sumLen (pre ++ [x])))
  have all : Chg (fun j => j = c ∨ some j = t ∨ j = nb) V V4 :=
    (a2.mono (M' := fun j => j = c ∨ some j = t ∨ j = nb) (fun k h => by rcases h with h | h; { exact .inl h }; { exact .inr (.inl h) })).trans
      ((hsc.mono (M' := fun j => j = c ∨ some j = t ∨ j = nb) (fun k h => .inr (.inr h))).trans (Chg.of_below hb) (fun _ _ h => h)) (fun _ _ h => h)
  refine ⟨fun k => t' = some k, fun k hk => ?_, ⟨all.size, fun b o hb ho => ?_⟩, t', ?_, fun k => Iff.rfl, fun k hk => ?_, ?_, ?_⟩
  · rcases a3 with e | ⟨g, e, hg⟩
    · exact .inl ((h2 k).2 (e ▸ hk))
    · rw [e] at hk; injection hk with hk; exact .inr (by omega)
  · refine all.at_ ho (fun e => ?_)
    rcases hb with h | h
    · obtain ⟨k1, k2, k3, k4⟩ := hK b h
      rcases e with e | e | e
      · exact k2 e
      · rcases h3 b e.symm with h' | h'
        · exact k4 h'
        · omega
      · exact k3 e
    · rcases e with e | e | e
      · omega
      · exact h.2 ((h2 b).2 e.symm)
      · omega
  · exact (a1.chg hsc (fun e => hcn e) (fun k e he => by
      rcases a3 with e' | ⟨g, e', hg⟩
      · exact hne k (e' ▸ e) he
      · rw [e'] at e; injection e with e; omega)).below hb
  · rcases a3 with e | ⟨g, e, hg⟩
    · exact h3 k (e ▸ hk)
    · rw [e] at hk; injection hk with hk; exact .inr (by omega)
  · exact Below.at' hb ((heap_setCell_same V1 nb 0 _ _ _ e1).trans rfl)
  · refine h5.trans all (fun i hi e => ?_)
    rcases e with e | e | e
    · exact .inl e
    · rcases h3 i e.symm with h | h
      · exact .inr (.inr (.inl h))
      · omega
    · exact .inr (.inl e)

/-- What the second range knows: a set that fills. -/
def FI (w6 : World) (c : Nat) (t0 : Option Nat) (G : List Sp) (s : Sp) : Inv := fun pre O A =>
  ∃ t a, SetAt A c t a ∧ (∀ k, O k ↔ t = some k) ∧ (∀ k, t = some k → t0 = some k ∨ w6.heap.size ≤ k) ∧ Fills G s pre a ∧ Chg (fun k => k = c ∨ t0 = some k ∨ w6.heap.size ≤ k) w6 A
theorem FI.calm {w6 : World} {c : Nat} {t0 : Option Nat} {G : List Sp} {s : Sp} (hc : c < w6.heap.size) : Calm w6.heap.size (FI w6 c t0 G s) := by
  rintro pre O A A' M ⟨t, a, h1, h2, h3, h4, h5⟩ hc' hM
  refine ⟨t, a, h1.chg hc' (fun hm => ?_) (fun k e hm => ?_), h2, h3, h4, h5.trans hc' (fun i hi hm => ?_)⟩
  · have := (hM _ h1.lt hm).1; omega
  · subst e; exact (hM k h1.ltR hm).2 ((h2 k).2 rfl)
  · have := (hM i (by have := h5.size; omega) hm).1; exact absurd this (by omega)
theorem FI.lt {w6 : World} {c : Nat} {t0 : Option Nat} {G : List Sp} {s : Sp} : ∀ pre O A, FI w6 c t0 G s pre O A → ∀ k, O k → k < A.heap.size := by
  rintro pre O A ⟨t, a, h1, h2, h3, h4, h5⟩ k hk
  have := (h2 k).1 hk; subst this; exact h1.ltR
theorem FI.step {w6 V Va V1 : World} {c : Nat} {t0 t t' : Option Nat} {K O : Nat → Prop} {G : List Sp} {s : Sp} {pre b : List Sp} {x : Sp} (hK : ∀ k, K k → k < w6.heap.size ∧ k ≠ c ∧ t0 ≠ some k)
    (hc : c < w6.heap.size) (hV : w6.heap.size ≤ V.heap.size) (h2 : ∀ k, O k ↔ t = some k) (h3 : ∀ k, t = some k → t0 = some k ∨ w6.heap.size ≤ k) (h5 : Chg (fun k => k = c ∨ t0 = some k ∨ w6.heap.size ≤ k) w6 V)
    (hb : Below V.heap.size V Va) (a1 : SetAt V1 c t' b) (a2 : Chg (fun j => j = c ∨ some j = t) Va V1) (a3 : t' = t ∨ ∃ g, t' = some g ∧ Va.heap.size ≤ g) (hF : Fills G s (pre ++ [x]) b) (a' : Act) (Ix : Code → Inv) :
    BodyEnds K w6.heap.size (FI w6 c t0 G s) Ix (pre ++ [x]) O V Exit.normal a' V1 := by
  have all : Chg (fun j => j = c ∨ some j = t) V V1 := (Chg.of_below (M := fun j => j = c ∨ some j = t) hb).trans a2 (fun _ _ h => h)
  have hz := hb.size
  refine ⟨fun k => t' = some k, fun k hk => ?_, ⟨all.size, fun b o hb ho => ?_⟩, t', b, a1, fun k => Iff.rfl, fun k hk => ?_, hF, ?_⟩
  · rcases a3 with e | ⟨g, e, hg⟩
    · exact .inl ((h2 k).2 (e ▸ hk))
    · rw [e] at hk; injection hk with hk; exact .inr (by omega)
  · refine all.at_ ho (fun e => ?_)
    rcases hb with h | h
    · obtain ⟨k1, k2, k4⟩ := hK b h
      rcases e with e | e
      · exact k2 e
      · rcases h3 b e.symm with h' | h'
        · exact k4 h'
        · omega
    · rcases e with e | e
      · omega
      · exact h.2 ((h2 b).2 e.symm)
  · rcases a3 with e | ⟨g, e, hg⟩
    · exact h3 k (e ▸ hk)
    · rw [e] at hk; injection hk with hk; exact .inr (by omega)
  · refine h5.trans all (fun i hi e => ?_)
    rcases e with e | e
    · exact .inl e
    · rcases h3 i e.symm with h | h
      · exact .inr (.inl h)
      · omega

set_option maxRecDepth 100000 in
set_option maxHeartbeats 8000000 in
theorem runsWhole_walk (A : Option Addr) (n c : Nat) (l : List Sp) (s : Sp) (w : World) (hl : RdSp w A l) (hn : Hid (n = l.length)) (hnc : n ≤ c) (hc : c ≤ 9223372036854775807) :
    Calls Try.prog 3 #[.slice A n c, .agg #[.int .i64 s.1, .int .i64 s.2]] w fun e w' => e = .returned (.bool true) ∧ Below w.heap.size w w' := by
  obtain ⟨N, hN⟩ : ∃ n : Nat, Hid (20 ≤ n) := ⟨20, Nat.le_refl _⟩
  have HL := Lib.hid hl; clear hl
  refine (callsIn_wide (n := N)).1 ?_
  refine callsIn_of_wp_marks Try.func3 rfl trivial ?_ rfl
  simp only [Try.ntmps3, List.size_toArray, List.length_cons, List.length_nil, Nat.reduceAdd, Nat.reduceSub, Array.replicate_succ, Array.replicate_zero, List.push_toArray, List.append_toArray, List.nil_append, List.cons_append]
  gi_wp2_with fail
  refine ⟨trivial, (fun h => by cases h), ?_⟩; refine callsIn_wide.2 ((known_any _).mono ?_)
  rintro e w1 ⟨rfl, hb⟩
  have a0 := Below.cell' hb (p := ⟨w.heap.size, 0, none⟩) (v := .int .i64 s.1) (by go_simp); have a1 := Below.cell' hb (p := ⟨w.heap.size, 1, none⟩) (v := .int .i64 s.2) (by go_simp); have af := Below.frozen' hb (p := ⟨w.heap.size, 0, none⟩) (v := .int .i64 s.1) (by go_simp) (by go_simp); have ag := Below.frozen' hb (p := ⟨w.heap.size, 1, none⟩) (v := .int .i64 s.2) (by go_simp) (by go_simp); have hz := hb.size; (try simp only [World.size_alloc, World.size_setCell] at hz)
  have r0 := Below.cell' hb (p := ⟨(w.heap.size + 1), 0, none⟩) (v := (.bool false)) (by go_simp)
  have H1 : Hid (Below w.heap.size w w1) := Below.then_ (by (repeat (with_reducible first | exact Below.refl _ _ | assumption | (refine Below.setCell ?_ (by first | (simp; done) | (simp; omega) | omega) _) | (refine Below.alloc ?_ (by first | (simp; done) | (simp; omega) | omega) _) | refine Below.drew ?_ | refine Below.drewN_ ?_ _ | (refine Below.then_ ?_ (by with_reducible assumption))))) hb
  have hs1 : w1.heap[w.heap.size]? = some (.cells #[.int .i64 s.1, .int .i64 s.2] 24 (0, 0)) := Below.at' hb ((Below.heap_alloc _ _ _ (by simp)).trans (World.alloc_heap_new w _))
  have hr1 : w1.heap[w.heap.size + 1]? = some (.cells #[.bool false] 4 (0, 0)) := Below.at' hb (by
    have := World.alloc_heap_new (w.alloc (.cells #[.int .i64 s.1, .int .i64 s.2] 24)) (.cells #[.bool false] 4)
    rwa [World.size_alloc] at this)
  clear hb
  have HX := Lib.hid (And.intro hs1 hr1); clear hs1 hr1 a0 a1 af ag r0
  gi_wp2_with fail
  refine ⟨trivial, (fun h => by cases h), ?_⟩; refine callsIn_wide.2 ((new_any _).mono ?_)
  rintro e w2 ⟨rfl, hw2⟩
  have hz2 : w2.heap.size = w1.heap.size + 1 := by rw [hw2]; simp
  have HW2 := Lib.hid hw2; clear hw2
  gi_wp2_with fail
  refine ⟨trivial, (fun h => by cases h), ?_⟩; refine callsIn_wide.2 ((new_any _).mono ?_)
  rintro e w3 ⟨rfl, hw3⟩
  have hz3 : w3.heap.size = w1.heap.size + 2 := by rw [hw3]; simp; omega
  have HW3 := Lib.hid hw3; clear hw3
  gi_wp2_with fail
  obtain ⟨g, hg⟩ : ∃ g, g = w1.heap.size := ⟨_, rfl⟩
  obtain ⟨W0, hW0⟩ : ∃ W0, W0 = ((w3.alloc (.cells #[.pointer (some ⟨w1.heap.size, 0, none⟩)] 26)).alloc (.cells #[.pointer (some ⟨w1.heap.size + 1, 0, none⟩)] 26)) := ⟨_, rfl⟩
  rw [← hW0]
  have hz0 : W0.heap.size = g + 4 := by rw [hW0, hg]; simp; omega
  have hBelow0 : Below w1.heap.size w1 W0 := by rw [hW0, HW3.out, HW2.out]; (repeat (with_reducible first | exact Below.refl _ _ | assumption | (refine Below.setCell ?_ (by first | (simp; done) | (simp; omega) | omega) _) | (refine Below.alloc ?_ (by first | (simp; done) | (simp; omega) | omega) _) | refine Below.drew ?_ | refine Below.drewN_ ?_ _ | (refine Below.then_ ?_ (by with_reducible assumption))))
  have h50 : W0.heap[g + 2]? = some (.cells #[.pointer (some ⟨g, 0, none⟩)] 26 (0, 0)) := by
    rw [hW0, hg]
    have := World.alloc_heap_new w3 (.cells #[.pointer (some ⟨w1.heap.size, 0, none⟩)] 26)
    rw [hz3] at this
    exact (Below.heap_alloc _ _ _ (by simp; omega)).trans this
  have h60 : W0.heap[g + 3]? = some (.cells #[.pointer (some ⟨g + 1, 0, none⟩)] 26 (0, 0)) := by
    rw [hW0, hg]
    have := World.alloc_heap_new (w3.alloc (.cells #[.pointer (some ⟨w1.heap.size, 0, none⟩)] 26)) (.cells #[.pointer (some ⟨w1.heap.size + 1, 0, none⟩)] 26)
    rw [World.size_alloc, hz3] at this
    exact this
  have hT0 : Two (g + 4) W0 g (g + 1) [] [] := by
    refine ⟨none, none, ?_, ?_, by simp, by simp, by simp⟩
    · have h1 := SetAt.new w1
      rw [← HW2.out, ← hg] at h1
      rw [hW0, HW3.out]
      exact h1.below (by (repeat (with_reducible first | exact Below.refl _ _ | assumption | (refine Below.setCell ?_ (by first | (simp; done) | (simp; omega) | omega) _) | (refine Below.alloc ?_ (by first | (simp; done) | (simp; omega) | omega) _) | refine Below.drew ?_ | refine Below.drewN_ ?_ _ | (refine Below.then_ ?_ (by with_reducible assumption)))))
    · have h1 := SetAt.new w2
      rw [← HW3.out, hz2, ← hg] at h1
      rw [hW0]
      exact h1.below (by (repeat (with_reducible first | exact Below.refl _ _ | assumption | (refine Below.setCell ?_ (by first | (simp; done) | (simp; omega) | omega) _) | (refine Below.alloc ?_ (by first | (simp; done) | (simp; omega) | omega) _) | refine Below.drew ?_ | refine Below.drewN_ ?_ _ | (refine Below.then_ ?_ (by with_reducible assumption)))))
  have hs0 := Below.at' hBelow0 HX.out.1
  have hr0 := Below.at' hBelow0 HX.out.2
  have HF := Lib.hid (And.intro hz0 (And.intro hBelow0 (And.intro h50 (And.intro h60 (And.intro hs0 hr0)))))
  have hgw : w.heap.size + 2 ≤ g := by rw [hg]; omega
  have HB0 : Hid (Below w.heap.size w W0) := Below.then_ H1.out hBelow0
  have HT0 := Lib.hid hT0
  rw [← hg]
  clear hg hW0 hz0 hBelow0 h50 h60 hT0 hs0 hr0 hz2 hz3 hz HW2 HW3 HX
  gi_loopw [7] (fun i wr => ∃ k : Nat, i = .int .i64 k ∧ k ≤ n ∧ k ≤ 100 ∧ Hid (Two (g + 4) wr g (g + 1) (addAll l k) []) ∧ Hid (Chg (fun j => j = g ∨ g + 4 ≤ j) W0 wr)) (fun i _ => 100 - (intOf i).toNat)
  case atStart => exact ⟨0, rfl, Nat.zero_le _, Nat.zero_le _, HT0, Chg.refl _ _⟩
  case round =>
    obtain ⟨k, rfl, hkn, hk, HT, HC⟩ := hrel
    by_cases hgo : k < n ∧ k < 100
    · obtain ⟨hlt, h100⟩ := hgo
      · have h5 : wr.cell? ⟨g + 2, 0, none⟩ = some (.pointer (some ⟨g, 0, none⟩)) := by rw [cell_of_at (HC.out.at_ HF.out.2.2.1 (by omega))]; rfl
        have hBw : Below w.heap.size w wr := HB0.out.trans (HC.out.belowAt (by have := HF.out.1; omega) (by omega))
        rcases HL.out with hnil | ⟨g', o, rfl, hcc⟩
        · have := hn.out; rw [hnil] at this; simp at this; omega
        · have d5 := (hcc k (by have := hn.out; omega)).1
          have d6 := (hcc k (by have := hn.out; omega)).2
          have hg' : g' < w.heap.size := World.block_lt_of_cell? w _ d5
          replace d5 := Below.cell' hBw d5
          replace d6 := Below.cell' hBw d6
          rw [← atS_get l k (by have := hn.out; omega)] at d5 d6; rw [← Nat.add_assoc] at d6
          clear hcc hBw
          have hlt' : (k : Int) < n := by omega
          have h100' : (k : Int) < 100 := by omega
          gi_wp2_with fail
          have hdz : g + 4 ≤ wr.drew.heap.size := by have h1 := HC.out.size; have h2 := HF.out.1; show g + 4 ≤ wr.heap.size; omega
          refine wpIn_wide.2 ?_
          go_region_held3 (fun w' => w'.cell? ⟨g + 2, 0, none⟩ = some (.pointer (some ⟨g, 0, none⟩)) ∧ w'.cell? ⟨g', o + k * 2, none⟩ = some (.int .i64 (atS l k).1) ∧ w'.cell? ⟨g', o + k * 2 + 1, none⟩ = some (.int .i64 (atS l k).2)) (go_keep) ((go_at_call 15; with_reducible refine (add_two (HT.out.below (by (repeat (with_reducible first | exact Below.refl _ _ | assumption | (refine Below.setCell ?_ (by first | (simp; done) | (simp; omega) | omega) _) | (refine Below.alloc ?_ (by first | (simp; done) | (simp; omega) | omega) _) | refine Below.drew ?_ | refine Below.drewN_ ?_ _ | (refine Below.then_ ?_ (by with_reducible assumption)))))) (by first | exact hdz | assumption) (by omega) (by omega) (by omega) (addAll_wf l k).1 (by have := (addAll_wf l k).2; omega) (atS l k)).mono ?_; rintro e w4 ⟨rfl, hT4, hC4⟩; dsimp only; have u0 := hC4.cell (p := ⟨g + 2, 0, none⟩) (v := .pointer (some ⟨g, 0, none⟩)) (by first | (go_simp; done) | fail "no") (by simp); have u1 := hC4.cell (p := ⟨g', o + k * 2, none⟩) (v := .int .i64 (atS l k).1) (by first | (go_simp; done) | fail "no") (by simp; omega); have u2 := hC4.cell (p := ⟨g', o + k * 2 + 1, none⟩) (v := .int .i64 (atS l k).2) (by first | (go_simp; done) | fail "no") (by simp; omega)))
          all_goals
            have HN : Hid (Two (g + 4) w4 g (g + 1) (addAll l (k + 1)) [] ∧ Chg (fun j => j = g ∨ g + 4 ≤ j) W0 w4) := by
              refine ⟨?_, HC.out.trans ((Chg.of_below (M := fun j => j = g ∨ g + 4 ≤ j) (by (repeat (with_reducible first | exact Below.refl _ _ | assumption | (refine Below.setCell ?_ (by first | (simp; done) | (simp; omega) | omega) _) | (refine Below.alloc ?_ (by first | (simp; done) | (simp; omega) | omega) _) | refine Below.drew ?_ | refine Below.drewN_ ?_ _ | (refine Below.then_ ?_ (by with_reducible assumption)))))).trans hC4 (fun _ _ h => h)) (fun _ _ h => h)⟩
              rw [addAll_succ l k (by have := hn.out; omega)]
              exact hT4
            clear hT4 hC4 d5 d6 h5 u0 u1 u2
            gi_wp2_with fail
            go_roundw
            case rel => exact ⟨k + 1, by go_num, by omega, by omega, HN.out.1, HN.out.2⟩
            case measure => simp [intOf]; omega
    · have hBw : Below w.heap.size w wr := HB0.out.trans (HC.out.belowAt (by have := HF.out.1; omega) (by omega))
      obtain ⟨hz0, hBelow0, h50, h60, hs0, hr0⟩ := HF.out
      have h5 : wr.heap[g + 2]? = some (.cells #[.pointer (some ⟨g, 0, none⟩)] 26 (0, 0)) := HC.out.at_ h50 (by omega)
      have h6 : wr.heap[g + 3]? = some (.cells #[.pointer (some ⟨g + 1, 0, none⟩)] 26 (0, 0)) := HC.out.at_ h60 (by omega)
      have hs : wr.heap[w.heap.size]? = some (.cells #[.int .i64 s.1, .int .i64 s.2] 24 (0, 0)) := HC.out.at_ hs0 (by omega)
      have hr : wr.heap[w.heap.size + 1]? = some (.cells #[.bool false] 4 (0, 0)) := HC.out.at_ hr0 (by omega)
      have hsz : g + 4 ≤ wr.heap.size := by have := HC.out.size; omega
      obtain ⟨R, hR⟩ : ∃ R, R = addAll l k := ⟨_, rfl⟩
      have HRw : Hid (WF R ∧ R.length ≤ 100) := by rw [hR]; exact ⟨(addAll_wf l k).1, by have := (addAll_wf l k).2; omega⟩
      rw [← hR] at HT
      have c5 : wr.cell? ⟨g + 2, 0, none⟩ = some (.pointer (some ⟨g, 0, none⟩)) := by rw [cell_of_at h5]; rfl
      have c0 : wr.cell? ⟨w.heap.size, 0, none⟩ = some (.int .i64 s.1) := by rw [cell_of_at hs]; rfl
      have c1 : wr.cell? ⟨w.heap.size, 1, none⟩ = some (.int .i64 s.2) := by rw [cell_of_at hs]; rfl
      have q1 : g + 2 < wr.heap.size := by omega
      have q2 : w.heap.size < wr.heap.size := by omega
      have HW := Lib.hid (And.intro hBw (And.intro h5 (And.intro h6 (And.intro hs (And.intro hr HT.out)))))
      clear hR hBw hz0 hBelow0 h50 h60 hs0 hr0 h5 h6 hs hr HT HC HT0 HF HB0
      by_cases hlt : k < n
      case' pos =>
        have h100' : decide ((k : Int) < 100) = false := decide_eq_false (by omega)
        have hlt' : (k : Int) < n := by omega
        gi_wp2_with fail
      case' neg =>
        have hlt' : decide ((k : Int) < n) = false := decide_eq_false (by omega)
        gi_wp2_with fail
      all_goals
        refine ⟨trivial, (fun h => by cases h), ?_⟩; refine callsIn_wide.2 ((gaps_any (some ⟨g, 0, none⟩) s _).mono ?_)
        rintro e w5 ⟨rfl, hw5⟩
        have hS5 : w5.heap[wr.heap.size + 1]? = some (.cells #[.pointer (some ⟨g, 0, none⟩)] 26 (0, 0)) := by
          rw [hw5]
          have := World.alloc_heap_new (wr.alloc (.cells #[.int .i64 0] 3)) (.cells #[.pointer (some ⟨g, 0, none⟩)] 26)
          rw [World.size_alloc] at this
          exact (Below.heap_alloc _ _ _ (by simp)).trans this
        have hT5 : w5.heap[wr.heap.size + 2]? = some (.cells #[.int .i64 s.1, .int .i64 s.2] 24 (0, 0)) := by
          rw [hw5]
          have := World.alloc_heap_new ((wr.alloc (.cells #[.int .i64 0] 3)).alloc (.cells #[.pointer (some ⟨g, 0, none⟩)] 26)) (.cells #[.int .i64 s.1, .int .i64 s.2] 24)
          rwa [World.size_alloc, World.size_alloc] at this
        have hn5 : w5.heap[wr.heap.size]? = some (.cells #[.int .i64 0] 3 (0, 0)) := by
          rw [hw5]
          exact (Below.heap_alloc _ _ _ (by simp; omega)).trans ((Below.heap_alloc _ _ _ (by simp)).trans (World.alloc_heap_new wr _))
        have hB5 : Below wr.heap.size wr w5 := by rw [hw5]; (repeat (with_reducible first | exact Below.refl _ _ | assumption | (refine Below.setCell ?_ (by first | (simp; done) | (simp; omega) | omega) _) | (refine Below.alloc ?_ (by first | (simp; done) | (simp; omega) | omega) _) | refine Below.drew ?_ | refine Below.drewN_ ?_ _ | (refine Below.then_ ?_ (by with_reducible assumption))))
        have hz5 : w5.heap.size = wr.heap.size + 3 := by rw [hw5]; simp
        have HX := Lib.hid (And.intro hS5 (And.intro hT5 (And.intro hn5 (And.intro hB5 hz5))))
        clear hS5 hT5 hn5 hB5 hz5 hw5 c0 c1 c5
        simp only [World.size_alloc]
        gi_wp2_with fail
        obtain ⟨hS5, hT5, hn5, hB5, hz5⟩ := HX.out
        obtain ⟨hBw, h5, h6, hs, hr, r0, t0, ⟨v, hRv, hrv⟩, hA0, hrg, htg, hrt⟩ := HW.out
        have hwr : wr.heap.size < w5.heap.size := by omega
        have hKK : ∀ k, (k = wr.heap.size + 2 ∨ k = g ∨ some k = v.ownBlock) → k < w5.heap.size ∧ k ≠ g + 1 ∧ k ≠ wr.heap.size ∧ t0 ≠ some k := by
          rintro k (rfl | rfl | e)
          · exact ⟨by omega, by omega, by omega, fun e => by subst e; have := hA0.ltR; omega⟩
          · exact ⟨by omega, by omega, by omega, fun e => by have := htg _ e; omega⟩
          · have h1 := hRv.row.lt e.symm
            have h2 := hrg k (hrv.symm.trans e.symm)
            exact ⟨by omega, by omega, by omega, hrt k (hrv.symm.trans e.symm)⟩
        have htn : t0 ≠ some wr.heap.size := fun e => by subst e; have := hA0.ltR; omega
        have HQ := Lib.hid (And.intro hKK htn)
        refine range_at 9 (by have := hN.out; omega) (gf := 58) (lb := #[.pointer (some ⟨wr.heap.size + 2, 0, none⟩), .pointer (some ⟨wr.heap.size + 1, 0, none⟩)]) rfl (enters_of Try.func58 (by kernel_rfl) rfl)
          (gaps_gives (N - 1) (wr.heap.size + 1) (wr.heap.size + 2) g (show 5 ≤ N - 1 by have := hN.out; omega) s v R (by have := HRw.out.2; omega) (fun k => k = wr.heap.size + 2 ∨ k = g ∨ some k = v.ownBlock) (.inl rfl) (.inr (.inl rfl)) (fun k e => .inr (.inr e)) (cut_rises HRw.out.1 s) w5 (hRv.below hB5) (fun k h => (hKK k h).1) hS5 hT5)
          (Below.refl _ _) rfl (fun k h => (hKK k h).1)
          (GI w5 (g + 1) wr.heap.size t0) (fun c pre O A => False) (GI.calm (by omega) (by omega)) (fun c pre O A A' M h _ _ => h.elim) GI.lt (fun k => t0 = some k) (fun k h => by subst h; have := hA0.ltR; omega)
          ⟨t0, hA0.below hB5, fun k => Iff.rfl, fun k e => .inl e, hn5, Chg.refl _ _⟩
          ?assign ?body ?done ?stop
        case assign =>
          rintro l x V P hP
          simp only [frAt, spEnc, List.zip_toArray, List.zip_cons_cons, List.zip_nil_right, List.zip_nil_left, List.foldl_toArray', List.foldl_toArray, List.foldl_cons, List.foldl_nil, List.setIfInBounds_toArray, List.set_cons_succ, List.set_cons_zero] at hP
          have HP := Lib.hid hP; clear hP
          simp only [spEnc]
          gi_wp2
          exact HP.out
        case body =>
          rintro lp pre O x Bx V hlp hr' ⟨t, g1, g2, g3, g4, g5⟩ hBx hOB hX hbo hpre
          simp only [frAt, spEnc, List.zip_toArray, List.zip_cons_cons, List.zip_nil_right, List.zip_nil_left, List.foldl_toArray', List.foldl_toArray, List.foldl_cons, List.foldl_nil, List.setIfInBounds_toArray, List.set_cons_succ, List.set_cons_zero]
          have hxG : x ∈ gapsOf s (cutL R s) := hpre.subset (List.mem_append_right _ (List.mem_singleton.2 rfl))
          obtain ⟨hos, hGw, hw0⟩ := gaps_mem HRw.out.1 hxG
          have hpw : WF (pre ++ [x]) := hGw.pre hpre
          obtain ⟨hox, e1, e2, e3⟩ := snoc_add hpw
          have hlen : pre.length ≤ 4095 := by
            have h1 := hpre.length_le
            have h2 : (gapsOf s (cutL R s)).length ≤ R.length + 1 := by have := gaps_len s (cutL R s); have := cut_len R s; omega
            have h3 := HRw.out.2
            rw [List.length_append] at h1
            have h4 : (pre.length + [x].length) ≤ (gapsOf s (cutL R s)).length := h1
            simp at h4; omega
          have hsumx : sumLen (pre ++ [x]) = sumLen pre + spLen x.1 x.2 := by rw [sumLen_append, sumLen_one]; rfl
          have hs1 := sumLen_total hpw
          have hs2 := sumLen_nonneg pre
          have hs3 : 0 ≤ spLen x.1 x.2 := lenOf_nonneg x
          rw [hsumx] at hs1
          have hwrap : IntKind.i64.wrap (sumLen pre + spLen x.1 x.2) = sumLen pre + spLen x.1 x.2 := by rw [IntKind.wrap_i64]; omega
          have key := add_set g1 hpw.left hlen x
          rw [e1, e2, e3, show lenOf x = spLen x.1 x.2 from rfl] at key
          have hVz : w5.heap.size ≤ V.heap.size := g5.size
          have hI : IsRuns V g v R := (hRv.below hB5).chg g5 (by rintro (e | e | e | e); { omega }; { omega }; { exact absurd e (HQ.out.1 g (.inr (.inl rfl))).2.2.2 }; { omega }) (by
            rintro j e (h | h | h | h)
            · exact (HQ.out.1 j (.inr (.inr e.symm))).2.1 h
            · exact (HQ.out.1 j (.inr (.inr e.symm))).2.2.1 h
            · exact (HQ.out.1 j (.inr (.inr e.symm))).2.2.2 h
            · have := (HQ.out.1 j (.inr (.inr e.symm))).1; omega)
          have hfar : ∀ j, j < g + 4 → j ≠ g + 1 → ¬ (j = g + 1 ∨ j = wr.heap.size ∨ t0 = some j ∨ w5.heap.size ≤ j) := by
            rintro j h1 h2 (h | h | h | h)
            · exact h2 h
            · omega
            · have := htg j h; omega
            · omega
          have d6 : V.cell? ⟨g + 3, 0, none⟩ = some (.pointer (some ⟨g + 1, 0, none⟩)) := by rw [cell_of_at (g5.at_ (Below.at' hB5 h6) (hfar _ (by omega) (by omega)))]; rfl
          have d5 : V.cell? ⟨g + 2, 0, none⟩ = some (.pointer (some ⟨g, 0, none⟩)) := by rw [cell_of_at (g5.at_ (Below.at' hB5 h5) (hfar _ (by omega) (by omega)))]; rfl
          have dn : V.cell? ⟨wr.heap.size, 0, none⟩ = some (.int .i64 (sumLen pre)) := by rw [cell_of_at g4]; rfl
          have dnf : V.frozen? ⟨wr.heap.size, 0, none⟩ = false := frozen_of_at g4 0
          have dx : V.cell? ⟨Bx, 0, none⟩ = some (.int .i64 x.1) := by rw [cell_of_at hX]; rfl
          have dy : V.cell? ⟨Bx, 1, none⟩ = some (.int .i64 x.2) := by rw [cell_of_at hX]; rfl
          have hO2 : ∀ j, t = some j → O j := fun j e => (g2 j).2 e
          have hna : ∀ j, j = g + 2 ∨ j = wr.heap.size ∨ j = Bx ∨ j = g → ¬ (j = g + 1 ∨ some j = t) := by
            rintro j hj (h | h)
            · rcases hj with rfl | rfl | rfl | rfl <;> omega
            · have h' := g3 j h.symm
              rcases hj with rfl | rfl | rfl | rfl
              · rcases h' with h' | h'; { have := htg _ h'; omega }; { omega }
              · rcases h' with h' | h'; { exact HQ.out.2 h' }; { omega }
              · exact hOB (hO2 _ h.symm)
              · rcases h' with h' | h'; { have := htg _ h'; omega }; { omega }
          have hvt : ∀ j, v.ownBlock = some j → ¬ (j = g + 1 ∨ some j = t) := by
            rintro j e (h | h)
            · exact (HQ.out.1 j (.inr (.inr e.symm))).2.1 h
            · rcases g3 j h.symm with h' | h'
              · exact (HQ.out.1 j (.inr (.inr e.symm))).2.2.2 h'
              · have := (HQ.out.1 j (.inr (.inr e.symm))).1; omega
          have HV := Lib.hid (And.intro g1 (And.intro g2 (And.intro g3 (And.intro g4 (And.intro g5 (And.intro hI (And.intro hna (And.intro hvt (And.intro hw0 hsumx)))))))))
          have HKey := Lib.hid key
          clear g1 g2 g3 g4 g5 hI hna hvt hfar hO2 key hX hr' hbo hpre hxG hGw hpw e1 e2 e3 hw0 hsumx hox hos hKK htn hA0 hrg htg hrt hRv hrv hS5 hT5 hn5 hB5 hBw h5 h6 hs hr hlen
          gi_wp2_with fail
          refine ⟨trivial, (fun h => by cases h), ?_⟩; refine CallsIn.inRound lp (callsIn_wide.2 ((HKey.out).mono ?_))
          rintro e V1 ⟨rfl, t', a1, a2, a3⟩
          have v5 := a2.cell (p := ⟨g + 2, 0, none⟩) d5 (HV.out.2.2.2.2.2.2.1 _ (.inl rfl))
          have vn := a2.cell (p := ⟨wr.heap.size, 0, none⟩) dn (HV.out.2.2.2.2.2.2.1 _ (.inr (.inl rfl)))
          have vnf : V1.frozen? ⟨wr.heap.size, 0, none⟩ = false := frozen_of_at (a2.at_ HV.out.2.2.2.1 (HV.out.2.2.2.2.2.2.1 _ (.inr (.inl rfl)))) 0
          have vx := a2.cell (p := ⟨Bx, 0, none⟩) dx (HV.out.2.2.2.2.2.2.1 _ (.inr (.inr (.inl rfl))))
          have vy := a2.cell (p := ⟨Bx, 1, none⟩) dy (HV.out.2.2.2.2.2.2.1 _ (.inr (.inr (.inl rfl))))
          have HI1 := Lib.hid (HV.out.2.2.2.2.2.1.chg a2 (HV.out.2.2.2.2.2.2.1 g (.inr (.inr (.inr rfl)))) HV.out.2.2.2.2.2.2.2.1)
          have HA := Lib.hid (And.intro a1 (And.intro a2 a3))
          clear a1 a2 a3 d5 d6 dn dnf dx dy HKey
          have hone : Chg (fun j => j = wr.heap.size) V1 (V1.setCell ⟨wr.heap.size, 0, none⟩ (.int .i64 (sumLen pre + spLen x.1 x.2))) := Chg.setCell (fun j => j = wr.heap.size) V1 (p := ⟨wr.heap.size, 0, none⟩) rfl _
          have x5 := hone.cell (p := ⟨g + 2, 0, none⟩) v5 (fun h => by have h : g + 2 = wr.heap.size := h; omega)
          have xx := hone.cell (p := ⟨Bx, 0, none⟩) vx (fun h => by have h : Bx = wr.heap.size := h; omega)
          have xy := hone.cell (p := ⟨Bx, 1, none⟩) vy (fun h => by have h : Bx = wr.heap.size := h; omega)
          have HIs := Lib.hid (HI1.out.chg hone (fun h => by have h : g = wr.heap.size := h; omega) (fun j e h => (HQ.out.1 j (.inr (.inr e.symm))).2.2.1 h))
          have HS := Lib.hid (And.intro x5 (And.intro xx xy)); clear x5 xx xy hone
          gi_wp2_with fail
          refine ⟨trivial, (fun h => by cases h), ?_⟩; refine CallsIn.inRound lp (callsIn_wide.2 ((rlen_any x.1 x.2 _).mono ?_))
          rintro e V2 ⟨rfl, hb2⟩
          have y5 := Below.cell' hb2 HS.out.1
          have yx := Below.cell' hb2 HS.out.2.1
          have yy := Below.cell' hb2 HS.out.2.2
          have kw := within_any (HIs.out.below hb2) HRw.out.1 (by have := HRw.out.2; omega) x
          rw [HV.out.2.2.2.2.2.2.2.2.1] at kw
          have HKw := Lib.hid kw; have HB2 := Lib.hid hb2
          clear kw hb2 v5 vn vnf vx vy
          gi_wp2_with fail
          refine ⟨trivial, (fun h => by cases h), ?_⟩; refine CallsIn.inRound lp (callsIn_wide.2 ((HKw.out).mono ?_))
          rintro e V4 ⟨rfl, hb4⟩
          have HB4 := Lib.hid (Below.then_ HB2.out hb4)
          clear hb4 y5 yx yy HB2 HKw
          gi_wp2_with fail
          obtain ⟨g1, g2, g3, g4, g5, hI, hna, hvt, hw0, hsumx⟩ := HV.out
          obtain ⟨a1, a2, a3⟩ := HA.out
          exact GI.step HQ.out.1 (by omega) hwr (by omega) HQ.out.2 hVz g2 g3 g4 g5 a1 a2 a3 HB4.out hsumx.symm _ _
        case done =>
          rintro D1 O V hD1 ⟨t, g1, g2, g3, g4, g5⟩ hOD1 hDV1
          have hVz : w5.heap.size ≤ V.heap.size := g5.size
          have hI : IsRuns V g v R := (hRv.below hB5).chg g5 (by rintro (e | e | e | e); { omega }; { omega }; { exact absurd e (HQ.out.1 g (.inr (.inl rfl))).2.2.2 }; { omega }) (by
            rintro j e (h | h | h | h)
            · exact (HQ.out.1 j (.inr (.inr e.symm))).2.1 h
            · exact (HQ.out.1 j (.inr (.inr e.symm))).2.2.1 h
            · exact (HQ.out.1 j (.inr (.inr e.symm))).2.2.2 h
            · have := (HQ.out.1 j (.inr (.inr e.symm))).1; omega)
          have hfar : ∀ j, j < g + 4 → j ≠ g + 1 → ¬ (j = g + 1 ∨ j = wr.heap.size ∨ t0 = some j ∨ w5.heap.size ≤ j) := by
            rintro j h1 h2 (h | h | h | h)
            · exact h2 h
            · omega
            · have := htg j h; omega
            · omega
          have b6 := g5.at_ (Below.at' hB5 h6) (hfar _ (by omega) (by omega))
          have b5 := g5.at_ (Below.at' hB5 h5) (hfar _ (by omega) (by omega))
          have bs := g5.at_ (Below.at' hB5 hs) (hfar _ (by omega) (by omega))
          have br := g5.at_ (Below.at' hB5 hr) (hfar _ (by omega) (by omega))
          have hBV : Below w.heap.size w V := (Below.then_ hBw hB5).trans (g5.belowAt (by omega) (fun j hj h => hfar j (by omega) (by omega) h))
          have d5 : V.cell? ⟨g + 2, 0, none⟩ = some (.pointer (some ⟨g, 0, none⟩)) := by rw [cell_of_at b5]; rfl
          have hvK : ∀ j, v.ownBlock = some j → j < w5.heap.size ∧ j ≠ g + 1 ∧ t ≠ some j := by
            intro j e
            obtain ⟨k1, k2, k3, k4⟩ := HQ.out.1 j (.inr (.inr e.symm))
            refine ⟨k1, k2, fun e' => ?_⟩
            rcases g3 j e' with h | h
            · exact k4 h
            · omega
          have htg' : ∀ j, t = some j → g + 4 ≤ j := by
            intro j e
            rcases g3 j e with h | h
            · exact htg j h
            · omega
          have HV := Lib.hid (And.intro g1 (And.intro g4 (And.intro hI (And.intro b6 (And.intro b5 (And.intro bs (And.intro br (And.intro hBV (And.intro hvK (And.intro htg' (And.intro hDV1 (And.intro (fun e => hOD1 ((g2 _).2 e) : t ≠ some D1) (show t ≠ some wr.heap.size from fun e => by rcases g3 _ e with h | h; { exact htn h }; { omega })))))))))))))
          clear g1 g2 g3 g4 g5 hI b6 b5 bs br hBV hvK htg' hfar hDV1 hOD1 hKK htn hA0 hrg htg hrt hRv hrv hS5 hT5 hn5 hB5 hBw h5 h6 hs hr
          gi_wp2_with fail
          refine ⟨trivial, (fun h => by cases h), ?_⟩; refine callsIn_wide.2 ((all_any (some ⟨g, 0, none⟩) _).mono ?_)
          rintro e w6 ⟨rfl, hw6⟩
          have hB6 : Below V.heap.size V w6 := by rw [hw6]; exact Below.one _ _
          have hz6 : w6.heap.size = V.heap.size + 1 := by rw [hw6]; simp
          have hb6 : w6.heap[V.heap.size]? = some (.cells #[.pointer (some ⟨g, 0, none⟩)] 26 (0, 0)) := by rw [hw6]; exact World.alloc_heap_new V _
          have HX6 := Lib.hid (And.intro hB6 (And.intro hz6 hb6)); clear hB6 hz6 hb6 hw6 d5
          gi_wp2_with fail
          obtain ⟨hB6, hz6, hb6⟩ := HX6.out
          obtain ⟨g1, g4, hI, b6, b5, bs, br, hBV, hvK, htg', hDV1, htD, htw⟩ := HV.out
          have hKK : ∀ j, allK V.heap.size g v j → j < w6.heap.size ∧ j ≠ g + 1 ∧ t ≠ some j := by
            rintro j (rfl | rfl | e)
            · exact ⟨by omega, by omega, fun e => by subst e; exact absurd g1.ltR (by omega)⟩
            · exact ⟨by omega, by omega, fun e => by have := htg' _ e; omega⟩
            · have := hvK j e.symm
              exact ⟨by omega, this.2.1, this.2.2⟩
          have HQ2 := Lib.hid hKK
          refine range_at 12 (by have := hN.out; omega) (gf := 61) (lb := #[.pointer (some ⟨V.heap.size, 0, none⟩)]) rfl (enters_of Try.func61 (by kernel_rfl) rfl)
            (all_gives (N - 1) V.heap.size g v R (by have := HRw.out.2; omega) (allK V.heap.size g v) (fun k h => h) w6 ⟨hI.below hB6, hb6⟩) (Below.refl _ _) rfl (fun k h => (hKK k h).1)
            (FI w6 (g + 1) t (gapsOf s (cutL R s)) s) (fun c pre O A => False) (FI.calm (by omega)) (fun c pre O A A' M h _ _ => h.elim) FI.lt (fun k => t = some k) (fun k h => by subst h; have := g1.ltR; omega)
            ⟨t, _, g1.below hB6, fun k => Iff.rfl, fun k e => .inl e, Fills.start (gaps_wf HRw.out.1 s) s, Chg.refl _ _⟩
            ?assign2 ?body2 ?done2 ?stop2
          case assign2 =>
            rintro l x V' P hP
            simp only [frAt, spEnc, List.zip_toArray, List.zip_cons_cons, List.zip_nil_right, List.zip_nil_left, List.foldl_toArray', List.foldl_toArray, List.foldl_cons, List.foldl_nil, List.setIfInBounds_toArray, List.set_cons_succ, List.set_cons_zero] at hP
            have HP := Lib.hid hP; clear hP
            simp only [spEnc]
            gi_wp2
            exact HP.out
          case body2 =>
            rintro lp pre O2 x Bx U hlp hr' ⟨t2, a, f1, f2, f3, f4, f5⟩ hBx hOB hX hbo hpre
            simp only [frAt, spEnc, List.zip_toArray, List.zip_cons_cons, List.zip_nil_right, List.zip_nil_left, List.foldl_toArray', List.foldl_toArray, List.foldl_cons, List.foldl_nil, List.setIfInBounds_toArray, List.set_cons_succ, List.set_cons_zero]
            have hox : Okay x := (HRw.out.1.pre hpre).may x (List.mem_append_right _ (List.mem_singleton.2 rfl))
            have hUz : w6.heap.size ≤ U.heap.size := f5.size
            have hlen : a.length ≤ 4095 := by
              have h1 := hpre.length_le
              have h2 : (gapsOf s (cutL R s)).length ≤ R.length + 1 := by have := gaps_len s (cutL R s); have := cut_len R s; omega
              have h3 := HRw.out.2
              have h4 := f4.len
              rw [List.length_append] at h1
              omega
            have hfar : ∀ j, j < g + 4 → j ≠ g + 1 → ¬ (j = g + 1 ∨ t = some j ∨ w6.heap.size ≤ j) := by
              rintro j h1 h2 (h | h | h)
              · exact h2 h
              · have := htg' j h; omega
              · omega
            have u6 : U.cell? ⟨g + 3, 0, none⟩ = some (.pointer (some ⟨g + 1, 0, none⟩)) := by rw [cell_of_at (f5.at_ (Below.at' hB6 b6) (hfar _ (by omega) (by omega)))]; rfl
            have us0 : U.cell? ⟨w.heap.size, 0, none⟩ = some (.int .i64 s.1) := by rw [cell_of_at (f5.at_ (Below.at' hB6 bs) (hfar _ (by omega) (by omega)))]; rfl
            have us1 : U.cell? ⟨w.heap.size, 1, none⟩ = some (.int .i64 s.2) := by rw [cell_of_at (f5.at_ (Below.at' hB6 bs) (hfar _ (by omega) (by omega)))]; rfl
            have ux0 : U.cell? ⟨Bx, 0, none⟩ = some (.int .i64 x.1) := by rw [cell_of_at hX]; rfl
            have ux1 : U.cell? ⟨Bx, 1, none⟩ = some (.int .i64 x.2) := by rw [cell_of_at hX]; rfl
            have HU := Lib.hid (And.intro f1 (And.intro f2 (And.intro f3 (And.intro f4 (And.intro f5 (And.intro hox hlen))))))
            clear f1 f2 f3 f4 f5 hox hlen hX hr' hbo hpre hKK hI b6 b5 bs br hBV hvK htg' hDV1 htD htw g1 g4 hB6 hb6 hfar
            gi_wp2_with fail
            gi_region_with (first
              | ((refine ⟨trivial, (fun h => by cases h), ?_⟩); gi_at_call 20; (refine CallsIn.inRound lp (callsIn_wide.2 ((rmeet_any x.1 x.2 s.1 s.2 _).mono ?_))); rintro e Va ⟨rfl, hba⟩; have k6 := Below.cell' hba (p := ⟨g + 3, 0, none⟩) (v := .pointer (some ⟨g + 1, 0, none⟩)) (by go_simp))
              | ((refine ⟨trivial, (fun h => by cases h), ?_⟩); gi_at_call 15; (refine CallsIn.inRound lp (callsIn_wide.2 ?_)); (have hbb : Below U.heap.size U Va := by (repeat (with_reducible first | exact Below.refl _ _ | assumption | (refine Below.setCell ?_ (by first | (simp; done) | (simp; omega) | omega) _) | (refine Below.alloc ?_ (by first | (simp; done) | (simp; omega) | omega) _) | refine Below.drew ?_ | refine Below.drewN_ ?_ _ | (refine Below.then_ ?_ (by with_reducible assumption))))); (with_reducible refine (add_set (HU.out.1.below hbb) HU.out.2.2.2.1.wf HU.out.2.2.2.2.2.2 (spMeet x.1 x.2 s.1 s.2)).mono ?_); rintro e V1 ⟨rfl, t', a1, a2, a3⟩))
            all_goals
              obtain ⟨f1, f2, f3, f4, f5, hox, hlen⟩ := HU.out
              gi_wp2_with fail
              exact FI.step HQ2.out (by omega) hUz f2 f3 f5 hbb a1 a2 a3 (f4.step hox) _ _
          case done2 =>
            rintro D2 O2 U hD2 ⟨t2, a, f1, f2, f3, f4, f5⟩ hOD2 hDV2
            have hUz : w6.heap.size ≤ U.heap.size := f5.size
            have hfar : ∀ j, j < g + 4 → j ≠ g + 1 → ¬ (j = g + 1 ∨ t = some j ∨ w6.heap.size ≤ j) := by
              rintro j h1 h2 (h | h | h)
              · exact h2 h
              · have := htg' j h; omega
              · omega
            have n6 := f5.at_ (Below.at' hB6 b6) (hfar _ (by omega) (by omega))
            have n5 := f5.at_ (Below.at' hB6 b5) (hfar _ (by omega) (by omega))
            have ns := f5.at_ (Below.at' hB6 bs) (hfar _ (by omega) (by omega))
            have nr := f5.at_ (Below.at' hB6 br) (hfar _ (by omega) (by omega))
            have nn := f5.at_ (Below.at' hB6 g4) (by rintro (h | h | h); { omega }; { exact htw h }; { omega })
            have hIU : IsRuns U g v R := (hI.below hB6).chg f5 (hfar g (by omega) (by omega)) (by
              rintro j e (h | h | h)
              · exact (hKK j (.inr (.inr e.symm))).2.1 h
              · exact (hKK j (.inr (.inr e.symm))).2.2 h
              · have := (hKK j (.inr (.inr e.symm))).1; omega)
            have hBU : Below w.heap.size w U := (Below.then_ hBV hB6).trans (f5.belowAt (by omega) (fun j hj h => hfar j (by omega) (by omega) h))
            have hD1z := lt_of_at' hDV1
            have hDU1 := f5.at_ (Below.at' hB6 hDV1) (by rintro (h | h | h); { omega }; { exact htD h }; { omega })
            have hfin := f4.done HRw.out.1
            obtain ⟨va, hIa, hva⟩ := f1
            rw [hfin] at hIa
            have hsum := whole_sum HRw.out.1 s
            have hG := sumLen_total (gaps_wf HRw.out.1 s)
            have hG0 := sumLen_nonneg (gapsOf s (cutL R s))
            obtain ⟨sG, hsG⟩ : ∃ x, x = sumLen (gapsOf s (cutL R s)) := ⟨_, rfl⟩
            have nn' : U.heap[wr.heap.size]? = some (.cells #[.int .i64 sG] 3 (0, 0)) := by rw [hsG]; exact nn
            rw [← hsG] at hsum hG hG0
            have kw : ∀ W, Below U.heap.size U W → Calls Try.prog 18 #[.pointer (some ⟨g, 0, none⟩), .agg #[.int .i64 s.1, .int .i64 s.2]] W fun e w' => e = .returned (.int .i64 (within R s)) ∧ Below W.heap.size W w' :=
              fun W hb => within_any (hIU.below hb) HRw.out.1 (by have := HRw.out.2; omega) s
            have hw0 : 0 ≤ within R s := by
              by_cases hos : Okay s
              · rw [within_cut R s hos]; exact sumLen_nonneg _
              · rw [within_bad hos]; omega
            obtain ⟨wi, hwi⟩ : ∃ x, x = within R s := ⟨_, rfl⟩
            rw [← hwi] at kw hsum hw0
            have hsum2 : IntKind.i64.wrap (sG + wi) = spLen s.1 s.2 := by
              have : spLen s.1 s.2 = lenOf s := rfl
              have h2 := lenOf_le s
              rw [IntKind.wrap_i64]; omega
            have kb : ∀ W, Below U.heap.size U W → Calls Try.prog 21 #[.pointer (some ⟨g + 1, 0, none⟩)] W fun e w' => e = .returned (.int .i64 (spLen s.1 s.2)) ∧ Below W.heap.size W w' := by
              intro W hb
              have h1 := bytes_any (hIa.below hb) (by split <;> simp)
              have h2 : sumW (if Okay s then [s] else []) = spLen s.1 s.2 := by
                by_cases hos : Okay s
                · rw [if_pos hos, sumW_eq _ (by rw [sumLen_one]; exact lenOf_le s), sumLen_one]; rfl
                · rw [if_neg hos]; exact (lenOf_bad hos).symm
              rw [h2] at h1
              exact h1
            have KW := Lib.hid (And.intro kw kb)
            have d5 : U.cell? ⟨g + 2, 0, none⟩ = some (.pointer (some ⟨g, 0, none⟩)) := by rw [cell_of_at n5]; rfl
            have d6 : U.cell? ⟨g + 3, 0, none⟩ = some (.pointer (some ⟨g + 1, 0, none⟩)) := by rw [cell_of_at n6]; rfl
            have ds0 : U.cell? ⟨w.heap.size, 0, none⟩ = some (.int .i64 s.1) := by rw [cell_of_at ns]; rfl
            have ds1 : U.cell? ⟨w.heap.size, 1, none⟩ = some (.int .i64 s.2) := by rw [cell_of_at ns]; rfl
            have dr : U.cell? ⟨w.heap.size + 1, 0, none⟩ = some (.bool false) := by rw [cell_of_at nr]; rfl
            have drf : U.frozen? ⟨w.heap.size + 1, 0, none⟩ = false := frozen_of_at nr 0
            have dn : U.cell? ⟨wr.heap.size, 0, none⟩ = some (.int .i64 sG) := by rw [cell_of_at nn']; rfl
            have HU := Lib.hid (And.intro hIa (And.intro hBU (And.intro hDU1 (And.intro hDV2 (And.intro nr (And.intro hD2 hD1z))))))
            have HS := Lib.hid hsum2
            clear f2 f3 f4 f5 hIU hIa kw kb nn nn' n6 n5 ns nr hBU hDU1 hDV2 hKK hI b6 b5 bs br hBV hvK htg' hDV1 htD htw g1 g4 hB6 hb6 hfar hfin hsG hwi hsum hG hG0 hw0 hsum2 hOD2 hva hD1z
            gi_wp2_with fail
            have hsum2 := HS.out
            have m1 : ¬ w.heap.size = g + 1 := by omega
            have m2 : ¬ w.heap.size = g + 2 := by omega
            have m3 : ¬ w.heap.size + 1 = wr.heap.size := by omega
            have m4 : ¬ g + 1 = w.heap.size := by omega
            have m5 : ¬ g + 2 = w.heap.size := by omega
            have m6 : ¬ wr.heap.size = w.heap.size + 1 := by omega
            have KL : Hid (∀ W, Below U.heap.size U W → Calls Try.prog 22 #[.pointer (some ⟨g + 1, 0, none⟩)] W fun e w' => e = .returned (.int .i64 (if Okay s then 1 else 0)) ∧ w' = W) := by
              intro W hb
              have h1 := runsLen_any (HU.out.1.below hb)
              by_cases hos : Okay s
              · rw [if_pos hos] at h1 ⊢; exact h1
              · rw [if_neg hos] at h1 ⊢; exact h1
            refine wpIn_wide.2 ?_
            by_cases hos : Okay s
            · have hq : (spLen s.1 s.2 == 0) = false := by
                have h1 : lenOf s = s.2 - s.1 := lenOf_may hos
                rw [show spLen s.1 s.2 = lenOf s from rfl, h1, beq_eq_false_iff_ne]; have := hos.2.1; omega
              go_region_held3 (fun w' => w'.cell? ⟨g + 2, 0, none⟩ = some (.pointer (some ⟨g, 0, none⟩)) ∧ w'.cell? ⟨g + 3, 0, none⟩ = some (.pointer (some ⟨g + 1, 0, none⟩)) ∧ w'.cell? ⟨w.heap.size, 0, none⟩ = some (.int .i64 s.1) ∧ w'.cell? ⟨w.heap.size, 1, none⟩ = some (.int .i64 s.2) ∧ w'.cell? ⟨wr.heap.size, 0, none⟩ = some (.int .i64 sG)) (go_keep) (first
                | (go_at_call 18; refine (KW.out.1 _ (by (repeat (with_reducible first | exact Below.refl _ _ | assumption | (refine Below.setCell ?_ (by first | (simp; done) | (simp; omega) | omega) _) | (refine Below.alloc ?_ (by first | (simp; done) | (simp; omega) | omega) _) | refine Below.drew ?_ | refine Below.drewN_ ?_ _ | (refine Below.then_ ?_ (by with_reducible assumption)))))).mono ?_; rintro e V1 ⟨rfl, hv1⟩; dsimp only; have u5 := Below.cell' hv1 (p := ⟨g + 2, 0, none⟩) (v := .pointer (some ⟨g, 0, none⟩)) (by first | (go_simp; done) | fail "no"); have u6 := Below.cell' hv1 (p := ⟨g + 3, 0, none⟩) (v := .pointer (some ⟨g + 1, 0, none⟩)) (by first | (go_simp; done) | fail "no"); have us0 := Below.cell' hv1 (p := ⟨w.heap.size, 0, none⟩) (v := .int .i64 s.1) (by first | (go_simp; done) | fail "no"); have us1 := Below.cell' hv1 (p := ⟨w.heap.size, 1, none⟩) (v := .int .i64 s.2) (by first | (go_simp; done) | fail "no"); have un := Below.cell' hv1 (p := ⟨wr.heap.size, 0, none⟩) (v := .int .i64 sG) (by first | (go_simp; done) | fail "no"); have ur := Below.cell' hv1 (p := ⟨w.heap.size + 1, 0, none⟩) (v := .bool false) (by first | (go_simp; done) | fail "no"); have uf := Below.frozen' hv1 (p := ⟨w.heap.size + 1, 0, none⟩) (v := .bool false) (by first | (go_simp; done) | fail "no") (by first | (go_simp; done) | fail "no"))
                | (go_at_call 17; with_reducible refine (rlen_any s.1 s.2 _).mono ?_; rintro e V1 ⟨rfl, hv1⟩; dsimp only; have u5 := Below.cell' hv1 (p := ⟨g + 2, 0, none⟩) (v := .pointer (some ⟨g, 0, none⟩)) (by first | (go_simp; done) | fail "no"); have u6 := Below.cell' hv1 (p := ⟨g + 3, 0, none⟩) (v := .pointer (some ⟨g + 1, 0, none⟩)) (by first | (go_simp; done) | fail "no"); have us0 := Below.cell' hv1 (p := ⟨w.heap.size, 0, none⟩) (v := .int .i64 s.1) (by first | (go_simp; done) | fail "no"); have us1 := Below.cell' hv1 (p := ⟨w.heap.size, 1, none⟩) (v := .int .i64 s.2) (by first | (go_simp; done) | fail "no"); have un := Below.cell' hv1 (p := ⟨wr.heap.size, 0, none⟩) (v := .int .i64 sG) (by first | (go_simp; done) | fail "no"); have ur := Below.cell' hv1 (p := ⟨w.heap.size + 1, 0, none⟩) (v := .bool false) (by first | (go_simp; done) | fail "no"); have uf := Below.frozen' hv1 (p := ⟨w.heap.size + 1, 0, none⟩) (v := .bool false) (by first | (go_simp; done) | fail "no") (by first | (go_simp; done) | fail "no"))
                | (go_at_call 21; refine (KW.out.2 _ (by (repeat (with_reducible first | exact Below.refl _ _ | assumption | (refine Below.setCell ?_ (by first | (simp; done) | (simp; omega) | omega) _) | (refine Below.alloc ?_ (by first | (simp; done) | (simp; omega) | omega) _) | refine Below.drew ?_ | refine Below.drewN_ ?_ _ | (refine Below.then_ ?_ (by with_reducible assumption)))))).mono ?_; rintro e V1 ⟨rfl, hv1⟩; dsimp only; have u5 := Below.cell' hv1 (p := ⟨g + 2, 0, none⟩) (v := .pointer (some ⟨g, 0, none⟩)) (by first | (go_simp; done) | fail "no"); have u6 := Below.cell' hv1 (p := ⟨g + 3, 0, none⟩) (v := .pointer (some ⟨g + 1, 0, none⟩)) (by first | (go_simp; done) | fail "no"); have us0 := Below.cell' hv1 (p := ⟨w.heap.size, 0, none⟩) (v := .int .i64 s.1) (by first | (go_simp; done) | fail "no"); have us1 := Below.cell' hv1 (p := ⟨w.heap.size, 1, none⟩) (v := .int .i64 s.2) (by first | (go_simp; done) | fail "no"); have un := Below.cell' hv1 (p := ⟨wr.heap.size, 0, none⟩) (v := .int .i64 sG) (by first | (go_simp; done) | fail "no"); have ur := Below.cell' hv1 (p := ⟨w.heap.size + 1, 0, none⟩) (v := .bool false) (by first | (go_simp; done) | fail "no"); have uf := Below.frozen' hv1 (p := ⟨w.heap.size + 1, 0, none⟩) (v := .bool false) (by first | (go_simp; done) | fail "no") (by first | (go_simp; done) | fail "no"))
                | (go_at_call 22; refine (KL.out _ (by (repeat (with_reducible first | exact Below.refl _ _ | assumption | (refine Below.setCell ?_ (by first | (simp; done) | (simp; omega) | omega) _) | (refine Below.alloc ?_ (by first | (simp; done) | (simp; omega) | omega) _) | refine Below.drew ?_ | refine Below.drewN_ ?_ _ | (refine Below.then_ ?_ (by with_reducible assumption)))))).mono ?_; rintro e V1 ⟨rfl, rfl⟩; dsimp only)
                | (go_at_call 13; with_reducible refine (known_any _).mono ?_; rintro e V1 ⟨rfl, hv1⟩; dsimp only; have u5 := Below.cell' hv1 (p := ⟨g + 2, 0, none⟩) (v := .pointer (some ⟨g, 0, none⟩)) (by first | (go_simp; done) | fail "no"); have u6 := Below.cell' hv1 (p := ⟨g + 3, 0, none⟩) (v := .pointer (some ⟨g + 1, 0, none⟩)) (by first | (go_simp; done) | fail "no"); have us0 := Below.cell' hv1 (p := ⟨w.heap.size, 0, none⟩) (v := .int .i64 s.1) (by first | (go_simp; done) | fail "no"); have us1 := Below.cell' hv1 (p := ⟨w.heap.size, 1, none⟩) (v := .int .i64 s.2) (by first | (go_simp; done) | fail "no"); have un := Below.cell' hv1 (p := ⟨wr.heap.size, 0, none⟩) (v := .int .i64 sG) (by first | (go_simp; done) | fail "no"); have ur := Below.cell' hv1 (p := ⟨w.heap.size + 1, 0, none⟩) (v := .bool false) (by first | (go_simp; done) | fail "no"); have uf := Below.frozen' hv1 (p := ⟨w.heap.size + 1, 0, none⟩) (v := .bool false) (by first | (go_simp; done) | fail "no") (by first | (go_simp; done) | fail "no")))
              all_goals
                have hvb : Below U.heap.size U V1 := by (repeat (with_reducible first | exact Below.refl _ _ | assumption | (refine Below.setCell ?_ (by first | (simp; done) | (simp; omega) | omega) _) | (refine Below.alloc ?_ (by first | (simp; done) | (simp; omega) | omega) _) | refine Below.drew ?_ | refine Below.drewN_ ?_ _ | (refine Below.then_ ?_ (by with_reducible assumption))))
                dsimp only [Exit.then]
                apply_assumption
                gi_wp2_with fail
                obtain ⟨hIa, hBU, hDU1, hDV2, nr, hD2', hD1z⟩ := HU.out
                exact whole_end _ rfl (Below.then_ hBU hvb) (Below.at' hvb hDU1) (Below.at' hvb hDV2) (Below.at' hvb nr) (by omega) (by omega) (by omega) (by omega)
            · have hz : spLen s.1 s.2 = 0 := lenOf_bad hos
              have KR : Hid (∀ W, Calls Try.prog 17 #[.agg #[.int .i64 s.1, .int .i64 s.2]] W fun e w' => e = .returned (.int .i64 0) ∧ Below W.heap.size W w') := fun W => by
                have := rlen_any s.1 s.2 W
                rwa [hz] at this
              have KB : Hid (∀ W, Below U.heap.size U W → Calls Try.prog 21 #[.pointer (some ⟨g + 1, 0, none⟩)] W fun e w' => e = .returned (.int .i64 0) ∧ Below W.heap.size W w') := fun W hb => by
                have := KW.out.2 W hb
                rwa [hz] at this
              rw [hz] at hsum2
              clear hz
              refine wp_region_noPanic ?_
              refine wp_region_held_drew (S := fun w' => w'.cell? ⟨g + 2, 0, none⟩ = some (.pointer (some ⟨g, 0, none⟩)) ∧ w'.cell? ⟨g + 3, 0, none⟩ = some (.pointer (some ⟨g + 1, 0, none⟩)) ∧ w'.cell? ⟨w.heap.size, 0, none⟩ = some (.int .i64 s.1) ∧ w'.cell? ⟨w.heap.size, 1, none⟩ = some (.int .i64 s.2) ∧ w'.cell? ⟨wr.heap.size, 0, none⟩ = some (.int .i64 sG)) (by kernel_rfl) ⟨d5, d6, ds0, ds1, dn⟩ (fun hHeld => ?_)
              have hBd : Below U.heap.size U U.drew := by (repeat (with_reducible first | exact Below.refl _ _ | assumption | (refine Below.setCell ?_ (by first | (simp; done) | (simp; omega) | omega) _) | (refine Below.alloc ?_ (by first | (simp; done) | (simp; omega) | omega) _) | refine Below.drew ?_ | refine Below.drewN_ ?_ _ | (refine Below.then_ ?_ (by with_reducible assumption))))
              refine wpAnyH_take (i := 0) (v := .int .i64 sG) rfl (by kernel_rfl) (by kernel_rfl) (by kernel_rfl) (fun _ _ _ h => h) (Or.inl ⟨by rfl, ?_⟩) (by assumption) ?_; (· (intro w' hSw; (try dsimp only at hSw); go_simp)); (try simp only [Act.put, List.setIfInBounds_toArray, List.set_cons_zero, List.set_cons_succ])
              refine wpAnyH_take (i := 1) (v := .pointer (some ⟨g, 0, none⟩)) rfl (by kernel_rfl) (by kernel_rfl) (by kernel_rfl) (fun _ _ _ h => h) (Or.inl ⟨by rfl, ?_⟩) (by assumption) ?_; (· (intro w' hSw; (try dsimp only at hSw); go_simp)); (try simp only [Act.put, List.setIfInBounds_toArray, List.set_cons_zero, List.set_cons_succ])
              refine wpAnyH_take (i := 2) (v := .agg #[.int .i64 s.1, .int .i64 s.2]) rfl (by kernel_rfl) (by kernel_rfl) (by kernel_rfl) (fun _ _ _ h => h) (Or.inl ⟨by rfl, ?_⟩) (by assumption) ?_; (· (intro w' hSw; (try dsimp only at hSw); go_simp)); (try simp only [Act.put, List.setIfInBounds_toArray, List.set_cons_zero, List.set_cons_succ])
              refine wpAnyH_take (i := 5) (v := .agg #[.int .i64 s.1, .int .i64 s.2]) rfl (by kernel_rfl) (by kernel_rfl) (by kernel_rfl) (fun _ _ _ h => h) (Or.inl ⟨by rfl, ?_⟩) (by assumption) ?_; (· (intro w' hSw; (try dsimp only at hSw); go_simp)); (try simp only [Act.put, List.setIfInBounds_toArray, List.set_cons_zero, List.set_cons_succ])
              refine wpAnyH_ready (rs := [3]) (by kernel_rfl) (by simp) ?_; refine AllReadyH.cons rfl (fun K hK => ?_) AllReadyH.nil; go_simp; (go_at_call 18; refine (KW.out.1 _ hBd).mono ?_; rintro e W1 ⟨rfl, hv⟩; have hBW1 : Below U.heap.size U W1 := Below.then_ hBd hv; have u5 := Below.cell' hv (p := ⟨g + 2, 0, none⟩) (v := .pointer (some ⟨g, 0, none⟩)) (by first | (go_simp; done) | fail "no"); have u6 := Below.cell' hv (p := ⟨g + 3, 0, none⟩) (v := .pointer (some ⟨g + 1, 0, none⟩)) (by first | (go_simp; done) | fail "no"); have us0 := Below.cell' hv (p := ⟨w.heap.size, 0, none⟩) (v := .int .i64 s.1) (by first | (go_simp; done) | fail "no"); have us1 := Below.cell' hv (p := ⟨w.heap.size, 1, none⟩) (v := .int .i64 s.2) (by first | (go_simp; done) | fail "no"); have un := Below.cell' hv (p := ⟨wr.heap.size, 0, none⟩) (v := .int .i64 sG) (by first | (go_simp; done) | fail "no"); have ur := Below.cell' hv (p := ⟨w.heap.size + 1, 0, none⟩) (v := .bool false) (by first | (go_simp; done) | fail "no"); have uf := Below.frozen' hv (p := ⟨w.heap.size + 1, 0, none⟩) (v := .bool false) (by first | (go_simp; done) | fail "no") (by first | (go_simp; done) | fail "no"); clear hv); refine hK.out _ _ ?_ (fun hHeld => ?_); (· ((try dsimp only); exact ⟨u5, u6, us0, us1, un⟩)); clear hK; (try simp only [Act.put, List.setIfInBounds_toArray, List.set_cons_zero, List.set_cons_succ])
              refine wpAnyH_take (i := 4) (v := .int .i64 0) rfl (by kernel_rfl) (by kernel_rfl) (by kernel_rfl) (fun _ _ _ h => h) (Or.inl ⟨by rfl, ?_⟩) (by assumption) ?_; (· (intro w' hSw; (try dsimp only at hSw); go_simp)); (try simp only [Act.put, List.setIfInBounds_toArray, List.set_cons_zero, List.set_cons_succ])
              refine wpAnyH_ready (rs := [6]) (by kernel_rfl) (by simp) ?_; refine AllReadyH.cons rfl (fun K hK => ?_) AllReadyH.nil; go_simp; (go_at_call 17; refine (KR.out _).mono ?_; rintro e W2 ⟨rfl, hv⟩; have hBW2 : Below U.heap.size U W2 := Below.then_ hBW1 hv; have u5 := Below.cell' hv (p := ⟨g + 2, 0, none⟩) (v := .pointer (some ⟨g, 0, none⟩)) (by first | (go_simp; done) | fail "no"); have u6 := Below.cell' hv (p := ⟨g + 3, 0, none⟩) (v := .pointer (some ⟨g + 1, 0, none⟩)) (by first | (go_simp; done) | fail "no"); have us0 := Below.cell' hv (p := ⟨w.heap.size, 0, none⟩) (v := .int .i64 s.1) (by first | (go_simp; done) | fail "no"); have us1 := Below.cell' hv (p := ⟨w.heap.size, 1, none⟩) (v := .int .i64 s.2) (by first | (go_simp; done) | fail "no"); have un := Below.cell' hv (p := ⟨wr.heap.size, 0, none⟩) (v := .int .i64 sG) (by first | (go_simp; done) | fail "no"); have ur := Below.cell' hv (p := ⟨w.heap.size + 1, 0, none⟩) (v := .bool false) (by first | (go_simp; done) | fail "no"); have uf := Below.frozen' hv (p := ⟨w.heap.size + 1, 0, none⟩) (v := .bool false) (by first | (go_simp; done) | fail "no") (by first | (go_simp; done) | fail "no"); clear hv); refine hK.out _ _ ?_ (fun hHeld => ?_); (· ((try dsimp only); exact ⟨u5, u6, us0, us1, un⟩)); clear hK; (try simp only [Act.put, List.setIfInBounds_toArray, List.set_cons_zero, List.set_cons_succ])
              refine wpAnyH_take (i := 7) (v := .bool true) rfl (by kernel_rfl) (by kernel_rfl) (by kernel_rfl) (fun _ _ _ h => h) (Or.inl ⟨by rfl, ?_⟩) (by assumption) ?_; (· (intro w' hSw; (try dsimp only at hSw); go_simp)); (try simp only [Act.put, List.setIfInBounds_toArray, List.set_cons_zero, List.set_cons_succ])
              refine wpAnyH_take (i := 8) (v := .bool true) rfl (by kernel_rfl) (by kernel_rfl) (by kernel_rfl) (fun _ _ _ h => h) (Or.inl ⟨by rfl, ?_⟩) (by assumption) ?_; (· (intro w' hSw; (try dsimp only at hSw); go_simp)); (try simp only [Act.put, List.setIfInBounds_toArray, List.set_cons_zero, List.set_cons_succ])
              refine wpAnyH_take (i := 9) (v := .pointer (some ⟨g + 1, 0, none⟩)) rfl (by kernel_rfl) (by kernel_rfl) (by kernel_rfl) (fun _ _ _ h => h) (Or.inl ⟨by rfl, ?_⟩) (by assumption) ?_; (· (intro w' hSw; (try dsimp only at hSw); go_simp)); (try simp only [Act.put, List.setIfInBounds_toArray, List.set_cons_zero, List.set_cons_succ])
              refine wpAnyH_take (i := 11) (v := .agg #[.int .i64 s.1, .int .i64 s.2]) rfl (by kernel_rfl) (by kernel_rfl) (by kernel_rfl) (fun _ _ _ h => h) (Or.inl ⟨by rfl, ?_⟩) (by assumption) ?_; (· (intro w' hSw; (try dsimp only at hSw); go_simp)); (try simp only [Act.put, List.setIfInBounds_toArray, List.set_cons_zero, List.set_cons_succ])
              refine wpAnyH_ready (rs := [10]) (by kernel_rfl) (by simp) ?_; refine AllReadyH.cons rfl (fun K hK => ?_) AllReadyH.nil; go_simp; (go_at_call 21; refine (KB.out _ hBW2).mono ?_; rintro e W3 ⟨rfl, hv⟩; have hBW3 : Below U.heap.size U W3 := Below.then_ hBW2 hv; have u5 := Below.cell' hv (p := ⟨g + 2, 0, none⟩) (v := .pointer (some ⟨g, 0, none⟩)) (by first | (go_simp; done) | fail "no"); have u6 := Below.cell' hv (p := ⟨g + 3, 0, none⟩) (v := .pointer (some ⟨g + 1, 0, none⟩)) (by first | (go_simp; done) | fail "no"); have us0 := Below.cell' hv (p := ⟨w.heap.size, 0, none⟩) (v := .int .i64 s.1) (by first | (go_simp; done) | fail "no"); have us1 := Below.cell' hv (p := ⟨w.heap.size, 1, none⟩) (v := .int .i64 s.2) (by first | (go_simp; done) | fail "no"); have un := Below.cell' hv (p := ⟨wr.heap.size, 0, none⟩) (v := .int .i64 sG) (by first | (go_simp; done) | fail "no"); have ur := Below.cell' hv (p := ⟨w.heap.size + 1, 0, none⟩) (v := .bool false) (by first | (go_simp; done) | fail "no"); have uf := Below.frozen' hv (p := ⟨w.heap.size + 1, 0, none⟩) (v := .bool false) (by first | (go_simp; done) | fail "no") (by first | (go_simp; done) | fail "no"); clear hv); refine hK.out _ _ ?_ (fun hHeld => ?_); (· ((try dsimp only); exact ⟨u5, u6, us0, us1, un⟩)); clear hK; (try simp only [Act.put, List.setIfInBounds_toArray, List.set_cons_zero, List.set_cons_succ])
              refine wpAnyH_ready (rs := [12]) (by kernel_rfl) (by simp) ?_; refine AllReadyH.cons rfl (fun K hK => ?_) AllReadyH.nil; go_simp; (go_at_call 17; refine (KR.out _).mono ?_; rintro e W4 ⟨rfl, hv⟩; have hBW4 : Below U.heap.size U W4 := Below.then_ hBW3 hv; have u5 := Below.cell' hv (p := ⟨g + 2, 0, none⟩) (v := .pointer (some ⟨g, 0, none⟩)) (by first | (go_simp; done) | fail "no"); have u6 := Below.cell' hv (p := ⟨g + 3, 0, none⟩) (v := .pointer (some ⟨g + 1, 0, none⟩)) (by first | (go_simp; done) | fail "no"); have us0 := Below.cell' hv (p := ⟨w.heap.size, 0, none⟩) (v := .int .i64 s.1) (by first | (go_simp; done) | fail "no"); have us1 := Below.cell' hv (p := ⟨w.heap.size, 1, none⟩) (v := .int .i64 s.2) (by first | (go_simp; done) | fail "no"); have un := Below.cell' hv (p := ⟨wr.heap.size, 0, none⟩) (v := .int .i64 sG) (by first | (go_simp; done) | fail "no"); have ur := Below.cell' hv (p := ⟨w.heap.size + 1, 0, none⟩) (v := .bool false) (by first | (go_simp; done) | fail "no"); have uf := Below.frozen' hv (p := ⟨w.heap.size + 1, 0, none⟩) (v := .bool false) (by first | (go_simp; done) | fail "no") (by first | (go_simp; done) | fail "no"); clear hv); refine hK.out _ _ ?_ (fun hHeld => ?_); (· ((try dsimp only); exact ⟨u5, u6, us0, us1, un⟩)); clear hK; (try simp only [Act.put, List.setIfInBounds_toArray, List.set_cons_zero, List.set_cons_succ])
              refine wpAnyH_take (i := 13) (v := .bool true) rfl (by kernel_rfl) (by kernel_rfl) (by kernel_rfl) (fun _ _ _ h => h) (Or.inl ⟨by rfl, ?_⟩) (by assumption) ?_; (· (intro w' hSw; (try dsimp only at hSw); go_simp)); (try simp only [Act.put, List.setIfInBounds_toArray, List.set_cons_zero, List.set_cons_succ])
              refine wpAnyH_take (i := 14) (v := .bool true) rfl (by kernel_rfl) (by kernel_rfl) (by kernel_rfl) (fun _ _ _ h => h) (Or.inl ⟨by rfl, ?_⟩) (by assumption) ?_; (· (intro w' hSw; (try dsimp only at hSw); go_simp)); (try simp only [Act.put, List.setIfInBounds_toArray, List.set_cons_zero, List.set_cons_succ])
              refine wpAnyH_take (i := 15) (v := .bool true) rfl (by kernel_rfl) (by kernel_rfl) (by kernel_rfl) (fun _ _ _ h => h) (Or.inl ⟨by rfl, ?_⟩) (by assumption) ?_; (· (intro w' hSw; (try dsimp only at hSw); go_simp)); (try simp only [Act.put, List.setIfInBounds_toArray, List.set_cons_zero, List.set_cons_succ])
              refine wpAnyH_take (i := 16) (v := .agg #[.int .i64 s.1, .int .i64 s.2]) rfl (by kernel_rfl) (by kernel_rfl) (by kernel_rfl) (fun _ _ _ h => h) (Or.inl ⟨by rfl, ?_⟩) (by assumption) ?_; (· (intro w' hSw; (try dsimp only at hSw); go_simp)); (try simp only [Act.put, List.setIfInBounds_toArray, List.set_cons_zero, List.set_cons_succ])
              refine wpAnyH_ready (rs := [17]) (by kernel_rfl) (by simp) ?_; refine AllReadyH.cons rfl (fun K hK => ?_) AllReadyH.nil; go_simp; (go_at_call 17; refine (KR.out _).mono ?_; rintro e W5 ⟨rfl, hv⟩; have hBW5 : Below U.heap.size U W5 := Below.then_ hBW4 hv; have u5 := Below.cell' hv (p := ⟨g + 2, 0, none⟩) (v := .pointer (some ⟨g, 0, none⟩)) (by first | (go_simp; done) | fail "no"); have u6 := Below.cell' hv (p := ⟨g + 3, 0, none⟩) (v := .pointer (some ⟨g + 1, 0, none⟩)) (by first | (go_simp; done) | fail "no"); have us0 := Below.cell' hv (p := ⟨w.heap.size, 0, none⟩) (v := .int .i64 s.1) (by first | (go_simp; done) | fail "no"); have us1 := Below.cell' hv (p := ⟨w.heap.size, 1, none⟩) (v := .int .i64 s.2) (by first | (go_simp; done) | fail "no"); have un := Below.cell' hv (p := ⟨wr.heap.size, 0, none⟩) (v := .int .i64 sG) (by first | (go_simp; done) | fail "no"); have ur := Below.cell' hv (p := ⟨w.heap.size + 1, 0, none⟩) (v := .bool false) (by first | (go_simp; done) | fail "no"); have uf := Below.frozen' hv (p := ⟨w.heap.size + 1, 0, none⟩) (v := .bool false) (by first | (go_simp; done) | fail "no") (by first | (go_simp; done) | fail "no"); clear hv); refine hK.out _ _ ?_ (fun hHeld => ?_); (· ((try dsimp only); exact ⟨u5, u6, us0, us1, un⟩)); clear hK; (try simp only [Act.put, List.setIfInBounds_toArray, List.set_cons_zero, List.set_cons_succ])
              refine wpAnyH_take (i := 18) (v := .bool true) rfl (by kernel_rfl) (by kernel_rfl) (by kernel_rfl) (fun _ _ _ h => h) (Or.inl ⟨by rfl, ?_⟩) (by assumption) ?_; (· (intro w' hSw; (try dsimp only at hSw); go_simp)); (try simp only [Act.put, List.setIfInBounds_toArray, List.set_cons_zero, List.set_cons_succ])
              refine wpAnyH_take (i := 19) (v := .bool true) rfl (by kernel_rfl) (by kernel_rfl) (by kernel_rfl) (fun _ _ _ h => h) (Or.inl ⟨by rfl, ?_⟩) (by assumption) ?_; (· (intro w' hSw; (try dsimp only at hSw); go_simp)); (try simp only [Act.put, List.setIfInBounds_toArray, List.set_cons_zero, List.set_cons_succ])
              refine wpAnyH_take (i := 20) (v := undef) rfl (by kernel_rfl) (by kernel_rfl) (by kernel_rfl) (fun _ _ _ h => h) (Or.inr ⟨by rfl, rfl⟩) (by assumption) ?_; (try simp only [Act.put, List.setIfInBounds_toArray, List.set_cons_zero, List.set_cons_succ])
              refine wpAnyH_take (i := 21) (v := undef) rfl (by kernel_rfl) (by kernel_rfl) (by kernel_rfl) (fun _ _ _ h => h) (Or.inr ⟨by rfl, rfl⟩) (by assumption) ?_; (try simp only [Act.put, List.setIfInBounds_toArray, List.set_cons_zero, List.set_cons_succ])
              refine wpAnyH_take (i := 22) (v := undef) rfl (by kernel_rfl) (by kernel_rfl) (by kernel_rfl) (fun _ _ _ h => h) (Or.inr ⟨by rfl, rfl⟩) (by assumption) ?_; (try simp only [Act.put, List.setIfInBounds_toArray, List.set_cons_zero, List.set_cons_succ])
              refine wpAnyH_take (i := 23) (v := .bool true) rfl (by kernel_rfl) (by kernel_rfl) (by kernel_rfl) (fun _ _ _ h => h) (Or.inl ⟨by rfl, ?_⟩) (by assumption) ?_; (· (intro w' hSw; (try dsimp only at hSw); go_simp)); (try simp only [Act.put, List.setIfInBounds_toArray, List.set_cons_zero, List.set_cons_succ])
              refine wpAnyH_take (i := 24) (v := .bool true) rfl (by kernel_rfl) (by kernel_rfl) (by kernel_rfl) (fun _ _ _ h => h) (Or.inl ⟨by rfl, ?_⟩) (by assumption) ?_; (· (intro w' hSw; (try dsimp only at hSw); go_simp)); (try simp only [Act.put, List.setIfInBounds_toArray, List.set_cons_zero, List.set_cons_succ])
              refine wpAnyH_take (i := 25) (v := .bool true) rfl (by kernel_rfl) (by kernel_rfl) (by kernel_rfl) (fun _ _ _ h => h) (Or.inl ⟨by rfl, ?_⟩) (by assumption) ?_; (· (intro w' hSw; (try dsimp only at hSw); go_simp)); (try simp only [Act.put, List.setIfInBounds_toArray, List.set_cons_zero, List.set_cons_succ])
              refine wpAnyH_ready (rs := [26]) (by kernel_rfl) (by simp) ?_; refine AllReadyH.cons rfl (fun K hK => ?_) AllReadyH.nil; go_simp; (go_at_call 13; refine (known_any _).mono ?_; rintro e W6 ⟨rfl, hv⟩; have hBW6 : Below U.heap.size U W6 := Below.then_ hBW5 hv; have u5 := Below.cell' hv (p := ⟨g + 2, 0, none⟩) (v := .pointer (some ⟨g, 0, none⟩)) (by first | (go_simp; done) | fail "no"); have u6 := Below.cell' hv (p := ⟨g + 3, 0, none⟩) (v := .pointer (some ⟨g + 1, 0, none⟩)) (by first | (go_simp; done) | fail "no"); have us0 := Below.cell' hv (p := ⟨w.heap.size, 0, none⟩) (v := .int .i64 s.1) (by first | (go_simp; done) | fail "no"); have us1 := Below.cell' hv (p := ⟨w.heap.size, 1, none⟩) (v := .int .i64 s.2) (by first | (go_simp; done) | fail "no"); have un := Below.cell' hv (p := ⟨wr.heap.size, 0, none⟩) (v := .int .i64 sG) (by first | (go_simp; done) | fail "no"); have ur := Below.cell' hv (p := ⟨w.heap.size + 1, 0, none⟩) (v := .bool false) (by first | (go_simp; done) | fail "no"); have uf := Below.frozen' hv (p := ⟨w.heap.size + 1, 0, none⟩) (v := .bool false) (by first | (go_simp; done) | fail "no") (by first | (go_simp; done) | fail "no"); clear hv); refine hK.out _ _ ?_ (fun hHeld => ?_); (· ((try dsimp only); exact ⟨u5, u6, us0, us1, un⟩)); clear hK; (try simp only [Act.put, List.setIfInBounds_toArray, List.set_cons_zero, List.set_cons_succ])
              refine wpAnyH_take (i := 27) (v := .bool true) rfl (by kernel_rfl) (by kernel_rfl) (by kernel_rfl) (fun _ _ _ h => h) (Or.inl ⟨by rfl, ?_⟩) (by assumption) ?_; (· (intro w' hSw; (try dsimp only at hSw); go_simp)); (try simp only [Act.put, List.setIfInBounds_toArray, List.set_cons_zero, List.set_cons_succ])
              refine wpAnyH_ready (rs := [28]) (by kernel_rfl) (by simp) ?_
              refine AllReadyH.cons rfl (fun K hK => ?_) AllReadyH.nil
              go_simp
              have hfr : ∀ (p : Addr) (u : Value), p.block ≠ w.heap.size + 1 → W6.cell? p = some u → (W6.setCell ⟨w.heap.size + 1, 0, none⟩ (.bool true)).cell? p = some u := fun p u hne h => by rw [World.cell?_setCell_far _ _ _ _ (fun e => hne e.symm)]; exact h
              refine hK.out _ _ ?_ (fun hHeld => ?_)
              · exact ⟨hfr _ _ (by show g + 2 ≠ _; omega) u5, hfr _ _ (by show g + 3 ≠ _; omega) u6, hfr _ _ (by show w.heap.size ≠ _; omega) us0, hfr _ _ (by show w.heap.size ≠ _; omega) us1, hfr _ _ (by show wr.heap.size ≠ _; omega) un⟩
              refine wpAnyH_done (by kernel_rfl) ?_ _
              refine NoPanic.normal ?_
              have hvb : Below U.heap.size U W6 := hBW6
              clear hK hfr hHeld
              dsimp only [Exit.then]
              apply_assumption
              gi_wp2_with fail
              obtain ⟨hIa, hBU, hDU1, hDV2, nr, hD2', hD1z⟩ := HU.out
              exact whole_end _ rfl (Below.then_ hBU hvb) (Below.at' hvb hDU1) (Below.at' hvb hDV2) (Below.at' hvb nr) (by omega) (by omega) (by omega) (by omega)
          case stop2 =>
            rintro D c pre O V hD hpre h1 hOD hDV
            exact h1.elim
        case stop =>
          rintro D c pre O V hD hpre h1 hOD hDV
          exact h1.elim
end Go.Proofs.Ytcifbcdjkofomaa
