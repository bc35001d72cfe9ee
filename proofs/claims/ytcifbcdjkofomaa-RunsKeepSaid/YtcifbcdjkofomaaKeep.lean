/-
  RunsKeep: the walk. Conditions: the list reads as it stands.
-/
import Derived.Test.YtcifbcdjkofomaaMany
namespace Go.Proofs.Ytcifbcdjkofomaa
open Go.RowKit Go.Shelf
set_option linter.unusedVariables false
set_option linter.unusedSimpArgs false


theorem keep_plain {R : List Sp} (hR : WF R) (out : Bool) (s : Sp) (off : Int) : (runAt (if out then remS R s else addS R s) off).isSome = (if hasB s.1 s.2 off then !out else (runAt R off).isSome) := by
  apply bool_eq
  cases out with
  | true =>
    simp only [if_true, Bool.not_true]
    obtain ⟨h1, h2, _⟩ := remS_wf hR s
    rw [runAt_in h1, h2]
    by_cases hb : hasB s.1 s.2 off = true
    · rw [if_pos hb]
      have := (hasB_in s off).1 hb
      simp [this]
    · rw [if_neg hb, runAt_in hR]
      exact ⟨fun h => h.1, fun h => ⟨h, fun h' => hb ((hasB_in s off).2 h')⟩⟩
  | false =>
    simp only [Bool.false_eq_true, if_false, Bool.not_false]
    obtain ⟨h1, h2, _⟩ := addS_wf hR s
    rw [runAt_in h1, h2]
    by_cases hb : hasB s.1 s.2 off = true
    · rw [if_pos hb]
      have := (hasB_in s off).1 hb
      simp [this]
    · rw [if_neg hb, runAt_in hR]
      exact ⟨fun h => h.resolve_right fun h' => hb ((hasB_in s off).2 h'), .inl⟩

set_option maxRecDepth 100000 in
set_option maxHeartbeats 8000000 in
theorem runsKeep_walk (A : Option Addr) (n c : Nat) (l : List Sp) (out : Bool) (s : Sp) (off : Int) (w : World) (hl : RdSp w A l) (hn : Hid (n = l.length)) (hnc : n ≤ c) (hc : c ≤ 9223372036854775807) :
    Calls Try.prog 4 #[.slice A n c, .agg #[.bool out, .int .i64 s.1, .int .i64 s.2], .int .i64 off] w fun e w' => e = .returned (.bool true) ∧ Below w.heap.size w w' := by
  have HL := Lib.hid hl; clear hl
  go_enter Try.func4, Try.ntmps4
  go_wp2_with fail
  go_at_call 13
  refine (known_any _).mono ?_
  rintro e w1 ⟨rfl, hb⟩
  have ho1 : w1.heap[w.heap.size]? = some (.cells #[.bool out, .int .i64 s.1, .int .i64 s.2] 40 (0, 0)) := Below.at' hb (World.alloc_heap_new w _)
  have H1 : Hid (Below w.heap.size w w1) := Below.then_ (Below.one _ _) hb
  have hz1 : w.heap.size < w1.heap.size := by have := hb.size; simp at this; omega
  have HO1 := Lib.hid ho1
  clear hb ho1
  go_wp2_with fail
  go_at_call 14
  refine (new_any _).mono ?_
  rintro e W0 ⟨rfl, hw2⟩
  have hz0 : W0.heap.size = w1.heap.size + 1 := by rw [hw2]; simp
  have hS0 : Hid (OneS W0 W0 w1.heap.size []) := by
    refine ⟨none, ?_, by simp, Chg.refl _ _⟩
    rw [hw2]; exact SetAt.new w1
  have hBw : Below w1.heap.size w1 W0 := by rw [hw2]; exact Below.one _ _
  have HO0 := Lib.hid (Below.at' hBw HO1.out)
  have HB0 : Hid (Below w.heap.size w W0) := Below.then_ H1.out hBw
  obtain ⟨b, hb⟩ : ∃ b, b = w1.heap.size := ⟨_, rfl⟩
  rw [← hb] at hS0 hz0 hz1 ⊢
  have HZ := Lib.hid hz0
  clear hw2 hBw hb HO1 H1 hz0
  go_wp2_with fail
  go_loopw [8] (fun i wr => ∃ k : Nat, i = .int .i64 k ∧ k ≤ n ∧ k ≤ 100 ∧ Hid (OneS W0 wr b (addMany l k))) (fun i _ => 100 - (intOf i).toNat)
  case atStart => exact ⟨0, rfl, Nat.zero_le _, Nat.zero_le _, hS0⟩
  case round =>
    obtain ⟨k, rfl, hkn, hk, HT⟩ := hrel
    have hBwr : Hid (Below w.heap.size w wr) := by
      obtain ⟨r, _, _, h3⟩ := HT.out
      exact HB0.out.trans (h3.belowAt HB0.out.size (fun j hj h => by have := HZ.out; omega))
    by_cases hgo : k < n ∧ k < 100
    · obtain ⟨hlt, h100⟩ := hgo
      rcases HL.out with hnil | ⟨g', o, rfl, hcc⟩
      · have := hn.out; rw [hnil] at this; simp at this; omega
      · have hkl : k < l.length := by have := hn.out; omega
        have d5 := Below.cell' hBwr.out (hcc k hkl).1
        have d6 := Below.cell' hBwr.out (hcc k hkl).2
        rw [← atS_get l k hkl] at d5 d6; rw [← Nat.add_assoc] at d6
        have hlt' : (k : Int) < n := by omega
        have h100' : (k : Int) < 100 := by omega
        have HK := Lib.hid hkl
        clear hcc hkl
        go_wp2_with fail
        go_at_call 15
        refine (add_one HT.out (addMany_wf l k).1 (by have := (addMany_wf l k).2.1; omega) (atS l k)).mono ?_
        rintro e w4 ⟨rfl, hT4⟩
        rw [← addMany_succ l k HK.out] at hT4
        have HT4 := Lib.hid hT4
        clear hT4 d5 d6
        go_wp2_with fail
        go_roundw
        case rel => exact ⟨k + 1, by go_num, by omega, by omega, HT4⟩
        case measure => simp [intOf]; omega
    · obtain ⟨R, hR⟩ : ∃ R, R = addMany l k := ⟨_, rfl⟩
      have HRw : Hid (WF R ∧ R.length ≤ 100) := by rw [hR]; exact ⟨(addMany_wf l k).1, by have := (addMany_wf l k).2.1; omega⟩
      rw [← hR] at HT
      clear hR
      obtain ⟨v, hv⟩ := HT.out.runs
      have hop : wr.heap[w.heap.size]? = some (.cells #[.bool out, .int .i64 s.1, .int .i64 s.2] 40 (0, 0)) := by
        obtain ⟨r, _, _, h3⟩ := HT.out
        exact h3.at_ HO0.out (by have := HZ.out; omega)
      have HH := Lib.hid (has_any hv HRw.out.1 (by have := HRw.out.2; omega) off)
      have HOP := Lib.hid hop
      have hqq : w.heap.size < wr.heap.size := lt_of_at hop
      obtain ⟨hB1, hHB1⟩ : ∃ x, Hid (x = (runAt R off).isSome) := ⟨_, rfl⟩
      rw [← hHB1.out] at HH
      have HO0' := HO0
      clear hop hv HO0 hS0
      by_cases hlt : k < n
      case' pos =>
        have h100' : decide ((k : Int) < 100) = false := decide_eq_false (by omega)
        have hlt' : (k : Int) < n := by omega
        go_wp2_with fail
      case' neg =>
        have hlt' : decide ((k : Int) < n) = false := decide_eq_false (by omega)
        go_wp2_with fail
      all_goals
        go_at_call 23
        refine HH.out.mono ?_
        rintro e w3 ⟨rfl, hb3⟩
        have HT3 := Lib.hid (HT.out.below hb3)
        have hop3 := Below.at' hb3 HOP.out
        have HB3 : Hid (Below w.heap.size w w3) := Below.then_ hBwr.out hb3
        have c0 : w3.cell? ⟨w.heap.size, 0, none⟩ = some (.bool out) := by rw [cell_of_at hop3]; rfl
        have c1 : w3.cell? ⟨w.heap.size, 1, none⟩ = some (.int .i64 s.1) := by rw [cell_of_at hop3]; rfl
        have c2 : w3.cell? ⟨w.heap.size, 2, none⟩ = some (.int .i64 s.2) := by rw [cell_of_at hop3]; rfl
        have HOP3 := Lib.hid hop3
        clear hop3 hb3
        cases out
        case' false =>
          go_wp2_with fail
          go_at_call 15
          refine (add_one HT3.out HRw.out.1 (by have := HRw.out.2; omega) s).mono ?_
          rintro e w4 ⟨rfl, hT4⟩
          have hkp := keep_plain HRw.out.1 false s off
          simp only [Bool.false_eq_true, if_false, Bool.not_false] at hkp
          have hwf := addS_wf HRw.out.1 s
          obtain ⟨R', hR'⟩ : ∃ R', R' = addS R s := ⟨_, rfl⟩
          rw [← hR'] at hT4 hkp hwf
          obtain ⟨no, hno⟩ : ∃ no : Bool, no = true := ⟨_, rfl⟩
          have HKP : Hid ((runAt R' off).isSome = (if hasB s.1 s.2 off then no else hB1) ∧ WF R' ∧ R'.length ≤ 101) := ⟨by rw [hno, hHB1.out]; exact hkp, hwf.1, by have := hwf.2.2; have := HRw.out.2; omega⟩
          have HNo : Hid (no = !false) := hno
          clear hkp hwf hR' hno
        case' true =>
          go_wp2_with fail
          go_at_call 24
          refine (remove_one HT3.out HRw.out.1 (by have := HRw.out.2; omega) s).mono ?_
          rintro e w4 ⟨rfl, hT4⟩
          have hkp := keep_plain HRw.out.1 true s off
          simp only [if_true, Bool.not_true] at hkp
          have hwf := remS_wf HRw.out.1 s
          obtain ⟨R', hR'⟩ : ∃ R', R' = remS R s := ⟨_, rfl⟩
          rw [← hR'] at hT4 hkp hwf
          obtain ⟨no, hno⟩ : ∃ no : Bool, no = false := ⟨_, rfl⟩
          have HKP : Hid ((runAt R' off).isSome = (if hasB s.1 s.2 off then no else hB1) ∧ WF R' ∧ R'.length ≤ 101) := ⟨by rw [hno, hHB1.out]; exact hkp, hwf.1, by have := hwf.2.2; have := HRw.out.2; omega⟩
          have HNo : Hid (no = !true) := hno
          clear hkp hwf hR' hno
        all_goals
          obtain ⟨v', hv'⟩ := hT4.runs
          have hB4 : Below w.heap.size w w4 := by
            obtain ⟨r, _, _, h3⟩ := hT4
            exact HB0.out.trans (h3.belowAt HB0.out.size (fun j hj h => by have := HZ.out; omega))
          have hop4 : w4.heap[w.heap.size]? = W0.heap[w.heap.size]? := by
            obtain ⟨r, _, _, h3⟩ := hT4
            exact h3.block _ (by have := HZ.out; omega) (by have := HZ.out; omega)
          rw [HO0'.out] at hop4
          have c0 := cell_of_at hop4 0
          have c1 := cell_of_at hop4 1
          have c2 := cell_of_at hop4 2
          simp only [List.getElem?_toArray, List.getElem?_cons_zero, List.getElem?_cons_succ] at c0 c1 c2
          have hq4 : w.heap.size < w4.heap.size := lt_of_at hop4
          have HHas := Lib.hid (fun W (hb : Below w4.heap.size w4 W) => has_any (hv'.below hb) HKP.out.2.1 (by have := HKP.out.2.2; omega) off)
          have HB4 := Lib.hid hB4
          clear hv' hB4 hop4 hT4
          by_cases hhb : hasB s.1 s.2 off = true
          · have HE : Hid (∀ W, Below w4.heap.size w4 W → Calls Try.prog 23 #[.pointer (some ⟨b, 0, none⟩), .int .i64 off] W fun e w' => e = .returned (.bool no) ∧ Below W.heap.size W w') := fun W hb => by
              have h1 := HHas.out W hb
              rw [HKP.out.1, if_pos hhb] at h1
              exact h1
            have HHB := Lib.hid hhb; clear hhb
            go_wp2_with fail
            go_at_call 25
            refine (rhas_any s.1 s.2 off _).mono ?_
            rw [HHB.out]
            rintro e w5 ⟨rfl, hb5⟩
            have e0 := Below.cell' hb5 c0
            have HB5 := Lib.hid hb5
            clear hb5 c0 c1 c2
            have hno := HNo.out
            simp only [Bool.not_false, Bool.not_true] at hno
            subst hno
            go_wp2_with fail
            have hb5 := HB5.out
            first
              | go_region_held3 (fun w' => w'.cell? ⟨w.heap.size, 0, none⟩ = some (.bool true)) (go_keep) (first | (go_at_call 23; refine (HE.out _ (by (repeat (with_reducible first | exact Below.refl _ _ | assumption | (refine Below.setCell ?_ (by first | (simp; done) | (simp; omega) | omega) _) | (refine Below.alloc ?_ (by first | (simp; done) | (simp; omega) | omega) _) | refine Below.drew ?_ | refine Below.drewN_ ?_ _ | (refine Below.then_ ?_ (by with_reducible assumption)))))).mono ?_; rintro e V1 ⟨rfl, hv1⟩; dsimp only; have u0 := Below.cell' hv1 (p := ⟨w.heap.size, 0, none⟩) (v := .bool true) (by first | (go_simp; done) | fail "no")) | (go_at_call 13; with_reducible refine (known_any _).mono ?_; rintro e V2 ⟨rfl, hv2⟩; dsimp only; have u0 := Below.cell' hv2 (p := ⟨w.heap.size, 0, none⟩) (v := .bool true) (by first | (go_simp; done) | fail "no")))
              | go_region_held3 (fun w' => w'.cell? ⟨w.heap.size, 0, none⟩ = some (.bool false)) (go_keep) (first | (go_at_call 23; refine (HE.out _ (by (repeat (with_reducible first | exact Below.refl _ _ | assumption | (refine Below.setCell ?_ (by first | (simp; done) | (simp; omega) | omega) _) | (refine Below.alloc ?_ (by first | (simp; done) | (simp; omega) | omega) _) | refine Below.drew ?_ | refine Below.drewN_ ?_ _ | (refine Below.then_ ?_ (by with_reducible assumption)))))).mono ?_; rintro e V1 ⟨rfl, hv1⟩; dsimp only; have u0 := Below.cell' hv1 (p := ⟨w.heap.size, 0, none⟩) (v := .bool false) (by first | (go_simp; done) | fail "no")) | (go_at_call 13; with_reducible refine (known_any _).mono ?_; rintro e V2 ⟨rfl, hv2⟩; dsimp only; have u0 := Below.cell' hv2 (p := ⟨w.heap.size, 0, none⟩) (v := .bool false) (by first | (go_simp; done) | fail "no")))
            all_goals
              have hvb : Below w4.heap.size w4 V2 := by (repeat (with_reducible first | exact Below.refl _ _ | assumption | (refine Below.setCell ?_ (by first | (simp; done) | (simp; omega) | omega) _) | (refine Below.alloc ?_ (by first | (simp; done) | (simp; omega) | omega) _) | refine Below.drew ?_ | refine Below.drewN_ ?_ _ | (refine Below.then_ ?_ (by with_reducible assumption))))
              go_wp2_with fail
              go_ret
              exact ⟨rfl, Below.then_ HB4.out hvb⟩
          · have hhf : hasB s.1 s.2 off = false := by simpa using hhb
            have HE : Hid (∀ W, Below w4.heap.size w4 W → Calls Try.prog 23 #[.pointer (some ⟨b, 0, none⟩), .int .i64 off] W fun e w' => e = .returned (.bool hB1) ∧ Below W.heap.size W w') := fun W hb => by
              have h1 := HHas.out W hb
              rw [HKP.out.1, if_neg hhb] at h1
              exact h1
            have HHB := Lib.hid hhf; clear hhb hhf
            go_wp2_with fail
            go_at_call 25
            refine (rhas_any s.1 s.2 off _).mono ?_
            rw [HHB.out]
            rintro e w5 ⟨rfl, hb5⟩
            have HB5 := Lib.hid hb5
            clear hb5 c0 c1 c2
            go_wp2_with fail
            go_at_call 23
            refine (HE.out _ HB5.out).mono ?_
            rintro e w6 ⟨rfl, hb6⟩
            have HB6 := Lib.hid hb6
            clear hb6
            go_wp2_with fail
            go_at_call 13
            refine (known_any _).mono ?_
            rintro e w7 ⟨rfl, hb7⟩
            have HB7 := Lib.hid hb7
            clear hb7
            go_wp2_with fail
            go_ret
            exact ⟨rfl, Below.then_ (Below.then_ (Below.then_ HB4.out HB5.out) HB6.out) HB7.out⟩
end Go.Proofs.Ytcifbcdjkofomaa
